/- A network with one leg more is never slower. -/
import Derived.Test.YtjjmcifpnjmlbaaGmI
namespace Go.Sx
open Relax (g g_set X)
set_option linter.unusedVariables false

theorem idx_get {l : List ByteArray} {p : ByteArray} {k : Nat} (h : idxV l p = (k : Int)) : l[k]? = some p := by
  unfold idxV at h
  cases hf : l.findIdx? (fun x => decide (x = p)) with
  | none => rw [hf] at h; simp only at h; omega
  | some j =>
    rw [hf] at h
    obtain ⟨hj, hp, _⟩ := List.findIdx?_eq_some_iff_getElem.1 hf
    have hp : l[j] = p := by simpa using hp
    have : j = k := by simp only at h; omega
    subst this
    rw [List.getElem?_eq_getElem hj, hp]
theorem idx_inj {l : List ByteArray} {p q : ByteArray} {k : Nat} (h : idxV l p = (k : Int)) (h' : idxV l q = (k : Int)) : p = q := by
  have h1 := idx_get h
  have h2 := idx_get h'
  rw [h1] at h2
  exact Option.some.inj h2
/-- n' is n with a leg more -/
structure More (n n' : Network) (x : Leg) : Prop where
  legs : n'.Legs = n.Legs ++ [x]
  off : n'.Off = n.Off
  chg : n'.Change = n.Change
section
variable {n n' : Network} {x : Leg} (M : More n n' x)
include M
theorem More.len : n'.Legs.length = n.Legs.length + 1 := by rw [M.legs]; simp
theorem More.get {i : Nat} (hi : i < n.Legs.length) : n'.Legs[i]? = n.Legs[i]? := by rw [M.legs, List.getElem?_append_left hi]
theorem More.legA {i : Nat} (hi : i < n.Legs.length) : legA n' (i : Int) = legA n (i : Int) := by
  unfold Go.Sx.legA
  simp only [Int.toNat_natCast]
  rw [M.get hi]
theorem More.run {i : Nat} (hi : i < n.Legs.length) (d : Int) : runB n' (i : Int) d = runB n (i : Int) d := by
  have hl := M.len
  unfold runB
  rw [M.legA hi, M.off, hl]
  have e1 : decide (((i : Nat) : Int) < ((n.Legs.length + 1 : Nat) : Int)) = true := by simp; omega
  have e2 : decide (((i : Nat) : Int) < ((n.Legs.length : Nat) : Int)) = true := by simp; omega
  rw [e1, e2]
theorem More.st {i : Nat} (hi : i < n.Legs.length) (d : Int) : stT n' ⟨(i : Int), d⟩ = stT n ⟨(i : Int), d⟩ := by
  unfold stT
  simp only [M.legA hi]
theorem More.en {i : Nat} (hi : i < n.Legs.length) (d : Int) : enT n' ⟨(i : Int), d⟩ = enT n ⟨(i : Int), d⟩ := by
  unfold enT
  rw [M.st hi]
  simp only [M.legA hi]
theorem More.nxt {i : Nat} (hi : i < n.Legs.length) (r : Int) : nxtB n' (i : Int) r = nxtB n (i : Int) r := by
  funext d
  unfold nxtB
  rw [M.run hi, M.st hi]
theorem More.mem {p : ByteArray} (h : p ∈ plcs n) : p ∈ plcs n' := by
  rw [plcs_mem] at h ⊢
  rw [M.legs]
  unfold nmL at h ⊢
  rw [List.flatMap_append]
  exact List.mem_append_left _ h
theorem More.net (hn : netB n = true) (hx : legB x = true) (hl : n.Legs.length < 20) : netB n' = true := by
  have hln := M.len
  unfold netB at hn ⊢
  rw [M.off, M.chg, hln, M.legs]
  simp only [Bool.and_eq_true, decide_eq_true_eq, List.all_append, List.all_cons, List.all_nil, Bool.and_true] at hn ⊢
  exact ⟨⟨⟨⟨⟨hn.1.1.1.1, hx⟩, hn.1.1.1.2⟩, by omega⟩, hn.1.2⟩, hn.2⟩
theorem More.arr {i st st' : Nat} {u u' e : Int} (hi : i < n.Legs.length) (h1 : u' ≤ 1000000) (hr : rdyN n' st' i u' ≤ rdyN n st i u) (h : arrN n st i u = some e) : ∃ e', arrN n' st' i u' = some e' ∧ e' ≤ e := by
  obtain ⟨_, d, hd, rfl⟩ := arr_some h
  obtain ⟨d', h3, h4⟩ := nxt_mono hr hd
  refine ⟨enT n ⟨i, d'⟩, ?_, (enT_mono n i h4).1⟩
  unfold arrN
  rw [if_pos h1, M.nxt hi, h3]
  simp only [M.en hi]
end
theorem iA_get {n : Network} {i : Nat} (hi : i < n.Legs.length) : (plcs n)[iA n i]? = some n.Legs[i].From := idx_get (iA_spec hi).1
theorem DN_more {n n' : Network} {x : Leg} (M : More n n' x) (hn : netB n = true) (hn' : netB n' = true) {p0 : ByteArray} {st st' : Nat} (e : idxV (plcs n) p0 = (st : Int)) (e' : idxV (plcs n') p0 = (st' : Int)) (hst : st < (plcs n).length) (hst' : st' < (plcs n').length) {t : Int} (ht : ¬ t > 100000) (k v : Nat)
    (h : 0 ≤ g (XN n st t k) v) : ∀ p, idxV (plcs n) p = (v : Int) → 0 ≤ DN n' st' t (idxV (plcs n') p).toNat ∧ DN n' st' t (idxV (plcs n') p).toNat ≤ g (XN n st t k) v := by
  refine XN_ind hn hst ht (fun _ v u => ∀ p, idxV (plcs n) p = (v : Int) → 0 ≤ DN n' st' t (idxV (plcs n') p).toNat ∧ DN n' st' t (idxV (plcs n') p).toNat ≤ u) ?_ (fun _ _ _ h => h) ?_ k v h
  · intro p hp
    have : p = p0 := idx_inj hp e
    subst this
    rw [e', Int.toNat_natCast]
    have := XN_st hn' hst' ht (plcs n').length
    have h0 : 0 ≤ v0N t := by unfold v0N; split <;> omega
    show 0 ≤ g (XN n' st' t (plcs n').length) st' ∧ g (XN n' st' t (plcs n').length) st' ≤ v0N t
    omega
  · intro k i u ee hi hu hP he p hp
    have hl := M.len
    have hi' : i < n'.Legs.length := by omega
    have hget : n'.Legs[i] = n.Legs[i] := by
      have := M.get hi
      rw [List.getElem?_eq_getElem hi, List.getElem?_eq_getElem hi'] at this
      exact Option.some.inj this
    have hpT : p = n.Legs[i].To := idx_inj hp (iB_spec hi).1
    have hA' := (iA_spec hi').1
    have hB' := (iB_spec hi').1
    rw [hget] at hA' hB'
    rw [hpT, hB', Int.toNat_natCast]
    have h1 := hP _ (iA_spec hi).1
    rw [hA', Int.toNat_natCast] at h1
    have hbg := XN_big hn' hst' ht (plcs n').length (iA n' i)
    have hub := (arr_some he).1
    have hc := change_in hn
    have hiff : iA n' i = st' ↔ iA n i = st := by
      constructor
      · intro hh
        rw [hh] at hA'
        have : n.Legs[i].From = p0 := idx_inj hA' e'
        have h2 := (iA_spec hi).1
        rw [this, e] at h2
        omega
      · intro hh
        have h2 := (iA_spec hi).1
        rw [hh] at h2
        have : n.Legs[i].From = p0 := idx_inj h2 e
        rw [this, e'] at hA'
        omega
    obtain ⟨e2, h3, h4⟩ := M.arr hi (st := st) (st' := st') (u := u) (u' := DN n' st' t (iA n' i)) hbg (by
      rw [rdy_eq hn' h1.1 hbg, rdy_eq hn hu hub, M.chg]
      by_cases hh : iA n i = st
      · rw [if_pos hh, if_pos (hiff.2 hh)]; exact h1.2
      · rw [if_neg hh, if_neg (fun h => hh (hiff.1 h))]; omega) he
    have := DN_closed hn' hst' ht hi' h1.1 h3
    omega
theorem ear_more {n n' : Network} {x : Leg} (M : More n n' x) (hn' : netB n' = true) {p q : ByteArray} {t : Int} (h : 0 ≤ earV n p q t) : 0 ≤ earV n' p q t ∧ earV n' p q t ≤ earV n p q t := by
  have hc : Fine n p t ∧ ¬ idxV (plcs n) q < 0 := Classical.byContradiction fun hc => by rw [ear_bad hc] at h; omega
  have hp' : ¬ idxV (plcs n') p < 0 := by
    have := idx_mem.2 (M.mem (idx_mem.1 (show idxV (plcs n) p ≥ 0 by have := hc.1.2.1; omega)))
    omega
  have hq' : ¬ idxV (plcs n') q < 0 := by
    have := idx_mem.2 (M.mem (idx_mem.1 (show idxV (plcs n) q ≥ 0 by have := hc.2; omega)))
    omega
  have hf' : Fine n' p t := ⟨hn', hp', hc.1.2.2⟩
  rw [ear_fine hc.1 hc.2] at h ⊢
  rw [ear_fine hf' hq']
  obtain ⟨a, ea, ha⟩ := idx_lt hc.1.2.1
  obtain ⟨a', ea', ha'⟩ := idx_lt hp'
  obtain ⟨b, eb, hb⟩ := idx_lt hc.2
  rw [ea, eb] at h ⊢
  rw [ea']
  simp only [Int.toNat_natCast] at h ⊢
  exact DN_more M hc.1.1 hn' ea ea' ha ha' hc.1.2.2 _ b h q eb
theorem drawN_ok (a : List Int) (ha : a.length ≤ 4096) : ∃ v, spec_DrawIsNetwork a = some v ∧ NetD 21 v := by
  obtain ⟨c, e, h⟩ := l1New_ok a ha
  obtain ⟨n, c1, e1, h1, d⟩ := l3Any_ok h
  exact ⟨n, by simp only [spec_DrawIsNetwork, e, e1, Option.bind_some], d⟩
theorem FnMoreLegs_true (a : List Int) : laws_FnMoreLegs a = some true := by
  unfold laws_FnMoreLegs laws_big
  simp only [Option.bind_some]
  by_cases hb : (a.length : Int) > 4096
  · simp [hb]
  simp only [hb, decide_false, cond_false]
  obtain ⟨⟨n, p, q, t⟩, e, hd, hp, hq, ht⟩ := drawE_ok a (by omega)
  obtain ⟨m, e2, hm⟩ := drawN_ok a (by omega)
  simp only at hd hp hq ht
  have hS := hd.S (by omega)
  rw [e, e2]
  simp only [Option.bind_some, spec_IsNetwork_eq n hS]
  cases hn : netB n with
  | false => simp
  | true =>
  by_cases h1 : (n.Legs.length : Int) ≥ 20
  · simp [h1]
  have hm0 := hm.some
  have h2 : ((m.Legs.length : Int) == 0) = false := beq_eq_false_iff_ne.2 (by omega)
  have hg : gi m.Legs 0 = some m.Legs[0] := gi_nat (i := 0) hm0
  simp only [h1, h2, decide_false, Bool.not_true, cond_false, hg, Option.bind_some, spec_IsLeg_eq]
  cases hx : legB m.Legs[0] with
  | false => simp
  | true =>
  have ha1 : ap 64 ([] : List Leg) n.Legs = some ([] ++ n.Legs) := ap_eq (by simp; omega) (by omega)
  have ha2 : ap 64 n.Legs ([m.Legs[0]] : List Leg) = some (n.Legs ++ [m.Legs[0]]) := ap_eq (by simp; omega) (by omega)
  rw [ha1]
  simp only [List.nil_append, Bool.not_true, cond_false, Option.bind_some, ha2, laws_FnMoreLegs_j1]
  have M : More n (Network.mk (n.Legs ++ [m.Legs[0]]) n.Off n.Change) m.Legs[0] := ⟨rfl, rfl, rfl⟩
  have hn' := M.net hn hx (by omega)
  have hS' : NetS (Network.mk (n.Legs ++ [m.Legs[0]]) n.Off n.Change) := by
    refine ⟨by simp; omega, hS.off, fun l hl => ?_⟩
    rcases List.mem_append.1 hl with h | h
    · exact hS.str l h
    · simp only [List.mem_singleton] at h
      have := hm.str _ (List.getElem_mem hm0)
      unfold LegD at this
      rw [h]; omega
  have hne : ∀ z : Int, (z != z) = false := fun z => by simp
  simp only [(ear_spec n hS p q t).1, (ear_spec n hS p q t).2, (ear_spec _ hS' p q t).2, Option.bind_some, hne, cond_false]
  by_cases h3 : earV n p q t < 0
  · simp [h3]
  · have := ear_more M hn' (p := p) (q := q) (t := t) (by omega)
    simp [h3, this.1, this.2]
end Go.Sx
