/- Places, starts, ways: plain parts. -/
import Derived.Test.YtnefegnodjaldaaGlY
import Derived.Test.YtnefegnodjaldaaSxZ
namespace Go.Sx
open Relax
set_option linter.unusedVariables false

theorem gi_g {l : List Int} {k : Nat} (h : k < l.length) : gi l (k : Int) = some (g l k) := by
  rw [gi_nat h]; simp [g, h]
theorem idx_in {l : List ByteArray} {p : ByteArray} (h : p ∈ l) : ∃ k : Nat, idxV l p = (k : Int) ∧ k < l.length := by
  unfold idxV
  cases hf : l.findIdx? (fun x => decide (x = p)) with
  | none => have := List.findIdx?_eq_none_iff.1 hf p h; simp at this
  | some i => obtain ⟨hi, _⟩ := List.findIdx?_eq_some_iff_getElem.1 hf; exact ⟨i, rfl, hi⟩
theorem plcs_mem (n : Network) (x : ByteArray) : x ∈ plcs n ↔ x ∈ nmL n.Legs := by
  have := (ins_fold (nmL n.Legs) [] (by simp [Inc])).2 x
  unfold plcs
  rw [this]; simp
def iA (n : Network) (i : Nat) : Nat := (idxV (plcs n) (n.Legs[i]?.getD default).From).toNat
def iB (n : Network) (i : Nat) : Nat := (idxV (plcs n) (n.Legs[i]?.getD default).To).toNat
theorem leg_mem {n : Network} {i : Nat} (hi : i < n.Legs.length) : n.Legs[i].From ∈ plcs n ∧ n.Legs[i].To ∈ plcs n := by
  rw [plcs_mem, plcs_mem]
  obtain ⟨h1, h2⟩ := nmL_get n.Legs i hi
  exact ⟨List.mem_of_getElem? h1, List.mem_of_getElem? h2⟩
theorem iA_spec {n : Network} {i : Nat} (hi : i < n.Legs.length) : idxV (plcs n) n.Legs[i].From = (iA n i : Int) ∧ iA n i < (plcs n).length := by
  obtain ⟨k, h1, h2⟩ := idx_in (leg_mem hi).1
  have : iA n i = k := by unfold iA; simp [hi, h1]
  rw [this]; exact ⟨h1, h2⟩
theorem iB_spec {n : Network} {i : Nat} (hi : i < n.Legs.length) : idxV (plcs n) n.Legs[i].To = (iB n i : Int) ∧ iB n i < (plcs n).length := by
  obtain ⟨k, h1, h2⟩ := idx_in (leg_mem hi).2
  have : iB n i = k := by unfold iB; simp [hi, h1]
  rw [this]; exact ⟨h1, h2⟩
def rdyN (n : Network) (st i : Nat) (x : Int) : Int := if iA n i = st then x else w64 (x + n.Change)
theorem idx_lt {l : List ByteArray} {p : ByteArray} (h : ¬ idxV l p < 0) : ∃ k : Nat, idxV l p = (k : Int) ∧ k < l.length := by
  unfold idxV at *
  cases hf : l.findIdx? (fun x => decide (x = p)) with
  | none => rw [hf] at h; simp at h
  | some i => obtain ⟨hi, _⟩ := List.findIdx?_eq_some_iff_getElem.1 hf; exact ⟨i, rfl, hi⟩
def v0N (at0 : Int) : Int := if 0 > at0 then 0 else at0
def x0N (n : Network) (st : Nat) (at0 : Int) : List Int := (List.replicate (plcs n).length (-1)).set st (v0N at0)
theorem g_x0 {n : Network} {st : Nat} {at0 : Int} (hst : st < (plcs n).length) (v : Nat) : g (x0N n st at0) v = if v = st then v0N at0 else -1 := by
  unfold x0N
  rw [g_set (by simpa using hst)]
  by_cases hv : v = st
  · rw [if_pos hv, if_pos hv]
  · rw [if_neg hv, if_neg hv]
    unfold g
    by_cases h : v < (plcs n).length
    · simp [h]
    · simp [h]
theorem x0_start {n : Network} {st : Nat} {at0 : Int} (hst : st < (plcs n).length) (ha : ¬ at0 > 100000) : Relax.Start (plcs n).length (x0N n st at0) st ∧ g (x0N n st at0) st ≤ 100000 := by
  have hg := g_x0 (at0 := at0) hst
  have hv : 0 ≤ v0N at0 ∧ v0N at0 ≤ 100000 := by unfold v0N; split <;> omega
  refine ⟨⟨by simp [x0N], hst, by rw [hg, if_pos rfl]; exact hv.1, fun v hne => by rw [hg, if_neg hne]; omega⟩, by rw [hg, if_pos rfl]; exact hv.2⟩
theorem first_eq0 (n : Network) (h : NetS n) (st : Nat) (hst : st < (plcs n).length) (at0 : Int) : spec_l4First (plcs n) (st : Int) at0 = some (x0N n st at0) := by
  have hp := plcs_len n h
  have hlen : (x0N n st at0).length = (plcs n).length := by simp [x0N]
  unfold spec_l4First
  have := loop_go (body := spec_l4First_L1 (plcs n) (st : Int) at0) (plcs n).length (fun i => ((x0N n st at0).take i, (i : Int))) (x0N n st at0) (show (plcs n).length < 1000000000000 by omega) (fun i hi => by
    have hi' : i < (x0N n st at0).length := by omega
    have hget : (x0N n st at0)[i] = if i = st then v0N at0 else -1 := by
      have := g_x0 (at0 := at0) hst i
      simpa [g, hi'] using this
    have hM : spec_Max at0 0 = some (v0N at0) := by
      unfold spec_Max v0N
      by_cases hh : 0 > at0 <;> simp [hh]
    have hws : w64 ((i : Int) + 1) = ((i + 1 : Nat) : Int) := by rw [w64_id (by omega) (by omega)]; omega
    have hap : ∀ z : Int, ap 8 ((x0N n st at0).take i) ([z] : List Int) = some ((x0N n st at0).take i ++ [z]) := fun z => ap_eq (by simp; omega) (by omega)
    show spec_l4First_L1_b (plcs n) (st : Int) at0 _ _ = _
    unfold spec_l4First_L1_b
    rw [List.take_succ_eq_append_getElem hi', hget]
    simp only [Int.ofNat_lt, hi, decide_true, cond_true, hws, hM, hap, Option.bind_some]
    by_cases hs : i = st
    · subst hs; simp
    · have : ((i : Int) == (st : Int)) = false := by simp; omega
      simp [this, hs]) (by
    show spec_l4First_L1_b (plcs n) (st : Int) at0 _ _ = _
    rw [show (x0N n st at0).take (plcs n).length = x0N n st at0 by rw [← hlen, List.take_length]]
    simp [spec_l4First_L1_b])
  have : loopM (spec_l4First_L1 (plcs n) (st : Int) at0) big (([] : List Int), 0) = some (.inl (x0N n st at0)) := this
  rw [this]
  rfl
theorem fill_eq (n : Network) (h : NetS n) : loopM (impl_arrivals_at1fn94_L1 (plcs n)) big (([] : List Int), 0) = some (.inl (List.replicate (plcs n).length (-1))) := by
  have hp := plcs_len n h
  exact loop_go (body := impl_arrivals_at1fn94_L1 (plcs n)) (plcs n).length (fun i => (List.replicate i (-1), (i : Int))) (List.replicate (plcs n).length (-1)) (show (plcs n).length < 1000000000000 by omega) (fun i hi => by
    have hws : w64 ((i : Int) + 1) = ((i + 1 : Nat) : Int) := by rw [w64_id (by omega) (by omega)]; omega
    show impl_arrivals_at1fn94_L1_b (plcs n) _ _ = _
    unfold impl_arrivals_at1fn94_L1_b
    simp only [Int.ofNat_lt, hi, decide_true, cond_true]
    rw [ap_eq (by simp; omega) (by omega), hws, List.replicate_succ']
    rfl) (by
    show impl_arrivals_at1fn94_L1_b (plcs n) _ _ = _
    simp [impl_arrivals_at1fn94_L1_b])
theorem plcs_le {n : Network} (hn : netB n = true) : (plcs n).length ≤ 40 := by
  have h20 : n.Legs.length ≤ 20 := by
    simp only [netB, Bool.and_eq_true, decide_eq_true_eq] at hn
    omega
  have := ins_len (nmL n.Legs) []
  rw [nmL_len] at this
  simp only [List.length_nil] at this
  unfold plcs
  omega
theorem enT_mono (n : Network) (leg : Int) {d d' : Nat} (h : d' ≤ d) : enT n ⟨leg, d'⟩ ≤ enT n ⟨leg, d⟩ ∧ stT n ⟨leg, d'⟩ ≤ stT n ⟨leg, d⟩ := by
  unfold enT stT
  simp only
  omega
theorem rdy_eq {n : Network} (hn : netB n = true) {st i : Nat} {x : Int} (h0 : 0 ≤ x) (h1 : x ≤ 1000000) : rdyN n st i x = if iA n i = st then x else x + n.Change := by
  have := change_in hn
  unfold rdyN
  rw [w64_id (by omega) (by omega)]
theorem places_legs {n : Network} {x : Nat} (hx : x < (plcs n).length) : 0 < n.Legs.length := by
  cases hL : n.Legs with
  | nil =>
    have : plcs n = [] := by simp [plcs, hL, nmL]
    rw [this] at hx
    exact absurd hx (Nat.not_lt_zero _)
  | cons a l => simp
theorem v0N_pos {a : Int} (h : 0 ≤ a) : v0N a = a := by unfold v0N; split <;> omega
/-- both places known, the start in range -/
def Fine (n : Network) (a : ByteArray) (at0 : Int) : Prop := netB n = true ∧ ¬ idxV (plcs n) a < 0 ∧ ¬ at0 > 100000
theorem Fine.lt {n : Network} {a : ByteArray} {at0 : Int} (h : Fine n a at0) : (idxV (plcs n) a).toNat < (plcs n).length := by
  obtain ⟨k, e, hk⟩ := idx_lt h.2.1
  rw [e]; exact hk
theorem plcs_inc (n : Network) : Inc (plcs n) := (ins_fold (nmL n.Legs) [] List.Pairwise.nil).1
/-- each place is found where it stands -/
theorem idx_at (n : Network) {i : Nat} (hi : i < (plcs n).length) : idxV (plcs n) (plcs n)[i] = (i : Int) := by
  obtain ⟨k, e, hk⟩ := idx_in (List.getElem_mem hi)
  unfold idxV at *
  cases hf : (plcs n).findIdx? (fun x => decide (x = (plcs n)[i])) with
  | none => rw [hf] at e; simp only at e; omega
  | some j =>
    obtain ⟨hj, hp, _⟩ := List.findIdx?_eq_some_iff_getElem.1 hf
    have hp : (plcs n)[j] = (plcs n)[i] := by simpa using hp
    have hinc := plcs_inc n
    rcases Nat.lt_trichotomy j i with h | h | h
    · have := List.pairwise_iff_getElem.1 hinc j i hj hi h
      rw [hp] at this
      exact absurd this (ltB_irrefl _)
    · subst h; rfl
    · have := List.pairwise_iff_getElem.1 hinc i j hi hj h
      rw [hp] at this
      exact absurd this (ltB_irrefl _)
theorem idx_mem {l : List ByteArray} {p : ByteArray} : idxV l p ≥ 0 ↔ p ∈ l := by
  constructor
  · intro h
    unfold idxV at h
    cases hf : l.findIdx? (fun x => decide (x = p)) with
    | none => rw [hf] at h; simp at h
    | some j =>
      obtain ⟨hj, hp, _⟩ := List.findIdx?_eq_some_iff_getElem.1 hf
      have hp : l[j] = p := by simpa using hp
      rw [← hp]
      exact List.getElem_mem _
  · intro h
    obtain ⟨k, e, _⟩ := idx_in h
    omega
theorem idx_get {l : List ByteArray} {p : ByteArray} {k : Nat} (h : idxV l p = (k : Int)) : l[k]? = some p := by
  unfold idxV at h
  cases hf : l.findIdx? (fun x => decide (x = p)) with
  | none => rw [hf] at h; simp only at h; omega
  | some j =>
    rw [hf] at h
    obtain ⟨hj, hp, _⟩ := List.findIdx?_eq_some_iff_getElem.1 hf
    have hp : l[j] = p := by simpa using hp
    have : j = k := by simp only at h; omega
    subst this
    rw [List.getElem?_eq_getElem hj, hp]
theorem idx_inj {l : List ByteArray} {p q : ByteArray} {k : Nat} (h : idxV l p = (k : Int)) (h' : idxV l q = (k : Int)) : p = q := by
  have h1 := idx_get h
  have h2 := idx_get h'
  rw [h1] at h2
  exact Option.some.inj h2
theorem iA_get {n : Network} {i : Nat} (hi : i < n.Legs.length) : (plcs n)[iA n i]? = some n.Legs[i].From := idx_get (iA_spec hi).1
theorem each_snoc {α X R : Type} (f : Nat → α → X → X ⊕ R) (a : α) : ∀ (l : List α) (i : Nat) (x y : X), each f i l x = .inl y → each f i (l ++ [a]) x = f (i + l.length) a y
  | [], i, x, y, h => by
    simp only [each, Sum.inl.injEq] at h
    subst h
    simp only [List.nil_append, each, List.length_nil, Nat.add_zero]
    cases f i a x <;> rfl
  | b :: l, i, x, y, h => by
    simp only [each] at h
    simp only [List.cons_append, each]
    cases hf : f i b x with
    | inr r => rw [hf] at h; cases h
    | inl x' =>
      rw [hf] at h
      have := each_snoc f a l (i + 1) x' y h
      simp only at this ⊢
      rw [this]
      congr 1
      simp only [List.length_cons]
      omega
/-- a trip that may be taken from here -/
theorem wayF_ok {n : Network} {t : Trip} {x : ByteArray × Int} (ht : tripB n t = true) (hf : (legA n t.Leg).From = x.1) (hs : x.2 ≤ stT n t) : wayF n t x = .inl ((legA n t.Leg).To, enT n t + n.Change) := by
  have hb := stT_in ht
  have hc := change_in (trip_in ht).1
  unfold wayF
  have h1 : ((legA n t.Leg).From.toList == x.1.toList) = true := by rw [hf]; simp
  have h2 : decide (stT n t < x.2) = false := by simp; exact hs
  rw [ht, h1, h2]
  simp only [Bool.not_true, cond_false, cond_true]
  rw [w64_id (by omega) (by omega)]
theorem legA_get {n : Network} {i : Nat} (hi : i < n.Legs.length) : legA n (i : Int) = n.Legs[i] := by
  unfold legA
  rw [Int.toNat_natCast, List.getElem?_eq_getElem hi, Option.getD_some]
theorem find_first {L : Nat} {p : Nat → Bool} {i : Nat} (hi : i < L) (hp : p i = true) (hm : ∀ j, j < i → p j = false) : (List.range L).find? p = some i :=
  List.find?_range_eq_some.2 ⟨hp, by simpa using hi, fun j hj => by rw [hm j hj]; rfl⟩
theorem find_none {L : Nat} {p : Nat → Bool} (hm : ∀ j, j < L → p j = false) : (List.range L).find? p = none :=
  List.find?_eq_none.2 fun j hj => by rw [hm j (by simpa using hj)]; simp
theorem to_eq {n : Network} {i x : Nat} (hi : i < n.Legs.length) (hx : x < (plcs n).length) : (n.Legs[i].To.toList == (plcs n)[x].toList) = decide (iB n i = x) := by
  have h1 := idx_get (iB_spec hi).1
  rw [bytes_eq_decide]
  by_cases h : iB n i = x
  · rw [h, List.getElem?_eq_getElem hx] at h1
    have := Option.some.inj h1
    rw [decide_eq_true h, decide_eq_true this.symm]
  · rw [decide_eq_false h, decide_eq_false]
    intro he
    have h2 := (iB_spec hi).1
    rw [he, idx_at n hx] at h2
    exact h (by omega)
theorem loopM_nx {σ τ ρ : Type} {body : σ → Option (Ctl σ τ ρ)} {s s' : σ} {f : Nat} (h : body s = some (.next s')) : loopM body (f + 1) s = loopM body f s' := by simp [loopM, h]
theorem loopM_bk {σ τ ρ : Type} {body : σ → Option (Ctl σ τ ρ)} {s : σ} {t : τ} {f : Nat} (h : body s = some (.brk t)) : loopM body (f + 1) s = some (.inl t) := by simp [loopM, h]
/-- a list, turned round -/
theorem turn_loop (l : List Trip) (hl : l.length ≤ 1000) : ∀ (i : Nat) (out : List Trip) (f : Nat), i ≤ l.length → out.length + i ≤ 1000 → i < f → loopM (impl_wayTo_at1fn94_L4 l) f (out, (i : Int) - 1) = some (.inl (out ++ (l.take i).reverse))
  | 0, out, f + 1, hi, ho, hf => loopM_bk (by show impl_wayTo_at1fn94_L4_b l out (((0 : Nat) : Int) - 1) = _; simp [impl_wayTo_at1fn94_L4_b])
  | i + 1, out, f + 1, hi, ho, hf => by
    have hil : i < l.length := by omega
    have hap : ap 16 out ([l[i]] : List Trip) = some (out ++ [l[i]]) := ap_eq (by simp <;> omega) (by simp <;> omega)
    have he : ((i + 1 : Nat) : Int) - 1 = (i : Int) := by omega
    rw [he, loopM_nx (s' := (out ++ [l[i]], (i : Int) - 1)) (by
      show impl_wayTo_at1fn94_L4_b l out (i : Int) = _
      unfold impl_wayTo_at1fn94_L4_b
      have h0 : decide ((i : Int) ≥ 0) = true := by simp
      have hw : w64 ((i : Int) - 1) = (i : Int) - 1 := w64_id (by omega) (by omega)
      simp only [h0, cond_true, gi_nat hil, Option.bind_some, hap, hw])]
    rw [turn_loop l hl i _ f (by omega) (by simp <;> omega) (by omega)]
    rw [List.take_succ_eq_append_getElem hil, List.reverse_append, List.append_assoc]
    rfl
/-- the way w leads from s to s' -/
abbrev Goes (n : Network) (w : List Trip) (s s' : ByteArray × Int) : Prop := each (X := ByteArray × Int) (R := Bool) (fun _ t s => wayF n t s) 0 w s = .inl s'
theorem goes_chain {n : Network} : ∀ (w : List Trip) (j : Nat) (s s' : ByteArray × Int), each (X := ByteArray × Int) (R := Bool) (fun _ t s => wayF n t s) j w s = .inl s' →
    (∀ t ∈ w, tripB n t = true) ∧ (∀ i (hi : i + 1 < w.length), enT n w[i] + n.Change ≤ stT n w[i + 1]) ∧ (∀ h : 0 < w.length, s.2 ≤ stT n w[0]) ∧ (∀ q, w.getLast? = some q → s'.2 = enT n q + n.Change) ∧ (w = [] → s' = s)
  | [], j, s, s', h => by
    simp only [each, Sum.inl.injEq] at h
    exact ⟨fun t ht => (by cases ht), fun i hi => absurd hi (by simp), fun h => absurd h (by simp), fun q hq => (by cases hq), fun _ => h.symm⟩
  | t :: w, j, s, s', h => by
    simp only [each] at h
    cases hf : wayF n t s with
    | inr r => rw [hf] at h; cases h
    | inl s1 =>
      rw [hf] at h
      have ih := goes_chain w (j + 1) s1 s' h
      unfold wayF at hf
      cases ht : tripB n t with
      | false => rw [ht] at hf; cases hf
      | true =>
        have hb := stT_in ht
        have hc := change_in (trip_in ht).1
        rw [ht] at hf
        simp only [cond_true] at hf
        cases h1 : ((legA n t.Leg).From.toList == s.1.toList) with
        | false => rw [h1] at hf; cases hf
        | true =>
          rw [h1] at hf
          simp only [Bool.not_true, cond_false] at hf
          by_cases h2 : stT n t < s.2
          · rw [decide_eq_true h2] at hf; cases hf
          · rw [decide_eq_false h2] at hf
            simp only [cond_false, Sum.inl.injEq] at hf
            rw [w64_id (by omega) (by omega)] at hf
            have hs1 : s1.2 = enT n t + n.Change := by rw [← hf]
            obtain ⟨i1, i2, i3, i4, i5⟩ := ih
            refine ⟨fun q hq => ?_, fun i hi => ?_, fun _ => (by show s.2 ≤ stT n t; omega), fun q hq => ?_, fun hh => (by cases hh)⟩
            · rcases List.mem_cons.1 hq with rfl | hq
              · exact ht
              · exact i1 q hq
            · cases i with
              | zero =>
                have h3 : 0 < w.length := by simp at hi; omega
                have := i3 h3
                show enT n t + n.Change ≤ stT n w[0]
                omega
              | succ i => exact i2 i (by simp at hi; omega)
            · cases w with
              | nil =>
                have h5 := i5 rfl
                simp only [List.getLast?_singleton, Option.some.injEq] at hq
                subst hq
                rw [h5]
                exact hs1
              | cons b r =>
                rw [List.getLast?_cons_cons] at hq
                exact i4 q hq
/-- when a way ends, of one that starts at t -/
def endW (n : Network) (t : Int) (w : List Trip) : Int := match w.getLast? with | some q => enT n q | none => t
section
variable (n : Network) (h : NetS n) (hn : netB n = true)
include h hn
theorem wayEnds_eq (w : List Trip) (hw : w.length ≤ 1048576) (t : Int) (hall : ∀ q ∈ w, tripB n q = true) : impl_WayEnds n w t = some (endW n t w) := by
  unfold impl_WayEnds
  rw [impl_IsNetwork_eq n h, hn]
  have := loop_go (body := impl_WayEnds_L1 n w) w.length (fun i => (endW n t (w.take i), (i : Int))) (endW n t w) (show w.length < 1000000000000 by omega) (fun i hi => by
    have ht := hall _ (List.getElem_mem hi)
    have he : endW n t (w.take (i + 1)) = enT n w[i] := by
      unfold endW
      rw [List.take_succ_eq_append_getElem hi, List.getLast?_append]
      simp
    show impl_WayEnds_L1_b n w _ (i : Int) = _
    unfold impl_WayEnds_L1_b
    simp only [Int.ofNat_lt, hi, decide_true, cond_true, gi_nat hi, Option.bind_some, impl_IsTrip_eq n h, ht, Bool.not_true, cond_false, ends_eq' ht, w64_succ (Nat.le_of_lt (Nat.lt_of_lt_of_le hi hw)), he]) (by
    show impl_WayEnds_L1_b n w _ (w.length : Int) = _
    unfold impl_WayEnds_L1_b
    simp only [Int.lt_irrefl, decide_false, cond_false, List.take_length])
  have this' : loopM (impl_WayEnds_L1 n w) big (t, 0) = some (.inl (endW n t w)) := this
  simp only [Option.bind_some, Bool.not_true, cond_false, this', impl_WayEnds_L1_k, impl_WayEnds_L1_a]
end
end Go.Sx
