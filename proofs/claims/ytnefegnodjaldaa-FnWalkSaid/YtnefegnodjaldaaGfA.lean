/- Back along the legs of the best arrivals: the way that is found, and what holds of it. -/
import Derived.Test.YtnefegnodjaldaaGfI
namespace Go.Sx
open Relax (g g_set X)
set_option linter.unusedVariables false

theorem idx_get {l : List ByteArray} {p : ByteArray} {k : Nat} (h : idxV l p = (k : Int)) : l[k]? = some p := by
  unfold idxV at h
  cases hf : l.findIdx? (fun x => decide (x = p)) with
  | none => rw [hf] at h; simp only at h; omega
  | some j =>
    rw [hf] at h
    obtain ⟨hj, hp, _⟩ := List.findIdx?_eq_some_iff_getElem.1 hf
    have hp : l[j] = p := by simpa using hp
    have : j = k := by simp only at h; omega
    subst this
    rw [List.getElem?_eq_getElem hj, hp]
theorem idx_inj {l : List ByteArray} {p q : ByteArray} {k : Nat} (h : idxV l p = (k : Int)) (h' : idxV l q = (k : Int)) : p = q := by
  have h1 := idx_get h
  have h2 := idx_get h'
  rw [h1] at h2
  exact Option.some.inj h2
theorem iA_get {n : Network} {i : Nat} (hi : i < n.Legs.length) : (plcs n)[iA n i]? = some n.Legs[i].From := idx_get (iA_spec hi).1
/-- leg i ends at place x at the time due, taken from the arrivals bf -/
def stpB (n : Network) (st : Nat) (bf : List Int) (x : Nat) (due : Int) (i : Nat) : Bool :=
  decide (iB n i = x) && !decide (g bf (iA n i) < 0) && (arrN n st i (g bf (iA n i)) == some due)
/-- the first such leg -/
def stpI (n : Network) (st : Nat) (bf : List Int) (x : Nat) (due : Int) : Option Nat := (List.range n.Legs.length).find? (stpB n st bf x due)
/-- the day on which leg i starts next from a time on -/
def dayN (n : Network) (i : Nat) (r : Int) : Int := match (List.range 61).find? (nxtB n i r) with | some d => (d : Int) | none => -1
def stpT (n : Network) (st : Nat) (bf : List Int) (i : Nat) : Trip := ⟨(i : Int), dayN n i (rdyN n st i (g bf (iA n i)))⟩
/-- the way to x with k legs, that arrives at the time due -/
def bckW (n : Network) (st : Nat) (at0 : Int) : Nat → Nat → Int → List Trip
  | 0, _, _ => []
  | k + 1, x, due => match stpI n st (XN n st at0 k) x due with
    | some i => bckW n st at0 k (iA n i) (g (XN n st at0 k) (iA n i)) ++ [stpT n st (XN n st at0 k) i]
    | none => []
/-- at place x the arrivals turn for the last time in round k -/
structure Tight (n : Network) (st : Nat) (at0 : Int) (k x : Nat) (due : Int) : Prop where
  pos : 0 ≤ due
  now : g (XN n st at0 k) x = due
  old : ∀ j, k = j + 1 → g (XN n st at0 j) x ≠ due
section
variable {n : Network} (hn : netB n = true) {st : Nat} (hst : st < (plcs n).length) {at0 : Int} (ha : ¬ at0 > 100000)
include hn hst ha
theorem tight_step {k x : Nat} {due : Int} (T : Tight n st at0 (k + 1) x due) : ∃ i, stpI n st (XN n st at0 k) x due = some i ∧ i < n.Legs.length ∧ iB n i = x ∧ 0 ≤ g (XN n st at0 k) (iA n i) ∧ arrN n st i (g (XN n st at0 k) (iA n i)) = some due ∧
    Tight n st at0 k (iA n i) (g (XN n st at0 k) (iA n i)) := by
  have hne := T.old k rfl
  have I := Relax.inv (A := iA n) (relax_ok hn st) _ (XN_len hn hst ha k) n.Legs.length (Nat.le_refl _)
  have hnow : g (XN n st at0 (k + 1)) x = due := T.now
  rcases I.from_ x with e | ⟨_, _, j, hj, hB, h0, he⟩
  · have e : g (XN n st at0 (k + 1)) x = g (XN n st at0 k) x := e
    exact absurd (e.symm.trans hnow) hne
  · have he : arrN n st j (g (XN n st at0 k) (iA n j)) = some (g (XN n st at0 (k + 1)) x) := he
    rw [hnow] at he
    have hjb : stpB n st (XN n st at0 k) x due j = true := by
      unfold stpB
      have h0' : ¬ g (XN n st at0 k) (iA n j) < 0 := by omega
      simp [hB, h0', he]
    cases hf : stpI n st (XN n st at0 k) x due with
    | none => exact absurd hjb (by simpa using List.find?_eq_none.1 hf j (by simpa using hj))
    | some i =>
      have hp := List.find?_some hf
      have hm := List.mem_of_find?_eq_some hf
      simp only [stpB, Bool.and_eq_true, decide_eq_true_eq, Bool.not_eq_true', decide_eq_false_iff_not] at hp
      obtain ⟨⟨p1, p2⟩, p3⟩ := hp
      have p3 : arrN n st i (g (XN n st at0 k) (iA n i)) = some due := by simpa using p3
      have hi : i < n.Legs.length := by simpa using hm
      refine ⟨i, rfl, hi, p1, by omega, p3, ⟨by omega, rfl, fun j' hj' => ?_⟩⟩
      subst hj'
      intro heq
      rw [← heq] at p3
      have h3 : 0 ≤ g (XN n st at0 j') (iA n i) := by omega
      have h1 := XN_step hn hst ha hi h3 p3
      have h2 := XN_more hn hst ha (j' + 1) 1 x (by rw [← p1]; exact h1.1)
      rw [p1] at h1
      have hnow : g (XN n st at0 (j' + 1 + 1)) x = due := hnow
      exact hne (by omega)
theorem tight_zero {x : Nat} {due : Int} (T : Tight n st at0 0 x due) : x = st ∧ due = v0N at0 := by
  have _ := hn
  have _ := ha
  have h := T.now
  have hp := T.pos
  have h0 := g_x0 (at0 := at0) hst x
  have h : g (x0N n st at0) x = due := h
  by_cases hx : x = st
  · rw [if_pos hx] at h0; exact ⟨hx, by omega⟩
  · rw [if_neg hx] at h0; omega
end
theorem each_snoc {α X R : Type} (f : Nat → α → X → X ⊕ R) (a : α) : ∀ (l : List α) (i : Nat) (x y : X), each f i l x = .inl y → each f i (l ++ [a]) x = f (i + l.length) a y
  | [], i, x, y, h => by
    simp only [each, Sum.inl.injEq] at h
    subst h
    simp only [List.nil_append, each, List.length_nil, Nat.add_zero]
    cases f i a x <;> rfl
  | b :: l, i, x, y, h => by
    simp only [each] at h
    simp only [List.cons_append, each]
    cases hf : f i b x with
    | inr r => rw [hf] at h; cases h
    | inl x' =>
      rw [hf] at h
      have := each_snoc f a l (i + 1) x' y h
      simp only at this ⊢
      rw [this]
      congr 1
      simp only [List.length_cons]
      omega
/-- a trip that may be taken from here -/
theorem wayF_ok {n : Network} {t : Trip} {x : ByteArray × Int} (ht : tripB n t = true) (hf : (legA n t.Leg).From = x.1) (hs : x.2 ≤ stT n t) : wayF n t x = .inl ((legA n t.Leg).To, enT n t + n.Change) := by
  have hb := stT_in ht
  have hc := change_in (trip_in ht).1
  unfold wayF
  have h1 : ((legA n t.Leg).From.toList == x.1.toList) = true := by rw [hf]; simp
  have h2 : decide (stT n t < x.2) = false := by simp; exact hs
  rw [ht, h1, h2]
  simp only [Bool.not_true, cond_false, cond_true]
  rw [w64_id (by omega) (by omega)]
theorem legA_get {n : Network} {i : Nat} (hi : i < n.Legs.length) : legA n (i : Int) = n.Legs[i] := by
  unfold legA
  rw [Int.toNat_natCast, List.getElem?_eq_getElem hi, Option.getD_some]
section
variable {n : Network} (hn : netB n = true) {st : Nat} (hst : st < (plcs n).length) {at0 : Int} (ha : ¬ at0 > 100000)
include hn hst ha
theorem tight_trip {i : Nat} {bf : List Int} {due : Int} (hi : i < n.Legs.length) (he : arrN n st i (g bf (iA n i)) = some due) : tripB n (stpT n st bf i) = true ∧ rdyN n st i (g bf (iA n i)) ≤ stT n (stpT n st bf i) ∧ enT n (stpT n st bf i) = due ∧ (stpT n st bf i).Leg = (i : Int) := by
  have _ := hst
  have _ := ha
  obtain ⟨_, d, hd, rfl⟩ := arr_some he
  obtain ⟨h1, h2⟩ := nxt_trip hn hd
  have e : stpT n st bf i = ⟨(i : Int), (d : Int)⟩ := by unfold stpT dayN; rw [hd]
  rw [e]
  exact ⟨h1, h2, rfl, rfl⟩
theorem bck_len : ∀ (k x : Nat) (due : Int), Tight n st at0 k x due → (bckW n st at0 k x due).length = k
  | 0, x, due, T => rfl
  | k + 1, x, due, T => by
    obtain ⟨i, h1, _, _, _, _, h6⟩ := tight_step hn hst ha T
    unfold bckW
    rw [h1]
    simp only [List.length_append, List.length_singleton]
    rw [bck_len k _ _ h6]
theorem bck_walk {p0 : ByteArray} (hp0 : idxV (plcs n) p0 = (st : Int)) {t0 : Int} (ht0 : t0 ≤ v0N at0) : ∀ (k x : Nat) (due : Int), x < (plcs n).length → Tight n st at0 k x due →
    ∃ p, (plcs n)[x]? = some p ∧ each (X := ByteArray × Int) (R := Bool) (fun _ t s => wayF n t s) 0 (bckW n st at0 k x due) (p0, t0) = .inl (p, if k = 0 then t0 else due + n.Change)
  | 0, x, due, hx, T => by
    obtain ⟨rfl, _⟩ := tight_zero hn hst ha T
    exact ⟨p0, idx_get hp0, rfl⟩
  | k + 1, x, due, hx, T => by
    obtain ⟨i, h1, h2, h3, h4, h5, h6⟩ := tight_step hn hst ha T
    obtain ⟨p, hp, hw⟩ := bck_walk hp0 ht0 k (iA n i) _ (iA_spec h2).2 h6
    have hA := iA_get h2
    rw [hA] at hp
    have hp := Option.some.inj hp
    subst hp
    obtain ⟨q1, q2, q3, q4⟩ := tight_trip hn hst ha h2 h5
    have hbg := XN_big hn hst ha k (iA n i)
    have hc := change_in hn
    have hB := idx_get (iB_spec h2).1
    rw [h3] at hB
    refine ⟨n.Legs[i].To, hB, ?_⟩
    unfold bckW
    rw [h1]
    simp only
    rw [each_snoc _ _ _ _ _ _ hw, wayF_ok q1 (by rw [q4, legA_get h2]) ?_, q4, legA_get h2, q3, if_neg (Nat.succ_ne_zero k)]
    rw [rdy_eq hn h4 hbg] at q2
    show (if k = 0 then t0 else g (XN n st at0 k) (iA n i) + n.Change) ≤ _
    by_cases hk : k = 0
    · rw [if_pos hk]
      subst hk
      obtain ⟨e1, e2⟩ := tight_zero hn hst ha h6
      rw [if_pos e1] at q2
      omega
    · rw [if_neg hk]
      have hne : ¬ iA n i = st := fun e => by
        obtain ⟨j, rfl⟩ : ∃ j, k = j + 1 := ⟨k - 1, by omega⟩
        have := h6.old j rfl
        rw [e] at this
        exact this (by rw [XN_st hn hst ha, XN_st hn hst ha])
      rw [if_neg hne] at q2
      exact q2
/-- the arrivals turn for the last time in the first round that has the last value -/
theorem tight_first {x k : Nat} (hpos : 0 ≤ DN n st at0 x) (hk : g (XN n st at0 k) x = DN n st at0 x) (hmin : ∀ j, j < k → g (XN n st at0 j) x ≠ DN n st at0 x) : Tight n st at0 k x (DN n st at0 x) := by
  have _ := hn
  have _ := hst
  have _ := ha
  exact ⟨hpos, hk, fun j hj => hmin j (by omega)⟩
end
/-- whoever is at place p, ready at r, with m legs behind him, is never ahead of the best arrivals -/
def WkInv (n : Network) (st : Nat) (at0 : Int) (m : Nat) (p : ByteArray) (r : Int) : Prop :=
  ∃ v : Nat, idxV (plcs n) p = (v : Int) ∧ 0 ≤ g (XN n st at0 m) v ∧ (if v = st then g (XN n st at0 m) v else g (XN n st at0 m) v + n.Change) ≤ r ∧ (0 < m → g (XN n st at0 m) v + n.Change ≤ r)
section
variable {n : Network} (hn : netB n = true) {st : Nat} (hst : st < (plcs n).length) {at0 : Int} (ha : ¬ at0 > 100000)
include hn hst ha
theorem wk_zero {p0 : ByteArray} (hp0 : idxV (plcs n) p0 = (st : Int)) : WkInv n st at0 0 p0 (v0N at0) := by
  have h := XN_st hn hst ha 0
  have h0 : 0 ≤ v0N at0 := by unfold v0N; split <;> omega
  exact ⟨st, hp0, by rw [h]; exact h0, by rw [if_pos rfl, h]; exact Int.le_refl _, fun hh => absurd hh (Nat.lt_irrefl 0)⟩
theorem wk_step {m : Nat} {p : ByteArray} {r : Int} {t : Trip} (hw : WkInv n st at0 m p r) (ht : tripB n t = true) (hf : (legA n t.Leg).From = p) (hs : r ≤ stT n t) : WkInv n st at0 (m + 1) (legA n t.Leg).To (enT n t + n.Change) := by
  obtain ⟨v, hv, h0, h1, _⟩ := hw
  obtain ⟨_, t1, t2, t3, t4⟩ := trip_in ht
  have hc := change_in hn
  have hi : t.Leg.toNat < n.Legs.length := by omega
  have hl : ((t.Leg.toNat : Nat) : Int) = t.Leg := by omega
  have hlA : legA n t.Leg = n.Legs[t.Leg.toNat] := by have h9 := legA_get hi; rw [hl] at h9; exact h9
  have hva : v = iA n t.Leg.toNat := by
    have h2 := (iA_spec hi).1
    rw [hlA] at hf
    rw [hf, hv] at h2
    omega
  subst hva
  have hbg := XN_big hn hst ha m (iA n t.Leg.toNat)
  have hd : ((t.Day.toNat : Nat) : Int) = t.Day := by omega
  have hrun : runB n t.Leg t.Day = true := by have := ht; simp [tripB, hn] at this; exact this
  have hcan : nxtB n t.Leg.toNat (rdyN n st t.Leg.toNat (g (XN n st at0 m) (iA n t.Leg.toNat))) t.Day.toNat = true := by
    rw [rdy_eq hn h0 hbg]
    simp only [nxtB, hl, hd, hrun, Bool.true_and, decide_eq_true_eq]
    exact Int.le_trans h1 hs
  cases hf2 : (List.range 61).find? (nxtB n t.Leg.toNat (rdyN n st t.Leg.toNat (g (XN n st at0 m) (iA n t.Leg.toNat)))) with
  | none => exact absurd hcan (by simpa using List.find?_eq_none.1 hf2 t.Day.toNat (by simp; omega))
  | some d' =>
    have hdd : d' ≤ t.Day.toNat := by
      obtain ⟨g1, g2, g3⟩ := List.find?_range_eq_some.1 hf2
      by_cases hh : t.Day.toNat < d'
      · have := g3 _ hh
        rw [hcan] at this; cases this
      · omega
    have harr : arrN n st t.Leg.toNat (g (XN n st at0 m) (iA n t.Leg.toNat)) = some (enT n ⟨(t.Leg.toNat : Int), (d' : Int)⟩) := by
      unfold arrN
      rw [if_pos hbg, hf2]
    have hcl := XN_step hn hst ha hi h0 harr
    have hem := (enT_mono n (t.Leg.toNat : Int) hdd).1
    have het : enT n ⟨(t.Leg.toNat : Int), (t.Day.toNat : Int)⟩ = enT n t := by rw [hl, hd]
    rw [het] at hem
    refine ⟨iB n t.Leg.toNat, by rw [hlA]; exact (iB_spec hi).1, hcl.1, ?_, fun _ => by omega⟩
    split <;> omega
end
end Go.Sx
