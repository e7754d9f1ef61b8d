/- What the functions on boxes yield, the program's and the reference's. -/
import Derived.Test.YtanfbicgojbnkaaDoorMfT
namespace Go.Sx
set_option linter.unusedVariables false

theorem Right.of_are {l : List Thing} (h : areB l = true) : Right l ∧ DpAll l := by
  unfold areB at h
  simp only [Bool.and_eq_true] at h
  obtain ⟨R, ht⟩ := Right.of_deep h.1
  exact ⟨R, R.dpAll ht⟩
def thB (l : List Thing) (id : Int) : Bool := areB l && decide (0 ≤ fnd l id)
theorem isThing_eq (l : List Thing) (id : Int) (hl : l.length ≤ 1048576) : impl_isThing l id = some (thB l id) := by
  unfold impl_isThing thB
  rw [impl_AreThings_eq l hl]
  cases areB l <;> simp [impl_FindThing_eq l id hl]
def aro (l : List Thing) (id : Int) : List Int := chn l 5 (fnd l id)
theorem impl_around_eq (l : List Thing) (id : Int) (hl : l.length ≤ 1048576) : impl_around l id = some (aro l id) := around_eq l id hl
theorem aro_le (l : List Thing) (id : Int) : (aro l id).length ≤ 5 := chn_le l 5 _
theorem aro_le4 {l : List Thing} (D : DpAll l) (id : Int) : (aro l id).length ≤ 4 := by
  unfold aro
  by_cases h : 0 ≤ fnd l id
  · obtain ⟨i, hi, e, _⟩ := fnd_some h
    rw [e]
    exact D i hi
  · rw [chn, if_neg h]; simp
def depV (l : List Thing) (id : Int) : Int := if thB l id then ((aro l id).length : Int) else -1
def groV (l : List Thing) (id : Int) : Int := if thB l id then grs l 5 (fnd l id).toNat else 0
theorem hasInt_eq (l : List Int) (n : Int) (hl : l.length ≤ 1048576) : impl_hasInt l n = some (l.any (· == n)) := by
  unfold impl_hasInt
  have := loopM_each' (body := impl_hasInt_L1 l n) (X := Unit) l (fun _ i => i) (fun _ t _ => bif t == n then .inr true else .inl ()) (fun x => x) () (fun i hi x => by
    simp only [impl_hasInt_L1, impl_hasInt_L1_b, gi_nat hi, Option.bind_some, Int.ofNat_lt, hi, decide_true, cond_true, w64_succ (Nat.le_of_lt (Nat.lt_of_lt_of_le hi hl))]
    cases l[i] == n <;> simp [ctl]) (fun x => by simp [impl_hasInt_L1, impl_hasInt_L1_b]) hl
  rw [this, each_any]
  cases l.any (· == n) <;> simp [fin, impl_hasInt_L1_k, impl_hasInt_L1_a]
theorem getD_fnd {l : List Thing} {i : Nat} (hi : i < l.length) : l[((i : Int)).toNat]?.getD default = l[i] := by simp [hi]
/-- what is in a chain is the number of a box -/
theorem chn_box {l : List Thing} (R : Right l) : ∀ (n : Nat) (k b : Int), k < l.length → b ∈ chn l n k → isBx l b = true ∧ b ≠ 0
  | 0, _, _, _, h => by simp [chn] at h
  | n + 1, k, b, hk, h => by
    rw [chn] at h
    split at h
    · rename_i h0
      have hkl : k.toNat < l.length := by omega
      split at h
      · cases h
      · rename_i h1
        rw [getD_get hkl] at h h1
        cases h with
        | head => exact ⟨(R.inn k.toNat hkl).resolve_left h1, h1⟩
        | tail _ h => exact chn_box R n _ b fnd_lt h
    · cases h
def arB (l : List Thing) (id box : Int) : Bool := (aro l id).any (· == box)
theorem around_loop2 {l : List Thing} (R : Right l) (box : Int) : ∀ (n : Nat) (k : Int), k < l.length → (chn l (n + 1) k).length ≤ n → loopM (spec_l5Around_L1 l box) (n + 1) k = some (bif (chn l (n + 1) k).any (· == box) then .inr true else .inl ())
  | n, k, hk, hc => by
    rw [loopM, chn]
    rw [chn] at hc
    by_cases h0 : 0 ≤ k
    · by_cases h1 : (l[k.toNat]?.getD default).In = 0
      · simp [spec_l5Around_L1, spec_l5Around_L1_b, h0, gi_get h0 hk, bneI, h1]
      · rw [if_pos h0, if_neg h1] at hc
        simp only [spec_l5Around_L1, spec_l5Around_L1_b, gi_get h0 hk, bneI, beqI, h1, ge_iff_le, h0, decide_true, cond_true, Option.bind_some, decide_false, Bool.not_false, spec_FindThing_eq l _ R.l20, if_true, if_false]
        by_cases h2 : (l[k.toNat]?.getD default).In = box
        · simp [h2]
        · match n, hc with
          | 0, hc => simp at hc
          | n + 1, hc =>
            simp only [h2, decide_false, cond_false]
            refine (around_loop2 R box n _ fnd_lt (by simpa using hc)).trans ?_
            simp [h1, h2, beqI]
    · simp [spec_l5Around_L1, spec_l5Around_L1_b, h0]
theorem l5Around_eq {l : List Thing} (R : Right l) (D : DpAll l) (id box : Int) : spec_l5Around l id box = some (arB l id box) := by
  unfold spec_l5Around arB
  rw [spec_FindThing_eq l id R.l20]
  simp only [Option.bind_some]
  rw [loopM_big (around_loop2 R box 4 _ fnd_lt (aro_le4 D id)) (by unfold big; omega)]
  unfold aro
  cases (chn l 5 (fnd l id)).any (· == box) <;> simp [spec_l5Around_L1_k, spec_l5Around_L1_a]
def lockB (l : List Thing) (id : Int) : Bool := l.any fun t => t.Sealed && arB l id t.Id
theorem l5Locked_eq {l : List Thing} (R : Right l) (D : DpAll l) (id : Int) : spec_l5Locked l id = some (lockB l id) := by
  unfold spec_l5Locked lockB
  have := loopM_each' (body := spec_l5Locked_L1 l id) (X := Unit) l (fun _ i => i) (fun _ t _ => bif t.Sealed && arB l id t.Id then .inr true else .inl ()) (fun x => x) () (fun i hi x => by
    simp only [spec_l5Locked_L1, spec_l5Locked_L1_b, gi_nat hi, Option.bind_some, Int.ofNat_lt, hi, decide_true, cond_true, w64_succ (Nat.le_of_lt (Nat.lt_of_lt_of_le hi R.l20)), l5Around_eq R D]
    cases l[i].Sealed <;> simp [ctl]
    cases arB l id l[i].Id <;> simp) (fun x => by simp [spec_l5Locked_L1, spec_l5Locked_L1_b]) R.l20
  rw [this, each_any (fun t : Thing => t.Sealed && arB l id t.Id)]
  cases l.any (fun t => t.Sealed && arB l id t.Id) <;> simp [fin, spec_l5Locked_L1_k, spec_l5Locked_L1_a]
theorem lockB_aro {l : List Thing} (R : Right l) (id : Int) : (aro l id).any (fun b => (l[(fnd l b).toNat]?.getD default).Sealed) = lockB l id := by
  rw [Bool.eq_iff_iff]
  simp only [lockB, arB, List.any_eq_true, Bool.and_eq_true, beq_iff_eq]
  constructor
  · rintro ⟨b, hb, hs⟩
    obtain ⟨i, hi, e, h1, _⟩ := isBx_spec (chn_box R 5 _ b fnd_lt hb).1
    rw [e, getD_fnd hi] at hs
    exact ⟨l[i], List.getElem_mem hi, hs, b, hb, h1.symm⟩
  · rintro ⟨t, ht, hs, b, hb, e⟩
    obtain ⟨i, hi, rfl⟩ := List.getElem_of_mem ht
    refine ⟨b, hb, ?_⟩
    rw [e, R.fnd i hi, getD_fnd hi]; exact hs
def isLockV (l : List Thing) (id : Int) : Bool := areB l && lockB l id
def insV (l : List Thing) (id : Int) : List Int := if thB l id then (l.filter fun t => t.In == id).map (·.Id) else []
theorem fil_len {α : Type} (l : List Thing) (p : Thing → Bool) (f : Thing → α) : ((l.filter p).map f).length ≤ l.length := by simpa using List.length_filter_le p l
theorem insV_le (l : List Thing) (id : Int) : (insV l id).length ≤ l.length := by unfold insV; split; exact fil_len _ _ _; simp
theorem impl_InsideOf_eq (l : List Thing) (id : Int) (hl : l.length ≤ 1048576) : impl_InsideOf l id = some (insV l id) := by
  unfold impl_InsideOf insV
  rw [isThing_eq l id hl]
  cases ha : thB l id with
  | false => simp
  | true =>
    have := loopM_each (body := impl_InsideOf_L1 l id) (R := List Int) l (fun x i => (x, i)) (fun _ t x => .inl (bif t.In == id then x ++ [t.Id] else x)) (fun x => x) (fun i x => x.length ≤ i) [] (by simp) (fun i hi x hx => by
      simp only [impl_InsideOf_L1, impl_InsideOf_L1_b, gi_nat hi, Option.bind_some, Int.ofNat_lt, hi, decide_true, cond_true, w64_succ (Nat.le_of_lt (Nat.lt_of_lt_of_le hi hl))]
      cases l[i].In == id with
      | false => exact ⟨by simp [ctl], fun x' e => by simp at e; subst e; omega⟩
      | true =>
        rw [cond_true, ap_eq (by simp; omega) (by omega)]
        exact ⟨by simp [ctl], fun x' e => by simp at e; subst e; simp; omega⟩) (fun x hx => by simp [impl_InsideOf_L1, impl_InsideOf_L1_b]) hl
    rw [each_filter (fun t : Thing => t.In == id) (·.Id)] at this
    simp only [Option.bind_some, Bool.not_true, cond_false, if_true, this]
    simp [fin, impl_InsideOf_L1_k, impl_InsideOf_L1_a]
def allV' (l : List Thing) (id : Int) : List Int := if thB l id then (l.filter fun t => arB l t.Id id).map (·.Id) else []
theorem allV'_le (l : List Thing) (id : Int) : (allV' l id).length ≤ l.length := by unfold allV'; split; exact fil_len _ _ _; simp
theorem impl_AllInside_eq (l : List Thing) (id : Int) (hl : l.length ≤ 1048576) : impl_AllInside l id = some (allV' l id) := by
  unfold impl_AllInside allV'
  rw [isThing_eq l id hl]
  cases ha : thB l id with
  | false => simp
  | true =>
    have := loopM_each (body := impl_AllInside_L1 l id) (R := List Int) l (fun x i => (x, i)) (fun _ t x => .inl (bif arB l t.Id id then x ++ [t.Id] else x)) (fun x => x) (fun i x => x.length ≤ i) [] (by simp) (fun i hi x hx => by
      simp only [impl_AllInside_L1, impl_AllInside_L1_b, gi_nat hi, Option.bind_some, Int.ofNat_lt, hi, decide_true, cond_true, w64_succ (Nat.le_of_lt (Nat.lt_of_lt_of_le hi hl)), impl_around_eq l _ hl, hasInt_eq (aro l l[i].Id) id (by have := aro_le l l[i].Id; omega)]
      rw [show (aro l l[i].Id).any (· == id) = arB l l[i].Id id from rfl]
      cases arB l l[i].Id id with
      | false => exact ⟨by simp [ctl], fun x' e => by simp at e; subst e; omega⟩
      | true =>
        rw [cond_true, ap_eq (by simp; omega) (by omega)]
        exact ⟨by simp [ctl], fun x' e => by simp at e; subst e; simp; omega⟩) (fun x hx => by simp [impl_AllInside_L1, impl_AllInside_L1_b]) hl
    rw [each_filter (fun t : Thing => arB l t.Id id) (·.Id)] at this
    simp only [Option.bind_some, Bool.not_true, cond_false, if_true, this]
    simp [fin, impl_AllInside_L1_k, impl_AllInside_L1_a]
/-- the outermost -/
def outV (l : List Thing) (id : Int) : Int := if thB l id then (aro l id).getLast?.getD id else 0
end Go.Sx
