/- What the functions on boxes yield, the program's and the reference's. -/
import Derived.Test.YtanfbicgojbnkaaDoorMeT
namespace Go.Sx
set_option linter.unusedVariables false

theorem Right.of_are {l : List Thing} (h : areB l = true) : Right l ∧ DpAll l := by
  unfold areB at h
  simp only [Bool.and_eq_true] at h
  obtain ⟨R, ht⟩ := Right.of_deep h.1
  exact ⟨R, R.dpAll ht⟩
def thB (l : List Thing) (id : Int) : Bool := areB l && decide (0 ≤ fnd l id)
theorem isThing_eq (l : List Thing) (id : Int) (hl : l.length ≤ 1048576) : impl_isThing l id = some (thB l id) := by
  unfold impl_isThing thB
  rw [impl_AreThings_eq l hl]
  cases areB l <;> simp [impl_FindThing_eq l id hl]
def aro (l : List Thing) (id : Int) : List Int := chn l 5 (fnd l id)
theorem impl_around_eq (l : List Thing) (id : Int) (hl : l.length ≤ 1048576) : impl_around l id = some (aro l id) := around_eq l id hl
theorem aro_le (l : List Thing) (id : Int) : (aro l id).length ≤ 5 := chn_le l 5 _
theorem aro_le4 {l : List Thing} (D : DpAll l) (id : Int) : (aro l id).length ≤ 4 := by
  unfold aro
  by_cases h : 0 ≤ fnd l id
  · obtain ⟨i, hi, e, _⟩ := fnd_some h
    rw [e]
    exact D i hi
  · rw [chn, if_neg h]; simp
def depV (l : List Thing) (id : Int) : Int := if thB l id then ((aro l id).length : Int) else -1
def groV (l : List Thing) (id : Int) : Int := if thB l id then grs l 5 (fnd l id).toNat else 0
theorem getD_fnd {l : List Thing} {i : Nat} (hi : i < l.length) : l[((i : Int)).toNat]?.getD default = l[i] := by simp [hi]
/-- what is in a chain is the number of a box -/
theorem chn_box {l : List Thing} (R : Right l) : ∀ (n : Nat) (k b : Int), k < l.length → b ∈ chn l n k → isBx l b = true ∧ b ≠ 0
  | 0, _, _, _, h => by simp [chn] at h
  | n + 1, k, b, hk, h => by
    rw [chn] at h
    split at h
    · rename_i h0
      have hkl : k.toNat < l.length := by omega
      split at h
      · cases h
      · rename_i h1
        rw [getD_get hkl] at h h1
        cases h with
        | head => exact ⟨(R.inn k.toNat hkl).resolve_left h1, h1⟩
        | tail _ h => exact chn_box R n _ b fnd_lt h
    · cases h
def arB (l : List Thing) (id box : Int) : Bool := (aro l id).any (· == box)
def lockB (l : List Thing) (id : Int) : Bool := l.any fun t => t.Sealed && arB l id t.Id
theorem lockB_aro {l : List Thing} (R : Right l) (id : Int) : (aro l id).any (fun b => (l[(fnd l b).toNat]?.getD default).Sealed) = lockB l id := by
  rw [Bool.eq_iff_iff]
  simp only [lockB, arB, List.any_eq_true, Bool.and_eq_true, beq_iff_eq]
  constructor
  · rintro ⟨b, hb, hs⟩
    obtain ⟨i, hi, e, h1, _⟩ := isBx_spec (chn_box R 5 _ b fnd_lt hb).1
    rw [e, getD_fnd hi] at hs
    exact ⟨l[i], List.getElem_mem hi, hs, b, hb, h1.symm⟩
  · rintro ⟨t, ht, hs, b, hb, e⟩
    obtain ⟨i, hi, rfl⟩ := List.getElem_of_mem ht
    refine ⟨b, hb, ?_⟩
    rw [e, R.fnd i hi, getD_fnd hi]; exact hs
def isLockV (l : List Thing) (id : Int) : Bool := areB l && lockB l id
def insV (l : List Thing) (id : Int) : List Int := if thB l id then (l.filter fun t => t.In == id).map (·.Id) else []
theorem fil_len {α : Type} (l : List Thing) (p : Thing → Bool) (f : Thing → α) : ((l.filter p).map f).length ≤ l.length := by simpa using List.length_filter_le p l
theorem insV_le (l : List Thing) (id : Int) : (insV l id).length ≤ l.length := by unfold insV; split; exact fil_len _ _ _; simp
theorem impl_InsideOf_eq (l : List Thing) (id : Int) (hl : l.length ≤ 1048576) : impl_InsideOf l id = some (insV l id) := by
  unfold impl_InsideOf insV
  rw [isThing_eq l id hl]
  cases ha : thB l id with
  | false => simp
  | true =>
    have := loopM_each (body := impl_InsideOf_L1 l id) (R := List Int) l (fun x i => (x, i)) (fun _ t x => .inl (bif t.In == id then x ++ [t.Id] else x)) (fun x => x) (fun i x => x.length ≤ i) [] (by simp) (fun i hi x hx => by
      simp only [impl_InsideOf_L1, impl_InsideOf_L1_b, gi_nat hi, Option.bind_some, Int.ofNat_lt, hi, decide_true, cond_true, w64_succ (Nat.le_of_lt (Nat.lt_of_lt_of_le hi hl))]
      cases l[i].In == id with
      | false => exact ⟨by simp [ctl], fun x' e => by simp at e; subst e; omega⟩
      | true =>
        rw [cond_true, ap_eq (by simp; omega) (by omega)]
        exact ⟨by simp [ctl], fun x' e => by simp at e; subst e; simp; omega⟩) (fun x hx => by simp [impl_InsideOf_L1, impl_InsideOf_L1_b]) hl
    rw [each_filter (fun t : Thing => t.In == id) (·.Id)] at this
    simp only [Option.bind_some, Bool.not_true, cond_false, if_true, this]
    simp [fin, impl_InsideOf_L1_k, impl_InsideOf_L1_a]
def allV' (l : List Thing) (id : Int) : List Int := if thB l id then (l.filter fun t => arB l t.Id id).map (·.Id) else []
theorem allV'_le (l : List Thing) (id : Int) : (allV' l id).length ≤ l.length := by unfold allV'; split; exact fil_len _ _ _; simp
/-- the outermost -/
def outV (l : List Thing) (id : Int) : Int := if thB l id then (aro l id).getLast?.getD id else 0
end Go.Sx
