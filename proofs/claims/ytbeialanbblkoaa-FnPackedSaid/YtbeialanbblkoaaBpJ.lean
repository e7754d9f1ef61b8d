/- The laws of boxes over draws: they answer true. -/
import Derived.Test.YtbeialanbblkoaaBpC
import Derived.Test.YtbeialanbblkoaaBpI
namespace Go.Sx
set_option linter.unusedVariables false

theorem has_eq (l : List Int) (n : Int) (hl : l.length ≤ 1048576) : laws_has l n = some (l.any (· == n)) := hasInt_eq l n hl
theorem things_refl (a : List Thing) (hl : a.length ≤ 1048576) : laws_things a a = some true := by
  unfold laws_things
  have := loop_val (body := laws_things_L1 a a) a.length (fun i => (i : Int)) () hl (fun i hi => by simp [laws_things_L1, laws_things_L1_b, gi_nat hi, hi, w64_succ (Nat.le_of_lt (Nat.lt_of_lt_of_le hi hl))]) (by simp [laws_things_L1, laws_things_L1_b])
  rw [show ((0 : Nat) : Int) = 0 from rfl] at this
  rw [this]
  simp [laws_things_L1_k, laws_things_L1_a]
theorem big_eq (a : List Int) : laws_big a = some (decide ((a.length : Int) > 4096)) := rfl

theorem aro_none {l : List Thing} {id : Int} (h : ¬ 0 ≤ fnd l id) : aro l id = [] := by unfold aro; rw [chn, if_neg h]
theorem lockB_found {l : List Thing} {id : Int} (h : lockB l id = true) : 0 ≤ fnd l id := by
  apply Classical.byContradiction
  intro hn
  simp [lockB, arB, aro_none hn] at h
/-- a thing that is put elsewhere does not turn what is around the things that are not in it -/
theorem chn_set {l : List Thing} {k : Nat} (hk : k < l.length) (box : Int) : ∀ (n : Nat) (q : Int), q ≠ (k : Int) → q < l.length → l[k].Id ∉ chn l n q → chn (l.set k { l[k] with In := box }) n q = chn l n q
  | 0, _, _, _, _ => rfl
  | n + 1, q, hq, hql, hn => by
    rw [chn] at hn
    rw [chn, chn]
    by_cases h0 : 0 ≤ q
    · rw [if_pos h0] at hn ⊢
      rw [if_pos h0]
      have he : (l.set k { l[k] with In := box })[q.toNat]?.getD default = l[q.toNat]?.getD default := by
        rw [List.getElem?_set_ne (by omega)]
      rw [he]
      by_cases h1 : (l[q.toNat]?.getD default).In = 0
      · rw [if_pos h1, if_pos h1]
      · rw [if_neg h1] at hn ⊢
        rw [if_neg h1, fnd_set hk { l[k] with In := box } rfl]
        have hm : l[k].Id ≠ (l[q.toNat]?.getD default).In ∧ l[k].Id ∉ chn l n (fnd l (l[q.toNat]?.getD default).In) := by simpa using hn
        have hf : fnd l (l[q.toNat]?.getD default).In ≠ (k : Int) := fun e => by
          obtain ⟨i, hi, e2, h2⟩ := fnd_some (show 0 ≤ fnd l (l[q.toNat]?.getD default).In by omega)
          have : i = k := by omega
          subst this
          exact hm.1 h2
        rw [chn_set hk box n _ hf fnd_lt hm.2]
    · rw [if_neg h0, if_neg h0]
end Go.Sx
