/- The latest starts: sweeps until nothing turns, and a fixed number of sweeps, come to the same. -/
import Derived.Test.YtjjmcifpnjmlbaaGzR
import Derived.Test.YtjjmcifpnjmlbaaSxY
namespace Go.Sx
open Relax (g g_set)
set_option linter.unusedVariables false

def lasB (n : Network) (leg due : Int) (d : Nat) : Bool := runB n leg d && decide (enT n ⟨leg, d⟩ ≤ due)
def days : List Nat := (List.range 61).reverse
theorem fold_last (p : Nat → Bool) : ∀ (l : List Nat) (i : Nat) (x : Int), each (X := Int) (R := Int) (fun _ d x => .inl (bif p d then (d : Int) else x)) i l x = .inl (match l.reverse.find? p with | some d => (d : Int) | none => x)
  | [], _, x => rfl
  | a :: l, i, x => by
    rw [each]
    show each _ (i + 1) l _ = _
    rw [fold_last p l (i + 1)]
    rw [List.reverse_cons, List.find?_append]
    cases h : l.reverse.find? p with
    | some d => rfl
    | none =>
      cases hp : p a <;> simp [hp]
theorem days_get {i : Nat} (h : i < days.length) : days[i] = 60 - i := by
  have h61 : i < 61 := by simpa [days] using h
  have key : ∀ i < 61, days[i]? = some (60 - i) := by decide
  have := key i h61
  rw [List.getElem?_eq_getElem h] at this
  injection this
theorem impl_last_eq (n : Network) (h : NetS n) (hn : netB n = true) (leg due : Int) : impl_LastTrip n leg due = some (match days.find? (lasB n leg due) with | some d => (⟨leg, d⟩, true) | none => (⟨0, 0⟩, false)) := by
  unfold impl_LastTrip
  rw [impl_IsNetwork_eq n h, hn]
  have h61 : days.length = 61 := by simp [days]
  have := loopM_each' (body := impl_LastTrip_L1 n leg due) (X := Unit) days (fun _ i => 60 - i) (fun _ d _ => bif lasB n leg due d then .inr ((⟨leg, d⟩ : Trip), true) else .inl ()) (fun x => x) () (fun i hi y => by
    have hi61 : i < 61 := by omega
    rw [days_get hi]
    have e : (60 : Int) - (i : Int) = ((60 - i : Nat) : Int) := by omega
    have hge : ((60 - i : Nat) : Int) ≥ 0 := by omega
    have hw : w64 (((60 - i : Nat) : Int) - 1) = 60 - ((i + 1 : Nat) : Int) := by rw [w64_id (by omega) (by omega)]; omega
    rw [e]
    show impl_LastTrip_L1_b n leg due ((60 - i : Nat) : Int) = _
    unfold impl_LastTrip_L1_b
    simp only [hge, decide_true, cond_true, impl_runs_eq n h, Option.bind_some, hw, lasB]
    generalize 60 - i = d
    cases hr : runB n leg d with
    | false => simp [ctl]
    | true =>
      have ht : tripB n ⟨leg, d⟩ = true := by simp [tripB, hn, hr]
      simp only [cond_true, ends_eq' ht, Option.bind_some, Bool.true_and]
      cases decide (enT n ⟨leg, d⟩ ≤ due) <;> simp [ctl]) (fun x => by
    rw [h61]
    show impl_LastTrip_L1_b n leg due _ = _
    simp [impl_LastTrip_L1_b]) (by omega)
  rw [each_find (lasB n leg due) (fun d => ((⟨leg, d⟩ : Trip), true))] at this
  have this : loopM (impl_LastTrip_L1 n leg due) big 60 = _ := this
  simp only [Option.bind_some, Bool.not_true, cond_false]
  rw [this]
  cases days.find? (lasB n leg due) <;> simp [fin, impl_LastTrip_L1_k, impl_LastTrip_L1_a]
end Go.Sx
