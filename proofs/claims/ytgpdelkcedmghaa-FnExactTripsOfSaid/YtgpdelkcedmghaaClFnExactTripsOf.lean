/-
  'laws.FnExactTripsOf' returns true for every input, and leaves its arguments as they were.
-/
import Derived.Test.YtgpdelkcedmghaaGxX
import Derived.Test.YtgpdelkcedmghaaGxD
namespace Go.Proofs.Ytgpdelkcedmghaa.fnExactTripsOfDone
open Go.ChangeShapes Go.WideShapes Go.ChangeAt Go.RowKit Go.Sx Go.Deep
set_option linter.unusedVariables false

def Trip.wf (x : Trip) : Prop := (Lit.int .i64 x.Leg).wf = true ∧ (Lit.int .i64 x.Day).wf = true
theorem Trip_one : ∀ a : Trip, (Trip.enc a).length = 2 ∧ ∀ x ∈ Trip.enc a, x.oneCell' = true := fun a => ⟨rfl, by simp [Trip.enc, Value.oneCell']⟩
theorem Trip_dec26 : Dec Try.prog 26 Trip.enc Trip.wf := by
  intro H en W base spare held fuel cs x h
  obtain ⟨hlen, hf⟩ := dec_fields (N := 2) Try.underlying26 (by kernel_rfl) h
  match cs, hlen with
  | [c0, c1], _ =>
    obtain ⟨x0, q0, w0⟩ := hf 0 0 3 1 _ rfl rfl rfl (by kernel_rfl) (dec_int Try.underlying3)
    cases q0
    obtain ⟨x1, q1, w1⟩ := hf 1 1 3 1 _ rfl rfl rfl (by kernel_rfl) (dec_int Try.underlying3)
    cases q1
    exact ⟨⟨x0, x1⟩, rfl, ⟨w0, w1⟩⟩
def Booking.wf (x : Booking) : Prop := (Lit.int .i64 x.Thing).wf = true ∧ Trip.wf x.Trip ∧ (Lit.int .i64 x.Weight).wf = true
theorem Booking_one : ∀ a : Booking, (Booking.enc a).length = 4 ∧ ∀ x ∈ Booking.enc a, x.oneCell' = true := fun a => ⟨rfl, by simp [Booking.enc, Value.oneCell']⟩
theorem Booking_dec77 : Dec Try.prog 77 Booking.enc Booking.wf := by
  intro H en W base spare held fuel cs x h
  obtain ⟨hlen, hf⟩ := dec_fields (N := 4) Try.underlying77 (by kernel_rfl) h
  match cs, hlen with
  | [c0, c1, c2, c3], _ =>
    obtain ⟨x0, q0, w0⟩ := hf 0 0 3 1 _ rfl rfl rfl (by kernel_rfl) (dec_int Try.underlying3)
    cases q0
    obtain ⟨x1, q1, w1⟩ := hf 1 1 26 2 _ rfl rfl rfl (by kernel_rfl) Trip_dec26
    cases q1
    obtain ⟨x2, q2, w2⟩ := hf 2 3 3 1 _ rfl rfl rfl (by kernel_rfl) (dec_int Try.underlying3)
    cases q2
    exact ⟨⟨x0, x1, x2⟩, rfl, ⟨w0, w1, w2⟩⟩

set_option maxRecDepth 100000 in
theorem lifted (os : Os) (started : os.Started) (H : Type) (enc : TypeId × Value → H) :
    ReturnsInHanded {} Try.checked os 6 .any (Rows.fnExactTripsOfSpec.pre6 enc Try.prog Try.f6 Rows.fnExactTripsOfRow.domain false) (Rows.fnExactTripsOfSpec.post enc Try.prog Try.f6 false true false false) := by
  refine returnsInHanded_of_change (C := Try.checked) own started (by kernel_rfl) Try.func6
    (ChangeSpec.witness6 (enc := enc) (C := Try.checked) false ⟨#[], #[.slice none 0 0, .int .i64 0], []⟩ 8 (by kernel_rfl) (by kernel_rfl) (by kernel_rfl) (by kernel_rfl)) ?_
  intro W base args ds gs before hval0 hW hcnd _
  have hval : ∀ (j : Nat) t v, Try.f6.params[j]? = some t → args[j]? = some v → Value.okWide Try.prog W .any base t v := hval0
  have hW' := hW
  obtain ⟨p, q, hA0, hV, rfl, hfz, hnd⟩ := hW
  have hA : DataW.TrodAll enc Try.prog W 0 (fun _ => true) true Try.f6.params.toList args.toList ds p := hA0
  rw [Try.params6] at hA hval
  obtain ⟨v0, vs0, d0, ds0, p0, q0, hargs, rfl, rfl, h0, r0⟩ := trodAll_cons hA
  obtain ⟨v1, vs1, d1, ds1, p1, q1, rfl, rfl, rfl, h1, r1⟩ := trodAll_cons r0
  obtain ⟨rfl, rfl, rfl⟩ := trodAll_nil r1
  obtain rfl : args = #[v0, v1] := by cases args; simp_all
  obtain ⟨rfl, rfl⟩ := trodVars_none hV
  have lt0 : ∀ x ∈ p0, x.block < W.heap.size := by obtain ⟨m, hm⟩ := h0; exact DataW.trod_lt m _ _ _ hm
  have lt1 : ∀ x ∈ p1, x.block < W.heap.size := by obtain ⟨m, hm⟩ := h1; exact DataW.trod_lt m _ _ _ hm
  obtain ⟨a0, wf0, len0, c0⟩ := slice_arg (sz := 4) (enc := Booking.enc) Booking_dec77 Try.underlying24 (by kernel_rfl) (by omega) Booking_one (hval 0 24 v0 rfl rfl) h0
  obtain ⟨a1, wf1, c1⟩ := int_arg Try.underlying3 (hval 1 3 v1 rfl rfl) h1
  refine (con_walk (laws_FnExactTripsOf_ok a0 a1 true (FnExactTripsOf_true a0 a1 len0)) (vs := [v0, v1]) ⟨c0, c1, trivial⟩).mono fun e W' ⟨he, bel⟩ => ?_
  subst he
  exact ⟨_, rfl, _, _, _, [], _, [], hW', trodAll_mk1 (shut_bool Try.underlying4 _), (trodAll_cons_mk (Below.trod laidOut (by kernel_rfl) (of_decide_eq_true (by kernel_rfl)) h0 bel lt0) (trodAll_cons_mk (Below.trod laidOut (by kernel_rfl) (of_decide_eq_true (by kernel_rfl)) h1 bel lt1) trodAll_mk0)), rfl, bel.frame _, fun h => by cases h⟩

theorem named : Try.prog.funcNamed Rows.fnExactTripsOfRow.func = some 6 := by kernel_rfl
theorem wrapped : Try.f6.isWrapper Try.prog Rows.fnExactTripsOfRow.wrapper Rows.fnExactTripsOfRow.mainSum := (by unfold Func.isWrapper; first | (rw [if_pos (by decide +kernel)]; kernel_rfl) | (rw [if_neg (by decide +kernel)]; exact ⟨rfl, rfl⟩))
theorem inst : Try.f6.isInstance Try.prog Rows.fnExactTripsOfRow.origin Rows.fnExactTripsOfRow.targs := of_decide_eq_true (by kernel_rfl)
theorem closed : joinedFacts Try.prog 6 Try.f6 Rows.fnExactTripsOfSpec Rows.fnExactTripsOfRow = true := by
  unfold joinedFacts
  rw [io_enter, io_final, io_make]
  repeat' (with_reducible refine (Bool.and_eq_true _ _).mpr ⟨?_, ?_⟩)
  all_goals as_aux_lemma => kernel_rfl
theorem over : Rows.fnExactTripsOfRow.holds Try.pinned (OpenSpec.ofChange Rows.fnExactTripsOfSpec) :=
  OpenClaim.holds_of_wide 6 Try.f6 rfl rfl rfl rfl rfl rfl rfl ⟨rfl, rfl, rfl, rfl, rfl⟩ rfl rfl rfl rfl rfl named Try.func6 closed inst wrapped
    (fun os started H enc _ => lifted os started H enc)

theorem proved : Rows.FnExactTripsOfSaid := over
#print axioms proved
end Go.Proofs.Ytgpdelkcedmghaa.fnExactTripsOfDone
