/-
  'laws.FnExactBookWay' returns true for every input, and leaves its arguments as they were.
-/
import Derived.Test.YtpgpgangmkjhlaaGsK
import Derived.Test.YtpgpgangmkjhlaaGsD
namespace Go.Proofs.Ytpgpgangmkjhlaa.fnExactBookWayDone
open Go.ChangeShapes Go.WideShapes Go.ChangeAt Go.RowKit Go.Sx Go.Deep
set_option linter.unusedVariables false

def Leg.wf (x : Leg) : Prop := x.From.size ≤ maxLen ∧ x.To.size ≤ maxLen ∧ (Lit.int .i64 x.Start).wf = true ∧ (Lit.int .i64 x.Takes).wf = true ∧ (Lit.int .i64 x.Days).wf = true ∧ (Lit.int .i64 x.Room).wf = true
theorem Leg_one : ∀ a : Leg, (Leg.enc a).length = 6 ∧ ∀ x ∈ Leg.enc a, x.oneCell' = true := fun a => ⟨rfl, by simp [Leg.enc, Value.oneCell']⟩
theorem Leg_dec100 : Dec Try.prog 100 Leg.enc Leg.wf := by
  intro H en W base spare held fuel cs x h
  obtain ⟨hlen, hf⟩ := dec_fields (N := 6) Try.underlying100 (by kernel_rfl) h
  match cs, hlen with
  | [c0, c1, c2, c3, c4, c5], _ =>
    obtain ⟨x0, q0, w0⟩ := hf 0 0 9 1 _ rfl rfl rfl (by kernel_rfl) (dec_string Try.underlying9)
    cases q0
    obtain ⟨x1, q1, w1⟩ := hf 1 1 9 1 _ rfl rfl rfl (by kernel_rfl) (dec_string Try.underlying9)
    cases q1
    obtain ⟨x2, q2, w2⟩ := hf 2 2 3 1 _ rfl rfl rfl (by kernel_rfl) (dec_int Try.underlying3)
    cases q2
    obtain ⟨x3, q3, w3⟩ := hf 3 3 3 1 _ rfl rfl rfl (by kernel_rfl) (dec_int Try.underlying3)
    cases q3
    obtain ⟨x4, q4, w4⟩ := hf 4 4 3 1 _ rfl rfl rfl (by kernel_rfl) (dec_int Try.underlying3)
    cases q4
    obtain ⟨x5, q5, w5⟩ := hf 5 5 3 1 _ rfl rfl rfl (by kernel_rfl) (dec_int Try.underlying3)
    cases q5
    exact ⟨⟨x0, x1, x2, x3, x4, x5⟩, rfl, ⟨w0, w1, w2, w3, w4, w5⟩⟩
def Trip.wf (x : Trip) : Prop := (Lit.int .i64 x.Leg).wf = true ∧ (Lit.int .i64 x.Day).wf = true
theorem Trip_one : ∀ a : Trip, (Trip.enc a).length = 2 ∧ ∀ x ∈ Trip.enc a, x.oneCell' = true := fun a => ⟨rfl, by simp [Trip.enc, Value.oneCell']⟩
theorem Trip_dec68 : Dec Try.prog 68 Trip.enc Trip.wf := by
  intro H en W base spare held fuel cs x h
  obtain ⟨hlen, hf⟩ := dec_fields (N := 2) Try.underlying68 (by kernel_rfl) h
  match cs, hlen with
  | [c0, c1], _ =>
    obtain ⟨x0, q0, w0⟩ := hf 0 0 3 1 _ rfl rfl rfl (by kernel_rfl) (dec_int Try.underlying3)
    cases q0
    obtain ⟨x1, q1, w1⟩ := hf 1 1 3 1 _ rfl rfl rfl (by kernel_rfl) (dec_int Try.underlying3)
    cases q1
    exact ⟨⟨x0, x1⟩, rfl, ⟨w0, w1⟩⟩
def Booking.wf (x : Booking) : Prop := (Lit.int .i64 x.Thing).wf = true ∧ Trip.wf x.Trip ∧ (Lit.int .i64 x.Weight).wf = true
theorem Booking_one : ∀ a : Booking, (Booking.enc a).length = 4 ∧ ∀ x ∈ Booking.enc a, x.oneCell' = true := fun a => ⟨rfl, by simp [Booking.enc, Value.oneCell']⟩
theorem Booking_dec70 : Dec Try.prog 70 Booking.enc Booking.wf := by
  intro H en W base spare held fuel cs x h
  obtain ⟨hlen, hf⟩ := dec_fields (N := 4) Try.underlying70 (by kernel_rfl) h
  match cs, hlen with
  | [c0, c1, c2, c3], _ =>
    obtain ⟨x0, q0, w0⟩ := hf 0 0 3 1 _ rfl rfl rfl (by kernel_rfl) (dec_int Try.underlying3)
    cases q0
    obtain ⟨x1, q1, w1⟩ := hf 1 1 68 2 _ rfl rfl rfl (by kernel_rfl) Trip_dec68
    cases q1
    obtain ⟨x2, q2, w2⟩ := hf 2 3 3 1 _ rfl rfl rfl (by kernel_rfl) (dec_int Try.underlying3)
    cases q2
    exact ⟨⟨x0, x1, x2⟩, rfl, ⟨w0, w1, w2⟩⟩

set_option maxRecDepth 100000 in
theorem lifted (os : Os) (started : os.Started) (H : Type) (enc : TypeId × Value → H) :
    ReturnsInHanded {} Try.checked os 3 .any (Rows.fnExactBookWaySpec.pre6 enc Try.prog Try.f3 Rows.fnExactBookWayRow.domain false) (Rows.fnExactBookWaySpec.post enc Try.prog Try.f3 false true false false) := by
  refine returnsInHanded_of_change (C := Try.checked) own started (by kernel_rfl) Try.func3
    (ChangeSpec.witness6 (enc := enc) (C := Try.checked) false ⟨#[], #[.agg #[.slice none 0 0, .slice none 0 0, .int .i64 0], .slice none 0 0, .int .i64 0, .int .i64 0, .slice none 0 0], []⟩ 8 (by kernel_rfl) (by kernel_rfl) (by kernel_rfl) (by kernel_rfl)) ?_
  intro W base args ds gs before hval0 hW hcnd _
  have hval : ∀ (j : Nat) t v, Try.f3.params[j]? = some t → args[j]? = some v → Value.okWide Try.prog W .any base t v := hval0
  have hW' := hW
  obtain ⟨p, q, hA0, hV, rfl, hfz, hnd⟩ := hW
  have hA : DataW.TrodAll enc Try.prog W 0 (fun _ => true) true Try.f3.params.toList args.toList ds p := hA0
  rw [Try.params3] at hA hval
  obtain ⟨v0, vs0, d0, ds0, p0, q0, hargs, rfl, rfl, h0, r0⟩ := trodAll_cons hA
  obtain ⟨v1, vs1, d1, ds1, p1, q1, rfl, rfl, rfl, h1, r1⟩ := trodAll_cons r0
  obtain ⟨v2, vs2, d2, ds2, p2, q2, rfl, rfl, rfl, h2, r2⟩ := trodAll_cons r1
  obtain ⟨v3, vs3, d3, ds3, p3, q3, rfl, rfl, rfl, h3, r3⟩ := trodAll_cons r2
  obtain ⟨v4, vs4, d4, ds4, p4, q4, rfl, rfl, rfl, h4, r4⟩ := trodAll_cons r3
  obtain ⟨rfl, rfl, rfl⟩ := trodAll_nil r4
  obtain rfl : args = #[v0, v1, v2, v3, v4] := by cases args; simp_all
  obtain ⟨rfl, rfl⟩ := trodVars_none hV
  have lt0 : ∀ x ∈ p0, x.block < W.heap.size := by obtain ⟨m, hm⟩ := h0; exact DataW.trod_lt m _ _ _ hm
  have lt1 : ∀ x ∈ p1, x.block < W.heap.size := by obtain ⟨m, hm⟩ := h1; exact DataW.trod_lt m _ _ _ hm
  have lt2 : ∀ x ∈ p2, x.block < W.heap.size := by obtain ⟨m, hm⟩ := h2; exact DataW.trod_lt m _ _ _ hm
  have lt3 : ∀ x ∈ p3, x.block < W.heap.size := by obtain ⟨m, hm⟩ := h3; exact DataW.trod_lt m _ _ _ hm
  have lt4 : ∀ x ∈ p4, x.block < W.heap.size := by obtain ⟨m, hm⟩ := h4; exact DataW.trod_lt m _ _ _ hm
  obtain ⟨cs0, hcs0, hln0, hra0⟩ := agg_raw (N := 3) Try.underlying25 (by kernel_rfl) (hval 0 25 v0 rfl rfl) h0
  obtain ⟨x0_0, x0_1, x0_2, rfl⟩ : ∃ a b c, cs0 = [a, b, c] := by
    match cs0, hln0 with
    | [a, b, c], _ => exact ⟨a, b, c, rfl⟩
  obtain ⟨n0_0, y0_0, g0_0⟩ := hra0 0 0 22 1 _ rfl rfl rfl (by kernel_rfl)
  obtain ⟨l0_0, u0_0, e0_0, wf0_0, len0_0, c0_0⟩ := slice_dec (sz := 6) (enc := Leg.enc) Leg_dec100 Try.underlying22 (by kernel_rfl) (by omega) Leg_one g0_0
  simp at e0_0
  subst e0_0
  obtain ⟨n0_1, y0_1, g0_1⟩ := hra0 1 1 23 1 _ rfl rfl rfl (by kernel_rfl)
  obtain ⟨l0_1, u0_1, e0_1, wf0_1, len0_1, c0_1⟩ := slice_dec (sz := 1) (enc := Go.Sx.encI) (dec_int Try.underlying3) Try.underlying23 (by kernel_rfl) (by omega) (fun a => ⟨rfl, by simp [Go.Sx.encI, Value.oneCell']⟩) g0_1
  simp at e0_1
  subst e0_1
  obtain ⟨n0_2, y0_2, g0_2⟩ := hra0 2 2 3 1 _ rfl rfl rfl (by kernel_rfl)
  obtain ⟨q0_2, e0_2, w0_2⟩ := (dec_int Try.underlying3) _ _ _ _ _ _ _ _ g0_2
  simp at e0_2
  subst e0_2
  have nin0 : NetIn (Network.mk l0_0 l0_1 q0_2) := ⟨len0_0, len0_1, fun l hl => ⟨(wf0_0 l hl).1, (wf0_0 l hl).2.1⟩⟩
  obtain ⟨a1, wf1, len1, c1⟩ := slice_arg (sz := 4) (enc := Booking.enc) Booking_dec70 Try.underlying26 (by kernel_rfl) (by omega) Booking_one (hval 1 26 v1 rfl rfl) h1
  obtain ⟨a2, wf2, c2⟩ := int_arg Try.underlying3 (hval 2 3 v2 rfl rfl) h2
  obtain ⟨a3, wf3, c3⟩ := int_arg Try.underlying3 (hval 3 3 v3 rfl rfl) h3
  obtain ⟨a4, wf4, len4, c4⟩ := slice_arg (sz := 2) (enc := Trip.enc) Trip_dec68 Try.underlying27 (by kernel_rfl) (by omega) Trip_one (hval 4 27 v4 rfl rfl) h4
  refine (con_walk (laws_FnExactBookWay_ok (Network.mk l0_0 l0_1 q0_2) a1 a2 a3 a4 true (FnExactBookWay_true (Network.mk l0_0 l0_1 q0_2) a1 a2 a3 a4 nin0 len1 len4)) (vs := [v0, v1, v2, v3, v4]) ⟨⟨[_, _, _], hcs0, c0_0, c0_1, rfl, trivial⟩, c1, c2, c3, c4, trivial⟩).mono fun e W' ⟨he, bel⟩ => ?_
  subst he
  exact ⟨_, rfl, _, _, _, [], _, [], hW', trodAll_mk1 (shut_bool Try.underlying4 _), (trodAll_cons_mk (Below.trod laidOut (by kernel_rfl) (of_decide_eq_true (by kernel_rfl)) h0 bel lt0) (trodAll_cons_mk (Below.trod laidOut (by kernel_rfl) (of_decide_eq_true (by kernel_rfl)) h1 bel lt1) (trodAll_cons_mk (Below.trod laidOut (by kernel_rfl) (of_decide_eq_true (by kernel_rfl)) h2 bel lt2) (trodAll_cons_mk (Below.trod laidOut (by kernel_rfl) (of_decide_eq_true (by kernel_rfl)) h3 bel lt3) (trodAll_cons_mk (Below.trod laidOut (by kernel_rfl) (of_decide_eq_true (by kernel_rfl)) h4 bel lt4) trodAll_mk0))))), rfl, bel.frame _, fun h => by cases h⟩

theorem named : Try.prog.funcNamed Rows.fnExactBookWayRow.func = some 3 := by kernel_rfl
theorem wrapped : Try.f3.isWrapper Try.prog Rows.fnExactBookWayRow.wrapper Rows.fnExactBookWayRow.mainSum := (by unfold Func.isWrapper; first | (rw [if_pos (by decide +kernel)]; kernel_rfl) | (rw [if_neg (by decide +kernel)]; exact ⟨rfl, rfl⟩))
theorem inst : Try.f3.isInstance Try.prog Rows.fnExactBookWayRow.origin Rows.fnExactBookWayRow.targs := of_decide_eq_true (by kernel_rfl)
set_option maxHeartbeats 2000000 in
theorem closed : joinedFacts Try.prog 3 Try.f3 Rows.fnExactBookWaySpec Rows.fnExactBookWayRow = true := by
  unfold joinedFacts
  rw [io_enter, io_final, io_make]
  repeat' (with_reducible refine (Bool.and_eq_true _ _).mpr ⟨?_, ?_⟩)
  all_goals as_aux_lemma => kernel_rfl
theorem over : Rows.fnExactBookWayRow.holds Try.pinned (OpenSpec.ofChange Rows.fnExactBookWaySpec) :=
  OpenClaim.holds_of_wide 3 Try.f3 rfl rfl rfl rfl rfl rfl rfl ⟨rfl, rfl, rfl, rfl, rfl⟩ rfl rfl rfl rfl rfl named Try.func3 closed inst wrapped
    (fun os started H enc _ => lifted os started H enc)

theorem proved : Rows.FnExactBookWaySaid := over
#print axioms proved
end Go.Proofs.Ytpgpgangmkjhlaa.fnExactBookWayDone
