/-
  'laws.FnBooked' returns true for every input, and leaves its arguments as they were.
-/
import Derived.Test.YtpgpgangmkjhlaaGdP5
import Derived.Test.YtpgpgangmkjhlaaGdD
namespace Go.Proofs.Ytpgpgangmkjhlaa.fnBookedDone
open Go.ChangeShapes Go.WideShapes Go.ChangeAt Go.RowKit Go.Sx Go.Deep
set_option linter.unusedVariables false



set_option maxRecDepth 100000 in
theorem lifted (os : Os) (started : os.Started) (H : Type) (enc : TypeId × Value → H) :
    ReturnsInHanded {} Try.checked os 5 .any (Rows.fnBookedSpec.pre6 enc Try.prog Try.f5 Rows.fnBookedRow.domain false) (Rows.fnBookedSpec.post enc Try.prog Try.f5 false true false false) := by
  refine returnsInHanded_of_change (C := Try.checked) own started (by kernel_rfl) Try.func5
    (ChangeSpec.witness6 (enc := enc) (C := Try.checked) false ⟨#[], #[.slice none 0 0], []⟩ 8 (by kernel_rfl) (by kernel_rfl) (by kernel_rfl) (by kernel_rfl)) ?_
  intro W base args ds gs before hval0 hW hcnd _
  have hval : ∀ (j : Nat) t v, Try.f5.params[j]? = some t → args[j]? = some v → Value.okWide Try.prog W .any base t v := hval0
  have hW' := hW
  obtain ⟨p, q, hA0, hV, rfl, hfz, hnd⟩ := hW
  have hA : DataW.TrodAll enc Try.prog W 0 (fun _ => true) true Try.f5.params.toList args.toList ds p := hA0
  rw [Try.params5] at hA hval
  obtain ⟨v0, vs0, d0, ds0, p0, q0, hargs, rfl, rfl, h0, r0⟩ := trodAll_cons hA
  obtain ⟨rfl, rfl, rfl⟩ := trodAll_nil r0
  obtain rfl : args = #[v0] := by cases args; simp_all
  obtain ⟨rfl, rfl⟩ := trodVars_none hV
  have lt0 : ∀ x ∈ p0, x.block < W.heap.size := by obtain ⟨m, hm⟩ := h0; exact DataW.trod_lt m _ _ _ hm
  obtain ⟨a0, wf0, len0, c0⟩ := slice_arg (sz := 1) (enc := Go.Sx.encU8) (dec_int Try.underlying5) Try.underlying48 (by kernel_rfl) (by omega) (fun a => ⟨rfl, by simp [Go.Sx.encU8, Value.oneCell']⟩) (hval 0 48 v0 rfl rfl) h0
  refine (con_walk (laws_FnBooked_ok a0 true (FnBooked_true a0)) trivial (vs := [v0]) ⟨c0, trivial⟩).mono fun e W' ⟨he, bel⟩ => ?_
  subst he
  exact ⟨_, rfl, _, _, _, [], _, [], hW', trodAll_mk1 (shut_bool Try.underlying4 _), (trodAll_cons_mk (Below.trod laidOut (by kernel_rfl) (of_decide_eq_true (by kernel_rfl)) h0 bel lt0) trodAll_mk0), rfl, bel.frame _, fun h => by cases h⟩

theorem named : Try.prog.funcNamed Rows.fnBookedRow.func = some 5 := by kernel_rfl
theorem wrapped : Try.f5.isWrapper Try.prog Rows.fnBookedRow.wrapper Rows.fnBookedRow.mainSum := (by unfold Func.isWrapper; first | (rw [if_pos (by decide +kernel)]; kernel_rfl) | (rw [if_neg (by decide +kernel)]; exact ⟨rfl, rfl⟩))
theorem inst : Try.f5.isInstance Try.prog Rows.fnBookedRow.origin Rows.fnBookedRow.targs := of_decide_eq_true (by kernel_rfl)
set_option maxHeartbeats 2000000 in
theorem closed : joinedFacts Try.prog 5 Try.f5 Rows.fnBookedSpec Rows.fnBookedRow = true := by
  unfold joinedFacts
  rw [io_enter, io_final, io_make]
  repeat' (with_reducible refine (Bool.and_eq_true _ _).mpr ⟨?_, ?_⟩)
  all_goals as_aux_lemma => kernel_rfl
theorem over : Rows.fnBookedRow.holds Try.pinned (OpenSpec.ofChange Rows.fnBookedSpec) :=
  OpenClaim.holds_of_wide 5 Try.f5 rfl rfl rfl rfl rfl rfl rfl ⟨rfl, rfl, rfl, rfl, rfl⟩ rfl rfl rfl rfl rfl named Try.func5 closed inst wrapped
    (fun os started H enc _ => lifted os started H enc)

theorem proved : Rows.FnBookedSaid := over
#print axioms proved
end Go.Proofs.Ytpgpgangmkjhlaa.fnBookedDone
