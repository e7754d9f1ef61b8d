/-
  'laws.FnWalk' returns true for every input, and leaves its arguments as they were.
-/
import Derived.Test.YtnefegnodjaldaaGfYa
import Derived.Test.YtnefegnodjaldaaGfD
namespace Go.Proofs.Ytnefegnodjaldaa.fnWalkDone
open Go.ChangeShapes Go.WideShapes Go.ChangeAt Go.RowKit Go.Sx Go.Deep
set_option linter.unusedVariables false



set_option maxRecDepth 100000 in
theorem lifted (os : Os) (started : os.Started) (H : Type) (enc : TypeId × Value → H) :
    ReturnsInHanded {} Try.checked os 6 .any (Rows.fnWalkSpec.pre6 enc Try.prog Try.f6 Rows.fnWalkRow.domain false) (Rows.fnWalkSpec.post enc Try.prog Try.f6 false true false false) := by
  refine returnsInHanded_of_change (C := Try.checked) own started (by kernel_rfl) Try.func6
    (ChangeSpec.witness6 (enc := enc) (C := Try.checked) false ⟨#[], #[.slice none 0 0], []⟩ 8 (by kernel_rfl) (by kernel_rfl) (by kernel_rfl) (by kernel_rfl)) ?_
  intro W base args ds gs before hval0 hW hcnd _
  have hval : ∀ (j : Nat) t v, Try.f6.params[j]? = some t → args[j]? = some v → Value.okWide Try.prog W .any base t v := hval0
  have hW' := hW
  obtain ⟨p, q, hA0, hV, rfl, hfz, hnd⟩ := hW
  have hA : DataW.TrodAll enc Try.prog W 0 (fun _ => true) true Try.f6.params.toList args.toList ds p := hA0
  rw [Try.params6] at hA hval
  obtain ⟨v0, vs0, d0, ds0, p0, q0, hargs, rfl, rfl, h0, r0⟩ := trodAll_cons hA
  obtain ⟨rfl, rfl, rfl⟩ := trodAll_nil r0
  obtain rfl : args = #[v0] := by cases args; simp_all
  obtain ⟨rfl, rfl⟩ := trodVars_none hV
  have lt0 : ∀ x ∈ p0, x.block < W.heap.size := by obtain ⟨m, hm⟩ := h0; exact DataW.trod_lt m _ _ _ hm
  obtain ⟨a0, wf0, len0, c0⟩ := slice_arg (sz := 1) (enc := Go.Sx.encU8) (dec_int Try.underlying5) Try.underlying39 (by kernel_rfl) (by omega) (fun a => ⟨rfl, by simp [Go.Sx.encU8, Value.oneCell']⟩) (hval 0 39 v0 rfl rfl) h0
  refine (con_walk (laws_FnWalk_ok a0 true (FnWalk_true a0 (fun x hx => u8_wf (wf0 x hx)))) (vs := [v0]) ⟨c0, trivial⟩).mono fun e W' ⟨he, bel⟩ => ?_
  subst he
  exact ⟨_, rfl, _, _, _, [], _, [], hW', trodAll_mk1 (shut_bool Try.underlying4 _), (trodAll_cons_mk (Below.trod laidOut (by kernel_rfl) (of_decide_eq_true (by kernel_rfl)) h0 bel lt0) trodAll_mk0), rfl, bel.frame _, fun h => by cases h⟩

theorem named : Try.prog.funcNamed Rows.fnWalkRow.func = some 6 := by kernel_rfl
theorem wrapped : Try.f6.isWrapper Try.prog Rows.fnWalkRow.wrapper Rows.fnWalkRow.mainSum := (by unfold Func.isWrapper; first | (rw [if_pos (by decide +kernel)]; kernel_rfl) | (rw [if_neg (by decide +kernel)]; exact ⟨rfl, rfl⟩))
theorem inst : Try.f6.isInstance Try.prog Rows.fnWalkRow.origin Rows.fnWalkRow.targs := of_decide_eq_true (by kernel_rfl)
set_option maxHeartbeats 2000000 in
theorem closed : joinedFacts Try.prog 6 Try.f6 Rows.fnWalkSpec Rows.fnWalkRow = true := by
  unfold joinedFacts
  rw [io_enter, io_final, io_make]
  repeat' (with_reducible refine (Bool.and_eq_true _ _).mpr ⟨?_, ?_⟩)
  all_goals as_aux_lemma => kernel_rfl
theorem over : Rows.fnWalkRow.holds Try.pinned (OpenSpec.ofChange Rows.fnWalkSpec) :=
  OpenClaim.holds_of_wide 6 Try.f6 rfl rfl rfl rfl rfl rfl rfl ⟨rfl, rfl, rfl, rfl, rfl⟩ rfl rfl rfl rfl rfl named Try.func6 closed inst wrapped
    (fun os started H enc _ => lifted os started H enc)

theorem proved : Rows.FnWalkSaid := over
#print axioms proved
end Go.Proofs.Ytnefegnodjaldaa.fnWalkDone
