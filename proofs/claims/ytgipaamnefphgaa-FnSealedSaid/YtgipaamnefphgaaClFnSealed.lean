/-
  'laws.FnSealed' returns true for every input, and leaves its arguments as they were.
-/
import Derived.Test.YtgipaamnefphgaaByJ
import Derived.Test.YtgipaamnefphgaaBxD
namespace Go.Proofs.Ytgipaamnefphgaa.fnSealedDone
open Go.ChangeShapes Go.WideShapes Go.ChangeAt Go.RowKit Go.Sx Go.Deep
set_option linter.unusedVariables false



set_option maxRecDepth 100000 in
theorem lifted (os : Os) (started : os.Started) (H : Type) (enc : TypeId × Value → H) :
    ReturnsInHanded {} Try.checked os 18 .any (Rows.fnSealedSpec.pre6 enc Try.prog Try.f18 Rows.fnSealedRow.domain false) (Rows.fnSealedSpec.post enc Try.prog Try.f18 false true false false) := by
  refine returnsInHanded_of_change (C := Try.checked) own started (by kernel_rfl) Try.func18
    (ChangeSpec.witness6 (enc := enc) (C := Try.checked) false ⟨#[], #[.slice none 0 0], []⟩ 8 (by kernel_rfl) (by kernel_rfl) (by kernel_rfl) (by kernel_rfl)) ?_
  intro W base args ds gs before hval0 hW hcnd _
  have hval : ∀ (j : Nat) t v, Try.f18.params[j]? = some t → args[j]? = some v → Value.okWide Try.prog W .any base t v := hval0
  have hW' := hW
  obtain ⟨p, q, hA0, hV, rfl, hfz, hnd⟩ := hW
  have hA : DataW.TrodAll enc Try.prog W 0 (fun _ => true) true Try.f18.params.toList args.toList ds p := hA0
  rw [Try.params18] at hA hval
  obtain ⟨v0, vs0, d0, ds0, p0, q0, hargs, rfl, rfl, h0, r0⟩ := trodAll_cons hA
  obtain ⟨rfl, rfl, rfl⟩ := trodAll_nil r0
  obtain rfl : args = #[v0] := by cases args; simp_all
  obtain ⟨rfl, rfl⟩ := trodVars_none hV
  have lt0 : ∀ x ∈ p0, x.block < W.heap.size := by obtain ⟨m, hm⟩ := h0; exact DataW.trod_lt m _ _ _ hm
  obtain ⟨a0, wf0, len0, c0⟩ := slice_arg (sz := 1) (enc := encU8) (dec_int Try.underlying5) Try.underlying42 (by kernel_rfl) (by omega) (fun a => ⟨rfl, by simp [encU8, Value.oneCell']⟩) (hval 0 42 v0 rfl rfl) h0
  refine (con_walk (laws_FnSealed_ok a0 true (FnSealed_true a0)) (vs := [v0]) ⟨c0, trivial⟩).mono fun e W' ⟨he, bel⟩ => ?_
  subst he
  exact ⟨_, rfl, _, _, _, [], _, [], hW', trodAll_mk1 (shut_bool Try.underlying4 _), (trodAll_cons_mk (Below.trod laidOut (by kernel_rfl) (of_decide_eq_true (by kernel_rfl)) h0 bel lt0) trodAll_mk0), rfl, bel.frame _, fun h => by cases h⟩

theorem named : Try.prog.funcNamed Rows.fnSealedRow.func = some 18 := by kernel_rfl
theorem wrapped : Try.f18.isWrapper Try.prog Rows.fnSealedRow.wrapper Rows.fnSealedRow.mainSum := (by unfold Func.isWrapper; first | (rw [if_pos (by decide +kernel)]; kernel_rfl) | (rw [if_neg (by decide +kernel)]; exact ⟨rfl, rfl⟩))
theorem inst : Try.f18.isInstance Try.prog Rows.fnSealedRow.origin Rows.fnSealedRow.targs := of_decide_eq_true (by kernel_rfl)
theorem closed : joinedFacts Try.prog 18 Try.f18 Rows.fnSealedSpec Rows.fnSealedRow = true := by
  unfold joinedFacts
  rw [io_enter, io_final, io_make]
  repeat' (with_reducible refine (Bool.and_eq_true _ _).mpr ⟨?_, ?_⟩)
  all_goals as_aux_lemma => kernel_rfl
theorem over : Rows.fnSealedRow.holds Try.pinned (OpenSpec.ofChange Rows.fnSealedSpec) :=
  OpenClaim.holds_of_wide 18 Try.f18 rfl rfl rfl rfl rfl rfl rfl ⟨rfl, rfl, rfl, rfl, rfl⟩ rfl rfl rfl rfl rfl named Try.func18 closed inst wrapped
    (fun os started H enc _ => lifted os started H enc)

theorem proved : Rows.FnSealedSaid := over
#print axioms proved
end Go.Proofs.Ytgipaamnefphgaa.fnSealedDone
