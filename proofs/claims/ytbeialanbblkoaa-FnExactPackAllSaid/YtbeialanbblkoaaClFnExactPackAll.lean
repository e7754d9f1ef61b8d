/-
  'laws.FnExactPackAll' returns true for every input, and leaves its arguments as they were.
-/
import Derived.Test.YtbeialanbblkoaaBpX
import Derived.Test.YtbeialanbblkoaaBpD
namespace Go.Proofs.Ytbeialanbblkoaa.fnExactPackAllDone
open Go.ChangeShapes Go.WideShapes Go.ChangeAt Go.RowKit Go.Sx Go.Deep
set_option linter.unusedVariables false

def Thing.wf (x : Thing) : Prop := (Lit.int .i64 x.Id).wf = true ∧ (Lit.int .i64 x.Own).wf = true ∧ (Lit.int .i64 x.Room).wf = true ∧ (Lit.int .i64 x.In).wf = true ∧ True ∧ True
theorem Thing_one : ∀ a : Thing, (Thing.enc a).length = 6 ∧ ∀ x ∈ Thing.enc a, x.oneCell' = true := fun a => ⟨rfl, by simp [Thing.enc, Value.oneCell']⟩
theorem Thing_dec59 : Dec Try.prog 59 Thing.enc Thing.wf := by
  intro H en W base spare held fuel cs x h
  obtain ⟨hlen, hf⟩ := dec_fields (N := 6) Try.underlying59 (by kernel_rfl) h
  match cs, hlen with
  | [c0, c1, c2, c3, c4, c5], _ =>
    obtain ⟨x0, q0, w0⟩ := hf 0 0 3 1 _ rfl rfl rfl (by kernel_rfl) (dec_int Try.underlying3)
    cases q0
    obtain ⟨x1, q1, w1⟩ := hf 1 1 3 1 _ rfl rfl rfl (by kernel_rfl) (dec_int Try.underlying3)
    cases q1
    obtain ⟨x2, q2, w2⟩ := hf 2 2 3 1 _ rfl rfl rfl (by kernel_rfl) (dec_int Try.underlying3)
    cases q2
    obtain ⟨x3, q3, w3⟩ := hf 3 3 3 1 _ rfl rfl rfl (by kernel_rfl) (dec_int Try.underlying3)
    cases q3
    obtain ⟨x4, q4, w4⟩ := hf 4 4 4 1 _ rfl rfl rfl (by kernel_rfl) (dec_bool Try.underlying4)
    cases q4
    obtain ⟨x5, q5, w5⟩ := hf 5 5 4 1 _ rfl rfl rfl (by kernel_rfl) (dec_bool Try.underlying4)
    cases q5
    exact ⟨⟨x0, x1, x2, x3, x4, x5⟩, rfl, ⟨w0, w1, w2, w3, w4, w5⟩⟩

set_option maxRecDepth 100000 in
theorem lifted (os : Os) (started : os.Started) (H : Type) (enc : TypeId × Value → H) :
    ReturnsInHanded {} Try.checked os 4 .any (Rows.fnExactPackAllSpec.pre6 enc Try.prog Try.f4 Rows.fnExactPackAllRow.domain false) (Rows.fnExactPackAllSpec.post enc Try.prog Try.f4 false true false false) := by
  refine returnsInHanded_of_change (C := Try.checked) own started (by kernel_rfl) Try.func4
    (ChangeSpec.witness6 (enc := enc) (C := Try.checked) false ⟨#[], #[.slice none 0 0, .slice none 0 0, .slice none 0 0], []⟩ 8 (by kernel_rfl) (by kernel_rfl) (by kernel_rfl) (by kernel_rfl)) ?_
  intro W base args ds gs before hval0 hW hcnd _
  have hval : ∀ (j : Nat) t v, Try.f4.params[j]? = some t → args[j]? = some v → Value.okWide Try.prog W .any base t v := hval0
  have hW' := hW
  obtain ⟨p, q, hA0, hV, rfl, hfz, hnd⟩ := hW
  have hA : DataW.TrodAll enc Try.prog W 0 (fun _ => true) true Try.f4.params.toList args.toList ds p := hA0
  rw [Try.params4] at hA hval
  obtain ⟨v0, vs0, d0, ds0, p0, q0, hargs, rfl, rfl, h0, r0⟩ := trodAll_cons hA
  obtain ⟨v1, vs1, d1, ds1, p1, q1, rfl, rfl, rfl, h1, r1⟩ := trodAll_cons r0
  obtain ⟨v2, vs2, d2, ds2, p2, q2, rfl, rfl, rfl, h2, r2⟩ := trodAll_cons r1
  obtain ⟨rfl, rfl, rfl⟩ := trodAll_nil r2
  obtain rfl : args = #[v0, v1, v2] := by cases args; simp_all
  obtain ⟨rfl, rfl⟩ := trodVars_none hV
  have lt0 : ∀ x ∈ p0, x.block < W.heap.size := by obtain ⟨m, hm⟩ := h0; exact DataW.trod_lt m _ _ _ hm
  have lt1 : ∀ x ∈ p1, x.block < W.heap.size := by obtain ⟨m, hm⟩ := h1; exact DataW.trod_lt m _ _ _ hm
  have lt2 : ∀ x ∈ p2, x.block < W.heap.size := by obtain ⟨m, hm⟩ := h2; exact DataW.trod_lt m _ _ _ hm
  obtain ⟨a0, wf0, len0, c0⟩ := slice_arg (sz := 6) (enc := Thing.enc) Thing_dec59 Try.underlying36 (by kernel_rfl) (by omega) Thing_one (hval 0 36 v0 rfl rfl) h0
  obtain ⟨a1, wf1, len1, c1⟩ := slice_arg (sz := 1) (enc := Go.Sx.encI) (dec_int Try.underlying3) Try.underlying25 (by kernel_rfl) (by omega) (fun a => ⟨rfl, by simp [Go.Sx.encI, Value.oneCell']⟩) (hval 1 25 v1 rfl rfl) h1
  obtain ⟨a2, wf2, len2, c2⟩ := slice_arg (sz := 1) (enc := Go.Sx.encI) (dec_int Try.underlying3) Try.underlying25 (by kernel_rfl) (by omega) (fun a => ⟨rfl, by simp [Go.Sx.encI, Value.oneCell']⟩) (hval 2 25 v2 rfl rfl) h2
  refine (con_walk (laws_FnExactPackAll_ok a0 a1 a2 true (FnExactPackAll_true a0 a1 a2 len0)) (vs := [v0, v1, v2]) ⟨c0, c1, c2, trivial⟩).mono fun e W' ⟨he, bel⟩ => ?_
  subst he
  exact ⟨_, rfl, _, _, _, [], _, [], hW', trodAll_mk1 (shut_bool Try.underlying4 _), (trodAll_cons_mk (Below.trod laidOut (by kernel_rfl) (of_decide_eq_true (by kernel_rfl)) h0 bel lt0) (trodAll_cons_mk (Below.trod laidOut (by kernel_rfl) (of_decide_eq_true (by kernel_rfl)) h1 bel lt1) (trodAll_cons_mk (Below.trod laidOut (by kernel_rfl) (of_decide_eq_true (by kernel_rfl)) h2 bel lt2) trodAll_mk0))), rfl, bel.frame _, fun h => by cases h⟩

theorem named : Try.prog.funcNamed Rows.fnExactPackAllRow.func = some 4 := by kernel_rfl
theorem wrapped : Try.f4.isWrapper Try.prog Rows.fnExactPackAllRow.wrapper Rows.fnExactPackAllRow.mainSum := (by unfold Func.isWrapper; first | (rw [if_pos (by decide +kernel)]; kernel_rfl) | (rw [if_neg (by decide +kernel)]; exact ⟨rfl, rfl⟩))
theorem inst : Try.f4.isInstance Try.prog Rows.fnExactPackAllRow.origin Rows.fnExactPackAllRow.targs := of_decide_eq_true (by kernel_rfl)
set_option maxHeartbeats 2000000 in
theorem closed : joinedFacts Try.prog 4 Try.f4 Rows.fnExactPackAllSpec Rows.fnExactPackAllRow = true := by
  unfold joinedFacts
  rw [io_enter, io_final, io_make]
  repeat' (with_reducible refine (Bool.and_eq_true _ _).mpr ⟨?_, ?_⟩)
  all_goals as_aux_lemma => kernel_rfl
theorem over : Rows.fnExactPackAllRow.holds Try.pinned (OpenSpec.ofChange Rows.fnExactPackAllSpec) :=
  OpenClaim.holds_of_wide 4 Try.f4 rfl rfl rfl rfl rfl rfl rfl ⟨rfl, rfl, rfl, rfl, rfl⟩ rfl rfl rfl rfl rfl named Try.func4 closed inst wrapped
    (fun os started H enc _ => lifted os started H enc)

theorem proved : Rows.FnExactPackAllSaid := over
#print axioms proved
end Go.Proofs.Ytbeialanbblkoaa.fnExactPackAllDone
