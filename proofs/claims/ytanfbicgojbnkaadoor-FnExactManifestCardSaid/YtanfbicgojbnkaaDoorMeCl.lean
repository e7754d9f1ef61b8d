/-
  'laws.FnExactManifest' returns true for every input, and leaves its arguments as they were, where the listed variables of the library's hold what the program's text lays in them (the card ties that).
-/
import Derived.Test.YtanfbicgojbnkaaDoorMeX
import Derived.Test.YtanfbicgojbnkaaDoorMeD
import Derived.Test.YtanfbicgojbnkaaDoorCards
import Derived.Test.YtanfbicgojbnkaaDoorTie
import Derived.SevenTiedAt
import Derived.Stop.Joined
namespace Go.Proofs.YtanfbicgojbnkaaDoor.fnExactManifestDone
open Go Go.ChangeShapes Go.WideShapes Go.ChangeAt Go.RowKit Go.Sx Go.Deep
set_option linter.unusedVariables false

def Thing.wf (x : Thing) : Prop := (Lit.int .i64 x.Id).wf = true ∧ (Lit.int .i64 x.Own).wf = true ∧ (Lit.int .i64 x.Room).wf = true ∧ (Lit.int .i64 x.In).wf = true ∧ True ∧ True
theorem Thing_one : ∀ a : Thing, (Thing.enc a).length = 6 ∧ ∀ x ∈ Thing.enc a, x.oneCell' = true := fun a => ⟨rfl, by simp [Thing.enc, Value.oneCell']⟩
theorem Thing_dec55 : Dec Tryd.prog 55 Thing.enc Thing.wf := by
  intro H en W base spare held fuel cs x h
  obtain ⟨hlen, hf⟩ := dec_fields (N := 6) Tryd.underlying55 (by kernel_rfl) h
  match cs, hlen with
  | [c0, c1, c2, c3, c4, c5], _ =>
    obtain ⟨x0, q0, w0⟩ := hf 0 0 3 1 _ rfl rfl rfl (by kernel_rfl) (dec_int Tryd.underlying3)
    cases q0
    obtain ⟨x1, q1, w1⟩ := hf 1 1 3 1 _ rfl rfl rfl (by kernel_rfl) (dec_int Tryd.underlying3)
    cases q1
    obtain ⟨x2, q2, w2⟩ := hf 2 2 3 1 _ rfl rfl rfl (by kernel_rfl) (dec_int Tryd.underlying3)
    cases q2
    obtain ⟨x3, q3, w3⟩ := hf 3 3 3 1 _ rfl rfl rfl (by kernel_rfl) (dec_int Tryd.underlying3)
    cases q3
    obtain ⟨x4, q4, w4⟩ := hf 4 4 4 1 _ rfl rfl rfl (by kernel_rfl) (dec_bool Tryd.underlying4)
    cases q4
    obtain ⟨x5, q5, w5⟩ := hf 5 5 4 1 _ rfl rfl rfl (by kernel_rfl) (dec_bool Tryd.underlying4)
    cases q5
    exact ⟨⟨x0, x1, x2, x3, x4, x5⟩, rfl, ⟨w0, w1, w2, w3, w4, w5⟩⟩

theorem door_met (os : Os) (args : Array Value) : laidMetH Tryd.prog Rows.fnExactManifestRow.laid ((World.doorLaid Tryd.prog 62 os).forCall (fun _ _ => 0) ⟨#[], args, []⟩).memory :=
  laidMetH_of_parts3 (fuel := 8) (laidMet_of_run' 8 (by kernel_rfl) (by kernel_rfl)) (by kernel_rfl) (by kernel_rfl)
set_option maxRecDepth 100000 in
theorem lifted (os : Os) (started : os.Started) (H : Type) (enc : TypeId × Value → H) :
    ReturnsInHanded {} Tryd.checked os 4 .any (fun w args => (Rows.fnExactManifestSpec.pre enc Tryd.prog Tryd.f4 [] false w args ∧ laidMetH Tryd.prog Rows.fnExactManifestRow.laid w) ∧ sizedMet enc Tryd.prog Tryd.f4 (OpenSpec.ofChange Rows.fnExactManifestSpec) false w args)
      (Rows.fnExactManifestSpec.post enc Tryd.prog Tryd.f4 false true false false) := by
  refine returnsInHanded_of_change_and (C := Tryd.checked) (X := fun w _ => laidMetH Tryd.prog Rows.fnExactManifestRow.laid w) (fun _ _ _ hh h => h.of_heap hh) own started (by kernel_rfl) Tryd.func4
    (ChangeSpec.witness_shaped (enc := enc) (C := Tryd.checked) (os := os) (X := fun w _ => laidMetH Tryd.prog Rows.fnExactManifestRow.laid w) false (World.doorLaid Tryd.prog 62 os) #[.slice none 0 0, .int .i64 0] 8 rfl (World.shaped_of_RefB (by kernel_rfl) (by kernel_rfl)) (by kernel_rfl) (by kernel_rfl) (by kernel_rfl) (door_met os _)) ?_
  intro W base args ds gs before hval0 hW hcnd _ hL _
  have hval : ∀ (j : Nat) t v, Tryd.f4.params[j]? = some t → args[j]? = some v → Value.okWide Tryd.prog W .any base t v := hval0
  have hW' := hW
  obtain ⟨p, q, hA0, hV, rfl, hfz, hnd⟩ := hW
  have hA : DataW.TrodAll enc Tryd.prog W 0 (fun _ => true) true Tryd.f4.params.toList args.toList ds p := hA0
  rw [Tryd.params4] at hA hval
  obtain ⟨v0, vs0, d0, ds0, p0, q0, hargs, rfl, rfl, h0, r0⟩ := trodAll_cons hA
  obtain ⟨v1, vs1, d1, ds1, p1, q1, rfl, rfl, rfl, h1, r1⟩ := trodAll_cons r0
  obtain ⟨rfl, rfl, rfl⟩ := trodAll_nil r1
  obtain rfl : args = #[v0, v1] := by cases args; simp_all
  obtain ⟨rfl, rfl⟩ := trodVars_none hV
  have lt0 : ∀ x ∈ p0, x.block < W.heap.size := by obtain ⟨m, hm⟩ := h0; exact DataW.trod_lt m _ _ _ hm
  have lt1 : ∀ x ∈ p1, x.block < W.heap.size := by obtain ⟨m, hm⟩ := h1; exact DataW.trod_lt m _ _ _ hm
  obtain ⟨a0, wf0, len0, c0⟩ := slice_arg (sz := 6) (enc := Thing.enc) Thing_dec55 Tryd.underlying38 (by kernel_rfl) (by omega) Thing_one (hval 0 38 v0 rfl rfl) h0
  obtain ⟨a1, wf1, c1⟩ := int_arg Tryd.underlying3 (hval 1 3 v1 rfl rfl) h1
  refine (con_walk (laws_FnExactManifest_ok a0 a1 true (FnExactManifest_true a0 a1 len0)) (tab3 hL) (vs := [v0, v1]) ⟨c0, c1, trivial⟩).mono fun e W' ⟨he, bel⟩ => ?_
  subst he
  exact ⟨_, rfl, _, _, _, [], _, [], hW', trodAll_mk1 (shut_bool Tryd.underlying4 _), (trodAll_cons_mk (Below.trod laidOut (by kernel_rfl) (of_decide_eq_true (by kernel_rfl)) h0 bel lt0) (trodAll_cons_mk (Below.trod laidOut (by kernel_rfl) (of_decide_eq_true (by kernel_rfl)) h1 bel lt1) trodAll_mk0)), rfl, bel.frame _, fun h => by cases h⟩

theorem named : Tryd.prog.funcNamed Rows.fnExactManifestRow.func = some 4 := by kernel_rfl
theorem wrapped : Tryd.f4.isWrapper Tryd.prog Rows.fnExactManifestRow.wrapper Rows.fnExactManifestRow.mainSum := (by unfold Func.isWrapper; first | (rw [if_pos (by decide +kernel)]; kernel_rfl) | (rw [if_neg (by decide +kernel)]; exact ⟨rfl, rfl⟩))
theorem inst : Tryd.f4.isInstance Tryd.prog Rows.fnExactManifestRow.origin Rows.fnExactManifestRow.targs := of_decide_eq_true (by kernel_rfl)
set_option maxHeartbeats 2000000 in
theorem closed : joinedFacts Tryd.prog 4 Tryd.f4 Rows.fnExactManifestSpec Rows.fnExactManifestRow = true := by kernel_rfl
theorem over : Rows.fnExactManifestRow.holds Tryd.pinned (OpenSpec.ofChange Rows.fnExactManifestSpec) :=
  OpenClaim.holds_of_wide 4 Tryd.f4 rfl rfl rfl rfl rfl rfl rfl ⟨rfl, rfl, rfl, rfl, rfl⟩ rfl rfl rfl rfl rfl named Tryd.func4 closed inst wrapped
    (fun os started H enc _ => lifted os started H enc)

theorem proved : Rows.FnExactManifestCardSaid :=
  Claim7.holds_tied_plain_at .later [] [.data, .data, .data] true Rows.fnExactManifestCard.stood.harness true
    over (fun _ h => by cases h) (by kernel_rfl) (fun _ h => by cases h) fnExactManifest_row_tie rfl ⟨rfl, rfl⟩ (by kernel_rfl) rfl
    (fun f fn hf hfn => by
      obtain rfl : f = 4 := Option.some.inj (named.symm.trans hf) |>.symm
      obtain rfl : fn = Tryd.f4 := (Option.some.inj (Tryd.func4.symm.trans hfn)).symm
      exact ⟨by kernel_rfl, fun j t ht => by
        rw [Tryd.params4] at ht
        have hm : t ∈ [38, 3] := by simpa using Array.mem_of_getElem? ht
        have hall : ([38, 3].all fun u => !Tryd.prog.wantsStandIn u) = true := by kernel_rfl
        exact (show Tryd.prog.wantsStandIn t = false by simpa using List.all_eq_true.1 hall t hm)⟩)
    (by kernel_rfl)
#print axioms proved
end Go.Proofs.YtanfbicgojbnkaaDoor.fnExactManifestDone
