/- From a law's arguments, as a row tells of them, to the abstract arguments of a contract; and from a contract to a walk that writes nothing. -/
import Derived.Test.YtpgpgangmkjhlaaSxO
import Derived.Deep.Slices
import Derived.Deep.Fields
import Derived.ChangeSame
import Derived.ChangeOld
import Derived.OpenShut
import Derived.ShutString
import Derived.WalkKit
import Derived.ProofKit
namespace Go.Sx
open Go.ChangeShapes Go.WideShapes Go.Deep Go.RowKit
set_option linter.unusedVariables false

theorem con_walk {P : Program} {f : FuncId} {avs : List AV} {x : Value} (hC : Con P f avs [] (.o (.c (.v x))) [] []) {W : World} (htab : Tab (gAll W)) {vs : List Value} (hargs : All2 (CAv (fun _ => .slice none 0 0) (gAll W)) avs vs) :
    Calls P f vs.toArray W fun e w' => e = .returned x ∧ Below W.heap.size W w' := by
  refine (hC _ (gAll W) W vs htab (gAll_sub W) (Objs.nil _ _ _ _) hargs).mono ?_
  rintro e w'' ⟨v, ρ', g', rfl, _, hfw, _, _, _, hres, _⟩
  have hv : v = x := hres
  refine ⟨by rw [hv], ⟨hfw.os, hfw.tape, hfw.output, hfw.size, fun k hk => hfw.block k hk (fun ⟨p, hp, _⟩ => by cases hp)⟩⟩

/-- A type's cells, as they may come in, are the coding of something. -/
def Dec (P : Program) (t : TypeId) {α : Type} (enc : α → List Value) (wf : α → Prop) : Prop :=
  ∀ {H : Type} (en : TypeId × Value → H) (W : World) (base : Nat) (spare : Nat → Bool) (held : Bool) (fuel : Nat) (cs : List Value) (x : DataW H × List MemPlace),
    DataW.trod en P W base spare held fuel t cs = some x → ∃ a : α, cs = enc a ∧ wf a

theorem dec_int {P : Program} {t : TypeId} {k : IntKind} (ht : P.underlying t = some (.int k)) : Dec P t (fun n : Int => [Value.int k n]) (fun n => (Lit.int k n).wf = true) := by
  intro H en W base spare held fuel cs x h
  obtain ⟨n, h1, _, h2⟩ := DataW.trod_int ht h
  exact ⟨n, h1, h2⟩
theorem dec_bool {P : Program} {t : TypeId} (ht : P.underlying t = some .bool) : Dec P t (fun b : Bool => [Value.bool b]) (fun _ => True) := by
  intro H en W base spare held fuel cs x h
  obtain ⟨n, h1, _⟩ := DataW.trod_bool ht h
  exact ⟨n, h1, trivial⟩
theorem dec_string {P : Program} {t : TypeId} (ht : P.underlying t = some .string) : Dec P t (fun s : ByteArray => [Value.string s]) (fun s => s.size ≤ maxLen) := by
  intro H en W base spare held fuel cs x h
  obtain ⟨n, h1, _, h2⟩ := DataW.trod_string ht h
  exact ⟨n, h1, h2⟩

/-- A struct's cells, field by field. -/
theorem dec_fields {P : Program} {t : TypeId} {fs : Array Field} {N : Nat} (ht : P.underlying t = some (.struct fs)) (hN : P.cellsOf t = N) {H : Type} {en : TypeId × Value → H} {W : World} {base : Nat} {spare : Nat → Bool} {held : Bool} {fuel : Nat} {cs : List Value} {x : DataW H × List MemPlace}
    (h : DataW.trod en P W base spare held fuel t cs = some x) : cs.length = N ∧ ∀ (i off ty k : Nat) (f : Field) {α : Type} {enc : α → List Value} {wf : α → Prop}, fs[i]? = some f → f.offset = off → f.type = ty → P.cellsOf ty = k → Dec P ty enc wf →
      ∃ a, (cs.drop off).take k = enc a ∧ wf a := by
  obtain ⟨ys, n, _, _, hlen, hyl, hf⟩ := DataW.trod_struct ht h
  refine ⟨hlen.trans hN, fun i off ty k f α enc wf hi ho hty hk hd => ?_⟩
  have g := hf i f hi
  rw [ho, hty, hk] at g
  have hil : i < ys.length := by rw [hyl]; exact (Array.getElem?_eq_some_iff.1 hi).1
  rw [List.getElem?_eq_getElem hil] at g
  exact hd en W base spare held n _ _ g

theorem take_all2 {α : Type} {c : List α} {sz : Nat} : ∀ {L : List (List α)} {o : Nat}, (∀ cs ∈ L, cs.length = sz) → (∀ i cs, L[i]? = some cs → ∀ j x, cs[j]? = some x → c[o + i * sz + j]? = some x) →
    (c.drop o).take (L.length * sz) = L.flatten
  | [], o, _, _ => by simp
  | a :: L, o, hl, h => by
    have ha : a.length = sz := hl a (by simp)
    have hr := take_all2 (c := c) (L := L) (o := o + sz) (fun cs hc => hl cs (by simp [hc])) (fun i cs hi j x hx => by
      have := h (i + 1) cs (by simpa using hi) j x hx
      rwa [show o + (i + 1) * sz + j = o + sz + i * sz + j by rw [Nat.add_mul]; omega] at this)
    have hp : (c.drop o).take sz = a := by
      apply List.ext_getElem?
      intro j
      rw [List.getElem?_take]
      split
      · rename_i hj
        rw [List.getElem?_drop]
        have hja : j < a.length := by omega
        have := h 0 a rfl j _ (List.getElem?_eq_getElem hja)
        rw [show o + j = o + 0 * sz + j by omega, this, List.getElem?_eq_getElem hja]
      · rename_i hj
        rw [List.getElem?_eq_none (by omega)]
    rw [List.length_cons, Nat.add_mul, Nat.one_mul, Nat.add_comm, List.take_add, hp, List.drop_drop, hr]
    simp

theorem slice_dec {P : Program} {t e : TypeId} {sz : Nat} {α : Type} {enc : α → List Value} {wf : α → Prop} (hd : Dec P e enc wf) (ht : P.underlying t = some (.slice e)) (hsz : P.cellsOf e = sz) (h0 : 0 < sz)
    (hone : ∀ a, (enc a).length = sz ∧ ∀ x ∈ enc a, x.oneCell' = true) {H : Type} {en : TypeId × Value → H} {W : World} {base : Nat} {spare : Nat → Bool} {held : Bool} {fuel : Nat} {cs : List Value} {x : DataW H × List MemPlace}
    (h : DataW.trod en P W base spare held fuel t cs = some x) : ∃ (L : List α) (v : Value), cs = [v] ∧ (∀ a ∈ L, wf a) ∧ L.length ≤ maxLen ∧ RsOk (gAll W) sz (L.map enc) v := by
  rcases open_slice ht h with ⟨rfl, _⟩ | ⟨a, len, cap, m, n, D, Pl, rfl, hb, hl, hm, hmm, _, hi⟩
  · exact ⟨[], _, rfl, by simp, by simp, by simp, by simp, .inl ⟨.inl rfl, rfl⟩⟩
  rw [hsz] at hi
  have hlm : len ≤ m := by rw [hmm]; split <;> omega
  have hx : ∀ i, i < len → ∃ y : α, W.cells? base (a.add (i * sz)) sz = some (enc y) ∧ wf y := fun i hil => by
    obtain ⟨cs', h1, h2⟩ := hi i (by omega)
    obtain ⟨y, rfl, hy⟩ := hd en W base spare held n cs' _ h2
    exact ⟨y, h1, hy⟩
  by_cases hl0 : len = 0
  · subst hl0
    exact ⟨[], _, rfl, by simp, by simp, by simp, by simp, .inl ⟨.inr ⟨a, cap, rfl, hm⟩, rfl⟩⟩
  obtain ⟨y0, _, _⟩ := hx 0 (by omega)
  haveI : Inhabited α := ⟨y0⟩
  obtain ⟨f, hf⟩ := choose_lt hx
  have hcell : ∀ i, i < len → ∀ j v, (enc (f i))[j]? = some v → W.cell? (a.add (i * sz + j)) = some v := fun i hil j v hv => by
    obtain ⟨_, hcl, hat⟩ := World.cells?_some (hf i hil).1
    have hj : j < sz := by rw [← (hone (f i)).1]; exact (List.getElem?_eq_some_iff.1 hv).1
    rw [← add_add, hat j hj, hv]
  have h00 : ∃ v, (enc (f 0))[0]? = some v := ⟨_, List.getElem?_eq_getElem (by rw [(hone (f 0)).1]; exact h0)⟩
  obtain ⟨v0, hv0⟩ := h00
  have c00 := hcell 0 (by omega) 0 v0 hv0
  obtain ⟨b, o, spot⟩ := a
  have hspot : spot = none := by simpa [Addr.add] using World.cell?_spot c00
  subst hspot
  have hblk : ∃ c e fr, W.heap[b]? = some (.cells c e fr) := by
    have c00 : W.cell? ⟨b, o + (0 * sz + 0), none⟩ = some v0 := by rw [← add_mk]; exact c00
    simp only [World.cell?] at c00
    split at c00
    · rename_i c e fr hh; exact ⟨c, e, fr, hh⟩
    all_goals cases c00
  obtain ⟨c, e', fr, hh⟩ := hblk
  refine ⟨(List.range len).map f, _, rfl, ?_, by simp; omega, ?_, ?_, .inr ⟨b, o, cap, c, ?_, by simp [gAll, hh], by simpa using hl, hm, ?_⟩⟩
  · intro y hy
    obtain ⟨i, hi, rfl⟩ := List.mem_map.1 hy
    exact (hf i (List.mem_range.1 hi)).2
  · intro cs hcs
    obtain ⟨y, _, rfl⟩ := List.mem_map.1 hcs
    exact (hone y).1
  · intro z hz
    obtain ⟨cs, hcs, hz⟩ := List.mem_flatten.1 hz
    obtain ⟨y, _, rfl⟩ := List.mem_map.1 hcs
    exact (hone y).2 z hz
  · simp
  · refine take_all2 (fun cs hcs => by obtain ⟨y, _, rfl⟩ := List.mem_map.1 hcs; exact (hone y).1) fun i cs hi j v hv => ?_
    rw [List.map_map, List.getElem?_map] at hi
    obtain ⟨k, hk, rfl⟩ := Option.map_eq_some_iff.1 hi
    have hkl : i < len := by simpa using (List.getElem?_eq_some_iff.1 hk).1
    obtain rfl : i = k := by simpa [List.getElem?_range hkl] using hk
    have := hcell i hkl j v hv
    rw [add_mk, ← Nat.add_assoc] at this
    simpa [World.cell?, hh] using this

/-- A slice parameter. -/
theorem slice_arg {P : Program} {t e : TypeId} {sz : Nat} {α : Type} {enc : α → List Value} {wf : α → Prop} (hd : Dec P e enc wf) (ht : P.underlying t = some (.slice e)) (hsz : P.cellsOf e = sz) (h0 : 0 < sz)
    (hone : ∀ a, (enc a).length = sz ∧ ∀ x ∈ enc a, x.oneCell' = true) {H : Type} {en : TypeId × Value → H} {W : World} {base : Nat} {spare : Nat → Bool} {held : Bool} {v : Value} {d : DataW H} {p : List MemPlace}
    {r : Reach} {b0 : Nat} (hv : Value.okWide P W r b0 t v) (h : DataW.Trod en P W base spare held t v d p) : ∃ L : List α, (∀ a ∈ L, wf a) ∧ L.length ≤ maxLen ∧ RsOk (gAll W) sz (L.map enc) v := by
  obtain ⟨a, len, cap, rfl⟩ := okWide_slice ht hv
  obtain ⟨fuel, hf⟩ := h
  obtain ⟨L, v, hcs, h1, h2, h3⟩ := slice_dec hd ht hsz h0 hone hf
  simp [Value.cells] at hcs
  subst hcs
  exact ⟨L, h1, h2, h3⟩
/-- An integer parameter. -/
theorem int_arg {P : Program} {t : TypeId} {k : IntKind} (ht : P.underlying t = some (.int k)) {H : Type} {en : TypeId × Value → H} {W : World} {base : Nat} {spare : Nat → Bool} {held : Bool} {v : Value} {d : DataW H} {p : List MemPlace}
    {r : Reach} {b0 : Nat} (hv : Value.okWide P W r b0 t v) (h : DataW.Trod en P W base spare held t v d p) : ∃ n : Int, (Lit.int k n).wf = true ∧ v = .int k n := by
  obtain ⟨n, rfl, _, _, hw⟩ := open_int ht hv h
  exact ⟨n, hw, rfl⟩
/-- A string parameter. -/
theorem string_arg {P : Program} {t : TypeId} (ht : P.underlying t = some .string) {H : Type} {en : TypeId × Value → H} {W : World} {base : Nat} {spare : Nat → Bool} {held : Bool} {v : Value} {d : DataW H} {p : List MemPlace}
    {r : Reach} {b0 : Nat} (hv : Value.okWide P W r b0 t v) (h : DataW.Trod en P W base spare held t v d p) : ∃ s : ByteArray, s.size ≤ maxLen ∧ v = .string s := by
  obtain ⟨s, rfl⟩ := okWide_string ht hv
  obtain ⟨fuel, hf⟩ := h
  obtain ⟨s', h1, _, h2⟩ := DataW.trod_string ht hf
  simp [Value.cells] at h1
  subst h1
  exact ⟨s, h2, rfl⟩
/-- A struct parameter of plain cells. -/
theorem agg_arg {P : Program} {t : TypeId} {fs : Array Field} {α : Type} {enc : α → List Value} {wf : α → Prop} (hd : Dec P t enc wf) (ht : P.underlying t = some (.struct fs)) {H : Type} {en : TypeId × Value → H} {W : World} {base : Nat} {spare : Nat → Bool} {held : Bool} {v : Value} {d : DataW H} {p : List MemPlace}
    {r : Reach} {b0 : Nat} (hv : Value.okWide P W r b0 t v) (h : DataW.Trod en P W base spare held t v d p) : ∃ a : α, wf a ∧ v = .agg (enc a).toArray := by
  obtain ⟨cs, rfl, _⟩ := okWide_struct ht hv
  obtain ⟨fuel, hf⟩ := h
  obtain ⟨a, h1, h2⟩ := hd en W base spare held fuel _ _ hf
  simp only [Value.cells] at h1
  exact ⟨a, h2, by rw [← h1]⟩
theorem word_gc : (([.ofNat 99, .ofNat 117, .ofNat 116] : List Char) == [.ofNat 103, .ofNat 99]) = false := by kernel_rfl
theorem word_cut : (([.ofNat 99, .ofNat 117, .ofNat 116] : List Char) == [.ofNat 99, .ofNat 117, .ofNat 116]) = true := by kernel_rfl
theorem word_spec : (([.ofNat 99, .ofNat 117, .ofNat 116] : List Char) == [.ofNat 115, .ofNat 112, .ofNat 101, .ofNat 99]) = false := by kernel_rfl
theorem mk_cut (P : Program) (r : List (List Char)) (h : behindMainWord (wordsSigns P.initOrder.toList) = [.ofNat 99, .ofNat 117, .ofNat 116] :: r) : P.make = some .cut := by
  have e1 : "gc".toList = [.ofNat 103, .ofNat 99] := by rw [show "gc" = String.ofList [.ofNat 103, .ofNat 99] by kernel_rfl, String.toList_ofList]
  have e2 : "spec".toList = [.ofNat 115, .ofNat 112, .ofNat 101, .ofNat 99] := by rw [show "spec" = String.ofList [.ofNat 115, .ofNat 112, .ofNat 101, .ofNat 99] by kernel_rfl, String.toList_ofList]
  have e3 : "cut".toList = [.ofNat 99, .ofNat 117, .ofNat 116] := by rw [show "cut" = String.ofList [.ofNat 99, .ofNat 117, .ofNat 116] by kernel_rfl, String.toList_ofList]
  unfold Program.make
  rw [h]
  simp only [e1, e2, e3, word_gc, word_cut, word_spec, Bool.or_self, Bool.true_or, if_true, if_false, Bool.false_eq_true]
theorem enter_cut (P : Program) (r : List (List Char)) (h : behindMainWord (wordsSigns P.initOrder.toList) = [.ofNat 99, .ofNat 117, .ofNat 116] :: r) (h1 : P.laysLater = false) (h2 : P.bearsReflect = false) (h3 : P.doorRows = [])
    (hs : stripLifts liftWords ([.ofNat 99, .ofNat 117, .ofNat 116] :: r) = ([], [.ofNat 99, .ofNat 117, .ofNat 116] :: r)) : P.mayEnter = true := by
  have e1 : "gc".toList = [.ofNat 103, .ofNat 99] := by rw [show "gc" = String.ofList [.ofNat 103, .ofNat 99] by kernel_rfl, String.toList_ofList]
  have e3 : "cut".toList = [.ofNat 99, .ofNat 117, .ofNat 116] := by rw [show "cut" = String.ofList [.ofNat 99, .ofNat 117, .ofNat 116] by kernel_rfl, String.toList_ofList]
  unfold Program.mayEnter
  rw [h]
  simp [hs, h1, h2, h3, Program.doorFits, e3]
theorem lifts_cut (P : Program) (r : List (List Char)) (h : behindMainWord (wordsSigns P.initOrder.toList) = [.ofNat 99, .ofNat 117, .ofNat 116] :: r)
    (hs : stripLifts liftWords ([.ofNat 99, .ofNat 117, .ofNat 116] :: r) = ([], [.ofNat 99, .ofNat 117, .ofNat 116] :: r)) : P.headLifts = [] := by
  unfold Program.headLifts
  rw [h]
  simp [hs]
theorem final_cut (P : Program) (r : List (List Char)) (h : behindMainWord (wordsSigns P.initOrder.toList) = [.ofNat 99, .ofNat 117, .ofNat 116] :: r)
    (hs : stripLifts liftWords ([.ofNat 99, .ofNat 117, .ofNat 116] :: r) = ([], [.ofNat 99, .ofNat 117, .ofNat 116] :: r)) : P.liftsFinal = false := by
  have e : "carried".toList = [.ofNat 99, .ofNat 97, .ofNat 114, .ofNat 114, .ofNat 105, .ofNat 101, .ofNat 100] := by rw [show "carried" = String.ofList [.ofNat 99, .ofNat 97, .ofNat 114, .ofNat 114, .ofNat 105, .ofNat 101, .ofNat 100] by kernel_rfl, String.toList_ofList]
  unfold Program.liftsFinal
  rw [h, lifts_cut P r h hs, e]
  simp
theorem bytes_eq_decide (x y : ByteArray) : (x.toList == y.toList) = decide (x = y) := by
  rw [ByteArray.toList_eq, ByteArray.toList_eq]
  obtain ⟨⟨x⟩⟩ := x
  obtain ⟨⟨y⟩⟩ := y
  by_cases h : x = y <;> simp [h]
end Go.Sx
