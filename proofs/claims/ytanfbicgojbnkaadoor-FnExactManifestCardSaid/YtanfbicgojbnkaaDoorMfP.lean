/- The library's numerals: a contract that leans on what lies in a variable. -/
import Derived.Test.YtanfbicgojbnkaaDoorSxT
import Derived.Shelf.Strconv.Itoa3
import Derived.WalkKit
import Derived.BigCall
import Derived.Test.YtanfbicgojbnkaaDoorProg
namespace Go.Proofs
open Go.Shelf
def Tryd.laysItoa_ren : Go.Shelf.Ren := ⟨fun | 171 => 40 | 243 => 53 | 246 => 59 | 283 => 65 | 284 => 66 | 285 => 67 | 286 => 68 | 129 => 75 | 317 => 74 | 318 => 76 | 319 => 77 | 320 => 78 | 337 => 82 | 338 => 83 | n => n, fun | 3 => 3 | 9 => 9 | 2 => 2 | 4 => 4 | 171 => 84 | 0 => 0 | 53 => 85 | 37 => 22 | 5 => 5 | 173 => 88 | 212 => 98 | 51 => 99 | 20 => 20 | 213 => 100 | 46 => 83 | 232 => 114 | 233 => 115 | n => n, fun | 17 => 0 | 18 => 3 | 19 => 4 | n => n⟩
theorem Tryd.laysItoa : Go.Proofs.LaysM.n171 Tryd.prog Tryd.laysItoa_ren := {
  mixed := by kernel_rfl
  f129 := Tryd.func75.trans (congrArg some (by kernel_rfl))
  f171 := Tryd.func40.trans (congrArg some (by kernel_rfl))
  f243 := Tryd.func53.trans (congrArg some (by kernel_rfl))
  f246 := Tryd.func59.trans (congrArg some (by kernel_rfl))
  f283 := Tryd.func65.trans (congrArg some (by kernel_rfl))
  f284 := Tryd.func66.trans (congrArg some (by kernel_rfl))
  f285 := Tryd.func67.trans (congrArg some (by kernel_rfl))
  f286 := Tryd.func68.trans (congrArg some (by kernel_rfl))
  f317 := Tryd.func74.trans (congrArg some (by kernel_rfl))
  f318 := Tryd.func76.trans (congrArg some (by kernel_rfl))
  f319 := Tryd.func77.trans (congrArg some (by kernel_rfl))
  f320 := Tryd.func78.trans (congrArg some (by kernel_rfl))
  f337 := Tryd.func82.trans (congrArg some (by kernel_rfl))
  f338 := Tryd.func83.trans (congrArg some (by kernel_rfl))
  t0 := Tryd.underlying0
  a0 := Tryd.isAgg0
  z0 := Tryd.sizeOf0
  v0 := Tryd.zeroValue0
  t2 := Tryd.underlying2
  a2 := Tryd.isAgg2
  z2 := Tryd.sizeOf2
  v2 := Tryd.zeroValue2
  t3 := Tryd.underlying3
  a3 := Tryd.isAgg3
  z3 := Tryd.sizeOf3
  v3 := Tryd.zeroValue3
  t4 := Tryd.underlying4
  a4 := Tryd.isAgg4
  z4 := Tryd.sizeOf4
  v4 := Tryd.zeroValue4
  t5 := Tryd.underlying5
  a5 := Tryd.isAgg5
  z5 := Tryd.sizeOf5
  v5 := Tryd.zeroValue5
  t9 := Tryd.underlying9
  a9 := Tryd.isAgg9
  z9 := Tryd.sizeOf9
  v9 := Tryd.zeroValue9
  t20 := Tryd.underlying20
  a20 := Tryd.isAgg20
  z20 := Tryd.sizeOf20
  v20 := Tryd.zeroValue20
  t37 := Tryd.underlying22
  a37 := Tryd.isAgg22
  z37 := Tryd.sizeOf22
  v37 := Tryd.zeroValue22
  t46 := Tryd.underlying83
  a46 := Tryd.isAgg83
  z46 := Tryd.sizeOf83
  v46 := Tryd.zeroValue83
  t51 := Tryd.underlying99
  a51 := Tryd.isAgg99
  z51 := Tryd.sizeOf99
  v51 := Tryd.zeroValue99
  t53 := Tryd.underlying85
  a53 := Tryd.isAgg85
  z53 := Tryd.sizeOf85
  v53 := Tryd.zeroValue85
  t171 := Tryd.underlying84
  a171 := Tryd.isAgg84
  z171 := Tryd.sizeOf84
  v171 := Tryd.zeroValue84
  t173 := Tryd.underlying88
  a173 := Tryd.isAgg88
  z173 := Tryd.sizeOf88
  v173 := Tryd.zeroValue88
  t212 := Tryd.underlying98
  a212 := Tryd.isAgg98
  z212 := Tryd.sizeOf98
  v212 := Tryd.zeroValue98
  t213 := Tryd.underlying100
  a213 := Tryd.isAgg100
  z213 := Tryd.sizeOf100
  t232 := Tryd.underlying114
  a232 := Tryd.isAgg114
  z232 := Tryd.sizeOf114
  v232 := Tryd.zeroValue114
  t233 := Tryd.underlying115
  a233 := Tryd.isAgg115
  z233 := Tryd.sizeOf115
  v233 := Tryd.zeroValue115
  g17 := by kernel_rfl
  g18 := by kernel_rfl
  g19 := by kernel_rfl
  i0 := by kernel_rfl
  i2 := by kernel_rfl
  i3 := by kernel_rfl
  i4 := by kernel_rfl
  i5 := by kernel_rfl
  i9 := by kernel_rfl
  i20 := by kernel_rfl
  i37 := by kernel_rfl
  i46 := by kernel_rfl
  i51 := by kernel_rfl
  i53 := by kernel_rfl
  i171 := by kernel_rfl
  i173 := by kernel_rfl
  i212 := by kernel_rfl
  i232 := by kernel_rfl
  i233 := by kernel_rfl
  m17 := by kernel_rfl
  m18 := by kernel_rfl
  m19 := by kernel_rfl }
end Go.Proofs
namespace Go.Sx
open Go.Proofs Go.RowKit
set_option linter.unusedVariables false
set_option maxRecDepth 100000

theorem tab_is {P : Program} {w : World} {nm : String} {b : Nat} {k : IntKind} {zs : List Int} {e : TypeId} {fr : Nat × Nat} (hb : P.globalNamed nm = some b) (hh : w.heap[b]? = some (.cells (zs.map fun z => Value.int k z).toArray e fr)) : Lib.TabIs P w nm k zs := by
  unfold Lib.TabIs World.var?
  rw [hb]
  simp [hh]
/-- A contract whose arguments and results are exact values. -/
theorem con_calls {P : Program} {f : FuncId} {xs : List Value} {res : RV} {x : Value} (hx : exactRV res = some x) (h : ∀ g w, Tab g → GSub g w → Calls P f xs.toArray w fun e w' => e = .returned x ∧ Below w.heap.size w w') : Con P f (xs.map fun v => .c (.v v)) [] res [] [] := by
  intro ρ g w vs ht hgs hob hargs
  have hv : vs = xs := by
    have : ∀ {xs vs : List Value}, All2 (CAv ρ g) (xs.map fun v => AV.c (.v v)) vs → vs = xs := by
      intro xs
      induction xs with
      | nil => intro vs h; cases vs with
        | nil => rfl
        | cons _ _ => exact h.elim
      | cons a l ih => intro vs h; cases vs with
        | nil => exact h.elim
        | cons b m => rw [show b = a from h.1, ih h.2]
    exact this hargs
  subst hv
  refine (h g w ht hgs).mono ?_
  rintro e w' ⟨rfl, hb⟩
  exact ⟨x, ρ, g, rfl, fun _ _ => rfl, Fw.of_below hb, hgs.cls hb, fun _ _ h => h, fun _ _ h => .inl h, exactRV_mk hx, Objs.nil _ _ _ _⟩
theorem below_grow (w : World) (k : Nat) (os : Array Obj) : Below w.heap.size w (Sort.grow (w.drewN k) os) :=
  ⟨rfl, rfl, rfl, by simp [Sort.grow, World.drewN], fun i hi => by simp only [Sort.grow, World.drewN]; rw [Array.getElem?_append_left hi]⟩

def strconv_Itoa (n : Int) : Option ByteArray := if -9223372036854775808 ≤ n ∧ n ≤ 9223372036854775807 then some ⟨(Lib.itoa n).toArray⟩ else none
theorem itoa_calls {g : GHeap} {w : World} (ht : Tab g) (hgs : GSub g w) (n : Int) (h0 : -9223372036854775808 ≤ n) (h1 : n ≤ 9223372036854775807) :
    Calls Tryd.prog 40 #[.int .i64 n] w fun e w' => e = .returned (.string ⟨(Lib.itoa n).toArray⟩) ∧ Below w.heap.size w w' := by
  obtain ⟨e, fr, hh⟩ := hgs _ _ ht.pow
  refine (Any.strconv_Itoa Tryd.laysItoa n h0 h1 w (tab_is (by kernel_rfl) hh)).mono ?_
  rintro e w' ⟨rfl, k, os, rfl⟩
  exact ⟨rfl, below_grow w k os⟩
theorem strconv_Itoa_ok (n : Int) (r : ByteArray) (hM : strconv_Itoa n = some r) : Con Tryd.prog 40 [.c (.v (.int .i64 n))] [] (.o (.c (.v (.string r)))) [] [] := by
  unfold strconv_Itoa at hM
  split at hM
  · rename_i h
    have hE := Option.some.inj hM
    subst hE
    exact con_calls (xs := [.int .i64 n]) (x := .string ⟨(Lib.itoa n).toArray⟩) rfl fun g w ht hgs => itoa_calls ht hgs n h.1 h.2
  · cases hM

end Go.Sx
