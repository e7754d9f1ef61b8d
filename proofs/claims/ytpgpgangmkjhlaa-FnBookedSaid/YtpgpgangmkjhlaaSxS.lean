/- The library's sort.SliceStable, as a contract of the symbolic executor: what sort.stable_func does to the row, SliceStable does. -/
import Derived.Test.YtpgpgangmkjhlaaSxT
import Derived.Shelf.GgSortMore.Stable
namespace Go.Sx
open Go.Proofs Go.Sort Go.Shelf Go.Lib Go.RowKit
set_option linter.unusedVariables false

theorem cls_grow (w : World) (os : Array Obj) : Cls w (grow w os) := ⟨rfl, rfl, rfl, by simp [grow], fun k hk => by
  simp only [grow]; exact Array.getElem?_append_left hk⟩
/-- The row is what it was, in a world that has grown. -/
theorem same_post {P : Program} {ρ : Nat → Value} {g : GHeap} {w w' : World} {pre : List (Nat × OB)} (hgs : GSub g w) (hob : Objs ρ g w (fun b => b < w.heap.size) pre) (hc : Cls w w') :
    ∃ v ρ' g', Ending.returned (.tuple #[]) = Ending.returned v ∧ (∀ id, id ∉ ([] : List (Nat × OB)).map (·.1) → ρ' id = ρ id) ∧ Fw (PB ρ pre) w w' ∧ GSub g' w' ∧
      (∀ b c, g b = some c → g' b = some c) ∧ (∀ b c, g' b = some c → g b = some c ∨ PB ρ pre b ∨ w.heap.size ≤ b) ∧ CR ρ' g' (.tup []) v ∧
      Objs ρ' g' w' (fun b => PB ρ pre b ∨ w.heap.size ≤ b) (pre ++ []) := by
  refine ⟨.tuple #[], ρ, g, rfl, fun _ _ => rfl, Fw.of_below hc |>.trans (Fw.refl _ _) (fun _ _ h => h), hgs.cls hc, fun _ _ h => h, fun _ _ h => .inl h, ⟨[], rfl, trivial⟩, ?_⟩
  rw [List.append_nil]
  exact ⟨hob.ids, fun p hp => (hob.ok p hp).cls hc, fun p hp k hk => .inl ⟨p, hp, hk⟩, hob.apart, hob.ro⟩

theorem con_stable {P : Program} {σ : Ren} (Ly : LaysGt.n8 P σ) {f f15 : FuncId} (hf : σ.f 8 = f) (h15 : σ.f 15 = f15) (t e : TypeId) (i ie : TypeInfo) (hi : P.info? t = some i) (hd : i.desc = .slice e) (hpk : P.packed t = false) (hie : P.info? e = some ie)
    (ke : Nat) (hke : ∀ w, (Extern.Rtype.kind e).run P w = .ok ke w) (f1 f2 sf K : Nat) (hK : ∀ n, 2 ≤ n → swapperK n ie ke = K) (hf1 : P.funcs.findIdx? (·.name == "internal/reflectlite" ++ ".Swapper$" ++ toString 1) = some f1) (hf2 : P.funcs.findIdx? (·.name == "internal/reflectlite" ++ ".Swapper$" ++ toString 2) = some f2)
    (hfK : P.funcs.findIdx? (·.name == "internal/reflectlite" ++ ".Swapper$" ++ toString K) = some sf) (F : Value → Value) (hF : ∀ s, F s = .func (.func sf) #[] #[s, typeHandle P e]) (gid : Nat) (ids : List Nat) (rid te sz : Nat) (L : List (List Value)) (pre pre' : List (Nat × OB)) (hrid : (rid, .row te sz L) ∈ pre) (hl : L.length < 4611686018427387904)
    (hst : 2 ≤ L.length → Con P f15 [.agg [.fn gid ids, .of F rid], .c (.v (.int .i64 L.length))] pre (.tup []) pre' []) (hsmall : L.length ≤ 1 → pre' = pre) :
    Con P f [.c (.of (fun s => .iface t s) rid), .c (.fn gid ids)] pre (.tup []) pre' [] := by
  subst hf h15
  intro ρ g w vs htab hgs hob hargs
  match vs, hargs with
  | [x, y], hargs =>
  obtain ⟨⟨hx, _⟩, ⟨bs, hbs, hy⟩, _⟩ := hargs
  have hx : x = .iface t (ρ rid) := hx
  obtain ⟨p, n, c, hr, hn⟩ : ∃ p n c, ρ rid = .slice p n c ∧ n = L.length := by
    obtain ⟨⟨_, r⟩, _⟩ := hob.ok _ hrid
    rcases r with ⟨r, h0⟩ | ⟨b, cap, _, r, _⟩
    · exact ⟨none, 0, 0, r, h0.symm⟩
    · exact ⟨_, _, _, r, rfl⟩
  subst hx hy
  rw [hr]
  show Calls P (σ.f 8) #[.iface t (.slice p n c), .func (.func gid) #[] (bs.map fun b => Value.pointer (some ⟨b, 0, none⟩)).toArray] w _
  by_cases h2 : n ≤ 1
  · have hs := hsmall (by omega)
    subst hs
    obtain ⟨fk, hfk⟩ : ∃ fk, P.funcs.findIdx? (·.name == "internal/reflectlite" ++ ".Swapper$" ++ toString (swapperK n ie ke)) = some fk := by
      match n, h2 with
      | 0, _ => exact ⟨f1, by simpa [swapperK] using hf1⟩
      | 1, _ => exact ⟨f2, by simpa [swapperK] using hf2⟩
    refine (Any.sort_SliceStable_tiny Ly t e i ie hi hd hpk hie ke hke p n c h2 fk hfk (.func gid) #[] _ w).mono ?_
    rintro en w' ⟨rfl, os, rfl⟩
    exact same_post (P := P) hgs hob (cls_grow w os)
  · have h2' : 2 ≤ n := by omega
    refine (Any.sort_SliceStable_of_stable Ly t e i ie hi hd hpk hie ke hke p n c (by omega) sf (by rw [hK n h2']; exact hfK) (.func gid) #[] _ w
      (fun w' => ∃ v ρ' g', Ending.returned (.tuple #[]) = Ending.returned v ∧ (∀ id, id ∉ ([] : List (Nat × OB)).map (·.1) → ρ' id = ρ id) ∧ Fw (PB ρ pre) w w' ∧ GSub g' w' ∧
        (∀ b c, g b = some c → g' b = some c) ∧ (∀ b c, g' b = some c → g b = some c ∨ PB ρ pre b ∨ w.heap.size ≤ b) ∧ CR ρ' g' (.tup []) v ∧ Objs ρ' g' w' (fun b => PB ρ pre b ∨ w.heap.size ≤ b) (pre' ++ [])) ?_).mono ?_
    · have hB : sliceBound P e ie ke p n c = #[.slice p n c, typeHandle P e] := by
        unfold sliceBound; rw [if_neg (swapperK_gt _ _ _ h2')]
      rw [hB]
      have hc : Cls w (stableWorld P σ t p n c w) := by
        unfold stableWorld
        exact ((Below.refl _ _).alloc (Nat.le_refl _) _).alloc ((Below.refl _ _).alloc (Nat.le_refl _) (.cells #[.slice p n c] t)).size _
      have h0 := hst (by omega) ρ g (stableWorld P σ t p n c w) [.agg #[.func (.func gid) #[] (bs.map fun b => Value.pointer (some ⟨b, 0, none⟩)).toArray, .func (.func sf) #[] #[.slice p n c, typeHandle P e]], .int .i64 n] (htab.mono fun _ _ h => h) (hgs.cls hc)
        ⟨hob.ids, fun q hq => (hob.ok q hq).cls hc, fun q hq k hk => Nat.lt_of_lt_of_le (hob.own q hq k hk) hc.size, hob.apart, hob.ro⟩
        ⟨⟨_, rfl, ⟨bs, hbs, rfl⟩, ⟨by rw [hF, hr], rfl⟩, trivial⟩, by rw [hn]; rfl, trivial⟩
      refine h0.mono ?_
      rintro en w' ⟨v, ρ', g', rfl, e2, e3, e4, e5, e6, ⟨ys, e7, e7'⟩, e8⟩
      have : ys = [] := by
        cases ys with
        | nil => rfl
        | cons => exact e7'.elim
      subst this
      subst e7
      have hsz := hc.size
      refine ⟨rfl, .tuple #[], ρ', g', rfl, e2, (Fw.of_below hc).trans e3 (fun _ _ h => h), e4, e5, fun b c hb => ?_, ⟨[], rfl, trivial⟩, ⟨e8.ids, e8.ok, fun q hq k hk => ?_, e8.apart, e8.ro⟩⟩
      · rcases e6 b c hb with h | h | h
        · exact .inl h
        · exact .inr (.inl h)
        · exact .inr (.inr (by omega))
      · rcases e8.own q hq k hk with h | h
        · exact .inl h
        · exact .inr (by omega)
    · rintro en w' ⟨rfl, hR⟩
      exact hR
theorem swap_cond {P : Program} {F : Value → Value} {sz : Nat} {α : Type} (enc : α → List Value) (hS : SwOk P F sz) {row : List α} {i j : Int} {a b : α} (h1 : gi row i = some a) (h2 : gi row j = some b) :
    SwOk P F sz ∧ 0 ≤ i ∧ 0 ≤ j ∧ (row.map enc)[i.toNat]? = some (enc a) ∧ (row.map enc)[j.toNat]? = some (enc b) ∧ ((row.map enc).set i.toNat (enc b)).set j.toNat (enc a) = (List.set (List.set row (Int.toNat i) b) (Int.toNat j) a).map enc :=
  ⟨hS, (gi_map enc h1).1, (gi_map enc h2).1, (gi_map enc h1).2, (gi_map enc h2).2, by rw [set_map, set_map]⟩
end Go.Sx
