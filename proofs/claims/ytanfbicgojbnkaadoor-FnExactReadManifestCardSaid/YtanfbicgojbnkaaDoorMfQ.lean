/- The int of a numeral, as the program reads it: a contract that leans on what lies in three variables. -/
import Derived.Test.YtanfbicgojbnkaaDoorMfP
import Derived.Shelf.Strconv.AtoiAll
namespace Go.Proofs
open Go.Shelf
def Tryd.laysAtoi_ren : Go.Shelf.Ren := ⟨fun | 172 => 55 | 244 => 60 | 245 => 61 | 247 => 69 | 279 => 70 | 280 => 71 | 281 => 72 | 282 => 73 | 287 => 79 | 316 => 80 | 171 => 40 | 205 => 81 | 321 => 84 | 322 => 85 | 243 => 53 | 246 => 59 | 283 => 65 | 284 => 66 | 285 => 67 | 286 => 68 | 129 => 75 | 317 => 74 | 318 => 76 | 319 => 77 | 320 => 78 | 337 => 82 | 338 => 83 | n => n, fun | 9 => 9 | 3 => 3 | 75 => 73 | 76 => 74 | 4 => 4 | 5 => 5 | 167 => 90 | 37 => 22 | 0 => 0 | 85 => 91 | 2 => 2 | 168 => 93 | 53 => 85 | 175 => 102 | 46 => 83 | 210 => 106 | 127 => 110 | 145 => 113 | 143 => 111 | 21 => 21 | 171 => 84 | 173 => 88 | 212 => 98 | 51 => 99 | 20 => 20 | 213 => 100 | 232 => 114 | 233 => 115 | 80 => 116 | n => n, fun | 15 => 1 | 16 => 2 | 17 => 0 | 18 => 3 | 19 => 4 | n => n⟩
theorem Tryd.laysAtoi : Go.Proofs.LaysC.n172 Tryd.prog Tryd.laysAtoi_ren := {
  mixed := by kernel_rfl
  f129 := Tryd.func75.trans (congrArg some (by kernel_rfl))
  f171 := Tryd.func40.trans (congrArg some (by kernel_rfl))
  f172 := Tryd.func55.trans (congrArg some (by kernel_rfl))
  f205 := Tryd.func81.trans (congrArg some (by kernel_rfl))
  f243 := Tryd.func53.trans (congrArg some (by kernel_rfl))
  f244 := Tryd.func60.trans (congrArg some (by kernel_rfl))
  f245 := Tryd.func61.trans (congrArg some (by kernel_rfl))
  f246 := Tryd.func59.trans (congrArg some (by kernel_rfl))
  f247 := Tryd.func69.trans (congrArg some (by kernel_rfl))
  f279 := Tryd.func70.trans (congrArg some (by kernel_rfl))
  f280 := Tryd.func71.trans (congrArg some (by kernel_rfl))
  f281 := Tryd.func72.trans (congrArg some (by kernel_rfl))
  f282 := Tryd.func73.trans (congrArg some (by kernel_rfl))
  f283 := Tryd.func65.trans (congrArg some (by kernel_rfl))
  f284 := Tryd.func66.trans (congrArg some (by kernel_rfl))
  f285 := Tryd.func67.trans (congrArg some (by kernel_rfl))
  f286 := Tryd.func68.trans (congrArg some (by kernel_rfl))
  f287 := Tryd.func79.trans (congrArg some (by kernel_rfl))
  f316 := Tryd.func80.trans (congrArg some (by kernel_rfl))
  f317 := Tryd.func74.trans (congrArg some (by kernel_rfl))
  f318 := Tryd.func76.trans (congrArg some (by kernel_rfl))
  f319 := Tryd.func77.trans (congrArg some (by kernel_rfl))
  f320 := Tryd.func78.trans (congrArg some (by kernel_rfl))
  f321 := Tryd.func84.trans (congrArg some (by kernel_rfl))
  f322 := Tryd.func85.trans (congrArg some (by kernel_rfl))
  f337 := Tryd.func82.trans (congrArg some (by kernel_rfl))
  f338 := Tryd.func83.trans (congrArg some (by kernel_rfl))
  t0 := Tryd.underlying0
  a0 := Tryd.isAgg0
  z0 := Tryd.sizeOf0
  v0 := Tryd.zeroValue0
  t2 := Tryd.underlying2
  a2 := Tryd.isAgg2
  z2 := Tryd.sizeOf2
  v2 := Tryd.zeroValue2
  t3 := Tryd.underlying3
  a3 := Tryd.isAgg3
  z3 := Tryd.sizeOf3
  v3 := Tryd.zeroValue3
  t4 := Tryd.underlying4
  a4 := Tryd.isAgg4
  z4 := Tryd.sizeOf4
  v4 := Tryd.zeroValue4
  t5 := Tryd.underlying5
  a5 := Tryd.isAgg5
  z5 := Tryd.sizeOf5
  v5 := Tryd.zeroValue5
  t9 := Tryd.underlying9
  a9 := Tryd.isAgg9
  z9 := Tryd.sizeOf9
  v9 := Tryd.zeroValue9
  t20 := Tryd.underlying20
  a20 := Tryd.isAgg20
  z20 := Tryd.sizeOf20
  v20 := Tryd.zeroValue20
  t21 := Tryd.underlying21
  a21 := Tryd.isAgg21
  z21 := Tryd.sizeOf21
  v21 := Tryd.zeroValue21
  t37 := Tryd.underlying22
  a37 := Tryd.isAgg22
  z37 := Tryd.sizeOf22
  v37 := Tryd.zeroValue22
  t46 := Tryd.underlying83
  a46 := Tryd.isAgg83
  z46 := Tryd.sizeOf83
  v46 := Tryd.zeroValue83
  t51 := Tryd.underlying99
  a51 := Tryd.isAgg99
  z51 := Tryd.sizeOf99
  v51 := Tryd.zeroValue99
  t53 := Tryd.underlying85
  a53 := Tryd.isAgg85
  z53 := Tryd.sizeOf85
  v53 := Tryd.zeroValue85
  t75 := Tryd.underlying73
  a75 := Tryd.isAgg73
  z75 := Tryd.sizeOf73
  v75 := Tryd.zeroValue73
  t76 := Tryd.underlying74
  a76 := Tryd.isAgg74
  z76 := Tryd.sizeOf74
  v76 := Tryd.zeroValue74
  t85 := Tryd.underlying91
  a85 := Tryd.isAgg91
  z85 := Tryd.sizeOf91
  v85 := Tryd.zeroValue91
  t127 := Tryd.underlying110
  a127 := Tryd.isAgg110
  z127 := Tryd.sizeOf110
  v127 := Tryd.zeroValue110
  t143 := Tryd.underlying111
  a143 := Tryd.isAgg111
  z143 := Tryd.sizeOf111
  v143 := Tryd.zeroValue111
  t145 := Tryd.underlying113
  a145 := Tryd.isAgg113
  z145 := Tryd.sizeOf113
  v145 := Tryd.zeroValue113
  t167 := Tryd.underlying90
  a167 := Tryd.isAgg90
  z167 := Tryd.sizeOf90
  v167 := Tryd.zeroValue90
  t168 := Tryd.underlying93
  a168 := Tryd.isAgg93
  z168 := Tryd.sizeOf93
  v168 := Tryd.zeroValue93
  t171 := Tryd.underlying84
  a171 := Tryd.isAgg84
  z171 := Tryd.sizeOf84
  v171 := Tryd.zeroValue84
  t173 := Tryd.underlying88
  a173 := Tryd.isAgg88
  z173 := Tryd.sizeOf88
  v173 := Tryd.zeroValue88
  t175 := Tryd.underlying102
  a175 := Tryd.isAgg102
  z175 := Tryd.sizeOf102
  v175 := Tryd.zeroValue102
  t210 := Tryd.underlying106
  a210 := Tryd.isAgg106
  z210 := Tryd.sizeOf106
  v210 := Tryd.zeroValue106
  t212 := Tryd.underlying98
  a212 := Tryd.isAgg98
  z212 := Tryd.sizeOf98
  v212 := Tryd.zeroValue98
  t213 := Tryd.underlying100
  a213 := Tryd.isAgg100
  z213 := Tryd.sizeOf100
  t232 := Tryd.underlying114
  a232 := Tryd.isAgg114
  z232 := Tryd.sizeOf114
  v232 := Tryd.zeroValue114
  t233 := Tryd.underlying115
  a233 := Tryd.isAgg115
  z233 := Tryd.sizeOf115
  v233 := Tryd.zeroValue115
  g15 := by kernel_rfl
  g16 := by kernel_rfl
  g17 := by kernel_rfl
  g18 := by kernel_rfl
  g19 := by kernel_rfl
  t80 := Tryd.underlying116
  a80 := Tryd.isAgg116
  z80 := Tryd.sizeOf116
  v80 := Tryd.zeroValue116
  i0 := by kernel_rfl
  i2 := by kernel_rfl
  i3 := by kernel_rfl
  i4 := by kernel_rfl
  i5 := by kernel_rfl
  i9 := by kernel_rfl
  i20 := by kernel_rfl
  i21 := by kernel_rfl
  i37 := by kernel_rfl
  i46 := by kernel_rfl
  i51 := by kernel_rfl
  i53 := by kernel_rfl
  i75 := by kernel_rfl
  i76 := by kernel_rfl
  i80 := by kernel_rfl
  i85 := by kernel_rfl
  i127 := by kernel_rfl
  i143 := by kernel_rfl
  i145 := by kernel_rfl
  i167 := by kernel_rfl
  i168 := by kernel_rfl
  i171 := by kernel_rfl
  i173 := by kernel_rfl
  i175 := by kernel_rfl
  i210 := by kernel_rfl
  i212 := by kernel_rfl
  i232 := by kernel_rfl
  i233 := by kernel_rfl
  m15 := by kernel_rfl
  m16 := by kernel_rfl
  m17 := by kernel_rfl
  m18 := by kernel_rfl
  m19 := by kernel_rfl
  c0 := by kernel_rfl
  c2 := by kernel_rfl
  c3 := by kernel_rfl
  c4 := by kernel_rfl
  c5 := by kernel_rfl
  c9 := by kernel_rfl
  c20 := by kernel_rfl
  c21 := by kernel_rfl
  c37 := by kernel_rfl
  c46 := by kernel_rfl
  c51 := by kernel_rfl
  c53 := by kernel_rfl
  c75 := by kernel_rfl
  c76 := by kernel_rfl
  c80 := by kernel_rfl
  c85 := by kernel_rfl
  c127 := by kernel_rfl
  c143 := by kernel_rfl
  c145 := by kernel_rfl
  c167 := by kernel_rfl
  c168 := by kernel_rfl
  c171 := by kernel_rfl
  c173 := by kernel_rfl
  c175 := by kernel_rfl
  c210 := by kernel_rfl
  c212 := by kernel_rfl
  c213 := by kernel_rfl
  c232 := by kernel_rfl
  c233 := by kernel_rfl }
end Go.Proofs
namespace Go.Sx
open Go.Proofs Go.RowKit
set_option linter.unusedVariables false
set_option maxRecDepth 100000

/-- the int that a text spells, as the program reads it: the text is its numeral -/
def pI (s : ByteArray) : Int × Bool := match Lib.atoiAll s.data.toList with
  | .ok v => if v < 0 ∨ v > 1000000000 ∨ (Lib.itoa v) ≠ s.data.toList then (0, false) else (v, true)
  | _ => (0, false)
theorem parse_calls {g : GHeap} {w : World} (ht : Tab g) (hgs : GSub g w) (s : ByteArray) (hl : s.size ≤ 281474976710656) :
    Calls Tryd.prog 45 #[.string s] w fun e w' => e = .returned (.tuple #[.int .i64 (pI s).1, .bool (pI s).2]) ∧ Below w.heap.size w w' := by
  obtain ⟨_, ⟨t1, p1, hs1⟩, t2, p2, hs2⟩ := id ht
  obtain ⟨e1, fr1, hh1⟩ := hgs _ _ hs1
  obtain ⟨e2, fr2, hh2⟩ := hgs _ _ hs2
  have hv1 : w.cell? ⟨1, 0, none⟩ = some (.iface t1 p1) := by simp [World.cell?, hh1]
  have hv2 : w.cell? ⟨2, 0, none⟩ = some (.iface t2 p2) := by simp [World.cell?, hh2]
  rcases hA : Lib.atoiAll s.data.toList with v | _ | _
  · obtain ⟨vb0, vb1⟩ := Lib.atoiAll_bounds hA
    have hat := Any.strconv_Atoi_ok Tryd.laysAtoi s (by omega) v hA w
    have hW : ∀ w', (w' = w ∨ ∃ t, w' = Lib.bytesWorld w (Tryd.laysAtoi_ren.t 5) t) → Below w.heap.size w w' := by
      rintro w' (rfl | ⟨t, rfl⟩)
      · exact Below.refl _ _
      · exact Lib.bytesWorld_below _ _ _
    by_cases hn : v < 0
    · have hp : pI s = (0, false) := by simp [pI, hA, hn]
      rw [hp]
      clear hA hp
      go_enter Tryd.func45, Tryd.ntmps45
      go_wp2_with (go_at_call 55; refine hat.mono ?_; rintro e W1 ⟨rfl, hW1⟩)
      go_wp2
      go_ret2
      exact ⟨rfl, hW _ hW1⟩
    · by_cases hb : v > 1000000000
      · have hp : pI s = (0, false) := by simp [pI, hA, hb]
        rw [hp]
        clear hA hp
        go_enter Tryd.func45, Tryd.ntmps45
        go_wp2_with (go_at_call 55; refine hat.mono ?_; rintro e W1 ⟨rfl, hW1⟩)
        go_wp2
        go_ret2
        exact ⟨rfl, hW _ hW1⟩
      · have hit : ∀ W1, Below w.heap.size w W1 → Calls Tryd.prog 40 #[.int .i64 v] W1 fun e w' => e = .returned (.string ⟨(Lib.itoa v).toArray⟩) ∧ Below w.heap.size w w' := fun W1 hB =>
          (itoa_calls ht (hgs.cls hB) v vb0 vb1).mono fun e w' ⟨h1, h2⟩ => ⟨h1, hB.trans (h2.mono hB.size)⟩
        by_cases hs : (⟨(Lib.itoa v).toArray⟩ : ByteArray) = s
        · have hp : pI s = (v, true) := by
            have : Lib.itoa v = s.data.toList := by rw [← hs]
            simp [pI, hA, hn, hb, this]
          rw [hp]
          clear hA hp
          go_enter Tryd.func45, Tryd.ntmps45
          go_wp2_with (go_at_call 55; refine hat.mono ?_; rintro e W1 ⟨rfl, hW1⟩)
          have hB := hW _ hW1
          go_wp2_with (go_at_call 40; refine (hit _ hB).mono ?_; rintro e W2 ⟨rfl, hB2⟩)
          go_wp2
          go_ret2
          exact ⟨rfl, hB2⟩
        · have hp : pI s = (0, false) := by
            have : Lib.itoa v ≠ s.data.toList := fun e => hs (by rw [e])
            simp [pI, hA, hn, hb, this]
          have hne : (Lib.itoa v == s.toList) = false := by
            rw [ByteArray.toList_eq, beq_eq_false_iff_ne]
            exact fun e => hs (by rw [e])
          rw [hp]
          clear hA hp
          go_enter Tryd.func45, Tryd.ntmps45
          go_wp2_with (go_at_call 55; refine hat.mono ?_; rintro e W1 ⟨rfl, hW1⟩)
          have hB := hW _ hW1
          go_wp2_with (go_at_call 40; refine (hit _ hB).mono ?_; rintro e W2 ⟨rfl, hB2⟩)
          go_wp2
          go_ret2
          exact ⟨rfl, hB2⟩
  · have hp : pI s = (0, false) := by simp [pI, hA]
    rw [hp]
    have hat := Any.strconv_Atoi_syntax Tryd.laysAtoi s hl hA (.iface t1 p1) w hv1 (.inr ⟨_, _, rfl⟩)
    clear hA hp
    go_enter Tryd.func45, Tryd.ntmps45
    go_wp2_with (go_at_call 55; refine hat.mono ?_; rintro e W1 ⟨N, rfl, -, -, hB⟩)
    go_wp2
    go_ret2
    exact ⟨rfl, hB⟩
  · have hp : pI s = (0, false) := by simp [pI, hA]
    rw [hp]
    have hat := Any.strconv_Atoi_range Tryd.laysAtoi s hl hA (.iface t2 p2) w hv2 (.inr ⟨_, _, rfl⟩)
    clear hA hp
    go_enter Tryd.func45, Tryd.ntmps45
    go_wp2_with (go_at_call 55; refine hat.mono ?_; rintro e W1 ⟨N, rfl, -, -, hB⟩)
    go_wp2
    go_ret2
    exact ⟨rfl, hB⟩
/-- the program's ParseInt -/
def impl_ParseInt (s : ByteArray) : Option (Int × Bool) := if s.size ≤ 281474976710656 then some (pI s) else none
theorem impl_ParseInt_ok (s : ByteArray) (r : Int × Bool) (hM : impl_ParseInt s = some r) : Con Tryd.prog 45 [.c (.v (.string s))] [] (.tup [.c (.v (.int .i64 r.1)), .c (.v (.bool r.2))]) [] [] := by
  unfold impl_ParseInt at hM
  split at hM
  · rename_i h
    have hE := Option.some.inj hM
    subst hE
    exact con_calls (xs := [.string s]) (x := .tuple #[.int .i64 (pI s).1, .bool (pI s).2]) rfl fun g w ht hgs => parse_calls ht hgs s h
  · cases hM
end Go.Sx
