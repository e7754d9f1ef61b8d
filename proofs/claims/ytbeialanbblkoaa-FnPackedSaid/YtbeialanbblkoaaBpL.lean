/- The draws of things to pack: they end, with a few things, numbers and boxes. -/
import Derived.Test.YtbeialanbblkoaaBpC
namespace Go.Sx
set_option linter.unusedVariables false

theorem draw2 (N : Nat) (hN : N ≤ 1000) (s : List Int × Int × Int × List Thing × Int) (hc : CurOk ⟨s.1, s.2.1, s.2.2.1⟩) (hl : s.2.2.2.1.length = N) (hk : 0 ≤ s.2.2.2.2) (hk2 : s.2.2.2.2 ≤ 1000000) :
    ∃ x, loopM spec_l5Draw_L2 big s = some x ∧ ∃ c l, x = .inl (c.b, c.i, c.h, l) ∧ CurOk c ∧ l.length = N := by
  refine loopM_tot (body := spec_l5Draw_L2) (fun s => CurOk ⟨s.1, s.2.1, s.2.2.1⟩ ∧ s.2.2.2.1.length = N ∧ 0 ≤ s.2.2.2.2 ∧ s.2.2.2.2 ≤ 1000000) (fun s => s.2.2.2.2.toNat) (fun x => ∃ c l, x = .inl (c.b, c.i, c.h, l) ∧ CurOk c ∧ l.length = N) (fun s hs => ?_) big s ⟨hc, hl, hk, hk2⟩ (by unfold big; omega)
  obtain ⟨b, i, h, l, k⟩ := s
  obtain ⟨hc, hl, hk, hk2⟩ := hs
  simp only at hc hl hk hk2
  by_cases h0 : k > 0
  · obtain ⟨v1, c1, e1, hc1⟩ := l5Id_ok hc l
    obtain ⟨v2, c2, e2, hc2⟩ := l5Id_ok hc1 l
    have hw : w64 (k - 1) = k - 1 := w64_id (by omega) (by omega)
    have hp := spec_PutInto_eq l v1 v2 (by omega)
    refine .inl ⟨_, (by simp only [spec_l5Draw_L2, spec_l5Draw_L2_b, h0, decide_true, cond_true, e1, e2, hp, Option.bind_some, hw]; rfl), ⟨hc2, ?_, ?_, ?_⟩, ?_⟩
    · show (putV l v1 v2).1.length = N; rw [putV_le]; exact hl
    · show 0 ≤ k - 1; omega
    · show k - 1 ≤ 1000000; omega
    · show (k - 1).toNat < k.toNat; omega
  · exact .inr (.inl ⟨(b, i, h, l), by simp [spec_l5Draw_L2, spec_l5Draw_L2_b, h0], ⟨b, i, h⟩, l, rfl, hc, hl⟩)
theorem draw3 (N : Nat) (hN : N ≤ 1000) (s : List Int × Int × Int × List Thing × Int) (hc : CurOk ⟨s.1, s.2.1, s.2.2.1⟩) (hl : s.2.2.2.1.length = N) (hk : 0 ≤ s.2.2.2.2) (hk2 : s.2.2.2.2 ≤ 1000000) :
    ∃ x, loopM spec_l5Draw_L3 big s = some x ∧ ∃ c l, x = .inl (c.b, c.i, c.h, l) ∧ CurOk c ∧ l.length = N := by
  refine loopM_tot (body := spec_l5Draw_L3) (fun s => CurOk ⟨s.1, s.2.1, s.2.2.1⟩ ∧ s.2.2.2.1.length = N ∧ 0 ≤ s.2.2.2.2 ∧ s.2.2.2.2 ≤ 1000000) (fun s => s.2.2.2.2.toNat) (fun x => ∃ c l, x = .inl (c.b, c.i, c.h, l) ∧ CurOk c ∧ l.length = N) (fun s hs => ?_) big s ⟨hc, hl, hk, hk2⟩ (by unfold big; omega)
  obtain ⟨b, i, h, l, k⟩ := s
  obtain ⟨hc, hl, hk, hk2⟩ := hs
  simp only at hc hl hk hk2
  by_cases h0 : k > 0
  · obtain ⟨v1, c1, e1, hc1⟩ := l5Id_ok hc l
    have hw : w64 (k - 1) = k - 1 := w64_id (by omega) (by omega)
    have hp := spec_SealBox_eq l v1 true (by omega)
    refine .inl ⟨_, (by simp only [spec_l5Draw_L3, spec_l5Draw_L3_b, h0, decide_true, cond_true, e1, hp, Option.bind_some, hw]; rfl), ⟨hc1, ?_, ?_, ?_⟩, ?_⟩
    · show (seaV l v1 true).1.length = N; rw [seaV_le]; exact hl
    · show 0 ≤ k - 1; omega
    · show k - 1 ≤ 1000000; omega
    · show (k - 1).toNat < k.toNat; omega
  · exact .inr (.inl ⟨(b, i, h, l), by simp [spec_l5Draw_L3, spec_l5Draw_L3_b, h0], ⟨b, i, h⟩, l, rfl, hc, hl⟩)
theorem l5Draw_ok {c : l1Cur} (h : CurOk c) (most : Int) (hm : most ≤ 100) (hm0 : 0 < most) : ∃ l c', spec_l5Draw c most = some (l, c') ∧ CurOk c' ∧ 2 ≤ l.length ∧ (l.length : Int) ≤ 1 + most := by
  obtain ⟨v1, c1, e1, hc1, b0, b1, b2⟩ := l1Below_ok h most
  have hv : v1 ≤ 100 := by
    have := b1 hm0
    omega
  have hb1 := b1 hm0
  have hw : w64 (2 + v1) = 2 + v1 := w64_id (by omega) (by omega)
  obtain ⟨x1, f1, c2, l2, rfl, hc2, hl2⟩ := draw1 (2 + v1).toNat (by omega) (c1.b, c1.i, c1.h, [], 0, 2 + v1) hc1 (by simp; omega) (by show 0 ≤ 2 + v1; omega)
  obtain ⟨v3, c3, e3, hc3, d0, d1, d2⟩ := l1Below_ok hc2 (2 * (l2.length : Int))
  have hw2 : w64 (2 * (l2.length : Int)) = 2 * (l2.length : Int) := w64_id (by omega) (by omega)
  have hd := d1 (by omega)
  obtain ⟨x2, f2, c4, l4, rfl, hc4, hl4⟩ := draw2 l2.length (by omega) (c3.b, c3.i, c3.h, l2, v3) hc3 rfl d0 (by show v3 ≤ 1000000; omega)
  obtain ⟨v5, c5, e5, hc5, g0, g1, g2⟩ := l1Below_ok hc4 3
  have hg := g1 (by omega)
  obtain ⟨x3, f3, c6, l6, rfl, hc6, hl6⟩ := draw3 l2.length (by omega) (c5.b, c5.i, c5.h, l4, v5) hc5 hl4 g0 (by show v5 ≤ 1000000; omega)
  refine ⟨l6, c6, ?_, hc6, by omega, by omega⟩
  simp only [spec_l5Draw, e1, Option.bind_some, hw, f1, spec_l5Draw_L1_k, spec_l5Draw_L1_a, hw2, e3, f2, spec_l5Draw_L2_k, spec_l5Draw_L2_a, e5, f3, spec_l5Draw_L3_k, spec_l5Draw_L3_a]
theorem l5Any_ok {c : l1Cur} (h : CurOk c) : ∃ l c', spec_l5Any c = some (l, c') ∧ CurOk c' ∧ 2 ≤ l.length ∧ (l.length : Int) ≤ 9 := by
  obtain ⟨l, c1, e1, hc1, hl1, hl2⟩ := l5Draw_ok h 8 (by omega) (by omega)
  have hl2 : (l.length : Int) ≤ 9 := by omega
  obtain ⟨k, c2, e2, hc2, k0, k1, _⟩ := l1Below_ok hc1 (l.length : Int)
  have hk := k1 (by omega)
  obtain ⟨q, c3, e3, hc3, q0, _, _⟩ := l1Below_ok hc2 12
  have gk := gi_get k0 hk
  have g0 : gi l 0 = some (l[(0 : Int).toNat]?.getD default) := gi_get (by omega) (by omega)
  unfold spec_l5Any
  simp only [e1, e2, e3, Option.bind_some, gk, g0, beqI]
  by_cases q0' : q = 0
  · obtain ⟨v, c4, e4, hc4, v0, v1, _⟩ := l1Below_ok hc3 (l.length : Int)
    simp only [q0', decide_true, cond_true, e4, Option.bind_some, gi_get v0 (v1 (by omega))]
    exact ⟨_, _, rfl, hc4, by simpa using hl1, by simpa using hl2⟩
  by_cases q1 : q = 1
  · obtain ⟨v, c4, e4, hc4, _⟩ := l1Int_ok hc3 [0, (-1), 30000, 30001] (by simp)
    subst q1
    exact ⟨_, _, by simp only [q0', decide_false, cond_false, decide_true, cond_true, e4, Option.bind_some]; rfl, hc4, by simpa using hl1, by simpa using hl2⟩
  by_cases q2 : q = 2
  · obtain ⟨v, c4, e4, hc4, _⟩ := l1Int_ok hc3 [0, 1, 1000000, 1000001] (by simp)
    exact ⟨_, _, by simp only [q0', q1, q2, decide_false, cond_false, decide_true, cond_true, e4, Option.bind_some]; rfl, hc4, by simpa using hl1, by simpa using hl2⟩
  by_cases q3 : q = 3
  · exact ⟨_, _, by simp only [q0', q1, q2, q3, decide_false, cond_false, decide_true, cond_true]; rfl, hc3, by simpa using hl1, by simpa using hl2⟩
  by_cases q4 : q = 4
  · exact ⟨_, _, by simp only [q0', q1, q2, q3, q4, decide_false, cond_false, decide_true, cond_true]; rfl, hc3, by simpa using hl1, by simpa using hl2⟩
  by_cases q5 : q = 5
  · obtain ⟨v, c4, e4, hc4, _⟩ := l1Int_ok hc3 [0, 9999, 10000, (l[(0 : Int).toNat]?.getD default).Id] (by simp)
    exact ⟨_, _, by simp only [q0', q1, q2, q3, q4, q5, decide_false, cond_false, decide_true, cond_true, e4, Option.bind_some]; rfl, hc4, by simpa using hl1, by simpa using hl2⟩
  by_cases q6 : q = 6
  · obtain ⟨v, c4, e4, hc4, _⟩ := l1Int_ok hc3 [(-1), 9998] (by simp)
    exact ⟨_, _, by simp only [q0', q1, q2, q3, q4, q5, q6, decide_false, cond_false, decide_true, cond_true, e4, Option.bind_some]; rfl, hc4, by simpa using hl1, by simpa using hl2⟩
  exact ⟨_, _, by simp only [q0', q1, q2, q3, q4, q5, q6, decide_false, cond_false], hc3, hl1, hl2⟩
/-- the draw of things to pack: a few things, numbers and boxes -/
theorem pack_draw (l : List Thing) (hl : (l.length : Int) ≤ 13) (s : List Int × Int × Int × List Int × List Int × Int) (hc : CurOk ⟨s.1, s.2.1, s.2.2.1⟩) (hs : s.2.2.2.1 = [] ∧ s.2.2.2.2.1 = []) (hk : s.2.2.2.2.2 = 0) :
    ∃ x, loopM (spec_DrawPackAll_L1 l) big s = some x ∧ ∃ c ids bs, x = .inl (c.b, c.i, c.h, ids, bs) ∧ CurOk c ∧ ids.length + bs.length ≤ l.length := by
  refine loopM_tot (body := spec_DrawPackAll_L1 l) (fun s => CurOk ⟨s.1, s.2.1, s.2.2.1⟩ ∧ ∃ k : Nat, s.2.2.2.2.2 = (k : Int) ∧ k ≤ l.length ∧ s.2.2.2.1.length + s.2.2.2.2.1.length ≤ k) (fun s => l.length - s.2.2.2.2.2.toNat) (fun x => ∃ c ids bs, x = .inl (c.b, c.i, c.h, ids, bs) ∧ CurOk c ∧ ids.length + bs.length ≤ l.length) (fun s hs => ?_) big s ⟨hc, 0, hk, by omega, by simp [hs]⟩ (by unfold big; omega)
  obtain ⟨b, i, h, ids, bs, k⟩ := s
  obtain ⟨hc, k, hk, hkl, hn⟩ := hs
  simp only at hc hk hn
  subst hk
  by_cases h0 : k < l.length
  · have hi : ((k : Int) < (l.length : Int)) := by omega
    have hw : w64 ((k : Int) + 1) = ((k + 1 : Nat) : Int) := w64_succ (by omega)
    have hap : ∀ (L : List Int) (t : Int), L.length ≤ 13 → ap 8 L [t] = some (L ++ [t]) := fun L t hL => ap_eq (by simp; omega) (by omega)
    have h1 : ids.length ≤ 13 := by omega
    have h2 : bs.length ≤ 13 := by omega
    cases hb : l[k].Box with
    | true =>
      obtain ⟨v1, c1, e1, hc1⟩ := l1Once_ok hc 2
      cases v1 with
      | true =>
        refine .inl ⟨(c1.b, c1.i, c1.h, ids, bs ++ [l[k].Id], ((k + 1 : Nat) : Int)), ?_, ⟨hc1, k + 1, rfl, by omega, by simp; omega⟩, by simp; omega⟩
        simp only [spec_DrawPackAll_L1, spec_DrawPackAll_L1_b, hi, decide_true, cond_true, gi_nat h0, Option.bind_some, hb, e1, hap bs _ h2, hw]
      | false =>
        obtain ⟨v2, c2, e2, hc2⟩ := l1Once_ok hc1 2
        cases v2 with
        | true =>
          refine .inl ⟨(c2.b, c2.i, c2.h, ids ++ [l[k].Id], bs, ((k + 1 : Nat) : Int)), ?_, ⟨hc2, k + 1, rfl, by omega, by simp; omega⟩, by simp; omega⟩
          simp only [spec_DrawPackAll_L1, spec_DrawPackAll_L1_b, hi, decide_true, cond_true, cond_false, gi_nat h0, Option.bind_some, hb, e1, e2, hap ids _ h1, hw]
        | false =>
          refine .inl ⟨(c2.b, c2.i, c2.h, ids, bs, ((k + 1 : Nat) : Int)), ?_, ⟨hc2, k + 1, rfl, by omega, by simp only; omega⟩, by simp; omega⟩
          simp only [spec_DrawPackAll_L1, spec_DrawPackAll_L1_b, hi, decide_true, cond_true, cond_false, gi_nat h0, Option.bind_some, hb, e1, e2, hw]
    | false =>
      obtain ⟨v2, c2, e2, hc2⟩ := l1Once_ok hc 2
      cases v2 with
      | true =>
        refine .inl ⟨(c2.b, c2.i, c2.h, ids ++ [l[k].Id], bs, ((k + 1 : Nat) : Int)), ?_, ⟨hc2, k + 1, rfl, by omega, by simp; omega⟩, by simp; omega⟩
        simp only [spec_DrawPackAll_L1, spec_DrawPackAll_L1_b, hi, decide_true, cond_true, cond_false, gi_nat h0, Option.bind_some, hb, e2, hap ids _ h1, hw]
      | false =>
        refine .inl ⟨(c2.b, c2.i, c2.h, ids, bs, ((k + 1 : Nat) : Int)), ?_, ⟨hc2, k + 1, rfl, by omega, by simp only; omega⟩, by simp; omega⟩
        simp only [spec_DrawPackAll_L1, spec_DrawPackAll_L1_b, hi, decide_true, cond_true, cond_false, gi_nat h0, Option.bind_some, hb, e2, hw]
  · have hi : ¬ ((k : Int) < (l.length : Int)) := by omega
    exact .inr (.inl ⟨(b, i, h, ids, bs), by simp only [spec_DrawPackAll_L1, spec_DrawPackAll_L1_b, hi, decide_false, cond_false], ⟨b, i, h⟩, ids, bs, rfl, hc, by omega⟩)
theorem pack_draw1 (l : List Thing) (hl : (l.length : Int) ≤ 13) (c : l1Cur) (hc : CurOk c) : ∃ ids bs, spec_DrawPackAll_j1 c.b c.i c.h l = some (l, ids, bs) ∧ ids.length ≤ 14 ∧ bs.length ≤ 13 := by
  obtain ⟨x, e, c1, ids, bs, rfl, hc1, hn⟩ := pack_draw l hl (c.b, c.i, c.h, [], [], 0) hc ⟨rfl, rfl⟩ rfl
  obtain ⟨v, c2, e2, hc2⟩ := l1Once_ok hc1 5
  unfold spec_DrawPackAll_j1
  rw [e]
  simp only [Option.bind_some, spec_DrawPackAll_L1_k, spec_DrawPackAll_L1_a, e2]
  cases v with
  | true =>
    obtain ⟨v3, c3, e3, _⟩ := l5Id_ok hc2 l
    refine ⟨ids ++ [v3], bs, ?_, by simp; omega, by omega⟩
    simp only [cond_true, e3, Option.bind_some, ap_eq (b := 8) (l := ids) (m := [v3]) (by simp; omega) (by omega)]
  | false => exact ⟨ids, bs, rfl, by omega, by omega⟩
theorem drawPackAll_ok (a : List Int) (ha : a.length ≤ 4096) : ∃ l ids bs, spec_DrawPackAll a = some (l, ids, bs) ∧ l.length ≤ 13 ∧ ids.length ≤ 14 ∧ bs.length ≤ 13 := by
  obtain ⟨c, e, hc⟩ := l1New_ok a ha
  obtain ⟨l, c1, e1, hc1, _, hl⟩ := l5Draw_ok hc 12 (by omega) (by omega)
  obtain ⟨v, c2, e2, hc2⟩ := l1Once_ok hc1 9
  cases v with
  | true =>
    obtain ⟨l2, c3, e3, hc3, _, hl2⟩ := l5Any_ok hc2
    obtain ⟨ids, bs, e4, h1, h2⟩ := pack_draw1 l2 (by omega) c3 hc3
    exact ⟨l2, ids, bs, by simp only [spec_DrawPackAll, e, e1, e2, e3, Option.bind_some, cond_true, e4], by omega, h1, h2⟩
  | false =>
    obtain ⟨ids, bs, e4, h1, h2⟩ := pack_draw1 l (by omega) c2 hc2
    exact ⟨l, ids, bs, by simp only [spec_DrawPackAll, e, e1, e2, Option.bind_some, cond_false, e4], by omega, h1, h2⟩
end Go.Sx
