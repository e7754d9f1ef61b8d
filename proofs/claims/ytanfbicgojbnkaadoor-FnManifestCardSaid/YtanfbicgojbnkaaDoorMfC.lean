/- The draws of things: they end, with two things at least and some hundreds at most. -/
import Derived.Test.YtanfbicgojbnkaaDoorMfG
namespace Go.Sx
set_option linter.unusedVariables false

structure CurOk (c : l1Cur) : Prop where
  i0 : 0 ≤ c.i
  len : c.b.length ≤ 4096
  il : c.i ≤ c.b.length
theorem and255 (x : Int) : 0 ≤ w64 ((BitVec.ofInt 64 x &&& BitVec.ofInt 64 255).toNat : Int) ∧ w64 ((BitVec.ofInt 64 x &&& BitVec.ofInt 64 255).toNat : Int) ≤ 255 := by
  have h : (BitVec.ofInt 64 x &&& BitVec.ofInt 64 255).toNat ≤ 255 := by
    rw [BitVec.toNat_and]
    exact Nat.le_trans Nat.and_le_right (by decide)
  rw [w64_id (by omega) (by omega)]
  omega
theorem l1Byte_ok {c : l1Cur} (h : CurOk c) : ∃ v c', spec_l1Byte c = some (v, c') ∧ CurOk c' ∧ 0 ≤ v ∧ v ≤ 255 := by
  unfold spec_l1Byte
  have h0 := h.i0
  have h1 := h.len
  have h2 := h.il
  by_cases hi : c.i < (c.b.length : Int)
  · rw [gi_eq h0 hi]
    simp only [hi, decide_true, cond_true, Option.bind_some]
    refine ⟨_, _, rfl, ⟨?_, h1, ?_⟩, (and255 _).1, (and255 _).2⟩
    · show 0 ≤ w64 (c.i + 1)
      rw [w64_id (by omega) (by omega)]; omega
    · show w64 (c.i + 1) ≤ c.b.length
      rw [w64_id (by omega) (by omega)]; omega
  · simp only [hi, decide_false, cond_false]
    exact ⟨_, _, rfl, ⟨h0, h1, h2⟩, (and255 _).1, (and255 _).2⟩
theorem tmod_in {x n : Int} (h0 : 0 ≤ x) (hn : 0 < n) : 0 ≤ Int.tmod x n ∧ Int.tmod x n < n := ⟨Int.tmod_nonneg _ h0, Int.tmod_lt_of_pos _ hn⟩
theorem l1Below_ok {c : l1Cur} (h : CurOk c) (n : Int) : ∃ v c', spec_l1Below c n = some (v, c') ∧ CurOk c' ∧ 0 ≤ v ∧ (0 < n → v < n) ∧ (n ≤ 0 → v = 0) := by
  unfold spec_l1Below
  by_cases h0 : n ≤ 0
  · exact ⟨0, c, by simp [h0], h, by omega, by omega, fun _ => rfl⟩
  · by_cases h1 : n ≤ 256
    · obtain ⟨v, c', e, hc, b1, b2⟩ := l1Byte_ok h
      have := tmod_in b1 (show 0 < n by omega)
      refine ⟨Int.tmod v n, c', ?_, hc, this.1, fun _ => this.2, by omega⟩
      simp [h0, h1, e, rM, show ¬ n = 0 by omega]
    · obtain ⟨v, c1, e1, hc1, b1, b2⟩ := l1Byte_ok h
      obtain ⟨v', c2, e2, hc2, b3, b4⟩ := l1Byte_ok hc1
      obtain ⟨v'', c3, e3, hc3, b5, b6⟩ := l1Byte_ok hc2
      have w1 : w64 (v * 65536) = v * 65536 := w64_id (by omega) (by omega)
      have w2 : w64 (v' * 256) = v' * 256 := w64_id (by omega) (by omega)
      have w3 : w64 (v * 65536 + v' * 256) = v * 65536 + v' * 256 := w64_id (by omega) (by omega)
      have w4 : w64 (v * 65536 + v' * 256 + v'') = v * 65536 + v' * 256 + v'' := w64_id (by omega) (by omega)
      have := tmod_in (show 0 ≤ v * 65536 + v' * 256 + v'' by omega) (show 0 < n by omega)
      refine ⟨Int.tmod (v * 65536 + v' * 256 + v'') n, c3, ?_, hc3, this.1, fun _ => this.2, by omega⟩
      simp only [h0, h1, decide_false, cond_false, e1, e2, e3, Option.bind_some, w1, w2, w3, w4, rM, show ¬ n = 0 by omega, if_false]
theorem l1Once_ok {c : l1Cur} (h : CurOk c) (n : Int) : ∃ v c', spec_l1Once c n = some (v, c') ∧ CurOk c' := by
  obtain ⟨v, c', e, hc, _⟩ := l1Below_ok h n
  exact ⟨v == 0, c', by simp [spec_l1Once, e], hc⟩
theorem l1Int_ok {c : l1Cur} (h : CurOk c) (l : List Int) (hl : 0 < l.length) : ∃ v c', spec_l1Int c l = some (v, c') ∧ CurOk c' ∧ v ∈ l := by
  obtain ⟨v, c', e, hc, b1, b2, _⟩ := l1Below_ok h (l.length : Int)
  have hb := b2 (by omega)
  refine ⟨l[v.toNat]'(by omega), c', ?_, hc, List.getElem_mem _⟩
  simp [spec_l1Int, e, gi_eq b1 hb]
theorem l5Id_ok {c : l1Cur} (h : CurOk c) (l : List Thing) : ∃ v c', spec_l5Id c l = some (v, c') ∧ CurOk c' := by
  unfold spec_l5Id
  by_cases h0 : (l.length : Int) = 0
  · obtain ⟨v, c', e, hc, _⟩ := l1Int_ok h [0, (-1), 9999, 10000] (by simp)
    exact ⟨v, c', by simp only [beqI, h0, decide_true, cond_true, e, Option.bind_some], hc⟩
  · obtain ⟨v, c1, e1, hc1⟩ := l1Once_ok h 12
    cases v with
    | true =>
      obtain ⟨v, c', e, hc, _⟩ := l1Int_ok hc1 [0, (-1), 9999, 10000] (by simp)
      exact ⟨v, c', by simp only [beqI, h0, decide_false, cond_false, cond_true, e1, e, Option.bind_some], hc⟩
    | false =>
      obtain ⟨v, c', e, hc, b1, b2, _⟩ := l1Below_ok hc1 (l.length : Int)
      exact ⟨_, c', by simp only [beqI, h0, decide_false, cond_false, e1, e, Option.bind_some, gi_get b1 (b2 (by omega))]; rfl, hc⟩
theorem l1New_ok (a : List Int) (ha : a.length ≤ 4096) : ∃ c, spec_l1New a = some c ∧ CurOk c := by
  unfold spec_l1New
  refine (?_ : ∃ x, loopM (spec_l1New_L1 a) big (w64 (744201 + (w64 (3 * (a.length : Int)))), 0) = some x ∧ ∃ t, x = .inl t).elim fun x hx => ?_
  · refine loopM_tot (body := spec_l1New_L1 a) (fun s => 0 ≤ s.2 ∧ s.2 ≤ a.length) (fun s => ((a.length : Int) - s.2).toNat) (fun x => ∃ t, x = .inl t) (fun s hs => ?_) big _ ⟨by simp, by simp⟩ (by simp; unfold big; omega)
    obtain ⟨h, i⟩ := s
    obtain ⟨h0, h1⟩ := hs
    simp only at h0 h1
    by_cases hi : i < (a.length : Int)
    · by_cases h4 : i < 4000
      · refine .inl ⟨_, (by simp only [spec_l1New_L1, spec_l1New_L1_b, hi, h4, decide_true, cond_true, gi_eq h0 hi, Option.bind_some]; rfl), ?_, ?_⟩
        · show 0 ≤ w64 (i + 1) ∧ w64 (i + 1) ≤ a.length
          rw [w64_id (by omega) (by omega)]; omega
        · show ((a.length : Int) - w64 (i + 1)).toNat < ((a.length : Int) - i).toNat
          rw [w64_id (by omega) (by omega)]; omega
      · exact .inr (.inl ⟨h, by simp [spec_l1New_L1, spec_l1New_L1_b, hi, h4], _, rfl⟩)
    · exact .inr (.inl ⟨h, by simp [spec_l1New_L1, spec_l1New_L1_b, hi], _, rfl⟩)
  · obtain ⟨e, t, rfl⟩ := hx
    rw [e]
    exact ⟨⟨a, 0, t⟩, by simp [spec_l1New_L1_k, spec_l1New_L1_a], ⟨by simp, ha, by simp⟩⟩

theorem draw1 (N : Nat) (hN : N ≤ 1000) (s : List Int × Int × Int × List Thing × Int × Int) (hc : CurOk ⟨s.1, s.2.1, s.2.2.1⟩) (hl : (s.2.2.2.1.length : Int) + s.2.2.2.2.2 = N) (hk : 0 ≤ s.2.2.2.2.2) :
    ∃ x, loopM spec_l5Draw_L1 big s = some x ∧ ∃ c l, x = .inl (c.b, c.i, c.h, l) ∧ CurOk c ∧ l.length = N := by
  refine loopM_tot (body := spec_l5Draw_L1) (fun s => CurOk ⟨s.1, s.2.1, s.2.2.1⟩ ∧ (s.2.2.2.1.length : Int) + s.2.2.2.2.2 = N ∧ 0 ≤ s.2.2.2.2.2) (fun s => s.2.2.2.2.2.toNat) (fun x => ∃ c l, x = .inl (c.b, c.i, c.h, l) ∧ CurOk c ∧ l.length = N) (fun s hs => ?_) big s ⟨hc, hl, hk⟩ (by unfold big; omega)
  obtain ⟨b, i, h, l, id, k⟩ := s
  obtain ⟨hc, hl, hk⟩ := hs
  simp only at hc hl hk
  by_cases h0 : k > 0
  · obtain ⟨v48, c48, e48, hc48, _⟩ := l1Below_ok hc 4
    obtain ⟨v50, c50, e50, hc50, _⟩ := l1Below_ok hc48 3000
    obtain ⟨v52, c52, e52, hc52⟩ := l1Once_ok hc50 2
    have hap : ∀ t : Thing, ap 40 l [t] = some (l ++ [t]) := fun t => ap_eq (by simp; omega) (by omega)
    have hw : w64 (k - 1) = k - 1 := w64_id (by omega) (by omega)
    cases v52 with
    | true =>
      obtain ⟨v62, c62, e62, hc62, _⟩ := l1Below_ok hc52 20000
      refine .inl ⟨_, (by simp only [spec_l5Draw_L1, spec_l5Draw_L1_b, h0, decide_true, cond_true, e48, e50, e52, e62, Option.bind_some, spec_l5Draw_j1, hap, hw]; rfl), ⟨hc62, ?_, ?_⟩, ?_⟩
      · simp; omega
      · show 0 ≤ k - 1; omega
      · show (k - 1).toNat < k.toNat; omega
    | false =>
      refine .inl ⟨_, (by simp only [spec_l5Draw_L1, spec_l5Draw_L1_b, h0, decide_true, cond_true, cond_false, e48, e50, e52, Option.bind_some, spec_l5Draw_j1, hap, hw]; rfl), ⟨hc52, ?_, ?_⟩, ?_⟩
      · simp; omega
      · show 0 ≤ k - 1; omega
      · show (k - 1).toNat < k.toNat; omega
  · exact .inr (.inl ⟨(b, i, h, l), by simp [spec_l5Draw_L1, spec_l5Draw_L1_b, h0], ⟨b, i, h⟩, l, rfl, hc, by omega⟩)
theorem draw2 (N : Nat) (hN : N ≤ 1000) (s : List Int × Int × Int × List Thing × Int) (hc : CurOk ⟨s.1, s.2.1, s.2.2.1⟩) (hl : s.2.2.2.1.length = N) (hk : 0 ≤ s.2.2.2.2) (hk2 : s.2.2.2.2 ≤ 1000000) :
    ∃ x, loopM spec_l5Draw_L2 big s = some x ∧ ∃ c l, x = .inl (c.b, c.i, c.h, l) ∧ CurOk c ∧ l.length = N := by
  refine loopM_tot (body := spec_l5Draw_L2) (fun s => CurOk ⟨s.1, s.2.1, s.2.2.1⟩ ∧ s.2.2.2.1.length = N ∧ 0 ≤ s.2.2.2.2 ∧ s.2.2.2.2 ≤ 1000000) (fun s => s.2.2.2.2.toNat) (fun x => ∃ c l, x = .inl (c.b, c.i, c.h, l) ∧ CurOk c ∧ l.length = N) (fun s hs => ?_) big s ⟨hc, hl, hk, hk2⟩ (by unfold big; omega)
  obtain ⟨b, i, h, l, k⟩ := s
  obtain ⟨hc, hl, hk, hk2⟩ := hs
  simp only at hc hl hk hk2
  by_cases h0 : k > 0
  · obtain ⟨v1, c1, e1, hc1⟩ := l5Id_ok hc l
    obtain ⟨v2, c2, e2, hc2⟩ := l5Id_ok hc1 l
    have hw : w64 (k - 1) = k - 1 := w64_id (by omega) (by omega)
    have hp := spec_PutInto_eq l v1 v2 (by omega)
    refine .inl ⟨_, (by simp only [spec_l5Draw_L2, spec_l5Draw_L2_b, h0, decide_true, cond_true, e1, e2, hp, Option.bind_some, hw]; rfl), ⟨hc2, ?_, ?_, ?_⟩, ?_⟩
    · show (putV l v1 v2).1.length = N; rw [putV_le]; exact hl
    · show 0 ≤ k - 1; omega
    · show k - 1 ≤ 1000000; omega
    · show (k - 1).toNat < k.toNat; omega
  · exact .inr (.inl ⟨(b, i, h, l), by simp [spec_l5Draw_L2, spec_l5Draw_L2_b, h0], ⟨b, i, h⟩, l, rfl, hc, hl⟩)
theorem draw3 (N : Nat) (hN : N ≤ 1000) (s : List Int × Int × Int × List Thing × Int) (hc : CurOk ⟨s.1, s.2.1, s.2.2.1⟩) (hl : s.2.2.2.1.length = N) (hk : 0 ≤ s.2.2.2.2) (hk2 : s.2.2.2.2 ≤ 1000000) :
    ∃ x, loopM spec_l5Draw_L3 big s = some x ∧ ∃ c l, x = .inl (c.b, c.i, c.h, l) ∧ CurOk c ∧ l.length = N := by
  refine loopM_tot (body := spec_l5Draw_L3) (fun s => CurOk ⟨s.1, s.2.1, s.2.2.1⟩ ∧ s.2.2.2.1.length = N ∧ 0 ≤ s.2.2.2.2 ∧ s.2.2.2.2 ≤ 1000000) (fun s => s.2.2.2.2.toNat) (fun x => ∃ c l, x = .inl (c.b, c.i, c.h, l) ∧ CurOk c ∧ l.length = N) (fun s hs => ?_) big s ⟨hc, hl, hk, hk2⟩ (by unfold big; omega)
  obtain ⟨b, i, h, l, k⟩ := s
  obtain ⟨hc, hl, hk, hk2⟩ := hs
  simp only at hc hl hk hk2
  by_cases h0 : k > 0
  · obtain ⟨v1, c1, e1, hc1⟩ := l5Id_ok hc l
    have hw : w64 (k - 1) = k - 1 := w64_id (by omega) (by omega)
    have hp := spec_SealBox_eq l v1 true (by omega)
    refine .inl ⟨_, (by simp only [spec_l5Draw_L3, spec_l5Draw_L3_b, h0, decide_true, cond_true, e1, hp, Option.bind_some, hw]; rfl), ⟨hc1, ?_, ?_, ?_⟩, ?_⟩
    · show (seaV l v1 true).1.length = N; rw [seaV_le]; exact hl
    · show 0 ≤ k - 1; omega
    · show k - 1 ≤ 1000000; omega
    · show (k - 1).toNat < k.toNat; omega
  · exact .inr (.inl ⟨(b, i, h, l), by simp [spec_l5Draw_L3, spec_l5Draw_L3_b, h0], ⟨b, i, h⟩, l, rfl, hc, hl⟩)
theorem l5Draw_ok {c : l1Cur} (h : CurOk c) (most : Int) (hm : most ≤ 100) : ∃ l c', spec_l5Draw c most = some (l, c') ∧ CurOk c' ∧ 2 ≤ l.length ∧ l.length ≤ 102 := by
  obtain ⟨v1, c1, e1, hc1, b0, b1, b2⟩ := l1Below_ok h most
  have hv : v1 ≤ 100 := by
    by_cases h0 : 0 < most
    · have := b1 h0; omega
    · have := b2 (by omega); omega
  have hw : w64 (2 + v1) = 2 + v1 := w64_id (by omega) (by omega)
  obtain ⟨x1, f1, c2, l2, rfl, hc2, hl2⟩ := draw1 (2 + v1).toNat (by omega) (c1.b, c1.i, c1.h, [], 0, 2 + v1) hc1 (by simp; omega) (by show 0 ≤ 2 + v1; omega)
  obtain ⟨v3, c3, e3, hc3, d0, d1, d2⟩ := l1Below_ok hc2 (2 * (l2.length : Int))
  have hw2 : w64 (2 * (l2.length : Int)) = 2 * (l2.length : Int) := w64_id (by omega) (by omega)
  have hd := d1 (by omega)
  obtain ⟨x2, f2, c4, l4, rfl, hc4, hl4⟩ := draw2 l2.length (by omega) (c3.b, c3.i, c3.h, l2, v3) hc3 rfl d0 (by show v3 ≤ 1000000; omega)
  obtain ⟨v5, c5, e5, hc5, g0, g1, g2⟩ := l1Below_ok hc4 3
  have hg := g1 (by omega)
  obtain ⟨x3, f3, c6, l6, rfl, hc6, hl6⟩ := draw3 l2.length (by omega) (c5.b, c5.i, c5.h, l4, v5) hc5 hl4 g0 (by show v5 ≤ 1000000; omega)
  refine ⟨l6, c6, ?_, hc6, by omega, by omega⟩
  simp only [spec_l5Draw, e1, Option.bind_some, hw, f1, spec_l5Draw_L1_k, spec_l5Draw_L1_a, hw2, e3, f2, spec_l5Draw_L2_k, spec_l5Draw_L2_a, e5, f3, spec_l5Draw_L3_k, spec_l5Draw_L3_a]
theorem l5Any_ok {c : l1Cur} (h : CurOk c) : ∃ l c', spec_l5Any c = some (l, c') ∧ CurOk c' ∧ 2 ≤ l.length ∧ l.length ≤ 102 := by
  obtain ⟨l, c1, e1, hc1, hl1, hl2⟩ := l5Draw_ok h 8 (by omega)
  obtain ⟨k, c2, e2, hc2, k0, k1, _⟩ := l1Below_ok hc1 (l.length : Int)
  have hk := k1 (by omega)
  obtain ⟨q, c3, e3, hc3, q0, _, _⟩ := l1Below_ok hc2 12
  have gk := gi_get k0 hk
  have g0 : gi l 0 = some (l[(0 : Int).toNat]?.getD default) := gi_get (by omega) (by omega)
  unfold spec_l5Any
  simp only [e1, e2, e3, Option.bind_some, gk, g0, beqI]
  by_cases q0' : q = 0
  · obtain ⟨v, c4, e4, hc4, v0, v1, _⟩ := l1Below_ok hc3 (l.length : Int)
    simp only [q0', decide_true, cond_true, e4, Option.bind_some, gi_get v0 (v1 (by omega))]
    exact ⟨_, _, rfl, hc4, by simpa using hl1, by simpa using hl2⟩
  by_cases q1 : q = 1
  · obtain ⟨v, c4, e4, hc4, _⟩ := l1Int_ok hc3 [0, (-1), 30000, 30001] (by simp)
    subst q1
    exact ⟨_, _, by simp only [q0', decide_false, cond_false, decide_true, cond_true, e4, Option.bind_some]; rfl, hc4, by simpa using hl1, by simpa using hl2⟩
  by_cases q2 : q = 2
  · obtain ⟨v, c4, e4, hc4, _⟩ := l1Int_ok hc3 [0, 1, 1000000, 1000001] (by simp)
    exact ⟨_, _, by simp only [q0', q1, q2, decide_false, cond_false, decide_true, cond_true, e4, Option.bind_some]; rfl, hc4, by simpa using hl1, by simpa using hl2⟩
  by_cases q3 : q = 3
  · exact ⟨_, _, by simp only [q0', q1, q2, q3, decide_false, cond_false, decide_true, cond_true]; rfl, hc3, by simpa using hl1, by simpa using hl2⟩
  by_cases q4 : q = 4
  · exact ⟨_, _, by simp only [q0', q1, q2, q3, q4, decide_false, cond_false, decide_true, cond_true]; rfl, hc3, by simpa using hl1, by simpa using hl2⟩
  by_cases q5 : q = 5
  · obtain ⟨v, c4, e4, hc4, _⟩ := l1Int_ok hc3 [0, 9999, 10000, (l[(0 : Int).toNat]?.getD default).Id] (by simp)
    exact ⟨_, _, by simp only [q0', q1, q2, q3, q4, q5, decide_false, cond_false, decide_true, cond_true, e4, Option.bind_some]; rfl, hc4, by simpa using hl1, by simpa using hl2⟩
  by_cases q6 : q = 6
  · obtain ⟨v, c4, e4, hc4, _⟩ := l1Int_ok hc3 [(-1), 9998] (by simp)
    exact ⟨_, _, by simp only [q0', q1, q2, q3, q4, q5, q6, decide_false, cond_false, decide_true, cond_true, e4, Option.bind_some]; rfl, hc4, by simpa using hl1, by simpa using hl2⟩
  exact ⟨_, _, by simp only [q0', q1, q2, q3, q4, q5, q6, decide_false, cond_false], hc3, hl1, hl2⟩
theorem drawFindThing_ok (a : List Int) (ha : a.length ≤ 4096) : ∃ l id, spec_DrawFindThing a = some (l, id) ∧ l.length ≤ 102 := by
  obtain ⟨c, e, hc⟩ := l1New_ok a ha
  obtain ⟨l, c1, e1, hc1, _, hl⟩ := l5Any_ok hc
  obtain ⟨v, c2, e2, _⟩ := l5Id_ok hc1 l
  exact ⟨l, v, by simp [spec_DrawFindThing, e, e1, e2], hl⟩
end Go.Sx
