/- The draws of things: they end, with two things at least and some hundreds at most. -/
import Derived.Test.YtbeialanbblkoaaBpG
namespace Go.Sx
set_option linter.unusedVariables false

structure CurOk (c : l1Cur) : Prop where
  i0 : 0 ≤ c.i
  len : c.b.length ≤ 4096
  il : c.i ≤ c.b.length
theorem and255 (x : Int) : 0 ≤ w64 ((BitVec.ofInt 64 x &&& BitVec.ofInt 64 255).toNat : Int) ∧ w64 ((BitVec.ofInt 64 x &&& BitVec.ofInt 64 255).toNat : Int) ≤ 255 := by
  have h : (BitVec.ofInt 64 x &&& BitVec.ofInt 64 255).toNat ≤ 255 := by
    rw [BitVec.toNat_and]
    exact Nat.le_trans Nat.and_le_right (by decide)
  rw [w64_id (by omega) (by omega)]
  omega
theorem l1Byte_ok {c : l1Cur} (h : CurOk c) : ∃ v c', spec_l1Byte c = some (v, c') ∧ CurOk c' ∧ 0 ≤ v ∧ v ≤ 255 := by
  unfold spec_l1Byte
  have h0 := h.i0
  have h1 := h.len
  have h2 := h.il
  by_cases hi : c.i < (c.b.length : Int)
  · rw [gi_eq h0 hi]
    simp only [hi, decide_true, cond_true, Option.bind_some]
    refine ⟨_, _, rfl, ⟨?_, h1, ?_⟩, (and255 _).1, (and255 _).2⟩
    · show 0 ≤ w64 (c.i + 1)
      rw [w64_id (by omega) (by omega)]; omega
    · show w64 (c.i + 1) ≤ c.b.length
      rw [w64_id (by omega) (by omega)]; omega
  · simp only [hi, decide_false, cond_false]
    exact ⟨_, _, rfl, ⟨h0, h1, h2⟩, (and255 _).1, (and255 _).2⟩
theorem tmod_in {x n : Int} (h0 : 0 ≤ x) (hn : 0 < n) : 0 ≤ Int.tmod x n ∧ Int.tmod x n < n := ⟨Int.tmod_nonneg _ h0, Int.tmod_lt_of_pos _ hn⟩
theorem l1Below_ok {c : l1Cur} (h : CurOk c) (n : Int) : ∃ v c', spec_l1Below c n = some (v, c') ∧ CurOk c' ∧ 0 ≤ v ∧ (0 < n → v < n) ∧ (n ≤ 0 → v = 0) := by
  unfold spec_l1Below
  by_cases h0 : n ≤ 0
  · exact ⟨0, c, by simp [h0], h, by omega, by omega, fun _ => rfl⟩
  · by_cases h1 : n ≤ 256
    · obtain ⟨v, c', e, hc, b1, b2⟩ := l1Byte_ok h
      have := tmod_in b1 (show 0 < n by omega)
      refine ⟨Int.tmod v n, c', ?_, hc, this.1, fun _ => this.2, by omega⟩
      simp [h0, h1, e, rM, show ¬ n = 0 by omega]
    · obtain ⟨v, c1, e1, hc1, b1, b2⟩ := l1Byte_ok h
      obtain ⟨v', c2, e2, hc2, b3, b4⟩ := l1Byte_ok hc1
      obtain ⟨v'', c3, e3, hc3, b5, b6⟩ := l1Byte_ok hc2
      have w1 : w64 (v * 65536) = v * 65536 := w64_id (by omega) (by omega)
      have w2 : w64 (v' * 256) = v' * 256 := w64_id (by omega) (by omega)
      have w3 : w64 (v * 65536 + v' * 256) = v * 65536 + v' * 256 := w64_id (by omega) (by omega)
      have w4 : w64 (v * 65536 + v' * 256 + v'') = v * 65536 + v' * 256 + v'' := w64_id (by omega) (by omega)
      have := tmod_in (show 0 ≤ v * 65536 + v' * 256 + v'' by omega) (show 0 < n by omega)
      refine ⟨Int.tmod (v * 65536 + v' * 256 + v'') n, c3, ?_, hc3, this.1, fun _ => this.2, by omega⟩
      simp only [h0, h1, decide_false, cond_false, e1, e2, e3, Option.bind_some, w1, w2, w3, w4, rM, show ¬ n = 0 by omega, if_false]
theorem l1Once_ok {c : l1Cur} (h : CurOk c) (n : Int) : ∃ v c', spec_l1Once c n = some (v, c') ∧ CurOk c' := by
  obtain ⟨v, c', e, hc, _⟩ := l1Below_ok h n
  exact ⟨v == 0, c', by simp [spec_l1Once, e], hc⟩
theorem l1Int_ok {c : l1Cur} (h : CurOk c) (l : List Int) (hl : 0 < l.length) : ∃ v c', spec_l1Int c l = some (v, c') ∧ CurOk c' ∧ v ∈ l := by
  obtain ⟨v, c', e, hc, b1, b2, _⟩ := l1Below_ok h (l.length : Int)
  have hb := b2 (by omega)
  refine ⟨l[v.toNat]'(by omega), c', ?_, hc, List.getElem_mem _⟩
  simp [spec_l1Int, e, gi_eq b1 hb]
theorem l5Id_ok {c : l1Cur} (h : CurOk c) (l : List Thing) : ∃ v c', spec_l5Id c l = some (v, c') ∧ CurOk c' := by
  unfold spec_l5Id
  by_cases h0 : (l.length : Int) = 0
  · obtain ⟨v, c', e, hc, _⟩ := l1Int_ok h [0, (-1), 9999, 10000] (by simp)
    exact ⟨v, c', by simp only [beqI, h0, decide_true, cond_true, e, Option.bind_some], hc⟩
  · obtain ⟨v, c1, e1, hc1⟩ := l1Once_ok h 12
    cases v with
    | true =>
      obtain ⟨v, c', e, hc, _⟩ := l1Int_ok hc1 [0, (-1), 9999, 10000] (by simp)
      exact ⟨v, c', by simp only [beqI, h0, decide_false, cond_false, cond_true, e1, e, Option.bind_some], hc⟩
    | false =>
      obtain ⟨v, c', e, hc, b1, b2, _⟩ := l1Below_ok hc1 (l.length : Int)
      exact ⟨_, c', by simp only [beqI, h0, decide_false, cond_false, e1, e, Option.bind_some, gi_get b1 (b2 (by omega))]; rfl, hc⟩
theorem l1New_ok (a : List Int) (ha : a.length ≤ 4096) : ∃ c, spec_l1New a = some c ∧ CurOk c := by
  unfold spec_l1New
  refine (?_ : ∃ x, loopM (spec_l1New_L1 a) big (w64 (744201 + (w64 (3 * (a.length : Int)))), 0) = some x ∧ ∃ t, x = .inl t).elim fun x hx => ?_
  · refine loopM_tot (body := spec_l1New_L1 a) (fun s => 0 ≤ s.2 ∧ s.2 ≤ a.length) (fun s => ((a.length : Int) - s.2).toNat) (fun x => ∃ t, x = .inl t) (fun s hs => ?_) big _ ⟨by simp, by simp⟩ (by simp; unfold big; omega)
    obtain ⟨h, i⟩ := s
    obtain ⟨h0, h1⟩ := hs
    simp only at h0 h1
    by_cases hi : i < (a.length : Int)
    · by_cases h4 : i < 4000
      · refine .inl ⟨_, (by simp only [spec_l1New_L1, spec_l1New_L1_b, hi, h4, decide_true, cond_true, gi_eq h0 hi, Option.bind_some]; rfl), ?_, ?_⟩
        · show 0 ≤ w64 (i + 1) ∧ w64 (i + 1) ≤ a.length
          rw [w64_id (by omega) (by omega)]; omega
        · show ((a.length : Int) - w64 (i + 1)).toNat < ((a.length : Int) - i).toNat
          rw [w64_id (by omega) (by omega)]; omega
      · exact .inr (.inl ⟨h, by simp [spec_l1New_L1, spec_l1New_L1_b, hi, h4], _, rfl⟩)
    · exact .inr (.inl ⟨h, by simp [spec_l1New_L1, spec_l1New_L1_b, hi], _, rfl⟩)
  · obtain ⟨e, t, rfl⟩ := hx
    rw [e]
    exact ⟨⟨a, 0, t⟩, by simp [spec_l1New_L1_k, spec_l1New_L1_a], ⟨by simp, ha, by simp⟩⟩

theorem draw1 (N : Nat) (hN : N ≤ 1000) (s : List Int × Int × Int × List Thing × Int × Int) (hc : CurOk ⟨s.1, s.2.1, s.2.2.1⟩) (hl : (s.2.2.2.1.length : Int) + s.2.2.2.2.2 = N) (hk : 0 ≤ s.2.2.2.2.2) :
    ∃ x, loopM spec_l5Draw_L1 big s = some x ∧ ∃ c l, x = .inl (c.b, c.i, c.h, l) ∧ CurOk c ∧ l.length = N := by
  refine loopM_tot (body := spec_l5Draw_L1) (fun s => CurOk ⟨s.1, s.2.1, s.2.2.1⟩ ∧ (s.2.2.2.1.length : Int) + s.2.2.2.2.2 = N ∧ 0 ≤ s.2.2.2.2.2) (fun s => s.2.2.2.2.2.toNat) (fun x => ∃ c l, x = .inl (c.b, c.i, c.h, l) ∧ CurOk c ∧ l.length = N) (fun s hs => ?_) big s ⟨hc, hl, hk⟩ (by unfold big; omega)
  obtain ⟨b, i, h, l, id, k⟩ := s
  obtain ⟨hc, hl, hk⟩ := hs
  simp only at hc hl hk
  by_cases h0 : k > 0
  · obtain ⟨v48, c48, e48, hc48, _⟩ := l1Below_ok hc 4
    obtain ⟨v50, c50, e50, hc50, _⟩ := l1Below_ok hc48 3000
    obtain ⟨v52, c52, e52, hc52⟩ := l1Once_ok hc50 2
    have hap : ∀ t : Thing, ap 40 l [t] = some (l ++ [t]) := fun t => ap_eq (by simp; omega) (by omega)
    have hw : w64 (k - 1) = k - 1 := w64_id (by omega) (by omega)
    cases v52 with
    | true =>
      obtain ⟨v62, c62, e62, hc62, _⟩ := l1Below_ok hc52 20000
      refine .inl ⟨_, (by simp only [spec_l5Draw_L1, spec_l5Draw_L1_b, h0, decide_true, cond_true, e48, e50, e52, e62, Option.bind_some, spec_l5Draw_j1, hap, hw]; rfl), ⟨hc62, ?_, ?_⟩, ?_⟩
      · simp; omega
      · show 0 ≤ k - 1; omega
      · show (k - 1).toNat < k.toNat; omega
    | false =>
      refine .inl ⟨_, (by simp only [spec_l5Draw_L1, spec_l5Draw_L1_b, h0, decide_true, cond_true, cond_false, e48, e50, e52, Option.bind_some, spec_l5Draw_j1, hap, hw]; rfl), ⟨hc52, ?_, ?_⟩, ?_⟩
      · simp; omega
      · show 0 ≤ k - 1; omega
      · show (k - 1).toNat < k.toNat; omega
  · exact .inr (.inl ⟨(b, i, h, l), by simp [spec_l5Draw_L1, spec_l5Draw_L1_b, h0], ⟨b, i, h⟩, l, rfl, hc, by omega⟩)
end Go.Sx
