/- The draws of networks, places and times: they end, with some legs at least and some dozens at most. -/
import Derived.Test.YtnefegnodjaldaaGlB
namespace Go.Sx
set_option linter.unusedVariables false

structure CurOk (c : l1Cur) : Prop where
  i0 : 0 ≤ c.i
  len : c.b.length ≤ 4096
  il : c.i ≤ c.b.length
theorem and255 (x : Int) : 0 ≤ w64 ((BitVec.ofInt 64 x &&& BitVec.ofInt 64 255).toNat : Int) ∧ w64 ((BitVec.ofInt 64 x &&& BitVec.ofInt 64 255).toNat : Int) ≤ 255 := by
  have h : (BitVec.ofInt 64 x &&& BitVec.ofInt 64 255).toNat ≤ 255 := by
    rw [BitVec.toNat_and]
    exact Nat.le_trans Nat.and_le_right (by decide)
  rw [w64_id (by omega) (by omega)]
  omega
theorem l1Byte_ok {c : l1Cur} (h : CurOk c) : ∃ v c', spec_l1Byte c = some (v, c') ∧ CurOk c' ∧ 0 ≤ v ∧ v ≤ 255 := by
  unfold spec_l1Byte
  have h0 := h.i0
  have h1 := h.len
  have h2 := h.il
  by_cases hi : c.i < (c.b.length : Int)
  · rw [gi_eq h0 hi]
    simp only [hi, decide_true, cond_true, Option.bind_some]
    refine ⟨_, _, rfl, ⟨?_, h1, ?_⟩, (and255 _).1, (and255 _).2⟩
    · show 0 ≤ w64 (c.i + 1)
      rw [w64_id (by omega) (by omega)]; omega
    · show w64 (c.i + 1) ≤ c.b.length
      rw [w64_id (by omega) (by omega)]; omega
  · simp only [hi, decide_false, cond_false]
    exact ⟨_, _, rfl, ⟨h0, h1, h2⟩, (and255 _).1, (and255 _).2⟩
theorem tmod_in {x n : Int} (h0 : 0 ≤ x) (hn : 0 < n) : 0 ≤ Int.tmod x n ∧ Int.tmod x n < n := ⟨Int.tmod_nonneg _ h0, Int.tmod_lt_of_pos _ hn⟩
theorem l1Below_ok {c : l1Cur} (h : CurOk c) (n : Int) : ∃ v c', spec_l1Below c n = some (v, c') ∧ CurOk c' ∧ 0 ≤ v ∧ (0 < n → v < n) ∧ (n ≤ 0 → v = 0) := by
  unfold spec_l1Below
  by_cases h0 : n ≤ 0
  · exact ⟨0, c, by simp [h0], h, by omega, by omega, fun _ => rfl⟩
  · by_cases h1 : n ≤ 256
    · obtain ⟨v, c', e, hc, b1, b2⟩ := l1Byte_ok h
      have := tmod_in b1 (show 0 < n by omega)
      refine ⟨Int.tmod v n, c', ?_, hc, this.1, fun _ => this.2, by omega⟩
      simp [h0, h1, e, rM, show ¬ n = 0 by omega]
    · obtain ⟨v, c1, e1, hc1, b1, b2⟩ := l1Byte_ok h
      obtain ⟨v', c2, e2, hc2, b3, b4⟩ := l1Byte_ok hc1
      obtain ⟨v'', c3, e3, hc3, b5, b6⟩ := l1Byte_ok hc2
      have w1 : w64 (v * 65536) = v * 65536 := w64_id (by omega) (by omega)
      have w2 : w64 (v' * 256) = v' * 256 := w64_id (by omega) (by omega)
      have w3 : w64 (v * 65536 + v' * 256) = v * 65536 + v' * 256 := w64_id (by omega) (by omega)
      have w4 : w64 (v * 65536 + v' * 256 + v'') = v * 65536 + v' * 256 + v'' := w64_id (by omega) (by omega)
      have := tmod_in (show 0 ≤ v * 65536 + v' * 256 + v'' by omega) (show 0 < n by omega)
      refine ⟨Int.tmod (v * 65536 + v' * 256 + v'') n, c3, ?_, hc3, this.1, fun _ => this.2, by omega⟩
      simp only [h0, h1, decide_false, cond_false, e1, e2, e3, Option.bind_some, w1, w2, w3, w4, rM, show ¬ n = 0 by omega, if_false]
theorem l1Once_ok {c : l1Cur} (h : CurOk c) (n : Int) : ∃ v c', spec_l1Once c n = some (v, c') ∧ CurOk c' := by
  obtain ⟨v, c', e, hc, _⟩ := l1Below_ok h n
  exact ⟨v == 0, c', by simp [spec_l1Once, e], hc⟩
theorem l1Int_ok {c : l1Cur} (h : CurOk c) (l : List Int) (hl : 0 < l.length) : ∃ v c', spec_l1Int c l = some (v, c') ∧ CurOk c' ∧ v ∈ l := by
  obtain ⟨v, c', e, hc, b1, b2, _⟩ := l1Below_ok h (l.length : Int)
  have hb := b2 (by omega)
  refine ⟨l[v.toNat]'(by omega), c', ?_, hc, List.getElem_mem _⟩
  simp [spec_l1Int, e, gi_eq b1 hb]
theorem l1New_ok (a : List Int) (ha : a.length ≤ 4096) : ∃ c, spec_l1New a = some c ∧ CurOk c := by
  unfold spec_l1New
  refine (?_ : ∃ x, loopM (spec_l1New_L1 a) big (w64 (744201 + (w64 (3 * (a.length : Int)))), 0) = some x ∧ ∃ t, x = .inl t).elim fun x hx => ?_
  · refine loopM_tot (body := spec_l1New_L1 a) (fun s => 0 ≤ s.2 ∧ s.2 ≤ a.length) (fun s => ((a.length : Int) - s.2).toNat) (fun x => ∃ t, x = .inl t) (fun s hs => ?_) big _ ⟨by simp, by simp⟩ (by simp; unfold big; omega)
    obtain ⟨h, i⟩ := s
    obtain ⟨h0, h1⟩ := hs
    simp only at h0 h1
    by_cases hi : i < (a.length : Int)
    · by_cases h4 : i < 4000
      · refine .inl ⟨_, (by simp only [spec_l1New_L1, spec_l1New_L1_b, hi, h4, decide_true, cond_true, gi_eq h0 hi, Option.bind_some]; rfl), ?_, ?_⟩
        · show 0 ≤ w64 (i + 1) ∧ w64 (i + 1) ≤ a.length
          rw [w64_id (by omega) (by omega)]; omega
        · show ((a.length : Int) - w64 (i + 1)).toNat < ((a.length : Int) - i).toNat
          rw [w64_id (by omega) (by omega)]; omega
      · exact .inr (.inl ⟨h, by simp [spec_l1New_L1, spec_l1New_L1_b, hi, h4], _, rfl⟩)
    · exact .inr (.inl ⟨h, by simp [spec_l1New_L1, spec_l1New_L1_b, hi], _, rfl⟩)
  · obtain ⟨e, t, rfl⟩ := hx
    rw [e]
    exact ⟨⟨a, 0, t⟩, by simp [spec_l1New_L1_k, spec_l1New_L1_a], ⟨by simp, ha, by simp⟩⟩


theorem l1Str_ok {c : l1Cur} (h : CurOk c) (l : List ByteArray) (hl : 0 < l.length) : ∃ v c', spec_l1Str c l = some (v, c') ∧ CurOk c' ∧ v ∈ l := by
  obtain ⟨v, c', e, hc, b1, b2, _⟩ := l1Below_ok h (l.length : Int)
  have hb := b2 (by omega)
  refine ⟨l[v.toNat]'(by omega), c', ?_, hc, List.getElem_mem _⟩
  simp [spec_l1Str, e, gi_eq b1 hb]
theorem l1Place_ok {c : l1Cur} (h : CurOk c) : ∃ v c', spec_l1Place c = some (v, c') ∧ CurOk c' ∧ v.size = 3 := by
  obtain ⟨v, c', e, hc, hm⟩ := l1Str_ok h ([(ByteArray.mk #[65, 77, 83]), (ByteArray.mk #[66, 82, 85]), (ByteArray.mk #[67, 68, 71]), (ByteArray.mk #[68, 85, 66]), (ByteArray.mk #[69, 68, 73]), (ByteArray.mk #[70, 82, 65]), (ByteArray.mk #[71, 79, 84])] : List ByteArray) (by simp)
  refine ⟨v, c', by simp only [spec_l1Place, e, Option.bind_some], hc, ?_⟩
  simp only [List.mem_cons, List.not_mem_nil, or_false] at hm
  rcases hm with rfl | rfl | rfl | rfl | rfl | rfl | rfl <;> rfl
theorem l1Odd_ok {c : l1Cur} (h : CurOk c) : ∃ v c', spec_l1Odd c = some (v, c') ∧ CurOk c' ∧ -9223372036854775808 ≤ v ∧ v ≤ 9223372036854775807 := by
  obtain ⟨v, c', e, hc, hm⟩ := l1Int_ok h ([(-1), 0, 1, 2, 255, 1440, 86400, 86401, 999999999, 1000000000, 1000000001, (-1000000001), 9223372036854775807, (-9223372036854775808)] : List Int) (by simp)
  refine ⟨v, c', by simp only [spec_l1Odd, e, Option.bind_some], hc, ?_⟩
  simp only [List.mem_cons, List.not_mem_nil, or_false] at hm
  omega
/-- a number of Go's own range -/
def InI (v : Int) : Prop := -9223372036854775808 ≤ v ∧ v ≤ 9223372036854775807
theorem w64_in (x : Int) : InI (w64 x) := by
  have hb : IntKind.i64.bits = 64 := rfl
  have hs : IntKind.i64.signed = true := rfl
  simp only [InI, w64, IntKind.wrap, hb, hs, Bool.true_and, decide_eq_true_eq]
  split <;> omega
theorem l4At_ok {c : l1Cur} (h : CurOk c) : ∃ v c', spec_l4At c = some (v, c') ∧ CurOk c' ∧ InI v := by
  obtain ⟨b, c1, e1, h1⟩ := l1Once_ok h 9
  unfold spec_l4At
  rw [e1]
  cases b with
  | true =>
    obtain ⟨v, c', e, hc, hv⟩ := l1Odd_ok h1
    exact ⟨v, c', by simp [e], hc, hv⟩
  | false =>
    obtain ⟨v, c', e, hc, b1, b2, _⟩ := l1Below_ok h1 200
    have := b2 (by omega)
    refine ⟨w64 (60 * v), c', by simp [e], hc, ?_⟩
    rw [w64_id (by omega) (by omega)]
    unfold InI
    omega
/-- a leg whose places have short names -/
def LegD (l : Leg) : Prop := l.From.size = 3 ∧ l.To.size = 3
theorem l3Leg_loop (c : l1Cur) (a b : ByteArray) (hc : CurOk c) (ha : a.size = 3) (hb : b.size = 3) :
    ∃ x, loopM spec_l3Leg_L1 big (c.b, c.i, c.h, a, b) = some x ∧ ∃ c' a' b', x = .inl (c'.b, c'.i, c'.h, a', b') ∧ CurOk c' ∧ a'.size = 3 ∧ b'.size = 3 := by
  refine loopM_tot (body := spec_l3Leg_L1) (fun s => CurOk ⟨s.1, s.2.1, s.2.2.1⟩ ∧ s.2.2.2.1.size = 3 ∧ s.2.2.2.2.size = 3) (fun s => if s.2.2.2.1.toList == s.2.2.2.2.toList then 1 else 0) (fun x => ∃ c' a' b', x = .inl (c'.b, c'.i, c'.h, a', b') ∧ CurOk c' ∧ a'.size = 3 ∧ b'.size = 3) (fun s hs => ?_) big (c.b, c.i, c.h, a, b) ⟨hc, ha, hb⟩ (by split <;> (unfold big; omega))
  obtain ⟨b0, i, h, p, q⟩ := s
  obtain ⟨hc, hp, hq⟩ := hs
  simp only at hc hp hq
  by_cases he : (p.toList == q.toList) = true
  · obtain ⟨v, c', e, hc', hm⟩ := l1Str_ok hc ([(ByteArray.mk #[65, 77, 83]), (ByteArray.mk #[66, 82, 85]), (ByteArray.mk #[67, 68, 71])] : List ByteArray) (by simp)
    have hv : v.size = 3 ∧ ((ByteArray.mk #[68, 85, 66]).toList == v.toList) = false := by
      simp only [List.mem_cons, List.not_mem_nil, or_false] at hm
      rcases hm with rfl | rfl | rfl <;> exact ⟨rfl, by decide +kernel⟩
    by_cases h2 : (p.toList == v.toList) = true
    · refine .inl ⟨(c'.b, c'.i, c'.h, ByteArray.mk #[68, 85, 66], v), by simp only [spec_l3Leg_L1, spec_l3Leg_L1_b, he, cond_true, e, Option.bind_some, h2], ⟨hc', rfl, hv.1⟩, ?_⟩
      simp only [he, hv.2, if_true]
      decide
    · have h2' : (p.toList == v.toList) = false := by simpa using h2
      refine .inl ⟨(c'.b, c'.i, c'.h, p, v), by simp only [spec_l3Leg_L1, spec_l3Leg_L1_b, he, cond_true, cond_false, e, Option.bind_some, h2'], ⟨hc', hp, hv.1⟩, ?_⟩
      simp only [he, h2', if_true]
      decide
  · have he' : (p.toList == q.toList) = false := by simpa using he
    exact .inr (.inl ⟨(b0, i, h, p, q), by simp only [spec_l3Leg_L1, spec_l3Leg_L1_b, he', cond_false], ⟨b0, i, h⟩, p, q, rfl, hc, hp, hq⟩)
theorem l3Leg_ok {c : l1Cur} (h : CurOk c) : ∃ v c', spec_l3Leg c = some (v, c') ∧ CurOk c' ∧ LegD v := by
  obtain ⟨v1, c1, e1, h1, s1⟩ := l1Place_ok h
  obtain ⟨v3, c3, e3, h3, s3⟩ := l1Place_ok h1
  obtain ⟨v5, c5, e5, h5, _⟩ := l1Below_ok h3 48
  obtain ⟨v7, c7, e7, h7, _⟩ := l1Below_ok h5 40
  obtain ⟨v9, c9, e9, h9, _⟩ := l1Below_ok h7 127
  obtain ⟨v11, c11, e11, h11, _⟩ := l1Below_ok h9 60
  obtain ⟨x, hx, c12, a, b, rfl, h12, ha, hb⟩ := l3Leg_loop c11 v1 v3 h11 s1 s3
  obtain ⟨b13, c13, e13, h13⟩ := l1Once_ok h12 2
  obtain ⟨b14, c14, e14, h14⟩ := l1Once_ok h13 9
  obtain ⟨v15, c15, e15, h15, _⟩ := l1Int_ok h14 ([1, 1440, 4320] : List Int) (by simp)
  unfold spec_l3Leg
  rw [e1]; simp only [Option.bind_some]
  rw [e3]; simp only [Option.bind_some]
  rw [e5]; simp only [Option.bind_some]
  rw [e7]; simp only [Option.bind_some]
  rw [e9]; simp only [Option.bind_some]
  rw [e11]; simp only [Option.bind_some]
  rw [hx]; simp only [Option.bind_some, spec_l3Leg_L1_k, spec_l3Leg_L1_a]
  rw [e13]; simp only [Option.bind_some, spec_l3Leg_j1]
  rw [e14]; simp only [Option.bind_some]
  cases b13 <;> cases b14 <;> simp only [cond_true, cond_false, e15, Option.bind_some] <;> first | exact ⟨_, _, rfl, h14, ha, hb⟩ | exact ⟨_, _, rfl, h15, ha, hb⟩
/-- a network as it is drawn -/
structure NetD (N : Nat) (n : Network) : Prop where
  some : 0 < n.Legs.length
  legs : n.Legs.length ≤ N
  off : n.Off.length ≤ 10
  str : ∀ l ∈ n.Legs, LegD l
theorem NetD.S {N : Nat} {n : Network} (h : NetD N n) (hN : N ≤ 1000) : NetS n := by
  have h1 := h.legs
  have h2 := h.off
  exact ⟨by omega, by omega, fun l hl => by have := h.str l hl; unfold LegD at this; omega⟩
theorem gi_last {l : List Leg} (h : 0 < l.length) (hl : l.length ≤ 1000) : gi l (w64 ((l.length : Int) - 1)) = some l[l.length - 1] := by
  rw [w64_id (by omega) (by omega), show ((l.length : Int) - 1) = ((l.length - 1 : Nat) : Int) by omega, gi_nat (by omega : l.length - 1 < l.length)]
theorem l3Draw_loop (M : Int) (c : l1Cur) (k : Int) (hc : CurOk c) (hk : 1 ≤ k) (hk2 : k ≤ 9) :
    ∃ x, loopM (spec_l3Draw_L1 M) big (c.b, c.i, c.h, [], k) = some x ∧ ∃ c' l, x = .inl (c'.b, c'.i, c'.h, l) ∧ CurOk c' ∧ 0 < l.length ∧ l.length ≤ 18 ∧ ∀ z ∈ l, LegD z := by
  refine loopM_tot (body := spec_l3Draw_L1 M) (fun s => CurOk ⟨s.1, s.2.1, s.2.2.1⟩ ∧ 0 ≤ s.2.2.2.2 ∧ s.2.2.2.2 ≤ 9 ∧ (s.2.2.2.1.length : Int) + 2 * s.2.2.2.2 ≤ 18 ∧ (0 < s.2.2.2.1.length ∨ 0 < s.2.2.2.2) ∧ ∀ z ∈ s.2.2.2.1, LegD z) (fun s => s.2.2.2.2.toNat) (fun x => ∃ c' l, x = .inl (c'.b, c'.i, c'.h, l) ∧ CurOk c' ∧ 0 < l.length ∧ l.length ≤ 18 ∧ ∀ z ∈ l, LegD z) (fun s hs => ?_) big (c.b, c.i, c.h, [], k) ⟨hc, by show 0 ≤ k; omega, by show k ≤ 9; omega, by show ((0 : Nat) : Int) + 2 * k ≤ 18; omega, .inr (by show 0 < k; omega), by intro z hz; cases hz⟩ (by show k.toNat < big; unfold big; omega)
  obtain ⟨b, i, h, l, k⟩ := s
  obtain ⟨hc, hk0, hk9, hlk, hor, hz⟩ := hs
  simp only at hc hk0 hk9 hlk hor hz
  have hw : w64 (k - 1) = k - 1 := w64_id (by omega) (by omega)
  by_cases h0 : k > 0
  · obtain ⟨v1, c1, e1, h1, d1⟩ := l3Leg_ok hc
    obtain ⟨b2, c2, e2, h2⟩ := l1Once_ok h1 3
    obtain ⟨v3, c3, e3, h3, _⟩ := l1Below_ok h2 20
    have hap : ap 64 l ([v1] : List Leg) = some (l ++ [v1]) := ap_eq (by simp; omega) (by omega)
    have hz1 : ∀ z ∈ l ++ [v1], LegD z := by
      intro z hm
      rcases List.mem_append.1 hm with hm | hm
      · exact hz z hm
      · simp at hm; subst hm; exact d1
    have hlen : (l ++ [v1]).length = l.length + 1 := by simp
    have hlen2 : ∀ y : Leg, ((l ++ [v1]) ++ [y]).length = l.length + 2 := fun y => by simp
    have hgl := gi_last (l := l ++ [v1]) (by omega) (by omega)
    have hd : LegD ((l ++ [v1])[(l ++ [v1]).length - 1]'(by omega)) := hz1 _ (List.getElem_mem _)
    have hap2 : ∀ y : Leg, ap 64 (l ++ [v1]) ([y] : List Leg) = some ((l ++ [v1]) ++ [y]) := fun y => ap_eq (by simp; omega) (by omega)
    cases b2 with
    | false =>
      refine .inl ⟨(c2.b, c2.i, c2.h, l ++ [v1], k - 1), by simp only [spec_l3Draw_L1, spec_l3Draw_L1_b, h0, decide_true, cond_true, cond_false, e1, hap, e2, Option.bind_some, hw], ⟨h2, ?_, ?_, ?_, .inl ?_, hz1⟩, ?_⟩ <;> simp only [hlen] <;> omega
    | true =>
      by_cases hM : (((l ++ [v1]).length : Nat) : Int) < M
      · refine .inl ⟨(c3.b, c3.i, c3.h, (l ++ [v1]) ++ [⟨((l ++ [v1])[(l ++ [v1]).length - 1]'(by omega)).To, ((l ++ [v1])[(l ++ [v1]).length - 1]'(by omega)).From, Int.tmod (w64 (v1.Start + w64 (60 * v3))) 1440, v1.Takes, v1.Days, v1.Room⟩], k - 1), by simp only [spec_l3Draw_L1, spec_l3Draw_L1_b, h0, decide_true, cond_true, e1, hap, e2, Option.bind_some, hw, hM, hgl, e3, hap2], ⟨h3, ?_, ?_, ?_, .inl ?_, ?_⟩, ?_⟩
        · show 0 ≤ k - 1; omega
        · show k - 1 ≤ 9; omega
        · show ((((l ++ [v1]) ++ [_]).length : Nat) : Int) + 2 * (k - 1) ≤ 18
          rw [hlen2]
          omega
        · show 0 < ((l ++ [v1]) ++ [_]).length
          rw [hlen2]; omega
        · intro z hm
          rcases List.mem_append.1 hm with hm | hm
          · exact hz1 z hm
          · simp only [List.mem_singleton] at hm; subst hm; exact ⟨hd.2, hd.1⟩
        · show (k - 1).toNat < k.toNat; omega
      · refine .inl ⟨(c2.b, c2.i, c2.h, l ++ [v1], k - 1), by simp only [spec_l3Draw_L1, spec_l3Draw_L1_b, h0, decide_true, cond_true, cond_false, e1, hap, e2, Option.bind_some, hw, hM, decide_false], ⟨h2, ?_, ?_, ?_, .inl ?_, hz1⟩, ?_⟩ <;> simp only [hlen] <;> omega
  · refine .inr (.inl ⟨(b, i, h, l), by simp only [spec_l3Draw_L1, spec_l3Draw_L1_b, h0, decide_false, cond_false], ⟨b, i, h⟩, l, rfl, hc, ?_, ?_, hz⟩) <;> omega
theorem l3Draw_ok {c : l1Cur} (h : CurOk c) (M : Int) (hM : 1 ≤ M) (hM2 : M ≤ 9) : ∃ v c', spec_l3Draw c M = some (v, c') ∧ CurOk c' ∧ NetD 18 v ∧ v.Off.length ≤ 2 := by
  obtain ⟨v1, c1, e1, h1, _⟩ := l1Below_ok h 9
  obtain ⟨v2, c2, e2, h2, b1, b2, _⟩ := l1Below_ok h1 M
  have hb2 := b2 (by omega)
  obtain ⟨x, hx, c3, l, rfl, h3, l0, l1, l2⟩ := l3Draw_loop M c2 (1 + v2) h2 (by omega) (by omega)
  obtain ⟨b4, c4, e4, h4⟩ := l1Once_ok h3 2
  obtain ⟨v5, c5, e5, h5, _⟩ := l1Below_ok h4 3
  obtain ⟨v6, c6, e6, h6, _⟩ := l1Below_ok h5 4
  unfold spec_l3Draw
  rw [e1]; simp only [Option.bind_some]
  rw [e2]; simp only [Option.bind_some]
  rw [w64_id (by omega) (by omega), hx]; simp only [Option.bind_some, spec_l3Draw_L1_k, spec_l3Draw_L1_a]
  rw [e4]; simp only [Option.bind_some]
  cases b4 <;> simp only [cond_true, cond_false, e5, e6, Option.bind_some]
  · exact ⟨_, _, rfl, h4, ⟨l0, l1, by simp, l2⟩, by simp⟩
  · exact ⟨_, _, rfl, h6, ⟨l0, l1, by simp, l2⟩, by simp⟩
theorem set_D {l : List Leg} {k : Nat} {x : Leg} (h : ∀ z ∈ l, LegD z) (hx : LegD x) : ∀ z ∈ l.set k x, LegD z := by
  intro z hz
  rcases List.mem_or_eq_of_mem_set hz with h1 | h1
  · exact h z h1
  · rw [h1]; exact hx
theorem l4Of_ok {c : l1Cur} (h : CurOk c) {n : Network} (hd : NetD 21 n) : ∃ v c', spec_l4Of c n = some (v, c') ∧ CurOk c' ∧ v.size = 3 := by
  obtain ⟨b, c1, e1, h1⟩ := l1Once_ok h 9
  unfold spec_l4Of
  rw [spec_PlacesOf_eq n (hd.S (by omega))]
  simp only [Option.bind_some]
  rw [e1]
  cases b with
  | true =>
    obtain ⟨v, c', e, hc, hv⟩ := l1Place_ok h1
    exact ⟨v, c', by simp [e], hc, hv⟩
  | false =>
    have hp : 0 < (plcs n).length := by
      have := leg_mem hd.some
      exact List.length_pos_of_mem this.1
    obtain ⟨v, c', e, hc, b1, b2, _⟩ := l1Below_ok h1 ((plcs n).length : Int)
    have hb := b2 (by omega)
    have hm : (plcs n)[v.toNat]'(by omega) ∈ plcs n := List.getElem_mem _
    refine ⟨(plcs n)[v.toNat]'(by omega), c', by simp [e, gi_eq b1 hb], hc, ?_⟩
    rw [plcs_mem] at hm
    unfold nmL at hm
    obtain ⟨l, hl, hm⟩ := List.mem_flatMap.1 hm
    have := hd.str l hl
    simp only [List.mem_cons, List.not_mem_nil, or_false] at hm
    rcases hm with e | e
    · rw [e]; exact this.1
    · rw [e]; exact this.2
/-- what is drawn for a way -/
structure DrE (v : Network × ByteArray × ByteArray × Int) : Prop where
  net : NetD 21 v.1
  a : v.2.1.size = 3
  b : v.2.2.1.size = 3
  t : InI v.2.2.2
end Go.Sx
