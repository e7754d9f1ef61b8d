/- Part of a proof: GdG GdE GdF GdH GdI GdA GdK GdV. -/
import Derived.Test.YtpgpgangmkjhlaaGdP2
section
/- The draws of networks, places and times: they end, with some legs at least and some dozens at most. -/
namespace Go.Sx
set_option linter.unusedVariables false

structure CurOk (c : l1Cur) : Prop where
  i0 : 0 ≤ c.i
  len : c.b.length ≤ 4096
  il : c.i ≤ c.b.length
theorem and255 (x : Int) : 0 ≤ w64 ((BitVec.ofInt 64 x &&& BitVec.ofInt 64 255).toNat : Int) ∧ w64 ((BitVec.ofInt 64 x &&& BitVec.ofInt 64 255).toNat : Int) ≤ 255 := by
  have h : (BitVec.ofInt 64 x &&& BitVec.ofInt 64 255).toNat ≤ 255 := by
    rw [BitVec.toNat_and]
    exact Nat.le_trans Nat.and_le_right (by decide)
  rw [w64_id (by omega) (by omega)]
  omega
theorem l1Byte_ok {c : l1Cur} (h : CurOk c) : ∃ v c', spec_l1Byte c = some (v, c') ∧ CurOk c' ∧ 0 ≤ v ∧ v ≤ 255 := by
  unfold spec_l1Byte
  have h0 := h.i0
  have h1 := h.len
  have h2 := h.il
  by_cases hi : c.i < (c.b.length : Int)
  · rw [gi_eq h0 hi]
    simp only [hi, decide_true, cond_true, Option.bind_some]
    refine ⟨_, _, rfl, ⟨?_, h1, ?_⟩, (and255 _).1, (and255 _).2⟩
    · show 0 ≤ w64 (c.i + 1)
      rw [w64_id (by omega) (by omega)]; omega
    · show w64 (c.i + 1) ≤ c.b.length
      rw [w64_id (by omega) (by omega)]; omega
  · simp only [hi, decide_false, cond_false]
    exact ⟨_, _, rfl, ⟨h0, h1, h2⟩, (and255 _).1, (and255 _).2⟩
theorem tmod_in {x n : Int} (h0 : 0 ≤ x) (hn : 0 < n) : 0 ≤ Int.tmod x n ∧ Int.tmod x n < n := ⟨Int.tmod_nonneg _ h0, Int.tmod_lt_of_pos _ hn⟩
theorem l1Below_ok {c : l1Cur} (h : CurOk c) (n : Int) : ∃ v c', spec_l1Below c n = some (v, c') ∧ CurOk c' ∧ 0 ≤ v ∧ (0 < n → v < n) ∧ (n ≤ 0 → v = 0) := by
  unfold spec_l1Below
  by_cases h0 : n ≤ 0
  · exact ⟨0, c, by simp [h0], h, by omega, by omega, fun _ => rfl⟩
  · by_cases h1 : n ≤ 256
    · obtain ⟨v, c', e, hc, b1, b2⟩ := l1Byte_ok h
      have := tmod_in b1 (show 0 < n by omega)
      refine ⟨Int.tmod v n, c', ?_, hc, this.1, fun _ => this.2, by omega⟩
      simp [h0, h1, e, rM, show ¬ n = 0 by omega]
    · obtain ⟨v, c1, e1, hc1, b1, b2⟩ := l1Byte_ok h
      obtain ⟨v', c2, e2, hc2, b3, b4⟩ := l1Byte_ok hc1
      obtain ⟨v'', c3, e3, hc3, b5, b6⟩ := l1Byte_ok hc2
      have w1 : w64 (v * 65536) = v * 65536 := w64_id (by omega) (by omega)
      have w2 : w64 (v' * 256) = v' * 256 := w64_id (by omega) (by omega)
      have w3 : w64 (v * 65536 + v' * 256) = v * 65536 + v' * 256 := w64_id (by omega) (by omega)
      have w4 : w64 (v * 65536 + v' * 256 + v'') = v * 65536 + v' * 256 + v'' := w64_id (by omega) (by omega)
      have := tmod_in (show 0 ≤ v * 65536 + v' * 256 + v'' by omega) (show 0 < n by omega)
      refine ⟨Int.tmod (v * 65536 + v' * 256 + v'') n, c3, ?_, hc3, this.1, fun _ => this.2, by omega⟩
      simp only [h0, h1, decide_false, cond_false, e1, e2, e3, Option.bind_some, w1, w2, w3, w4, rM, show ¬ n = 0 by omega, if_false]
theorem l1Once_ok {c : l1Cur} (h : CurOk c) (n : Int) : ∃ v c', spec_l1Once c n = some (v, c') ∧ CurOk c' := by
  obtain ⟨v, c', e, hc, _⟩ := l1Below_ok h n
  exact ⟨v == 0, c', by simp [spec_l1Once, e], hc⟩
theorem l1Int_ok {c : l1Cur} (h : CurOk c) (l : List Int) (hl : 0 < l.length) : ∃ v c', spec_l1Int c l = some (v, c') ∧ CurOk c' ∧ v ∈ l := by
  obtain ⟨v, c', e, hc, b1, b2, _⟩ := l1Below_ok h (l.length : Int)
  have hb := b2 (by omega)
  refine ⟨l[v.toNat]'(by omega), c', ?_, hc, List.getElem_mem _⟩
  simp [spec_l1Int, e, gi_eq b1 hb]
theorem l1New_ok (a : List Int) (ha : a.length ≤ 4096) : ∃ c, spec_l1New a = some c ∧ CurOk c := by
  unfold spec_l1New
  refine (?_ : ∃ x, loopM (spec_l1New_L1 a) big (w64 (744201 + (w64 (3 * (a.length : Int)))), 0) = some x ∧ ∃ t, x = .inl t).elim fun x hx => ?_
  · refine loopM_tot (body := spec_l1New_L1 a) (fun s => 0 ≤ s.2 ∧ s.2 ≤ a.length) (fun s => ((a.length : Int) - s.2).toNat) (fun x => ∃ t, x = .inl t) (fun s hs => ?_) big _ ⟨by simp, by simp⟩ (by simp; unfold big; omega)
    obtain ⟨h, i⟩ := s
    obtain ⟨h0, h1⟩ := hs
    simp only at h0 h1
    by_cases hi : i < (a.length : Int)
    · by_cases h4 : i < 4000
      · refine .inl ⟨_, (by simp only [spec_l1New_L1, spec_l1New_L1_b, hi, h4, decide_true, cond_true, gi_eq h0 hi, Option.bind_some]; rfl), ?_, ?_⟩
        · show 0 ≤ w64 (i + 1) ∧ w64 (i + 1) ≤ a.length
          rw [w64_id (by omega) (by omega)]; omega
        · show ((a.length : Int) - w64 (i + 1)).toNat < ((a.length : Int) - i).toNat
          rw [w64_id (by omega) (by omega)]; omega
      · exact .inr (.inl ⟨h, by simp [spec_l1New_L1, spec_l1New_L1_b, hi, h4], _, rfl⟩)
    · exact .inr (.inl ⟨h, by simp [spec_l1New_L1, spec_l1New_L1_b, hi], _, rfl⟩)
  · obtain ⟨e, t, rfl⟩ := hx
    rw [e]
    exact ⟨⟨a, 0, t⟩, by simp [spec_l1New_L1_k, spec_l1New_L1_a], ⟨by simp, ha, by simp⟩⟩


theorem l1Str_ok {c : l1Cur} (h : CurOk c) (l : List ByteArray) (hl : 0 < l.length) : ∃ v c', spec_l1Str c l = some (v, c') ∧ CurOk c' ∧ v ∈ l := by
  obtain ⟨v, c', e, hc, b1, b2, _⟩ := l1Below_ok h (l.length : Int)
  have hb := b2 (by omega)
  refine ⟨l[v.toNat]'(by omega), c', ?_, hc, List.getElem_mem _⟩
  simp [spec_l1Str, e, gi_eq b1 hb]
theorem l1Place_ok {c : l1Cur} (h : CurOk c) : ∃ v c', spec_l1Place c = some (v, c') ∧ CurOk c' ∧ v.size = 3 := by
  obtain ⟨v, c', e, hc, hm⟩ := l1Str_ok h ([(ByteArray.mk #[65, 77, 83]), (ByteArray.mk #[66, 82, 85]), (ByteArray.mk #[67, 68, 71]), (ByteArray.mk #[68, 85, 66]), (ByteArray.mk #[69, 68, 73]), (ByteArray.mk #[70, 82, 65]), (ByteArray.mk #[71, 79, 84])] : List ByteArray) (by simp)
  refine ⟨v, c', by simp only [spec_l1Place, e, Option.bind_some], hc, ?_⟩
  simp only [List.mem_cons, List.not_mem_nil, or_false] at hm
  rcases hm with rfl | rfl | rfl | rfl | rfl | rfl | rfl <;> rfl
theorem l1Odd_ok {c : l1Cur} (h : CurOk c) : ∃ v c', spec_l1Odd c = some (v, c') ∧ CurOk c' ∧ -9223372036854775808 ≤ v ∧ v ≤ 9223372036854775807 := by
  obtain ⟨v, c', e, hc, hm⟩ := l1Int_ok h ([(-1), 0, 1, 2, 255, 1440, 86400, 86401, 999999999, 1000000000, 1000000001, (-1000000001), 9223372036854775807, (-9223372036854775808)] : List Int) (by simp)
  refine ⟨v, c', by simp only [spec_l1Odd, e, Option.bind_some], hc, ?_⟩
  simp only [List.mem_cons, List.not_mem_nil, or_false] at hm
  omega
/-- a number of Go's own range -/
def InI (v : Int) : Prop := -9223372036854775808 ≤ v ∧ v ≤ 9223372036854775807
theorem w64_in (x : Int) : InI (w64 x) := by
  have hb : IntKind.i64.bits = 64 := rfl
  have hs : IntKind.i64.signed = true := rfl
  simp only [InI, w64, IntKind.wrap, hb, hs, Bool.true_and, decide_eq_true_eq]
  split <;> omega
/-- a leg whose places have short names -/
def LegD (l : Leg) : Prop := l.From.size = 3 ∧ l.To.size = 3
theorem l3Leg_loop (c : l1Cur) (a b : ByteArray) (hc : CurOk c) (ha : a.size = 3) (hb : b.size = 3) :
    ∃ x, loopM spec_l3Leg_L1 big (c.b, c.i, c.h, a, b) = some x ∧ ∃ c' a' b', x = .inl (c'.b, c'.i, c'.h, a', b') ∧ CurOk c' ∧ a'.size = 3 ∧ b'.size = 3 := by
  refine loopM_tot (body := spec_l3Leg_L1) (fun s => CurOk ⟨s.1, s.2.1, s.2.2.1⟩ ∧ s.2.2.2.1.size = 3 ∧ s.2.2.2.2.size = 3) (fun s => if s.2.2.2.1.toList == s.2.2.2.2.toList then 1 else 0) (fun x => ∃ c' a' b', x = .inl (c'.b, c'.i, c'.h, a', b') ∧ CurOk c' ∧ a'.size = 3 ∧ b'.size = 3) (fun s hs => ?_) big (c.b, c.i, c.h, a, b) ⟨hc, ha, hb⟩ (by split <;> (unfold big; omega))
  obtain ⟨b0, i, h, p, q⟩ := s
  obtain ⟨hc, hp, hq⟩ := hs
  simp only at hc hp hq
  by_cases he : (p.toList == q.toList) = true
  · obtain ⟨v, c', e, hc', hm⟩ := l1Str_ok hc ([(ByteArray.mk #[65, 77, 83]), (ByteArray.mk #[66, 82, 85]), (ByteArray.mk #[67, 68, 71])] : List ByteArray) (by simp)
    have hv : v.size = 3 ∧ ((ByteArray.mk #[68, 85, 66]).toList == v.toList) = false := by
      simp only [List.mem_cons, List.not_mem_nil, or_false] at hm
      rcases hm with rfl | rfl | rfl <;> exact ⟨rfl, by decide +kernel⟩
    by_cases h2 : (p.toList == v.toList) = true
    · refine .inl ⟨(c'.b, c'.i, c'.h, ByteArray.mk #[68, 85, 66], v), by simp only [spec_l3Leg_L1, spec_l3Leg_L1_b, he, cond_true, e, Option.bind_some, h2], ⟨hc', rfl, hv.1⟩, ?_⟩
      simp only [he, hv.2, if_true]
      decide
    · have h2' : (p.toList == v.toList) = false := by simpa using h2
      refine .inl ⟨(c'.b, c'.i, c'.h, p, v), by simp only [spec_l3Leg_L1, spec_l3Leg_L1_b, he, cond_true, cond_false, e, Option.bind_some, h2'], ⟨hc', hp, hv.1⟩, ?_⟩
      simp only [he, h2', if_true]
      decide
  · have he' : (p.toList == q.toList) = false := by simpa using he
    exact .inr (.inl ⟨(b0, i, h, p, q), by simp only [spec_l3Leg_L1, spec_l3Leg_L1_b, he', cond_false], ⟨b0, i, h⟩, p, q, rfl, hc, hp, hq⟩)
theorem l3Leg_ok {c : l1Cur} (h : CurOk c) : ∃ v c', spec_l3Leg c = some (v, c') ∧ CurOk c' ∧ LegD v := by
  obtain ⟨v1, c1, e1, h1, s1⟩ := l1Place_ok h
  obtain ⟨v3, c3, e3, h3, s3⟩ := l1Place_ok h1
  obtain ⟨v5, c5, e5, h5, _⟩ := l1Below_ok h3 48
  obtain ⟨v7, c7, e7, h7, _⟩ := l1Below_ok h5 40
  obtain ⟨v9, c9, e9, h9, _⟩ := l1Below_ok h7 127
  obtain ⟨v11, c11, e11, h11, _⟩ := l1Below_ok h9 60
  obtain ⟨x, hx, c12, a, b, rfl, h12, ha, hb⟩ := l3Leg_loop c11 v1 v3 h11 s1 s3
  obtain ⟨b13, c13, e13, h13⟩ := l1Once_ok h12 2
  obtain ⟨b14, c14, e14, h14⟩ := l1Once_ok h13 9
  obtain ⟨v15, c15, e15, h15, _⟩ := l1Int_ok h14 ([1, 1440, 4320] : List Int) (by simp)
  unfold spec_l3Leg
  rw [e1]; simp only [Option.bind_some]
  rw [e3]; simp only [Option.bind_some]
  rw [e5]; simp only [Option.bind_some]
  rw [e7]; simp only [Option.bind_some]
  rw [e9]; simp only [Option.bind_some]
  rw [e11]; simp only [Option.bind_some]
  rw [hx]; simp only [Option.bind_some, spec_l3Leg_L1_k, spec_l3Leg_L1_a]
  rw [e13]; simp only [Option.bind_some, spec_l3Leg_j1]
  rw [e14]; simp only [Option.bind_some]
  cases b13 <;> cases b14 <;> simp only [cond_true, cond_false, e15, Option.bind_some] <;> first | exact ⟨_, _, rfl, h14, ha, hb⟩ | exact ⟨_, _, rfl, h15, ha, hb⟩
/-- a network as it is drawn -/
structure NetD (N : Nat) (n : Network) : Prop where
  some : 0 < n.Legs.length
  legs : n.Legs.length ≤ N
  off : n.Off.length ≤ 10
  str : ∀ l ∈ n.Legs, LegD l
theorem NetD.S {N : Nat} {n : Network} (h : NetD N n) (hN : N ≤ 1000) : NetS n := by
  have h1 := h.legs
  have h2 := h.off
  exact ⟨by omega, by omega, fun l hl => by have := h.str l hl; unfold LegD at this; omega⟩
theorem gi_last {l : List Leg} (h : 0 < l.length) (hl : l.length ≤ 1000) : gi l (w64 ((l.length : Int) - 1)) = some l[l.length - 1] := by
  rw [w64_id (by omega) (by omega), show ((l.length : Int) - 1) = ((l.length - 1 : Nat) : Int) by omega, gi_nat (by omega : l.length - 1 < l.length)]
theorem l3Draw_loop (M : Int) (c : l1Cur) (k : Int) (hc : CurOk c) (hk : 1 ≤ k) (hk2 : k ≤ 9) :
    ∃ x, loopM (spec_l3Draw_L1 M) big (c.b, c.i, c.h, [], k) = some x ∧ ∃ c' l, x = .inl (c'.b, c'.i, c'.h, l) ∧ CurOk c' ∧ 0 < l.length ∧ l.length ≤ 18 ∧ ∀ z ∈ l, LegD z := by
  refine loopM_tot (body := spec_l3Draw_L1 M) (fun s => CurOk ⟨s.1, s.2.1, s.2.2.1⟩ ∧ 0 ≤ s.2.2.2.2 ∧ s.2.2.2.2 ≤ 9 ∧ (s.2.2.2.1.length : Int) + 2 * s.2.2.2.2 ≤ 18 ∧ (0 < s.2.2.2.1.length ∨ 0 < s.2.2.2.2) ∧ ∀ z ∈ s.2.2.2.1, LegD z) (fun s => s.2.2.2.2.toNat) (fun x => ∃ c' l, x = .inl (c'.b, c'.i, c'.h, l) ∧ CurOk c' ∧ 0 < l.length ∧ l.length ≤ 18 ∧ ∀ z ∈ l, LegD z) (fun s hs => ?_) big (c.b, c.i, c.h, [], k) ⟨hc, by show 0 ≤ k; omega, by show k ≤ 9; omega, by show ((0 : Nat) : Int) + 2 * k ≤ 18; omega, .inr (by show 0 < k; omega), by intro z hz; cases hz⟩ (by show k.toNat < big; unfold big; omega)
  obtain ⟨b, i, h, l, k⟩ := s
  obtain ⟨hc, hk0, hk9, hlk, hor, hz⟩ := hs
  simp only at hc hk0 hk9 hlk hor hz
  have hw : w64 (k - 1) = k - 1 := w64_id (by omega) (by omega)
  by_cases h0 : k > 0
  · obtain ⟨v1, c1, e1, h1, d1⟩ := l3Leg_ok hc
    obtain ⟨b2, c2, e2, h2⟩ := l1Once_ok h1 3
    obtain ⟨v3, c3, e3, h3, _⟩ := l1Below_ok h2 20
    have hap : ap 64 l ([v1] : List Leg) = some (l ++ [v1]) := ap_eq (by simp; omega) (by omega)
    have hz1 : ∀ z ∈ l ++ [v1], LegD z := by
      intro z hm
      rcases List.mem_append.1 hm with hm | hm
      · exact hz z hm
      · simp at hm; subst hm; exact d1
    have hlen : (l ++ [v1]).length = l.length + 1 := by simp
    have hlen2 : ∀ y : Leg, ((l ++ [v1]) ++ [y]).length = l.length + 2 := fun y => by simp
    have hgl := gi_last (l := l ++ [v1]) (by omega) (by omega)
    have hd : LegD ((l ++ [v1])[(l ++ [v1]).length - 1]'(by omega)) := hz1 _ (List.getElem_mem _)
    have hap2 : ∀ y : Leg, ap 64 (l ++ [v1]) ([y] : List Leg) = some ((l ++ [v1]) ++ [y]) := fun y => ap_eq (by simp; omega) (by omega)
    cases b2 with
    | false =>
      refine .inl ⟨(c2.b, c2.i, c2.h, l ++ [v1], k - 1), by simp only [spec_l3Draw_L1, spec_l3Draw_L1_b, h0, decide_true, cond_true, cond_false, e1, hap, e2, Option.bind_some, hw], ⟨h2, ?_, ?_, ?_, .inl ?_, hz1⟩, ?_⟩ <;> simp only [hlen] <;> omega
    | true =>
      by_cases hM : (((l ++ [v1]).length : Nat) : Int) < M
      · refine .inl ⟨(c3.b, c3.i, c3.h, (l ++ [v1]) ++ [⟨((l ++ [v1])[(l ++ [v1]).length - 1]'(by omega)).To, ((l ++ [v1])[(l ++ [v1]).length - 1]'(by omega)).From, Int.tmod (w64 (v1.Start + w64 (60 * v3))) 1440, v1.Takes, v1.Days, v1.Room⟩], k - 1), by simp only [spec_l3Draw_L1, spec_l3Draw_L1_b, h0, decide_true, cond_true, e1, hap, e2, Option.bind_some, hw, hM, hgl, e3, hap2], ⟨h3, ?_, ?_, ?_, .inl ?_, ?_⟩, ?_⟩
        · show 0 ≤ k - 1; omega
        · show k - 1 ≤ 9; omega
        · show ((((l ++ [v1]) ++ [_]).length : Nat) : Int) + 2 * (k - 1) ≤ 18
          rw [hlen2]
          omega
        · show 0 < ((l ++ [v1]) ++ [_]).length
          rw [hlen2]; omega
        · intro z hm
          rcases List.mem_append.1 hm with hm | hm
          · exact hz1 z hm
          · simp only [List.mem_singleton] at hm; subst hm; exact ⟨hd.2, hd.1⟩
        · show (k - 1).toNat < k.toNat; omega
      · refine .inl ⟨(c2.b, c2.i, c2.h, l ++ [v1], k - 1), by simp only [spec_l3Draw_L1, spec_l3Draw_L1_b, h0, decide_true, cond_true, cond_false, e1, hap, e2, Option.bind_some, hw, hM, decide_false], ⟨h2, ?_, ?_, ?_, .inl ?_, hz1⟩, ?_⟩ <;> simp only [hlen] <;> omega
  · refine .inr (.inl ⟨(b, i, h, l), by simp only [spec_l3Draw_L1, spec_l3Draw_L1_b, h0, decide_false, cond_false], ⟨b, i, h⟩, l, rfl, hc, ?_, ?_, hz⟩) <;> omega
theorem l3Draw_ok {c : l1Cur} (h : CurOk c) (M : Int) (hM : 1 ≤ M) (hM2 : M ≤ 9) : ∃ v c', spec_l3Draw c M = some (v, c') ∧ CurOk c' ∧ NetD 18 v ∧ v.Off.length ≤ 2 := by
  obtain ⟨v1, c1, e1, h1, _⟩ := l1Below_ok h 9
  obtain ⟨v2, c2, e2, h2, b1, b2, _⟩ := l1Below_ok h1 M
  have hb2 := b2 (by omega)
  obtain ⟨x, hx, c3, l, rfl, h3, l0, l1, l2⟩ := l3Draw_loop M c2 (1 + v2) h2 (by omega) (by omega)
  obtain ⟨b4, c4, e4, h4⟩ := l1Once_ok h3 2
  obtain ⟨v5, c5, e5, h5, _⟩ := l1Below_ok h4 3
  obtain ⟨v6, c6, e6, h6, _⟩ := l1Below_ok h5 4
  unfold spec_l3Draw
  rw [e1]; simp only [Option.bind_some]
  rw [e2]; simp only [Option.bind_some]
  rw [w64_id (by omega) (by omega), hx]; simp only [Option.bind_some, spec_l3Draw_L1_k, spec_l3Draw_L1_a]
  rw [e4]; simp only [Option.bind_some]
  cases b4 <;> simp only [cond_true, cond_false, e5, e6, Option.bind_some]
  · exact ⟨_, _, rfl, h4, ⟨l0, l1, by simp, l2⟩, by simp⟩
  · exact ⟨_, _, rfl, h6, ⟨l0, l1, by simp, l2⟩, by simp⟩
theorem set_D {l : List Leg} {k : Nat} {x : Leg} (h : ∀ z ∈ l, LegD z) (hx : LegD x) : ∀ z ∈ l.set k x, LegD z := by
  intro z hz
  rcases List.mem_or_eq_of_mem_set hz with h1 | h1
  · exact h z h1
  · rw [h1]; exact hx
theorem l4Of_ok {c : l1Cur} (h : CurOk c) {n : Network} (hd : NetD 21 n) : ∃ v c', spec_l4Of c n = some (v, c') ∧ CurOk c' ∧ v.size = 3 := by
  obtain ⟨b, c1, e1, h1⟩ := l1Once_ok h 9
  unfold spec_l4Of
  rw [spec_PlacesOf_eq n (hd.S (by omega))]
  simp only [Option.bind_some]
  rw [e1]
  cases b with
  | true =>
    obtain ⟨v, c', e, hc, hv⟩ := l1Place_ok h1
    exact ⟨v, c', by simp [e], hc, hv⟩
  | false =>
    have hp : 0 < (plcs n).length := by
      have := leg_mem hd.some
      exact List.length_pos_of_mem this.1
    obtain ⟨v, c', e, hc, b1, b2, _⟩ := l1Below_ok h1 ((plcs n).length : Int)
    have hb := b2 (by omega)
    have hm : (plcs n)[v.toNat]'(by omega) ∈ plcs n := List.getElem_mem _
    refine ⟨(plcs n)[v.toNat]'(by omega), c', by simp [e, gi_eq b1 hb], hc, ?_⟩
    rw [plcs_mem] at hm
    unfold nmL at hm
    obtain ⟨l, hl, hm⟩ := List.mem_flatMap.1 hm
    have := hd.str l hl
    simp only [List.mem_cons, List.not_mem_nil, or_false] at hm
    rcases hm with e | e
    · rw [e]; exact this.1
    · rw [e]; exact this.2
/-- what is drawn for a way -/
structure DrE (v : Network × ByteArray × ByteArray × Int) : Prop where
  net : NetD 21 v.1
  a : v.2.1.size = 3
  b : v.2.2.1.size = 3
  t : InI v.2.2.2
end Go.Sx
end
section
/- What the functions of the program compute, said with the rounds and the sweeps. -/
namespace Go.Sx
open Relax (g g_set X)
set_option linter.unusedVariables false

theorem v0N_pos {a : Int} (h : 0 ≤ a) : v0N a = a := by unfold v0N; split <;> omega
/-- both places known, the start in range -/
def Fine (n : Network) (a : ByteArray) (at0 : Int) : Prop := netB n = true ∧ ¬ idxV (plcs n) a < 0 ∧ ¬ at0 > 100000
theorem best_fine {n : Network} {a : ByteArray} {at0 legs : Int} (h : Fine n a at0) (hl : 0 ≤ legs) : bestV n a at0 legs = XN n (idxV (plcs n) a).toNat at0 legs.toNat := by
  unfold bestV
  rw [if_pos ⟨h.1, h.2.1, h.2.2, by omega⟩]
theorem best_bad {n : Network} {a : ByteArray} {at0 legs : Int} (h : ¬ Fine n a at0) : bestV n a at0 legs = [] := by
  unfold bestV
  rw [if_neg (fun hh => h ⟨hh.1, hh.2.1, hh.2.2.1⟩)]
theorem Fine.lt {n : Network} {a : ByteArray} {at0 : Int} (h : Fine n a at0) : (idxV (plcs n) a).toNat < (plcs n).length := by
  obtain ⟨k, e, hk⟩ := idx_lt h.2.1
  rw [e]; exact hk
theorem XN_len {n : Network} (hn : netB n = true) {st : Nat} (hst : st < (plcs n).length) {at0 : Int} (ha : ¬ at0 > 100000) (k : Nat) : (XN n st at0 k).length = (plcs n).length := Relax.X_len (A := iA n) (relax_ok hn st) (x0_start hst ha).1 k
theorem XN_ne {n : Network} (hn : netB n = true) {st : Nat} (hst : st < (plcs n).length) {at0 : Int} (ha : ¬ at0 > 100000) (k : Nat) : XN n st at0 k ≠ [] := by
  intro e
  have := XN_len hn hst ha k
  rw [e] at this
  simp only [List.length_nil] at this
  omega
theorem ear_fine {n : Network} {a b : ByteArray} {at0 : Int} (h : Fine n a at0) (hb : ¬ idxV (plcs n) b < 0) : earV n a b at0 = DN n (idxV (plcs n) a).toNat at0 (idxV (plcs n) b).toNat := by
  unfold earV
  rw [best_fine h (by omega), if_neg]
  · rfl
  · intro hh
    rcases hh with hh | hh
    · exact hb hh
    · exact XN_ne h.1 h.lt h.2.2 _ hh
theorem ear_bad {n : Network} {a b : ByteArray} {at0 : Int} (h : ¬ (Fine n a at0 ∧ ¬ idxV (plcs n) b < 0)) : earV n a b at0 = -1 := by
  unfold earV
  by_cases hb : idxV (plcs n) b < 0
  · rw [if_pos (.inl hb)]
  · rw [if_pos (.inr (best_bad fun hf => h ⟨hf, hb⟩))]
/-- the earliest arrival grows with the start -/
theorem ear_later {n : Network} {a b : ByteArray} {t u : Int} (ht : 0 ≤ t) (htu : t ≤ u) (h : 0 ≤ earV n a b u) : 0 ≤ earV n a b t ∧ earV n a b t ≤ earV n a b u := by
  by_cases hc : Fine n a u ∧ ¬ idxV (plcs n) b < 0
  · have hf : Fine n a t := ⟨hc.1.1, hc.1.2.1, by have := hc.1.2.2; omega⟩
    rw [ear_fine hc.1 hc.2] at h ⊢
    rw [ear_fine hf hc.2]
    exact XN_later hc.1.1 hc.1.lt hc.1.2.2 (by rw [v0N_pos ht, v0N_pos (by omega)]; exact htu) hf.2.2 _ _ h
  · rw [ear_bad hc] at h
    omega
/-- the latest start -/
def lasV (n : Network) (a b : ByteArray) (b0 : Int) : Int := if netB n = true ∧ ¬ idxV (plcs n) a < 0 ∧ ¬ idxV (plcs n) b < 0 ∧ ¬ b0 < 0 then LN n (idxV (plcs n) b).toNat b0 (idxV (plcs n) a).toNat else -1
theorem las_low (n : Network) (a b : ByteArray) (b0 : Int) : -1 ≤ lasV n a b b0 := by
  unfold lasV
  split
  · rename_i h
    obtain ⟨k, e, hk⟩ := idx_lt h.2.2.1
    rw [e]
    rcases LN_neg h.1 hk (b := b0) (by omega) ((plcs n).length * n.Legs.length) (idxV (plcs n) a).toNat with h1 | h1
    · show -1 ≤ g (YN n k (y0N n k b0) ((plcs n).length * n.Legs.length)) _
      omega
    · show -1 ≤ g (YN n k (y0N n k b0) ((plcs n).length * n.Legs.length)) _
      omega
  · exact Int.le_refl _
/-- the promise -/
def dayV (e : Int) : Int := if Int.tmod e 1440 > 1080 then Int.tdiv e 1440 + 1 else Int.tdiv e 1440
def proV (n : Network) (s : Int) (a b : ByteArray) (t : Int) : Int := if earV n a b t < 0 ∨ s < 1 ∨ s > 3 then -1 else (dayV (earV n a b t) + (s - 1) * (s - 1)) * 1440 + 1080
theorem ear_big (n : Network) (a b : ByteArray) (t : Int) : earV n a b t ≤ 1000000 := by
  by_cases hc : Fine n a t ∧ ¬ idxV (plcs n) b < 0
  · rw [ear_fine hc.1 hc.2]
    exact XN_big hc.1.1 hc.1.lt hc.1.2.2 _ _
  · rw [ear_bad hc]; omega
theorem day_in {e : Int} (h : 0 ≤ e) : 0 ≤ dayV e ∧ dayV e ≤ e / 1440 + 1 ∧ dayV e = (if e % 1440 > 1080 then e / 1440 + 1 else e / 1440) := by
  have h1 : Int.tmod e 1440 = e % 1440 := Int.tmod_eq_emod_of_nonneg h
  have h2 : Int.tdiv e 1440 = e / 1440 := Int.tdiv_eq_ediv_of_nonneg h
  unfold dayV
  rw [h1, h2]
  refine ⟨?_, ?_, rfl⟩ <;> split <;> omega
end Go.Sx
end
section
/- The laws about ways answer true: who starts later, a way over a third place, the latest start, the promise. -/
namespace Go.Sx
open Relax (g g_set X)
set_option linter.unusedVariables false

theorem u8_wf {z : Int} (h : (Lit.int .u8 z).wf = true) : 0 ≤ z ∧ z ≤ 255 := by
  have h1 : IntKind.u8.min = 0 := rfl
  have h2 : IntKind.u8.max = 255 := rfl
  simp [Lit.wf, h1, h2] at h
  omega
theorem InI.w {x : Int} (h : InI x) : w64 x = x := w64_id h.1 h.2
theorem ear_start {n : Network} {a b : ByteArray} {t : Int} (h : 0 ≤ earV n a b t) : v0N t ≤ earV n a b t := by
  by_cases hc : Fine n a t ∧ ¬ idxV (plcs n) b < 0
  · rw [ear_fine hc.1 hc.2] at h ⊢
    exact XN_low hc.1.1 hc.1.lt hc.1.2.2 _ _ h
  · rw [ear_bad hc] at h; omega
end Go.Sx
end
section
/- The laws about ways answer true: who starts later, a way over a third place, the latest start. -/
namespace Go.Sx
open Relax (g g_set X)
set_option linter.unusedVariables false

theorem best_vals {n : Network} {p : ByteArray} {t : Int} {k : Nat} (hf : Fine n p t) : bestV n p t (k : Int) = XN n (idxV (plcs n) p).toNat t k := by
  rw [best_fine hf (by omega), Int.toNat_natCast]
theorem las_fine {n : Network} {p q : ByteArray} {b : Int} (hn : netB n = true) (hp : ¬ idxV (plcs n) p < 0) (hq : ¬ idxV (plcs n) q < 0) (hb : 0 ≤ b) : lasV n p q b = LN n (idxV (plcs n) q).toNat b (idxV (plcs n) p).toNat := by
  unfold lasV
  rw [if_pos ⟨hn, hp, hq, by omega⟩]
theorem las_le {n : Network} {p q : ByteArray} {b : Int} (hn : netB n = true) (hp : ¬ idxV (plcs n) p < 0) (hq : ¬ idxV (plcs n) q < 0) (hb : 0 ≤ b) : lasV n p q b ≤ b := by
  rw [las_fine hn hp hq hb]
  obtain ⟨k, e, hk⟩ := idx_lt hq
  rw [e]
  by_cases h : 0 ≤ LN n k b (idxV (plcs n) p).toNat
  · exact LN_le hn hk _ _ h
  · simp only [Int.toNat_natCast]; omega
/-- the latest start and the earliest arrival are two sides of one thing -/
theorem dual {n : Network} {p q : ByteArray} {s b : Int} (hn : netB n = true) (hp : ¬ idxV (plcs n) p < 0) (hq : ¬ idxV (plcs n) q < 0) (hs0 : 0 ≤ s) (hs : s ≤ 100000) (hb0 : 0 ≤ b) (hb : b ≤ 100000) :
    (0 ≤ earV n p q s ∧ earV n p q s ≤ b) ↔ s ≤ lasV n p q b := by
  have hf : Fine n p s := ⟨hn, hp, by omega⟩
  have hx : (idxV (plcs n) q).toNat < (plcs n).length := (show Fine n q s from ⟨hn, hq, by omega⟩).lt
  rw [ear_fine hf hq, las_fine hn hp hq hb0]
  constructor
  · intro ⟨h1, h2⟩
    exact dual_2 hn hf.lt hx hs0 (by omega) hb0 hb h1 h2
  · intro h
    exact dual_1 hn hf.lt hx hs0 (by omega) hb0 hb h
end Go.Sx
end
section
/- The laws about what is reached and about choices answer true. -/
namespace Go.Sx
open Relax (g g_set X)
set_option linter.unusedVariables false

theorem plcs_inc (n : Network) : Inc (plcs n) := (ins_fold (nmL n.Legs) [] List.Pairwise.nil).1
/-- each place is found where it stands -/
theorem idx_at (n : Network) {i : Nat} (hi : i < (plcs n).length) : idxV (plcs n) (plcs n)[i] = (i : Int) := by
  obtain ⟨k, e, hk⟩ := idx_in (List.getElem_mem hi)
  unfold idxV at *
  cases hf : (plcs n).findIdx? (fun x => decide (x = (plcs n)[i])) with
  | none => rw [hf] at e; simp only at e; omega
  | some j =>
    obtain ⟨hj, hp, _⟩ := List.findIdx?_eq_some_iff_getElem.1 hf
    have hp : (plcs n)[j] = (plcs n)[i] := by simpa using hp
    have hinc := plcs_inc n
    rcases Nat.lt_trichotomy j i with h | h | h
    · have := List.pairwise_iff_getElem.1 hinc j i hj hi h
      rw [hp] at this
      exact absurd this (ltB_irrefl _)
    · subst h; rfl
    · have := List.pairwise_iff_getElem.1 hinc i j hi hj h
      rw [hp] at this
      exact absurd this (ltB_irrefl _)
theorem idx_mem {l : List ByteArray} {p : ByteArray} : idxV l p ≥ 0 ↔ p ∈ l := by
  constructor
  · intro h
    unfold idxV at h
    cases hf : l.findIdx? (fun x => decide (x = p)) with
    | none => rw [hf] at h; simp at h
    | some j =>
      obtain ⟨hj, hp, _⟩ := List.findIdx?_eq_some_iff_getElem.1 hf
      have hp : l[j] = p := by simpa using hp
      rw [← hp]
      exact List.getElem_mem _
  · intro h
    obtain ⟨k, e, _⟩ := idx_in h
    omega
/-- what is reached, place by place -/
def rchL (pl : List ByteArray) (l : List Int) (b : Int) : Nat → List ByteArray
  | 0 => []
  | i + 1 => if g l i = -1 then rchL pl l b i else if g l i ≤ b then rchL pl l b i ++ [pl[i]?.getD default] else rchL pl l b i
theorem rchL_succ (pl : List ByteArray) (l : List Int) (b : Int) (i : Nat) : rchL pl l b (i + 1) = if g l i = -1 then rchL pl l b i else if g l i ≤ b then rchL pl l b i ++ [pl[i]?.getD default] else rchL pl l b i := rfl
theorem rchL_len (pl : List ByteArray) (l : List Int) (b : Int) : ∀ i, (rchL pl l b i).length ≤ i
  | 0 => Nat.le_refl _
  | i + 1 => by
    have := rchL_len pl l b i
    unfold rchL
    split
    · omega
    · split
      · simp; omega
      · omega
theorem rchL_mem (pl : List ByteArray) (l : List Int) (b : Int) (x : ByteArray) : ∀ i, x ∈ rchL pl l b i ↔ ∃ j, j < i ∧ g l j ≠ -1 ∧ g l j ≤ b ∧ x = pl[j]?.getD default
  | 0 => by
    constructor
    · intro h; cases h
    · intro ⟨j, h, _⟩; exact absurd h (Nat.not_lt_zero _)
  | i + 1 => by
    have ih := rchL_mem pl l b x i
    unfold rchL
    by_cases h1 : g l i = -1
    · rw [if_pos h1, ih]
      constructor
      · intro ⟨j, a, c⟩; exact ⟨j, by omega, c⟩
      · intro ⟨j, a, c⟩
        rcases Nat.lt_or_ge j i with h | h
        · exact ⟨j, h, c⟩
        · have : j = i := by omega
          subst this; exact absurd h1 c.1
    · rw [if_neg h1]
      by_cases h2 : g l i ≤ b
      · rw [if_pos h2, List.mem_append, ih]
        constructor
        · rintro (⟨j, a, c⟩ | h)
          · exact ⟨j, by omega, c⟩
          · exact ⟨i, by omega, h1, h2, by simpa using h⟩
        · intro ⟨j, a, c⟩
          rcases Nat.lt_or_ge j i with h | h
          · exact .inl ⟨j, h, c⟩
          · have : j = i := by omega
            subst this; exact .inr (by simp only [List.mem_singleton]; exact c.2.2)
      · rw [if_neg h2, ih]
        constructor
        · intro ⟨j, a, c⟩; exact ⟨j, by omega, c⟩
        · intro ⟨j, a, c⟩
          rcases Nat.lt_or_ge j i with h | h
          · exact ⟨j, h, c⟩
          · have : j = i := by omega
            subst this; exact absurd c.2.1 h2
def rchV (n : Network) (a : ByteArray) (t b : Int) : List ByteArray := rchL (plcs n) (bestV n a t (plcs n).length) b (bestV n a t (plcs n).length).length
theorem rch_mem (n : Network) (h : NetS n) (a : ByteArray) (t b : Int) {i : Nat} (hi : i < (plcs n).length) : (plcs n)[i] ∈ rchV n a t b ↔ (0 ≤ earV n a (plcs n)[i] t ∧ earV n a (plcs n)[i] t ≤ b) := by
  have hid := idx_at n hi
  unfold rchV
  rw [rchL_mem]
  by_cases hf : Fine n a t
  · rw [best_vals hf, XN_len hf.1 hf.lt hf.2.2, ear_fine hf (by omega), hid, Int.toNat_natCast]
    constructor
    · intro ⟨j, hj, h1, h2, h3⟩
      have : j = i := by
        have hj' := idx_at n hj
        rw [List.getElem?_eq_getElem hj, Option.getD_some] at h3
        rw [← h3, hid] at hj'
        omega
      subst this
      have := XN_neg hf.1 hf.lt hf.2.2 (plcs n).length j
      exact ⟨by show 0 ≤ g (XN n _ t _) j; omega, h2⟩
    · intro ⟨h1, h2⟩
      exact ⟨i, hi, by have h1 : 0 ≤ g (XN n (idxV (plcs n) a).toNat t (plcs n).length) i := h1; omega, h2, by rw [List.getElem?_eq_getElem hi, Option.getD_some]⟩
  · rw [best_bad hf, ear_bad (fun hh => hf hh.1)]
    constructor
    · intro ⟨j, hj, _⟩; exact absurd hj (by simp)
    · intro ⟨h1, _⟩; omega
theorem beq_m (m : Bool) (q : Prop) [Decidable q] (h : m = true ↔ q) : (m == decide q) = true := by
  by_cases hq : q
  · rw [h.2 hq, decide_eq_true hq]; rfl
  · cases m with
    | true => exact absurd (h.1 rfl) hq
    | false => rw [decide_eq_false hq]; rfl
end Go.Sx
end
section
/- Back along the legs of the best arrivals: the way that is found, and what holds of it. -/
namespace Go.Sx
open Relax (g g_set X)
set_option linter.unusedVariables false

theorem idx_get {l : List ByteArray} {p : ByteArray} {k : Nat} (h : idxV l p = (k : Int)) : l[k]? = some p := by
  unfold idxV at h
  cases hf : l.findIdx? (fun x => decide (x = p)) with
  | none => rw [hf] at h; simp only at h; omega
  | some j =>
    rw [hf] at h
    obtain ⟨hj, hp, _⟩ := List.findIdx?_eq_some_iff_getElem.1 hf
    have hp : l[j] = p := by simpa using hp
    have : j = k := by simp only at h; omega
    subst this
    rw [List.getElem?_eq_getElem hj, hp]
theorem idx_inj {l : List ByteArray} {p q : ByteArray} {k : Nat} (h : idxV l p = (k : Int)) (h' : idxV l q = (k : Int)) : p = q := by
  have h1 := idx_get h
  have h2 := idx_get h'
  rw [h1] at h2
  exact Option.some.inj h2
theorem iA_get {n : Network} {i : Nat} (hi : i < n.Legs.length) : (plcs n)[iA n i]? = some n.Legs[i].From := idx_get (iA_spec hi).1
/-- leg i ends at place x at the time due, taken from the arrivals bf -/
def stpB (n : Network) (st : Nat) (bf : List Int) (x : Nat) (due : Int) (i : Nat) : Bool :=
  decide (iB n i = x) && !decide (g bf (iA n i) < 0) && (arrN n st i (g bf (iA n i)) == some due)
/-- the first such leg -/
def stpI (n : Network) (st : Nat) (bf : List Int) (x : Nat) (due : Int) : Option Nat := (List.range n.Legs.length).find? (stpB n st bf x due)
/-- the day on which leg i starts next from a time on -/
def dayN (n : Network) (i : Nat) (r : Int) : Int := match (List.range 61).find? (nxtB n i r) with | some d => (d : Int) | none => -1
def stpT (n : Network) (st : Nat) (bf : List Int) (i : Nat) : Trip := ⟨(i : Int), dayN n i (rdyN n st i (g bf (iA n i)))⟩
/-- the way to x with k legs, that arrives at the time due -/
def bckW (n : Network) (st : Nat) (at0 : Int) : Nat → Nat → Int → List Trip
  | 0, _, _ => []
  | k + 1, x, due => match stpI n st (XN n st at0 k) x due with
    | some i => bckW n st at0 k (iA n i) (g (XN n st at0 k) (iA n i)) ++ [stpT n st (XN n st at0 k) i]
    | none => []
/-- at place x the arrivals turn for the last time in round k -/
structure Tight (n : Network) (st : Nat) (at0 : Int) (k x : Nat) (due : Int) : Prop where
  pos : 0 ≤ due
  now : g (XN n st at0 k) x = due
  old : ∀ j, k = j + 1 → g (XN n st at0 j) x ≠ due
section
variable {n : Network} (hn : netB n = true) {st : Nat} (hst : st < (plcs n).length) {at0 : Int} (ha : ¬ at0 > 100000)
include hn hst ha
theorem tight_step {k x : Nat} {due : Int} (T : Tight n st at0 (k + 1) x due) : ∃ i, stpI n st (XN n st at0 k) x due = some i ∧ i < n.Legs.length ∧ iB n i = x ∧ 0 ≤ g (XN n st at0 k) (iA n i) ∧ arrN n st i (g (XN n st at0 k) (iA n i)) = some due ∧
    Tight n st at0 k (iA n i) (g (XN n st at0 k) (iA n i)) := by
  have hne := T.old k rfl
  have I := Relax.inv (A := iA n) (relax_ok hn st) _ (XN_len hn hst ha k) n.Legs.length (Nat.le_refl _)
  have hnow : g (XN n st at0 (k + 1)) x = due := T.now
  rcases I.from_ x with e | ⟨_, _, j, hj, hB, h0, he⟩
  · have e : g (XN n st at0 (k + 1)) x = g (XN n st at0 k) x := e
    exact absurd (e.symm.trans hnow) hne
  · have he : arrN n st j (g (XN n st at0 k) (iA n j)) = some (g (XN n st at0 (k + 1)) x) := he
    rw [hnow] at he
    have hjb : stpB n st (XN n st at0 k) x due j = true := by
      unfold stpB
      have h0' : ¬ g (XN n st at0 k) (iA n j) < 0 := by omega
      simp [hB, h0', he]
    cases hf : stpI n st (XN n st at0 k) x due with
    | none => exact absurd hjb (by simpa using List.find?_eq_none.1 hf j (by simpa using hj))
    | some i =>
      have hp := List.find?_some hf
      have hm := List.mem_of_find?_eq_some hf
      simp only [stpB, Bool.and_eq_true, decide_eq_true_eq, Bool.not_eq_true', decide_eq_false_iff_not] at hp
      obtain ⟨⟨p1, p2⟩, p3⟩ := hp
      have p3 : arrN n st i (g (XN n st at0 k) (iA n i)) = some due := by simpa using p3
      have hi : i < n.Legs.length := by simpa using hm
      refine ⟨i, rfl, hi, p1, by omega, p3, ⟨by omega, rfl, fun j' hj' => ?_⟩⟩
      subst hj'
      intro heq
      rw [← heq] at p3
      have h3 : 0 ≤ g (XN n st at0 j') (iA n i) := by omega
      have h1 := XN_step hn hst ha hi h3 p3
      have h2 := XN_more hn hst ha (j' + 1) 1 x (by rw [← p1]; exact h1.1)
      rw [p1] at h1
      have hnow : g (XN n st at0 (j' + 1 + 1)) x = due := hnow
      exact hne (by omega)
theorem tight_zero {x : Nat} {due : Int} (T : Tight n st at0 0 x due) : x = st ∧ due = v0N at0 := by
  have _ := hn
  have _ := ha
  have h := T.now
  have hp := T.pos
  have h0 := g_x0 (at0 := at0) hst x
  have h : g (x0N n st at0) x = due := h
  by_cases hx : x = st
  · rw [if_pos hx] at h0; exact ⟨hx, by omega⟩
  · rw [if_neg hx] at h0; omega
end
theorem each_snoc {α X R : Type} (f : Nat → α → X → X ⊕ R) (a : α) : ∀ (l : List α) (i : Nat) (x y : X), each f i l x = .inl y → each f i (l ++ [a]) x = f (i + l.length) a y
  | [], i, x, y, h => by
    simp only [each, Sum.inl.injEq] at h
    subst h
    simp only [List.nil_append, each, List.length_nil, Nat.add_zero]
    cases f i a x <;> rfl
  | b :: l, i, x, y, h => by
    simp only [each] at h
    simp only [List.cons_append, each]
    cases hf : f i b x with
    | inr r => rw [hf] at h; cases h
    | inl x' =>
      rw [hf] at h
      have := each_snoc f a l (i + 1) x' y h
      simp only at this ⊢
      rw [this]
      congr 1
      simp only [List.length_cons]
      omega
/-- a trip that may be taken from here -/
theorem wayF_ok {n : Network} {t : Trip} {x : ByteArray × Int} (ht : tripB n t = true) (hf : (legA n t.Leg).From = x.1) (hs : x.2 ≤ stT n t) : wayF n t x = .inl ((legA n t.Leg).To, enT n t + n.Change) := by
  have hb := stT_in ht
  have hc := change_in (trip_in ht).1
  unfold wayF
  have h1 : ((legA n t.Leg).From.toList == x.1.toList) = true := by rw [hf]; simp
  have h2 : decide (stT n t < x.2) = false := by simp; exact hs
  rw [ht, h1, h2]
  simp only [Bool.not_true, cond_false, cond_true]
  rw [w64_id (by omega) (by omega)]
theorem legA_get {n : Network} {i : Nat} (hi : i < n.Legs.length) : legA n (i : Int) = n.Legs[i] := by
  unfold legA
  rw [Int.toNat_natCast, List.getElem?_eq_getElem hi, Option.getD_some]
section
variable {n : Network} (hn : netB n = true) {st : Nat} (hst : st < (plcs n).length) {at0 : Int} (ha : ¬ at0 > 100000)
include hn hst ha
theorem tight_trip {i : Nat} {bf : List Int} {due : Int} (hi : i < n.Legs.length) (he : arrN n st i (g bf (iA n i)) = some due) : tripB n (stpT n st bf i) = true ∧ rdyN n st i (g bf (iA n i)) ≤ stT n (stpT n st bf i) ∧ enT n (stpT n st bf i) = due ∧ (stpT n st bf i).Leg = (i : Int) := by
  have _ := hst
  have _ := ha
  obtain ⟨_, d, hd, rfl⟩ := arr_some he
  obtain ⟨h1, h2⟩ := nxt_trip hn hd
  have e : stpT n st bf i = ⟨(i : Int), (d : Int)⟩ := by unfold stpT dayN; rw [hd]
  rw [e]
  exact ⟨h1, h2, rfl, rfl⟩
theorem bck_len : ∀ (k x : Nat) (due : Int), Tight n st at0 k x due → (bckW n st at0 k x due).length = k
  | 0, x, due, T => rfl
  | k + 1, x, due, T => by
    obtain ⟨i, h1, _, _, _, _, h6⟩ := tight_step hn hst ha T
    unfold bckW
    rw [h1]
    simp only [List.length_append, List.length_singleton]
    rw [bck_len k _ _ h6]
theorem bck_walk {p0 : ByteArray} (hp0 : idxV (plcs n) p0 = (st : Int)) {t0 : Int} (ht0 : t0 ≤ v0N at0) : ∀ (k x : Nat) (due : Int), x < (plcs n).length → Tight n st at0 k x due →
    ∃ p, (plcs n)[x]? = some p ∧ each (X := ByteArray × Int) (R := Bool) (fun _ t s => wayF n t s) 0 (bckW n st at0 k x due) (p0, t0) = .inl (p, if k = 0 then t0 else due + n.Change)
  | 0, x, due, hx, T => by
    obtain ⟨rfl, _⟩ := tight_zero hn hst ha T
    exact ⟨p0, idx_get hp0, rfl⟩
  | k + 1, x, due, hx, T => by
    obtain ⟨i, h1, h2, h3, h4, h5, h6⟩ := tight_step hn hst ha T
    obtain ⟨p, hp, hw⟩ := bck_walk hp0 ht0 k (iA n i) _ (iA_spec h2).2 h6
    have hA := iA_get h2
    rw [hA] at hp
    have hp := Option.some.inj hp
    subst hp
    obtain ⟨q1, q2, q3, q4⟩ := tight_trip hn hst ha h2 h5
    have hbg := XN_big hn hst ha k (iA n i)
    have hc := change_in hn
    have hB := idx_get (iB_spec h2).1
    rw [h3] at hB
    refine ⟨n.Legs[i].To, hB, ?_⟩
    unfold bckW
    rw [h1]
    simp only
    rw [each_snoc _ _ _ _ _ _ hw, wayF_ok q1 (by rw [q4, legA_get h2]) ?_, q4, legA_get h2, q3, if_neg (Nat.succ_ne_zero k)]
    rw [rdy_eq hn h4 hbg] at q2
    show (if k = 0 then t0 else g (XN n st at0 k) (iA n i) + n.Change) ≤ _
    by_cases hk : k = 0
    · rw [if_pos hk]
      subst hk
      obtain ⟨e1, e2⟩ := tight_zero hn hst ha h6
      rw [if_pos e1] at q2
      omega
    · rw [if_neg hk]
      have hne : ¬ iA n i = st := fun e => by
        obtain ⟨j, rfl⟩ : ∃ j, k = j + 1 := ⟨k - 1, by omega⟩
        have := h6.old j rfl
        rw [e] at this
        exact this (by rw [XN_st hn hst ha, XN_st hn hst ha])
      rw [if_neg hne] at q2
      exact q2
/-- the arrivals turn for the last time in the first round that has the last value -/
theorem tight_first {x k : Nat} (hpos : 0 ≤ DN n st at0 x) (hk : g (XN n st at0 k) x = DN n st at0 x) (hmin : ∀ j, j < k → g (XN n st at0 j) x ≠ DN n st at0 x) : Tight n st at0 k x (DN n st at0 x) := by
  have _ := hn
  have _ := hst
  have _ := ha
  exact ⟨hpos, hk, fun j hj => hmin j (by omega)⟩
end
/-- whoever is at place p, ready at r, with m legs behind him, is never ahead of the best arrivals -/
def WkInv (n : Network) (st : Nat) (at0 : Int) (m : Nat) (p : ByteArray) (r : Int) : Prop :=
  ∃ v : Nat, idxV (plcs n) p = (v : Int) ∧ 0 ≤ g (XN n st at0 m) v ∧ (if v = st then g (XN n st at0 m) v else g (XN n st at0 m) v + n.Change) ≤ r ∧ (0 < m → g (XN n st at0 m) v + n.Change ≤ r)
section
variable {n : Network} (hn : netB n = true) {st : Nat} (hst : st < (plcs n).length) {at0 : Int} (ha : ¬ at0 > 100000)
include hn hst ha
theorem wk_zero {p0 : ByteArray} (hp0 : idxV (plcs n) p0 = (st : Int)) : WkInv n st at0 0 p0 (v0N at0) := by
  have h := XN_st hn hst ha 0
  have h0 : 0 ≤ v0N at0 := by unfold v0N; split <;> omega
  exact ⟨st, hp0, by rw [h]; exact h0, by rw [if_pos rfl, h]; exact Int.le_refl _, fun hh => absurd hh (Nat.lt_irrefl 0)⟩
theorem wk_step {m : Nat} {p : ByteArray} {r : Int} {t : Trip} (hw : WkInv n st at0 m p r) (ht : tripB n t = true) (hf : (legA n t.Leg).From = p) (hs : r ≤ stT n t) : WkInv n st at0 (m + 1) (legA n t.Leg).To (enT n t + n.Change) := by
  obtain ⟨v, hv, h0, h1, _⟩ := hw
  obtain ⟨_, t1, t2, t3, t4⟩ := trip_in ht
  have hc := change_in hn
  have hi : t.Leg.toNat < n.Legs.length := by omega
  have hl : ((t.Leg.toNat : Nat) : Int) = t.Leg := by omega
  have hlA : legA n t.Leg = n.Legs[t.Leg.toNat] := by have h9 := legA_get hi; rw [hl] at h9; exact h9
  have hva : v = iA n t.Leg.toNat := by
    have h2 := (iA_spec hi).1
    rw [hlA] at hf
    rw [hf, hv] at h2
    omega
  subst hva
  have hbg := XN_big hn hst ha m (iA n t.Leg.toNat)
  have hd : ((t.Day.toNat : Nat) : Int) = t.Day := by omega
  have hrun : runB n t.Leg t.Day = true := by have := ht; simp [tripB, hn] at this; exact this
  have hcan : nxtB n t.Leg.toNat (rdyN n st t.Leg.toNat (g (XN n st at0 m) (iA n t.Leg.toNat))) t.Day.toNat = true := by
    rw [rdy_eq hn h0 hbg]
    simp only [nxtB, hl, hd, hrun, Bool.true_and, decide_eq_true_eq]
    exact Int.le_trans h1 hs
  cases hf2 : (List.range 61).find? (nxtB n t.Leg.toNat (rdyN n st t.Leg.toNat (g (XN n st at0 m) (iA n t.Leg.toNat)))) with
  | none => exact absurd hcan (by simpa using List.find?_eq_none.1 hf2 t.Day.toNat (by simp; omega))
  | some d' =>
    have hdd : d' ≤ t.Day.toNat := by
      obtain ⟨g1, g2, g3⟩ := List.find?_range_eq_some.1 hf2
      by_cases hh : t.Day.toNat < d'
      · have := g3 _ hh
        rw [hcan] at this; cases this
      · omega
    have harr : arrN n st t.Leg.toNat (g (XN n st at0 m) (iA n t.Leg.toNat)) = some (enT n ⟨(t.Leg.toNat : Int), (d' : Int)⟩) := by
      unfold arrN
      rw [if_pos hbg, hf2]
    have hcl := XN_step hn hst ha hi h0 harr
    have hem := (enT_mono n (t.Leg.toNat : Int) hdd).1
    have het : enT n ⟨(t.Leg.toNat : Int), (t.Day.toNat : Int)⟩ = enT n t := by rw [hl, hd]
    rw [het] at hem
    refine ⟨iB n t.Leg.toNat, by rw [hlA]; exact (iB_spec hi).1, hcl.1, ?_, fun _ => by omega⟩
    split <;> omega
end
end Go.Sx
end
section
/- The way that is found: what both functions compute. -/
namespace Go.Sx
open Relax (g g_set X)
set_option linter.unusedVariables false

theorem stpB_eq {n : Network} {st : Nat} {bf : List Int} {x : Nat} {due : Int} {i : Nat} (hb : g bf (iA n i) ≤ 1000000) :
    stpB n st bf x due i = (decide (iB n i = x) && !decide (g bf (iA n i) < 0) && (match (List.range 61).find? (nxtB n i (rdyN n st i (g bf (iA n i)))) with | some d => decide (enT n ⟨(i : Int), (d : Int)⟩ = due) | none => false)) := by
  unfold stpB arrN
  rw [if_pos hb]
  cases (List.range 61).find? (nxtB n i (rdyN n st i (g bf (iA n i)))) with
  | none => rfl
  | some d =>
    congr 1
theorem find_first {L : Nat} {p : Nat → Bool} {i : Nat} (hi : i < L) (hp : p i = true) (hm : ∀ j, j < i → p j = false) : (List.range L).find? p = some i :=
  List.find?_range_eq_some.2 ⟨hp, by simpa using hi, fun j hj => by rw [hm j hj]; rfl⟩
theorem find_none {L : Nat} {p : Nat → Bool} (hm : ∀ j, j < L → p j = false) : (List.range L).find? p = none :=
  List.find?_eq_none.2 fun j hj => by rw [hm j (by simpa using hj)]; simp
theorem to_eq {n : Network} {i x : Nat} (hi : i < n.Legs.length) (hx : x < (plcs n).length) : (n.Legs[i].To.toList == (plcs n)[x].toList) = decide (iB n i = x) := by
  have h1 := idx_get (iB_spec hi).1
  rw [bytes_eq_decide]
  by_cases h : iB n i = x
  · rw [h, List.getElem?_eq_getElem hx] at h1
    have := Option.some.inj h1
    rw [decide_eq_true h, decide_eq_true this.symm]
  · rw [decide_eq_false h, decide_eq_false]
    intro he
    have h2 := (iB_spec hi).1
    rw [he, idx_at n hx] at h2
    exact h (by omega)
section
variable {n : Network} (h : NetS n) (hn : netB n = true) {st : Nat} {bf : List Int} (hl : bf.length = (plcs n).length) (hb : ∀ v, g bf v ≤ 1000000) {x : Nat} (hx : x < (plcs n).length) (due : Int)
include h hn hl hb hx
theorem specStep_eq : spec_l4Step n (plcs n) bf (st : Int) (x : Int) due = some (match stpI n st bf x due with | some i => stpT n st bf i | none => ⟨0, 0⟩) := by
  have hp := plcs_len n h
  have hL := h.legs
  unfold spec_l4Step
  obtain ⟨y, h1, h2⟩ := loopM_up (body := spec_l4Step_L1 n (plcs n) bf (st : Int) (x : Int) due) n.Legs.length (fun i s => s = (i : Int) ∧ ∀ j, j < i → stpB n st bf x due j = false) (fun y => (y = .inl () ∧ stpI n st bf x due = none) ∨ ∃ i, stpI n st bf x due = some i ∧ y = .inr (stpT n st bf i)) (fun i s hi hs => by
    obtain ⟨rfl, hm⟩ := hs
    have hws := w64_succ (show i ≤ 1048576 by omega)
    obtain ⟨a1, a2⟩ := iA_spec hi
    have ha : gi bf (iA n i : Int) = some (g bf (iA n i)) := gi_g (by omega)
    have hgx : gi (plcs n) (x : Int) = some (plcs n)[x] := gi_nat hx
    have hB := stpB_eq (n := n) (st := st) (x := x) (due := due) (hb (iA n i))
    have next : stpB n st bf x due i = false → ∃ s' : Int, (some (Ctl.next (τ := Unit) (ρ := Trip) ((i + 1 : Nat) : Int)) : Option _) = some (.next s') ∧ s' = ((i + 1 : Nat) : Int) ∧ ∀ j, j < i + 1 → stpB n st bf x due j = false := fun hf => ⟨_, rfl, rfl, fun j hj => by
      by_cases hji : j = i
      · rw [hji]; exact hf
      · exact hm j (by omega)⟩
    have hr : spec_l4Ready n (g bf (iA n i)) (((iA n i : Nat) : Int) == (st : Int)) = some (rdyN n st i (g bf (iA n i))) := by
      unfold spec_l4Ready rdyN
      by_cases hs : iA n i = st
      · simp [hs]
      · have : (((iA n i : Nat) : Int) == (st : Int)) = false := by simp; omega
        simp [this, hs]
    show (∃ s', spec_l4Step_L1_b n (plcs n) bf (st : Int) (x : Int) due (i : Int) = some (.next s') ∧ _) ∨ (∃ t, spec_l4Step_L1_b n (plcs n) bf (st : Int) (x : Int) due (i : Int) = some (.brk t) ∧ _) ∨ (∃ r, spec_l4Step_L1_b n (plcs n) bf (st : Int) (x : Int) due (i : Int) = some (.ret r) ∧ _)
    unfold spec_l4Step_L1_b
    simp only [Int.ofNat_lt, hi, decide_true, cond_true, gi_nat hi, Option.bind_some, index_eq _ _ (show (plcs n).length ≤ 4000000 by omega), a1, ha, hgx, hws, to_eq hi hx]
    by_cases c1 : iB n i = x
    · by_cases c2 : g bf (iA n i) < 0
      · simp only [c1, c2, decide_true, Bool.not_true, cond_false, cond_true]
        exact .inl (next (by rw [hB]; simp [c2]))
      · simp only [c1, c2, decide_true, decide_false, Bool.not_true, cond_false, hr, Option.bind_some, spec_next_eq n h hn, spec_l4Step_j1, hws]
        cases hf : (List.range 61).find? (nxtB n i (rdyN n st i (g bf (iA n i)))) with
        | none => exact .inl (next (by rw [hB, hf]; simp))
        | some d =>
          obtain ⟨ht, _⟩ := nxt_trip hn hf
          have hd0 : decide ((d : Int) ≥ 0) = true := by simp
          simp only [hd0, cond_true, ends_eq ht, Option.bind_some]
          by_cases c3 : enT n ⟨(i : Int), (d : Int)⟩ = due
          · have hBt : stpB n st bf x due i = true := by rw [hB, hf]; simp [c1, c2, c3]
            have e : stpT n st bf i = ⟨(i : Int), (d : Int)⟩ := by unfold stpT dayN; rw [hf]
            refine .inr (.inr ⟨⟨(i : Int), (d : Int)⟩, by simp [c3], .inr ⟨i, find_first hi hBt hm, by rw [e]⟩⟩)
          · have c3' : (enT n ⟨(i : Int), (d : Int)⟩ == due) = false := by simp [c3]
            simp only [c3', cond_false]
            exact .inl (next (by rw [hB, hf]; simp [c3]))
    · simp only [c1, decide_false, Bool.not_false, cond_true]
      exact .inl (next (by rw [hB]; simp [c1]))) (fun s hs => by
    obtain ⟨rfl, hm⟩ := hs
    refine .inl ⟨(), ?_, .inl ⟨rfl, find_none hm⟩⟩
    show spec_l4Step_L1_b n (plcs n) bf (st : Int) (x : Int) due (n.Legs.length : Int) = _
    simp [spec_l4Step_L1_b]) (0 : Int) ⟨rfl, fun j hj => absurd hj (Nat.not_lt_zero j)⟩ (show n.Legs.length < 1000000000000 by omega)
  rw [h1]
  rcases h2 with ⟨rfl, e⟩ | ⟨i, e, rfl⟩
  · rw [e]; rfl
  · rw [e]; rfl
end
end Go.Sx
end
section
/- FindWay: what both functions return. -/
namespace Go.Sx
open Relax (g g_set X)
set_option linter.unusedVariables false

theorem loopM_nx {σ τ ρ : Type} {body : σ → Option (Ctl σ τ ρ)} {s s' : σ} {f : Nat} (h : body s = some (.next s')) : loopM body (f + 1) s = loopM body f s' := by simp [loopM, h]
theorem loopM_bk {σ τ ρ : Type} {body : σ → Option (Ctl σ τ ρ)} {s : σ} {t : τ} {f : Nat} (h : body s = some (.brk t)) : loopM body (f + 1) s = some (.inl t) := by simp [loopM, h]
/-- the number of legs with which the last arrival is first had -/
def lgsN (n : Network) (st : Nat) (at0 : Int) (x : Nat) : Nat := ((List.range ((plcs n).length + 1)).find? (fun k => decide (g (XN n st at0 k) x = DN n st at0 x))).getD 0
theorem lgs_spec (n : Network) (st : Nat) (at0 : Int) (x : Nat) : lgsN n st at0 x ≤ (plcs n).length ∧ g (XN n st at0 (lgsN n st at0 x)) x = DN n st at0 x ∧ ∀ j, j < lgsN n st at0 x → g (XN n st at0 j) x ≠ DN n st at0 x := by
  unfold lgsN
  cases hf : (List.range ((plcs n).length + 1)).find? (fun k => decide (g (XN n st at0 k) x = DN n st at0 x)) with
  | none =>
    have := List.find?_eq_none.1 hf (plcs n).length (by simp)
    simp at this
  | some k =>
    obtain ⟨h1, h2, h3⟩ := List.find?_range_eq_some.1 hf
    simp only [Option.getD_some]
    refine ⟨by have := List.mem_range.1 h2; omega, by simpa using h1, fun j hj => by have := h3 j hj; simpa using this⟩
/-- the way that is found -/
def fwV (n : Network) (a b : ByteArray) (t : Int) : List Trip × Bool :=
  if earV n a b t < 0 then ([], false) else
    (bckW n (idxV (plcs n) a).toNat t (lgsN n (idxV (plcs n) a).toNat t (idxV (plcs n) b).toNat) (idxV (plcs n) b).toNat (earV n a b t), true)
theorem fw_tight {n : Network} {a b : ByteArray} {t : Int} (h : 0 ≤ earV n a b t) : ∃ st x : Nat, Fine n a t ∧ idxV (plcs n) a = (st : Int) ∧ idxV (plcs n) b = (x : Int) ∧ st < (plcs n).length ∧ x < (plcs n).length ∧ earV n a b t = DN n st t x ∧ Tight n st t (lgsN n st t x) x (DN n st t x) ∧ fwV n a b t = (bckW n st t (lgsN n st t x) x (DN n st t x), true) := by
  have hc : Fine n a t ∧ ¬ idxV (plcs n) b < 0 := Classical.byContradiction fun hc => by rw [ear_bad hc] at h; omega
  obtain ⟨st, e1, h1⟩ := idx_lt hc.1.2.1
  obtain ⟨x, e2, h2⟩ := idx_lt hc.2
  have hE := ear_fine hc.1 hc.2
  rw [e1, e2] at hE
  simp only [Int.toNat_natCast] at hE
  obtain ⟨l1, l2, l3⟩ := lgs_spec n st t x
  refine ⟨st, x, hc.1, e1, e2, h1, h2, hE, tight_first hc.1.1 h1 hc.1.2.2 (by rw [← hE]; exact h) l2 l3, ?_⟩
  unfold fwV
  rw [if_neg (by omega), e1, e2, hE]
  rfl
/-- all arrivals, by the number of legs -/
def allN (n : Network) (st : Nat) (at0 : Int) (m : Nat) : List (List Int) := (List.range m).map (XN n st at0)
theorem all_get {n : Network} {st : Nat} {at0 : Int} {m k : Nat} (hk : k < m) : gi (allN n st at0 m) (k : Int) = some (XN n st at0 k) := by
  have hl : k < (allN n st at0 m).length := by simp [allN]; exact hk
  rw [gi_nat hl]
  simp [allN]
section
variable {n : Network} (h : NetS n) (hn : netB n = true) {st : Nat} (hst : st < (plcs n).length) {at0 : Int} (ha : ¬ at0 > 100000) {a : ByteArray} (hf : Fine n a at0) (hai : idxV (plcs n) a = (st : Int))
include h hn hst ha hf hai
theorem best_at (k : Nat) : bestV n a at0 (k : Int) = XN n st at0 k := by
  have _ := h
  have _ := hn
  have _ := hst
  have _ := ha
  rw [best_vals hf, hai, Int.toNat_natCast]
theorem spec_back : ∀ (k x : Nat) (due : Int) (way : List Trip) (f : Nat), x < (plcs n).length → Tight n st at0 k x due → way.length + k ≤ 1000 → k < f →
    loopM (spec_FindWay_L2 n a at0 (plcs n) (st : Int)) f (due, (x : Int), way, (k : Int)) = some (.inl (bckW n st at0 k x due ++ way))
  | 0, x, due, way, f + 1, hx, T, hw, hfu => loopM_bk (by show spec_FindWay_L2_b n a at0 (plcs n) (st : Int) due (x : Int) way ((0 : Nat) : Int) = _; simp [spec_FindWay_L2_b, bckW])
  | k + 1, x, due, way, f + 1, hx, T, hw, hfu => by
    have hp := plcs_len n h
    obtain ⟨i, h1, h2, h3, h4, h5, h6⟩ := tight_step hn hst ha T
    obtain ⟨q1, q2, q3, q4⟩ := tight_trip hn hst ha h2 h5
    have hlen := XN_len hn hst ha k
    have hws : w64 (((k + 1 : Nat) : Int) - 1) = (k : Int) := by rw [w64_id (by omega) (by omega)]; omega
    have hst' := specStep_eq h hn (st := st) hlen (XN_big hn hst ha k) hx due
    rw [h1] at hst'
    have hap : ap 16 ([stpT n st (XN n st at0 k) i] : List Trip) way = some ([stpT n st (XN n st at0 k) i] ++ way) := ap_eq (by simp <;> omega) (by simp <;> omega)
    have hgl : gi n.Legs (stpT n st (XN n st at0 k) i).Leg = some n.Legs[i] := by rw [q4]; exact gi_nat h2
    obtain ⟨a1, a2⟩ := iA_spec h2
    have hgi : gi (XN n st at0 k) (iA n i : Int) = some (g (XN n st at0 k) (iA n i)) := gi_g (by omega)
    rw [loopM_nx (s' := (g (XN n st at0 k) (iA n i), (iA n i : Int), [stpT n st (XN n st at0 k) i] ++ way, (k : Int))) (by
      show spec_FindWay_L2_b n a at0 (plcs n) (st : Int) due (x : Int) way ((k + 1 : Nat) : Int) = _
      unfold spec_FindWay_L2_b
      have hpos : decide (((k + 1 : Nat) : Int) > 0) = true := by simp <;> omega
      simp only [hpos, cond_true, hws, best_spec n h, best_at h hn hst ha hf hai, Option.bind_some, hst', hap, hgl, index_eq _ _ (show (plcs n).length ≤ 4000000 by omega), a1, hgi])]
    rw [spec_back k (iA n i) _ _ f a2 h6 (by simp <;> omega) (by omega)]
    have hb : bckW n st at0 (k + 1) x due = bckW n st at0 k (iA n i) (g (XN n st at0 k) (iA n i)) ++ [stpT n st (XN n st at0 k) i] := by
      rw [bckW, h1]
    rw [hb, List.append_assoc]
end
theorem findWay_spec (n : Network) (h : NetS n) (a b : ByteArray) (t : Int) : spec_FindWay n a b t = some (fwV n a b t) := by
  have hp := plcs_len n h
  unfold spec_FindWay
  rw [ear_spec n h a b t]
  simp only [Option.bind_some]
  by_cases hE : earV n a b t < 0
  · unfold fwV
    rw [if_pos hE]
    simp [hE]
  · obtain ⟨st, x, hf, e1, e2, hst, hx, hD, T, hV⟩ := fw_tight (n := n) (a := a) (b := b) (t := t) (by omega)
    rw [hV]
    obtain ⟨l1, l2, l3⟩ := lgs_spec n st t x
    have h40 := plcs_le hf.1
    have hL1 := loop_go (body := spec_FindWay_L1 n a t (DN n st t x) (x : Int)) (lgsN n st t x) (fun i => (i : Int)) ((lgsN n st t x : Nat) : Int) (show lgsN n st t x < 1000000000000 by omega) (fun i hi => by
      have hws := w64_succ (show i ≤ 1048576 by omega)
      have hgi : gi (XN n st t i) (x : Int) = some (g (XN n st t i) x) := gi_g (by rw [XN_len hf.1 hst hf.2.2]; exact hx)
      have hne : (g (XN n st t i) x != DN n st t x) = true := by have := l3 i hi; simpa using this
      show spec_FindWay_L1_b n a t (DN n st t x) (x : Int) (i : Int) = _
      unfold spec_FindWay_L1_b
      simp only [best_spec n h, best_at h hf.1 hst hf.2.2 hf e1, Option.bind_some, hgi, hne, cond_true, hws]) (by
      have hgi : gi (XN n st t (lgsN n st t x)) (x : Int) = some (g (XN n st t (lgsN n st t x)) x) := gi_g (by rw [XN_len hf.1 hst hf.2.2]; exact hx)
      show spec_FindWay_L1_b n a t (DN n st t x) (x : Int) ((lgsN n st t x : Nat) : Int) = _
      unfold spec_FindWay_L1_b
      simp only [best_spec n h, best_at h hf.1 hst hf.2.2 hf e1, Option.bind_some, hgi, l2]
      simp)
    have hL2 := spec_back h hf.1 hst hf.2.2 hf e1 (lgsN n st t x) x (DN n st t x) [] big hx T (by simp <;> omega) (by unfold big; omega)
    rw [List.append_nil] at hL2
    have hL1' : loopM (spec_FindWay_L1 n a t (DN n st t x) (x : Int)) big 0 = some (.inl ((lgsN n st t x : Nat) : Int)) := hL1
    have hE' : decide (DN n st t x < 0) = false := by rw [← hD]; simp [hE]
    simp only [hE', cond_false, spec_PlacesOf_eq n h, Option.bind_some, index_eq _ _ (show (plcs n).length ≤ 4000000 by omega), e1, e2, hD, hL1', spec_FindWay_L1_k, spec_FindWay_L1_a, hL2, spec_FindWay_L2_k, spec_FindWay_L2_a]
end Go.Sx
end
