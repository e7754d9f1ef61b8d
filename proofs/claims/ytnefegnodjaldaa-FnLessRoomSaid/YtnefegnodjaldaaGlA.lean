/- Finding room, booking, the draw of rides; a thing rides what it has booked. -/
import Derived.Test.YtnefegnodjaldaaGlK
namespace Go.Sx
open Relax (g g_set X)
set_option linter.unusedVariables false

theorem findRoom_tot (n : Network) (h : NetS n) (l : List Booking) (hl : l.length ≤ 1048576) (c : List Trip) (hcl : c.length ≤ 1048576) (a b : ByteArray) (t w : Int) : ∃ r ok, spec_FindRoom n l c a b t w = some (r, ok) ∧ r.length ≤ 40 ∧
    (ok = true ↔ ∃ bf, spec_BestFree n l c a t w (plcs n).length = some bf ∧ bf ≠ [] ∧ ¬ idxV (plcs n) b < 0 ∧ ¬ g bf (idxV (plcs n) b).toNat < 0) := by
  have hp := plcs_len n h
  obtain ⟨bf, e1, hb1, hb2, _⟩ := bestFree_tot n h l hl c hcl a t w (plcs n).length
  unfold spec_FindRoom
  rw [spec_PlacesOf_eq n h]
  simp only [Option.bind_some, index_eq _ _ (show (plcs n).length ≤ 4000000 by omega), e1]
  by_cases h1 : idxV (plcs n) b < 0
  · exact ⟨[], false, by simp [h1], by simp, fun hh => (by cases hh), fun ⟨_, _, _, hh, _⟩ => absurd h1 hh⟩
  rcases hb1 with rfl | hbl
  · exact ⟨[], false, by simp [h1], by simp, fun hh => (by cases hh), fun ⟨bf, hb, hh, _⟩ => by exact absurd (Option.some.inj hb).symm hh⟩
  obtain ⟨x, ex, hx⟩ := idx_lt h1
  have hne : bf ≠ [] := fun e => by rw [e] at hbl; simp only [List.length_nil] at hbl; omega
  obtain ⟨hbk, ha, ht, hw⟩ := hb2 hne
  have hn := bok_net hbk
  have hp40 := plcs_le hn
  have hz : ((bf.length : Int) == 0) = false := by rw [hbl]; exact beq_eq_false_iff_ne.2 (by omega)
  have hg : gi bf (x : Int) = some (g bf x) := gi_g (by omega)
  have h1' : decide (idxV (plcs n) b < 0) = false := by simp [h1]
  rw [h1', hz, ex]
  simp only [cond_false, hg, Option.bind_some]
  by_cases h2 : g bf x < 0
  · exact ⟨[], false, by simp [h2], by simp, fun hh => (by cases hh), fun ⟨bf', hb, _, _, hh⟩ => by have := Option.some.inj hb; subst this; rw [Int.toNat_natCast] at hh; exact absurd h2 hh⟩
  simp only [h2, decide_false, cond_false]
  -- how many legs
  obtain ⟨y, hy, k, rfl, hk⟩ := loopM_up (body := spec_FindRoom_L1 n l c a t w (x : Int) (g bf x)) (plcs n).length (fun i s => s = (i : Int)) (fun y => ∃ k : Nat, y = .inl (k : Int) ∧ k ≤ (plcs n).length) (fun i s hi hs => by
    subst hs
    obtain ⟨bi, e2, _, _, hb3⟩ := bestFree_tot n h l hl c hcl a t w (i : Int)
    have hbi := hb3 hbk ha ht hw (by omega)
    have hgi : gi bi (x : Int) = some (g bi x) := gi_g (by omega)
    have hws := w64_succ (show i ≤ 1048576 by omega)
    show (∃ s', spec_FindRoom_L1_b n l c a t w (x : Int) (g bf x) (i : Int) = some (.next s') ∧ _) ∨ (∃ t', spec_FindRoom_L1_b n l c a t w (x : Int) (g bf x) (i : Int) = some (.brk t') ∧ _) ∨ _
    unfold spec_FindRoom_L1_b
    simp only [e2, Option.bind_some, hgi, hws]
    cases (g bi x != g bf x) with
    | true => exact .inl ⟨_, rfl, rfl⟩
    | false => exact .inr (.inl ⟨_, rfl, i, rfl, by omega⟩)) (fun s hs => by
    subst hs
    refine .inl ⟨((plcs n).length : Int), ?_, _, rfl, Nat.le_refl _⟩
    show spec_FindRoom_L1_b n l c a t w (x : Int) (g bf x) ((plcs n).length : Int) = _
    unfold spec_FindRoom_L1_b
    simp [e1, hg]) (0 : Int) rfl (show (plcs n).length < 1000000000000 by omega)
  rw [hy]
  simp only [Option.bind_some, spec_FindRoom_L1_k, spec_FindRoom_L1_a]
  have hL := places_legs hx
  -- back along the legs
  obtain ⟨y2, hy2, w2, rfl, hw2⟩ := loopM_tot (body := spec_FindRoom_L2 n l c a t w (plcs n) (idxV (plcs n) a)) (fun s => 0 ≤ s.1 ∧ s.1 < (plcs n).length ∧ 0 ≤ s.2.2.2 ∧ (s.2.1.length : Int) + s.2.2.2 ≤ 40) (fun s => s.2.2.2.toNat) (fun y => ∃ w2, y = .inl w2 ∧ w2.length ≤ 40) (fun s hs => by
    obtain ⟨z, wy, ee, m⟩ := s
    obtain ⟨z0, z1, m0, m1⟩ := hs
    simp only at z0 z1 m0 m1
    show (∃ s', spec_FindRoom_L2_b n l c a t w (plcs n) (idxV (plcs n) a) z wy ee m = some (.next s') ∧ _) ∨ (∃ t', spec_FindRoom_L2_b n l c a t w (plcs n) (idxV (plcs n) a) z wy ee m = some (.brk t') ∧ _) ∨ _
    unfold spec_FindRoom_L2_b
    by_cases c0 : m > 0
    · have hwm : w64 (m - 1) = m - 1 := w64_id (by omega) (by omega)
      obtain ⟨bi, e2, _, _, hb3⟩ := bestFree_tot n h l hl c hcl a t w (m - 1)
      have hbi := hb3 hbk ha ht hw (by omega)
      obtain ⟨tr, e3, t0, t1⟩ := l6Step_tot n h hn hL l hl c hcl w bi hbi (idxV (plcs n) a) z ee z0 z1
      have hap : ap 16 ([tr] : List Trip) wy = some ([tr] ++ wy) := ap_eq (by simp <;> omega) (by simp <;> omega)
      have hleg : gi n.Legs tr.Leg = some (n.Legs[tr.Leg.toNat]'(by omega)) := gi_eq t0 t1
      obtain ⟨a1, a2⟩ := iA_spec (n := n) (i := tr.Leg.toNat) (by omega)
      have hgi : gi bi (iA n tr.Leg.toNat : Int) = some (g bi (iA n tr.Leg.toNat)) := gi_g (by omega)
      refine .inl ⟨((iA n tr.Leg.toNat : Int), [tr] ++ wy, g bi (iA n tr.Leg.toNat), m - 1), by simp only [c0, decide_true, cond_true, hwm, e2, e3, hap, hleg, Option.bind_some, index_eq _ _ (show (plcs n).length ≤ 4000000 by omega), a1, hgi], ⟨?_, ?_, ?_, ?_⟩, ?_⟩
      · show 0 ≤ (iA n tr.Leg.toNat : Int); omega
      · show (iA n tr.Leg.toNat : Int) < _; omega
      · show 0 ≤ m - 1; omega
      · show ((([tr] ++ wy).length : Nat) : Int) + (m - 1) ≤ 40; simp; omega
      · show (m - 1).toNat < m.toNat; omega
    · exact .inr (.inl ⟨wy, by simp [c0], wy, rfl, by omega⟩)) big ((x : Int), ([] : List Trip), g bf x, (k : Int)) ⟨by show 0 ≤ (x : Int); omega, by show (x : Int) < _; omega, by show 0 ≤ (k : Int); omega, by show ((0 : Nat) : Int) + (k : Int) ≤ 40; omega⟩ (by show ((k : Int)).toNat < big; unfold big; omega)
  exact ⟨w2, true, by rw [hy2]; rfl, hw2, fun _ => ⟨bf, rfl, hne, by omega, by rw [Int.toNat_natCast]; exact h2⟩, fun _ => rfl⟩
theorem l6Before_tot (a b : Booking) : ∃ v, spec_l6Before a b = some v := by
  unfold spec_l6Before
  cases (a.Trip.Day != b.Trip.Day) <;> cases (a.Trip.Leg != b.Trip.Leg) <;> simp
theorem l6Copy_eq (l : List Booking) (hl : l.length ≤ 1048576) : spec_l6Copy l = some l := by
  unfold spec_l6Copy
  rw [ap_eq (by simp <;> omega) (by simp <;> omega)]
  simp
theorem l6Add_tot (l : List Booking) (hl : l.length ≤ 100000) (b : Booking) : ∃ r, spec_l6Add l b = some r ∧ r.length = l.length + 1 := by
  unfold spec_l6Add
  obtain ⟨y, hy, k, rfl, hk⟩ := loopM_up (body := spec_l6Add_L1 l b) l.length (fun i s => s = (i : Int)) (fun y => ∃ k : Nat, y = .inl (k : Int) ∧ k ≤ l.length) (fun i s hi hs => by
    subst hs
    have hws := w64_succ (show i ≤ 1048576 by omega)
    obtain ⟨v, hv⟩ := l6Before_tot l[i] b
    show (∃ s', spec_l6Add_L1_b l b (i : Int) = some (.next s') ∧ _) ∨ (∃ t', spec_l6Add_L1_b l b (i : Int) = some (.brk t') ∧ _) ∨ _
    unfold spec_l6Add_L1_b
    simp only [Int.ofNat_lt, hi, decide_true, cond_true, gi_nat hi, Option.bind_some, hv, hws]
    cases v with
    | true => exact .inl ⟨_, rfl, rfl⟩
    | false => exact .inr (.inl ⟨_, rfl, i, rfl, by omega⟩)) (fun s hs => by
    subst hs
    refine .inl ⟨(l.length : Int), ?_, _, rfl, Nat.le_refl _⟩
    show spec_l6Add_L1_b l b (l.length : Int) = _
    simp [spec_l6Add_L1_b]) (0 : Int) rfl (show l.length < 1000000000000 by omega)
  rw [hy]
  simp only [Option.bind_some, spec_l6Add_L1_k, spec_l6Add_L1_a, slM_take l k hk, slM_drop l k hk]
  rw [l6Copy_eq _ (by simp <;> omega)]
  simp only [Option.bind_some]
  rw [ap_eq (by simp <;> omega) (by simp <;> omega)]
  simp only [Option.bind_some]
  rw [ap_eq (by simp <;> omega) (by simp <;> omega)]
  refine ⟨_, rfl, ?_⟩
  simp
  omega
theorem bookWay_tot (n : Network) (h : NetS n) (l : List Booking) (hl : l.length ≤ 1000) (th w : Int) (wy : List Trip) : ∃ r ok, spec_BookWay n l th w wy = some (r, ok) ∧ r.length ≤ l.length + 20 := by
  unfold spec_BookWay
  rw [l6Copy_eq l (by omega), spec_AreBookings_eq n h l (by omega)]
  simp only [Option.bind_some]
  cases bokB n l with
  | false => exact ⟨l, false, rfl, by omega⟩
  | true =>
  by_cases h1 : (wy.length : Int) > 20
  · exact ⟨l, false, by simp [h1], by omega⟩
  obtain ⟨y, hy, r, rfl, hr⟩ := loopM_up (body := spec_BookWay_L1 th w wy) wy.length (fun i s => s.2 = (i : Int) ∧ s.1.length = l.length + i) (fun y => ∃ r, y = .inl r ∧ r.length ≤ l.length + 20) (fun i s hi hs => by
    obtain ⟨s1, s2⟩ := s
    obtain ⟨e1, e2⟩ := hs
    simp only at e1 e2
    subst e1
    have hws := w64_succ (show i ≤ 1048576 by omega)
    obtain ⟨q, hq, hql⟩ := l6Add_tot s1 (by omega) (Booking.mk th wy[i] w)
    refine .inl ⟨(q, ((i + 1 : Nat) : Int)), ?_, rfl, by show q.length = _; omega⟩
    show spec_BookWay_L1_b th w wy s1 (i : Int) = _
    unfold spec_BookWay_L1_b
    simp only [Int.ofNat_lt, hi, decide_true, cond_true, gi_nat hi, Option.bind_some, hq, hws]) (fun s hs => by
    obtain ⟨s1, s2⟩ := s
    obtain ⟨e1, e2⟩ := hs
    simp only at e1 e2
    subst e1
    refine .inl ⟨s1, ?_, s1, rfl, by omega⟩
    show spec_BookWay_L1_b th w wy s1 (wy.length : Int) = _
    simp [spec_BookWay_L1_b]) (l, 0) ⟨rfl, rfl⟩ (show wy.length < 1000000000000 by omega)
  simp only [h1, Bool.not_true, decide_false, cond_false]
  rw [hy]
  simp only [Option.bind_some, spec_BookWay_L1_k, spec_BookWay_L1_a, spec_AreBookings_eq n h r (by omega)]
  cases bokB n r with
  | false => exact ⟨l, false, by simp [l6Copy_eq l (show l.length ≤ 1048576 by omega)], by omega⟩
  | true => exact ⟨r, true, rfl, hr⟩
theorem l4Of_ok2 {c : l1Cur} (h : CurOk c) {N : Nat} (hN : N ≤ 21) {n : Network} (hd : NetD N n) : ∃ v c', spec_l4Of c n = some (v, c') ∧ CurOk c' ∧ v.size = 3 :=
  l4Of_ok h ⟨hd.1, Nat.le_trans hd.2 hN, hd.3, hd.4⟩
theorem l6Draw_ok {c : l1Cur} (hc : CurOk c) {n : Network} (hd : NetD 18 n) (M : Int) (hM : 0 < M) (hM2 : M ≤ 9) : ∃ l c', spec_l6Draw c n M = some (l, c') ∧ CurOk c' ∧ l.length ≤ 200 := by
  have hS := hd.S (by omega)
  obtain ⟨v1, c1, e1, h1, b1, b2, _⟩ := l1Below_ok hc M
  have hb2 := b2 hM
  unfold spec_l6Draw
  rw [e1]
  simp only [Option.bind_some]
  obtain ⟨y, hy, c2, l, rfl, h2, hl⟩ := loopM_tot (body := spec_l6Draw_L1 n) (fun s => CurOk ⟨s.1, s.2.1, s.2.2.1⟩ ∧ 0 ≤ s.2.2.2.2 ∧ (s.2.2.2.1.length : Int) + 20 * s.2.2.2.2 ≤ 200) (fun s => s.2.2.2.2.toNat) (fun y => ∃ (c2 : l1Cur) (l : List Booking), y = .inl (c2.b, c2.i, c2.h, l) ∧ CurOk c2 ∧ l.length ≤ 200) (fun s hs => by
    obtain ⟨b, i, hh, l, k⟩ := s
    obtain ⟨hc, hk0, hlk⟩ := hs
    simp only at hc hk0 hlk
    show (∃ s', spec_l6Draw_L1_b n b i hh l k = some (.next s') ∧ _) ∨ (∃ t', spec_l6Draw_L1_b n b i hh l k = some (.brk t') ∧ _) ∨ _
    unfold spec_l6Draw_L1_b
    by_cases c0 : k > 0
    · obtain ⟨v13, c13, e13, h13, _⟩ := l1Below_ok hc 9000
      obtain ⟨v15, c15, e15, h15, _⟩ := l4Of_ok2 h13 (by omega) hd
      obtain ⟨v17, c17, e17, h17, _⟩ := l4Of_ok2 h15 (by omega) hd
      obtain ⟨v19, c19, e19, h19, _⟩ := l1Below_ok h17 100
      obtain ⟨wy, ok, e21, _⟩ := findRoom_tot n hS l (by omega) [] (by simp) v15 v17 (w64 (60 * v19)) (w64 (1 + v13))
      obtain ⟨v23, c23, e23, h23, _⟩ := l1Below_ok h19 12
      obtain ⟨r, ok2, e25, hr⟩ := bookWay_tot n hS l (by omega) (w64 (1 + v23)) (w64 (1 + v13)) wy
      have hwk : w64 (k - 1) = k - 1 := w64_id (by omega) (by omega)
      refine .inl ⟨(c23.b, c23.i, c23.h, r, k - 1), by simp only [c0, decide_true, cond_true, e13, e15, e17, e19, e21, e23, e25, Option.bind_some, spec_l6Draw_j1, hwk], ⟨h23, ?_, ?_⟩, ?_⟩
      · show 0 ≤ k - 1; omega
      · show ((r.length : Nat) : Int) + 20 * (k - 1) ≤ 200; omega
      · show (k - 1).toNat < k.toNat; omega
    · exact .inr (.inl ⟨(b, i, hh, l), by simp [c0], ⟨b, i, hh⟩, l, rfl, hc, by omega⟩)) big (c1.b, c1.i, c1.h, ([] : List Booking), v1) ⟨h1, b1, by show ((0 : Nat) : Int) + 20 * v1 ≤ 200; omega⟩ (by show v1.toNat < big; unfold big; omega)
  rw [hy]
  exact ⟨l, c2, rfl, h2, hl⟩
theorem l6Any_ok {c : l1Cur} (hc : CurOk c) {n : Network} (hd : NetD 18 n) : ∃ l c', spec_l6Any c n = some (l, c') ∧ CurOk c' ∧ l.length ≤ 201 := by
  obtain ⟨l, c1, e1, h1, hl⟩ := l6Draw_ok hc hd 6 (by omega) (by omega)
  unfold spec_l6Any
  rw [e1]
  simp only [Option.bind_some]
  cases hz : ((l.length : Int) == 0) with
  | true => exact ⟨l, c1, rfl, h1, by omega⟩
  | false =>
  have hz' : ¬ (l.length : Int) = 0 := by simpa using hz
  obtain ⟨k, c2, e2, h2, k0, k1, _⟩ := l1Below_ok h1 (l.length : Int)
  have hk := k1 (by omega)
  obtain ⟨w, c3, e3, h3, _⟩ := l1Below_ok h2 9
  have hg := gi_eq k0 hk
  simp only [cond_false]
  rw [e2]; simp only [Option.bind_some]
  rw [e3]; simp only [Option.bind_some]
  rw [hg]; simp only [Option.bind_some]
  cases w == 0 with
  | true =>
    obtain ⟨v4, c4, e4, h4, _⟩ := l1Int_ok h3 ([0, 1, 60000, 1000001, (-1)] : List Int) (by simp)
    simp only [cond_true, e4, Option.bind_some]
    exact ⟨_, _, rfl, h4, by simp <;> omega⟩
  | false =>
  cases w == 1 with
  | true =>
    obtain ⟨v4, c4, e4, h4, _⟩ := l1Int_ok h3 ([0, 1, 9999, 10000] : List Int) (by simp)
    simp only [cond_true, cond_false, e4, Option.bind_some]
    exact ⟨_, _, rfl, h4, by simp <;> omega⟩
  | false =>
  cases w == 2 with
  | true =>
    simp only [cond_true, cond_false]
    exact ⟨_, _, rfl, h3, by simp <;> omega⟩
  | false =>
  cases w == 3 with
  | true =>
    have hap : ap 32 l ([l[k.toNat]'(by omega)] : List Booking) = some (l ++ [l[k.toNat]'(by omega)]) := ap_eq (by simp <;> omega) (by simp <;> omega)
    simp only [cond_true, cond_false, hap, Option.bind_some]
    exact ⟨_, _, rfl, h3, by simp <;> omega⟩
  | false =>
  cases w == 4 with
  | true =>
    obtain ⟨v4, c4, e4, h4, _⟩ := l1Int_ok h3 ([(-1), (n.Legs.length : Int), 0] : List Int) (by simp)
    simp only [cond_true, cond_false, e4, Option.bind_some]
    exact ⟨_, _, rfl, h4, by simp <;> omega⟩
  | false =>
    simp only [cond_false]
    exact ⟨_, _, rfl, h3, by omega⟩
theorem each_load (t : Trip) : ∀ (l : List Booking) (i : Nat) (x : Int), 0 ≤ x → x + 1000000 * (l.length : Int) ≤ 4000000000000000000 → (∀ b ∈ l, 1 ≤ b.Weight ∧ b.Weight ≤ 1000000) →
    ∃ y, each (X := Int) (R := Int) (fun _ b x => .inl (bif decide (b.Trip = t) then w64 (x + b.Weight) else x)) i l x = .inl y ∧ x ≤ y ∧ ((∃ b ∈ l, b.Trip = t) → x < y)
  | [], i, x, h0, h1, hw => ⟨x, rfl, Int.le_refl _, fun ⟨b, hb, _⟩ => by cases hb⟩
  | b :: l, i, x, h0, h1, hw => by
    have hb := hw b (by simp)
    have hlen : ((b :: l).length : Int) = (l.length : Int) + 1 := by simp
    rw [hlen] at h1
    by_cases hbt : b.Trip = t
    · have hws : w64 (x + b.Weight) = x + b.Weight := w64_id (by omega) (by omega)
      obtain ⟨y, e, hy, _⟩ := each_load t l (i + 1) (x + b.Weight) (by omega) (by omega) (fun q hq => hw q (by simp [hq]))
      refine ⟨y, ?_, by omega, fun _ => by omega⟩
      simp only [each, hbt, decide_true, cond_true, hws]
      exact e
    · obtain ⟨y, e, hy, hy2⟩ := each_load t l (i + 1) x h0 (by omega) (fun q hq => hw q (by simp [hq]))
      refine ⟨y, ?_, hy, fun ⟨q, hq, hqt⟩ => ?_⟩
      · simp only [each, hbt, decide_false, cond_false]
        exact e
      · rcases List.mem_cons.1 hq with rfl | hq
        · exact absurd hqt hbt
        · exact hy2 ⟨q, hq, hqt⟩
theorem bok_weights {n : Network} {l : List Booking} (h : bokB n l = true) : l.length ≤ 120 ∧ ∀ b ∈ l, 1 ≤ b.Weight ∧ b.Weight ≤ 1000000 := by
  simp only [bokB, Bool.and_eq_true, decide_eq_true_eq] at h
  refine ⟨h.1.1.2, fun b hb => ?_⟩
  obtain ⟨j, hj, rfl⟩ := List.getElem_of_mem hb
  have := allI_iff.1 h.1.2 j hj
  simp only [basB, Bool.and_eq_true, inB, decide_eq_true_eq] at this
  exact this.1.2
theorem load_pos {n : Network} {l : List Booking} (h : bokB n l = true) {b : Booking} (hb : b ∈ l) : 0 < ldW l b.Trip := by
  obtain ⟨h1, h2⟩ := bok_weights h
  obtain ⟨y, e, _, hy⟩ := each_load b.Trip l 0 0 (Int.le_refl _) (by omega) h2
  unfold ldW ldE
  rw [e]
  exact hy ⟨b, hb, rfl⟩
end Go.Sx
