/- The draw of the search for room; the law of less room answers true. -/
import Derived.Test.YtnefegnodjaldaaGlL
namespace Go.Sx
open Relax
set_option linter.unusedVariables false

theorem u8_wf {z : Int} (h : (Lit.int .u8 z).wf = true) : 0 ≤ z ∧ z ≤ 255 := by
  have h1 : IntKind.u8.min = 0 := rfl
  have h2 : IntKind.u8.max = 255 := rfl
  simp [Lit.wf, h1, h2] at h
  omega
theorem lawAt_ok (a : List Int) (ha : a.length ≤ 4096) (hv : ∀ x ∈ a, 0 ≤ x ∧ x ≤ 255) (i : Int) (hi : 0 ≤ i) : ∃ v, laws_at a i = some v ∧ 0 ≤ v ∧ v ≤ 255 := by
  unfold laws_at
  by_cases h : i ≥ (a.length : Int)
  · exact ⟨0, by simp [h], by omega, by omega⟩
  · have hl : i < a.length := by omega
    have := hv _ (List.getElem_mem (show i.toNat < a.length by omega))
    refine ⟨a[i.toNat]'(by omega), ?_, this.1, this.2⟩
    simp only [h, decide_false, cond_false, gi_eq hi hl, Option.bind_some]
    rw [w64_id (by omega) (by omega)]
theorem l3Starts_tot (n : Network) (leg d : Int) (h0 : 0 ≤ leg) (h1 : leg < n.Legs.length) : ∃ v, spec_l3Starts n ⟨leg, d⟩ = some v := by
  unfold spec_l3Starts
  simp only [gi_leg h0 h1, Option.bind_some]
  exact ⟨_, rfl⟩
theorem l3Next_tot (n : Network) (h : NetS n) (leg t : Int) (h0 : 0 ≤ leg) (h1 : leg < n.Legs.length) : ∃ v, spec_l3Next n leg t = some v := by
  unfold spec_l3Next
  obtain ⟨y, h2, h3⟩ := loopM_up (body := spec_l3Next_L1 n leg t) 61 (fun i s => s = (i : Int)) (fun y => True) (fun i s hi hs => by
    subst hs
    have hws := w64_succ (show i ≤ 1048576 by omega)
    show (∃ s', spec_l3Next_L1_b n leg t (i : Int) = some (.next s') ∧ _) ∨ (∃ t', spec_l3Next_L1_b n leg t (i : Int) = some (.brk t') ∧ _) ∨ (∃ r, spec_l3Next_L1_b n leg t (i : Int) = some (.ret r) ∧ _)
    unfold spec_l3Next_L1_b
    have hle : decide ((i : Int) ≤ 60) = true := by simp <;> omega
    obtain ⟨v, hv⟩ := l3Starts_tot n leg i h0 h1
    simp only [hle, cond_true, spec_runs_eq n h, Option.bind_some, hv, hws]
    cases runB n leg i with
    | false => exact .inl ⟨_, rfl, rfl⟩
    | true =>
      cases decide (v ≥ t) with
      | false => exact .inl ⟨_, rfl, rfl⟩
      | true => exact .inr (.inr ⟨_, rfl, trivial⟩)) (fun s hs => by
    subst hs
    refine .inl ⟨(), ?_, trivial⟩
    show spec_l3Next_L1_b n leg t ((61 : Nat) : Int) = _
    rfl) (0 : Int) rfl (show 61 < 1000000000000 by omega)
  rw [h2]
  cases y with
  | inl u => exact ⟨_, rfl⟩
  | inr r => exact ⟨_, rfl⟩
theorem l3Trip_ok {c : l1Cur} (h : CurOk c) {n : Network} (hd : NetD 18 n) : ∃ v c', spec_l3Trip c n = some (v, c') ∧ CurOk c' := by
  have hS := hd.S (by omega)
  have d0 := hd.some
  obtain ⟨v1, c1, e1, h1, b1, b2, _⟩ := l1Below_ok h (n.Legs.length : Int)
  have hb := b2 (by omega)
  obtain ⟨v3, c3, e3, h3, _⟩ := l1Below_ok h1 10
  obtain ⟨v5, e5⟩ := l3Next_tot n hS v1 (w64 (v3 * 1440)) b1 hb
  obtain ⟨b8, c8, e8, h8⟩ := l1Once_ok h3 4
  unfold spec_l3Trip
  simp only [e1, e3, e5, Option.bind_some]
  cases decide (v5 ≥ 0) with
  | false => exact ⟨_, _, rfl, h3⟩
  | true =>
    simp only [cond_true, e8, Option.bind_some]
    cases b8 <;> exact ⟨_, _, rfl, h8⟩
theorem l6Shut_ok {c : l1Cur} (hc : CurOk c) {n : Network} (hd : NetD 18 n) : ∃ l c', spec_l6Shut c n = some (l, c') ∧ CurOk c' ∧ l.length ≤ 10 := by
  obtain ⟨v1, c1, e1, h1, b1, b2, _⟩ := l1Below_ok hc 4
  have hb2 := b2 (by omega)
  unfold spec_l6Shut
  rw [e1]
  simp only [Option.bind_some]
  obtain ⟨y, hy, c2, l, rfl, h2, hl⟩ := loopM_tot (body := spec_l6Shut_L1 n) (fun s => CurOk ⟨s.1, s.2.1, s.2.2.1⟩ ∧ 0 ≤ s.2.2.2.2 ∧ (s.2.2.2.1.length : Int) + s.2.2.2.2 ≤ 10) (fun s => s.2.2.2.2.toNat) (fun y => ∃ (c2 : l1Cur) (l : List Trip), y = .inl (c2.b, c2.i, c2.h, l) ∧ CurOk c2 ∧ l.length ≤ 10) (fun s hs => by
    obtain ⟨b, i, hh, l, k⟩ := s
    obtain ⟨hc, hk0, hlk⟩ := hs
    simp only at hc hk0 hlk
    show (∃ s', spec_l6Shut_L1_b n b i hh l k = some (.next s') ∧ _) ∨ (∃ t', spec_l6Shut_L1_b n b i hh l k = some (.brk t') ∧ _) ∨ _
    unfold spec_l6Shut_L1_b
    by_cases c0 : k > 0
    · obtain ⟨v13, c13, e13, h13⟩ := l3Trip_ok hc hd
      have hap : ap 16 l ([v13] : List Trip) = some (l ++ [v13]) := ap_eq (by simp <;> omega) (by simp <;> omega)
      have hwk : w64 (k - 1) = k - 1 := w64_id (by omega) (by omega)
      refine .inl ⟨(c13.b, c13.i, c13.h, l ++ [v13], k - 1), by simp only [c0, decide_true, cond_true, e13, hap, Option.bind_some, hwk], ⟨h13, ?_, ?_⟩, ?_⟩
      · show 0 ≤ k - 1; omega
      · show (((l ++ [v13]).length : Nat) : Int) + (k - 1) ≤ 10
        rw [List.length_append, List.length_singleton]; omega
      · show (k - 1).toNat < k.toNat; omega
    · exact .inr (.inl ⟨(b, i, hh, l), by simp [c0], ⟨b, i, hh⟩, l, rfl, hc, by omega⟩)) big (c1.b, c1.i, c1.h, ([] : List Trip), v1) ⟨h1, b1, by show ((0 : Nat) : Int) + v1 ≤ 10; omega⟩ (by show v1.toNat < big; unfold big; omega)
  rw [hy]
  exact ⟨l, c2, rfl, h2, hl⟩
theorem drawRoom_ok (a : List Int) (ha : a.length ≤ 4096) : ∃ v, spec_DrawFindRoom a = some v ∧ NetD 18 v.1 ∧ v.2.1.length ≤ 201 ∧ v.2.2.1.length ≤ 10 := by
  obtain ⟨c, e, h⟩ := l1New_ok a ha
  obtain ⟨n, c1, e1, h1, d, _⟩ := l3Draw_ok h 7 (by omega) (by omega)
  obtain ⟨l, c2, e2, h2, hl⟩ := l6Draw_ok h1 d 9 (by omega) (by omega)
  obtain ⟨b3, c3, e3, h3⟩ := l1Once_ok h2 8
  have tail : ∀ (l : List Booking) (hl : l.length ≤ 201) (c : l1Cur) (hc : CurOk c), ∃ v, spec_DrawFindRoom_j1 (n, c1) c.b c.i c.h l = some v ∧ NetD 18 v.1 ∧ v.2.1.length ≤ 201 ∧ v.2.2.1.length ≤ 10 := fun l hl c hc => by
    obtain ⟨s, c4, e4, h4, hs⟩ := l6Shut_ok hc d
    obtain ⟨p, c5, e5, h5, _⟩ := l4Of_ok2 h4 (by omega) d
    obtain ⟨q, c6, e6, h6, _⟩ := l4Of_ok2 h5 (by omega) d
    obtain ⟨t, c7, e7, h7, _⟩ := l4At_ok h6
    obtain ⟨w, c8, e8, h8, _⟩ := l1Int_ok h7 ([1, 1000, 9000, 30000, 59000, 0] : List Int) (by simp)
    exact ⟨(n, l, s, p, q, t, w), by simp only [spec_DrawFindRoom_j1, e4, e5, e6, e7, e8, Option.bind_some, spec_DrawFindRoom_j2], d, hl, hs⟩
  unfold spec_DrawFindRoom
  simp only [e, e1, e2, e3, Option.bind_some]
  cases b3 with
  | false => exact tail l (by omega) c3 h3
  | true =>
    obtain ⟨l2, c4, e4, h4, hl2⟩ := l6Any_ok h3 d
    simp only [cond_true, e4, Option.bind_some]
    exact tail l2 hl2 c4 h4
theorem FnLessRoom_true (a : List Int) (hv : ∀ x ∈ a, 0 ≤ x ∧ x ≤ 255) : laws_FnLessRoom a = some true := by
  unfold laws_FnLessRoom laws_big
  simp only [Option.bind_some]
  by_cases hb : (a.length : Int) > 4096
  · simp [hb]
  simp only [hb, decide_false, cond_false]
  obtain ⟨⟨n, l, c, p, q, t, w⟩, e, hd, hl, hcl⟩ := drawRoom_ok a (by omega)
  simp only at hd hl hcl
  have hS := hd.S (by omega)
  rw [e]
  simp only [Option.bind_some]
  by_cases hw1 : w < 1
  · simp [hw1]
  by_cases hw2 : w > 1000000
  · simp [hw1, hw2]
  simp only [hw1, hw2, decide_false, cond_false]
  obtain ⟨v1, ea1, a0, a1⟩ := lawAt_ok a (by omega) hv 1 (by omega)
  obtain ⟨v2, ea2, b0, b1⟩ := lawAt_ok a (by omega) hv 2 (by omega)
  have w2 : w64 (w + v2) = w + v2 := w64_id (by omega) (by omega)
  -- who is tried with more closed and more weight
  have less : ∀ c' : List Trip, (∀ x ∈ c, x ∈ c') → @Fr.Has ⟨l, c', w + v2⟩ n p q t → @Fr.Has ⟨l, c, w⟩ n p q t ∧ @Fr.DN ⟨l, c, w⟩ n (idxV (plcs n) p).toNat t (idxV (plcs n) q).toNat ≤ @Fr.DN ⟨l, c', w + v2⟩ n (idxV (plcs n) p).toNat t (idxV (plcs n) q).toNat := fun c' hcc hh => by
    obtain ⟨q1, q2, q3, q4, q5⟩ := hh
    have := fr_less (l := l) (c := c) (c' := c') (w := w) (w' := w + v2) hcc (by omega) q3.1 q3.lt q3.2.2 (plcs n).length (idxV (plcs n) q).toNat q5
    exact ⟨⟨q1, hw1, q3, q4, this.1⟩, this.2⟩
  have hM : impl_Max t 0 = some (v0N t) := rfl
  have j1 : ∀ (c' : List Trip) (v8 : List Trip × Bool), (∀ x ∈ c, x ∈ c') → c'.length ≤ 100 → (@Fr.Has ⟨l, c, w⟩ n p q t → v8.2 = true ∧ v8.1.length ≤ 40 ∧ (∀ x ∈ v8.1, tripB n x = true) ∧ endW n (v0N t) v8.1 = @Fr.DN ⟨l, c, w⟩ n (idxV (plcs n) p).toNat t (idxV (plcs n) q).toNat) →
      laws_FnLessRoom_j1 a (n, l, c, p, q, t, w) v8 c' = some true := fun c' v8 hcc hcl' h8 => by
    unfold laws_FnLessRoom_j1
    simp only [ea2, Option.bind_some, w2, hM]
    rcases @Fr.findRoom_impl ⟨l, c', w + v2⟩ n hS (show l.length ≤ 1048576 by omega) (show c'.length ≤ 1048576 by omega) p q t with ⟨_, hi⟩ | ⟨hh, wy, hi, hwl, _, htr, hend⟩
    · have hi : impl_FindRoom n l c' p q t (w + v2) = some ([], false) := hi
      simp only [hi, Option.bind_some]
      rfl
    · have hi : impl_FindRoom n l c' p q t (w + v2) = some (wy, true) := hi
      obtain ⟨g1, g2⟩ := less c' hcc hh
      obtain ⟨k1, k2, k3, k4⟩ := h8 g1
      have hn := bok_net g1.1
      simp only [hi, Option.bind_some, Bool.not_true, cond_false, k1, cond_true, wayEnds_eq n hS hn v8.1 (by omega) (v0N t) k3, wayEnds_eq n hS hn wy (by omega) (v0N t) htr]
      rw [k4, hend, decide_eq_true g2]
  obtain ⟨r, ok, hsp, hok⟩ := @Fr.findRoom_spec ⟨l, c, w⟩ n hS (show l.length ≤ 1048576 by omega) (show c.length ≤ 1048576 by omega) p q t
  have hsp : spec_FindRoom n l c p q t w = some (r, ok) := hsp
  rcases @Fr.findRoom_impl ⟨l, c, w⟩ n hS (show l.length ≤ 1048576 by omega) (show c.length ≤ 1048576 by omega) p q t with ⟨hno, hi⟩ | ⟨hh, wy, hi, hwl, _, htr, hend⟩
  · have hi : impl_FindRoom n l c p q t w = some ([], false) := hi
    have hokf : ok = false := by
      cases hq : ok with
      | false => rfl
      | true => exact absurd (hok.1 hq) hno
    simp only [hi, hsp, hokf, Option.bind_some, beq_self_eq_true, Bool.not_true, cond_false]
    exact j1 c ([], false) (fun x hx => hx) (by omega) (fun hh => absurd hh hno)
  · have hi : impl_FindRoom n l c p q t w = some (wy, true) := hi
    have hokt : ok = true := hok.2 hh
    have h8 : @Fr.Has ⟨l, c, w⟩ n p q t → ((wy, true) : List Trip × Bool).2 = true ∧ ((wy, true) : List Trip × Bool).1.length ≤ 40 ∧ (∀ x ∈ ((wy, true) : List Trip × Bool).1, tripB n x = true) ∧ endW n (v0N t) ((wy, true) : List Trip × Bool).1 = @Fr.DN ⟨l, c, w⟩ n (idxV (plcs n) p).toNat t (idxV (plcs n) q).toNat := fun _ => ⟨rfl, hwl, htr, hend⟩
    simp only [hi, hsp, hokt, Option.bind_some, beq_self_eq_true, Bool.not_true, cond_false]
    by_cases hpos : (wy.length : Int) > 0
    · have hm := tmod_in a0 (show 0 < (wy.length : Int) by omega)
      have hnz : ¬ (wy.length : Int) = 0 := by omega
      have hr : rM v1 (wy.length : Int) = some (Int.tmod v1 wy.length) := by simp only [rM, hnz, if_false]
      have hap1 : ap 16 ([] : List Trip) c = some ([] ++ c) := ap_eq (by simp <;> omega) (by simp <;> omega)
      have hap2 : ap 16 c ([wy[(Int.tmod v1 wy.length).toNat]'(by omega)] : List Trip) = some (c ++ [wy[(Int.tmod v1 wy.length).toNat]'(by omega)]) := ap_eq (by simp <;> omega) (by simp <;> omega)
      rw [decide_eq_true hpos]
      simp only [cond_true, hap1, List.nil_append, ea1, Option.bind_some, hr, gi_eq hm.1 hm.2, hap2]
      exact j1 _ (wy, true) (fun x hx => List.mem_append_left _ hx) (by simp <;> omega) h8
    · rw [decide_eq_false hpos]
      simp only [cond_false]
      exact j1 c (wy, true) (fun x hx => hx) (by omega) h8
end Go.Sx
