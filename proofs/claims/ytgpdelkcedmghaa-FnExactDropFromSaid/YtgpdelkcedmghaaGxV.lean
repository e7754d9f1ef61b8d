/- The next trip with room, and the bookings that stay: what the functions compute; the two exact laws answer true. -/
import Derived.Test.YtgpdelkcedmghaaGxX
import Derived.Test.YtgpdelkcedmghaaGxW3
namespace Go.Sx
set_option linter.unusedVariables false

theorem closed_eq (l : List Trip) (t : Trip) (hl : l.length ≤ 1048576) : spec_l6Closed l t = some (l.any fun x => decide (x = t)) := by
  unfold spec_l6Closed
  have := loopM_each' (body := spec_l6Closed_L1 l t) (X := Unit) l (fun _ i => i) (fun _ x _ => bif decide (x = t) then .inr true else .inl ()) (fun x => x) () (fun i hi y => by
    simp only [spec_l6Closed_L1, spec_l6Closed_L1_b, gi_nat hi, Option.bind_some, Int.ofNat_lt, hi, decide_true, cond_true, w64_succ (Nat.le_of_lt (Nat.lt_of_lt_of_le hi hl))]
    cases decide (l[i] = t) <;> simp [ctl]) (fun x => by simp [spec_l6Closed_L1, spec_l6Closed_L1_b]) hl
  rw [this, each_any (fun x : Trip => decide (x = t))]
  cases l.any fun x => decide (x = t) <;> simp [fin, spec_l6Closed_L1_k, spec_l6Closed_L1_a]
theorem hasTrip_eq (l : List Trip) (t : Trip) (hl : l.length ≤ 1048576) : impl_hasTrip l t = some (l.any fun x => decide (x = t)) := by
  unfold impl_hasTrip
  have := loopM_each' (body := impl_hasTrip_L1 l t) (X := Unit) l (fun _ i => i) (fun _ x _ => bif decide (x = t) then .inr true else .inl ()) (fun x => x) () (fun i hi y => by
    simp only [impl_hasTrip_L1, impl_hasTrip_L1_b, gi_nat hi, Option.bind_some, Int.ofNat_lt, hi, decide_true, cond_true, w64_succ (Nat.le_of_lt (Nat.lt_of_lt_of_le hi hl))]
    cases decide (l[i] = t) <;> simp [ctl]) (fun x => by simp [impl_hasTrip_L1, impl_hasTrip_L1_b]) hl
  rw [this, each_any (fun x : Trip => decide (x = t))]
  cases l.any fun x => decide (x = t) <;> simp [fin, impl_hasTrip_L1_k, impl_hasTrip_L1_a]
/-- is there room on this day? -/
def freB (n : Network) (l : List Booking) (c : List Trip) (leg at0 w : Int) (d : Nat) : Bool :=
  runB n leg d && decide (stT n ⟨leg, d⟩ ≥ at0) && !(c.any fun x => decide (x = ⟨leg, d⟩)) && decide (w64 ((legA n leg).Room - ldW l ⟨leg, d⟩) ≥ w)
theorem range61 {i : Nat} (h : i < (List.range 61).length) : (List.range 61)[i] = i := by simp
theorem l6Next_eq (n : Network) (h : NetS n) (hn : netB n = true) (l : List Booking) (hl : l.length ≤ 1048576) (c : List Trip) (hc : c.length ≤ 1048576) (leg at0 w : Int) :
    spec_l6Next n l c leg at0 w = some (match (List.range 61).find? (freB n l c leg at0 w) with | some d => (d : Int) | none => -1) := by
  unfold spec_l6Next
  have := loopM_each' (body := spec_l6Next_L1 n l c leg at0 w) (X := Unit) (List.range 61) (fun _ i => i) (fun _ d _ => bif freB n l c leg at0 w d then .inr (d : Int) else .inl ()) (fun x => x) () (fun i hi y => by
    have h61 : i < 61 := by simpa using hi
    have hle : (i : Int) ≤ 60 := by omega
    rw [range61 hi]
    simp only [spec_l6Next_L1, spec_l6Next_L1_b, hle, decide_true, cond_true, spec_runs_eq n h, Option.bind_some, w64_succ (by omega : i ≤ 1048576), freB]
    cases hr : runB n leg i with
    | false => simp [ctl]
    | true =>
      have ht : tripB n ⟨leg, i⟩ = true := by simp [tripB, hn, hr]
      obtain ⟨_, t1, t2, _⟩ := trip_in ht
      simp only [cond_true, starts_eq ht, Option.bind_some, Bool.true_and, closed_eq c _ hc, spec_LoadOf_eq l _ hl, gi_leg t1 t2]
      cases decide (stT n ⟨leg, i⟩ ≥ at0) <;> simp [ctl]
      cases (c.any fun x => decide (x = ⟨leg, i⟩)) <;> simp
      by_cases hw : w ≤ w64 ((legA n leg).Room - ldW l ⟨leg, i⟩) <;> simp [hw]) (fun x => by simp [spec_l6Next_L1, spec_l6Next_L1_b]) (by simp)
  rw [each_find (freB n l c leg at0 w) (fun d => (d : Int))] at this
  rw [this]
  cases (List.range 61).find? (freB n l c leg at0 w) <;> simp [fin, spec_l6Next_L1_k, spec_l6Next_L1_a]
theorem freeOf_eq (n : Network) (h : NetS n) (hn : netB n = true) (l : List Booking) (hl : l.length ≤ 1048576) (c : List Trip) (hc : c.length ≤ 1048576) (leg at0 w : Int) :
    impl_freeOf_c1 leg at0 n c l w = some (match (List.range 61).find? (freB n l c leg at0 w) with | some d => (⟨leg, d⟩, true) | none => (⟨0, 0⟩, false)) := by
  unfold impl_freeOf_c1
  have := loopM_each' (body := impl_freeOf_c1_L1 leg at0 n c l w) (X := Unit) (List.range 61) (fun _ i => i) (fun _ d _ => bif freB n l c leg at0 w d then .inr ((⟨leg, d⟩ : Trip), true) else .inl ()) (fun x => x) () (fun i hi y => by
    have h61 : i < 61 := by simpa using hi
    have hle : (i : Int) ≤ 60 := by omega
    rw [range61 hi]
    simp only [impl_freeOf_c1_L1, impl_freeOf_c1_L1_b, hle, decide_true, cond_true, impl_runs_eq n h, Option.bind_some, w64_succ (by omega : i ≤ 1048576), freB]
    cases hr : runB n leg i with
    | false => simp [ctl]
    | true =>
      have ht : tripB n ⟨leg, i⟩ = true := by simp [tripB, hn, hr]
      obtain ⟨_, t1, t2, _⟩ := trip_in ht
      simp only [cond_true, starts_eq' ht, Option.bind_some, Bool.true_and, hasTrip_eq c _ hc, impl_LoadOf_eq l _ hl, gi_leg t1 t2]
      cases decide (stT n ⟨leg, i⟩ ≥ at0) <;> simp [ctl]
      cases (c.any fun x => decide (x = ⟨leg, i⟩)) <;> simp
      by_cases hw : w ≤ w64 ((legA n leg).Room - ldW l ⟨leg, i⟩) <;> simp [hw]) (fun x => by simp [impl_freeOf_c1_L1, impl_freeOf_c1_L1_b]) (by simp)
  rw [each_find (freB n l c leg at0 w) (fun d => ((⟨leg, d⟩ : Trip), true))] at this
  rw [this]
  cases (List.range 61).find? (freB n l c leg at0 w) <;> simp [fin, impl_freeOf_c1_L1_k, impl_freeOf_c1_L1_a]
def nfrV (n : Network) (l : List Booking) (c : List Trip) (leg at0 w : Int) : Trip × Bool :=
  if bokB n l = true ∧ ¬ w < 1 then (match (List.range 61).find? (freB n l c leg at0 w) with | some d => (⟨leg, d⟩, true) | none => (⟨0, 0⟩, false)) else (⟨0, 0⟩, false)
theorem bok_net {n : Network} {l : List Booking} (h : bokB n l = true) : netB n = true := by
  simp only [bokB, Bool.and_eq_true] at h
  exact h.1.1.1
theorem spec_NextFree_eq (n : Network) (h : NetS n) (l : List Booking) (hl : l.length ≤ 1048576) (c : List Trip) (hc : c.length ≤ 1048576) (leg at0 w : Int) : spec_NextFree n l c leg at0 w = some (nfrV n l c leg at0 w) := by
  unfold spec_NextFree nfrV
  rw [spec_AreBookings_eq n h l hl]
  cases hb : bokB n l with
  | false => simp
  | true =>
    by_cases hw : w < 1
    · simp [hw]
    · simp only [Option.bind_some, Bool.not_true, cond_false, hw, decide_false, l6Next_eq n h (bok_net hb) l hl c hc, not_false_eq_true, and_self, if_true]
      cases (List.range 61).find? (freB n l c leg at0 w) with
      | none => simp
      | some d => simp [show ¬ (d : Int) < 0 by omega]
theorem impl_NextFree_eq (n : Network) (h : NetS n) (l : List Booking) (hl : l.length ≤ 1048576) (c : List Trip) (hc : c.length ≤ 1048576) (leg at0 w : Int) : impl_NextFree n l c leg at0 w = some (nfrV n l c leg at0 w) := by
  unfold impl_NextFree nfrV
  rw [impl_AreBookings_eq n h l hl]
  cases hb : bokB n l with
  | false => simp
  | true =>
    by_cases hw : w < 1
    · simp [hw]
    · simp only [Option.bind_some, Bool.not_true, cond_false, hw, decide_false, impl_freeOf, freeOf_eq n h (bok_net hb) l hl c hc, not_false_eq_true, and_self, if_true]
theorem FnExactNextFree_true (n : Network) (l : List Booking) (c : List Trip) (leg at0 w : Int) (hN : NetIn n) (h0 : l.length ≤ maxLen) (h1 : c.length ≤ maxLen) : laws_FnExactNextFree n l c leg at0 w = some true := by
  unfold laws_FnExactNextFree
  obtain ⟨v, hv, hk⟩ := szNetwork_le n hN
  rw [hv]
  by_cases hn : v < 0
  · simp [hn]
  obtain ⟨hS, hv1⟩ := hk.resolve_left hn
  obtain ⟨u, hu, hd⟩ := szBookingS_le l v (by omega) hv1 h0
  by_cases hm : u < 0
  · simp [hn, hu, hm]
  obtain ⟨hl, hu1⟩ := hd.resolve_left hm
  obtain ⟨z, hz, he⟩ := szTripS_le c u (by omega) hu1 h1
  by_cases ho : z < 0
  · simp [hn, hu, hm, hz, ho]
  have hc := (he.resolve_left ho).1
  simp [hn, hu, hm, hz, ho, toNetwork_eq n hS, toBookingS_eq l hl, toTripS_eq c hc, spec_NextFree_eq n hS l hl c hc, impl_NextFree_eq n hS l hl c hc, eqNetwork_refl n hS, eqBookingS_refl l hl, eqTripS_refl c hc, eqTrip_refl]

/-- does a booking stay? -/
def kepB (n : Network) (th at0 : Int) (b : Booking) : Bool := b.Thing != th || decide (stT n b.Trip < at0)
def drpV (n : Network) (l : List Booking) (th at0 : Int) : List Booking := if bokB n l = true then l.filter (kepB n th at0) else l
theorem drp_len (n : Network) (l : List Booking) (th at0 : Int) : (drpV n l th at0).length ≤ l.length := by
  unfold drpV
  split
  · exact List.length_filter_le _ _
  · exact Nat.le_refl _
theorem spec_DropFrom_eq (n : Network) (h : NetS n) (l : List Booking) (hl : l.length ≤ 1048576) (th at0 : Int) : spec_DropFrom n l th at0 = some (drpV n l th at0) := by
  unfold spec_DropFrom drpV
  rw [spec_AreBookings_eq n h l hl, Option.bind_some]
  have := loopM_each (body := spec_DropFrom_L1 n l th at0 (bokB n l)) (R := List Booking) l (fun x i => (x, i)) (fun _ b x => .inl (bif !(bokB n l) || kepB n th at0 b then x ++ [b] else x)) (fun x => x) (fun i x => x.length ≤ i) [] (by simp) (fun i hi x hx => by
    simp only [spec_DropFrom_L1, spec_DropFrom_L1_b, gi_nat hi, Option.bind_some, Int.ofNat_lt, hi, decide_true, cond_true, w64_succ (Nat.le_of_lt (Nat.lt_of_lt_of_le hi hl))]
    have hap : ap 32 x [l[i]] = some (x ++ [l[i]]) := ap_eq (by simp; omega) (by omega)
    cases hb : bokB n l with
    | false =>
      simp only [Bool.not_false, cond_true, hap, Bool.true_or]
      exact ⟨by simp [ctl], fun x' e => by simp at e; subst e; simp; omega⟩
    | true =>
      have ht := bok_trip hb (List.getElem_mem hi)
      simp only [Bool.not_true, cond_false, Bool.false_or, hap, Option.bind_some, starts_eq ht, kepB]
      cases l[i].Thing != th with
      | true => exact ⟨by simp [ctl], fun x' e => by simp at e; subst e; simp; omega⟩
      | false =>
        by_cases hk : stT n l[i].Trip < at0
        · exact ⟨by simp [ctl, hk], fun x' e => by simp [hk] at e; subst e; simp; omega⟩
        · exact ⟨by simp [ctl, hk], fun x' e => by simp [hk] at e; subst e; omega⟩) (fun x hx => by simp [spec_DropFrom_L1, spec_DropFrom_L1_b]) hl
  rw [each_filter (fun b : Booking => !(bokB n l) || kepB n th at0 b) (fun b => b)] at this
  rw [this]
  cases bokB n l <;> simp [fin, spec_DropFrom_L1_k, spec_DropFrom_L1_a]
theorem impl_DropFrom_eq (n : Network) (h : NetS n) (l : List Booking) (hl : l.length ≤ 1048576) (th at0 : Int) : impl_DropFrom n l th at0 = some (drpV n l th at0) := by
  unfold impl_DropFrom drpV
  rw [impl_AreBookings_eq n h l hl, Option.bind_some]
  cases hb : bokB n l with
  | false =>
    simp only [Bool.not_false, cond_true, impl_copyBookings]
    rw [ap_eq (by simp; omega) (by omega)]
    simp
  | true =>
    have := loopM_each (body := impl_DropFrom_L1 n l th at0) (R := List Booking) l (fun x i => (x, i)) (fun _ b x => .inl (bif kepB n th at0 b then x ++ [b] else x)) (fun x => x) (fun i x => x.length ≤ i) [] (by simp) (fun i hi x hx => by
      simp only [impl_DropFrom_L1, impl_DropFrom_L1_b, gi_nat hi, Option.bind_some, Int.ofNat_lt, hi, decide_true, cond_true, w64_succ (Nat.le_of_lt (Nat.lt_of_lt_of_le hi hl))]
      have hap : ap 32 x [l[i]] = some (x ++ [l[i]]) := ap_eq (by simp; omega) (by omega)
      have ht := bok_trip hb (List.getElem_mem hi)
      simp only [hap, Option.bind_some, starts_eq' ht, kepB]
      cases l[i].Thing != th with
      | true => exact ⟨by simp [ctl], fun x' e => by simp at e; subst e; simp; omega⟩
      | false =>
        by_cases hk : stT n l[i].Trip < at0
        · exact ⟨by simp [ctl, hk], fun x' e => by simp [hk] at e; subst e; simp; omega⟩
        · exact ⟨by simp [ctl, hk], fun x' e => by simp [hk] at e; subst e; omega⟩) (fun x hx => by simp [impl_DropFrom_L1, impl_DropFrom_L1_b]) hl
    rw [each_filter (fun b : Booking => kepB n th at0 b) (fun b => b)] at this
    simp only [Bool.not_true, cond_false, this]
    simp [fin, impl_DropFrom_L1_k, impl_DropFrom_L1_a]

/-- a loop that turns a row, whatever it writes -/
theorem mark_any {α ρ : Type} {body : List α × Int × Int → Option (Ctl (List α × Int × Int) (List α × Int) ρ)} (a0 : List α) (k0 c : Int) (hl : a0.length ≤ 1048576)
    (h : ∀ i (l : List α), i < a0.length → l.length = a0.length → ∃ l2 : List α, l2.length = a0.length ∧ body (l, k0 + c * i, (i : Int)) = some (.next (l2, k0 + c * (i + 1 : Nat), ((i + 1 : Nat) : Int))))
    (he : ∀ l : List α, l.length = a0.length → body (l, k0 + c * a0.length, (a0.length : Int)) = some (.brk (l, k0 + c * a0.length))) :
    ∃ l', loopM body big (a0, k0, 0) = some (.inl (l', k0 + c * a0.length)) := by
  refine (loopM_up (body := body) a0.length (fun i s => s.2.1 = k0 + c * i ∧ s.2.2 = (i : Int) ∧ s.1.length = a0.length) (fun x => ∃ l', x = .inl (l', k0 + c * a0.length)) (fun i s hi hs => ?_) (fun s hs => ?_) (a0, k0, 0) ⟨by simp, rfl, rfl⟩ (big_pos hl)).elim fun x hx => ?_
  · obtain ⟨l, k, j⟩ := s
    obtain ⟨h1, h2, h3⟩ := hs
    simp only at h1 h2 h3
    subst h1 h2
    obtain ⟨l2, h4, h5⟩ := h i l hi h3
    exact .inl ⟨_, h5, rfl, rfl, h4⟩
  · obtain ⟨l, k, j⟩ := s
    obtain ⟨h1, h2, h3⟩ := hs
    simp only at h1 h2 h3
    subst h1 h2
    exact .inl ⟨_, he l h3, l, rfl⟩
  · obtain ⟨h1, l', rfl⟩ := hx
    exact ⟨l', h1⟩
theorem text_loop : ∀ (m : Nat) (k : Int) (s : ByteArray) (f : Nat), 0 ≤ k → k ≤ m → m < f → s.size + m ≤ 1000000000 → ∃ s' : ByteArray, loopM laws_markText_L1 f (k, s) = some (.inl s') ∧ s'.size ≤ s.size + m
  | 0, k, s, f + 1, h0, hk, hf, hs => by
    have : ¬ k > 0 := by omega
    refine ⟨s, ?_, by omega⟩
    rw [loopM]
    simp [laws_markText_L1, laws_markText_L1_b, show ¬ 0 < k by omega]
  | m + 1, k, s, f + 1, h0, hk, hf, hs => by
    by_cases h : k > 0
    · have hd : 0 ≤ Int.tdiv k 10 ∧ Int.tdiv k 10 ≤ m := by
        rw [Int.tdiv_eq_ediv_of_nonneg h0]
        omega
      have hc : catM (strOfNums [IntKind.u8.wrap (w64 (48 + Int.tmod k 10))]) s = some (strOfNums [IntKind.u8.wrap (w64 (48 + Int.tmod k 10))] ++ s) := by
        unfold catM
        rw [if_pos (by rw [strOfNums_size]; simp; omega)]
      have hz : (strOfNums [IntKind.u8.wrap (w64 (48 + Int.tmod k 10))] ++ s).size = s.size + 1 := by
        rw [ByteArray.size_append, strOfNums_size]; simp; omega
      obtain ⟨s', h1, h2⟩ := text_loop m (Int.tdiv k 10) (strOfNums [IntKind.u8.wrap (w64 (48 + Int.tmod k 10))] ++ s) f hd.1 hd.2 (by omega) (by omega)
      refine ⟨s', ?_, by omega⟩
      rw [loopM]
      simp only [laws_markText_L1, laws_markText_L1_b, h, decide_true, cond_true, hc, Option.bind_some]
      rw [w64_id (x := Int.tdiv k 10) (by omega) (by omega)]
      exact h1
    · refine ⟨s, ?_, by omega⟩
      rw [loopM]
      simp [laws_markText_L1, laws_markText_L1_b, show ¬ 0 < k by omega]
  | m, _, _, 0, _, _, hf, _ => absurd hf (Nat.not_lt_zero _)
theorem text_tot (k : Int) (h0 : 0 ≤ k) (h1 : k ≤ 100000000) : ∃ s, laws_markText k = some s := by
  unfold laws_markText
  by_cases h : k ≤ 0
  · exact ⟨_, by simp only [h, decide_true, cond_true]; rfl⟩
  · obtain ⟨s', e1, e2⟩ := text_loop k.toNat k (ByteArray.mk #[]) big h0 (by omega) (show k.toNat < 1000000000000 by omega) (by
      show 0 + k.toNat ≤ 1000000000
      omega)
    simp only [h, decide_false, cond_false, e1, Option.bind_some, laws_markText_L1_k, laws_markText_L1_a, catM]
    have e3 : s'.size ≤ 0 + k.toNat := e2
    rw [if_pos (by show ((1 + s'.size : Nat) : Int) ≤ _; omega)]
    exact ⟨_, rfl⟩
theorem markLegS_tot (a : List Leg) (hl : a.length ≤ 1048576) : ∃ l', laws_markLegS a 1 = some (1 + 6 * (a.length : Int), l') := by
  obtain ⟨l', h1⟩ := mark_any (body := laws_markLegS_L1) a 1 6 hl (fun i l hi h => by
      have hil : i < l.length := by omega
      have e6 : (1 : Int) + 6 * ((i + 1 : Nat) : Int) = 1 + 6 * (i : Int) + 1 + 1 + 1 + 1 + 1 + 1 := by omega
      rw [e6]
      have hk : (0 : Int) ≤ 1 + 6 * (i : Int) ∧ 1 + 6 * (i : Int) ≤ 8000000 := by omega
      generalize 1 + 6 * (i : Int) = k at hk
      have w1 : w64 (k + 1) = k + 1 := w64_id (by omega) (by omega)
      have w2 : w64 (k + 1 + 1) = k + 1 + 1 := w64_id (by omega) (by omega)
      have w3 : w64 (k + 1 + 1 + 1) = k + 1 + 1 + 1 := w64_id (by omega) (by omega)
      have w4 : w64 (k + 1 + 1 + 1 + 1) = k + 1 + 1 + 1 + 1 := w64_id (by omega) (by omega)
      have w5 : w64 (k + 1 + 1 + 1 + 1 + 1) = k + 1 + 1 + 1 + 1 + 1 := w64_id (by omega) (by omega)
      have w6 : w64 (k + 1 + 1 + 1 + 1 + 1 + 1) = k + 1 + 1 + 1 + 1 + 1 + 1 := w64_id (by omega) (by omega)
      obtain ⟨t1, ht1⟩ := text_tot k (by omega) (by omega)
      obtain ⟨t2, ht2⟩ := text_tot (k + 1) (by omega) (by omega)
      refine ⟨l.set i (Leg.mk t1 t2 (k + 1 + 1) (k + 1 + 1 + 1) (k + 1 + 1 + 1 + 1) (k + 1 + 1 + 1 + 1 + 1)), by simpa using h, ?_⟩
      simp only [laws_markLegS_L1, laws_markLegS_L1_b, Int.ofNat_lt, hil, decide_true, cond_true, Int.toNat_natCast, w1, w2, w3, w4, w5, w6, ht1, ht2, w64_succ (Nat.le_of_lt (Nat.lt_of_lt_of_le hi hl)), gi_nat, List.length_set, List.set_set, List.getElem_set_self, Option.bind_some])
    (fun l h => by simp [laws_markLegS_L1, laws_markLegS_L1_b, h])
  exact ⟨l', by rw [laws_markLegS, h1]; simp [laws_markLegS_L1_k, laws_markLegS_L1_a]⟩
theorem markIntS_tot (a : List Int) (k0 : Int) (h0 : 0 ≤ k0) (h1 : k0 ≤ 100000000) (hl : a.length ≤ 1048576) : ∃ l', laws_markIntS a k0 = some (k0 + 1 * (a.length : Int), l') := by
  obtain ⟨l', h1⟩ := mark_any (body := laws_markIntS_L1) a k0 1 hl (fun i l hi h => by
      have hil : i < l.length := by omega
      have e1 : w64 (k0 + 1 * (i : Int) + 1) = k0 + 1 * ((i + 1 : Nat) : Int) := by rw [w64_id (by omega) (by omega)]; omega
      refine ⟨l.set i (k0 + 1 * (i : Int)), by simpa using h, ?_⟩
      simp only [laws_markIntS_L1, laws_markIntS_L1_b, gi_nat hil, Int.ofNat_lt, hil, decide_true, cond_true, Option.bind_some, e1, w64_succ (Nat.le_of_lt (Nat.lt_of_lt_of_le hi hl)), Int.toNat_natCast])
    (fun l h => by simp [laws_markIntS_L1, laws_markIntS_L1_b, h])
  exact ⟨l', by rw [laws_markIntS, h1]; simp [laws_markIntS_L1_k, laws_markIntS_L1_a]⟩
theorem markNetwork_tot (n : Network) (h : NetS n) : ∃ k n', 0 ≤ k ∧ k ≤ 10000000 ∧ laws_markNetwork n 1 = some (k, n') := by
  have h1 := h.legs
  have h2 := h.off
  obtain ⟨l, hl⟩ := markLegS_tot n.Legs h.legs
  obtain ⟨o, ho⟩ := markIntS_tot n.Off (1 + 6 * n.Legs.length) (by omega) (by omega) h.off
  exact ⟨1 + 6 * n.Legs.length + 1 * n.Off.length, ⟨l, o, n.Change⟩, by omega, by omega, by simp only [laws_markNetwork, hl, ho, Option.bind_some]⟩
theorem markBookingS_tot (a : List Booking) (k0 : Int) (h0 : 0 ≤ k0) (h1 : k0 ≤ 100000000) (hl : a.length ≤ 1048576) : ∃ l', laws_markBookingS a k0 = some (k0 + 4 * (a.length : Int), l') := by
  obtain ⟨l', h1⟩ := mark_any (body := laws_markBookingS_L1) a k0 4 hl (fun i l hi h => by
      have hil : i < l.length := by omega
      have e6 : k0 + 4 * ((i + 1 : Nat) : Int) = k0 + 4 * (i : Int) + 1 + 1 + 1 + 1 := by omega
      rw [e6]
      have hk : (0 : Int) ≤ k0 + 4 * (i : Int) ∧ k0 + 4 * (i : Int) ≤ 200000000 := by omega
      generalize k0 + 4 * (i : Int) = k at hk
      have w1 : w64 (k + 1) = k + 1 := w64_id (by omega) (by omega)
      have w2 : w64 (k + 1 + 1) = k + 1 + 1 := w64_id (by omega) (by omega)
      have w3 : w64 (k + 1 + 1 + 1) = k + 1 + 1 + 1 := w64_id (by omega) (by omega)
      have w4 : w64 (k + 1 + 1 + 1 + 1) = k + 1 + 1 + 1 + 1 := w64_id (by omega) (by omega)
      refine ⟨l.set i (Booking.mk k (Trip.mk (k + 1) (k + 1 + 1)) (k + 1 + 1 + 1)), by simpa using h, ?_⟩
      simp only [laws_markBookingS_L1, laws_markBookingS_L1_b, Int.ofNat_lt, hil, decide_true, cond_true, Int.toNat_natCast, w1, w2, w3, w4, w64_succ (Nat.le_of_lt (Nat.lt_of_lt_of_le hi hl)), gi_nat, List.length_set, List.set_set, List.getElem_set_self, Option.bind_some])
    (fun l h => by simp [laws_markBookingS_L1, laws_markBookingS_L1_b, h])
  exact ⟨l', by rw [laws_markBookingS, h1]; simp [laws_markBookingS_L1_k, laws_markBookingS_L1_a]⟩
theorem heldBookingS_eq (a : List Booking) (hl : a.length ≤ 1048576) : ∃ c l', ¬ c < 0 ∧ laws_markBookingS a 1 = some (c, l') ∧ laws_heldBookingS l' 1 = some c := by
  obtain ⟨l', h1, h2, h3⟩ := mark_up (body := laws_markBookingS_L1) a 4 (fun i => Booking.mk (1 + 4 * (i : Int)) (Trip.mk (1 + 4 * (i : Int) + 1) (1 + 4 * (i : Int) + 1 + 1)) (1 + 4 * (i : Int) + 1 + 1 + 1)) hl (fun i l hi h => by
      have hil : i < l.length := by omega
      have e6 : 1 + 4 * ((i + 1 : Nat) : Int) = 1 + 4 * (i : Int) + 1 + 1 + 1 + 1 := by omega
      rw [e6]
      have hk : (0 : Int) ≤ 1 + 4 * (i : Int) ∧ 1 + 4 * (i : Int) ≤ 8000000 := by omega
      generalize 1 + 4 * (i : Int) = k at hk
      have w1 : w64 (k + 1) = k + 1 := w64_id (by omega) (by omega)
      have w2 : w64 (k + 1 + 1) = k + 1 + 1 := w64_id (by omega) (by omega)
      have w3 : w64 (k + 1 + 1 + 1) = k + 1 + 1 + 1 := w64_id (by omega) (by omega)
      have w4 : w64 (k + 1 + 1 + 1 + 1) = k + 1 + 1 + 1 + 1 := w64_id (by omega) (by omega)
      simp only [laws_markBookingS_L1, laws_markBookingS_L1_b, Int.ofNat_lt, hil, decide_true, cond_true, Int.toNat_natCast, w1, w2, w3, w4, w64_succ (Nat.le_of_lt (Nat.lt_of_lt_of_le hi hl)), gi_nat, List.length_set, List.set_set, List.getElem_set_self, Option.bind_some])
    (fun l h => by simp [laws_markBookingS_L1, laws_markBookingS_L1_b, h])
  refine ⟨1 + 4 * (a.length : Int), l', by omega, by rw [laws_markBookingS, h1]; simp [laws_markBookingS_L1_k, laws_markBookingS_L1_a], ?_⟩
  have hk := held_up (body := laws_heldBookingS_L1 l') l' 4 (fun i => Booking.mk (1 + 4 * (i : Int)) (Trip.mk (1 + 4 * (i : Int) + 1) (1 + 4 * (i : Int) + 1 + 1)) (1 + 4 * (i : Int) + 1 + 1 + 1)) (by omega) (by rw [h2]; exact h3) (fun i hi e => by
      have e6 : 1 + 4 * ((i + 1 : Nat) : Int) = 1 + 4 * (i : Int) + 1 + 1 + 1 + 1 := by omega
      rw [e6]
      have hws := w64_succ (by omega : i ≤ 1048576)
      have hgi := gi_nat hi
      rw [e] at hgi
      simp only [laws_heldBookingS_L1, laws_heldBookingS_L1_b, Int.ofNat_lt, hi, decide_true, cond_true, hgi, hws]
      have hk : (0 : Int) ≤ 1 + 4 * (i : Int) ∧ 1 + 4 * (i : Int) ≤ 8000000 := by omega
      generalize 1 + 4 * (i : Int) = k at hk
      have w1 : w64 (k + 1) = k + 1 := w64_id (by omega) (by omega)
      have w2 : w64 (k + 1 + 1) = k + 1 + 1 := w64_id (by omega) (by omega)
      have w3 : w64 (k + 1 + 1 + 1) = k + 1 + 1 + 1 := w64_id (by omega) (by omega)
      have w4 : w64 (k + 1 + 1 + 1 + 1) = k + 1 + 1 + 1 + 1 := w64_id (by omega) (by omega)
      simp only [w1, w2, w3, w4, Option.bind_some]
      simp)
    (by simp [laws_heldBookingS_L1, laws_heldBookingS_L1_b])
  rw [laws_heldBookingS, hk]
  simp [laws_heldBookingS_L1_k, laws_heldBookingS_L1_a, h2]
theorem FnExactDropFrom_true (n : Network) (l : List Booking) (th at0 : Int) (hN : NetIn n) (h0 : l.length ≤ maxLen) : laws_FnExactDropFrom n l th at0 = some true := by
  unfold laws_FnExactDropFrom
  obtain ⟨v, hv, hk⟩ := szNetwork_le n hN
  rw [hv]
  by_cases hn : v < 0
  · simp [hn]
  obtain ⟨hS, hv1⟩ := hk.resolve_left hn
  obtain ⟨u, hu, hd⟩ := szBookingS_le l v (by omega) hv1 h0
  by_cases hm : u < 0
  · simp [hn, hu, hm]
  obtain ⟨hl, hu1⟩ := hd.resolve_left hm
  have hr : (drpV n l th at0).length ≤ 1048576 := Nat.le_trans (drp_len n l th at0) hl
  obtain ⟨k, n', k0, k1, e1⟩ := markNetwork_tot n hS
  obtain ⟨l', e2⟩ := markBookingS_tot l k k0 (by omega) hl
  obtain ⟨c3, m3, n3, e3, e4⟩ := heldBookingS_eq _ hr
  simp [hn, hu, hm, toNetwork_eq n hS, toBookingS_eq l hl, spec_DropFrom_eq n hS l hl, impl_DropFrom_eq n hS l hl, eqNetwork_refl n hS, eqBookingS_refl l hl, eqBookingS_refl _ hr, e1, e2, e3, e4, n3, show ¬ k + 4 * (l.length : Int) < 0 by omega]
end Go.Sx
