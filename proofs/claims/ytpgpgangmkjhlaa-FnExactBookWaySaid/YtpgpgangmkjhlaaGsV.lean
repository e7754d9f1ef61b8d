/- The next trip with room, and the bookings that stay: what the functions compute; the two exact laws answer true. -/
import Derived.Test.YtpgpgangmkjhlaaGsU
namespace Go.Sx
set_option linter.unusedVariables false

/-- is there room on this day? -/
def freB (n : Network) (l : List Booking) (c : List Trip) (leg at0 w : Int) (d : Nat) : Bool :=
  runB n leg d && decide (stT n ⟨leg, d⟩ ≥ at0) && !(c.any fun x => decide (x = ⟨leg, d⟩)) && decide (w64 ((legA n leg).Room - ldW l ⟨leg, d⟩) ≥ w)
theorem range61 {i : Nat} (h : i < (List.range 61).length) : (List.range 61)[i] = i := by simp
def nfrV (n : Network) (l : List Booking) (c : List Trip) (leg at0 w : Int) : Trip × Bool :=
  if bokB n l = true ∧ ¬ w < 1 then (match (List.range 61).find? (freB n l c leg at0 w) with | some d => (⟨leg, d⟩, true) | none => (⟨0, 0⟩, false)) else (⟨0, 0⟩, false)
theorem bok_net {n : Network} {l : List Booking} (h : bokB n l = true) : netB n = true := by
  simp only [bokB, Bool.and_eq_true] at h
  exact h.1.1.1
/-- does a booking stay? -/
def kepB (n : Network) (th at0 : Int) (b : Booking) : Bool := b.Thing != th || decide (stT n b.Trip < at0)
def drpV (n : Network) (l : List Booking) (th at0 : Int) : List Booking := if bokB n l = true then l.filter (kepB n th at0) else l
theorem drp_len (n : Network) (l : List Booking) (th at0 : Int) : (drpV n l th at0).length ≤ l.length := by
  unfold drpV
  split
  · exact List.length_filter_le _ _
  · exact Nat.le_refl _
/-- a loop that turns a row, whatever it writes -/
theorem mark_any {α ρ : Type} {body : List α × Int × Int → Option (Ctl (List α × Int × Int) (List α × Int) ρ)} (a0 : List α) (k0 c : Int) (hl : a0.length ≤ 1048576)
    (h : ∀ i (l : List α), i < a0.length → l.length = a0.length → ∃ l2 : List α, l2.length = a0.length ∧ body (l, k0 + c * i, (i : Int)) = some (.next (l2, k0 + c * (i + 1 : Nat), ((i + 1 : Nat) : Int))))
    (he : ∀ l : List α, l.length = a0.length → body (l, k0 + c * a0.length, (a0.length : Int)) = some (.brk (l, k0 + c * a0.length))) :
    ∃ l', loopM body big (a0, k0, 0) = some (.inl (l', k0 + c * a0.length)) := by
  refine (loopM_up (body := body) a0.length (fun i s => s.2.1 = k0 + c * i ∧ s.2.2 = (i : Int) ∧ s.1.length = a0.length) (fun x => ∃ l', x = .inl (l', k0 + c * a0.length)) (fun i s hi hs => ?_) (fun s hs => ?_) (a0, k0, 0) ⟨by simp, rfl, rfl⟩ (big_pos hl)).elim fun x hx => ?_
  · obtain ⟨l, k, j⟩ := s
    obtain ⟨h1, h2, h3⟩ := hs
    simp only at h1 h2 h3
    subst h1 h2
    obtain ⟨l2, h4, h5⟩ := h i l hi h3
    exact .inl ⟨_, h5, rfl, rfl, h4⟩
  · obtain ⟨l, k, j⟩ := s
    obtain ⟨h1, h2, h3⟩ := hs
    simp only at h1 h2 h3
    subst h1 h2
    exact .inl ⟨_, he l h3, l, rfl⟩
  · obtain ⟨h1, l', rfl⟩ := hx
    exact ⟨l', h1⟩
theorem text_loop : ∀ (m : Nat) (k : Int) (s : ByteArray) (f : Nat), 0 ≤ k → k ≤ m → m < f → s.size + m ≤ 1000000000 → ∃ s' : ByteArray, loopM laws_markText_L1 f (k, s) = some (.inl s') ∧ s'.size ≤ s.size + m
  | 0, k, s, f + 1, h0, hk, hf, hs => by
    have : ¬ k > 0 := by omega
    refine ⟨s, ?_, by omega⟩
    rw [loopM]
    simp [laws_markText_L1, laws_markText_L1_b, show ¬ 0 < k by omega]
  | m + 1, k, s, f + 1, h0, hk, hf, hs => by
    by_cases h : k > 0
    · have hd : 0 ≤ Int.tdiv k 10 ∧ Int.tdiv k 10 ≤ m := by
        rw [Int.tdiv_eq_ediv_of_nonneg h0]
        omega
      have hc : catM (strOfNums [IntKind.u8.wrap (w64 (48 + Int.tmod k 10))]) s = some (strOfNums [IntKind.u8.wrap (w64 (48 + Int.tmod k 10))] ++ s) := by
        unfold catM
        rw [if_pos (by rw [strOfNums_size]; simp; omega)]
      have hz : (strOfNums [IntKind.u8.wrap (w64 (48 + Int.tmod k 10))] ++ s).size = s.size + 1 := by
        rw [ByteArray.size_append, strOfNums_size]; simp; omega
      obtain ⟨s', h1, h2⟩ := text_loop m (Int.tdiv k 10) (strOfNums [IntKind.u8.wrap (w64 (48 + Int.tmod k 10))] ++ s) f hd.1 hd.2 (by omega) (by omega)
      refine ⟨s', ?_, by omega⟩
      rw [loopM]
      simp only [laws_markText_L1, laws_markText_L1_b, h, decide_true, cond_true, hc, Option.bind_some]
      rw [w64_id (x := Int.tdiv k 10) (by omega) (by omega)]
      exact h1
    · refine ⟨s, ?_, by omega⟩
      rw [loopM]
      simp [laws_markText_L1, laws_markText_L1_b, show ¬ 0 < k by omega]
  | m, _, _, 0, _, _, hf, _ => absurd hf (Nat.not_lt_zero _)
theorem text_tot (k : Int) (h0 : 0 ≤ k) (h1 : k ≤ 100000000) : ∃ s, laws_markText k = some s := by
  unfold laws_markText
  by_cases h : k ≤ 0
  · exact ⟨_, by simp only [h, decide_true, cond_true]; rfl⟩
  · obtain ⟨s', e1, e2⟩ := text_loop k.toNat k (ByteArray.mk #[]) big h0 (by omega) (show k.toNat < 1000000000000 by omega) (by
      show 0 + k.toNat ≤ 1000000000
      omega)
    simp only [h, decide_false, cond_false, e1, Option.bind_some, laws_markText_L1_k, laws_markText_L1_a, catM]
    have e3 : s'.size ≤ 0 + k.toNat := e2
    rw [if_pos (by show ((1 + s'.size : Nat) : Int) ≤ _; omega)]
    exact ⟨_, rfl⟩
theorem markLegS_tot (a : List Leg) (hl : a.length ≤ 1048576) : ∃ l', laws_markLegS a 1 = some (1 + 6 * (a.length : Int), l') := by
  obtain ⟨l', h1⟩ := mark_any (body := laws_markLegS_L1) a 1 6 hl (fun i l hi h => by
      have hil : i < l.length := by omega
      have e6 : (1 : Int) + 6 * ((i + 1 : Nat) : Int) = 1 + 6 * (i : Int) + 1 + 1 + 1 + 1 + 1 + 1 := by omega
      rw [e6]
      have hk : (0 : Int) ≤ 1 + 6 * (i : Int) ∧ 1 + 6 * (i : Int) ≤ 8000000 := by omega
      generalize 1 + 6 * (i : Int) = k at hk
      have w1 : w64 (k + 1) = k + 1 := w64_id (by omega) (by omega)
      have w2 : w64 (k + 1 + 1) = k + 1 + 1 := w64_id (by omega) (by omega)
      have w3 : w64 (k + 1 + 1 + 1) = k + 1 + 1 + 1 := w64_id (by omega) (by omega)
      have w4 : w64 (k + 1 + 1 + 1 + 1) = k + 1 + 1 + 1 + 1 := w64_id (by omega) (by omega)
      have w5 : w64 (k + 1 + 1 + 1 + 1 + 1) = k + 1 + 1 + 1 + 1 + 1 := w64_id (by omega) (by omega)
      have w6 : w64 (k + 1 + 1 + 1 + 1 + 1 + 1) = k + 1 + 1 + 1 + 1 + 1 + 1 := w64_id (by omega) (by omega)
      obtain ⟨t1, ht1⟩ := text_tot k (by omega) (by omega)
      obtain ⟨t2, ht2⟩ := text_tot (k + 1) (by omega) (by omega)
      refine ⟨l.set i (Leg.mk t1 t2 (k + 1 + 1) (k + 1 + 1 + 1) (k + 1 + 1 + 1 + 1) (k + 1 + 1 + 1 + 1 + 1)), by simpa using h, ?_⟩
      simp only [laws_markLegS_L1, laws_markLegS_L1_b, Int.ofNat_lt, hil, decide_true, cond_true, Int.toNat_natCast, w1, w2, w3, w4, w5, w6, ht1, ht2, w64_succ (Nat.le_of_lt (Nat.lt_of_lt_of_le hi hl)), gi_nat, List.length_set, List.set_set, List.getElem_set_self, Option.bind_some])
    (fun l h => by simp [laws_markLegS_L1, laws_markLegS_L1_b, h])
  exact ⟨l', by rw [laws_markLegS, h1]; simp [laws_markLegS_L1_k, laws_markLegS_L1_a]⟩
theorem markIntS_tot (a : List Int) (k0 : Int) (h0 : 0 ≤ k0) (h1 : k0 ≤ 100000000) (hl : a.length ≤ 1048576) : ∃ l', laws_markIntS a k0 = some (k0 + 1 * (a.length : Int), l') := by
  obtain ⟨l', h1⟩ := mark_any (body := laws_markIntS_L1) a k0 1 hl (fun i l hi h => by
      have hil : i < l.length := by omega
      have e1 : w64 (k0 + 1 * (i : Int) + 1) = k0 + 1 * ((i + 1 : Nat) : Int) := by rw [w64_id (by omega) (by omega)]; omega
      refine ⟨l.set i (k0 + 1 * (i : Int)), by simpa using h, ?_⟩
      simp only [laws_markIntS_L1, laws_markIntS_L1_b, gi_nat hil, Int.ofNat_lt, hil, decide_true, cond_true, Option.bind_some, e1, w64_succ (Nat.le_of_lt (Nat.lt_of_lt_of_le hi hl)), Int.toNat_natCast])
    (fun l h => by simp [laws_markIntS_L1, laws_markIntS_L1_b, h])
  exact ⟨l', by rw [laws_markIntS, h1]; simp [laws_markIntS_L1_k, laws_markIntS_L1_a]⟩
theorem markNetwork_tot (n : Network) (h : NetS n) : ∃ k n', 0 ≤ k ∧ k ≤ 10000000 ∧ laws_markNetwork n 1 = some (k, n') := by
  have h1 := h.legs
  have h2 := h.off
  obtain ⟨l, hl⟩ := markLegS_tot n.Legs h.legs
  obtain ⟨o, ho⟩ := markIntS_tot n.Off (1 + 6 * n.Legs.length) (by omega) (by omega) h.off
  exact ⟨1 + 6 * n.Legs.length + 1 * n.Off.length, ⟨l, o, n.Change⟩, by omega, by omega, by simp only [laws_markNetwork, hl, ho, Option.bind_some]⟩
theorem markBookingS_tot (a : List Booking) (k0 : Int) (h0 : 0 ≤ k0) (h1 : k0 ≤ 100000000) (hl : a.length ≤ 1048576) : ∃ l', laws_markBookingS a k0 = some (k0 + 4 * (a.length : Int), l') := by
  obtain ⟨l', h1⟩ := mark_any (body := laws_markBookingS_L1) a k0 4 hl (fun i l hi h => by
      have hil : i < l.length := by omega
      have e6 : k0 + 4 * ((i + 1 : Nat) : Int) = k0 + 4 * (i : Int) + 1 + 1 + 1 + 1 := by omega
      rw [e6]
      have hk : (0 : Int) ≤ k0 + 4 * (i : Int) ∧ k0 + 4 * (i : Int) ≤ 200000000 := by omega
      generalize k0 + 4 * (i : Int) = k at hk
      have w1 : w64 (k + 1) = k + 1 := w64_id (by omega) (by omega)
      have w2 : w64 (k + 1 + 1) = k + 1 + 1 := w64_id (by omega) (by omega)
      have w3 : w64 (k + 1 + 1 + 1) = k + 1 + 1 + 1 := w64_id (by omega) (by omega)
      have w4 : w64 (k + 1 + 1 + 1 + 1) = k + 1 + 1 + 1 + 1 := w64_id (by omega) (by omega)
      refine ⟨l.set i (Booking.mk k (Trip.mk (k + 1) (k + 1 + 1)) (k + 1 + 1 + 1)), by simpa using h, ?_⟩
      simp only [laws_markBookingS_L1, laws_markBookingS_L1_b, Int.ofNat_lt, hil, decide_true, cond_true, Int.toNat_natCast, w1, w2, w3, w4, w64_succ (Nat.le_of_lt (Nat.lt_of_lt_of_le hi hl)), gi_nat, List.length_set, List.set_set, List.getElem_set_self, Option.bind_some])
    (fun l h => by simp [laws_markBookingS_L1, laws_markBookingS_L1_b, h])
  exact ⟨l', by rw [laws_markBookingS, h1]; simp [laws_markBookingS_L1_k, laws_markBookingS_L1_a]⟩
theorem heldBookingS_eq (a : List Booking) (hl : a.length ≤ 1048576) : ∃ c l', ¬ c < 0 ∧ laws_markBookingS a 1 = some (c, l') ∧ laws_heldBookingS l' 1 = some c := by
  obtain ⟨l', h1, h2, h3⟩ := mark_up (body := laws_markBookingS_L1) a 4 (fun i => Booking.mk (1 + 4 * (i : Int)) (Trip.mk (1 + 4 * (i : Int) + 1) (1 + 4 * (i : Int) + 1 + 1)) (1 + 4 * (i : Int) + 1 + 1 + 1)) hl (fun i l hi h => by
      have hil : i < l.length := by omega
      have e6 : 1 + 4 * ((i + 1 : Nat) : Int) = 1 + 4 * (i : Int) + 1 + 1 + 1 + 1 := by omega
      rw [e6]
      have hk : (0 : Int) ≤ 1 + 4 * (i : Int) ∧ 1 + 4 * (i : Int) ≤ 8000000 := by omega
      generalize 1 + 4 * (i : Int) = k at hk
      have w1 : w64 (k + 1) = k + 1 := w64_id (by omega) (by omega)
      have w2 : w64 (k + 1 + 1) = k + 1 + 1 := w64_id (by omega) (by omega)
      have w3 : w64 (k + 1 + 1 + 1) = k + 1 + 1 + 1 := w64_id (by omega) (by omega)
      have w4 : w64 (k + 1 + 1 + 1 + 1) = k + 1 + 1 + 1 + 1 := w64_id (by omega) (by omega)
      simp only [laws_markBookingS_L1, laws_markBookingS_L1_b, Int.ofNat_lt, hil, decide_true, cond_true, Int.toNat_natCast, w1, w2, w3, w4, w64_succ (Nat.le_of_lt (Nat.lt_of_lt_of_le hi hl)), gi_nat, List.length_set, List.set_set, List.getElem_set_self, Option.bind_some])
    (fun l h => by simp [laws_markBookingS_L1, laws_markBookingS_L1_b, h])
  refine ⟨1 + 4 * (a.length : Int), l', by omega, by rw [laws_markBookingS, h1]; simp [laws_markBookingS_L1_k, laws_markBookingS_L1_a], ?_⟩
  have hk := held_up (body := laws_heldBookingS_L1 l') l' 4 (fun i => Booking.mk (1 + 4 * (i : Int)) (Trip.mk (1 + 4 * (i : Int) + 1) (1 + 4 * (i : Int) + 1 + 1)) (1 + 4 * (i : Int) + 1 + 1 + 1)) (by omega) (by rw [h2]; exact h3) (fun i hi e => by
      have e6 : 1 + 4 * ((i + 1 : Nat) : Int) = 1 + 4 * (i : Int) + 1 + 1 + 1 + 1 := by omega
      rw [e6]
      have hws := w64_succ (by omega : i ≤ 1048576)
      have hgi := gi_nat hi
      rw [e] at hgi
      simp only [laws_heldBookingS_L1, laws_heldBookingS_L1_b, Int.ofNat_lt, hi, decide_true, cond_true, hgi, hws]
      have hk : (0 : Int) ≤ 1 + 4 * (i : Int) ∧ 1 + 4 * (i : Int) ≤ 8000000 := by omega
      generalize 1 + 4 * (i : Int) = k at hk
      have w1 : w64 (k + 1) = k + 1 := w64_id (by omega) (by omega)
      have w2 : w64 (k + 1 + 1) = k + 1 + 1 := w64_id (by omega) (by omega)
      have w3 : w64 (k + 1 + 1 + 1) = k + 1 + 1 + 1 := w64_id (by omega) (by omega)
      have w4 : w64 (k + 1 + 1 + 1 + 1) = k + 1 + 1 + 1 + 1 := w64_id (by omega) (by omega)
      simp only [w1, w2, w3, w4, Option.bind_some]
      simp)
    (by simp [laws_heldBookingS_L1, laws_heldBookingS_L1_b])
  rw [laws_heldBookingS, hk]
  simp [laws_heldBookingS_L1_k, laws_heldBookingS_L1_a, h2]
end Go.Sx
