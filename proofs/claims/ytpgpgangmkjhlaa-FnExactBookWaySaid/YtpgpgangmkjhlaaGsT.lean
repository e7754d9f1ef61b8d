/- Networks, ways and bookings: what the functions of the program compute, as plain laws. -/
import Derived.Test.YtpgpgangmkjhlaaGsE
namespace Go.Sx
set_option linter.unusedVariables false

def inB (x a b : Int) : Bool := decide (a ≤ x) && decide (x ≤ b)
theorem within_eq (x a b : Int) : impl_within x a b = some (inB x a b) := by
  unfold impl_within inB
  cases h : decide (a ≤ x) <;> simp
theorem l1In_eq (x a b : Int) : spec_l1In x a b = some (inB x a b) := within_eq x a b
/-- a capital letter -/
def capB (b : UInt8) : Bool := inB (b.toNat : Int) 65 90
def plc (s : ByteArray) : Bool := decide (s.size = 3) && s.data.toList.all capB
theorem size_list (s : ByteArray) : s.data.toList.length = s.size := by rw [Array.length_toList]; rfl
theorem siM_nat {s : ByteArray} {i : Nat} (h : i < s.data.toList.length) : siM s (i : Int) = some ((s.data.toList[i]).toNat : Int) := by
  have hs : i < s.size := by rw [← size_list]; exact h
  unfold siM
  rw [if_pos (by omega)]
  simp only [Int.toNat_natCast]
  have : s[i]? = some s.data.toList[i] := by
    rw [getElem?_pos s i hs]; rfl
  rw [this]; rfl
theorem each_allP {α : Type} (p : α → Bool) (v : Bool) (l : List α) (i : Nat) : each (X := Unit) (R := Bool) (fun _ a _ => bif p a then .inl () else .inr v) i l () = bif l.all p then .inl () else .inr v := by
  induction l generalizing i with
  | nil => rfl
  | cons a l ih =>
    rw [each]
    cases h : p a with
    | true => simpa [h] using ih (i + 1)
    | false => simp [h]
theorem impl_IsPlace_eq (s : ByteArray) (hs : s.size ≤ 1048576) : impl_IsPlace s = some (plc s) := by
  unfold impl_IsPlace plc
  have hl : s.data.toList.length ≤ 1048576 := by rw [size_list]; exact hs
  have := loopM_each' (body := impl_IsPlace_L1 s) (X := Unit) s.data.toList (fun _ i => i) (fun _ t _ => bif capB t then .inl () else .inr false) (fun x => x) () (fun i hi x => by
    have hi' : (i : Int) < (s.size : Int) := by rw [← size_list]; omega
    simp only [impl_IsPlace_L1, impl_IsPlace_L1_b, hi', decide_true, cond_true, siM_nat hi, Option.bind_some, w64_succ (by omega : i ≤ 1048576), capB, inB]
    generalize (((s.data.toList[i]).toNat : Nat) : Int) = v
    by_cases h1 : v < 65
    · simp [h1, show ¬ 65 ≤ v by omega, ctl]
    · by_cases h2 : v > 90
      · simp [h1, h2, show ¬ v ≤ 90 by omega, ctl]
      · simp [h1, h2, show 65 ≤ v by omega, show v ≤ 90 by omega, ctl]) (fun x => by
    have : ¬ ((s.data.toList.length : Nat) : Int) < (s.size : Int) := by rw [size_list]; omega
    simp only [impl_IsPlace_L1, impl_IsPlace_L1_b, this, decide_false, cond_false]) hl
  rw [each_allP capB] at this
  rw [this]
  cases s.data.toList.all capB
  · simp [fin, impl_IsPlace_L1_k]
  · simp only [fin, cond_true, Option.bind_some, impl_IsPlace_L1_k, impl_IsPlace_L1_a, beqI, Bool.and_true, Option.some.injEq, decide_eq_decide]
    omega
theorem spec_IsPlace_eq (s : ByteArray) : spec_IsPlace s = some (plc s) := by
  unfold spec_IsPlace plc
  by_cases h3 : s.size = 3
  · have hl : s.data.toList.length = 3 := by rw [size_list]; exact h3
    have := loopM_each' (body := spec_IsPlace_L1 s) (X := Unit) s.data.toList (fun _ i => i) (fun _ t _ => bif capB t then .inl () else .inr false) (fun x => x) () (fun i hi x => by
      have hi' : (i : Int) < 3 := by omega
      have hb : (0 : Int) ≤ ((s.data.toList[i]).toNat : Int) ∧ ((s.data.toList[i]).toNat : Int) ≤ 255 := by have := (s.data.toList[i]).toNat_lt; omega
      simp only [spec_IsPlace_L1, spec_IsPlace_L1_b, hi', decide_true, cond_true, siM_nat hi, Option.bind_some, w64_succ (by omega : i ≤ 1048576), capB, l1In_eq]
      rw [w64_id (by omega) (by omega)]
      cases inB ((s.data.toList[i]).toNat : Int) 65 90 <;> simp [ctl]) (fun x => by
      simp [spec_IsPlace_L1, spec_IsPlace_L1_b, hl]) (by omega)
    rw [each_allP capB] at this
    rw [this]
    simp only [h3, bneI, decide_true, Bool.true_and, show ((3 : Nat) : Int) = 3 from rfl, Bool.not_true, cond_false]
    cases s.data.toList.all capB <;> simp [fin, spec_IsPlace_L1_k, spec_IsPlace_L1_a]
  · simp [bneI, h3, show ¬ ((s.size : Int) = 3) by omega]
def legB (l : Leg) : Bool := plc l.From && plc l.To && !(l.From.toList == l.To.toList) && inB l.Start 0 1439 && inB l.Takes 1 4320 && inB l.Days 1 127 && inB l.Room 0 1000000
theorem impl_IsLeg_eq (l : Leg) (h : l.From.size ≤ 1048576 ∧ l.To.size ≤ 1048576) : impl_IsLeg l = some (legB l) := by
  unfold impl_IsLeg legB
  simp only [impl_IsPlace_eq _ h.1, impl_IsPlace_eq _ h.2, within_eq, Option.bind_some]
  cases plc l.From <;> cases plc l.To <;> cases (l.From.toList == l.To.toList) <;> cases inB l.Start 0 1439 <;> cases inB l.Takes 1 4320 <;> cases inB l.Days 1 127 <;> rfl
theorem spec_IsLeg_eq (l : Leg) : spec_IsLeg l = some (legB l) := by
  unfold spec_IsLeg legB
  simp only [spec_IsPlace_eq, l1In_eq, Option.bind_some]
  cases plc l.From <;> cases plc l.To <;> cases (l.From.toList == l.To.toList) <;> cases inB l.Start 0 1439 <;> cases inB l.Takes 1 4320 <;> cases inB l.Days 1 127 <;> rfl
def offB (l : List Int) (i : Nat) (t : Int) : Bool := inB t 0 60 && (decide (i = 0) || decide (l[i - 1]?.getD default < t))
def netB (n : Network) : Bool := n.Legs.all legB && allI (offB n.Off) 0 n.Off && decide (n.Legs.length ≤ 20) && decide (n.Off.length ≤ 10) && inB n.Change 0 240
theorem gi_pred' {l : List Int} {i : Nat} (hi : i < l.length) (h0 : 0 < i) (hl : l.length ≤ 1048576) : gi l (w64 ((i : Int) - 1)) = some (l[i - 1]?.getD default) := by
  rw [w64_id (by omega) (by omega), show ((i : Int) - 1) = ((i - 1 : Nat) : Int) by omega, gi_nat (by omega : i - 1 < l.length)]
  simp [show i - 1 < l.length by omega]
theorem off_loop_i (n : Network) (h : NetS n) : loopM (impl_IsNetwork_L2 n) big 0 = some (bif allI (offB n.Off) 0 n.Off then .inl () else .inr false) := by
  have := loopM_each' (body := impl_IsNetwork_L2 n) (X := Unit) n.Off (fun _ i => i) (fun i t _ => bif offB n.Off i t then .inl () else .inr false) (fun x => x) () (fun i hi x => by
    simp only [impl_IsNetwork_L2, impl_IsNetwork_L2_b, Int.ofNat_lt, hi, decide_true, cond_true, gi_nat hi, Option.bind_some, within_eq, offB, w64_succ (Nat.le_of_lt (Nat.lt_of_lt_of_le hi h.off))]
    generalize hv : n.Off[i] = v
    cases inB v 0 60 <;> simp [ctl]
    rcases Nat.eq_zero_or_pos i with h0 | h0
    · subst h0; simp
    · have hz : ¬ i = 0 := by omega
      have hz' : (0 : Int) < (i : Int) := by omega
      have hz2 : 0 < i := h0
      simp only [gi_pred' hi h0 h.off, Option.bind_some]
      generalize n.Off[i - 1]?.getD default = q
      by_cases h2 : q < v
      · simp [h2, hz, hz', hz2, show ¬ v ≤ q by omega]
      · simp [h2, hz, hz', hz2, show v ≤ q by omega]) (fun x => by simp [impl_IsNetwork_L2, impl_IsNetwork_L2_b]) h.off
  rw [each_all (offB n.Off)] at this
  rw [this]
  cases allI (offB n.Off) 0 n.Off <;> rfl
theorem off_loop_s (n : Network) (h : NetS n) : loopM (spec_IsNetwork_L2 n) big 0 = some (bif allI (offB n.Off) 0 n.Off then .inl () else .inr false) := by
  have := loopM_each' (body := spec_IsNetwork_L2 n) (X := Unit) n.Off (fun _ i => i) (fun i t _ => bif offB n.Off i t then .inl () else .inr false) (fun x => x) () (fun i hi x => by
    simp only [spec_IsNetwork_L2, spec_IsNetwork_L2_b, Int.ofNat_lt, hi, decide_true, cond_true, gi_nat hi, Option.bind_some, l1In_eq, offB, w64_succ (Nat.le_of_lt (Nat.lt_of_lt_of_le hi h.off))]
    generalize hv : n.Off[i] = v
    cases inB v 0 60 <;> simp [ctl]
    rcases Nat.eq_zero_or_pos i with h0 | h0
    · subst h0; simp
    · have hz : ¬ i = 0 := by omega
      have hz' : (0 : Int) < (i : Int) := by omega
      have hz2 : 0 < i := h0
      simp only [gi_pred' hi h0 h.off, Option.bind_some]
      generalize n.Off[i - 1]?.getD default = q
      by_cases h2 : q < v
      · simp [h2, hz, hz', hz2, show ¬ v ≤ q by omega]
      · simp [h2, hz, hz', hz2, show v ≤ q by omega]) (fun x => by simp [spec_IsNetwork_L2, spec_IsNetwork_L2_b]) h.off
  rw [each_all (offB n.Off)] at this
  rw [this]
  cases allI (offB n.Off) 0 n.Off <;> rfl
theorem impl_IsNetwork_eq (n : Network) (h : NetS n) : impl_IsNetwork n = some (netB n) := by
  unfold impl_IsNetwork netB
  have := loopM_each' (body := impl_IsNetwork_L1 n) (X := Unit) n.Legs (fun _ i => i) (fun _ t _ => bif legB t then .inl () else .inr false) (fun x => x) () (fun i hi x => by
    simp only [impl_IsNetwork_L1, impl_IsNetwork_L1_b, Int.ofNat_lt, hi, decide_true, cond_true, gi_nat hi, Option.bind_some, impl_IsLeg_eq _ (h.str _ (List.getElem_mem hi)), w64_succ (Nat.le_of_lt (Nat.lt_of_lt_of_le hi h.legs))]
    cases legB n.Legs[i] <;> simp [ctl]) (fun x => by simp [impl_IsNetwork_L1, impl_IsNetwork_L1_b]) h.legs
  rw [each_allP legB] at this
  rw [this]
  cases n.Legs.all legB with
  | false => simp [fin, impl_IsNetwork_L1_k]
  | true =>
    simp only [fin, cond_true, Option.bind_some, impl_IsNetwork_L1_k, impl_IsNetwork_L1_a, off_loop_i n h, Bool.true_and]
    cases allI (offB n.Off) 0 n.Off with
    | false => simp [impl_IsNetwork_L2_k]
    | true =>
      simp only [cond_true, impl_IsNetwork_L2_k, impl_IsNetwork_L2_a, within_eq, Option.bind_some, Bool.true_and]
      by_cases h1 : n.Legs.length ≤ 20
      · by_cases h2 : n.Off.length ≤ 10
        · simp [h1, h2, show (n.Legs.length : Int) ≤ 20 by omega, show (n.Off.length : Int) ≤ 10 by omega]
        · simp [h1, h2, show (n.Legs.length : Int) ≤ 20 by omega, show ¬ (n.Off.length : Int) ≤ 10 by omega]
      · simp [h1, show ¬ (n.Legs.length : Int) ≤ 20 by omega]
theorem spec_IsNetwork_eq (n : Network) (h : NetS n) : spec_IsNetwork n = some (netB n) := by
  unfold spec_IsNetwork netB
  have := loopM_each' (body := spec_IsNetwork_L1 n) (X := Unit) n.Legs (fun _ i => i) (fun _ t _ => bif legB t then .inl () else .inr false) (fun x => x) () (fun i hi x => by
    simp only [spec_IsNetwork_L1, spec_IsNetwork_L1_b, Int.ofNat_lt, hi, decide_true, cond_true, gi_nat hi, Option.bind_some, spec_IsLeg_eq, w64_succ (Nat.le_of_lt (Nat.lt_of_lt_of_le hi h.legs))]
    cases legB n.Legs[i] <;> simp [ctl]) (fun x => by simp [spec_IsNetwork_L1, spec_IsNetwork_L1_b]) h.legs
  rw [each_allP legB] at this
  rw [this]
  cases n.Legs.all legB with
  | false => simp [fin, spec_IsNetwork_L1_k]
  | true =>
    simp only [fin, cond_true, Option.bind_some, spec_IsNetwork_L1_k, spec_IsNetwork_L1_a, off_loop_s n h, Bool.true_and]
    cases allI (offB n.Off) 0 n.Off with
    | false => simp [spec_IsNetwork_L2_k]
    | true =>
      simp only [cond_true, spec_IsNetwork_L2_k, spec_IsNetwork_L2_a, l1In_eq, Option.bind_some, Bool.true_and]
      by_cases h1 : n.Legs.length ≤ 20
      · by_cases h2 : n.Off.length ≤ 10
        · simp [h1, h2, show (n.Legs.length : Int) ≤ 20 by omega, show (n.Off.length : Int) ≤ 10 by omega]
        · simp [h1, h2, show (n.Legs.length : Int) ≤ 20 by omega, show ¬ (n.Off.length : Int) ≤ 10 by omega]
      · simp [h1, show ¬ (n.Legs.length : Int) ≤ 20 by omega]

/-- the bit of a day -/
def bitV (days day : Int) : Int := w64 ((BitVec.ofInt 64 (Int.fdiv days (2 ^ (min (Int.tmod day 7).toNat 64))) &&& BitVec.ofInt 64 1).toNat)
theorem bit01 (days day : Int) : bitV days day = 0 ∨ bitV days day = 1 := by
  unfold bitV
  generalize Int.fdiv days (2 ^ (min (Int.tmod day 7).toNat 64)) = x
  have h : (BitVec.ofInt 64 x &&& BitVec.ofInt 64 1).toNat ≤ 1 := by
    rw [BitVec.toNat_and]
    exact Nat.le_trans Nat.and_le_right (by decide)
  rw [w64_id (by omega) (by omega)]
  omega
def legA (n : Network) (k : Int) : Leg := n.Legs[k.toNat]?.getD default
theorem gi_leg {n : Network} {k : Int} (h0 : 0 ≤ k) (h1 : k < n.Legs.length) : gi n.Legs k = some (legA n k) := by
  rw [gi_eq h0 h1]
  have : k.toNat < n.Legs.length := by omega
  simp [legA, this]
def runB (n : Network) (leg day : Int) : Bool := decide (0 ≤ leg) && decide (leg < n.Legs.length) && inB day 0 60 && decide (bitV (legA n leg).Days day = 1) && !(n.Off.any (· == day))
theorem has_eq (l : List Int) (x : Int) (hl : l.length ≤ 1048576) : spec_l1Has l x = some (l.any (· == x)) := by
  unfold spec_l1Has
  have := loopM_each' (body := spec_l1Has_L1 l x) (X := Unit) l (fun _ i => i) (fun _ t _ => bif t == x then .inr true else .inl ()) (fun x => x) () (fun i hi y => by
    simp only [spec_l1Has_L1, spec_l1Has_L1_b, gi_nat hi, Option.bind_some, Int.ofNat_lt, hi, decide_true, cond_true, w64_succ (Nat.le_of_lt (Nat.lt_of_lt_of_le hi hl))]
    cases l[i] == x <;> simp [ctl]) (fun x => by simp [spec_l1Has_L1, spec_l1Has_L1_b]) hl
  rw [this, each_any]
  cases l.any (· == x) <;> simp [fin, spec_l1Has_L1_k, spec_l1Has_L1_a]
theorem tmod7 {d : Int} (h : 0 ≤ d) : ¬ Int.tmod d 7 < 0 := by have := Int.tmod_nonneg 7 h; omega
theorem spec_runs_eq (n : Network) (h : NetS n) (leg day : Int) : spec_l3Runs n leg day = some (runB n leg day) := by
  unfold spec_l3Runs runB
  have hl := h.legs
  simp only [l1In_eq, Option.bind_some]
  rw [w64_id (by omega) (by omega)]
  by_cases h0 : 0 ≤ leg
  · by_cases h1 : leg < n.Legs.length
    · rw [show inB leg 0 ((n.Legs.length : Int) - 1) = true by simp [inB, h0]; omega]
      cases hd : inB day 0 60 with
      | false => simp
      | true =>
        have hd0 : 0 ≤ day := by simp only [inB, Bool.and_eq_true, decide_eq_true_eq] at hd; exact hd.1
        simp only [cond_true, gi_leg h0 h1, Option.bind_some, shrM, tmod7 hd0, if_false, has_eq n.Off day h.off, beqI, h0, h1, decide_true, Bool.true_and]
        show (bif decide (bitV (legA n leg).Days day = 1) then _ else _) = _
        cases decide (bitV (legA n leg).Days day = 1) <;> simp [beqI]
    · rw [show inB leg 0 ((n.Legs.length : Int) - 1) = false by simp [inB]; omega]
      simp [h1]
  · rw [show inB leg 0 ((n.Legs.length : Int) - 1) = false by simp [inB]; omega]
    simp [h0]
theorem impl_runs_eq (n : Network) (h : NetS n) (leg day : Int) : impl_runs n leg day = some (runB n leg day) := by
  unfold impl_runs runB
  have hl := h.legs
  by_cases h0 : 0 ≤ leg
  · by_cases h1 : leg < n.Legs.length
    · simp only [show ¬ leg < 0 by omega, show ¬ leg ≥ (n.Legs.length : Int) by omega, decide_false, cond_false, within_eq, Option.bind_some]
      cases hd : inB day 0 60 with
      | false => simp
      | true =>
        have hd0 : 0 ≤ day := by simp only [inB, Bool.and_eq_true, decide_eq_true_eq] at hd; exact hd.1
        simp only [Bool.not_true, cond_false, gi_leg h0 h1, Option.bind_some, shrM, tmod7 hd0, if_false, beqI, h0, h1, decide_true, Bool.true_and]
        show (bif decide (bitV (legA n leg).Days day = 0) then _ else _) = _
        have := loopM_each' (body := impl_runs_L1 n day) (X := Unit) n.Off (fun _ i => i) (fun _ t _ => bif t == day then .inr false else .inl ()) (fun x => x) () (fun i hi y => by
          simp only [impl_runs_L1, impl_runs_L1_b, gi_nat hi, Option.bind_some, Int.ofNat_lt, hi, decide_true, cond_true, w64_succ (Nat.le_of_lt (Nat.lt_of_lt_of_le hi h.off))]
          cases n.Off[i] == day <;> simp [ctl]) (fun x => by simp [impl_runs_L1, impl_runs_L1_b]) h.off
        have key : ∀ (l : List Int) (i : Nat), each (X := Unit) (R := Bool) (fun _ t _ => bif t == day then .inr false else .inl ()) i l () = bif l.any (· == day) then .inr false else .inl () := by
          intro l
          induction l with
          | nil => intro i; rfl
          | cons a l ih => intro i; rw [each]; cases hh : a == day <;> simp [hh, ih]
        rw [key] at this
        rw [this]
        rcases bit01 (legA n leg).Days day with hb | hb
        · simp [hb]
        · simp only [hb, show ¬ (1 : Int) = 0 by omega, decide_false, cond_false, decide_true, Bool.true_and]
          simp only [← beqI]
          cases n.Off.any (· == day) <;> simp [fin, impl_runs_L1_k, impl_runs_L1_a]
    · simp [h1, show ¬ leg < 0 by omega, show leg ≥ (n.Legs.length : Int) by omega]
  · simp [h0, show leg < 0 by omega]
def tripB (n : Network) (t : Trip) : Bool := netB n && runB n t.Leg t.Day
theorem impl_IsTrip_eq (n : Network) (h : NetS n) (t : Trip) : impl_IsTrip n t = some (tripB n t) := by
  unfold impl_IsTrip impl_RunsOn tripB
  rw [impl_IsNetwork_eq n h]
  cases netB n <;> simp [impl_runs_eq n h]
/-- what is known of a leg of a right network -/
theorem leg_in {n : Network} (h : netB n = true) {k : Int} (h0 : 0 ≤ k) (h1 : k < n.Legs.length) : 0 ≤ (legA n k).Start ∧ (legA n k).Start ≤ 1439 ∧ 1 ≤ (legA n k).Takes ∧ (legA n k).Takes ≤ 4320 ∧ 0 ≤ (legA n k).Room ∧ (legA n k).Room ≤ 1000000 := by
  have hk : k.toNat < n.Legs.length := by omega
  have e : legA n k = n.Legs[k.toNat] := by simp [legA, hk]
  simp only [netB, Bool.and_eq_true, List.all_eq_true] at h
  have := h.1.1.1.1 _ (List.getElem_mem hk)
  rw [← e] at this
  simp only [legB, inB, Bool.and_eq_true, decide_eq_true_eq] at this
  omega
theorem trip_in {n : Network} {t : Trip} (h : tripB n t = true) : netB n = true ∧ 0 ≤ t.Leg ∧ t.Leg < n.Legs.length ∧ 0 ≤ t.Day ∧ t.Day ≤ 60 := by
  simp only [tripB, runB, inB, Bool.and_eq_true, decide_eq_true_eq] at h
  refine ⟨h.1, ?_⟩
  omega
def stT (n : Network) (t : Trip) : Int := t.Day * 1440 + (legA n t.Leg).Start
def enT (n : Network) (t : Trip) : Int := stT n t + (legA n t.Leg).Takes
theorem stT_in {n : Network} {t : Trip} (h : tripB n t = true) : 0 ≤ stT n t ∧ stT n t ≤ 90000 ∧ stT n t < enT n t ∧ enT n t ≤ 95000 := by
  obtain ⟨h1, h2, h3, h4, h5⟩ := trip_in h
  have := leg_in h1 h2 h3
  unfold enT stT
  omega
def outX {X R : Type} (d : R → X) : X ⊕ R → X
  | .inl x => x
  | .inr r => d r
/-- the least slack so far -/
def slkT (n : Network) (w : List Trip) (i : Nat) : Int := stT n (w[i]?.getD default) - enT n (w[i - 1]?.getD default) - n.Change
def lstT (n : Network) (w : List Trip) : Nat → Int
  | 0 => 100000
  | 1 => 100000
  | i + 2 => if slkT n w (i + 1) < lstT n w (i + 1) then slkT n w (i + 1) else lstT n w (i + 1)
theorem lstT_succ (n : Network) (w : List Trip) {i : Nat} (h : 1 ≤ i) : lstT n w (i + 1) = if slkT n w i < lstT n w i then slkT n w i else lstT n w i := by
  cases i with
  | zero => omega
  | succ i => rfl
theorem change_in {n : Network} (h : netB n = true) : 0 ≤ n.Change ∧ n.Change ≤ 240 := by
  simp only [netB, inB, Bool.and_eq_true, decide_eq_true_eq] at h
  exact h.2
theorem loop_from {σ τ ρ : Type} {body : σ → Option (Ctl σ τ ρ)} (m n : Nat) (st : Nat → σ) (t : τ) (hn : n ≤ 1048576) (hm : m ≤ n) (h : ∀ i, m ≤ i → i < n → body (st i) = some (.next (st (i + 1)))) (he : body (st n) = some (.brk t)) : loopM body big (st m) = some (.inl t) := by
  have := loop_val (body := body) (n - m) (fun i => st (m + i)) t (by omega) (fun i hi => by
    have := h (m + i) (by omega) (by omega)
    rw [this]
    rfl) (by rw [show m + (n - m) = n by omega]; exact he)
  simpa using this
end Go.Sx
