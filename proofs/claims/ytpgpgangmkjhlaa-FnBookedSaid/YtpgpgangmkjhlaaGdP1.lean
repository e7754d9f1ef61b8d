/- Part of a proof: GdT GdP GdX GdS. -/
import Derived.Test.YtpgpgangmkjhlaaGdW3
import Derived.Test.YtpgpgangmkjhlaaSxT
import Derived.Test.YtpgpgangmkjhlaaSxUs
import Derived.Test.YtpgpgangmkjhlaaSxUs
section
/- Helpers and networks: what the functions of the program compute, as plain laws. -/
namespace Go.Sx
set_option linter.unusedVariables false

theorem len_le {k : Nat} (h : k ≤ maxLen) : k ≤ 9223372036854775807 := h
/-- a network that is small enough to be looked at -/
structure NetS (n : Network) : Prop where
  legs : n.Legs.length ≤ 1048576
  off : n.Off.length ≤ 1048576
  str : ∀ l ∈ n.Legs, l.From.size ≤ 1048576 ∧ l.To.size ≤ 1048576
/-- what is known of a network that comes in -/
structure NetIn (n : Network) : Prop where
  legs : n.Legs.length ≤ maxLen
  off : n.Off.length ≤ maxLen
  str : ∀ l ∈ n.Legs, l.From.size ≤ maxLen ∧ l.To.size ≤ maxLen
def inB (x a b : Int) : Bool := decide (a ≤ x) && decide (x ≤ b)
theorem within_eq (x a b : Int) : impl_within x a b = some (inB x a b) := by
  unfold impl_within inB
  cases h : decide (a ≤ x) <;> simp
theorem l1In_eq (x a b : Int) : spec_l1In x a b = some (inB x a b) := within_eq x a b
/-- a capital letter -/
def capB (b : UInt8) : Bool := inB (b.toNat : Int) 65 90
def plc (s : ByteArray) : Bool := decide (s.size = 3) && s.data.toList.all capB
theorem size_list (s : ByteArray) : s.data.toList.length = s.size := by rw [Array.length_toList]; rfl
theorem siM_nat {s : ByteArray} {i : Nat} (h : i < s.data.toList.length) : siM s (i : Int) = some ((s.data.toList[i]).toNat : Int) := by
  have hs : i < s.size := by rw [← size_list]; exact h
  unfold siM
  rw [if_pos (by omega)]
  simp only [Int.toNat_natCast]
  have : s[i]? = some s.data.toList[i] := by
    rw [getElem?_pos s i hs]; rfl
  rw [this]; rfl
theorem each_allP {α : Type} (p : α → Bool) (v : Bool) (l : List α) (i : Nat) : each (X := Unit) (R := Bool) (fun _ a _ => bif p a then .inl () else .inr v) i l () = bif l.all p then .inl () else .inr v := by
  induction l generalizing i with
  | nil => rfl
  | cons a l ih =>
    rw [each]
    cases h : p a with
    | true => simpa [h] using ih (i + 1)
    | false => simp [h]
theorem impl_IsPlace_eq (s : ByteArray) (hs : s.size ≤ 1048576) : impl_IsPlace s = some (plc s) := by
  unfold impl_IsPlace plc
  have hl : s.data.toList.length ≤ 1048576 := by rw [size_list]; exact hs
  have := loopM_each' (body := impl_IsPlace_L1 s) (X := Unit) s.data.toList (fun _ i => i) (fun _ t _ => bif capB t then .inl () else .inr false) (fun x => x) () (fun i hi x => by
    have hi' : (i : Int) < (s.size : Int) := by rw [← size_list]; omega
    simp only [impl_IsPlace_L1, impl_IsPlace_L1_b, hi', decide_true, cond_true, siM_nat hi, Option.bind_some, w64_succ (by omega : i ≤ 1048576), capB, inB]
    generalize (((s.data.toList[i]).toNat : Nat) : Int) = v
    by_cases h1 : v < 65
    · simp [h1, show ¬ 65 ≤ v by omega, ctl]
    · by_cases h2 : v > 90
      · simp [h1, h2, show ¬ v ≤ 90 by omega, ctl]
      · simp [h1, h2, show 65 ≤ v by omega, show v ≤ 90 by omega, ctl]) (fun x => by
    have : ¬ ((s.data.toList.length : Nat) : Int) < (s.size : Int) := by rw [size_list]; omega
    simp only [impl_IsPlace_L1, impl_IsPlace_L1_b, this, decide_false, cond_false]) hl
  rw [each_allP capB] at this
  rw [this]
  cases s.data.toList.all capB
  · simp [fin, impl_IsPlace_L1_k]
  · simp only [fin, cond_true, Option.bind_some, impl_IsPlace_L1_k, impl_IsPlace_L1_a, beqI, Bool.and_true, Option.some.injEq, decide_eq_decide]
    omega
theorem spec_IsPlace_eq (s : ByteArray) : spec_IsPlace s = some (plc s) := by
  unfold spec_IsPlace plc
  by_cases h3 : s.size = 3
  · have hl : s.data.toList.length = 3 := by rw [size_list]; exact h3
    have := loopM_each' (body := spec_IsPlace_L1 s) (X := Unit) s.data.toList (fun _ i => i) (fun _ t _ => bif capB t then .inl () else .inr false) (fun x => x) () (fun i hi x => by
      have hi' : (i : Int) < 3 := by omega
      have hb : (0 : Int) ≤ ((s.data.toList[i]).toNat : Int) ∧ ((s.data.toList[i]).toNat : Int) ≤ 255 := by have := (s.data.toList[i]).toNat_lt; omega
      simp only [spec_IsPlace_L1, spec_IsPlace_L1_b, hi', decide_true, cond_true, siM_nat hi, Option.bind_some, w64_succ (by omega : i ≤ 1048576), capB, l1In_eq]
      rw [w64_id (by omega) (by omega)]
      cases inB ((s.data.toList[i]).toNat : Int) 65 90 <;> simp [ctl]) (fun x => by
      simp [spec_IsPlace_L1, spec_IsPlace_L1_b, hl]) (by omega)
    rw [each_allP capB] at this
    rw [this]
    simp only [h3, bneI, decide_true, Bool.true_and, show ((3 : Nat) : Int) = 3 from rfl, Bool.not_true, cond_false]
    cases s.data.toList.all capB <;> simp [fin, spec_IsPlace_L1_k, spec_IsPlace_L1_a]
  · simp [bneI, h3, show ¬ ((s.size : Int) = 3) by omega]
def legB (l : Leg) : Bool := plc l.From && plc l.To && !(l.From.toList == l.To.toList) && inB l.Start 0 1439 && inB l.Takes 1 4320 && inB l.Days 1 127 && inB l.Room 0 1000000
theorem impl_IsLeg_eq (l : Leg) (h : l.From.size ≤ 1048576 ∧ l.To.size ≤ 1048576) : impl_IsLeg l = some (legB l) := by
  unfold impl_IsLeg legB
  simp only [impl_IsPlace_eq _ h.1, impl_IsPlace_eq _ h.2, within_eq, Option.bind_some]
  cases plc l.From <;> cases plc l.To <;> cases (l.From.toList == l.To.toList) <;> cases inB l.Start 0 1439 <;> cases inB l.Takes 1 4320 <;> cases inB l.Days 1 127 <;> rfl
theorem spec_IsLeg_eq (l : Leg) : spec_IsLeg l = some (legB l) := by
  unfold spec_IsLeg legB
  simp only [spec_IsPlace_eq, l1In_eq, Option.bind_some]
  cases plc l.From <;> cases plc l.To <;> cases (l.From.toList == l.To.toList) <;> cases inB l.Start 0 1439 <;> cases inB l.Takes 1 4320 <;> cases inB l.Days 1 127 <;> rfl
def offB (l : List Int) (i : Nat) (t : Int) : Bool := inB t 0 60 && (decide (i = 0) || decide (l[i - 1]?.getD default < t))
def netB (n : Network) : Bool := n.Legs.all legB && allI (offB n.Off) 0 n.Off && decide (n.Legs.length ≤ 20) && decide (n.Off.length ≤ 10) && inB n.Change 0 240
theorem gi_pred' {l : List Int} {i : Nat} (hi : i < l.length) (h0 : 0 < i) (hl : l.length ≤ 1048576) : gi l (w64 ((i : Int) - 1)) = some (l[i - 1]?.getD default) := by
  rw [w64_id (by omega) (by omega), show ((i : Int) - 1) = ((i - 1 : Nat) : Int) by omega, gi_nat (by omega : i - 1 < l.length)]
  simp [show i - 1 < l.length by omega]
theorem off_loop_i (n : Network) (h : NetS n) : loopM (impl_IsNetwork_L2 n) big 0 = some (bif allI (offB n.Off) 0 n.Off then .inl () else .inr false) := by
  have := loopM_each' (body := impl_IsNetwork_L2 n) (X := Unit) n.Off (fun _ i => i) (fun i t _ => bif offB n.Off i t then .inl () else .inr false) (fun x => x) () (fun i hi x => by
    simp only [impl_IsNetwork_L2, impl_IsNetwork_L2_b, Int.ofNat_lt, hi, decide_true, cond_true, gi_nat hi, Option.bind_some, within_eq, offB, w64_succ (Nat.le_of_lt (Nat.lt_of_lt_of_le hi h.off))]
    generalize hv : n.Off[i] = v
    cases inB v 0 60 <;> simp [ctl]
    rcases Nat.eq_zero_or_pos i with h0 | h0
    · subst h0; simp
    · have hz : ¬ i = 0 := by omega
      have hz' : (0 : Int) < (i : Int) := by omega
      have hz2 : 0 < i := h0
      simp only [gi_pred' hi h0 h.off, Option.bind_some]
      generalize n.Off[i - 1]?.getD default = q
      by_cases h2 : q < v
      · simp [h2, hz, hz', hz2, show ¬ v ≤ q by omega]
      · simp [h2, hz, hz', hz2, show v ≤ q by omega]) (fun x => by simp [impl_IsNetwork_L2, impl_IsNetwork_L2_b]) h.off
  rw [each_all (offB n.Off)] at this
  rw [this]
  cases allI (offB n.Off) 0 n.Off <;> rfl
theorem off_loop_s (n : Network) (h : NetS n) : loopM (spec_IsNetwork_L2 n) big 0 = some (bif allI (offB n.Off) 0 n.Off then .inl () else .inr false) := by
  have := loopM_each' (body := spec_IsNetwork_L2 n) (X := Unit) n.Off (fun _ i => i) (fun i t _ => bif offB n.Off i t then .inl () else .inr false) (fun x => x) () (fun i hi x => by
    simp only [spec_IsNetwork_L2, spec_IsNetwork_L2_b, Int.ofNat_lt, hi, decide_true, cond_true, gi_nat hi, Option.bind_some, l1In_eq, offB, w64_succ (Nat.le_of_lt (Nat.lt_of_lt_of_le hi h.off))]
    generalize hv : n.Off[i] = v
    cases inB v 0 60 <;> simp [ctl]
    rcases Nat.eq_zero_or_pos i with h0 | h0
    · subst h0; simp
    · have hz : ¬ i = 0 := by omega
      have hz' : (0 : Int) < (i : Int) := by omega
      have hz2 : 0 < i := h0
      simp only [gi_pred' hi h0 h.off, Option.bind_some]
      generalize n.Off[i - 1]?.getD default = q
      by_cases h2 : q < v
      · simp [h2, hz, hz', hz2, show ¬ v ≤ q by omega]
      · simp [h2, hz, hz', hz2, show v ≤ q by omega]) (fun x => by simp [spec_IsNetwork_L2, spec_IsNetwork_L2_b]) h.off
  rw [each_all (offB n.Off)] at this
  rw [this]
  cases allI (offB n.Off) 0 n.Off <;> rfl
theorem impl_IsNetwork_eq (n : Network) (h : NetS n) : impl_IsNetwork n = some (netB n) := by
  unfold impl_IsNetwork netB
  have := loopM_each' (body := impl_IsNetwork_L1 n) (X := Unit) n.Legs (fun _ i => i) (fun _ t _ => bif legB t then .inl () else .inr false) (fun x => x) () (fun i hi x => by
    simp only [impl_IsNetwork_L1, impl_IsNetwork_L1_b, Int.ofNat_lt, hi, decide_true, cond_true, gi_nat hi, Option.bind_some, impl_IsLeg_eq _ (h.str _ (List.getElem_mem hi)), w64_succ (Nat.le_of_lt (Nat.lt_of_lt_of_le hi h.legs))]
    cases legB n.Legs[i] <;> simp [ctl]) (fun x => by simp [impl_IsNetwork_L1, impl_IsNetwork_L1_b]) h.legs
  rw [each_allP legB] at this
  rw [this]
  cases n.Legs.all legB with
  | false => simp [fin, impl_IsNetwork_L1_k]
  | true =>
    simp only [fin, cond_true, Option.bind_some, impl_IsNetwork_L1_k, impl_IsNetwork_L1_a, off_loop_i n h, Bool.true_and]
    cases allI (offB n.Off) 0 n.Off with
    | false => simp [impl_IsNetwork_L2_k]
    | true =>
      simp only [cond_true, impl_IsNetwork_L2_k, impl_IsNetwork_L2_a, within_eq, Option.bind_some, Bool.true_and]
      by_cases h1 : n.Legs.length ≤ 20
      · by_cases h2 : n.Off.length ≤ 10
        · simp [h1, h2, show (n.Legs.length : Int) ≤ 20 by omega, show (n.Off.length : Int) ≤ 10 by omega]
        · simp [h1, h2, show (n.Legs.length : Int) ≤ 20 by omega, show ¬ (n.Off.length : Int) ≤ 10 by omega]
      · simp [h1, show ¬ (n.Legs.length : Int) ≤ 20 by omega]
theorem spec_IsNetwork_eq (n : Network) (h : NetS n) : spec_IsNetwork n = some (netB n) := by
  unfold spec_IsNetwork netB
  have := loopM_each' (body := spec_IsNetwork_L1 n) (X := Unit) n.Legs (fun _ i => i) (fun _ t _ => bif legB t then .inl () else .inr false) (fun x => x) () (fun i hi x => by
    simp only [spec_IsNetwork_L1, spec_IsNetwork_L1_b, Int.ofNat_lt, hi, decide_true, cond_true, gi_nat hi, Option.bind_some, spec_IsLeg_eq, w64_succ (Nat.le_of_lt (Nat.lt_of_lt_of_le hi h.legs))]
    cases legB n.Legs[i] <;> simp [ctl]) (fun x => by simp [spec_IsNetwork_L1, spec_IsNetwork_L1_b]) h.legs
  rw [each_allP legB] at this
  rw [this]
  cases n.Legs.all legB with
  | false => simp [fin, spec_IsNetwork_L1_k]
  | true =>
    simp only [fin, cond_true, Option.bind_some, spec_IsNetwork_L1_k, spec_IsNetwork_L1_a, off_loop_s n h, Bool.true_and]
    cases allI (offB n.Off) 0 n.Off with
    | false => simp [spec_IsNetwork_L2_k]
    | true =>
      simp only [cond_true, spec_IsNetwork_L2_k, spec_IsNetwork_L2_a, l1In_eq, Option.bind_some, Bool.true_and]
      by_cases h1 : n.Legs.length ≤ 20
      · by_cases h2 : n.Off.length ≤ 10
        · simp [h1, h2, show (n.Legs.length : Int) ≤ 20 by omega, show (n.Off.length : Int) ≤ 10 by omega]
        · simp [h1, h2, show (n.Legs.length : Int) ≤ 20 by omega, show ¬ (n.Off.length : Int) ≤ 10 by omega]
      · simp [h1, show ¬ (n.Legs.length : Int) ≤ 20 by omega]
/-- the bit of a day -/
def bitV (days day : Int) : Int := w64 ((BitVec.ofInt 64 (Int.fdiv days (2 ^ (min (Int.tmod day 7).toNat 64))) &&& BitVec.ofInt 64 1).toNat)
theorem bit01 (days day : Int) : bitV days day = 0 ∨ bitV days day = 1 := by
  unfold bitV
  generalize Int.fdiv days (2 ^ (min (Int.tmod day 7).toNat 64)) = x
  have h : (BitVec.ofInt 64 x &&& BitVec.ofInt 64 1).toNat ≤ 1 := by
    rw [BitVec.toNat_and]
    exact Nat.le_trans Nat.and_le_right (by decide)
  rw [w64_id (by omega) (by omega)]
  omega
def legA (n : Network) (k : Int) : Leg := n.Legs[k.toNat]?.getD default
theorem gi_leg {n : Network} {k : Int} (h0 : 0 ≤ k) (h1 : k < n.Legs.length) : gi n.Legs k = some (legA n k) := by
  rw [gi_eq h0 h1]
  have : k.toNat < n.Legs.length := by omega
  simp [legA, this]
def runB (n : Network) (leg day : Int) : Bool := decide (0 ≤ leg) && decide (leg < n.Legs.length) && inB day 0 60 && decide (bitV (legA n leg).Days day = 1) && !(n.Off.any (· == day))
theorem has_eq (l : List Int) (x : Int) (hl : l.length ≤ 1048576) : spec_l1Has l x = some (l.any (· == x)) := by
  unfold spec_l1Has
  have := loopM_each' (body := spec_l1Has_L1 l x) (X := Unit) l (fun _ i => i) (fun _ t _ => bif t == x then .inr true else .inl ()) (fun x => x) () (fun i hi y => by
    simp only [spec_l1Has_L1, spec_l1Has_L1_b, gi_nat hi, Option.bind_some, Int.ofNat_lt, hi, decide_true, cond_true, w64_succ (Nat.le_of_lt (Nat.lt_of_lt_of_le hi hl))]
    cases l[i] == x <;> simp [ctl]) (fun x => by simp [spec_l1Has_L1, spec_l1Has_L1_b]) hl
  rw [this, each_any]
  cases l.any (· == x) <;> simp [fin, spec_l1Has_L1_k, spec_l1Has_L1_a]
theorem tmod7 {d : Int} (h : 0 ≤ d) : ¬ Int.tmod d 7 < 0 := by have := Int.tmod_nonneg 7 h; omega
theorem spec_runs_eq (n : Network) (h : NetS n) (leg day : Int) : spec_l3Runs n leg day = some (runB n leg day) := by
  unfold spec_l3Runs runB
  have hl := h.legs
  simp only [l1In_eq, Option.bind_some]
  rw [w64_id (by omega) (by omega)]
  by_cases h0 : 0 ≤ leg
  · by_cases h1 : leg < n.Legs.length
    · rw [show inB leg 0 ((n.Legs.length : Int) - 1) = true by simp [inB, h0]; omega]
      cases hd : inB day 0 60 with
      | false => simp
      | true =>
        have hd0 : 0 ≤ day := by simp only [inB, Bool.and_eq_true, decide_eq_true_eq] at hd; exact hd.1
        simp only [cond_true, gi_leg h0 h1, Option.bind_some, shrM, tmod7 hd0, if_false, has_eq n.Off day h.off, beqI, h0, h1, decide_true, Bool.true_and]
        show (bif decide (bitV (legA n leg).Days day = 1) then _ else _) = _
        cases decide (bitV (legA n leg).Days day = 1) <;> simp [beqI]
    · rw [show inB leg 0 ((n.Legs.length : Int) - 1) = false by simp [inB]; omega]
      simp [h1]
  · rw [show inB leg 0 ((n.Legs.length : Int) - 1) = false by simp [inB]; omega]
    simp [h0]
theorem impl_runs_eq (n : Network) (h : NetS n) (leg day : Int) : impl_runs n leg day = some (runB n leg day) := by
  unfold impl_runs runB
  have hl := h.legs
  by_cases h0 : 0 ≤ leg
  · by_cases h1 : leg < n.Legs.length
    · simp only [show ¬ leg < 0 by omega, show ¬ leg ≥ (n.Legs.length : Int) by omega, decide_false, cond_false, within_eq, Option.bind_some]
      cases hd : inB day 0 60 with
      | false => simp
      | true =>
        have hd0 : 0 ≤ day := by simp only [inB, Bool.and_eq_true, decide_eq_true_eq] at hd; exact hd.1
        simp only [Bool.not_true, cond_false, gi_leg h0 h1, Option.bind_some, shrM, tmod7 hd0, if_false, beqI, h0, h1, decide_true, Bool.true_and]
        show (bif decide (bitV (legA n leg).Days day = 0) then _ else _) = _
        have := loopM_each' (body := impl_runs_L1 n day) (X := Unit) n.Off (fun _ i => i) (fun _ t _ => bif t == day then .inr false else .inl ()) (fun x => x) () (fun i hi y => by
          simp only [impl_runs_L1, impl_runs_L1_b, gi_nat hi, Option.bind_some, Int.ofNat_lt, hi, decide_true, cond_true, w64_succ (Nat.le_of_lt (Nat.lt_of_lt_of_le hi h.off))]
          cases n.Off[i] == day <;> simp [ctl]) (fun x => by simp [impl_runs_L1, impl_runs_L1_b]) h.off
        have key : ∀ (l : List Int) (i : Nat), each (X := Unit) (R := Bool) (fun _ t _ => bif t == day then .inr false else .inl ()) i l () = bif l.any (· == day) then .inr false else .inl () := by
          intro l
          induction l with
          | nil => intro i; rfl
          | cons a l ih => intro i; rw [each]; cases hh : a == day <;> simp [hh, ih]
        rw [key] at this
        rw [this]
        rcases bit01 (legA n leg).Days day with hb | hb
        · simp [hb]
        · simp only [hb, show ¬ (1 : Int) = 0 by omega, decide_false, cond_false, decide_true, Bool.true_and]
          simp only [← beqI]
          cases n.Off.any (· == day) <;> simp [fin, impl_runs_L1_k, impl_runs_L1_a]
    · simp [h1, show ¬ leg < 0 by omega, show leg ≥ (n.Legs.length : Int) by omega]
  · simp [h0, show leg < 0 by omega]
def tripB (n : Network) (t : Trip) : Bool := netB n && runB n t.Leg t.Day
theorem impl_IsTrip_eq (n : Network) (h : NetS n) (t : Trip) : impl_IsTrip n t = some (tripB n t) := by
  unfold impl_IsTrip impl_RunsOn tripB
  rw [impl_IsNetwork_eq n h]
  cases netB n <;> simp [impl_runs_eq n h]
/-- what is known of a leg of a right network -/
theorem leg_in {n : Network} (h : netB n = true) {k : Int} (h0 : 0 ≤ k) (h1 : k < n.Legs.length) : 0 ≤ (legA n k).Start ∧ (legA n k).Start ≤ 1439 ∧ 1 ≤ (legA n k).Takes ∧ (legA n k).Takes ≤ 4320 ∧ 0 ≤ (legA n k).Room ∧ (legA n k).Room ≤ 1000000 := by
  have hk : k.toNat < n.Legs.length := by omega
  have e : legA n k = n.Legs[k.toNat] := by simp [legA, hk]
  simp only [netB, Bool.and_eq_true, List.all_eq_true] at h
  have := h.1.1.1.1 _ (List.getElem_mem hk)
  rw [← e] at this
  simp only [legB, inB, Bool.and_eq_true, decide_eq_true_eq] at this
  omega
theorem trip_in {n : Network} {t : Trip} (h : tripB n t = true) : netB n = true ∧ 0 ≤ t.Leg ∧ t.Leg < n.Legs.length ∧ 0 ≤ t.Day ∧ t.Day ≤ 60 := by
  simp only [tripB, runB, inB, Bool.and_eq_true, decide_eq_true_eq] at h
  refine ⟨h.1, ?_⟩
  omega
def stT (n : Network) (t : Trip) : Int := t.Day * 1440 + (legA n t.Leg).Start
def enT (n : Network) (t : Trip) : Int := stT n t + (legA n t.Leg).Takes
theorem stT_in {n : Network} {t : Trip} (h : tripB n t = true) : 0 ≤ stT n t ∧ stT n t ≤ 90000 ∧ stT n t < enT n t ∧ enT n t ≤ 95000 := by
  obtain ⟨h1, h2, h3, h4, h5⟩ := trip_in h
  have := leg_in h1 h2 h3
  unfold enT stT
  omega
theorem starts_eq {n : Network} {t : Trip} (h : tripB n t = true) : spec_l3Starts n t = some (stT n t) := by
  obtain ⟨h1, h2, h3, h4, h5⟩ := trip_in h
  have := leg_in h1 h2 h3
  unfold spec_l3Starts stT
  rw [gi_leg h2 h3]
  simp only [Option.bind_some]
  rw [w64_id (x := t.Day * 1440) (by omega) (by omega), w64_id (by omega) (by omega)]
theorem ends_eq {n : Network} {t : Trip} (h : tripB n t = true) : spec_l3Ends n t = some (enT n t) := by
  obtain ⟨h1, h2, h3, h4, h5⟩ := trip_in h
  have := leg_in h1 h2 h3
  have h6 := stT_in h
  unfold spec_l3Ends
  rw [starts_eq h, gi_leg h2 h3]
  simp only [Option.bind_some]
  rw [w64_id (by unfold enT at h6; omega) (by unfold enT at h6; omega)]
  rfl
theorem starts_eq' {n : Network} {t : Trip} (h : tripB n t = true) : impl_starts n t = some (stT n t) := starts_eq h
def outX {X R : Type} (d : R → X) : X ⊕ R → X
  | .inl x => x
  | .inr r => d r
/-- the least slack so far -/
def slkT (n : Network) (w : List Trip) (i : Nat) : Int := stT n (w[i]?.getD default) - enT n (w[i - 1]?.getD default) - n.Change
def lstT (n : Network) (w : List Trip) : Nat → Int
  | 0 => 100000
  | 1 => 100000
  | i + 2 => if slkT n w (i + 1) < lstT n w (i + 1) then slkT n w (i + 1) else lstT n w (i + 1)
theorem lstT_succ (n : Network) (w : List Trip) {i : Nat} (h : 1 ≤ i) : lstT n w (i + 1) = if slkT n w i < lstT n w i then slkT n w i else lstT n w i := by
  cases i with
  | zero => omega
  | succ i => rfl
theorem change_in {n : Network} (h : netB n = true) : 0 ≤ n.Change ∧ n.Change ≤ 240 := by
  simp only [netB, inB, Bool.and_eq_true, decide_eq_true_eq] at h
  exact h.2
theorem loop_from {σ τ ρ : Type} {body : σ → Option (Ctl σ τ ρ)} (m n : Nat) (st : Nat → σ) (t : τ) (hn : n ≤ 1048576) (hm : m ≤ n) (h : ∀ i, m ≤ i → i < n → body (st i) = some (.next (st (i + 1)))) (he : body (st n) = some (.brk t)) : loopM body big (st m) = some (.inl t) := by
  have := loop_val (body := body) (n - m) (fun i => st (m + i)) t (by omega) (fun i hi => by
    have := h (m + i) (by omega) (by omega)
    rw [this]
    rfl) (by rw [show m + (n - m) = n by omega]; exact he)
  simpa using this
end Go.Sx
end
section
/- The places of a network: both functions make the same rising list. -/
namespace Go.Sx
set_option linter.unusedVariables false

def nmL (l : List Leg) : List ByteArray := l.flatMap fun x => [x.From, x.To]
theorem nmL_len (l : List Leg) : (nmL l).length = 2 * l.length := by
  induction l with
  | nil => rfl
  | cons a l ih =>
    have : nmL (a :: l) = a.From :: a.To :: nmL l := rfl
    rw [this]; simp; omega
theorem nmL_get (l : List Leg) : ∀ (i : Nat) (h : i < l.length), (nmL l)[2 * i]? = some l[i].From ∧ (nmL l)[2 * i + 1]? = some l[i].To := by
  induction l with
  | nil => intro i h; simp at h
  | cons a l ih =>
    intro i h
    have e : nmL (a :: l) = a.From :: a.To :: nmL l := rfl
    rw [e]
    cases i with
    | zero => exact ⟨rfl, rfl⟩
    | succ i =>
      have := ih i (by simpa using h)
      rw [show 2 * (i + 1) = 2 * i + 1 + 1 by omega]
      simpa using this
def plcs (n : Network) : List ByteArray := (nmL n.Legs).foldl (fun D s => insB s D) []
theorem ddB_len (l : List ByteArray) : (ddB l).length ≤ l.length := by
  have := (ddB_fold l [] (by simp)).2.2
  unfold ddB
  simpa using this
theorem dd_step {σ τ ρ : Type} (v : ByteArray) (D : List ByteArray) (hD : D.length ≤ 4000000) (f : List ByteArray → List ByteArray → Ctl σ τ ρ) :
    (bif !(memB v D) then (ap 16 D ([v] : List ByteArray)).bind (fun x => some (f (putB v D) x)) else some (f D D)) = some (f (putB v D) (putB v D)) := by
  unfold putB
  cases hb : memB v D with
  | true => rfl
  | false =>
    simp only [Bool.not_false, cond_true, cond_false]
    rw [ap_eq (by simp; omega) (by omega)]
    rfl
theorem slM_take {α : Type} (l : List α) (k : Nat) (h : k ≤ l.length) : slM l 0 (k : Int) = some (l.take k) := by
  unfold slM
  simp [h]
theorem slM_drop {α : Type} (l : List α) (k : Nat) (h : k ≤ l.length) : slM l (k : Int) l.length = some (l.drop k) := by
  unfold slM
  simp [h]
theorem spec_L2 (p : ByteArray) (l : List ByteArray) (hl : l.length ≤ 4000000) : loopM (spec_PlacesOf_L2 l p) big 0 = some (.inl (cntB p l : Int)) := by
  have hc := cntB_le p l
  have := loop_go (body := spec_PlacesOf_L2 l p) (cntB p l) (fun i => (i : Int)) (cntB p l : Int) (show cntB p l < 1000000000000 by omega) (fun i hi => by
    obtain ⟨h1, h2⟩ := cntB_lt p l i hi
    show spec_PlacesOf_L2_b l p _ = _
    unfold spec_PlacesOf_L2_b
    simp only [Int.ofNat_lt, h1, decide_true, cond_true, gi_nat h1, Option.bind_some, less_eq, h2]
    rw [w64_id (by omega) (by omega)]
    simp) (by
    show spec_PlacesOf_L2_b l p _ = _
    unfold spec_PlacesOf_L2_b
    by_cases h1 : cntB p l < l.length
    · have h2 := cntB_at p l h1
      simp only [Int.ofNat_lt, h1, decide_true, cond_true, gi_nat h1, Option.bind_some, less_eq, h2, decide_false, cond_false]
    · simp [h1])
  exact this
theorem spec_put (p : ByteArray) (l : List ByteArray) (hl : l.length ≤ 4000000) (i : Int) : spec_PlacesOf_j1 l i p = some (.next (insB p l, w64 (i + 1))) := by
  have hc := cntB_le p l
  unfold spec_PlacesOf_j1
  rw [spec_L2 p l hl]
  simp only [Option.bind_some, spec_PlacesOf_L2_k]
  unfold spec_PlacesOf_L2_a
  have key : ((slM l 0 (cntB p l : Int)).bind fun v11 => (ap 16 ([] : List ByteArray) v11).bind fun v13 => (ap 16 v13 ([p] : List ByteArray)).bind fun v15 => (slM l (cntB p l : Int) l.length).bind fun v17 => (ap 16 v15 v17).bind fun v19 => some (Ctl.next (τ := List ByteArray) (ρ := List ByteArray) (v19, w64 (i + 1)))) = some (.next (l.take (cntB p l) ++ [p] ++ l.drop (cntB p l), w64 (i + 1))) := by
    rw [slM_take l _ hc, slM_drop l _ hc]
    simp only [Option.bind_some]
    rw [ap_eq (by simp; omega) (by omega)]
    simp only [Option.bind_some, List.nil_append]
    rw [ap_eq (by simp; omega) (by omega)]
    simp only [Option.bind_some]
    rw [ap_eq (by simp; omega) (by omega)]
    rfl
  by_cases h1 : cntB p l < l.length
  · have hne : ((cntB p l : Int) == (l.length : Int)) = false := by simp; omega
    simp only [hne, cond_false, gi_nat h1, Option.bind_some, bytes_eq_decide]
    unfold insB
    rw [dif_pos h1]
    by_cases h2 : l[cntB p l] = p
    · simp [h2]
    · rw [if_neg h2]
      simp only [h2, decide_false, Bool.not_false, cond_true]
      exact key
  · have he : ((cntB p l : Int) == (l.length : Int)) = true := by simp; omega
    simp only [he, cond_true]
    unfold insB
    rw [dif_neg h1]
    exact key
theorem ins_len (l : List ByteArray) : ∀ D : List ByteArray, (l.foldl (fun D s => insB s D) D).length ≤ D.length + l.length := by
  induction l with
  | nil => intro D; simp
  | cons a l ih =>
    intro D
    have := ih (insB a D)
    have := insB_len a D
    simp only [List.foldl_cons, List.length_cons]
    omega
theorem spec_PlacesOf_eq (n : Network) (h : NetS n) : spec_PlacesOf n = some (plcs n) := by
  have hl := h.legs
  have hnl := nmL_len n.Legs
  unfold spec_PlacesOf
  have h1 := loop_go (body := spec_PlacesOf_L1 n) (2 * n.Legs.length) (fun i => (((nmL n.Legs).take i).foldl (fun D s => insB s D) [], (i : Int))) (plcs n) (show 2 * n.Legs.length < 1000000000000 by omega) (fun i hi => by
    have hj : i / 2 < n.Legs.length := by omega
    have hin : i < (nmL n.Legs).length := by omega
    have hlen : (((nmL n.Legs).take i).foldl (fun D s => insB s D) []).length ≤ 4000000 := by
      have := ins_len ((nmL n.Legs).take i) []
      have : ((nmL n.Legs).take i).length ≤ (nmL n.Legs).length := by rw [List.length_take]; omega
      simp only [List.length_nil] at *
      omega
    have e : ((nmL n.Legs).take (i + 1)).foldl (fun D s => insB s D) [] = insB (nmL n.Legs)[i] (((nmL n.Legs).take i).foldl (fun D s => insB s D) []) := by
      rw [List.take_succ_eq_append_getElem hin, List.foldl_append]; rfl
    have ed : Int.tdiv (i : Int) 2 = ((i / 2 : Nat) : Int) := by rw [Int.tdiv_eq_ediv_of_nonneg (by omega)]; omega
    have em : Int.tmod (i : Int) 2 = ((i % 2 : Nat) : Int) := by rw [Int.tmod_eq_emod_of_nonneg (by omega)]; omega
    have hw : w64 (2 * (n.Legs.length : Int)) = 2 * (n.Legs.length : Int) := w64_id (by omega) (by omega)
    have hw2 : w64 ((i / 2 : Nat) : Int) = ((i / 2 : Nat) : Int) := w64_id (by omega) (by omega)
    have hw3 : w64 ((i : Int) + 1) = ((i + 1 : Nat) : Int) := by rw [w64_id (by omega) (by omega)]; omega
    show spec_PlacesOf_L1_b n _ _ = _
    unfold spec_PlacesOf_L1_b
    have hlt : (i : Int) < 2 * (n.Legs.length : Int) := by omega
    simp only [hw, hlt, decide_true, cond_true, ed, hw2, gi_nat hj, Option.bind_some, em]
    obtain ⟨g1, g2⟩ := nmL_get n.Legs (i / 2) hj
    by_cases hp : i % 2 = 1
    · have e2 : (nmL n.Legs)[i] = n.Legs[i / 2].To := by
        have : 2 * (i / 2) + 1 = i := by omega
        rw [this] at g2
        simpa [hin] using g2
      have hb : (((i % 2 : Nat) : Int) == 1) = true := by simp [hp]
      simp only [hb, cond_true, spec_put _ _ hlen, hw3, e, e2]
    · have e2 : (nmL n.Legs)[i] = n.Legs[i / 2].From := by
        have : 2 * (i / 2) = i := by omega
        rw [this] at g1
        simpa [hin] using g1
      have hb : (((i % 2 : Nat) : Int) == 1) = false := by simp; omega
      simp only [hb, cond_false, spec_put _ _ hlen, hw3, e, e2]) (by
    have hw : w64 (2 * (n.Legs.length : Int)) = 2 * (n.Legs.length : Int) := w64_id (by omega) (by omega)
    show spec_PlacesOf_L1_b n _ _ = _
    unfold spec_PlacesOf_L1_b
    rw [hw]
    rw [show (nmL n.Legs).take (2 * n.Legs.length) = nmL n.Legs by rw [← hnl, List.take_length]]
    simp [plcs])
  have h1 : loopM (spec_PlacesOf_L1 n) big (([] : List ByteArray), 0) = some (.inl (plcs n)) := h1
  rw [h1]
  simp [spec_PlacesOf_L1_k, spec_PlacesOf_L1_a]
theorem plcs_len (n : Network) (h : NetS n) : (plcs n).length ≤ 2097152 := by
  have h1 := ins_len (nmL n.Legs) []
  have h2 := h.legs
  rw [nmL_len] at h1
  simp only [List.length_nil] at h1
  unfold plcs
  omega
end Go.Sx
end
section
/- Ways: the exact law of IsWay answers true. -/
namespace Go.Sx
set_option linter.unusedVariables false

def idxV (l : List ByteArray) (p : ByteArray) : Int := match l.findIdx? (fun x => decide (x = p)) with | some i => (i : Int) | none => -1
theorem idx_loop {body : Int → Option (Ctl Int Unit Int)} (l : List ByteArray) (p : ByteArray) (hl : l.length ≤ 4000000)
    (h : ∀ i (hi : i < l.length), body (i : Int) = if l[i] = p then some (.ret (i : Int)) else some (.next ((i + 1 : Nat) : Int))) (he : body (l.length : Int) = some (.brk ())) :
    (loopM body big 0).bind (fun x => match x with | .inl _ => some (-1) | .inr y => some y) = some (idxV l p) := by
  obtain ⟨x, h1, h2⟩ := loopM_up (body := body) l.length (fun i s => s = (i : Int) ∧ ∀ j (hj : j < l.length), j < i → l[j] ≠ p) (fun x => (match x with | .inl _ => some (-1) | .inr y => some y) = some (idxV l p)) (fun i s hi hs => by
    obtain ⟨rfl, hs⟩ := hs
    rw [h i hi]
    by_cases hp : l[i] = p
    · refine .inr (.inr ⟨_, by rw [if_pos hp], ?_⟩)
      have : l.findIdx? (fun x => decide (x = p)) = some i := List.findIdx?_eq_some_iff_getElem.2 ⟨hi, by simp [hp], fun j hj => by simpa using hs j (by omega) hj⟩
      simp [idxV, this]
    · refine .inl ⟨_, by rw [if_neg hp], rfl, fun j hj hji => ?_⟩
      by_cases hje : j = i
      · subst hje; exact hp
      · exact hs j hj (by omega)) (fun s hs => by
    obtain ⟨rfl, hs⟩ := hs
    refine .inl ⟨(), he, ?_⟩
    have : l.findIdx? (fun x => decide (x = p)) = none := List.findIdx?_eq_none_iff.2 fun x hx => by
      obtain ⟨j, hj, rfl⟩ := List.getElem_of_mem hx
      simpa using hs j hj hj
    simp [idxV, this]) 0 ⟨rfl, fun j hj h => by omega⟩ (show l.length < 1000000000000 by omega)
  rw [h1]
  exact h2
theorem index_eq (l : List ByteArray) (p : ByteArray) (hl : l.length ≤ 4000000) : spec_l4Index l p = some (idxV l p) := by
  rw [← idx_loop (body := spec_l4Index_L1 l p) l p hl (fun i hi => by
    show spec_l4Index_L1_b l p _ = _
    unfold spec_l4Index_L1_b
    simp only [Int.ofNat_lt, hi, decide_true, cond_true, gi_nat hi, Option.bind_some, bytes_eq_decide]
    rw [w64_id (by omega) (by omega)]
    by_cases h : l[i] = p <;> simp [h]) (by
    show spec_l4Index_L1_b l p _ = _
    simp [spec_l4Index_L1_b])]
  unfold spec_l4Index
  congr 1
/-- one trip of a way -/
def wayF (n : Network) (t : Trip) (x : ByteArray × Int) : (ByteArray × Int) ⊕ Bool :=
  bif tripB n t then (bif !((legA n t.Leg).From.toList == x.1.toList) then .inr false else bif decide (stT n t < x.2) then .inr false else .inl ((legA n t.Leg).To, w64 (enT n t + n.Change))) else .inr false
end Go.Sx
end
section
/- Helpers and networks: what the functions of the program compute, as plain laws. -/
namespace Go.Sx
set_option linter.unusedVariables false

/-- the load of a trip, as it is counted -/
def ldE (l : List Booking) (t : Trip) : Int ⊕ Int := each (X := Int) (R := Int) (fun _ b x => .inl (bif decide (b.Trip = t) then w64 (x + b.Weight) else x)) 0 l 0
def ldW (l : List Booking) (t : Trip) : Int := match ldE l t with | .inl x => x | .inr x => x
def whoV (l : List Booking) (t : Trip) : List Int := (l.filter fun b => decide (b.Trip = t)).map (·.Thing)
theorem fil_le {α β : Type} (l : List α) (p : α → Bool) (f : α → β) : ((l.filter p).map f).length ≤ l.length := by simpa using List.length_filter_le p l
def tofV (l : List Booking) (th : Int) : List Trip := (l.filter fun b => b.Thing == th).map (·.Trip)
/-- the order of bookings -/
def befB (a b : Booking) : Bool := if a.Trip.Day ≠ b.Trip.Day then decide (a.Trip.Day < b.Trip.Day) else if a.Trip.Leg ≠ b.Trip.Leg then decide (a.Trip.Leg < b.Trip.Leg) else decide (a.Thing < b.Thing)
def cmpI (a b : Int) : Int := if a < b then -1 else if a > b then 1 else 0
def fst0 : List Int → Int
  | [] => 0
  | a :: l => if a ≠ 0 then a else fst0 l
def cmpB (a b : Booking) : Int := fst0 [cmpI a.Trip.Day b.Trip.Day, cmpI a.Trip.Leg b.Trip.Leg, cmpI a.Thing b.Thing]
theorem cmpB_neg (a b : Booking) : (cmpB a b < 0) = (befB a b = true) := by
  unfold cmpB befB cmpI
  simp only [fst0]
  rw [eq_iff_iff]
  repeat' split
  all_goals simp at *
  all_goals omega
/-- right, but for the load -/
def basB (n : Network) (l : List Booking) (i : Nat) (b : Booking) : Bool := runB n b.Trip.Leg b.Trip.Day && inB b.Thing 1 9999 && inB b.Weight 1 1000000 && (decide (i = 0) || befB (l[i - 1]?.getD default) b)
def lodB (n : Network) (l : List Booking) (b : Booking) : Bool := decide (ldW l b.Trip ≤ (legA n b.Trip.Leg).Room)
def bokB (n : Network) (l : List Booking) : Bool := netB n && decide (l.length ≤ 120) && allI (basB n l) 0 l && l.all (lodB n l)
theorem bok_trip {n : Network} {l : List Booking} (h : bokB n l = true) {b : Booking} (hb : b ∈ l) : tripB n b.Trip = true := by
  simp only [bokB, Bool.and_eq_true] at h
  obtain ⟨j, hj, rfl⟩ := List.getElem_of_mem hb
  have := allI_iff.1 h.1.2 j hj
  simp only [basB, Bool.and_eq_true] at this
  simp [tripB, h.1.1.1, this.1.1.1]
def spaV (n : Network) (l : List Booking) (t : Trip) : Int := if bokB n l && tripB n t then w64 ((legA n t.Leg).Room - ldW l t) else -1
def filV (n : Network) (l : List Booking) (t : Trip) : Int := if bokB n l && tripB n t then (if (legA n t.Leg).Room = 0 then 0 else w64 (Int.tdiv (w64 (100 * ldW l t)) (legA n t.Leg).Room)) else -1
def rdF (n : Network) (th at0 : Int) (b : Booking) : Bool := (b.Thing == th) && decide (stT n b.Trip ≤ at0) && decide (at0 < enT n b.Trip)
def ridV (n : Network) (l : List Booking) (th at0 : Int) : Trip × Bool := if bokB n l then (match l.find? (rdF n th at0) with | some b => (b.Trip, true) | none => (⟨0, 0⟩, false)) else (⟨0, 0⟩, false)
theorem each_find {α R : Type} (p : α → Bool) (r : α → R) (l : List α) (i : Nat) : each (X := Unit) (fun _ a _ => bif p a then .inr (r a) else .inl ()) i l () = match l.find? p with | some a => .inr (r a) | none => .inl () := by
  induction l generalizing i with
  | nil => rfl
  | cons a l ih =>
    rw [each]
    cases h : p a with
    | true => simp [h]
    | false => simpa [h] using ih (i + 1)
/-- is there room on this day? -/
def freB (n : Network) (l : List Booking) (c : List Trip) (leg at0 w : Int) (d : Nat) : Bool :=
  runB n leg d && decide (stT n ⟨leg, d⟩ ≥ at0) && !(c.any fun x => decide (x = ⟨leg, d⟩)) && decide (w64 ((legA n leg).Room - ldW l ⟨leg, d⟩) ≥ w)
theorem range61 {i : Nat} (h : i < (List.range 61).length) : (List.range 61)[i] = i := by simp
def nfrV (n : Network) (l : List Booking) (c : List Trip) (leg at0 w : Int) : Trip × Bool :=
  if bokB n l = true ∧ ¬ w < 1 then (match (List.range 61).find? (freB n l c leg at0 w) with | some d => (⟨leg, d⟩, true) | none => (⟨0, 0⟩, false)) else (⟨0, 0⟩, false)
theorem bok_net {n : Network} {l : List Booking} (h : bokB n l = true) : netB n = true := by
  simp only [bokB, Bool.and_eq_true] at h
  exact h.1.1.1
/-- does a booking stay? -/
def kepB (n : Network) (th at0 : Int) (b : Booking) : Bool := b.Thing != th || decide (stT n b.Trip < at0)
def drpV (n : Network) (l : List Booking) (th at0 : Int) : List Booking := if bokB n l = true then l.filter (kepB n th at0) else l
theorem drp_len (n : Network) (l : List Booking) (th at0 : Int) : (drpV n l th at0).length ≤ l.length := by
  unfold drpV
  split
  · exact List.length_filter_le _ _
  · exact Nat.le_refl _
/-- a loop that turns a row, whatever it writes -/
theorem mark_any {α ρ : Type} {body : List α × Int × Int → Option (Ctl (List α × Int × Int) (List α × Int) ρ)} (a0 : List α) (k0 c : Int) (hl : a0.length ≤ 1048576)
    (h : ∀ i (l : List α), i < a0.length → l.length = a0.length → ∃ l2 : List α, l2.length = a0.length ∧ body (l, k0 + c * i, (i : Int)) = some (.next (l2, k0 + c * (i + 1 : Nat), ((i + 1 : Nat) : Int))))
    (he : ∀ l : List α, l.length = a0.length → body (l, k0 + c * a0.length, (a0.length : Int)) = some (.brk (l, k0 + c * a0.length))) :
    ∃ l', loopM body big (a0, k0, 0) = some (.inl (l', k0 + c * a0.length)) := by
  refine (loopM_up (body := body) a0.length (fun i s => s.2.1 = k0 + c * i ∧ s.2.2 = (i : Int) ∧ s.1.length = a0.length) (fun x => ∃ l', x = .inl (l', k0 + c * a0.length)) (fun i s hi hs => ?_) (fun s hs => ?_) (a0, k0, 0) ⟨by simp, rfl, rfl⟩ (big_pos hl)).elim fun x hx => ?_
  · obtain ⟨l, k, j⟩ := s
    obtain ⟨h1, h2, h3⟩ := hs
    simp only at h1 h2 h3
    subst h1 h2
    obtain ⟨l2, h4, h5⟩ := h i l hi h3
    exact .inl ⟨_, h5, rfl, rfl, h4⟩
  · obtain ⟨l, k, j⟩ := s
    obtain ⟨h1, h2, h3⟩ := hs
    simp only at h1 h2 h3
    subst h1 h2
    exact .inl ⟨_, he l h3, l, rfl⟩
  · obtain ⟨h1, l', rfl⟩ := hx
    exact ⟨l', h1⟩
end Go.Sx
end
