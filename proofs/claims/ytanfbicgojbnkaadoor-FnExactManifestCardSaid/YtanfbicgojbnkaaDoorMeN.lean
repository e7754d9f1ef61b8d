/- Numerals: what is written is read again, by the program and by the reference alike. -/
import Derived.Test.YtanfbicgojbnkaaDoorMeF
namespace Go.Sx
set_option linter.unusedVariables false

abbrev dd (u : Nat) : List UInt8 := Lib.decDigits u
def bs (l : List UInt8) : ByteArray := ⟨l.toArray⟩
theorem bs_list (l : List UInt8) : (bs l).data.toList = l := by simp [bs]
theorem bs_size (l : List UInt8) : (bs l).size = l.length := by simp [bs, ByteArray.size]
theorem bs_of (s : ByteArray) : bs s.data.toList = s := by
  obtain ⟨⟨l⟩⟩ := s
  rfl
theorem size_list (s : ByteArray) : s.data.toList.length = s.size := by rw [Array.length_toList]; rfl
theorem cat_bs (a b : List UInt8) (h : a.length + b.length ≤ 9223372036854775807) : catM (bs a) (bs b) = some (bs (a ++ b)) := by
  unfold catM
  rw [bs_size, bs_size, if_pos (by omega)]
  congr 1
theorem dd_small {u : Nat} (h : u < 10) : dd u = [UInt8.ofNat (48 + u)] := by unfold dd; rw [Lib.decDigits, dif_pos h]
theorem dd_big {u : Nat} (h : ¬ u < 10) : dd u = dd (u / 10) ++ [UInt8.ofNat (48 + u % 10)] := by unfold dd; rw [Lib.decDigits, dif_neg h]
theorem digit_nat {d : Nat} (h : d < 10) : (UInt8.ofNat (48 + d)).toNat = 48 + d := by simp; omega
theorem dd_digits : ∀ (u : Nat), ∀ c ∈ dd u, 48 ≤ c.toNat ∧ c.toNat ≤ 57 := by
  intro u
  induction u using Nat.strongRecOn with
  | ind u ih =>
    intro c hc
    by_cases h : u < 10
    · rw [dd_small h] at hc
      simp only [List.mem_singleton] at hc
      subst hc
      rw [digit_nat h]; omega
    · rw [dd_big h, List.mem_append] at hc
      rcases hc with hc | hc
      · exact ih (u / 10) (by omega) c hc
      · simp only [List.mem_singleton] at hc
        subst hc
        rw [digit_nat (by omega)]; omega
theorem dd_ne (u : Nat) : dd u ≠ [] := by
  by_cases h : u < 10
  · rw [dd_small h]; simp
  · rw [dd_big h]; simp
theorem dd_head : ∀ (u : Nat), 0 < u → ∃ c r, dd u = c :: r ∧ 49 ≤ c.toNat ∧ c.toNat ≤ 57 := by
  intro u
  induction u using Nat.strongRecOn with
  | ind u ih =>
    intro h0
    by_cases h : u < 10
    · exact ⟨_, [], dd_small h, by rw [digit_nat h]; omega, by rw [digit_nat h]; omega⟩
    · obtain ⟨c, r, e, h1, h2⟩ := ih (u / 10) (by omega) (by omega)
      exact ⟨c, r ++ [UInt8.ofNat (48 + u % 10)], by rw [dd_big h, e]; rfl, h1, h2⟩
theorem dd_len : ∀ (k u : Nat), u < 10 ^ (k + 1) → (dd u).length ≤ k + 1
  | 0, u, h => by rw [dd_small (by simpa using h)]; simp
  | k + 1, u, h => by
    by_cases h10 : u < 10
    · rw [dd_small h10]; simp
    · rw [dd_big h10]
      have := dd_len k (u / 10) (by rw [Nat.pow_succ] at h; omega)
      simp; omega
/-- what digits spell, behind what was spelt before -/
def val (a : Nat) (l : List UInt8) : Nat := l.foldl (fun x c => x * 10 + (c.toNat - 48)) a
theorem val_nil (a : Nat) : val a [] = a := rfl
theorem val_cons (a : Nat) (c : UInt8) (r : List UInt8) : val a (c :: r) = val (a * 10 + (c.toNat - 48)) r := by unfold val; rw [List.foldl_cons]
theorem val_app (a : Nat) (l m : List UInt8) : val a (l ++ m) = val (val a l) m := List.foldl_append
theorem val_ge : ∀ (l : List UInt8) (a : Nat), a ≤ val a l
  | [], a => Nat.le_refl _
  | c :: l, a => Nat.le_trans (by omega) (val_ge l (a * 10 + (c.toNat - 48)))
theorem val_dd : ∀ (u : Nat), val 0 (dd u) = u := by
  intro u
  induction u using Nat.strongRecOn with
  | ind u ih =>
    by_cases h : u < 10
    · rw [dd_small h, val_cons, val_nil, digit_nat h]; omega
    · rw [dd_big h, val_app, ih (u / 10) (by omega)]
      rw [val_cons, val_nil, digit_nat (by omega)]; omega
theorem dd_inj {u v : Nat} (h : dd u = dd v) : u = v := by rw [← val_dd u, h, val_dd v]
theorem tmod_nat (x : Nat) : Int.tmod (x : Int) 10 = ((x % 10 : Nat) : Int) := by
  rw [Int.tmod_eq_emod_of_nonneg (by omega)]; omega
theorem tdiv_nat (x : Nat) : Int.tdiv (x : Int) 10 = ((x / 10 : Nat) : Int) := by
  rw [Int.tdiv_eq_ediv_of_nonneg (by omega)]; omega
theorem u8_id {n : Nat} (h : n < 256) : IntKind.u8.wrap (n : Int) = n := by
  simp [IntKind.wrap, IntKind.bits, IntKind.signed]; omega
theorem digit_str (x : Nat) : strOfNums ([IntKind.u8.wrap (w64 (48 + ((x % 10 : Nat) : Int)))] : List Int) = bs [UInt8.ofNat (48 + x % 10)] := by
  have e1 : w64 (48 + ((x % 10 : Nat) : Int)) = ((48 + x % 10 : Nat) : Int) := by rw [w64_id (by omega) (by omega)]; omega
  rw [e1, u8_id (by omega)]
  show (⟨#[UInt8.ofNat (Int.toNat (((48 + x % 10 : Nat) : Int)))]⟩ : ByteArray) = _
  rw [Int.toNat_natCast]
  rfl
theorem fmt_eq (v : Nat) (hv : v ≤ 100000000000) : spec_FormatInt (v : Int) = some (bs (dd v)) := by
  unfold spec_FormatInt
  by_cases h0 : v = 0
  · subst h0
    rw [dd_small (by omega)]
    rfl
  have c0 : (((v : Int)) == 0) = false := by rw [beqI]; simp; omega
  rw [c0]
  simp only [cond_false]
  have hlen : (dd v).length ≤ 13 := dd_len 12 v (Nat.lt_of_le_of_lt hv (by decide))
  obtain ⟨x, hx, hq⟩ := loopM_tot (body := spec_FormatInt_L1) (fun s => ∃ (x : Nat) (t : List UInt8), s = (bs t, (x : Int)) ∧ x ≤ 100000000000 ∧ (if x = 0 then [] else dd x) ++ t = dd v) (fun s => s.2.toNat) (fun x => x = .inl (bs (dd v))) (fun s hs => by
    obtain ⟨x, t, rfl, hxb, ht⟩ := hs
    by_cases hx0 : x = 0
    · subst hx0
      refine .inr (.inl ⟨bs t, by simp [spec_FormatInt_L1, spec_FormatInt_L1_b], ?_⟩)
      simp at ht
      rw [ht]
    · left
      rw [if_neg hx0] at ht
      have htl : t.length ≤ 13 := by have := congrArg List.length ht; simp at this; omega
      refine ⟨(bs (UInt8.ofNat (48 + x % 10) :: t), ((x / 10 : Nat) : Int)), ?_, ⟨x / 10, _, rfl, by omega, ?_⟩, by simp only [Int.toNat_natCast]; omega⟩
      · have c1 : decide (((x % 10 : Nat) : Int) < 0) = false := by simp; omega
        have c2 : ((x : Int) != 0) = true := by rw [bneI]; simp; omega
        simp only [spec_FormatInt_L1, spec_FormatInt_L1_b, c2, cond_true, tmod_nat, c1, cond_false, tdiv_nat, digit_str]
        rw [cat_bs _ _ (by simp; omega)]
        simp only [Option.bind_some]
        rw [w64_id (by omega) (by omega)]
        rfl
      · rw [← ht]
        by_cases h10 : x < 10
        · have e0 : x / 10 = 0 := by omega
          have e1 : x % 10 = x := by omega
          rw [e0, e1, dd_small h10]; rfl
        · rw [if_neg (by omega), dd_big h10]; simp) big ((ByteArray.mk #[]), (v : Int)) ⟨v, [], rfl, hv, by rw [if_neg h0]; simp⟩ (by show (v : Int).toNat < big; rw [Int.toNat_natCast]; unfold big; omega)
  rw [hx, hq]
  have c3 : decide ((v : Int) < 0) = false := by simp
  simp only [Option.bind_some, spec_FormatInt_L1_k, spec_FormatInt_L1_a, c3, cond_false]
theorem itoa_eq (v : Nat) (hv : v ≤ 1000000000000) : impl_FormatInt (v : Int) = some (bs (dd v)) := by
  unfold impl_FormatInt strconv_Itoa
  rw [if_pos (by omega), Lib.itoa_nonneg]
  rfl

/-- a text's byte, as a number -/
def bt (s : ByteArray) (i : Nat) : Nat := (s.data.toList.getD i 0).toNat
theorem bt_lt (s : ByteArray) (i : Nat) : bt s i < 256 := by
  unfold bt
  have := (s.data.toList.getD i 0).toNat_lt
  omega
theorem siM_nat {s : ByteArray} {i : Nat} (h : i < s.size) : siM s (i : Int) = some ((bt s i : Nat) : Int) := by
  unfold siM
  rw [if_pos (by omega), Int.toNat_natCast, getElem?_pos s i h]
  have h' : i < s.data.toList.length := by rw [size_list]; exact h
  have : bt s i = s[i].toNat := by
    unfold bt
    rw [List.getD_eq_getElem?_getD, List.getElem?_eq_getElem h']
    simp; rfl
  rw [this]; rfl
theorem bt_get {s : ByteArray} {i : Nat} (h : i < s.size) : s.data.toList[i]? = some (UInt8.ofNat (bt s i)) := by
  have h' : i < s.data.toList.length := by rw [size_list]; exact h
  unfold bt
  rw [List.getD_eq_getElem?_getD, List.getElem?_eq_getElem h']
  simp

end Go.Sx
