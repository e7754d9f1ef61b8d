/- Reading: the program's reader, which calls itself, and the reference's one, which keeps a stack, read alike. -/
import Derived.Test.YtanfbicgojbnkaaDoorMfN
namespace Go.Sx
set_option linter.unusedVariables false

def runF (s : ByteArray) : Nat → Nat → Nat
  | 0, n => n
  | f + 1, n => if 48 ≤ bt s n ∧ bt s n ≤ 57 then runF s f (n + 1) else n
/-- where the digits from n on end -/
def run (s : ByteArray) (n : Nat) : Nat := runF s (s.size - n) n
theorem run_go {s : ByteArray} {n : Nat} (hn : n < s.size) (h : 48 ≤ bt s n ∧ bt s n ≤ 57) : run s n = run s (n + 1) := by
  unfold run
  rw [show s.size - n = (s.size - (n + 1)) + 1 by omega, runF, if_pos h]
theorem run_stop {s : ByteArray} {n : Nat} (h : ¬ (n < s.size ∧ 48 ≤ bt s n ∧ bt s n ≤ 57)) : run s n = n := by
  unfold run
  cases hf : s.size - n with
  | zero => rfl
  | succ f => rw [runF, if_neg (fun hd => h ⟨by omega, hd⟩)]
theorem run_ind {s : ByteArray} {P : Nat → Prop} (stop : ∀ n, ¬ (n < s.size ∧ 48 ≤ bt s n ∧ bt s n ≤ 57) → P n) (go : ∀ n, n < s.size → (48 ≤ bt s n ∧ bt s n ≤ 57) → P (n + 1) → P n) : ∀ n, P n := by
  intro n
  generalize hm : s.size - n = m
  induction m using Nat.strongRecOn generalizing n with
  | ind m ih =>
    by_cases h : n < s.size ∧ 48 ≤ bt s n ∧ bt s n ≤ 57
    · exact go n h.1 h.2 (ih (s.size - (n + 1)) (by omega) (n + 1) rfl)
    · exact stop n h
theorem run_ge (s : ByteArray) : ∀ n, n ≤ run s n := run_ind (fun n h => by rw [run_stop h]; exact Nat.le_refl _) (fun n h1 h2 ih => by rw [run_go h1 h2]; omega)
theorem run_le (s : ByteArray) : ∀ n, n ≤ s.size → run s n ≤ s.size := run_ind (fun n h hn => by rw [run_stop h]; exact hn) (fun n h1 h2 ih _ => by rw [run_go h1 h2]; exact ih (by omega))

theorem impl_digits (a0 : manifestReader) (n : Nat) (hn : n ≤ a0.s.size) (hs : a0.s.size ≤ 1048576) : loopM (impl_manifestReader_one_L1 a0) big (n : Int) = some (.inl ((run a0.s n : Nat) : Int)) := by
  obtain ⟨x, hx, hq⟩ := loopM_tot (body := impl_manifestReader_one_L1 a0) (fun z => ∃ m : Nat, z = (m : Int) ∧ m ≤ a0.s.size ∧ run a0.s m = run a0.s n) (fun z => a0.s.size - z.toNat) (fun x => x = .inl ((run a0.s n : Nat) : Int)) (fun z hz => by
    obtain ⟨m, rfl, hm, hr⟩ := hz
    by_cases h1 : m < a0.s.size
    · have c1 : decide ((m : Int) < (a0.s.size : Int)) = true := by simp; omega
      by_cases h2 : 48 ≤ bt a0.s m
      · have c2 : decide (((bt a0.s m : Nat) : Int) ≥ 48) = true := by simp; omega
        by_cases h3 : bt a0.s m ≤ 57
        · have c3 : decide (((bt a0.s m : Nat) : Int) ≤ 57) = true := by simp; omega
          exact .inl ⟨((m + 1 : Nat) : Int), by simp only [impl_manifestReader_one_L1, impl_manifestReader_one_L1_b, c1, c2, c3, cond_true, siM_nat h1, Option.bind_some, w64_succ (show m ≤ 1048576 by omega)], ⟨m + 1, rfl, by omega, by rw [← run_go h1 ⟨h2, h3⟩]; exact hr⟩, by simp only [Int.toNat_natCast]; omega⟩
        · have c3 : decide (((bt a0.s m : Nat) : Int) ≤ 57) = false := by simp; omega
          exact .inr (.inl ⟨(m : Int), by simp only [impl_manifestReader_one_L1, impl_manifestReader_one_L1_b, c1, c2, c3, cond_true, cond_false, siM_nat h1, Option.bind_some], by rw [← hr, run_stop (fun h => h3 h.2.2)]⟩)
      · have c2 : decide (((bt a0.s m : Nat) : Int) ≥ 48) = false := by simp; omega
        exact .inr (.inl ⟨(m : Int), by simp only [impl_manifestReader_one_L1, impl_manifestReader_one_L1_b, c1, c2, cond_true, cond_false, siM_nat h1, Option.bind_some], by rw [← hr, run_stop (fun h => h2 h.2.1)]⟩)
    · have c1 : decide ((m : Int) < (a0.s.size : Int)) = false := by simp; omega
      exact .inr (.inl ⟨(m : Int), by simp only [impl_manifestReader_one_L1, impl_manifestReader_one_L1_b, c1, cond_false], by rw [← hr, run_stop (fun h => h1 h.1)]⟩)) big (n : Int) ⟨n, rfl, hn, rfl⟩ (by simp only [Int.toNat_natCast]; unfold big; omega)
  rw [hx, hq]
theorem spec_digits (s : ByteArray) (n : Nat) (hn : n ≤ s.size) (hs : s.size ≤ 1048576) : loopM (spec_ReadManifest_L2 s) big (n : Int) = some (.inl ((run s n : Nat) : Int)) := by
  obtain ⟨x, hx, hq⟩ := loopM_tot (body := spec_ReadManifest_L2 s) (fun z => ∃ m : Nat, z = (m : Int) ∧ m ≤ s.size ∧ run s m = run s n) (fun z => s.size - z.toNat) (fun x => x = .inl ((run s n : Nat) : Int)) (fun z hz => by
    obtain ⟨m, rfl, hm, hr⟩ := hz
    by_cases h1 : m < s.size
    · have c1 : decide ((m : Int) < (s.size : Int)) = true := by simp; omega
      have hlt := bt_lt s m
      have w1 : w64 ((bt s m : Nat) : Int) = ((bt s m : Nat) : Int) := w64_id (by omega) (by omega)
      by_cases h2 : 48 ≤ bt s m ∧ bt s m ≤ 57
      · have c2 : inB ((bt s m : Nat) : Int) 48 57 = true := by simp [inB]; omega
        exact .inl ⟨((m + 1 : Nat) : Int), by simp only [spec_ReadManifest_L2, spec_ReadManifest_L2_b, c1, c2, cond_true, siM_nat h1, Option.bind_some, w1, l1In_eq, w64_succ (show m ≤ 1048576 by omega)], ⟨m + 1, rfl, by omega, by rw [← run_go h1 h2]; exact hr⟩, by simp only [Int.toNat_natCast]; omega⟩
      · have c2 : inB ((bt s m : Nat) : Int) 48 57 = false := by simp [inB]; omega
        exact .inr (.inl ⟨(m : Int), by simp only [spec_ReadManifest_L2, spec_ReadManifest_L2_b, c1, c2, cond_true, cond_false, siM_nat h1, Option.bind_some, w1, l1In_eq], by rw [← hr, run_stop (fun h => h2 h.2)]⟩)
    · have c1 : decide ((m : Int) < (s.size : Int)) = false := by simp; omega
      exact .inr (.inl ⟨(m : Int), by simp only [spec_ReadManifest_L2, spec_ReadManifest_L2_b, c1, cond_false], by rw [← hr, run_stop (fun h => h1 h.1)]⟩)) big (n : Int) ⟨n, rfl, hn, rfl⟩ (by simp only [Int.toNat_natCast]; unfold big; omega)
  rw [hx, hq]

/-- the reference's loop comes from a state to its end -/
def End (s : ByteArray) (st : List Pair × List Int × Bool × Int) (x : (List Pair × List Int) ⊕ (List Pair × Bool)) : Prop := ∃ n, n + st.2.2.2.toNat ≤ s.size + 1 ∧ loopM (spec_ReadManifest_L1 s) n st = some x
theorem End.step {s : ByteArray} {st st' : List Pair × List Int × Bool × Int} {x : (List Pair × List Int) ⊕ (List Pair × Bool)} (h : spec_ReadManifest_L1 s st = some (.next st')) (hi : st.2.2.2.toNat < st'.2.2.2.toNat) (e : End s st' x) : End s st x := by
  obtain ⟨n, h1, h2⟩ := e
  exact ⟨n + 1, by omega, by rw [loopM, h]; exact h2⟩
theorem End.brk {s : ByteArray} {st : List Pair × List Int × Bool × Int} {t : List Pair × List Int} (hi : st.2.2.2.toNat ≤ s.size) (h : spec_ReadManifest_L1 s st = some (.brk t)) : End s st (.inl t) := ⟨1, by omega, by rw [loopM, h]⟩
theorem End.ret {s : ByteArray} {st : List Pair × List Int × Bool × Int} {t : List Pair × Bool} (hi : st.2.2.2.toNat ≤ s.size) (h : spec_ReadManifest_L1 s st = some (.ret t)) : End s st (.inr t) := ⟨1, by omega, by rw [loopM, h]⟩
def Bad (x : (List Pair × List Int) ⊕ (List Pair × Bool)) : Prop := spec_ReadManifest_L1_k x = some ([], false)
theorem bad_ret : Bad (.inr ([], false)) := rfl
theorem bad_open {o : List Pair} {bx : List Int} (h : bx ≠ []) : Bad (.inl (o, bx)) := by
  unfold Bad
  have : decide ((bx.length : Int) > 0) = true := by
    have := List.length_pos_iff.2 h
    simp; omega
  simp only [spec_ReadManifest_L1_k, spec_ReadManifest_L1_a, this, cond_true]
theorem bad_none : Bad (.inl ([], [])) := rfl

theorem sb_end (s : ByteArray) (o : List Pair) (bx : List Int) (fr : Bool) : spec_ReadManifest_L1 s (o, bx, fr, (s.size : Int)) = some (.brk (o, bx)) := by
  simp [spec_ReadManifest_L1, spec_ReadManifest_L1_b]
theorem sl_last (bx : List Int) (q : Int) (hl : bx.length ≤ 1000000) : slM (bx ++ [q]) 0 (w64 (((bx ++ [q]).length : Int) - 1)) = some bx := by
  have e : w64 (((bx ++ [q]).length : Int) - 1) = (bx.length : Int) := by
    rw [w64_id (by simp <;> omega) (by simp <;> omega)]; simp
  rw [e]
  unfold slM
  rw [if_pos ⟨by omega, by omega, by simp; omega⟩]
  simp
theorem gi_bx (bx : List Int) (q : Int) (hl : bx.length ≤ 1000000) : gi (bx ++ [q]) (w64 (((bx ++ [q]).length : Int) - 1)) = some q := by
  have e : w64 (((bx ++ [q]).length : Int) - 1) = (bx.length : Int) := by
    rw [w64_id (by simp <;> omega) (by simp <;> omega)]; simp
  rw [e]
  unfold gi
  simp
theorem sb_close {s : ByteArray} {i : Nat} (hi : i < s.size) (hs : s.size ≤ 1048576) (hb : bt s i = 93) {o : List Pair} {bx : List Int} {q : Int} (hl : bx.length ≤ 1000000) {fr : Bool} (hf : fr = false ∨ (fr = true ∧ 0 < i ∧ bt s (i - 1) = 91)) :
    spec_ReadManifest_L1 s (o, bx ++ [q], fr, (i : Int)) = some (.next (o, bx, false, ((i + 1 : Nat) : Int))) := by
  have c1 : decide ((i : Int) < (s.size : Int)) = true := by simp; omega
  have e1 : siM s (i : Int) = some 93 := by rw [siM_nat hi, hb]; rfl
  have w1 : w64 93 = 93 := w64_id (by omega) (by omega)
  have i1 : inB 93 49 57 = false := by decide
  have b1 : ((93 : Int) == 93) = true := by decide
  have c2 : decide (((bx ++ [q]).length : Int) > 0) = true := by simp <;> omega
  rcases hf with rfl | ⟨rfl, h0, h91⟩
  · simp only [spec_ReadManifest_L1, spec_ReadManifest_L1_b, c1, cond_true, e1, Option.bind_some, w1, l1In_eq, i1, cond_false, b1, c2, Bool.not_false, sl_last bx q hl, w64_succ (show i ≤ 1048576 by omega)]
  · have e2 : siM s (w64 ((i : Int) - 1)) = some 91 := by
      rw [w64_id (by omega) (by omega), show (i : Int) - 1 = ((i - 1 : Nat) : Int) by omega, siM_nat (by omega), h91]; rfl
    have b2 : ((91 : Int) == 91) = true := by decide
    simp only [spec_ReadManifest_L1, spec_ReadManifest_L1_b, c1, cond_true, e1, Option.bind_some, w1, l1In_eq, i1, cond_false, b1, c2, Bool.not_true, e2, b2, sl_last bx q hl, w64_succ (show i ≤ 1048576 by omega)]
theorem sb_space {s : ByteArray} {i : Nat} (hi : i < s.size) (hs : s.size ≤ 1048576) (hb : bt s i = 32) {o : List Pair} {bx : List Int} (hbx : bx ≠ []) :
    spec_ReadManifest_L1 s (o, bx, false, (i : Int)) = some (.next (o, bx, true, ((i + 1 : Nat) : Int))) := by
  have c1 : decide ((i : Int) < (s.size : Int)) = true := by simp; omega
  have e1 : siM s (i : Int) = some 32 := by rw [siM_nat hi, hb]; rfl
  have w1 : w64 32 = 32 := w64_id (by omega) (by omega)
  have i1 : inB 32 49 57 = false := by decide
  have b1 : ((32 : Int) == 93) = false := by decide
  have b2 : ((32 : Int) == 32) = true := by decide
  have c2 : decide ((bx.length : Int) > 0) = true := by
    have := List.length_pos_iff.2 hbx
    simp; omega
  simp only [spec_ReadManifest_L1, spec_ReadManifest_L1_b, c1, cond_true, e1, Option.bind_some, w1, l1In_eq, i1, cond_false, b1, b2, c2, Bool.not_false, w64_succ (show i ≤ 1048576 by omega)]
theorem sb_fail {s : ByteArray} {i : Nat} (hi : i < s.size) (hs : s.size ≤ 1048576) {o : List Pair} {bx : List Int} {fr : Bool} (h0 : bx = [] ∨ 0 < i) (h1 : fr = false ∨ ¬ (49 ≤ bt s i ∧ bt s i ≤ 57))
    (h2 : ¬ (bt s i = 93 ∧ bx ≠ [] ∧ (fr = false ∨ bt s (i - 1) = 91))) (h3 : ¬ (bt s i = 32 ∧ bx ≠ [] ∧ fr = false)) : spec_ReadManifest_L1 s (o, bx, fr, (i : Int)) = some (.ret ([], false)) := by
  have c1 : decide ((i : Int) < (s.size : Int)) = true := by simp; omega
  have e1 := siM_nat hi
  have hlt := bt_lt s i
  have w1 : w64 ((bt s i : Nat) : Int) = ((bt s i : Nat) : Int) := w64_id (by omega) (by omega)
  have b1 : (((bt s i : Nat) : Int) == 93) = decide (bt s i = 93) := by rw [beqI]; simp; omega
  have b2 : (((bt s i : Nat) : Int) == 32) = decide (bt s i = 32) := by rw [beqI]; simp; omega
  have c2 : decide ((bx.length : Int) > 0) = decide (bx ≠ []) := by
    cases bx with
    | nil => simp
    | cons a l => simp <;> omega
  have i1 : inB ((bt s i : Nat) : Int) 49 57 = decide (49 ≤ bt s i ∧ bt s i ≤ 57) := by
    unfold inB; rw [Bool.eq_iff_iff]; simp; omega
  simp only [spec_ReadManifest_L1, spec_ReadManifest_L1_b, c1, cond_true, e1, Option.bind_some, w1, l1In_eq, i1, b1, b2, c2]
  by_cases hbx : bx = []
  · subst hbx
    have d1 : decide (([] : List Int) ≠ []) = false := by simp
    rw [d1]
    rcases h1 with rfl | h1
    · cases decide (49 ≤ bt s i ∧ bt s i ≤ 57) <;> cases decide (bt s i = 93) <;> cases decide (bt s i = 32) <;> rfl
    · rw [decide_eq_false h1]
      cases decide (bt s i = 93) <;> cases decide (bt s i = 32) <;> rfl
  · have d1 : decide (bx ≠ []) = true := by simp [hbx]
    rw [d1]
    have hi0 : 0 < i := h0.resolve_left hbx
    cases fr with
    | false =>
      have n93 : bt s i ≠ 93 := fun h => h2 ⟨h, hbx, .inl rfl⟩
      have n32 : bt s i ≠ 32 := fun h => h3 ⟨h, hbx, rfl⟩
      rw [decide_eq_false n93, decide_eq_false n32]
      cases decide (49 ≤ bt s i ∧ bt s i ≤ 57) <;> rfl
    | true =>
      have hd : ¬ (49 ≤ bt s i ∧ bt s i ≤ 57) := h1.resolve_left (by simp)
      rw [decide_eq_false hd]
      by_cases n93 : bt s i = 93
      · have n91 : bt s (i - 1) ≠ 91 := fun h => h2 ⟨n93, hbx, .inr h⟩
        have n32 : bt s i ≠ 32 := by omega
        have e2 : siM s (w64 ((i : Int) - 1)) = some ((bt s (i - 1) : Nat) : Int) := by
          rw [w64_id (by omega) (by omega), show (i : Int) - 1 = ((i - 1 : Nat) : Int) by omega, siM_nat (by omega)]
        have b3 : (((bt s (i - 1) : Nat) : Int) == 91) = false := by rw [beqI]; simp; omega
        rw [decide_eq_true n93, decide_eq_false n32]
        simp only [cond_true, cond_false, Bool.not_true, e2, Option.bind_some, b3]
      · rw [decide_eq_false n93]
        cases decide (bt s i = 32) <;> rfl

/-- the text between two places -/
abbrev ext (s : ByteArray) (i k : Nat) : ByteArray := ByteArray.extract s i k
theorem ext_list (s : ByteArray) (i k : Nat) : (ext s i k).data.toList = (s.data.toList.drop i).take (k - i) := by
  rw [← ByteArray.toList_eq]; exact Lib.extract_toList s i k
theorem ext_size (s : ByteArray) (i k : Nat) (h : k ≤ s.size) : (ext s i k).size ≤ s.size := by
  rw [← size_list, ext_list, ← size_list s]
  simp; omega
theorem ext_head {s : ByteArray} {i k : Nat} (hi : i < s.size) (hk : i < k) : ∃ r, (ext s i k).data.toList = UInt8.ofNat (bt s i) :: r := by
  rw [ext_list]
  have h := bt_get hi
  have h' : i < s.data.toList.length := by rw [size_list]; exact hi
  rw [List.drop_eq_getElem_cons h', show k - i = (k - i - 1) + 1 by omega, List.take_succ_cons]
  rw [List.getElem?_eq_getElem h'] at h
  exact ⟨_, by rw [Option.some.inj h]⟩
theorem ofNat_bt (s : ByteArray) (i : Nat) : (UInt8.ofNat (bt s i)).toNat = bt s i := by have := bt_lt s i; simp; omega

theorem sb_num {s : ByteArray} {i : Nat} (hi : i < s.size) (hs : s.size ≤ 1048576) (hd : 49 ≤ bt s i ∧ bt s i ≤ 57) {o : List Pair} {bx : List Int} :
    spec_ReadManifest_L1 s (o, bx, true, (i : Int)) = spec_ReadManifest_L2_a s o bx (i : Int) ((run s i : Nat) : Int) := by
  have c1 : decide ((i : Int) < (s.size : Int)) = true := by simp; omega
  have hlt := bt_lt s i
  have w1 : w64 ((bt s i : Nat) : Int) = ((bt s i : Nat) : Int) := w64_id (by omega) (by omega)
  have i1 : inB ((bt s i : Nat) : Int) 49 57 = true := by unfold inB; simp; omega
  simp only [spec_ReadManifest_L1, spec_ReadManifest_L1_b, c1, cond_true, siM_nat hi, Option.bind_some, w1, l1In_eq, i1, spec_digits s i (by omega) hs, spec_ReadManifest_L2_k]
theorem stM_nat {s : ByteArray} {i k : Nat} (h1 : i ≤ k) (h2 : k ≤ s.size) : stM s (i : Int) (k : Int) = some () := by
  unfold stM
  rw [if_pos ⟨by omega, by omega, by omega⟩]
theorem sb_num_bad {s : ByteArray} {i : Nat} (hi : i < s.size) (hs : s.size ≤ 1048576) (hd : 49 ≤ bt s i ∧ bt s i ≤ 57) {o : List Pair} {bx : List Int} (h : (pI (ext s i (run s i))).2 = false ∨ (pI (ext s i (run s i))).1 > 9999 ∨ o.length ≥ 40) :
    spec_ReadManifest_L1 s (o, bx, true, (i : Int)) = some (.ret ([], false)) := by
  have hk := run_le s i (by omega)
  rw [sb_num hi hs hd]
  simp only [spec_ReadManifest_L2_a, stM_nat (run_ge s i) hk, Option.bind_some, Int.toNat_natCast, specParse_eq (ext s i (run s i)) (Nat.le_trans (ext_size s i _ hk) hs)]
  cases h2 : (pI (ext s i (run s i))).2 with
  | false => rfl
  | true =>
    rw [h2] at h
    simp only [Bool.not_true, cond_false]
    by_cases h3 : (pI (ext s i (run s i))).1 > 9999
    · rw [decide_eq_true h3]; rfl
    · rw [decide_eq_false h3]
      have h4 : o.length ≥ 40 := (h.resolve_left (by simp)).resolve_left h3
      rw [decide_eq_true (show (o.length : Int) ≥ 40 by omega)]; rfl
theorem sb_num_ok {s : ByteArray} {i : Nat} (hi : i < s.size) (hs : s.size ≤ 1048576) (hd : 49 ≤ bt s i ∧ bt s i ≤ 57) {o : List Pair} {bx : List Int} {u : Nat} (hp : pI (ext s i (run s i)) = ((u : Int), true)) (hu : u ≤ 9999) (ho : o.length < 40) (hbl : bx.length ≤ 1000) (hbo : bx = [] → o = []) :
    spec_ReadManifest_L1 s (o, bx, true, (i : Int)) = some (.next (if run s i < s.size ∧ bt s (run s i) = 91 then (o ++ [⟨(u : Int), bx.getLast?.getD 0⟩], bx ++ [(u : Int)], true, ((run s i + 1 : Nat) : Int)) else (o ++ [⟨(u : Int), bx.getLast?.getD 0⟩], bx, false, ((run s i : Nat) : Int)))) := by
  have hk := run_le s i (by omega)
  have hap : ∀ (p : Pair), ap 16 o [p] = some (o ++ [p]) := fun p => ap_eq (by simp; omega) (by omega)
  have hap2 : ∀ (p : Int), ap 8 bx [p] = some (bx ++ [p]) := fun p => ap_eq (by simp; omega) (by omega)
  have key : ∀ (v : Int), v = bx.getLast?.getD 0 → spec_ReadManifest_j1 s o bx ((run s i : Nat) : Int) ((u : Int), true) v = some (.next (if run s i < s.size ∧ bt s (run s i) = 91 then (o ++ [⟨(u : Int), bx.getLast?.getD 0⟩], bx ++ [(u : Int)], true, ((run s i + 1 : Nat) : Int)) else (o ++ [⟨(u : Int), bx.getLast?.getD 0⟩], bx, false, ((run s i : Nat) : Int)))) := fun v hv => by
    subst hv
    simp only [spec_ReadManifest_j1, hap, Option.bind_some]
    by_cases h1 : run s i < s.size
    · have c1 : decide (((run s i : Nat) : Int) < (s.size : Int)) = true := by simp; omega
      have hlt := bt_lt s (run s i)
      have b1 : (((bt s (run s i) : Nat) : Int) == 91) = decide (bt s (run s i) = 91) := by rw [beqI]; simp; omega
      simp only [c1, cond_true, siM_nat h1, Option.bind_some, b1]
      by_cases h2 : bt s (run s i) = 91
      · rw [decide_eq_true h2, if_pos ⟨h1, h2⟩]
        simp only [cond_true, hap2, Option.bind_some, w64_succ (show run s i ≤ 1048576 by omega)]
      · rw [decide_eq_false h2, if_neg (fun h => h2 h.2)]
        rfl
    · have c1 : decide (((run s i : Nat) : Int) < (s.size : Int)) = false := by simp; omega
      rw [c1, if_neg (fun h => h1 h.1)]
      rfl
  have key2 : ∀ v, spec_ReadManifest_j2 s o bx ((run s i : Nat) : Int) ((u : Int), true) v = spec_ReadManifest_j1 s o bx ((run s i : Nat) : Int) ((u : Int), true) v := fun _ => rfl
  rw [sb_num hi hs hd]
  simp only [spec_ReadManifest_L2_a, stM_nat (run_ge s i) hk, Option.bind_some, Int.toNat_natCast, specParse_eq (ext s i (run s i)) (Nat.le_trans (ext_size s i _ hk) hs), hp, Bool.not_true, cond_false, key2]
  rw [decide_eq_false (show ¬ ((u : Int) > 9999) by omega), decide_eq_false (show ¬ ((o.length : Int) ≥ 40) by omega)]
  simp only [cond_false]
  rcases List.eq_nil_or_concat bx with rfl | ⟨bx', q, rfl⟩
  · have := hbo rfl
    subst this
    exact key 0 rfl
  · simp only [List.concat_eq_append] at hbl key ⊢
    have c1 : (((bx' ++ [q]).length : Int) == 0) = false := by rw [beqI]; simp; omega
    have c2 : decide (((bx' ++ [q]).length : Int) > 0) = true := by simp <;> omega
    rw [c1, c2]
    simp only [cond_false, cond_true]
    rw [gi_bx bx' q (by simp at hbl; omega)]
    exact key q (by simp)
end Go.Sx
