/- The library's stable sort, over any comparison: the merge, and the whole. -/
import Derived.Test.YtbeialanbblkoaaSxSe
namespace Go.Sx
set_option linter.unusedVariables false
section
variable {α : Type} {less : Int → Int → List α → Option Bool} {lt : α → α → Bool}
theorem Srt.app {A B : List α} (hA : Srt lt A) (hB : Srt lt B) (h : ∀ x ∈ A, ∀ y ∈ B, lt y x = false) : Srt lt (A ++ B) := List.pairwise_append.2 ⟨hA, hB, h⟩
/-- where the two runs are cut -/
theorem so_cut (hO : Swo lt) (hR : Rds less lt) (P A B S : List α) (hA : 1 < A.length) (hB : 1 < B.length) (hl : (P ++ A ++ B ++ S).length ≤ LIM) (hsA : Srt lt A) (hsB : Srt lt B)
    (a m b mid lo hi : Nat) (ha : a = P.length) (hm : m = P.length + A.length) (hb : b = P.length + A.length + B.length) (hmid : mid = (a + b) / 2) (hlh : (mid < m ∧ lo = mid + m - b ∧ hi = mid) ∨ (m ≤ mid ∧ lo = a ∧ hi = m)) :
    ∃ s, a ≤ s ∧ s ≤ m ∧ s ≤ mid ∧ m ≤ mid + m - s ∧ mid + m - s ≤ b ∧ loopM (so_symMerge_L5 less (P ++ A ++ B ++ S) ((a : Nat) : Int) ((m : Nat) : Int) ((b : Nat) : Int)) big (((lo : Nat) : Int), ((hi : Nat) : Int)) = some (.inl ((s : Nat) : Int)) ∧
      (∀ x ∈ A.take (s - a), ∀ y ∈ B.drop (mid - s), lt y x = false) ∧ (∀ y ∈ B.take (mid - s), ∀ x ∈ A.drop (s - a), lt x y = false) := by
  have hlx := hl
  unfold LIM at hlx
  simp only [List.length_append] at hlx
  have gA : ∀ k, k < A.length → (P ++ A ++ B ++ S)[a + k]? = A[k]? := fun k hk => by rw [ha]; exact get_A P A B S hk
  have gB : ∀ k, k < B.length → (P ++ A ++ B ++ S)[m + k]? = B[k]? := fun k hk => by rw [hm]; exact get_B P A B S hk
  let p : Nat → Bool := fun c => match B[mid + m - 1 - c - m]?, A[c - a]? with
    | some u, some v => !lt u v
    | _, _ => false
  have hp : ∀ c, lo ≤ c → c < hi → ∃ u v, B[mid + m - 1 - c - m]? = some u ∧ A[c - a]? = some v ∧ p c = (!lt u v) ∧ less (((mid + m - 1 - c : Nat) : Nat) : Int) ((c : Nat) : Int) (P ++ A ++ B ++ S) = some (!p c) := fun c h1 h2 => by
    have hk : c - a < A.length := by omega
    have hk2 : mid + m - 1 - c - m < B.length := by omega
    obtain ⟨v, hv⟩ : ∃ v, A[c - a]? = some v := ⟨_, List.getElem?_eq_getElem hk⟩
    obtain ⟨u, hu⟩ : ∃ u, B[mid + m - 1 - c - m]? = some u := ⟨_, List.getElem?_eq_getElem hk2⟩
    have hpc : p c = (!lt u v) := by simp only [p, hv, hu]
    have g1 := gA _ hk
    have g2 := gB _ hk2
    rw [show a + (c - a) = c by omega, hv] at g1
    rw [show m + (mid + m - 1 - c - m) = mid + m - 1 - c by omega, hu] at g2
    exact ⟨u, v, hu, hv, hpc, by rw [hpc, Bool.not_not]; exact hR _ _ _ _ _ g2 g1⟩
  have hM : w64 (Int.fdiv (IntKind.u64.wrap (w64 (((a : Nat) : Int) + ((b : Nat) : Int)))) (2 ^ 1)) = ((mid : Nat) : Int) := by rw [hmid]; exact mid64 (by omega)
  have hn : w64 ((w64 (((mid : Nat) : Int) + ((m : Nat) : Int))) - 1) = ((mid + m - 1 : Nat) : Int) := by
    rw [add64 (by omega)]; exact sub64 (y := 1) (by omega) (by omega)
  obtain ⟨s, s1, s2, hrun, s3, s4⟩ := bs_loop (body := so_symMerge_L5 less (P ++ A ++ B ++ S) ((a : Nat) : Int) ((m : Nat) : Int) ((b : Nat) : Int)) p lo hi (by unfold LIM; omega)
    (fun u v h1 h2 h3 => by
      have c : decide ((u : Int) < (v : Int)) = true := by simp; exact h2
      have hm2 := mid64 (x := u) (y := v) (by omega)
      obtain ⟨_, _, _, _, _, hl'⟩ := hp ((u + v) / 2) (by omega) (by omega)
      have hi2 : w64 (((mid + m - 1 : Nat) : Int) - (((u + v) / 2 : Nat) : Int)) = ((mid + m - 1 - (u + v) / 2 : Nat) : Int) := sub64 (by omega) (by omega)
      simp only [so_symMerge_L5, so_symMerge_L5_b, c, cond_true, hm2, hM, hn, hi2, hl', Option.bind_some, Bool.not_not]
      cases p ((u + v) / 2) with
      | true => simp only [cond_true, if_true]; rw [w64_succ (i := (u + v) / 2) (by omega)]
      | false => simp)
    (fun u h1 h2 => by
      have c : decide ((u : Int) < (u : Int)) = false := by simp
      simp only [so_symMerge_L5, so_symMerge_L5_b, c, cond_false])
    (fun h h' h1 h2 h3 ht => by
      obtain ⟨u, v, hu, hv, hpc, _⟩ := hp h h1 (by omega)
      obtain ⟨u', v', hu', hv', hpc', _⟩ := hp h' (by omega) h3
      rw [hpc'] at ht
      rw [hpc]
      have ht : lt u' v' = false := by simpa using ht
      have q1 := hsA.get hO hv hv' (by omega)
      have q2 := hsB.get hO hu' hu (by omega)
      rw [hO.trans v v' u q1 (hO.trans v' u' u ht q2)]; rfl) (by omega)
  refine ⟨s, by omega, by omega, by omega, by omega, by omega, hrun, fun x hx y hy => ?_, fun y hy x hx => ?_⟩
  · obtain ⟨k, hk, hx⟩ := mem_take' hx
    obtain ⟨k', hk', hy⟩ := mem_drop' hy
    have hkl : k < A.length := (List.getElem?_eq_some_iff.1 hx).1
    have hkl' : k' < B.length := (List.getElem?_eq_some_iff.1 hy).1
    obtain ⟨u, v, hu, hv, hpc, _⟩ := hp (s - 1) (by omega) (by omega)
    have hps := s3 (s - 1) (by omega) (by omega)
    rw [hpc] at hps
    have q0 : lt u v = false := by simpa using hps
    have q1 := hsA.get hO hx hv (by omega)
    have q2 := hsB.get hO hu hy (by omega)
    exact hO.trans x v y q1 (hO.trans v u y q0 q2)
  · obtain ⟨k', hk', hy⟩ := mem_take' hy
    obtain ⟨k, hk, hx⟩ := mem_drop' hx
    have hkl : k < A.length := (List.getElem?_eq_some_iff.1 hx).1
    have hkl' : k' < B.length := (List.getElem?_eq_some_iff.1 hy).1
    obtain ⟨u, v, hu, hv, hpc, _⟩ := hp s (by omega) (by omega)
    have hps := s4 s (by omega) (by omega)
    rw [hpc] at hps
    have q0 : lt v u = false := hO.asym u v (by simpa using hps)
    have q1 := hsA.get hO hv hx (by omega)
    have q2 := hsB.get hO hy hu (by omega)
    exact hO.trans y u x q2 (hO.trans u v x q0 q1)

theorem so_merge (hO : Swo lt) (hR : Rds less lt) : ∀ (n : Nat) (P A B S : List α), 0 < A.length → 0 < B.length → A.length + B.length ≤ n → (P ++ A ++ B ++ S).length ≤ LIM → Srt lt A → Srt lt B →
    ∃ C, so_symMerge_n less n (P ++ A ++ B ++ S) ((P.length : Nat) : Int) ((P.length + A.length : Nat) : Int) ((P.length + A.length + B.length : Nat) : Int) = some (P ++ C ++ S) ∧ C.Perm (A ++ B) ∧ Srt lt C
  | 0, P, A, B, S, hA, hB, hn, _, _, _ => by omega
  | n + 1, P, A, B, S, hA, hB, hn, hl, hsA, hsB => by
    have hlx := hl
    unfold LIM at hlx
    simp only [List.length_append] at hlx
    have e1 : w64 (((P.length + A.length : Nat) : Int) - ((P.length : Nat) : Int)) = ((A.length : Nat) : Int) := by rw [sub64 (by omega) (by omega)]; congr 1; omega
    have e2 : w64 (((P.length + A.length + B.length : Nat) : Int) - ((P.length + A.length : Nat) : Int)) = ((B.length : Nat) : Int) := by rw [sub64 (by omega) (by omega)]; congr 1; omega
    show ∃ C, so_symMerge_F less (so_symMerge_n less n) _ _ _ _ = _ ∧ _
    unfold so_symMerge_F
    rw [e1, e2]
    by_cases hA1 : A.length = 1
    · match A, hA1 with
      | [x], _ =>
        have := so_merge_one hO hR P B S x hl hsB
        simpa using this
    have c1 : (((A.length : Nat) : Int) == 1) = false := by rw [beqI]; simp; omega
    rw [c1, cond_false]
    by_cases hB1 : B.length = 1
    · match B, hB1 with
      | [x], _ =>
        have := so_merge_last hO hR P A S x hl hsA
        simpa using this
    have c2 : (((B.length : Nat) : Int) == 1) = false := by rw [beqI]; simp; omega
    rw [c2, cond_false]
    generalize hm : P.length + A.length = m at *
    generalize hb : m + B.length = b at *
    generalize hmid : (P.length + b) / 2 = mid
    have hM : w64 (Int.fdiv (IntKind.u64.wrap (w64 (((P.length : Nat) : Int) + ((b : Nat) : Int)))) (2 ^ 1)) = ((mid : Nat) : Int) := by rw [← hmid]; exact mid64 (by omega)
    have hnn : mid < m → w64 ((w64 (((mid : Nat) : Int) + ((m : Nat) : Int))) - ((b : Nat) : Int)) = ((mid + m - b : Nat) : Int) := fun hc => by
      rw [add64 (by omega), sub64 (by omega) (by omega)]
    rw [hM]
    have hj : ∃ lo hi, ((mid < m ∧ lo = mid + m - b ∧ hi = mid) ∨ (m ≤ mid ∧ lo = P.length ∧ hi = m)) ∧
        (bif decide (((m : Nat) : Int) > ((mid : Nat) : Int)) then so_symMerge_j1 less (so_symMerge_n less n) (P ++ A ++ B ++ S) ((P.length : Nat) : Int) ((m : Nat) : Int) ((b : Nat) : Int) (w64 ((w64 (((mid : Nat) : Int) + ((m : Nat) : Int))) - ((b : Nat) : Int))) ((mid : Nat) : Int)
          else so_symMerge_j1 less (so_symMerge_n less n) (P ++ A ++ B ++ S) ((P.length : Nat) : Int) ((m : Nat) : Int) ((b : Nat) : Int) ((P.length : Nat) : Int) ((m : Nat) : Int)) =
        so_symMerge_j1 less (so_symMerge_n less n) (P ++ A ++ B ++ S) ((P.length : Nat) : Int) ((m : Nat) : Int) ((b : Nat) : Int) ((lo : Nat) : Int) ((hi : Nat) : Int) := by
      by_cases hc : mid < m
      · exact ⟨mid + m - b, mid, .inl ⟨hc, rfl, rfl⟩, by rw [show decide (((m : Nat) : Int) > ((mid : Nat) : Int)) = true by simp; exact hc, cond_true, hnn hc]⟩
      · exact ⟨P.length, m, .inr ⟨by omega, rfl, rfl⟩, by rw [show decide (((m : Nat) : Int) > ((mid : Nat) : Int)) = false by simp; omega, cond_false]⟩
    obtain ⟨lo, hi, hlh, hj⟩ := hj
    rw [hj]
    obtain ⟨s, s1, s2, s3, s4, s5, hrun, f1, f2⟩ := so_cut hO hR P A B S (by omega) (by omega) hl hsA hsB P.length m b mid lo hi rfl hm.symm (by omega) hmid.symm hlh
    have hE : w64 ((w64 (((mid : Nat) : Int) + ((m : Nat) : Int))) - ((s : Nat) : Int)) = ((mid + m - s : Nat) : Int) := by
      rw [add64 (by omega), sub64 (by omega) (by omega)]
    unfold so_symMerge_j1
    rw [hrun]
    simp only [Option.bind_some, so_symMerge_L5_k]
    rw [so_L5_a_eq hM hE]
    have hAs : A = A.take (s - P.length) ++ A.drop (s - P.length) := (List.take_append_drop _ _).symm
    have hBs : B = B.take (mid - s) ++ B.drop (mid - s) := (List.take_append_drop _ _).symm
    have lA1 : (A.take (s - P.length)).length = s - P.length := by rw [List.length_take]; omega
    have lB1 : (B.take (mid - s)).length = mid - s := by rw [List.length_take]; omega
    have lA2 : (A.drop (s - P.length)).length = m - s := by rw [List.length_drop]; omega
    have lB2 : (B.drop (mid - s)).length = b - (mid + m - s) := by rw [List.length_drop]; omega
    have sA1 : Srt lt (A.take (s - P.length)) := hsA.sublist (List.take_sublist _ _)
    have sA2 : Srt lt (A.drop (s - P.length)) := hsA.sublist (List.drop_sublist _ _)
    have sB1 : Srt lt (B.take (mid - s)) := hsB.sublist (List.take_sublist _ _)
    have sB2 : Srt lt (B.drop (mid - s)) := hsB.sublist (List.drop_sublist _ _)
    have fA : ∀ x ∈ A.take (s - P.length), ∀ y ∈ A.drop (s - P.length), lt y x = false := by
      have h0 : Srt lt (A.take (s - P.length) ++ A.drop (s - P.length)) := by rw [← hAs]; exact hsA
      exact (List.pairwise_append.1 h0).2.2
    have fB : ∀ x ∈ B.take (mid - s), ∀ y ∈ B.drop (mid - s), lt y x = false := by
      have h0 : Srt lt (B.take (mid - s) ++ B.drop (mid - s)) := by rw [← hBs]; exact hsB
      exact (List.pairwise_append.1 h0).2.2
    generalize A.take (s - P.length) = A1 at *
    generalize A.drop (s - P.length) = A2 at *
    generalize B.take (mid - s) = B1 at *
    generalize B.drop (mid - s) = B2 at *
    subst hAs hBs
    simp only [List.length_append] at hm hb hn hlx hA hB
    -- the two inner blocks change places
    have hrot : (if ((s : Nat) : Int) < ((m : Nat) : Int) ∧ ((m : Nat) : Int) < ((mid + m - s : Nat) : Int) then so_rotate (P ++ (A1 ++ A2) ++ (B1 ++ B2) ++ S) ((s : Nat) : Int) ((m : Nat) : Int) ((mid + m - s : Nat) : Int) else some (P ++ (A1 ++ A2) ++ (B1 ++ B2) ++ S)) = some (P ++ A1 ++ B1 ++ A2 ++ B2 ++ S) := by
      by_cases hc : s < m ∧ m < mid + m - s
      · rw [if_pos (by omega), show P ++ (A1 ++ A2) ++ (B1 ++ B2) ++ S = (P ++ A1) ++ A2 ++ B1 ++ (B2 ++ S) by simp]
        have := so_rotate_spec (P ++ A1) A2 B1 (B2 ++ S) (by omega) (by omega) (by simp only [List.length_append] at hl ⊢; omega) (a := ((s : Nat) : Int)) (m := ((m : Nat) : Int)) (b := ((mid + m - s : Nat) : Int)) (by simp only [List.length_append]; omega) (by simp only [List.length_append]; omega) (by simp only [List.length_append]; omega)
        rw [this]; simp
      · rw [if_neg (by omega)]
        have : A2 = [] ∨ B1 = [] := by
          by_cases hq : A2.length = 0
          · exact .inl (List.eq_nil_of_length_eq_zero hq)
          · exact .inr (List.eq_nil_of_length_eq_zero (by omega))
        rcases this with rfl | rfl <;> simp
    rw [hrot]
    simp only [Option.bind_some]
    unfold so_rest
    -- the left half
    have hleft : ∃ C1, (if ((P.length : Nat) : Int) < ((s : Nat) : Int) ∧ ((s : Nat) : Int) < ((mid : Nat) : Int) then so_symMerge_n less n (P ++ A1 ++ B1 ++ A2 ++ B2 ++ S) ((P.length : Nat) : Int) ((s : Nat) : Int) ((mid : Nat) : Int) else some (P ++ A1 ++ B1 ++ A2 ++ B2 ++ S)) = some (P ++ C1 ++ A2 ++ B2 ++ S) ∧ C1.Perm (A1 ++ B1) ∧ Srt lt C1 := by
      by_cases hc : P.length < s ∧ s < mid
      · rw [if_pos (by omega)]
        obtain ⟨C1, q1, q2, q3⟩ := so_merge hO hR n P A1 B1 (A2 ++ B2 ++ S) (by omega) (by omega) (by omega) (by simp only [List.length_append] at hl ⊢; omega) sA1 sB1
        rw [show P.length + A1.length = s by omega, show s + B1.length = mid by omega] at q1
        exact ⟨C1, by rw [show P ++ A1 ++ B1 ++ A2 ++ B2 ++ S = P ++ A1 ++ B1 ++ (A2 ++ B2 ++ S) by simp, q1]; simp, q2, q3⟩
      · rw [if_neg (by omega)]
        refine ⟨A1 ++ B1, by simp, List.Perm.refl _, ?_⟩
        have : A1 = [] ∨ B1 = [] := by
          by_cases hq : A1.length = 0
          · exact .inl (List.eq_nil_of_length_eq_zero hq)
          · exact .inr (List.eq_nil_of_length_eq_zero (by omega))
        rcases this with rfl | rfl
        · simpa using sB1
        · simpa using sA1
    obtain ⟨C1, q1, q2, q3⟩ := hleft
    have lC1 := q2.length_eq
    simp only [List.length_append] at lC1
    rw [q1]
    simp only [Option.bind_some]
    have hright : ∃ C2, (if ((mid : Nat) : Int) < ((mid + m - s : Nat) : Int) ∧ ((mid + m - s : Nat) : Int) < ((b : Nat) : Int) then so_symMerge_n less n (P ++ C1 ++ A2 ++ B2 ++ S) ((mid : Nat) : Int) ((mid + m - s : Nat) : Int) ((b : Nat) : Int) else some (P ++ C1 ++ A2 ++ B2 ++ S)) = some (P ++ C1 ++ C2 ++ S) ∧ C2.Perm (A2 ++ B2) ∧ Srt lt C2 := by
      by_cases hc : mid < mid + m - s ∧ mid + m - s < b
      · rw [if_pos (by omega)]
        obtain ⟨C2, r1, r2, r3⟩ := so_merge hO hR n (P ++ C1) A2 B2 S (by omega) (by omega) (by omega) (by simp only [List.length_append] at hl ⊢; omega) sA2 sB2
        simp only [List.length_append] at r1
        rw [show P.length + C1.length = mid by omega, show mid + A2.length = mid + m - s by omega, show mid + m - s + B2.length = b by omega] at r1
        exact ⟨C2, r1, r2, r3⟩
      · rw [if_neg (by omega)]
        refine ⟨A2 ++ B2, by simp, List.Perm.refl _, ?_⟩
        have : A2 = [] ∨ B2 = [] := by
          by_cases hq : A2.length = 0
          · exact .inl (List.eq_nil_of_length_eq_zero hq)
          · exact .inr (List.eq_nil_of_length_eq_zero (by omega))
        rcases this with rfl | rfl
        · simpa using sB2
        · simpa using sA2
    obtain ⟨C2, r1, r2, r3⟩ := hright
    rw [r1]
    refine ⟨C1 ++ C2, by simp, ?_, Srt.app q3 r3 fun x hx y hy => ?_⟩
    · refine (q2.append r2).trans ?_
      simp only [List.append_assoc]
      refine List.Perm.append_left A1 ?_
      rw [← List.append_assoc, ← List.append_assoc A2]
      exact List.Perm.append_right B2 List.perm_append_comm
    · rcases List.mem_append.1 (q2.mem_iff.1 hx) with hx | hx <;> rcases List.mem_append.1 (r2.mem_iff.1 hy) with hy | hy
      · exact fA x hx y hy
      · exact f1 x hx y hy
      · exact f2 x hx y hy
      · exact fB x hx y hy
end
end Go.Sx
