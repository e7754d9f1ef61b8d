/- The library's stable sort, over any comparison: the insertion sort. -/
import Derived.Test.YtbeialanbblkoaaSxSc
namespace Go.Sx
set_option linter.unusedVariables false
/-- a strict weak order -/
structure Swo {α : Type} (lt : α → α → Bool) : Prop where
  asym : ∀ a b, lt a b = true → lt b a = false
  trans : ∀ a b c, lt b a = false → lt c b = false → lt c a = false
theorem Swo.refl {α : Type} {lt : α → α → Bool} (h : Swo lt) (a : α) : lt a a = false := by
  cases hc : lt a a with
  | false => rfl
  | true => rw [h.asym a a hc] at hc; cases hc
abbrev Srt {α : Type} (lt : α → α → Bool) (l : List α) : Prop := l.Pairwise (fun a b => lt b a = false)
theorem Srt.get {α : Type} {lt : α → α → Bool} (h : Swo lt) {l : List α} (hs : Srt lt l) {i j : Nat} {x y : α} (hi : l[i]? = some x) (hj : l[j]? = some y) (hij : i ≤ j) : lt y x = false := by
  obtain ⟨h1, rfl⟩ := List.getElem?_eq_some_iff.1 hi
  obtain ⟨h2, rfl⟩ := List.getElem?_eq_some_iff.1 hj
  rcases Nat.lt_or_eq_of_le hij with h3 | rfl
  · exact List.pairwise_iff_getElem.1 hs i j h1 h2 h3
  · exact h.refl _
theorem Srt.put {α : Type} {lt : α → α → Bool} {A1 A2 : List α} {x : α} (hs : Srt lt (A1 ++ A2)) (h1 : ∀ y ∈ A1, lt x y = false) (h2 : ∀ y ∈ A2, lt y x = false) : Srt lt (A1 ++ x :: A2) := by
  obtain ⟨s1, s2, s3⟩ := List.pairwise_append.1 hs
  refine List.pairwise_append.2 ⟨s1, List.pairwise_cons.2 ⟨fun y hy => h2 y hy, s2⟩, fun y hy z hz => ?_⟩
  cases hz with
  | head => exact h1 y hy
  | tail _ hz => exact s3 y hy z hz
/-- the comparison reads two places of the row -/
abbrev Rds {α : Type} (less : Int → Int → List α → Option Bool) (lt : α → α → Bool) : Prop := ∀ (row : List α) (i j : Nat) (x y : α), row[i]? = some x → row[j]? = some y → less (i : Int) (j : Int) row = some (lt x y)
section
variable {α : Type} {less : Int → Int → List α → Option Bool} {lt : α → α → Bool}
theorem so_insert (hO : Swo lt) (hR : Rds less lt) (P A S : List α) (x : α) (hl : (P ++ A ++ x :: S).length ≤ LIM) (hs : Srt lt A) :
    ∃ A1 A2, loopM (so_insertionSort_L2 less ((P.length : Nat) : Int)) big (P ++ A ++ x :: S, ((P.length + A.length : Nat) : Int)) = some (.inl (P ++ A1 ++ x :: (A2 ++ S))) ∧ A1 ++ A2 = A ∧ Srt lt (A1 ++ x :: A2) := by
  have key := loop_end (body := so_insertionSort_L2 less ((P.length : Nat) : Int)) (fun s => ∃ A1 A2 : List α, s = (P ++ A1 ++ x :: (A2 ++ S), ((P.length + A1.length : Nat) : Int)) ∧ A1 ++ A2 = A ∧ ∀ y ∈ A2, lt x y = true) (fun s => s.2.toNat)
    (fun t => ∃ A1 A2 : List α, t = P ++ A1 ++ x :: (A2 ++ S) ∧ A1 ++ A2 = A ∧ (∀ y ∈ A2, lt x y = true) ∧ ∀ y ∈ A1, lt x y = false) (fun s hs' => by
    obtain ⟨A1, A2, rfl, hA, h2⟩ := hs'
    have hlen : (P ++ A1 ++ x :: (A2 ++ S)).length ≤ LIM := by
      have : (P ++ A ++ x :: S).length = (P ++ A1 ++ x :: (A2 ++ S)).length := by rw [← hA]; simp; omega
      rw [← this]; exact hl
    unfold LIM at hlen
    simp only [List.length_append, List.length_cons] at hlen
    rcases List.eq_nil_or_concat A1 with rfl | ⟨A1', y, rfl⟩
    · right
      refine ⟨P ++ [] ++ x :: (A2 ++ S), ?_, [], A2, rfl, hA, h2, by simp⟩
      have c : decide (((P.length + ([] : List α).length : Nat) : Int) > ((P.length : Nat) : Int)) = false := by simp
      simp only [so_insertionSort_L2, so_insertionSort_L2_b, c, cond_false]
    · have hc : decide (((P.length + (A1'.concat y).length : Nat) : Int) > ((P.length : Nat) : Int)) = true := by simp; omega
      have e1 : P.length + (A1'.concat y).length = (P ++ A1').length + 1 := by simp; omega
      have e2 : w64 ((((P ++ A1').length + 1 : Nat) : Int) - 1) = (((P ++ A1').length : Nat) : Int) := by
        have := sub64 (x := (P ++ A1').length + 1) (y := 1) (by omega) (by simp only [List.concat_eq_append, List.length_append, List.length_cons, List.length_nil] at hlen ⊢; omega)
        simpa using this
      have e3 : P ++ A1'.concat y ++ x :: (A2 ++ S) = (P ++ A1') ++ y :: x :: (A2 ++ S) := by simp
      have g1 : ((P ++ A1') ++ y :: x :: (A2 ++ S))[(P ++ A1').length + 1]? = some x := by rw [List.getElem?_append_right (by omega)]; simp
      have g2 : ((P ++ A1') ++ y :: x :: (A2 ++ S))[(P ++ A1').length]? = some y := by simp
      have hlt := hR _ _ _ _ _ g1 g2
      rw [e1] at hc ⊢
      rw [e3]
      cases hxy : lt x y with
      | true =>
        left
        refine ⟨(P ++ A1' ++ x :: (y :: A2 ++ S), ((P.length + A1'.length : Nat) : Int)), ?_, ⟨A1', y :: A2, rfl, by rw [← hA]; simp, fun z hz => ?_⟩, by simp only [List.length_append]; omega⟩
        · simp only [so_insertionSort_L2, so_insertionSort_L2_b, hc, cond_true, e2, hlt, hxy, Option.bind_some, gi_app, g1, g2]
          have := set_two' (L := P ++ A1') (M := []) (R := A2 ++ S) (x := y) (y := x) (i := Int.toNat (((P ++ A1').length : Nat) : Int)) (j := Int.toNat ((((P ++ A1').length + 1 : Nat)) : Int)) (Int.toNat_natCast _) (by rw [Int.toNat_natCast]; rfl)
          simp only [List.nil_append] at this
          rw [this]
          simp
        · cases hz with
          | head => exact hxy
          | tail _ hz => exact h2 z hz
      | false =>
        right
        refine ⟨(P ++ A1') ++ y :: x :: (A2 ++ S), ?_, A1'.concat y, A2, by simp, hA, h2, fun z hz => ?_⟩
        · simp only [so_insertionSort_L2, so_insertionSort_L2_b, hc, cond_true, e2, hlt, hxy, Option.bind_some, cond_false]
        · have hs' : Srt lt (A1'.concat y ++ A2) := by rw [hA]; exact hs
          obtain ⟨s1, _, _⟩ := List.pairwise_append.1 hs'
          rw [List.concat_eq_append] at s1 hz
          obtain ⟨_, _, s4⟩ := List.pairwise_append.1 s1
          rcases List.mem_append.1 hz with hz | hz
          · exact hO.trans z y x (s4 z hz y (by simp)) hxy
          · simp at hz; subst hz; exact hxy) big (P ++ A ++ x :: S, ((P.length + A.length : Nat) : Int)) ⟨A, [], by simp, by simp, by simp⟩ (by simp only [List.length_append, List.length_cons] at hl; unfold LIM at hl; exact lim_big (by unfold LIM; simp only; omega))
  obtain ⟨t, e, A1, A2, rfl, h1, h2, h3⟩ := key
  exact ⟨A1, A2, e, h1, Srt.put (by rw [h1]; exact hs) h3 fun y hy => hO.asym x y (h2 y hy)⟩

theorem so_insertionSort_spec (hO : Swo lt) (hR : Rds less lt) (P A S : List α) (hl : (P ++ A ++ S).length ≤ LIM) {a b : Int} (ha : a = (P.length : Nat)) (hb : b = ((P.length + A.length : Nat) : Int)) :
    ∃ A', so_insertionSort less (P ++ A ++ S) a b = some (P ++ A' ++ S) ∧ A'.Perm A ∧ Srt lt A' := by
  subst ha hb
  have hlx := hl
  unfold LIM at hlx
  simp only [List.length_append] at hlx
  have e0 : w64 (((P.length : Nat) : Int) + 1) = ((P.length + 1 : Nat) : Int) := add64 (y := 1) (by omega)
  cases A with
  | nil =>
    have c : decide (((P.length + 1 : Nat) : Int) < ((P.length + ([] : List α).length : Nat) : Int)) = false := by simp; omega
    have hbrk : so_insertionSort_L1 less ((P.length : Nat) : Int) ((P.length + ([] : List α).length : Nat) : Int) (P ++ [] ++ S, ((P.length + 1 : Nat) : Int)) = some (.brk (P ++ [] ++ S)) := by
      simp only [so_insertionSort_L1, so_insertionSort_L1_b, c, cond_false]
    obtain ⟨t, e, rfl⟩ := loop_end (body := so_insertionSort_L1 less ((P.length : Nat) : Int) ((P.length + ([] : List α).length : Nat) : Int)) (fun s => s = (P ++ [] ++ S, ((P.length + 1 : Nat) : Int))) (fun _ => 0) (fun t => t = P ++ [] ++ S) (fun s hs => by subst hs; exact .inr ⟨_, hbrk, rfl⟩) big _ rfl (lim_big (by omega))
    exact ⟨[], by unfold so_insertionSort; rw [e0, e]; rfl, List.Perm.refl _, List.Pairwise.nil⟩
  | cons x0 A0 =>
    have key := loop_end (body := so_insertionSort_L1 less ((P.length : Nat) : Int) ((P.length + (x0 :: A0).length : Nat) : Int)) (fun s => ∃ A1 A2 : List α, s = (P ++ A1 ++ (A2 ++ S), ((P.length + A1.length : Nat) : Int)) ∧ (A1 ++ A2).Perm (x0 :: A0) ∧ Srt lt A1) (fun s => P.length + (x0 :: A0).length - s.2.toNat)
      (fun t => ∃ A1 : List α, t = P ++ A1 ++ S ∧ A1.Perm (x0 :: A0) ∧ Srt lt A1) (fun s hs => by
      obtain ⟨A1, A2, rfl, hp, hs⟩ := hs
      have hal := hp.length_eq
      simp only [List.length_append] at hal
      cases A2 with
      | nil =>
        right
        have c : decide (((P.length + A1.length : Nat) : Int) < ((P.length + (x0 :: A0).length : Nat) : Int)) = false := by simp at hal ⊢; omega
        refine ⟨P ++ A1 ++ ([] ++ S), by simp only [so_insertionSort_L1, so_insertionSort_L1_b, c, cond_false], A1, by simp, by simpa using hp, hs⟩
      | cons x A2 =>
        left
        have c : decide (((P.length + A1.length : Nat) : Int) < ((P.length + (x0 :: A0).length : Nat) : Int)) = true := by simp only [List.length_cons] at hal ⊢; simp; omega
        obtain ⟨B1, B2, e, h1, h2⟩ := so_insert hO hR P A1 (A2 ++ S) x (by simp only [List.length_append, List.length_cons] at hl hal ⊢; omega) hs
        have hB := congrArg List.length h1
        simp only [List.length_append] at hB
        refine ⟨(P ++ (B1 ++ x :: B2) ++ (A2 ++ S), ((P.length + (B1 ++ x :: B2).length : Nat) : Int)), ?_, ⟨B1 ++ x :: B2, A2, rfl, ?_, h2⟩, ?_⟩
        · simp only [so_insertionSort_L1, so_insertionSort_L1_b, c, cond_true]
          rw [show P ++ A1 ++ (x :: A2 ++ S) = P ++ A1 ++ x :: (A2 ++ S) by simp, e]
          simp only [Option.bind_some, so_insertionSort_L2_k, so_insertionSort_L2_a]
          have e3 : w64 (((P.length + A1.length : Nat) : Int) + 1) = ((P.length + A1.length + 1 : Nat) : Int) := add64 (y := 1) (by simp only [List.length_cons] at hal hlx; omega)
          rw [e3]
          simp only [List.length_append, List.length_cons]
          rw [show P.length + A1.length + 1 = P.length + (B1.length + (B2.length + 1)) by omega]
          simp
        · refine List.Perm.trans ?_ hp
          rw [← h1]
          simp only [List.append_assoc, List.cons_append]
          exact List.Perm.append_left B1 (List.perm_middle (l₁ := B2)).symm
        · simp only [List.length_append, List.length_cons] at hal ⊢; omega) big (P ++ [x0] ++ (A0 ++ S), ((P.length + [x0].length : Nat) : Int)) ⟨[x0], A0, rfl, List.Perm.refl _, by simp [Srt]⟩ (by simp only; exact lim_big (by unfold LIM; simp only [List.length_cons] at hlx ⊢; omega))
    obtain ⟨t, e, A1, rfl, h1, h2⟩ := key
    refine ⟨A1, ?_, h1, h2⟩
    unfold so_insertionSort
    rw [e0]
    simp only [List.length_cons, List.length_nil, Nat.zero_add] at e
    simp only [List.length_cons]
    rw [show P ++ x0 :: A0 ++ S = P ++ [x0] ++ (A0 ++ S) by simp, e]
    rfl
end
end Go.Sx
