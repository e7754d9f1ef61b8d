/- The library's stable sort, over any comparison: two neighbouring blocks change places; one element moves. -/
import Derived.Test.YtbeialanbblkoaaSxSb
namespace Go.Sx
set_option linter.unusedVariables false
section
variable {α : Type}
theorem sub64 {x y : Nat} (h : y ≤ x) (hx : x ≤ 4611686018427387904) : w64 ((x : Int) - y) = ((x - y : Nat) : Int) := by
  rw [show (x : Int) - y = ((x - y : Nat) : Int) by omega]; exact nat64 (by omega)
theorem add64 {x y : Nat} (hx : x + y ≤ 4611686018427387904) : w64 ((x : Int) + y) = ((x + y : Nat) : Int) := by
  rw [show (x : Int) + y = ((x + y : Nat) : Int) by omega]; exact nat64 hx
/-- A ++ B becomes B ++ A -/
theorem so_rotate_spec (P A B S : List α) (hA : 0 < A.length) (hB : 0 < B.length) (hl : (P ++ A ++ B ++ S).length ≤ LIM) {a m b : Int} (ha : a = (P.length : Nat)) (hm : m = ((P.length + A.length : Nat) : Int)) (hb : b = ((P.length + A.length + B.length : Nat) : Int)) :
    so_rotate (P ++ A ++ B ++ S) a m b = some (P ++ B ++ A ++ S) := by
  subst ha hm hb
  have key := loop_end (body := so_rotate_L1 ((P.length + A.length : Nat) : Int) (α := α))
    (fun s => ∃ P' A' B' S' : List α, s = (P' ++ A' ++ B' ++ S', ((A'.length : Nat) : Int), ((B'.length : Nat) : Int)) ∧ 0 < A'.length ∧ 0 < B'.length ∧ P'.length + A'.length = P.length + A.length ∧ P' ++ B' ++ A' ++ S' = P ++ B ++ A ++ S) (fun s => (s.2.1 + s.2.2).toNat)
    (fun t => ∃ P' A' B' S' : List α, t = (P' ++ A' ++ B' ++ S', ((A'.length : Nat) : Int)) ∧ A'.length = B'.length ∧ 0 < A'.length ∧ P'.length + A'.length = P.length + A.length ∧ P' ++ B' ++ A' ++ S' = P ++ B ++ A ++ S) (fun s hs => by
      obtain ⟨P', A', B', S', rfl, hA', hB', hm', hF⟩ := hs
      have hlen : (P' ++ A' ++ B' ++ S').length = (P ++ A ++ B ++ S).length := by
        have := congrArg List.length hF
        simp only [List.length_append] at this ⊢
        omega
      have hl' : (P' ++ A' ++ B' ++ S').length ≤ LIM := by rw [hlen]; exact hl
      have hlx := hl'
      unfold LIM at hlx
      simp only [List.length_append] at hlx
      have e1 : w64 (((P.length + A.length : Nat) : Int) - (A'.length : Nat)) = ((P'.length : Nat) : Int) := by
        rw [sub64 (by omega) (by omega)]; congr 1; omega
      rcases Nat.lt_trichotomy A'.length B'.length with h | h | h
      · left
        -- the right block is longer
        have hR : B' = B'.take (B'.length - A'.length) ++ B'.drop (B'.length - A'.length) := (List.take_append_drop _ _).symm
        generalize h1 : B'.take (B'.length - A'.length) = R1 at hR
        generalize h2 : B'.drop (B'.length - A'.length) = R2 at hR
        have l1 : R1.length = B'.length - A'.length := by rw [← h1, List.length_take]; omega
        have l2 : R2.length = A'.length := by rw [← h2, List.length_drop]; omega
        have e2 : w64 ((w64 (((P.length + A.length : Nat) : Int) + ((B'.length : Nat) : Int))) - ((A'.length : Nat) : Int)) = ((P'.length + A'.length + R1.length : Nat) : Int) := by
          rw [add64 (by omega), sub64 (by omega) (by omega)]; congr 1; omega
        have hsw := so_swapRange_spec P' A' R1 R2 S' l2.symm (by rw [hR] at hl'; simpa using hl') hA'
        refine ⟨(P' ++ R2 ++ R1 ++ A' ++ S', ((A'.length : Nat) : Int), ((R1.length : Nat) : Int)), ?_, ⟨P', R2, R1, A' ++ S', ?_, by omega, by omega, by omega, ?_⟩, ?_⟩
        · have c1 : ((((A'.length : Nat) : Int)) != ((B'.length : Nat) : Int)) = true := by rw [bneI]; simp; omega
          have c2 : decide (((A'.length : Nat) : Int) > ((B'.length : Nat) : Int)) = false := by simp; omega
          simp only [so_rotate_L1, so_rotate_L1_b, c1, c2, cond_true, cond_false, e1, e2]
          rw [show P' ++ A' ++ B' ++ S' = P' ++ A' ++ R1 ++ R2 ++ S' by rw [hR]; simp, hsw, Option.bind_some, sub64 (by omega) (by omega), ← l1]
        · simp only [List.append_assoc, l2]
        · rw [← hF, hR]; simp
        · simp only; omega
      · right
        have c1 : ((((A'.length : Nat) : Int)) != ((B'.length : Nat) : Int)) = false := by rw [bneI]; simp; omega
        exact ⟨(P' ++ A' ++ B' ++ S', ((A'.length : Nat) : Int)), by simp only [so_rotate_L1, so_rotate_L1_b, c1, cond_false], P', A', B', S', rfl, h, hA', hm', hF⟩
      · left
        have hR : A' = A'.take B'.length ++ A'.drop B'.length := (List.take_append_drop _ _).symm
        generalize h1 : A'.take B'.length = L1 at hR
        generalize h2 : A'.drop B'.length = L2 at hR
        have l1 : L1.length = B'.length := by rw [← h1, List.length_take]; omega
        have l2 : L2.length = A'.length - B'.length := by rw [← h2, List.length_drop]
        have hsw := so_swapRange_spec P' L1 L2 B' S' l1 (by rw [hR] at hl'; simpa using hl') (by omega)
        rw [show P'.length + L1.length + L2.length = P.length + A.length by omega, l1] at hsw
        refine ⟨(P' ++ B' ++ L2 ++ L1 ++ S', ((L2.length : Nat) : Int), ((B'.length : Nat) : Int)), ?_, ⟨P' ++ B', L2, L1, S', ?_, by omega, by omega, by simp; omega, ?_⟩, ?_⟩
        · have c1 : ((((A'.length : Nat) : Int)) != ((B'.length : Nat) : Int)) = true := by rw [bneI]; simp; omega
          have c2 : decide (((A'.length : Nat) : Int) > ((B'.length : Nat) : Int)) = true := by simp; omega
          simp only [so_rotate_L1, so_rotate_L1_b, c1, c2, cond_true, e1]
          rw [show P' ++ A' ++ B' ++ S' = P' ++ L1 ++ L2 ++ B' ++ S' by rw [hR]; simp, hsw, Option.bind_some, sub64 (by omega) (by omega), ← l2]
        · rw [l1]
        · rw [← hF, hR]; simp
        · simp only; omega) big (P ++ A ++ B ++ S, ((A.length : Nat) : Int), ((B.length : Nat) : Int)) ⟨P, A, B, S, rfl, hA, hB, rfl, rfl⟩
      (by simp only [List.length_append] at hl; simp only; unfold LIM at hl; exact lim_big (by unfold LIM; omega))
  obtain ⟨t, e, P', A', B', S', rfl, h1, h2, h3, h4⟩ := key
  have hlx := hl
  unfold LIM at hlx
  simp only [List.length_append] at hlx
  have hlen := congrArg List.length h4
  simp only [List.length_append] at hlen
  unfold so_rotate
  rw [sub64 (by omega) (by omega), sub64 (by omega) (by omega), show P.length + A.length - P.length = A.length by omega, show P.length + A.length + B.length - (P.length + A.length) = B.length by omega, e]
  have hsw := so_swapRange_spec P' A' [] B' S' h1 (by unfold LIM; simp only [List.length_append, List.length_nil]; omega) h2
  simp only [List.append_nil, List.length_nil, Nat.add_zero, h3] at hsw
  simp only [Option.bind_some, so_rotate_L1_k, so_rotate_L1_a]
  rw [sub64 (by omega) (by omega), show P.length + A.length - A'.length = P'.length by omega, hsw, Option.bind_some, h4]

/-- one element moves to the left over a block -/
theorem shift_left {body : List α × Int → Option (Ctl (List α × Int) (List α) (List α))} (P A S : List α) (x : α) (hl : (P ++ A ++ x :: S).length ≤ LIM)
    (hb : ∀ (L R : List α) (y : α), P.length ≤ L.length → (L ++ y :: x :: R).length ≤ LIM → body (L ++ y :: x :: R, ((L.length + 1 : Nat) : Int)) = some (.next (L ++ x :: y :: R, ((L.length : Nat) : Int))))
    (he : ∀ R : List α, body (P ++ R, ((P.length : Nat) : Int)) = some (.brk (P ++ R))) :
    loopM body big (P ++ A ++ x :: S, ((P.length + A.length : Nat) : Int)) = some (.inl (P ++ x :: A ++ S)) := by
  have key := loop_end (body := body) (fun s => ∃ A1 A2 : List α, s = (P ++ A1 ++ x :: (A2 ++ S), ((P.length + A1.length : Nat) : Int)) ∧ A1 ++ A2 = A) (fun s => s.2.toNat) (fun t => t = P ++ x :: A ++ S) (fun s hs => by
    obtain ⟨A1, A2, rfl, hA⟩ := hs
    rcases List.eq_nil_or_concat A1 with rfl | ⟨A1', y, rfl⟩
    · right
      refine ⟨P ++ x :: (A2 ++ S), by simpa using he (x :: (A2 ++ S)), ?_⟩
      rw [← hA]; simp
    · left
      have hlen : (P ++ A1' ++ y :: x :: (A2 ++ S)).length ≤ LIM := by
        have : (P ++ A ++ x :: S).length = (P ++ A1' ++ y :: x :: (A2 ++ S)).length := by rw [← hA]; simp; omega
        rw [← this]; exact hl
      refine ⟨(P ++ A1' ++ x :: (y :: A2 ++ S), ((P.length + A1'.length : Nat) : Int)), ?_, ⟨A1', y :: A2, rfl, by rw [← hA]; simp⟩, by simp only [List.concat_eq_append, List.length_append, List.length_cons, List.length_nil]; omega⟩
      have := hb (P ++ A1') (A2 ++ S) y (by simp) hlen
      simp only [List.length_append] at this
      rw [show P ++ A1'.concat y ++ x :: (A2 ++ S) = P ++ A1' ++ y :: x :: (A2 ++ S) by simp, show P.length + (A1'.concat y).length = P.length + A1'.length + 1 by simp; omega, this]
      simp) big (P ++ A ++ x :: S, ((P.length + A.length : Nat) : Int)) ⟨A, [], by simp, by simp⟩ (by simp only [List.length_append, List.length_cons] at hl; unfold LIM at hl; exact lim_big (by unfold LIM; simp only; omega))
  obtain ⟨t, e, rfl⟩ := key
  exact e
/-- one element moves to the right over a block -/
theorem shift_right {body : List α × Int → Option (Ctl (List α × Int) (List α) (List α))} (P A S : List α) (x : α) (hl : (P ++ x :: A ++ S).length ≤ LIM)
    (hb : ∀ (L R : List α) (y : α), L.length < P.length + A.length → (L ++ x :: y :: R).length ≤ LIM → body (L ++ x :: y :: R, ((L.length : Nat) : Int)) = some (.next (L ++ y :: x :: R, ((L.length + 1 : Nat) : Int))))
    (he : ∀ R : List α, body (R, ((P.length + A.length : Nat) : Int)) = some (.brk R)) :
    loopM body big (P ++ x :: A ++ S, ((P.length : Nat) : Int)) = some (.inl (P ++ A ++ x :: S)) := by
  have key := loop_end (body := body) (fun s => ∃ A1 A2 : List α, s = (P ++ A1 ++ x :: (A2 ++ S), ((P.length + A1.length : Nat) : Int)) ∧ A1 ++ A2 = A) (fun s => P.length + A.length - s.2.toNat) (fun t => t = P ++ A ++ x :: S) (fun s hs => by
    obtain ⟨A1, A2, rfl, hA⟩ := hs
    have hal := congrArg List.length hA
    simp only [List.length_append] at hal
    cases A2 with
    | nil =>
      right
      simp only [List.append_nil] at hA
      subst hA
      exact ⟨P ++ A1 ++ x :: ([] ++ S), he _, by simp⟩
    | cons y A2 =>
      left
      have hlen : (P ++ A1 ++ x :: y :: (A2 ++ S)).length ≤ LIM := by
        have : (P ++ x :: A ++ S).length = (P ++ A1 ++ x :: y :: (A2 ++ S)).length := by rw [← hA]; simp; omega
        rw [← this]; exact hl
      simp only [List.length_cons] at hal
      refine ⟨(P ++ (A1 ++ [y]) ++ x :: (A2 ++ S), ((P.length + (A1 ++ [y]).length : Nat) : Int)), ?_, ⟨A1 ++ [y], A2, rfl, by rw [← hA]; simp⟩, ?_⟩
      · have := hb (P ++ A1) (A2 ++ S) y (by simp; omega) hlen
        simp only [List.length_append] at this
        simp only [List.cons_append, this, List.length_append, List.length_cons, List.length_nil]
        simp [Nat.add_assoc]
      · simp only [List.length_append, List.length_cons, List.length_nil]; omega) big (P ++ x :: A ++ S, ((P.length : Nat) : Int)) ⟨[], A, by simp, by simp⟩ (by simp only [List.length_append, List.length_cons] at hl; unfold LIM at hl; exact lim_big (by unfold LIM; simp only; omega))
  obtain ⟨t, e, rfl⟩ := key
  exact e
end
end Go.Sx
