/- The library's stable sort, over any comparison: two sorted neighbours are merged in place. -/
import Derived.Test.YtbeialanbblkoaaSxSd
namespace Go.Sx
set_option linter.unusedVariables false
section
variable {α : Type} {less : Int → Int → List α → Option Bool} {lt : α → α → Bool}
def so_rest (self : List α → Int → Int → Int → Option (List α)) (a1 a3 M E s : Int) (row : List α) : Option (List α) :=
  (if a1 < s ∧ s < M then self row a1 s M else some row).bind fun row1 => if M < E ∧ E < a3 then self row1 M E a3 else some row1
theorem obind (x : Option (List α)) : (x.bind fun v => some v) = x := by cases x <;> rfl
theorem so_j2_eq {self : List α → Int → Int → Int → Option (List α)} {a1 a2 a3 s M E : Int} (hM : w64 (Int.fdiv (IntKind.u64.wrap (w64 (a1 + a3))) (2 ^ 1)) = M) (hE : w64 ((w64 (M + a2)) - s) = E) (row : List α) :
    so_symMerge_j2 self a1 a2 a3 s row = so_rest self a1 a3 M E s row := by
  unfold so_symMerge_j2 so_symMerge_j3 so_rest
  simp only [hM, hE, obind]
  by_cases h1 : a1 < s <;> by_cases h2 : s < M <;> by_cases h3 : M < E <;> by_cases h4 : E < a3 <;> simp [h1, h2, h3, h4, obind]
theorem so_L5_a_eq {self : List α → Int → Int → Int → Option (List α)} {a1 a2 a3 s M E : Int} (hM : w64 (Int.fdiv (IntKind.u64.wrap (w64 (a1 + a3))) (2 ^ 1)) = M) (hE : w64 ((w64 (M + a2)) - s) = E) (row : List α) :
    so_symMerge_L5_a self row a1 a2 a3 s = (if s < a2 ∧ a2 < E then so_rotate row s a2 E else some row).bind (so_rest self a1 a3 M E s) := by
  unfold so_symMerge_L5_a
  simp only [so_j2_eq hM hE]
  unfold so_symMerge_j4 so_rest
  simp only [hM, hE, obind]
  by_cases h5 : s < a2 <;> by_cases h6 : a2 < E <;> by_cases h1 : a1 < s <;> by_cases h2 : s < M <;> by_cases h3 : M < E <;> by_cases h4 : E < a3 <;> simp [h1, h2, h3, h4, h5, h6, obind]

theorem get_A (P A B S : List α) {k : Nat} (hk : k < A.length) : (P ++ A ++ B ++ S)[P.length + k]? = A[k]? := by
  simp only [List.append_assoc]
  rw [List.getElem?_append_right (by omega), List.getElem?_append_left (by omega)]
  congr 1; omega
theorem get_B (P A B S : List α) {k : Nat} (hk : k < B.length) : (P ++ A ++ B ++ S)[P.length + A.length + k]? = B[k]? := by
  rw [List.append_assoc, List.getElem?_append_right (by simp), List.getElem?_append_left (by simp; omega)]
  congr 1; simp
theorem mem_take' {l : List α} {t : Nat} {y : α} (h : y ∈ l.take t) : ∃ k, k < t ∧ l[k]? = some y := by
  obtain ⟨k, hk, rfl⟩ := List.mem_iff_getElem.1 h
  have : k < t ∧ k < l.length := by rw [List.length_take] at hk; omega
  exact ⟨k, this.1, by rw [List.getElem_take]; exact List.getElem?_eq_getElem this.2⟩
theorem mem_drop' {l : List α} {t : Nat} {y : α} (h : y ∈ l.drop t) : ∃ k, t ≤ k ∧ l[k]? = some y := by
  obtain ⟨k, hk, rfl⟩ := List.mem_iff_getElem.1 h
  have : t + k < l.length := by rw [List.length_drop] at hk; omega
  exact ⟨t + k, by omega, by rw [List.getElem_drop]; exact List.getElem?_eq_getElem this⟩

/-- the first run is one element -/
theorem so_merge_one (hO : Swo lt) (hR : Rds less lt) (P B S : List α) (x : α) (hl : (P ++ [x] ++ B ++ S).length ≤ LIM) (hs : Srt lt B) :
    ∃ C, (loopM (so_symMerge_L1 less (P ++ [x] ++ B ++ S) ((P.length : Nat) : Int)) big (((P.length + 1 : Nat) : Int), ((P.length + 1 + B.length : Nat) : Int))).bind (so_symMerge_L1_k (P ++ [x] ++ B ++ S) ((P.length : Nat) : Int)) = some (P ++ C ++ S) ∧ C.Perm ([x] ++ B) ∧ Srt lt C := by
  have hlx := hl
  unfold LIM at hlx
  simp only [List.length_append, List.length_cons, List.length_nil] at hlx
  have gx : (P ++ [x] ++ B ++ S)[P.length]? = some x := by simp
  have gB : ∀ k, k < B.length → (P ++ [x] ++ B ++ S)[P.length + 1 + k]? = B[k]? := fun k hk => get_B P [x] B S hk
  let p : Nat → Bool := fun h => match B[h - (P.length + 1)]? with
    | some y => lt y x
    | none => false
  have hp : ∀ h, P.length + 1 ≤ h → h < P.length + 1 + B.length → ∃ y, B[h - (P.length + 1)]? = some y ∧ p h = lt y x ∧ less (h : Int) ((P.length : Nat) : Int) (P ++ [x] ++ B ++ S) = some (p h) := fun h h1 h2 => by
    have hk : h - (P.length + 1) < B.length := by omega
    obtain ⟨y, hy⟩ : ∃ y, B[h - (P.length + 1)]? = some y := ⟨_, List.getElem?_eq_getElem hk⟩
    have hpy : p h = lt y x := by simp only [p, hy]
    have hg := gB _ hk
    rw [show P.length + 1 + (h - (P.length + 1)) = h by omega, hy] at hg
    exact ⟨y, hy, hpy, by rw [hpy]; exact hR _ _ _ _ _ hg gx⟩
  obtain ⟨i, i1, i2, hrun, i3, i4⟩ := bs_loop (body := so_symMerge_L1 less (P ++ [x] ++ B ++ S) ((P.length : Nat) : Int)) p (P.length + 1) (P.length + 1 + B.length) (by unfold LIM; omega)
    (fun u v h1 h2 h3 => by
      have c : decide ((u : Int) < (v : Int)) = true := by simp; exact h2
      have hm := mid64 (x := u) (y := v) (by omega)
      obtain ⟨y, _, _, hl'⟩ := hp ((u + v) / 2) (by omega) (by omega)
      simp only [so_symMerge_L1, so_symMerge_L1_b, c, cond_true, hm, hl', Option.bind_some]
      cases p ((u + v) / 2) with
      | true => simp only [cond_true, if_true]; rw [w64_succ (i := (u + v) / 2) (by omega)]
      | false => simp)
    (fun u h1 h2 => by
      have c : decide ((u : Int) < (u : Int)) = false := by simp
      simp only [so_symMerge_L1, so_symMerge_L1_b, c, cond_false])
    (fun h h' h1 h2 h3 ht => by
      obtain ⟨y, hy, hpy, _⟩ := hp h h1 (by omega)
      obtain ⟨y', hy', hpy', _⟩ := hp h' (by omega) h3
      rw [hpy'] at ht
      rw [hpy]
      cases hc : lt y x with
      | true => rfl
      | false => rw [hO.trans x y y' hc (hs.get hO hy hy' (by omega))] at ht; cases ht) (by omega)
  have hBs : B = B.take (i - (P.length + 1)) ++ B.drop (i - (P.length + 1)) := (List.take_append_drop _ _).symm
  have f1 : ∀ y ∈ B.take (i - (P.length + 1)), lt x y = false := fun y hy => by
    obtain ⟨k, hk, hy⟩ := mem_take' hy
    obtain ⟨y', hy', hpy, _⟩ := hp (P.length + 1 + k) (by omega) (by omega)
    rw [show P.length + 1 + k - (P.length + 1) = k by omega, hy] at hy'
    have := i3 (P.length + 1 + k) (by omega) (by omega)
    rw [hpy, ← Option.some.inj hy'] at this
    exact hO.asym _ _ this
  have f2 : ∀ y ∈ B.drop (i - (P.length + 1)), lt y x = false := fun y hy => by
    obtain ⟨k, hk, hy⟩ := mem_drop' hy
    have hkl : k < B.length := (List.getElem?_eq_some_iff.1 hy).1
    obtain ⟨y', hy', hpy, _⟩ := hp (P.length + 1 + k) (by omega) (by omega)
    rw [show P.length + 1 + k - (P.length + 1) = k by omega, hy] at hy'
    have := i4 (P.length + 1 + k) (by omega) (by omega)
    rw [hpy, ← Option.some.inj hy'] at this
    exact this
  generalize h1 : B.take (i - (P.length + 1)) = B1 at hBs f1
  generalize h2 : B.drop (i - (P.length + 1)) = B2 at hBs f2
  have l1 : B1.length = i - (P.length + 1) := by rw [← h1, List.length_take]; omega
  have hl' : (P ++ x :: B1 ++ (B2 ++ S)).length ≤ LIM := by rw [hBs] at hl; simpa using hl
  have hlz := hl'
  unfold LIM at hlz
  simp only [List.length_append, List.length_cons] at hlz
  have hsh := shift_right (body := so_symMerge_L2 (i : Int)) P B1 (B2 ++ S) x hl'
    (fun L R y hL hLl => by
      unfold LIM at hLl
      simp only [List.length_append, List.length_cons] at hLl
      have e1 : w64 ((i : Int) - 1) = ((i - 1 : Nat) : Int) := sub64 (y := 1) (by omega) (by omega)
      have e2 : w64 (((L.length : Nat) : Int) + 1) = ((L.length + 1 : Nat) : Int) := add64 (y := 1) (by omega)
      have c : decide (((L.length : Nat) : Int) < ((i - 1 : Nat) : Int)) = true := by simp; omega
      have g1 : (L ++ x :: y :: R)[L.length]? = some x := by simp
      have g2 : (L ++ x :: y :: R)[L.length + 1]? = some y := by rw [List.getElem?_append_right (by omega)]; simp
      simp only [so_symMerge_L2, so_symMerge_L2_b, e1, e2, c, cond_true, gi_app, g1, g2, Option.bind_some]
      have := set_two (L := L) (M := []) (R := R) (x := x) (y := y) (i := Int.toNat ((L.length : Nat) : Int)) (j := Int.toNat (((L.length + 1 : Nat)) : Int)) (Int.toNat_natCast _) (by rw [Int.toNat_natCast]; rfl)
      simp only [List.nil_append] at this
      rw [this])
    (fun R => by
      have e1 : w64 ((i : Int) - 1) = ((i - 1 : Nat) : Int) := sub64 (y := 1) (by omega) (by omega)
      have c : decide (((P.length + B1.length : Nat) : Int) < ((i - 1 : Nat) : Int)) = false := by simp; omega
      simp only [so_symMerge_L2, so_symMerge_L2_b, e1, c, cond_false])
  refine ⟨B1 ++ x :: B2, ?_, ?_, Srt.put (by rw [← hBs]; exact hs) f1 f2⟩
  · rw [hrun]
    simp only [Option.bind_some, so_symMerge_L1_k, so_symMerge_L1_a]
    rw [show P ++ [x] ++ B ++ S = P ++ x :: B1 ++ (B2 ++ S) by rw [hBs]; simp, hsh]
    simp [so_symMerge_L2_k, so_symMerge_L2_a]
  · rw [hBs]; exact List.perm_middle
/-- the second run is one element -/
theorem so_merge_last (hO : Swo lt) (hR : Rds less lt) (P A S : List α) (x : α) (hl : (P ++ A ++ [x] ++ S).length ≤ LIM) (hs : Srt lt A) :
    ∃ C, (loopM (so_symMerge_L3 less (P ++ A ++ [x] ++ S) ((P.length + A.length : Nat) : Int)) big (((P.length : Nat) : Int), ((P.length + A.length : Nat) : Int))).bind (so_symMerge_L3_k (P ++ A ++ [x] ++ S) ((P.length + A.length : Nat) : Int)) = some (P ++ C ++ S) ∧ C.Perm (A ++ [x]) ∧ Srt lt C := by
  have hlx := hl
  unfold LIM at hlx
  simp only [List.length_append, List.length_cons, List.length_nil] at hlx
  have gx : (P ++ A ++ [x] ++ S)[P.length + A.length]? = some x := by simp
  have gA : ∀ k, k < A.length → (P ++ A ++ [x] ++ S)[P.length + k]? = A[k]? := fun k hk => get_A P A [x] S hk
  let p : Nat → Bool := fun h => match A[h - P.length]? with
    | some y => !lt x y
    | none => false
  have hp : ∀ h, P.length ≤ h → h < P.length + A.length → ∃ y, A[h - P.length]? = some y ∧ p h = !lt x y ∧ less ((P.length + A.length : Nat) : Int) (h : Int) (P ++ A ++ [x] ++ S) = some (!p h) := fun h h1 h2 => by
    have hk : h - P.length < A.length := by omega
    obtain ⟨y, hy⟩ : ∃ y, A[h - P.length]? = some y := ⟨_, List.getElem?_eq_getElem hk⟩
    have hpy : p h = !lt x y := by simp only [p, hy]
    have hg := gA _ hk
    rw [show P.length + (h - P.length) = h by omega, hy] at hg
    exact ⟨y, hy, hpy, by rw [hpy, Bool.not_not]; exact hR _ _ _ _ _ gx hg⟩
  obtain ⟨i, i1, i2, hrun, i3, i4⟩ := bs_loop (body := so_symMerge_L3 less (P ++ A ++ [x] ++ S) ((P.length + A.length : Nat) : Int)) p P.length (P.length + A.length) (by unfold LIM; omega)
    (fun u v h1 h2 h3 => by
      have c : decide ((u : Int) < (v : Int)) = true := by simp; exact h2
      have hm := mid64 (x := u) (y := v) (by omega)
      obtain ⟨y, _, _, hl'⟩ := hp ((u + v) / 2) (by omega) (by omega)
      simp only [so_symMerge_L3, so_symMerge_L3_b, c, cond_true, hm, hl', Option.bind_some, Bool.not_not]
      cases p ((u + v) / 2) with
      | true => simp only [cond_true, if_true]; rw [w64_succ (i := (u + v) / 2) (by omega)]
      | false => simp)
    (fun u h1 h2 => by
      have c : decide ((u : Int) < (u : Int)) = false := by simp
      simp only [so_symMerge_L3, so_symMerge_L3_b, c, cond_false])
    (fun h h' h1 h2 h3 ht => by
      obtain ⟨y, hy, hpy, _⟩ := hp h h1 (by omega)
      obtain ⟨y', hy', hpy', _⟩ := hp h' (by omega) h3
      rw [hpy'] at ht
      rw [hpy]
      have ht : lt x y' = false := by simpa using ht
      rw [hO.trans y y' x (hs.get hO hy hy' (by omega)) ht]; rfl) (by omega)
  have hAs : A = A.take (i - P.length) ++ A.drop (i - P.length) := (List.take_append_drop _ _).symm
  have f1 : ∀ y ∈ A.take (i - P.length), lt x y = false := fun y hy => by
    obtain ⟨k, hk, hy⟩ := mem_take' hy
    obtain ⟨y', hy', hpy, _⟩ := hp (P.length + k) (by omega) (by omega)
    rw [show P.length + k - P.length = k by omega, hy] at hy'
    have := i3 (P.length + k) (by omega) (by omega)
    rw [hpy, ← Option.some.inj hy'] at this
    simpa using this
  have f2 : ∀ y ∈ A.drop (i - P.length), lt y x = false := fun y hy => by
    obtain ⟨k, hk, hy⟩ := mem_drop' hy
    have hkl : k < A.length := (List.getElem?_eq_some_iff.1 hy).1
    obtain ⟨y', hy', hpy, _⟩ := hp (P.length + k) (by omega) (by omega)
    rw [show P.length + k - P.length = k by omega, hy] at hy'
    have := i4 (P.length + k) (by omega) (by omega)
    rw [hpy, ← Option.some.inj hy'] at this
    exact hO.asym _ _ (by simpa using this)
  have l0 : (A.take (i - P.length)).length = i - P.length := by rw [List.length_take]; omega
  generalize h1 : A.take (i - P.length) = A1 at hAs f1 l0
  generalize h2 : A.drop (i - P.length) = A2 at hAs f2
  have hl' : ((P ++ A1) ++ A2 ++ x :: S).length ≤ LIM := by rw [hAs] at hl; simpa using hl
  have hlz := hl'
  unfold LIM at hlz
  simp only [List.length_append, List.length_cons] at hlz
  have hAl := congrArg List.length hAs
  simp only [List.length_append] at hAl
  have hsh := shift_left (body := so_symMerge_L4 (i : Int)) (P ++ A1) A2 S x hl'
    (fun L R y hL hLl => by
      unfold LIM at hLl
      simp only [List.length_append, List.length_cons] at hLl hL
      have e2 : w64 (((L.length + 1 : Nat) : Int) - 1) = ((L.length : Nat) : Int) := by
        have := sub64 (x := L.length + 1) (y := 1) (by omega) (by omega)
        simpa using this
      have c : decide (((L.length + 1 : Nat) : Int) > (i : Int)) = true := by simp; omega
      have g1 : (L ++ y :: x :: R)[L.length]? = some y := by simp
      have g2 : (L ++ y :: x :: R)[L.length + 1]? = some x := by rw [List.getElem?_append_right (by omega)]; simp
      simp only [so_symMerge_L4, so_symMerge_L4_b, e2, c, cond_true, gi_app, g1, g2, Option.bind_some]
      have := set_two' (L := L) (M := []) (R := R) (x := y) (y := x) (i := Int.toNat ((L.length : Nat) : Int)) (j := Int.toNat (((L.length + 1 : Nat)) : Int)) (Int.toNat_natCast _) (by rw [Int.toNat_natCast]; rfl)
      simp only [List.nil_append] at this
      rw [this])
    (fun R => by
      have c : decide ((((P ++ A1).length : Nat) : Int) > (i : Int)) = false := by simp; omega
      simp only [so_symMerge_L4, so_symMerge_L4_b, c, cond_false])
  refine ⟨A1 ++ x :: A2, ?_, ?_, Srt.put (by rw [← hAs]; exact hs) f1 f2⟩
  · rw [hrun]
    simp only [Option.bind_some, so_symMerge_L3_k, so_symMerge_L3_a]
    rw [show P ++ A ++ [x] ++ S = (P ++ A1) ++ A2 ++ x :: S by rw [hAs]; simp, show P.length + A.length = (P ++ A1).length + A2.length by simp; omega, hsh]
    simp [so_symMerge_L4_k, so_symMerge_L4_a]
  · rw [hAs]
    have : (A1 ++ A2 ++ [x]).Perm (A1 ++ (x :: A2)) := by
      rw [List.append_assoc]; exact List.Perm.append_left A1 (List.perm_append_comm (l₁ := A2) (l₂ := [x]))
    exact this.symm
end
end Go.Sx
