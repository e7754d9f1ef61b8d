/- The library's stable sort, over any comparison: it sorts. -/
import Derived.Test.YtbeialanbblkoaaSxSf
namespace Go.Sx
set_option linter.unusedVariables false
section
variable {α : Type} {less : Int → Int → List α → Option Bool} {lt : α → α → Bool}
/-- sorted pieces of k elements, the last of k or fewer -/
inductive Chk (lt : α → α → Bool) (k : Nat) : List α → Prop where
  | last (l : List α) : l.length ≤ k → Srt lt l → Chk lt k l
  | cons (c r : List α) : c.length = k → Srt lt c → Chk lt k r → Chk lt k (c ++ r)
inductive Ful (lt : α → α → Bool) (k : Nat) : List α → Prop where
  | nil : Ful lt k []
  | snoc (q c : List α) : Ful lt k q → c.length = k → Srt lt c → Ful lt k (q ++ c)
theorem Ful.chk {k : Nat} {Q : List α} (h : Ful lt k Q) : ∀ {T : List α}, Chk lt k T → Chk lt k (Q ++ T) := by
  induction h with
  | nil => intro T hT; exact hT
  | snoc q c _ hc hs ih => intro T hT; rw [List.append_assoc]; exact ih (.cons c T hc hs hT)
theorem Chk.srt {k : Nat} {T : List α} (h : Chk lt k T) (hl : T.length ≤ k) : Srt lt T := by
  cases h with
  | last _ _ hs => exact hs
  | cons c r hc hs hr =>
    have : r = [] := List.eq_nil_of_length_eq_zero (by rw [List.length_append] at hl; omega)
    subst this
    simpa using hs
theorem Chk.one {k : Nat} {T : List α} (h : Chk lt k T) (hl : k < T.length) : ∃ c r, T = c ++ r ∧ c.length = k ∧ Srt lt c ∧ Chk lt k r := by
  cases h with
  | last _ h1 _ => omega
  | cons c r hc hs hr => exact ⟨c, r, rfl, hc, hs, hr⟩
theorem Chk.two {k : Nat} {T : List α} (h : Chk lt k T) (hk : 0 < k) (hl : 2 * k ≤ T.length) : ∃ c d r, T = c ++ d ++ r ∧ c.length = k ∧ d.length = k ∧ Srt lt c ∧ Srt lt d ∧ Chk lt k r := by
  obtain ⟨c, r, rfl, hc, hs, hr⟩ := h.one (by omega)
  rw [List.length_append] at hl
  by_cases hrk : r.length ≤ k
  · exact ⟨c, r, [], by simp, hc, by omega, hs, hr.srt hrk, .last [] (by simp) List.Pairwise.nil⟩
  · obtain ⟨d, r', rfl, hd, hs2, hr2⟩ := hr.one (by omega)
    exact ⟨c, d, r', by simp, hc, hd, hs, hs2, hr2⟩

/-- one round of merging -/
theorem so_pass (hO : Swo lt) (hR : Rds less lt) (row : List α) (k n : Nat) (hn : n = row.length) (hk : 0 < k) (hkn : k < n) (hl : row.length ≤ LIM) (hc : Chk lt k row) :
    ∃ row', (loopM (so_stable_L3 less ((n : Nat) : Int) ((k : Nat) : Int)) big (row, 0, w64 (2 * ((k : Nat) : Int)))).bind (so_stable_L3_k less ((n : Nat) : Int) ((k : Nat) : Int)) = some (.next (row', ((2 * k : Nat) : Int))) ∧ Chk lt (2 * k) row' ∧ row'.Perm row := by
  subst hn
  have hlx := hl
  unfold LIM at hlx
  have e2 : w64 (2 * ((k : Nat) : Int)) = ((2 * k : Nat) : Int) := by rw [show 2 * ((k : Nat) : Int) = ((2 * k : Nat) : Int) by omega]; exact nat64 (by omega)
  have key := loop_end (body := so_stable_L3 less ((row.length : Nat) : Int) ((k : Nat) : Int)) (fun s => ∃ Q T : List α, s = (Q ++ T, ((Q.length : Nat) : Int), ((Q.length + 2 * k : Nat) : Int)) ∧ Ful lt (2 * k) Q ∧ Chk lt k T ∧ (Q ++ T).Perm row) (fun s => row.length - s.2.1.toNat)
    (fun t => ∃ Q T : List α, t = (Q ++ T, ((Q.length : Nat) : Int)) ∧ Ful lt (2 * k) Q ∧ Chk lt k T ∧ (Q ++ T).Perm row ∧ T.length < 2 * k) (fun s hs => by
    obtain ⟨Q, T, rfl, hQ, hT, hp⟩ := hs
    have hpl := hp.length_eq
    rw [List.length_append] at hpl
    by_cases hlt : Q.length + 2 * k ≤ row.length
    · left
      have c : decide (((Q.length + 2 * k : Nat) : Int) ≤ ((row.length : Nat) : Int)) = true := by simp only [decide_eq_true_eq]; omega
      obtain ⟨c1, c2, r, rfl, h1, h2, h3, h4, h5⟩ := hT.two hk (by omega)
      simp only [List.length_append] at hpl
      obtain ⟨C, q1, q2, q3⟩ := so_merge hO hR big Q c1 c2 r (by omega) (by omega) (Nat.le_of_lt (lim_big (by unfold LIM; omega))) (by simp only [List.length_append]; omega) h3 h4
      have hC := q2.length_eq
      rw [List.length_append] at hC
      have e3 : w64 (((Q.length : Nat) : Int) + ((k : Nat) : Int)) = ((Q.length + c1.length : Nat) : Int) := by rw [h1]; exact add64 (by omega)
      refine ⟨((Q ++ C) ++ r, (((Q ++ C).length : Nat) : Int), (((Q ++ C).length + 2 * k : Nat) : Int)), ?_, ⟨Q ++ C, r, rfl, .snoc Q C hQ (by omega) q3, h5, ?_⟩, by simp only [List.length_append]; omega⟩
      · simp only [so_stable_L3, so_stable_L3_b, c, cond_true, e3, e2]
        rw [show Q ++ (c1 ++ c2 ++ r) = Q ++ c1 ++ c2 ++ r by simp, show ((Q.length + 2 * k : Nat) : Int) = ((Q.length + c1.length + c2.length : Nat) : Int) by omega]
        unfold so_symMerge
        rw [q1]
        simp only [Option.bind_some]
        rw [add64 (by omega)]
        simp only [List.length_append]
        rw [show Q.length + c1.length + c2.length = Q.length + C.length by omega]
      · refine List.Perm.trans ?_ hp
        rw [List.append_assoc]
        exact List.Perm.append_left Q (List.Perm.append_right r q2)
    · right
      have c : decide (((Q.length + 2 * k : Nat) : Int) ≤ ((row.length : Nat) : Int)) = false := by simp only [decide_eq_false_iff_not]; omega
      exact ⟨(Q ++ T, ((Q.length : Nat) : Int)), by simp only [so_stable_L3, so_stable_L3_b, c, cond_false], Q, T, rfl, hQ, hT, hp, by omega⟩) big (row, 0, ((2 * k : Nat) : Int)) ⟨[], row, by simp, .nil, hc, List.Perm.refl _⟩ (by simp only; exact lim_big (by unfold LIM; omega))
  obtain ⟨t, e, Q, T, rfl, hQ, hT, hp, htk⟩ := key
  have hpl := hp.length_eq
  rw [List.length_append] at hpl
  rw [e2, e]
  simp only [Option.bind_some, so_stable_L3_k, so_stable_L3_a]
  have e3 : w64 (((Q.length : Nat) : Int) + ((k : Nat) : Int)) = ((Q.length + k : Nat) : Int) := add64 (by omega)
  have e4 : w64 (((k : Nat) : Int) * 2) = ((2 * k : Nat) : Int) := by rw [Int.mul_comm]; exact e2
  rw [e3, e4]
  by_cases hlt : Q.length + k < row.length
  · have c : decide (((Q.length + k : Nat) : Int) < ((row.length : Nat) : Int)) = true := by simp only [decide_eq_true_eq]; omega
    rw [c, cond_true]
    obtain ⟨c1, c2, rfl, h1, h2, h3⟩ := hT.one (by omega)
    rw [List.length_append] at hpl htk
    have h4 : Srt lt c2 := h3.srt (by omega)
    obtain ⟨C, q1, q2, q3⟩ := so_merge hO hR big Q c1 c2 [] (by omega) (by omega) (Nat.le_of_lt (lim_big (by unfold LIM; omega))) (by simp only [List.length_append, List.length_nil]; omega) h2 h4
    have hC := q2.length_eq
    rw [List.length_append] at hC
    simp only [List.append_nil] at q1
    refine ⟨Q ++ C, ?_, hQ.chk (.last C (by omega) q3), (List.Perm.append_left Q q2).trans hp⟩
    rw [← List.append_assoc, show Q.length + k = Q.length + c1.length by omega, show ((row.length : Nat) : Int) = ((Q.length + c1.length + c2.length : Nat) : Int) by omega]
    unfold so_symMerge
    rw [q1]
    rfl
  · have c : decide (((Q.length + k : Nat) : Int) < ((row.length : Nat) : Int)) = false := by simp only [decide_eq_false_iff_not]; omega
    rw [c, cond_false]
    exact ⟨Q ++ T, rfl, hQ.chk (.last T (by omega) (hT.srt (by omega))), hp⟩

theorem so_stable_spec (hO : Swo lt) (hR : Rds less lt) (l : List α) (hl : l.length ≤ LIM) : ∃ r, so_stable less l ((l.length : Nat) : Int) = some r ∧ r.Perm l ∧ Srt lt r := by
  have hlx := hl
  unfold LIM at hlx
  have key := loop_end (body := so_stable_L1 less ((l.length : Nat) : Int)) (fun s => ∃ Q T : List α, s = (Q ++ T, ((Q.length : Nat) : Int), ((Q.length + 20 : Nat) : Int)) ∧ Ful lt 20 Q ∧ (Q ++ T).Perm l) (fun s => l.length - s.2.1.toNat)
    (fun t => ∃ Q T : List α, t = (Q ++ T, ((Q.length : Nat) : Int)) ∧ Ful lt 20 Q ∧ (Q ++ T).Perm l ∧ T.length < 20) (fun s hs => by
    obtain ⟨Q, T, rfl, hQ, hp⟩ := hs
    have hpl := hp.length_eq
    rw [List.length_append] at hpl
    by_cases hlt : Q.length + 20 ≤ l.length
    · left
      have c : decide (((Q.length + 20 : Nat) : Int) ≤ ((l.length : Nat) : Int)) = true := by simp only [decide_eq_true_eq]; omega
      have hT : T = T.take 20 ++ T.drop 20 := (List.take_append_drop _ _).symm
      have l1 : (T.take 20).length = 20 := by rw [List.length_take]; omega
      generalize T.take 20 = T1 at hT l1
      generalize T.drop 20 = T2 at hT
      subst hT
      rw [List.length_append] at hpl
      obtain ⟨A', q1, q2, q3⟩ := so_insertionSort_spec hO hR Q T1 T2 (by simp only [List.length_append]; unfold LIM; omega) (a := ((Q.length : Nat) : Int)) (b := ((Q.length + 20 : Nat) : Int)) rfl (by rw [l1])
      have hA := q2.length_eq
      refine ⟨((Q ++ A') ++ T2, (((Q ++ A').length : Nat) : Int), (((Q ++ A').length + 20 : Nat) : Int)), ?_, ⟨Q ++ A', T2, rfl, .snoc Q A' hQ (by omega) q3, ?_⟩, by simp only [List.length_append]; omega⟩
      · simp only [so_stable_L1, so_stable_L1_b, c, cond_true]
        rw [← List.append_assoc, q1]
        simp only [Option.bind_some]
        have e3 : w64 (((Q.length + 20 : Nat) : Int) + 20) = ((Q.length + 20 + 20 : Nat) : Int) := add64 (y := 20) (by omega)
        rw [e3]
        simp only [List.length_append]
        rw [show Q.length + 20 = Q.length + A'.length by omega]
      · refine List.Perm.trans ?_ hp
        rw [List.append_assoc]
        exact List.Perm.append_left Q (List.Perm.append_right T2 q2)
    · right
      have c : decide (((Q.length + 20 : Nat) : Int) ≤ ((l.length : Nat) : Int)) = false := by simp only [decide_eq_false_iff_not]; omega
      exact ⟨(Q ++ T, ((Q.length : Nat) : Int)), by simp only [so_stable_L1, so_stable_L1_b, c, cond_false], Q, T, rfl, hQ, hp, by omega⟩) big (l, 0, 20) ⟨[], l, by simp, .nil, List.Perm.refl _⟩ (by simp only; exact lim_big (by unfold LIM; omega))
  obtain ⟨t, e, Q, T, rfl, hQ, hp, htk⟩ := key
  have hpl := hp.length_eq
  rw [List.length_append] at hpl
  obtain ⟨A', q1, q2, q3⟩ := so_insertionSort_spec hO hR Q T [] (by simp only [List.length_append, List.length_nil]; unfold LIM; omega) (a := ((Q.length : Nat) : Int)) (b := ((l.length : Nat) : Int)) rfl (by omega)
  have hA := q2.length_eq
  simp only [List.append_nil] at q1
  have hc0 : Chk lt 20 (Q ++ A') := hQ.chk (.last A' (by omega) q3)
  have hp0 : (Q ++ A').Perm l := (List.Perm.append_left Q q2).trans hp
  unfold so_stable
  rw [e]
  simp only [Option.bind_some, so_stable_L1_k, so_stable_L1_a]
  rw [q1]
  simp only [Option.bind_some]
  obtain ⟨r, e2, h1, h2⟩ := loop_end (body := so_stable_L2 less ((l.length : Nat) : Int)) (fun s => ∃ (row : List α) (k : Nat), s = (row, ((k : Nat) : Int)) ∧ 0 < k ∧ Chk lt k row ∧ row.Perm l) (fun s => l.length - s.2.toNat)
    (fun t => t.Perm l ∧ Srt lt t) (fun s hs => by
    obtain ⟨row, k, rfl, hk, hc, hp⟩ := hs
    have hpl := hp.length_eq
    by_cases hlt : k < l.length
    · left
      have c : decide (((k : Nat) : Int) < ((l.length : Nat) : Int)) = true := by simp only [decide_eq_true_eq]; omega
      obtain ⟨row', q1, q2, q3⟩ := so_pass hO hR row k l.length (by omega) hk hlt (by unfold LIM; omega) hc
      exact ⟨_, by simp only [so_stable_L2, so_stable_L2_b, c, cond_true]; exact q1, ⟨row', 2 * k, rfl, by omega, q2, q3.trans hp⟩, by simp only; omega⟩
    · right
      have c : decide (((k : Nat) : Int) < ((l.length : Nat) : Int)) = false := by simp only [decide_eq_false_iff_not]; omega
      exact ⟨row, by simp only [so_stable_L2, so_stable_L2_b, c, cond_false], hp, hc.srt (by omega)⟩) big (Q ++ A', 20) ⟨Q ++ A', 20, rfl, by omega, hc0, hp0⟩ (by simp only; exact lim_big (by unfold LIM; omega))
  exact ⟨r, by rw [e2]; rfl, h1, h2⟩
end
end Go.Sx
