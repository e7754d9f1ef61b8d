/- Rising lists of strings: what a sort and what an inserting loop make of the same strings is the same. -/
import Derived.Test.YtnefegnodjaldaaSxU
import Derived.Sort.Walk0
namespace Go.Sx
open Go.Proofs Go.Sort
set_option linter.unusedVariables false

def kB (s : ByteArray) : List UInt8 := s.data.toList
theorem kB_inj {s t : ByteArray} (h : kB s = kB t) : s = t := by
  obtain ⟨⟨s⟩⟩ := s
  obtain ⟨⟨t⟩⟩ := t
  simp only [kB] at h
  rw [h]
def ltB (s t : ByteArray) : Prop := kB s < kB t
theorem ltB_irrefl (s : ByteArray) : ¬ ltB s s := List.lt_irrefl _
theorem ltB_trans {s t u : ByteArray} (h : ltB s t) (h' : ltB t u) : ltB s u := List.lt_trans h h'
theorem ltB_asymm {s t : ByteArray} (h : ltB s t) (h' : ltB t s) : False := ltB_irrefl s (ltB_trans h h')
theorem ltB_tri (s t : ByteArray) : ltB s t ∨ s = t ∨ ltB t s := by
  by_cases h1 : ltB s t
  · exact .inl h1
  · by_cases h2 : ltB t s
    · exact .inr (.inr h2)
    · exact .inr (.inl (kB_inj (List.le_antisymm (List.not_lt.1 h2) (List.not_lt.1 h1))))
instance (s t : ByteArray) : Decidable (ltB s t) := inferInstanceAs (Decidable (kB s < kB t))
theorem less_eq (s t : ByteArray) : Op.bytesLess s.toList t.toList = decide (ltB s t) := by
  rw [ByteArray.toList_eq, ByteArray.toList_eq, bytesLess_eq]
  rfl
theorem memB_iff {s : ByteArray} : ∀ {D : List ByteArray}, memB s D = true ↔ s ∈ D
  | [] => by simp [memB]
  | d :: D => by
    have ih := memB_iff (s := s) (D := D)
    cases hb : s == d with
    | true => have := (MapKept.bytes_beq s d).1 hb; subst this; simp [memB, hb]
    | false =>
      have hne : s ≠ d := fun e => by rw [(MapKept.bytes_beq s d).2 e] at hb; cases hb
      simp [memB, hb, ih, hne]
def Inc (l : List ByteArray) : Prop := l.Pairwise ltB
theorem inc_ext : ∀ {l m : List ByteArray}, Inc l → Inc m → (∀ x, x ∈ l ↔ x ∈ m) → l = m
  | [], [], _, _, _ => rfl
  | [], b :: m, _, _, h => absurd ((h b).2 (by simp)) (by simp)
  | a :: l, [], _, _, h => absurd ((h a).1 (by simp)) (by simp)
  | a :: l, b :: m, hl, hm, h => by
    have hl' := List.pairwise_cons.1 hl
    have hm' := List.pairwise_cons.1 hm
    have e : a = b := by
      rcases List.mem_cons.1 ((h a).1 (by simp)) with e | ha
      · exact e
      · rcases List.mem_cons.1 ((h b).2 (by simp)) with e | hb
        · exact e.symm
        · exact (ltB_asymm (hl'.1 b hb) (hm'.1 a ha)).elim
    subst e
    rw [inc_ext hl'.2 hm'.2 fun x => ?_]
    constructor
    · intro hx
      rcases List.mem_cons.1 ((h x).1 (List.mem_cons_of_mem _ hx)) with e | hx'
      · subst e; exact (ltB_irrefl _ (hl'.1 _ hx)).elim
      · exact hx'
    · intro hx
      rcases List.mem_cons.1 ((h x).2 (List.mem_cons_of_mem _ hx)) with e | hx'
      · subst e; exact (ltB_irrefl _ (hm'.1 _ hx)).elim
      · exact hx'
/-- the strings met so far, each once -/
def ddB (l : List ByteArray) : List ByteArray := l.foldl (fun D s => putB s D) []
theorem putB_mem {s x : ByteArray} {D : List ByteArray} : x ∈ putB s D ↔ x ∈ D ∨ x = s := by
  unfold putB
  cases h : memB s D with
  | true =>
    have := memB_iff.1 h
    constructor
    · exact .inl
    · rintro (h | rfl)
      · exact h
      · exact this
  | false => simp
theorem putB_nodup {s : ByteArray} {D : List ByteArray} (h : D.Nodup) : (putB s D).Nodup := by
  unfold putB
  cases hb : memB s D with
  | true => exact h
  | false =>
    have : s ∉ D := fun hm => by rw [memB_iff.2 hm] at hb; cases hb
    rw [cond_false, List.nodup_append]
    exact ⟨h, by simp, fun a ha b hb e => by simp at hb; subst hb; subst e; exact this ha⟩
theorem ddB_fold (l : List ByteArray) : ∀ (D : List ByteArray), D.Nodup → (l.foldl (fun D s => putB s D) D).Nodup ∧ (∀ x, x ∈ l.foldl (fun D s => putB s D) D ↔ x ∈ D ∨ x ∈ l) ∧ (l.foldl (fun D s => putB s D) D).length ≤ D.length + l.length := by
  induction l with
  | nil => intro D h; exact ⟨h, by simp, by simp⟩
  | cons a l ih =>
    intro D h
    obtain ⟨h1, h2, h3⟩ := ih (putB a D) (putB_nodup h)
    refine ⟨h1, fun x => ?_, ?_⟩
    · rw [List.foldl_cons, h2, putB_mem]; simp [or_assoc]
    · have : (putB a D).length ≤ D.length + 1 := by
        unfold putB
        cases memB a D <;> simp
      simp only [List.foldl_cons, List.length_cons]
      omega
theorem sortB_inc {l : List ByteArray} (h : l.Nodup) : Inc (sortB l) ∧ ∀ x, x ∈ sortB l ↔ x ∈ l := by
  have hp : ((l.map kB).mergeSort fun x y => decide (x ≤ y)).Perm (l.map kB) := List.mergeSort_perm _ _
  have hmem : ∀ x, x ∈ sortB l ↔ x ∈ l := fun x => by
    unfold sortB
    constructor
    · intro hx
      obtain ⟨b, hb, rfl⟩ := List.mem_map.1 hx
      obtain ⟨s, hs, rfl⟩ := List.mem_map.1 (hp.mem_iff.1 hb)
      exact hs
    · intro hx
      exact List.mem_map.2 ⟨kB x, hp.mem_iff.2 (List.mem_map.2 ⟨x, hx, rfl⟩), rfl⟩
  refine ⟨?_, hmem⟩
  have hnd : ((l.map kB).mergeSort fun x y => decide (x ≤ y)).Nodup := hp.nodup_iff.2 (by
    rw [List.nodup_iff_pairwise_ne, List.pairwise_map]
    exact h.imp fun hne e => hne (kB_inj e))
  have hs : ((l.map kB).mergeSort fun x y => decide (x ≤ y)).Pairwise fun a b => decide (a ≤ b) = true := List.pairwise_mergeSort (fun a b c h1 h2 => by
    simp only [decide_eq_true_eq] at *
    exact List.le_trans h1 h2) (fun a b => by
    rcases List.le_total a b with h | h <;> simp [h]) _
  unfold Inc sortB
  rw [List.pairwise_map]
  refine (hs.and (List.nodup_iff_pairwise_ne.1 hnd)).imp fun {a b} hab => ?_
  have h1 : a ≤ b := by simpa using hab.1
  show a < b
  rcases Decidable.em (a < b) with h | h
  · exact h
  · exact absurd (List.le_antisymm h1 (List.not_lt.1 h)) hab.2
/-- how many stand before p -/
def cntB (p : ByteArray) (l : List ByteArray) : Nat := (l.takeWhile fun x => decide (ltB x p)).length
theorem cntB_le (p : ByteArray) (l : List ByteArray) : cntB p l ≤ l.length := (List.takeWhile_prefix _).length_le
theorem cntB_lt (p : ByteArray) : ∀ (l : List ByteArray) (i : Nat), i < cntB p l → ∃ h : i < l.length, ltB l[i] p
  | [], i, h => by simp [cntB] at h
  | a :: l, i, h => by
    unfold cntB at h
    by_cases ha : ltB a p
    · simp only [List.takeWhile_cons, ha, decide_true, if_true, List.length_cons] at h
      cases i with
      | zero => exact ⟨by simp, ha⟩
      | succ i =>
        obtain ⟨h1, h2⟩ := cntB_lt p l i (by unfold cntB; omega)
        exact ⟨by simp; omega, by simpa using h2⟩
    · simp [List.takeWhile_cons, ha] at h
theorem cntB_at (p : ByteArray) : ∀ (l : List ByteArray) (h : cntB p l < l.length), ¬ ltB l[cntB p l] p
  | [], h => by simp at h
  | a :: l, h => by
    by_cases ha : ltB a p
    · have e : cntB p (a :: l) = cntB p l + 1 := by simp [cntB, List.takeWhile_cons, ha]
      have h' : cntB p l < l.length := by rw [e] at h; simpa using h
      have := cntB_at p l h'
      simp only [e, List.getElem_cons_succ]
      exact this
    · have e : cntB p (a :: l) = 0 := by simp [cntB, List.takeWhile_cons, ha]
      simp only [e, List.getElem_cons_zero]
      exact ha
/-- put into a rising list, once -/
def insB (p : ByteArray) (l : List ByteArray) : List ByteArray :=
  if h : cntB p l < l.length then (if l[cntB p l] = p then l else l.take (cntB p l) ++ [p] ++ l.drop (cntB p l)) else l.take (cntB p l) ++ [p] ++ l.drop (cntB p l)
theorem insB_put {p : ByteArray} {l : List ByteArray} (h : Inc l) (hne : ∀ h : cntB p l < l.length, l[cntB p l] ≠ p) : Inc (l.take (cntB p l) ++ [p] ++ l.drop (cntB p l)) ∧ ∀ x, x ∈ l.take (cntB p l) ++ [p] ++ l.drop (cntB p l) ↔ x ∈ l ∨ x = p := by
  have hd : ∀ x ∈ l.drop (cntB p l), ltB p x := fun x hx => by
    obtain ⟨j, hj, rfl⟩ := List.getElem_of_mem hx
    simp only [List.length_drop] at hj
    rw [List.getElem_drop]
    have hn : cntB p l < l.length := by omega
    have h0 : ltB p l[cntB p l] := by
      rcases ltB_tri l[cntB p l] p with h1 | h1 | h1
      · exact absurd h1 (cntB_at p l hn)
      · exact absurd h1 (hne hn)
      · exact h1
    by_cases hj0 : j = 0
    · subst hj0; exact h0
    · exact ltB_trans h0 (List.pairwise_iff_getElem.1 h _ _ hn (by omega) (by omega))
  have ht : ∀ x ∈ l.take (cntB p l), ltB x p := fun x hx => by
    obtain ⟨j, hj, rfl⟩ := List.getElem_of_mem hx
    simp only [List.length_take] at hj
    rw [List.getElem_take]
    exact (cntB_lt p l j (by omega)).2
  constructor
  · unfold Inc
    rw [List.append_assoc, List.pairwise_append]
    refine ⟨h.sublist (List.take_sublist _ _), ?_, fun a ha b hb => ?_⟩
    · simp only [List.cons_append, List.nil_append, List.pairwise_cons]
      exact ⟨hd, h.sublist (List.drop_sublist _ _)⟩
    · rcases List.mem_append.1 hb with hb | hb
      · simp at hb; subst hb; exact ht a ha
      · exact ltB_trans (ht a ha) (hd b hb)
  · intro x
    have : x ∈ l ↔ x ∈ l.take (cntB p l) ∨ x ∈ l.drop (cntB p l) := by rw [← List.mem_append, List.take_append_drop]
    rw [this]
    simp only [List.mem_append, List.mem_singleton]
    constructor
    · rintro ((h | h) | h)
      · exact .inl (.inl h)
      · exact .inr h
      · exact .inl (.inr h)
    · rintro ((h | h) | h)
      · exact .inl (.inl h)
      · exact .inr h
      · exact .inl (.inr h)
theorem insB_inc {p : ByteArray} {l : List ByteArray} (h : Inc l) : Inc (insB p l) ∧ ∀ x, x ∈ insB p l ↔ x ∈ l ∨ x = p := by
  unfold insB
  split
  · rename_i hl
    split
    · rename_i he
      exact ⟨h, fun x => ⟨.inl, fun hx => by rcases hx with hx | rfl; exact hx; rw [← he]; exact List.getElem_mem hl⟩⟩
    · rename_i he
      exact insB_put h fun _ => he
  · rename_i hl
    exact insB_put h fun h => absurd h hl
theorem insB_len (p : ByteArray) (l : List ByteArray) : (insB p l).length ≤ l.length + 1 := by
  unfold insB
  split
  · split
    · omega
    · simp; omega
  · simp; omega
theorem ins_fold (l : List ByteArray) : ∀ (D : List ByteArray), Inc D → Inc (l.foldl (fun D s => insB s D) D) ∧ (∀ x, x ∈ l.foldl (fun D s => insB s D) D ↔ x ∈ D ∨ x ∈ l) := by
  induction l with
  | nil => intro D h; exact ⟨h, by simp⟩
  | cons a l ih =>
    intro D h
    obtain ⟨h0, h0'⟩ := insB_inc (p := a) h
    obtain ⟨h1, h2⟩ := ih (insB a D) h0
    exact ⟨h1, fun x => by rw [List.foldl_cons, h2, h0']; simp [or_assoc]⟩
/-- THE SAME LIST -/
theorem sort_ins (l : List ByteArray) : sortB (ddB l) = l.foldl (fun D s => insB s D) [] := by
  obtain ⟨a1, a2, _⟩ := ddB_fold l [] (by simp)
  obtain ⟨b1, b2⟩ := sortB_inc a1
  obtain ⟨c1, c2⟩ := ins_fold l [] (by simp [Inc])
  exact inc_ext b1 c1 fun x => by rw [show sortB (ddB l) = sortB (l.foldl (fun D s => putB s D) []) from rfl, b2, a2, c2]
/-- a loop that counts to n, n small enough for the model's bound -/
theorem loop_go {σ τ ρ : Type} {body : σ → Option (Ctl σ τ ρ)} (n : Nat) (st : Nat → σ) (t : τ) (hn : n < big) (h : ∀ i, i < n → body (st i) = some (.next (st (i + 1)))) (he : body (st n) = some (.brk t)) : loopM body big (st 0) = some (.inl t) := by
  obtain ⟨x, h1, h2⟩ := loopM_up (body := body) n (fun i s => s = st i) (fun x => x = .inl t) (fun i s hi hs => .inl ⟨_, by rw [hs]; exact h i hi, rfl⟩) (fun s hs => .inl ⟨t, by rw [hs]; exact he, rfl⟩) (st 0) rfl hn
  rw [h1, h2]
end Go.Sx
