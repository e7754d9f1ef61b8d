/- Part of a proof: SxU SxV SxW SxY SxZ. -/
import Derived.Test.YtpgpgangmkjhlaaSxT
import Derived.Shelf.Sort.AssemblysIn
import Derived.Sort.EveryDepth
import Derived.Sort.OwnSorted
import Derived.Sort.Walk0
section
/- The library's sort of strings, as a contract of the symbolic executor. -/
namespace Go.Sx
open Go.Proofs Go.Sort Go.Shelf
set_option linter.unusedVariables false

def sortB (l : List ByteArray) : List ByteArray := ((l.map fun s => s.data.toList).mergeSort fun x y => decide (x ≤ y)).map fun b => ⟨b.toArray⟩
theorem sortB_len (l : List ByteArray) : (sortB l).length = l.length := by simp [sortB]
theorem flat_encS (l : List ByteArray) : (l.map encS).flatten = (l.map fun s => s.data.toList).map encStr := by
  induction l with
  | nil => rfl
  | cons a l ih =>
    rw [List.map_cons, List.flatten_cons, ih]
    simp [encS, encStr]
theorem encS_len (l : List ByteArray) : ∀ cs ∈ l.map encS, cs.length = 1 := fun cs h => by
  obtain ⟨s, _, rfl⟩ := List.mem_map.1 h; rfl
theorem encS_one (l : List ByteArray) : ∀ y ∈ (l.map encS).flatten, y.oneCell' = true := fun y h => by
  obtain ⟨cs, hc, hy⟩ := List.mem_flatten.1 h
  obtain ⟨s, _, rfl⟩ := List.mem_map.1 hc
  simp [encS] at hy
  subst hy; rfl
theorem sort_plain {P : Program} {σ : Ren} (Ly : Lays.n192 P σ) (blk off cap : Nat) (ss : List (List UInt8)) (w : World) (hH : Holds encStr w blk off ss.toArray) (hblk : blk < w.heap.size) (hsz : ss.length < 4611686018427387904) :
    Calls P (σ.f 192) #[.slice (some ⟨blk, off, none⟩) ss.length cap] w fun e w' =>
      e = .returned (.tuple #[]) ∧ ∃ n os, w' = grow (putRow encStr (Sort.ahead w n) blk off (ss.mergeSort fun x y => decide (x ≤ y)).toArray) os :=
  calls_of_every_depth fun D => AnyS.sort_Strings_in Ly D blk off cap ss w hH hblk hsz
theorem con_sort {P : Program} {σ : Ren} (Ly : Lays.n192 P σ) {f : FuncId} (hf : σ.f 192 = f) (hnil : Con P f [.c (.v (.slice none 0 0))] [] (.tup []) [] []) (a0 : List ByteArray) (hl : a0.length < 4611686018427387904) :
    Con P f [.c (.sl 900)] [(900, .row 9 1 (a0.map encS))] (.tup []) [(900, .row 9 1 ((sortB a0).map encS))] [] := by
  subst hf
  intro ρ g w vs htab hgs hob hargs
  match vs, hargs with
  | [y], hargs =>
  have hy : y = ρ 900 := hargs.1.1
  have hrow := hob.ok (900, .row 9 1 (a0.map encS)) (by simp)
  obtain ⟨⟨hlen, hr⟩, h2, h3⟩ := hrow
  rcases hr with ⟨hr, h0⟩ | ⟨b, cap, cur, hr, hz, hh, hnn, hm, hcs, htk⟩
  · have h00 : a0 = [] := by simpa using h0
    subst h00
    have hr' : ρ 900 = .slice none 0 0 := hr
    have hs : sortB [] = [] := by simp [sortB]
    rw [hs, hy, hr']
    refine (hnil ρ g w [.slice none 0 0] htab hgs ⟨by simp, (fun p hp => absurd hp (by simp)), (fun p hp => absurd hp (by simp)), (fun p hp => absurd hp (by simp)), (fun p hp => absurd hp (by simp))⟩ ⟨rfl, trivial⟩).mono ?_
    rintro e w' ⟨v, ρ', g', e1, e2, e3, e4, e5, e6, e7, e8⟩
    have hρ : ρ' 900 = .slice none 0 0 := (e2 900 (by simp)).trans hr'
    refine ⟨v, ρ', g', e1, fun id _ => e2 id (by simp), ⟨e3.os, e3.tape, e3.output, e3.size, fun k hk _ => e3.block k hk fun ⟨p, hp, _⟩ => by cases hp⟩, e4, e5, fun b c hb => ?_, e7, ⟨by simp, fun p hp => ?_, fun p hp k hk => ?_, fun p hp q hq hpq => ?_, fun p hp k hk => ?_⟩⟩
    · rcases e6 b c hb with h | ⟨p, hp, _⟩ | h
      · exact .inl h
      · cases hp
      · exact .inr (.inr h)
    all_goals simp only [List.append_nil, List.mem_singleton] at hp; subst hp
    · refine ⟨⟨by simp, .inl ⟨hρ, by simp⟩⟩, by simp, by simp⟩
    · simp only [hρ] at hk; simp [blk] at hk
    · simp only [List.append_nil, List.mem_singleton] at hq; subst hq; exact absurd rfl hpq
    · simp only [hρ] at hk; simp [blk] at hk
  · have hr' : ρ 900 = .slice (some ⟨b, 0, none⟩) (a0.map encS).length cap := hr
    have htk' : cur.toList.take (a0.map fun s => s.data.toList).length = (a0.map fun s => s.data.toList).map encStr := by
      rw [← flat_encS, ← htk]; simp
    have hH : Holds encStr w b 0 (a0.map fun s => s.data.toList).toArray := holds_of_block hh htk'
    have hc := sort_plain Ly b 0 cap (a0.map fun s => s.data.toList) w hH (heap_lt hh) (by simpa using hl)
    have hbk : blk (ρ 900) = some b := by rw [hr']; rfl
    have hgb : g b = none := hob.ro (900, .row 9 1 (a0.map encS)) (by simp) b hbk
    rw [hy, hr', show (a0.map encS).length = (a0.map fun s => s.data.toList).length by simp]
    refine hc.mono ?_
    rintro e w' ⟨e1, n, os, rfl⟩
    have hg := grownBy_sorted (w := w) (g := b) (n := n) (os := os) ((a0.map fun s => s.data.toList).mergeSort fun x y => decide (x ≤ y)).toArray
    refine ⟨.tuple #[], ρ, g, e1, fun _ _ => rfl, ⟨hg.os, hg.tape, hg.output, hg.size, fun k hk hn => hg.block k hk fun e => hn ⟨(900, .row 9 1 (a0.map encS)), by simp, by show blk (ρ 900) = some k; rw [hbk, e]⟩⟩, fun k c hk => ?_, fun _ _ h => h, fun _ _ h => .inl h, ⟨[], rfl, trivial⟩, ⟨by simp, fun p hp => ?_, fun p hp k hk => ?_, fun p hp q hq hpq => ?_, fun p hp k hk => ?_⟩⟩
    · have hne : k ≠ b := fun e => by rw [e, hgb] at hk; cases hk
      obtain ⟨e, fr, he⟩ := hgs k c hk
      exact ⟨e, fr, by rw [hg.block k (heap_lt he) (fun e => hne (by injection e))]; exact he⟩
    all_goals simp only [List.append_nil, List.mem_singleton] at hp; subst hp
    · refine ⟨?_, encS_len _, encS_one _⟩
      have ho := ownsRow_sorted (w := w) (base := 0) (g := b) (cap := cap) (n := n) (e := 9) (os := os) (cur := cur) (ss := a0.map fun s => s.data.toList) (ts := (a0.map fun s => s.data.toList).mergeSort fun x y => decide (x ≤ y)) (by simp) (Nat.zero_le _) hh (by simpa using hnn) hm hcs
      have e3 : ((sortB a0).map encS).flatten = ((a0.map fun s => s.data.toList).mergeSort fun x y => decide (x ≤ y)).map encStr := by
        rw [flat_encS]; simp [sortB]
      rw [e3]
      show World.ownsRow _ 0 9 1 (ρ 900) _ _
      rw [hr']
      have e4 : ((sortB a0).map encS).length = (a0.map fun s => s.data.toList).length := by simp [sortB_len]
      rw [e4, show (a0.map encS).length = (a0.map fun s => s.data.toList).length by simp]
      exact ho
    · exact .inl ⟨(900, .row 9 1 (a0.map encS)), by simp, hk⟩
    · simp only [List.append_nil, List.mem_singleton] at hq; subst hq; exact absurd rfl hpq
    · exact hob.ro (900, .row 9 1 (a0.map encS)) (by simp) k hk
end Go.Sx
end
section
/- Rising lists of strings: what a sort and what an inserting loop make of the same strings is the same. -/
namespace Go.Sx
open Go.Proofs Go.Sort
set_option linter.unusedVariables false

def kB (s : ByteArray) : List UInt8 := s.data.toList
theorem kB_inj {s t : ByteArray} (h : kB s = kB t) : s = t := by
  obtain ⟨⟨s⟩⟩ := s
  obtain ⟨⟨t⟩⟩ := t
  simp only [kB] at h
  rw [h]
def ltB (s t : ByteArray) : Prop := kB s < kB t
theorem ltB_irrefl (s : ByteArray) : ¬ ltB s s := List.lt_irrefl _
theorem ltB_trans {s t u : ByteArray} (h : ltB s t) (h' : ltB t u) : ltB s u := List.lt_trans h h'
theorem ltB_asymm {s t : ByteArray} (h : ltB s t) (h' : ltB t s) : False := ltB_irrefl s (ltB_trans h h')
theorem ltB_tri (s t : ByteArray) : ltB s t ∨ s = t ∨ ltB t s := by
  by_cases h1 : ltB s t
  · exact .inl h1
  · by_cases h2 : ltB t s
    · exact .inr (.inr h2)
    · exact .inr (.inl (kB_inj (List.le_antisymm (List.not_lt.1 h2) (List.not_lt.1 h1))))
instance (s t : ByteArray) : Decidable (ltB s t) := inferInstanceAs (Decidable (kB s < kB t))
theorem less_eq (s t : ByteArray) : Op.bytesLess s.toList t.toList = decide (ltB s t) := by
  rw [ByteArray.toList_eq, ByteArray.toList_eq, bytesLess_eq]
  rfl
theorem memB_iff {s : ByteArray} : ∀ {D : List ByteArray}, memB s D = true ↔ s ∈ D
  | [] => by simp [memB]
  | d :: D => by
    have ih := memB_iff (s := s) (D := D)
    cases hb : s == d with
    | true => have := (MapKept.bytes_beq s d).1 hb; subst this; simp [memB, hb]
    | false =>
      have hne : s ≠ d := fun e => by rw [(MapKept.bytes_beq s d).2 e] at hb; cases hb
      simp [memB, hb, ih, hne]
def Inc (l : List ByteArray) : Prop := l.Pairwise ltB
theorem inc_ext : ∀ {l m : List ByteArray}, Inc l → Inc m → (∀ x, x ∈ l ↔ x ∈ m) → l = m
  | [], [], _, _, _ => rfl
  | [], b :: m, _, _, h => absurd ((h b).2 (by simp)) (by simp)
  | a :: l, [], _, _, h => absurd ((h a).1 (by simp)) (by simp)
  | a :: l, b :: m, hl, hm, h => by
    have hl' := List.pairwise_cons.1 hl
    have hm' := List.pairwise_cons.1 hm
    have e : a = b := by
      rcases List.mem_cons.1 ((h a).1 (by simp)) with e | ha
      · exact e
      · rcases List.mem_cons.1 ((h b).2 (by simp)) with e | hb
        · exact e.symm
        · exact (ltB_asymm (hl'.1 b hb) (hm'.1 a ha)).elim
    subst e
    rw [inc_ext hl'.2 hm'.2 fun x => ?_]
    constructor
    · intro hx
      rcases List.mem_cons.1 ((h x).1 (List.mem_cons_of_mem _ hx)) with e | hx'
      · subst e; exact (ltB_irrefl _ (hl'.1 _ hx)).elim
      · exact hx'
    · intro hx
      rcases List.mem_cons.1 ((h x).2 (List.mem_cons_of_mem _ hx)) with e | hx'
      · subst e; exact (ltB_irrefl _ (hm'.1 _ hx)).elim
      · exact hx'
/-- the strings met so far, each once -/
def ddB (l : List ByteArray) : List ByteArray := l.foldl (fun D s => putB s D) []
theorem putB_mem {s x : ByteArray} {D : List ByteArray} : x ∈ putB s D ↔ x ∈ D ∨ x = s := by
  unfold putB
  cases h : memB s D with
  | true =>
    have := memB_iff.1 h
    constructor
    · exact .inl
    · rintro (h | rfl)
      · exact h
      · exact this
  | false => simp
theorem putB_nodup {s : ByteArray} {D : List ByteArray} (h : D.Nodup) : (putB s D).Nodup := by
  unfold putB
  cases hb : memB s D with
  | true => exact h
  | false =>
    have : s ∉ D := fun hm => by rw [memB_iff.2 hm] at hb; cases hb
    rw [cond_false, List.nodup_append]
    exact ⟨h, by simp, fun a ha b hb e => by simp at hb; subst hb; subst e; exact this ha⟩
theorem ddB_fold (l : List ByteArray) : ∀ (D : List ByteArray), D.Nodup → (l.foldl (fun D s => putB s D) D).Nodup ∧ (∀ x, x ∈ l.foldl (fun D s => putB s D) D ↔ x ∈ D ∨ x ∈ l) ∧ (l.foldl (fun D s => putB s D) D).length ≤ D.length + l.length := by
  induction l with
  | nil => intro D h; exact ⟨h, by simp, by simp⟩
  | cons a l ih =>
    intro D h
    obtain ⟨h1, h2, h3⟩ := ih (putB a D) (putB_nodup h)
    refine ⟨h1, fun x => ?_, ?_⟩
    · rw [List.foldl_cons, h2, putB_mem]; simp [or_assoc]
    · have : (putB a D).length ≤ D.length + 1 := by
        unfold putB
        cases memB a D <;> simp
      simp only [List.foldl_cons, List.length_cons]
      omega
theorem sortB_inc {l : List ByteArray} (h : l.Nodup) : Inc (sortB l) ∧ ∀ x, x ∈ sortB l ↔ x ∈ l := by
  have hp : ((l.map kB).mergeSort fun x y => decide (x ≤ y)).Perm (l.map kB) := List.mergeSort_perm _ _
  have hmem : ∀ x, x ∈ sortB l ↔ x ∈ l := fun x => by
    unfold sortB
    constructor
    · intro hx
      obtain ⟨b, hb, rfl⟩ := List.mem_map.1 hx
      obtain ⟨s, hs, rfl⟩ := List.mem_map.1 (hp.mem_iff.1 hb)
      exact hs
    · intro hx
      exact List.mem_map.2 ⟨kB x, hp.mem_iff.2 (List.mem_map.2 ⟨x, hx, rfl⟩), rfl⟩
  refine ⟨?_, hmem⟩
  have hnd : ((l.map kB).mergeSort fun x y => decide (x ≤ y)).Nodup := hp.nodup_iff.2 (by
    rw [List.nodup_iff_pairwise_ne, List.pairwise_map]
    exact h.imp fun hne e => hne (kB_inj e))
  have hs : ((l.map kB).mergeSort fun x y => decide (x ≤ y)).Pairwise fun a b => decide (a ≤ b) = true := List.pairwise_mergeSort (fun a b c h1 h2 => by
    simp only [decide_eq_true_eq] at *
    exact List.le_trans h1 h2) (fun a b => by
    rcases List.le_total a b with h | h <;> simp [h]) _
  unfold Inc sortB
  rw [List.pairwise_map]
  refine (hs.and (List.nodup_iff_pairwise_ne.1 hnd)).imp fun {a b} hab => ?_
  have h1 : a ≤ b := by simpa using hab.1
  show a < b
  rcases Decidable.em (a < b) with h | h
  · exact h
  · exact absurd (List.le_antisymm h1 (List.not_lt.1 h)) hab.2
/-- how many stand before p -/
def cntB (p : ByteArray) (l : List ByteArray) : Nat := (l.takeWhile fun x => decide (ltB x p)).length
theorem cntB_le (p : ByteArray) (l : List ByteArray) : cntB p l ≤ l.length := (List.takeWhile_prefix _).length_le
theorem cntB_lt (p : ByteArray) : ∀ (l : List ByteArray) (i : Nat), i < cntB p l → ∃ h : i < l.length, ltB l[i] p
  | [], i, h => by simp [cntB] at h
  | a :: l, i, h => by
    unfold cntB at h
    by_cases ha : ltB a p
    · simp only [List.takeWhile_cons, ha, decide_true, if_true, List.length_cons] at h
      cases i with
      | zero => exact ⟨by simp, ha⟩
      | succ i =>
        obtain ⟨h1, h2⟩ := cntB_lt p l i (by unfold cntB; omega)
        exact ⟨by simp; omega, by simpa using h2⟩
    · simp [List.takeWhile_cons, ha] at h
theorem cntB_at (p : ByteArray) : ∀ (l : List ByteArray) (h : cntB p l < l.length), ¬ ltB l[cntB p l] p
  | [], h => by simp at h
  | a :: l, h => by
    by_cases ha : ltB a p
    · have e : cntB p (a :: l) = cntB p l + 1 := by simp [cntB, List.takeWhile_cons, ha]
      have h' : cntB p l < l.length := by rw [e] at h; simpa using h
      have := cntB_at p l h'
      simp only [e, List.getElem_cons_succ]
      exact this
    · have e : cntB p (a :: l) = 0 := by simp [cntB, List.takeWhile_cons, ha]
      simp only [e, List.getElem_cons_zero]
      exact ha
/-- put into a rising list, once -/
def insB (p : ByteArray) (l : List ByteArray) : List ByteArray :=
  if h : cntB p l < l.length then (if l[cntB p l] = p then l else l.take (cntB p l) ++ [p] ++ l.drop (cntB p l)) else l.take (cntB p l) ++ [p] ++ l.drop (cntB p l)
theorem insB_put {p : ByteArray} {l : List ByteArray} (h : Inc l) (hne : ∀ h : cntB p l < l.length, l[cntB p l] ≠ p) : Inc (l.take (cntB p l) ++ [p] ++ l.drop (cntB p l)) ∧ ∀ x, x ∈ l.take (cntB p l) ++ [p] ++ l.drop (cntB p l) ↔ x ∈ l ∨ x = p := by
  have hd : ∀ x ∈ l.drop (cntB p l), ltB p x := fun x hx => by
    obtain ⟨j, hj, rfl⟩ := List.getElem_of_mem hx
    simp only [List.length_drop] at hj
    rw [List.getElem_drop]
    have hn : cntB p l < l.length := by omega
    have h0 : ltB p l[cntB p l] := by
      rcases ltB_tri l[cntB p l] p with h1 | h1 | h1
      · exact absurd h1 (cntB_at p l hn)
      · exact absurd h1 (hne hn)
      · exact h1
    by_cases hj0 : j = 0
    · subst hj0; exact h0
    · exact ltB_trans h0 (List.pairwise_iff_getElem.1 h _ _ hn (by omega) (by omega))
  have ht : ∀ x ∈ l.take (cntB p l), ltB x p := fun x hx => by
    obtain ⟨j, hj, rfl⟩ := List.getElem_of_mem hx
    simp only [List.length_take] at hj
    rw [List.getElem_take]
    exact (cntB_lt p l j (by omega)).2
  constructor
  · unfold Inc
    rw [List.append_assoc, List.pairwise_append]
    refine ⟨h.sublist (List.take_sublist _ _), ?_, fun a ha b hb => ?_⟩
    · simp only [List.cons_append, List.nil_append, List.pairwise_cons]
      exact ⟨hd, h.sublist (List.drop_sublist _ _)⟩
    · rcases List.mem_append.1 hb with hb | hb
      · simp at hb; subst hb; exact ht a ha
      · exact ltB_trans (ht a ha) (hd b hb)
  · intro x
    have : x ∈ l ↔ x ∈ l.take (cntB p l) ∨ x ∈ l.drop (cntB p l) := by rw [← List.mem_append, List.take_append_drop]
    rw [this]
    simp only [List.mem_append, List.mem_singleton]
    constructor
    · rintro ((h | h) | h)
      · exact .inl (.inl h)
      · exact .inr h
      · exact .inl (.inr h)
    · rintro ((h | h) | h)
      · exact .inl (.inl h)
      · exact .inr h
      · exact .inl (.inr h)
theorem insB_inc {p : ByteArray} {l : List ByteArray} (h : Inc l) : Inc (insB p l) ∧ ∀ x, x ∈ insB p l ↔ x ∈ l ∨ x = p := by
  unfold insB
  split
  · rename_i hl
    split
    · rename_i he
      exact ⟨h, fun x => ⟨.inl, fun hx => by rcases hx with hx | rfl; exact hx; rw [← he]; exact List.getElem_mem hl⟩⟩
    · rename_i he
      exact insB_put h fun _ => he
  · rename_i hl
    exact insB_put h fun h => absurd h hl
theorem insB_len (p : ByteArray) (l : List ByteArray) : (insB p l).length ≤ l.length + 1 := by
  unfold insB
  split
  · split
    · omega
    · simp; omega
  · simp; omega
theorem ins_fold (l : List ByteArray) : ∀ (D : List ByteArray), Inc D → Inc (l.foldl (fun D s => insB s D) D) ∧ (∀ x, x ∈ l.foldl (fun D s => insB s D) D ↔ x ∈ D ∨ x ∈ l) := by
  induction l with
  | nil => intro D h; exact ⟨h, by simp⟩
  | cons a l ih =>
    intro D h
    obtain ⟨h0, h0'⟩ := insB_inc (p := a) h
    obtain ⟨h1, h2⟩ := ih (insB a D) h0
    exact ⟨h1, fun x => by rw [List.foldl_cons, h2, h0']; simp [or_assoc]⟩
/-- THE SAME LIST -/
theorem sort_ins (l : List ByteArray) : sortB (ddB l) = l.foldl (fun D s => insB s D) [] := by
  obtain ⟨a1, a2, _⟩ := ddB_fold l [] (by simp)
  obtain ⟨b1, b2⟩ := sortB_inc a1
  obtain ⟨c1, c2⟩ := ins_fold l [] (by simp [Inc])
  exact inc_ext b1 c1 fun x => by rw [show sortB (ddB l) = sortB (l.foldl (fun D s => putB s D) []) from rfl, b2, a2, c2]
/-- a loop that counts to n, n small enough for the model's bound -/
theorem loop_go {σ τ ρ : Type} {body : σ → Option (Ctl σ τ ρ)} (n : Nat) (st : Nat → σ) (t : τ) (hn : n < big) (h : ∀ i, i < n → body (st i) = some (.next (st (i + 1)))) (he : body (st n) = some (.brk t)) : loopM body big (st 0) = some (.inl t) := by
  obtain ⟨x, h1, h2⟩ := loopM_up (body := body) n (fun i s => s = st i) (fun x => x = .inl t) (fun i s hi hs => .inl ⟨_, by rw [hs]; exact h i hi, rfl⟩) (fun s hs => .inl ⟨t, by rw [hs]; exact he, rfl⟩) (st 0) rfl hn
  rw [h1, h2]
end Go.Sx
end
section
/- Rounds of relaxation: after as many rounds as there are places nothing turns any more. -/
namespace Go.Sx
set_option linter.unusedVariables false
namespace Relax

def g (l : List Int) (v : Nat) : Int := l[v]?.getD (-1)
theorem g_set {l : List Int} {b v : Nat} {e : Int} (hb : b < l.length) : g (l.set b e) v = if v = b then e else g l v := by
  unfold g
  by_cases h : v = b
  · subst h; simp [hb]
  · rw [List.getElem?_set_ne (Ne.symm h), if_neg h]
variable (A B : Nat → Nat) (arr : Nat → Int → Option Int)
/-- one leg of a round -/
def stp (old : List Int) (i : Nat) (s : List Int × Bool) : List Int × Bool :=
  if g old (A i) < 0 then s else match arr i (g old (A i)) with
    | none => s
    | some e => if g s.1 (B i) < 0 ∨ e < g s.1 (B i) then (s.1.set (B i) e, true) else s
def rndI (old : List Int) : Nat → List Int × Bool
  | 0 => (old, false)
  | i + 1 => stp A B arr old i (rndI old i)
structure Ok (m L : Nat) : Prop where
  to : ∀ i, i < L → B i < m
  up : ∀ i x e, i < L → 0 ≤ x → arr i x = some e → x < e
variable {A B arr} {m L : Nat}
structure Inv (A B : Nat → Nat) (arr : Nat → Int → Option Int) (m : Nat) (old : List Int) (i : Nat) (s : List Int × Bool) : Prop where
  len : s.1.length = m
  from_ : ∀ v, g s.1 v = g old v ∨ (0 ≤ g s.1 v ∧ (g old v < 0 ∨ g s.1 v < g old v) ∧ ∃ j, j < i ∧ B j = v ∧ 0 ≤ g old (A j) ∧ arr j (g old (A j)) = some (g s.1 v))
  all : ∀ j, j < i → ∀ e, 0 ≤ g old (A j) → arr j (g old (A j)) = some e → 0 ≤ g s.1 (B j) ∧ g s.1 (B j) ≤ e
  no : s.2 = false → s.1 = old
  yes : s.2 = true → ∃ v, v < m ∧ g s.1 v ≠ g old v
theorem inv (H : Ok B arr m L) (old : List Int) (hl : old.length = m) : ∀ i, i ≤ L → Inv A B arr m old i (rndI A B arr old i)
  | 0, _ => ⟨hl, fun v => .inl rfl, fun j hj => absurd hj (Nat.not_lt_zero _), fun _ => rfl, fun h => by cases h⟩
  | i + 1, hi => by
    have I := inv H old hl i (by omega)
    have hB := H.to i (by omega)
    show Inv A B arr m old (i + 1) (stp A B arr old i (rndI A B arr old i))
    generalize rndI A B arr old i = s at I
    have stay : (∀ e, 0 ≤ g old (A i) → arr i (g old (A i)) = some e → 0 ≤ g s.1 (B i) ∧ g s.1 (B i) ≤ e) → Inv A B arr m old (i + 1) s := fun h => by
      refine ⟨I.len, fun v => ?_, fun j hj e h0 he => ?_, I.no, I.yes⟩
      · rcases I.from_ v with h1 | ⟨h1, h2, j, hj, h3⟩
        · exact .inl h1
        · exact .inr ⟨h1, h2, j, by omega, h3⟩
      · by_cases hji : j = i
        · subst hji; exact h e h0 he
        · exact I.all j (by omega) e h0 he
    unfold stp
    by_cases h0 : g old (A i) < 0
    · rw [if_pos h0]
      exact stay fun e h _ => by omega
    · rw [if_neg h0]
      cases he : arr i (g old (A i)) with
      | none => exact stay fun e _ h => by rw [he] at h; cases h
      | some e =>
        have hup := H.up i _ e (by omega) (by omega) he
        by_cases hc : g s.1 (B i) < 0 ∨ e < g s.1 (B i)
        · simp only [if_pos hc]
          have hgs : ∀ v, g (s.1.set (B i) e) v = if v = B i then e else g s.1 v := fun v => g_set (by rw [I.len]; exact hB)
          have better : g old (B i) < 0 ∨ e < g old (B i) := by
            rcases I.from_ (B i) with h1 | ⟨h1, h2, _⟩
            · rw [← h1]; exact hc
            · rcases hc with hc | hc
              · omega
              · rcases h2 with h2 | h2
                · exact .inl h2
                · exact .inr (by omega)
          refine ⟨by simp [I.len], fun v => ?_, fun j hj e' h1 h2 => ?_, (fun h => by cases h), fun _ => ⟨B i, hB, ?_⟩⟩
          · simp only [hgs]
            by_cases hv : v = B i
            · subst hv
              rw [if_pos rfl]
              exact .inr ⟨by omega, better, i, by omega, rfl, by omega, he⟩
            · rw [if_neg hv]
              rcases I.from_ v with h1 | ⟨h1, h2, j, hj, h3⟩
              · exact .inl h1
              · exact .inr ⟨h1, h2, j, by omega, h3⟩
          · simp only [hgs]
            by_cases hji : j = i
            · subst hji
              rw [he] at h2
              injection h2 with h2
              subst h2
              rw [if_pos rfl]
              exact ⟨by omega, Int.le_refl _⟩
            · have := I.all j (by omega) e' h1 h2
              by_cases hv : B j = B i
              · rw [if_pos hv]
                rw [hv] at this
                omega
              · rw [if_neg hv]; exact this
          · show g (s.1.set (B i) e) (B i) ≠ g old (B i)
            rw [hgs, if_pos rfl]
            omega
        · simp only [if_neg hc]
          exact stay fun e' _ h2 => by
            rw [he] at h2
            injection h2 with h2
            subst h2
            omega
/-- the state after k rounds -/
def X (A B : Nat → Nat) (arr : Nat → Int → Option Int) (L : Nat) (x0 : List Int) : Nat → List Int
  | 0 => x0
  | k + 1 => (rndI A B arr (X A B arr L x0 k) L).1
structure Start (m : Nat) (x0 : List Int) (st : Nat) : Prop where
  len : x0.length = m
  lt : st < m
  pos : 0 ≤ g x0 st
  other : ∀ v, v ≠ st → g x0 v < 0
variable {x0 : List Int} {st : Nat}
theorem X_len (H : Ok B arr m L) (S : Start m x0 st) : ∀ k, (X A B arr L x0 k).length = m
  | 0 => S.len
  | k + 1 => (inv H _ (X_len H S k) L (Nat.le_refl _)).len
theorem X_mono (H : Ok B arr m L) (S : Start m x0 st) (k v : Nat) (h : 0 ≤ g (X A B arr L x0 k) v) : ∀ j, 0 ≤ g (X A B arr L x0 (k + j)) v ∧ g (X A B arr L x0 (k + j)) v ≤ g (X A B arr L x0 k) v
  | 0 => ⟨h, Int.le_refl _⟩
  | j + 1 => by
    obtain ⟨h1, h2⟩ := X_mono H S k v h j
    rcases (inv H _ (X_len H S (k + j)) L (Nat.le_refl _)).from_ v with e | ⟨e1, e2, _⟩
    · have e : g (X A B arr L x0 (k + (j + 1))) v = g (X A B arr L x0 (k + j)) v := e
      rw [e]; exact ⟨h1, h2⟩
    · have e1 : 0 ≤ g (X A B arr L x0 (k + (j + 1))) v := e1
      have e2 : g (X A B arr L x0 (k + j)) v < 0 ∨ g (X A B arr L x0 (k + (j + 1))) v < g (X A B arr L x0 (k + j)) v := e2
      omega
theorem X_low (H : Ok B arr m L) (S : Start m x0 st) : ∀ k v, 0 ≤ g (X A B arr L x0 k) v → g x0 st ≤ g (X A B arr L x0 k) v
  | 0, v, h => by
    by_cases hv : v = st
    · subst hv; exact Int.le_refl _
    · have := S.other v hv
      have h : 0 ≤ g x0 v := h
      omega
  | k + 1, v, h => by
    rcases (inv H _ (X_len H S k) L (Nat.le_refl _)).from_ v with e | ⟨e1, e2, j, hj, _, h3, h4⟩
    · have e : g (X A B arr L x0 (k + 1)) v = g (X A B arr L x0 k) v := e
      rw [e] at h ⊢
      exact X_low H S k v h
    · have := X_low H S k (A j) h3
      have := H.up j _ _ hj h3 h4
      have : g (X A B arr L x0 k) (A j) < g (X A B arr L x0 (k + 1)) v := this
      omega
/-- WHO GAINS IN ROUND k + 1 HAS A CHAIN OF k + 1 PLACES BEHIND IT -/
theorem chain (H : Ok B arr m L) (S : Start m x0 st) : ∀ k v, v < m → g (X A B arr L x0 (k + 1)) v ≠ g (X A B arr L x0 k) v →
    ∃ l : List Nat, l.length = k + 1 ∧ l.Nodup ∧ st ∉ l ∧ (∀ u ∈ l, u < m) ∧ ∀ u ∈ l, ∃ j, j ≤ k + 1 ∧ 0 ≤ g (X A B arr L x0 j) u ∧ g (X A B arr L x0 j) u ≤ g (X A B arr L x0 (k + 1)) v := by
  intro k
  induction k with
  | zero =>
    intro v hv hne
    rcases (inv H _ (X_len H S 0) L (Nat.le_refl _)).from_ v with e | ⟨e1, e2, j, hj, _, h3, h4⟩
    · exact absurd e hne
    · have hup := H.up j _ _ hj h3 h4
      have hlow := X_low H S 0 (A j) h3
      have hst : st ≠ v := fun e => by
        subst e
        have := (X_mono (A := A) (B := B) (arr := arr) H S 0 st S.pos 1).2
        have e5 : g (X A B arr L x0 0) (A j) < g (X A B arr L x0 (0 + 1)) st := hup
        have e6 : g x0 st ≤ g (X A B arr L x0 0) (A j) := hlow
        have e7 : g (X A B arr L x0 (0 + 1)) st ≤ g x0 st := this
        omega
      refine ⟨[v], rfl, by simp, by simpa using hst, by simpa using hv, fun u hu => ?_⟩
      simp at hu; subst hu
      exact ⟨1, by omega, e1, Int.le_refl _⟩
  | succ k ih =>
    intro v hv hne
    rcases (inv H _ (X_len H S (k + 1)) L (Nat.le_refl _)).from_ v with e | ⟨e1, e2, j, hj, hBj, h3, h4⟩
    · exact absurd e hne
    · have e1 : 0 ≤ g (X A B arr L x0 (k + 1 + 1)) v := e1
      have e2 : g (X A B arr L x0 (k + 1)) v < 0 ∨ g (X A B arr L x0 (k + 1 + 1)) v < g (X A B arr L x0 (k + 1)) v := e2
      have h4 : arr j (g (X A B arr L x0 (k + 1)) (A j)) = some (g (X A B arr L x0 (k + 1 + 1)) v) := h4
      have hup := H.up j _ _ hj h3 h4
      have hA : A j < m := by
        apply Classical.byContradiction
        intro hn
        have : g (X A B arr L x0 (k + 1)) (A j) = -1 := by
          unfold g
          rw [List.getElem?_eq_none (by rw [X_len H S]; omega)]; rfl
        omega
      have hgain : g (X A B arr L x0 (k + 1)) (A j) ≠ g (X A B arr L x0 k) (A j) := fun e => by
        rw [e] at h3 h4
        have := (inv H _ (X_len H S k) L (Nat.le_refl _)).all j hj _ h3 h4
        rw [hBj] at this
        have t1 : 0 ≤ g (X A B arr L x0 (k + 1)) v := this.1
        have t2 : g (X A B arr L x0 (k + 1)) v ≤ g (X A B arr L x0 (k + 1 + 1)) v := this.2
        omega
      obtain ⟨l, l1, l2, l3, l4, l5⟩ := ih (A j) hA hgain
      have hlow := X_low H S (k + 1) (A j) h3
      have hst : st ≠ v := fun e => by
        subst e
        have e7 := (X_mono (A := A) (B := B) (arr := arr) H S 0 st S.pos (k + 1 + 1)).2
        rw [Nat.zero_add] at e7
        have e7 : g (X A B arr L x0 (k + 1 + 1)) st ≤ g x0 st := e7
        omega
      have hnew : v ∉ l := fun hm => by
        obtain ⟨i, i1, i2, i3⟩ := l5 v hm
        have := (X_mono H S i v i2 (k + 1 + 1 - i)).2
        rw [show i + (k + 1 + 1 - i) = k + 1 + 1 by omega] at this
        omega
      refine ⟨v :: l, by simp [l1], List.nodup_cons.2 ⟨hnew, l2⟩, by simp [hst, l3], fun u hu => ?_, fun u hu => ?_⟩
      · rcases List.mem_cons.1 hu with rfl | hu
        · exact hv
        · exact l4 u hu
      · rcases List.mem_cons.1 hu with rfl | hu
        · exact ⟨k + 1 + 1, by omega, e1, Int.le_refl _⟩
        · obtain ⟨i, i1, i2, i3⟩ := l5 u hu
          exact ⟨i, by omega, i2, by omega⟩
theorem nodup_le : ∀ {m : Nat} {l : List Nat}, l.Nodup → (∀ u ∈ l, u < m) → l.length ≤ m
  | 0, [], _, _ => Nat.le_refl _
  | 0, a :: l, _, h => absurd (h a (by simp)) (Nat.not_lt_zero _)
  | m + 1, l, hn, h => by
    have := nodup_le (m := m) (l := l.erase m) (hn.erase m) (fun u hu => by
      have h1 := h u (List.mem_of_mem_erase hu)
      have h2 : u ≠ m := ((List.Nodup.mem_erase_iff hn).1 hu).1
      omega)
    rw [List.length_erase] at this
    split at this <;> omega
/-- AFTER m - 1 ROUNDS NOTHING TURNS -/
theorem still (H : Ok B arr m L) (S : Start m x0 st) {k : Nat} (hk : m ≤ k + 1) : X A B arr L x0 (k + 1) = X A B arr L x0 k := by
  apply List.ext_getElem?
  intro v
  by_cases hv : v < m
  · have : g (X A B arr L x0 (k + 1)) v = g (X A B arr L x0 k) v := by
      apply Classical.byContradiction
      intro hne
      obtain ⟨l, l1, l2, l3, l4, _⟩ := chain H S k v hv hne
      have := nodup_le (m := m) (l := st :: l) (List.nodup_cons.2 ⟨l3, l2⟩) (fun u hu => by
        rcases List.mem_cons.1 hu with rfl | hu
        · exact S.lt
        · exact l4 u hu)
      simp [l1] at this
      omega
    have h1 : v < (X A B arr L x0 (k + 1)).length := by rw [X_len H S]; exact hv
    have h2 : v < (X A B arr L x0 k).length := by rw [X_len H S]; exact hv
    simp only [g, List.getElem?_eq_getElem h1, List.getElem?_eq_getElem h2, Option.getD_some] at this
    rw [List.getElem?_eq_getElem h1, List.getElem?_eq_getElem h2, this]
  · rw [List.getElem?_eq_none (by rw [X_len H S]; omega), List.getElem?_eq_none (by rw [X_len H S]; omega)]
theorem still_on (H : Ok B arr m L) (S : Start m x0 st) {k : Nat} (h : X A B arr L x0 (k + 1) = X A B arr L x0 k) : ∀ j, X A B arr L x0 (k + j) = X A B arr L x0 k
  | 0 => rfl
  | j + 1 => by
    have ih := still_on H S h j
    show (rndI A B arr (X A B arr L x0 (k + j)) L).1 = _
    rw [ih]
    exact h
end Relax
end Go.Sx
end
section
/- Sweeps that write in place: after as many sweeps as there are places nothing turns any more. -/
namespace Go.Sx
set_option linter.unusedVariables false
namespace Sweep
open Relax (g g_set nodup_le)

/-- one leg of a sweep -/
def stp (A B : Nat → Nat) (f : Nat → Int → Option Int) (x : Nat) (i : Nat) (l : List Int) : List Int :=
  if g l (B i) < 0 ∨ A i = x then l else match f i (g l (B i)) with
    | none => l
    | some s => if g l (A i) < s then l.set (A i) s else l
def Y (A B : Nat → Nat) (f : Nat → Int → Option Int) (x L : Nat) (y0 : List Int) : Nat → List Int
  | 0 => y0
  | t + 1 => stp A B f x (t % L) (Y A B f x L y0 t)
structure Ok (A : Nat → Nat) (f : Nat → Int → Option Int) (m L x : Nat) : Prop where
  pos : 0 < L
  to : ∀ i, i < L → A i < m
  down : ∀ i v s, i < L → 0 ≤ v → f i v = some s → s < v
  goal : x < m
variable {A B : Nat → Nat} {f : Nat → Int → Option Int} {m L x : Nat} {y0 : List Int}
theorem Y_len (h0 : y0.length = m) : ∀ t, (Y A B f x L y0 t).length = m
  | 0 => h0
  | t + 1 => by
    have ih := Y_len h0 t
    show (stp A B f x (t % L) (Y A B f x L y0 t)).length = m
    unfold stp
    split
    · exact ih
    · split
      · exact ih
      · split
        · simp [ih]
        · exact ih
/-- what one step does at a place -/
theorem step_at (H : Ok A f m L x) (h0 : y0.length = m) (t v : Nat) : g (Y A B f x L y0 (t + 1)) v = g (Y A B f x L y0 t) v ∨
    (v = A (t % L) ∧ v ≠ x ∧ 0 ≤ g (Y A B f x L y0 t) (B (t % L)) ∧ f (t % L) (g (Y A B f x L y0 t) (B (t % L))) = some (g (Y A B f x L y0 (t + 1)) v) ∧ g (Y A B f x L y0 t) v < g (Y A B f x L y0 (t + 1)) v) := by
  have hl := Y_len (A := A) (B := B) (f := f) (x := x) (L := L) h0 t
  have hA := H.to (t % L) (Nat.mod_lt _ H.pos)
  show g (stp A B f x (t % L) (Y A B f x L y0 t)) v = _ ∨ (_ ∧ _ ∧ _ ∧ f (t % L) (g (Y A B f x L y0 t) (B (t % L))) = some (g (stp A B f x (t % L) (Y A B f x L y0 t)) v) ∧ _ < g (stp A B f x (t % L) (Y A B f x L y0 t)) v)
  generalize Y A B f x L y0 t = l at *
  unfold stp
  by_cases hc : g l (B (t % L)) < 0 ∨ A (t % L) = x
  · rw [if_pos hc]; exact .inl rfl
  · rw [if_neg hc]
    cases hf : f (t % L) (g l (B (t % L))) with
    | none => exact .inl rfl
    | some s =>
      by_cases hs : g l (A (t % L)) < s
      · simp only [if_pos hs]
        have hg := g_set (v := v) (e := s) (show A (t % L) < l.length by omega)
        by_cases hv : v = A (t % L)
        · rw [if_pos hv] at hg
          rw [hg]
          refine .inr ⟨hv, fun e => hc (.inr (hv ▸ e)), by omega, rfl, by rw [hv]; exact hs⟩
        · rw [if_neg hv] at hg
          exact .inl hg
      · simp only [if_neg hs]; exact .inl trivial
theorem mono1 (H : Ok A f m L x) (h0 : y0.length = m) (t v : Nat) : g (Y A B f x L y0 t) v ≤ g (Y A B f x L y0 (t + 1)) v := by
  rcases step_at (B := B) H h0 t v with e | ⟨_, _, _, _, e⟩
  · rw [e]; exact Int.le_refl _
  · omega
theorem mono (H : Ok A f m L x) (h0 : y0.length = m) (t v : Nat) : ∀ j, g (Y A B f x L y0 t) v ≤ g (Y A B f x L y0 (t + j)) v
  | 0 => Int.le_refl _
  | j + 1 => Int.le_trans (mono H h0 t v j) (mono1 H h0 (t + j) v)
theorem did (H : Ok A f m L x) (h0 : y0.length = m) (t : Nat) {s : Int} (hx : A (t % L) ≠ x) (hb : 0 ≤ g (Y A B f x L y0 t) (B (t % L))) (hf : f (t % L) (g (Y A B f x L y0 t) (B (t % L))) = some s) : s ≤ g (Y A B f x L y0 (t + 1)) (A (t % L)) := by
  have hl := Y_len (A := A) (B := B) (f := f) (x := x) (L := L) h0 t
  have hA := H.to (t % L) (Nat.mod_lt _ H.pos)
  show s ≤ g (stp A B f x (t % L) (Y A B f x L y0 t)) (A (t % L))
  generalize Y A B f x L y0 t = l at *
  unfold stp
  rw [if_neg (by intro h; rcases h with h | h; omega; exact hx h), hf]
  by_cases hs : g l (A (t % L)) < s
  · simp only [if_pos hs]
    rw [g_set (show A (t % L) < l.length by omega), if_pos rfl]
    exact Int.le_refl _
  · simp only [if_neg hs]; omega
theorem last_change (v t : Nat) : ∀ d, g (Y A B f x L y0 (t + d)) v ≠ g (Y A B f x L y0 t) v → ∃ σ, t ≤ σ ∧ σ < t + d ∧ g (Y A B f x L y0 (σ + 1)) v ≠ g (Y A B f x L y0 σ) v ∧ g (Y A B f x L y0 (σ + 1)) v = g (Y A B f x L y0 (t + d)) v
  | 0, h => absurd rfl h
  | d + 1, h => by
    by_cases hc : g (Y A B f x L y0 (t + (d + 1))) v = g (Y A B f x L y0 (t + d)) v
    · rw [hc] at h
      obtain ⟨σ, h1, h2, h3, h4⟩ := last_change v t d h
      exact ⟨σ, h1, by omega, h3, by rw [hc]; exact h4⟩
    · exact ⟨t + d, by omega, by omega, hc, rfl⟩
theorem chain (H : Ok A f m L x) (h0 : y0.length = m) : ∀ t v, g (Y A B f x L y0 (t + 1)) v ≠ g (Y A B f x L y0 t) v →
    ∃ l : List Nat, t / L + 1 ≤ l.length ∧ l.Nodup ∧ x ∉ l ∧ (∀ u ∈ l, u < m) ∧ ∀ u ∈ l, ∃ ρ, ρ ≤ t + 1 ∧ g (Y A B f x L y0 (t + 1)) v ≤ g (Y A B f x L y0 ρ) u := by
  intro t
  induction t using Nat.strongRecOn with
  | ind t ih =>
    intro v hne
    obtain ⟨hv, hvx, hb, hf, hlt⟩ := (step_at (B := B) H h0 t v).resolve_left hne
    have hvm : v < m := by rw [hv]; exact H.to _ (Nat.mod_lt _ H.pos)
    have hdown := H.down _ _ _ (Nat.mod_lt _ H.pos) hb hf
    by_cases htL : t < L
    · refine ⟨[v], by rw [Nat.div_eq_of_lt htL]; simp, by simp, by simpa using Ne.symm hvx, by simpa using hvm, fun u hu => ?_⟩
      simp at hu; subst hu
      exact ⟨t + 1, Nat.le_refl _, Int.le_refl _⟩
    · have hmod : (t - L) % L = t % L := by rw [← Nat.mod_eq_sub_mod (by omega)]
      have hchg : g (Y A B f x L y0 (t - L + L)) (B (t % L)) ≠ g (Y A B f x L y0 (t - L)) (B (t % L)) := fun e => by
        rw [show t - L + L = t by omega] at e
        have hb' := hb
        have hf' := hf
        rw [e] at hb' hf'
        have := did (B := B) H h0 (t - L) (s := g (Y A B f x L y0 (t + 1)) v) (by rw [hmod, ← hv]; exact hvx) (by rw [hmod]; exact hb') (by rw [hmod]; exact hf')
        rw [hmod, ← hv] at this
        have h2 := mono (B := B) H h0 (t - L + 1) v (L - 1)
        rw [show t - L + 1 + (L - 1) = t by have := H.pos; omega] at h2
        omega
      obtain ⟨σ, s1, s2, s3, s4⟩ := last_change (B (t % L)) (t - L) L hchg
      rw [show t - L + L = t by omega] at s2 s4
      obtain ⟨l, l1, l2, l3, l4, l5⟩ := ih σ s2 _ s3
      rw [s4] at l5
      have hdiv : t / L ≤ σ / L + 1 := by
        have h1 : (t - L) / L ≤ σ / L := Nat.div_le_div_right s1
        have h2 := Nat.div_eq_sub_div H.pos (show L ≤ t by omega)
        omega
      have hnew : v ∉ l := fun hm => by
        obtain ⟨ρ, r1, r2⟩ := l5 v hm
        have := mono (B := B) H h0 ρ v (t + 1 - ρ)
        rw [show ρ + (t + 1 - ρ) = t + 1 by omega] at this
        omega
      refine ⟨v :: l, by simp; omega, List.nodup_cons.2 ⟨hnew, l2⟩, by simp [Ne.symm hvx, l3], fun u hu => ?_, fun u hu => ?_⟩
      · rcases List.mem_cons.1 hu with rfl | hu
        · exact hvm
        · exact l4 u hu
      · rcases List.mem_cons.1 hu with rfl | hu
        · exact ⟨t + 1, Nat.le_refl _, Int.le_refl _⟩
        · obtain ⟨ρ, r1, r2⟩ := l5 u hu
          exact ⟨ρ, by omega, by omega⟩
theorem still (H : Ok A f m L x) (h0 : y0.length = m) {t : Nat} (ht : m ≤ t / L + 1) : Y A B f x L y0 (t + 1) = Y A B f x L y0 t := by
  apply List.ext_getElem?
  intro v
  have hl1 := Y_len (A := A) (B := B) (f := f) (x := x) (L := L) h0 (t + 1)
  have hl2 := Y_len (A := A) (B := B) (f := f) (x := x) (L := L) h0 t
  by_cases hv : v < m
  · have : g (Y A B f x L y0 (t + 1)) v = g (Y A B f x L y0 t) v := by
      apply Classical.byContradiction
      intro hne
      obtain ⟨l, l1, l2, l3, l4, _⟩ := chain H h0 t v hne
      have := nodup_le (m := m) (l := x :: l) (List.nodup_cons.2 ⟨l3, l2⟩) (fun u hu => by
        rcases List.mem_cons.1 hu with rfl | hu
        · exact H.goal
        · exact l4 u hu)
      simp at this
      omega
    have h1 : v < (Y A B f x L y0 (t + 1)).length := by omega
    have h2 : v < (Y A B f x L y0 t).length := by omega
    simp only [g, List.getElem?_eq_getElem h1, List.getElem?_eq_getElem h2, Option.getD_some] at this
    rw [List.getElem?_eq_getElem h1, List.getElem?_eq_getElem h2, this]
  · rw [List.getElem?_eq_none (by omega), List.getElem?_eq_none (by omega)]
end Sweep
end Go.Sx
end
section
/- Rounds and sweeps: what holds along them, and that the end is closed under every leg. -/
namespace Go.Sx
set_option linter.unusedVariables false
namespace Relax
variable {A B : Nat → Nat} {arr : Nat → Int → Option Int} {m L st : Nat} {x0 : List Int}
theorem X_step (H : Ok B arr m L) (S : Start m x0 st) {k i : Nat} {e : Int} (hi : i < L) (h0 : 0 ≤ g (X A B arr L x0 k) (A i)) (ha : arr i (g (X A B arr L x0 k) (A i)) = some e) :
    0 ≤ g (X A B arr L x0 (k + 1)) (B i) ∧ g (X A B arr L x0 (k + 1)) (B i) ≤ e :=
  (inv H _ (X_len H S k) L (Nat.le_refl _)).all i hi e h0 ha
theorem X_ind (H : Ok B arr m L) (S : Start m x0 st) (P : Nat → Nat → Int → Prop) (h0 : P 0 st (g x0 st)) (hk : ∀ k v u, P k v u → P (k + 1) v u)
    (hs : ∀ k i u e, i < L → 0 ≤ u → P k (A i) u → arr i u = some e → P (k + 1) (B i) e) : ∀ k v, 0 ≤ g (X A B arr L x0 k) v → P k v (g (X A B arr L x0 k) v)
  | 0, v, h => by
    by_cases hv : v = st
    · subst hv; exact h0
    · have := S.other v hv
      have h : 0 ≤ g x0 v := h
      omega
  | k + 1, v, h => by
    rcases (inv H _ (X_len H S k) L (Nat.le_refl _)).from_ v with e | ⟨e1, e2, j, hj, hB, h3, h4⟩
    · have e : g (X A B arr L x0 (k + 1)) v = g (X A B arr L x0 k) v := e
      rw [e] at h ⊢
      exact hk _ _ _ (X_ind H S P h0 hk hs k v h)
    · have := hs k j _ _ hj h3 (X_ind H S P h0 hk hs k (A j) h3) h4
      rw [hB] at this
      exact this
theorem X_closed (H : Ok B arr m L) (S : Start m x0 st) {k i : Nat} {e : Int} (hk : m ≤ k + 1) (hi : i < L) (h0 : 0 ≤ g (X A B arr L x0 k) (A i)) (ha : arr i (g (X A B arr L x0 k) (A i)) = some e) :
    0 ≤ g (X A B arr L x0 k) (B i) ∧ g (X A B arr L x0 k) (B i) ≤ e := by
  have := X_step H S hi h0 ha
  rw [still H S hk] at this
  exact this
theorem X_start (H : Ok B arr m L) (S : Start m x0 st) : ∀ k, g (X A B arr L x0 k) st = g x0 st := by
  intro k
  have h1 := X_mono (A := A) H S 0 st S.pos k
  rw [Nat.zero_add] at h1
  have h2 := X_low (A := A) H S k st h1.1
  have h3 : g (X A B arr L x0 k) st ≤ g x0 st := h1.2
  omega
theorem X_end (H : Ok B arr m L) (S : Start m x0 st) {k : Nat} (hk : m ≤ k) : X A B arr L x0 k = X A B arr L x0 m := by
  obtain ⟨j, rfl⟩ := Nat.le.dest hk
  exact still_on H S (still H S (Nat.le_succ m)) j
end Relax
namespace Sweep
open Relax (g g_set)
variable {A B : Nat → Nat} {f : Nat → Int → Option Int} {m L x : Nat} {y0 : List Int}
theorem Y_ind (H : Ok A f m L x) (h0 : y0.length = m) (P : Nat → Int → Prop) (hx : P x (g y0 x)) (ho : ∀ v, v ≠ x → g y0 v < 0)
    (hs : ∀ i u s, i < L → A i ≠ x → 0 ≤ u → P (B i) u → f i u = some s → P (A i) s) : ∀ t v, 0 ≤ g (Y A B f x L y0 t) v → P v (g (Y A B f x L y0 t) v)
  | 0, v, h => by
    by_cases hv : v = x
    · subst hv; exact hx
    · have := ho v hv
      have h : 0 ≤ g y0 v := h
      omega
  | t + 1, v, h => by
    rcases step_at (B := B) H h0 t v with e | ⟨hv, hvx, hb, hf, hlt⟩
    · rw [e] at h ⊢
      exact Y_ind H h0 P hx ho hs t v h
    · have hi := Nat.mod_lt t H.pos
      have := hs (t % L) _ _ hi (hv ▸ hvx) hb (Y_ind H h0 P hx ho hs t _ hb) hf
      rw [← hv] at this
      exact this
theorem Y_on (H : Ok A f m L x) (h0 : y0.length = m) {t : Nat} (ht : m ≤ t / L + 1) : ∀ j, Y A B f x L y0 (t + j) = Y A B f x L y0 t
  | 0 => rfl
  | j + 1 => by
    have hle : t / L ≤ (t + j) / L := Nat.div_le_div_right (Nat.le_add_right _ _)
    have := still (B := B) H h0 (t := t + j) (by omega)
    exact this.trans (Y_on H h0 ht j)
theorem Y_closed (H : Ok A f m L x) (h0 : y0.length = m) {t i : Nat} {s : Int} (ht : m ≤ t / L + 1) (hi : i < L) (hA : A i ≠ x) (hb : 0 ≤ g (Y A B f x L y0 t) (B i)) (hf : f i (g (Y A B f x L y0 t) (B i)) = some s) :
    s ≤ g (Y A B f x L y0 t) (A i) := by
  have hL := H.pos
  have hm := Nat.mod_lt t hL
  have hj : (t + (L - t % L + i)) % L = i := by
    have : t + (L - t % L + i) = i + L * (t / L + 1) := by
      have := Nat.div_add_mod t L
      rw [Nat.mul_add, Nat.mul_one]
      omega
    rw [this, Nat.add_mul_mod_self_left, Nat.mod_eq_of_lt hi]
  have := did (B := B) H h0 (t + (L - t % L + i)) (s := s) (by rw [hj]; exact hA) (by rw [hj, Y_on H h0 ht]; exact hb) (by rw [hj, Y_on H h0 ht]; exact hf)
  rw [hj] at this
  have e := Y_on (B := B) H h0 ht (L - t % L + i + 1)
  rw [show t + (L - t % L + i) + 1 = t + (L - t % L + i + 1) by omega, e] at this
  exact this
end Sweep
end Go.Sx
end
