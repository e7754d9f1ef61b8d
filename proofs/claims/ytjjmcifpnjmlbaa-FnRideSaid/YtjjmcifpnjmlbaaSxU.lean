/- The library's sort of strings, as a contract of the symbolic executor. -/
import Derived.Test.YtjjmcifpnjmlbaaSxT
import Derived.Shelf.Sort.AssemblysIn
import Derived.Sort.EveryDepth
import Derived.Sort.OwnSorted
namespace Go.Sx
open Go.Proofs Go.Sort Go.Shelf
set_option linter.unusedVariables false

def sortB (l : List ByteArray) : List ByteArray := ((l.map fun s => s.data.toList).mergeSort fun x y => decide (x ≤ y)).map fun b => ⟨b.toArray⟩
theorem sortB_len (l : List ByteArray) : (sortB l).length = l.length := by simp [sortB]
theorem flat_encS (l : List ByteArray) : (l.map encS).flatten = (l.map fun s => s.data.toList).map encStr := by
  induction l with
  | nil => rfl
  | cons a l ih =>
    rw [List.map_cons, List.flatten_cons, ih]
    simp [encS, encStr]
theorem encS_len (l : List ByteArray) : ∀ cs ∈ l.map encS, cs.length = 1 := fun cs h => by
  obtain ⟨s, _, rfl⟩ := List.mem_map.1 h; rfl
theorem encS_one (l : List ByteArray) : ∀ y ∈ (l.map encS).flatten, y.oneCell' = true := fun y h => by
  obtain ⟨cs, hc, hy⟩ := List.mem_flatten.1 h
  obtain ⟨s, _, rfl⟩ := List.mem_map.1 hc
  simp [encS] at hy
  subst hy; rfl
theorem sort_plain {P : Program} {σ : Ren} (Ly : Lays.n192 P σ) (blk off cap : Nat) (ss : List (List UInt8)) (w : World) (hH : Holds encStr w blk off ss.toArray) (hblk : blk < w.heap.size) (hsz : ss.length < 4611686018427387904) :
    Calls P (σ.f 192) #[.slice (some ⟨blk, off, none⟩) ss.length cap] w fun e w' =>
      e = .returned (.tuple #[]) ∧ ∃ n os, w' = grow (putRow encStr (Sort.ahead w n) blk off (ss.mergeSort fun x y => decide (x ≤ y)).toArray) os :=
  calls_of_every_depth fun D => AnyS.sort_Strings_in Ly D blk off cap ss w hH hblk hsz
theorem con_sort {P : Program} {σ : Ren} (Ly : Lays.n192 P σ) {f : FuncId} (hf : σ.f 192 = f) (hnil : Con P f [.c (.v (.slice none 0 0))] [] (.tup []) [] []) (a0 : List ByteArray) (hl : a0.length < 4611686018427387904) :
    Con P f [.c (.sl 900)] [(900, .row 9 1 (a0.map encS))] (.tup []) [(900, .row 9 1 ((sortB a0).map encS))] [] := by
  subst hf
  intro ρ g w vs hgs hob hargs
  match vs, hargs with
  | [y], hargs =>
  have hy : y = ρ 900 := hargs.1.1
  have hrow := hob.ok (900, .row 9 1 (a0.map encS)) (by simp)
  obtain ⟨⟨hlen, hr⟩, h2, h3⟩ := hrow
  rcases hr with ⟨hr, h0⟩ | ⟨b, cap, cur, hr, hz, hh, hnn, hm, hcs, htk⟩
  · have h00 : a0 = [] := by simpa using h0
    subst h00
    have hr' : ρ 900 = .slice none 0 0 := hr
    have hs : sortB [] = [] := by simp [sortB]
    rw [hs, hy, hr']
    refine (hnil ρ g w [.slice none 0 0] hgs ⟨by simp, (fun p hp => absurd hp (by simp)), (fun p hp => absurd hp (by simp)), (fun p hp => absurd hp (by simp)), (fun p hp => absurd hp (by simp))⟩ ⟨rfl, trivial⟩).mono ?_
    rintro e w' ⟨v, ρ', g', e1, e2, e3, e4, e5, e6, e7, e8⟩
    have hρ : ρ' 900 = .slice none 0 0 := (e2 900 (by simp)).trans hr'
    refine ⟨v, ρ', g', e1, fun id _ => e2 id (by simp), ⟨e3.os, e3.tape, e3.output, e3.size, fun k hk _ => e3.block k hk fun ⟨p, hp, _⟩ => by cases hp⟩, e4, e5, fun b c hb => ?_, e7, ⟨by simp, fun p hp => ?_, fun p hp k hk => ?_, fun p hp q hq hpq => ?_, fun p hp k hk => ?_⟩⟩
    · rcases e6 b c hb with h | ⟨p, hp, _⟩ | h
      · exact .inl h
      · cases hp
      · exact .inr (.inr h)
    all_goals simp only [List.append_nil, List.mem_singleton] at hp; subst hp
    · refine ⟨⟨by simp, .inl ⟨hρ, by simp⟩⟩, by simp, by simp⟩
    · simp only [hρ] at hk; simp [blk] at hk
    · simp only [List.append_nil, List.mem_singleton] at hq; subst hq; exact absurd rfl hpq
    · simp only [hρ] at hk; simp [blk] at hk
  · have hr' : ρ 900 = .slice (some ⟨b, 0, none⟩) (a0.map encS).length cap := hr
    have htk' : cur.toList.take (a0.map fun s => s.data.toList).length = (a0.map fun s => s.data.toList).map encStr := by
      rw [← flat_encS, ← htk]; simp
    have hH : Holds encStr w b 0 (a0.map fun s => s.data.toList).toArray := holds_of_block hh htk'
    have hc := sort_plain Ly b 0 cap (a0.map fun s => s.data.toList) w hH (heap_lt hh) (by simpa using hl)
    have hbk : blk (ρ 900) = some b := by rw [hr']; rfl
    have hgb : g b = none := hob.ro (900, .row 9 1 (a0.map encS)) (by simp) b hbk
    rw [hy, hr', show (a0.map encS).length = (a0.map fun s => s.data.toList).length by simp]
    refine hc.mono ?_
    rintro e w' ⟨e1, n, os, rfl⟩
    have hg := grownBy_sorted (w := w) (g := b) (n := n) (os := os) ((a0.map fun s => s.data.toList).mergeSort fun x y => decide (x ≤ y)).toArray
    refine ⟨.tuple #[], ρ, g, e1, fun _ _ => rfl, ⟨hg.os, hg.tape, hg.output, hg.size, fun k hk hn => hg.block k hk fun e => hn ⟨(900, .row 9 1 (a0.map encS)), by simp, by show blk (ρ 900) = some k; rw [hbk, e]⟩⟩, fun k c hk => ?_, fun _ _ h => h, fun _ _ h => .inl h, ⟨[], rfl, trivial⟩, ⟨by simp, fun p hp => ?_, fun p hp k hk => ?_, fun p hp q hq hpq => ?_, fun p hp k hk => ?_⟩⟩
    · have hne : k ≠ b := fun e => by rw [e, hgb] at hk; cases hk
      obtain ⟨e, fr, he⟩ := hgs k c hk
      exact ⟨e, fr, by rw [hg.block k (heap_lt he) (fun e => hne (by injection e))]; exact he⟩
    all_goals simp only [List.append_nil, List.mem_singleton] at hp; subst hp
    · refine ⟨?_, encS_len _, encS_one _⟩
      have ho := ownsRow_sorted (w := w) (base := 0) (g := b) (cap := cap) (n := n) (e := 9) (os := os) (cur := cur) (ss := a0.map fun s => s.data.toList) (ts := (a0.map fun s => s.data.toList).mergeSort fun x y => decide (x ≤ y)) (by simp) (Nat.zero_le _) hh (by simpa using hnn) hm hcs
      have e3 : ((sortB a0).map encS).flatten = ((a0.map fun s => s.data.toList).mergeSort fun x y => decide (x ≤ y)).map encStr := by
        rw [flat_encS]; simp [sortB]
      rw [e3]
      show World.ownsRow _ 0 9 1 (ρ 900) _ _
      rw [hr']
      have e4 : ((sortB a0).map encS).length = (a0.map fun s => s.data.toList).length := by simp [sortB_len]
      rw [e4, show (a0.map encS).length = (a0.map fun s => s.data.toList).length by simp]
      exact ho
    · exact .inl ⟨(900, .row 9 1 (a0.map encS)), by simp, hk⟩
    · simp only [List.append_nil, List.mem_singleton] at hq; subst hq; exact absurd rfl hpq
    · exact hob.ro (900, .row 9 1 (a0.map encS)) (by simp) k hk
end Go.Sx
