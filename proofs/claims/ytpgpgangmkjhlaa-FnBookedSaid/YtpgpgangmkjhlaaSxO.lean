/- What the generated models and walks are made of. -/
import Derived.Test.YtpgpgangmkjhlaaSxN
namespace Go.Sx
set_option linter.unusedVariables false

abbrev w64 (x : Int) : Int := IntKind.i64.wrap x
/-- more rounds than any loop here takes -/
def big : Nat := 1000000000000
def encI (x : Int) : List Value := [.int .i64 x]
def encU8 (x : Int) : List Value := [.int .u8 x]
theorem conv_ok (l : List Int) : ∃ l' : List Int, (l.map encU8 = l'.map fun n => [Value.int .u8 n]) ∧ strOfNums l = strOfNums l' := ⟨l, rfl, rfl⟩
def encB (x : Bool) : List Value := [.bool x]
def encS (x : ByteArray) : List Value := [.string x]

theorem bind_some {α β : Type} {x : Option α} {f : α → Option β} {r : β} (h : x.bind f = some r) : ∃ v, x = some v ∧ f v = some r := Option.bind_eq_some_iff.1 h
theorem cond_cases {α : Type} {c : Bool} {x y z : α} (h : (bif c then x else y) = z) : (c = true ∧ x = z) ∨ (c = false ∧ y = z) := by
  cases c
  · exact .inr ⟨rfl, h⟩
  · exact .inl ⟨rfl, h⟩

/-- 'the loop from s, within n rounds, and what comes behind it, gives r' -/
def Mk {σ τ ρ β : Type} (body : σ → Option (Ctl σ τ ρ)) (k : τ ⊕ ρ → Option β) (r : β) (n : Nat) (s : σ) : Prop := (loopM body n s).bind k = some r
def Kc {σ τ ρ β : Type} (body : σ → Option (Ctl σ τ ρ)) (k : τ ⊕ ρ → Option β) (r : β) (n : Nat) : Ctl σ τ ρ → Prop
  | .next s => Mk body k r n s
  | .brk t => k (.inl t) = some r
  | .ret x => k (.inr x) = some r
theorem Mk_step {σ τ ρ β : Type} {body : σ → Option (Ctl σ τ ρ)} {k : τ ⊕ ρ → Option β} {r : β} {n : Nat} {s : σ} (h : Mk body k r n s) : ∃ m c, n = m + 1 ∧ body s = some c ∧ Kc body k r m c := by
  cases n with
  | zero => cases h
  | succ m =>
    unfold Mk at h
    simp only [loopM] at h
    cases hb : body s with
    | none => simp only [hb] at h; cases h
    | some c =>
      refine ⟨m, c, rfl, rfl, ?_⟩
      simp only [hb] at h
      cases c <;> exact h
abbrev Jr {E : Env} {P : Program} {pids : List Nat} {N : Nat} (R : Rn E P pids N) {ι : Type} (Sf : ι → St) (M : Nat → ι → Prop) (n : Nat) : Act → World → Prop := Jn E Sf M n
abbrev Gr {E : Env} {P : Program} {pids : List Nat} {N : Nat} (R : Rn E P pids N) (k : List KI) (S : St) : Prop := G E k S
theorem lq {E : Env} {c : Code} {kk : List KI} {σ τ ρ β : Type} (Sf : σ → St) {body : σ → Option (Ctl σ τ ρ)} {k : τ ⊕ ρ → Option β} {r : β} {n0 : Nat} {i0 : σ} (h0 : (loopM body n0 i0).bind k = some r)
    (round : ∀ m s x, body s = some x → Kc body k r m x → G E (.code c :: .inv (Jn E Sf (Mk body k r) (m + 1)) :: kk) (Sf s)) : G E (.code (.loop c) :: kk) (Sf i0) :=
  lp Sf (Mk body k r) h0 fun n s hM => by
    obtain ⟨m, x, rfl, h1, h2⟩ := Mk_step hM
    exact round m s x h1 h2

/-- append, where there is room -/
def ap {α : Type} (b : Nat) (l m : List α) : Option (List α) := if l.length + m.length ≤ maxLen ∧ (l.length + m.length) * b ≤ 140737488355328 then some (l ++ m) else none
theorem ap_some {α : Type} {b : Nat} {l m r : List α} (h : ap b l m = some r) : r = l ++ m ∧ l.length + m.length ≤ maxLen ∧ (l.length + m.length) * b ≤ 140737488355328 := by
  unfold ap at h
  split at h
  · rename_i hc; simp only [Option.some.injEq] at h; exact ⟨h.symm, hc⟩
  · cases h
theorem ap_ok {α β : Type} (enc : α → β) {b : Nat} {l m r : List α} (h : ap b l m = some r) : (l.map enc).length + (m.map enc).length ≤ maxLen ∧ ((l.map enc).length + (m.map enc).length) * b ≤ 140737488355328 ∧ l.map enc ++ m.map enc = r.map enc := by
  obtain ⟨rfl, h1, h2⟩ := ap_some h
  simp only [List.length_map, List.map_append]
  exact ⟨h1, h2, trivial⟩
theorem set_map {α : Type} (enc : α → List Value) (l : List α) (i : Nat) (x : α) : (l.map enc).set i (enc x) = (l.set i x).map enc := by rw [List.map_set]
/-- a part of a slice -/
def slM {α : Type} (l : List α) (lo hi : Int) : Option (List α) := if 0 ≤ lo ∧ lo ≤ hi ∧ hi ≤ l.length then some ((l.take hi.toNat).drop lo.toNat) else none
theorem slM_ok {α : Type} (enc : α → List Value) {l r : List α} {lo hi : Int} (h : slM l lo hi = some r) : 0 ≤ lo ∧ lo ≤ hi ∧ hi ≤ ((l.map enc).length : Nat) ∧ ((l.map enc).take hi.toNat).drop lo.toNat = r.map enc := by
  unfold slM at h
  split at h
  · rename_i hc
    simp only [Option.some.injEq] at h
    subst h
    obtain ⟨h1, h2, h3⟩ := hc
    exact ⟨h1, h2, by simpa using h3, by simp [List.map_drop, List.map_take]⟩
  · cases h
theorem slM_okL {α : Type} (enc : α → List Value) {l r : List α} {lo : Int} (h : slM l lo (l.length : Int) = some r) : 0 ≤ lo ∧ lo ≤ ((l.map enc).length : Nat) ∧ (((l.map enc).length : Nat) : Int) ≤ ((l.map enc).length : Nat) ∧ ((l.map enc).take (((l.map enc).length : Nat) : Int).toNat).drop lo.toNat = r.map enc := by
  have h' := slM_ok enc h
  rw [List.length_map] at h' ⊢
  exact h'
/-- a new slice -/
def mkM {α : Type} [Inhabited α] (b : Nat) (n : Int) : Option (List α) := if 0 ≤ n ∧ (b : Int) * n ≤ 281474976710656 ∧ n ≤ 9223372036854775807 then some (List.replicate n.toNat default) else none
theorem mkM_ok {α : Type} [Inhabited α] (enc : α → List Value) {b : Nat} {n : Int} {r : List α} (h : mkM b n = some r) : n = n ∧ 0 ≤ n ∧ (b : Int) * n ≤ 281474976710656 ∧ n ≤ 9223372036854775807 ∧ List.replicate n.toNat (enc default) = r.map enc := by
  unfold mkM at h
  split at h
  · rename_i hc
    simp only [Option.some.injEq] at h
    subst h
    exact ⟨rfl, hc.1, hc.2.1, hc.2.2, by rw [List.map_replicate]⟩
  · cases h
/-- a text's byte -/
def siM (s : ByteArray) (i : Int) : Option Int := if 0 ≤ i then (s[i.toNat]?).map fun u => (u.toNat : Int) else none
theorem siM_ok {s : ByteArray} {i b : Int} (h : siM s i = some b) : 0 ≤ i ∧ ∃ u : UInt8, s[i.toNat]? = some u ∧ b = u.toNat := by
  unfold siM at h
  split at h
  · rename_i h0
    obtain ⟨u, hu, rfl⟩ := Option.map_eq_some_iff.1 h
    exact ⟨h0, u, hu, rfl⟩
  · cases h
end Go.Sx
