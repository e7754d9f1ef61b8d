/- Loops that mark a row, and that look whether the marks still stand. -/
import Derived.Test.YtpgpgangmkjhlaaSxR
namespace Go.Sx
open Go.ChangeShapes Go.WideShapes Go.ChangeAt Go.RowKit
set_option linter.unusedVariables false
/-- a loop that marks a row from its head -/
theorem mark_up {α ρ : Type} {body : List α × Int × Int → Option (Ctl (List α × Int × Int) (List α × Int) ρ)} (a0 : List α) (c : Int) (mk : Nat → α) (hl : a0.length ≤ 1048576)
    (h : ∀ i (l : List α), i < a0.length → l.length = a0.length → body (l, 1 + c * i, (i : Int)) = some (.next (l.set i (mk i), 1 + c * (i + 1 : Nat), ((i + 1 : Nat) : Int))))
    (he : ∀ l : List α, l.length = a0.length → body (l, 1 + c * a0.length, (a0.length : Int)) = some (.brk (l, 1 + c * a0.length))) :
    ∃ l', loopM body big (a0, 1, 0) = some (.inl (l', 1 + c * a0.length)) ∧ l'.length = a0.length ∧ ∀ j, j < a0.length → l'[j]? = some (mk j) := by
  refine (loopM_up (body := body) a0.length (fun i s => s.2.1 = 1 + c * i ∧ s.2.2 = (i : Int) ∧ s.1.length = a0.length ∧ ∀ j, j < i → s.1[j]? = some (mk j)) (fun x => ∃ l', x = .inl (l', 1 + c * a0.length) ∧ l'.length = a0.length ∧ ∀ j, j < a0.length → l'[j]? = some (mk j)) (fun i s hi hs => ?_) (fun s hs => ?_) (a0, 1, 0) (by simp) (big_pos hl)).elim fun x hx => ?_
  · obtain ⟨l, k, j⟩ := s
    obtain ⟨h1, h2, h3, h4⟩ := hs
    simp only at h1 h2 h3 h4
    subst h1 h2
    refine .inl ⟨_, h i l hi h3, rfl, rfl, by simpa using h3, fun j hj => ?_⟩
    by_cases hji : j = i
    · subst hji; simp [h3, hi]
    · rw [List.getElem?_set_ne (by omega)]; exact h4 j (by omega)
  · obtain ⟨l, k, j⟩ := s
    obtain ⟨h1, h2, h3, h4⟩ := hs
    simp only at h1 h2 h3 h4
    subst h1 h2
    exact .inl ⟨_, he l h3, l, rfl, h3, h4⟩
  · obtain ⟨h1, l', rfl, h2, h3⟩ := hx
    exact ⟨l', h1, h2, h3⟩
theorem held_up {α : Type} {body : Int × Int → Option (Ctl (Int × Int) Int Int)} (l : List α) (c : Int) (mk : Nat → α) (hl : l.length ≤ 1048576) (hm : ∀ j, j < l.length → l[j]? = some (mk j))
    (h : ∀ i, (hi : i < l.length) → l[i] = mk i → body (1 + c * i, (i : Int)) = some (.next (1 + c * (i + 1 : Nat), ((i + 1 : Nat) : Int))))
    (he : body (1 + c * l.length, (l.length : Int)) = some (.brk (1 + c * l.length))) : loopM body big (1, 0) = some (.inl (1 + c * l.length)) := by
  have := loop_val (body := body) l.length (fun i => (1 + c * i, (i : Int))) _ hl (fun i hi => h i hi (by have := hm i hi; simpa [hi] using this)) he
  simpa using this
/-- A struct parameter, cell by cell. -/
theorem agg_raw {P : Program} {t : TypeId} {fs : Array Field} {N : Nat} (ht : P.underlying t = some (.struct fs)) (hN : P.cellsOf t = N) {H : Type} {en : TypeId × Value → H} {W : World} {base : Nat} {spare : Nat → Bool} {held : Bool} {v : Value} {d : DataW H} {p : List MemPlace}
    {r : Reach} {b0 : Nat} (hv : Value.okWide P W r b0 t v) (h : DataW.Trod en P W base spare held t v d p) :
    ∃ cs : List Value, v = .agg cs.toArray ∧ cs.length = N ∧ ∀ (i off ty k : Nat) (f : Field), fs[i]? = some f → f.offset = off → f.type = ty → P.cellsOf ty = k → ∃ n y, DataW.trod en P W base spare held n ty ((cs.drop off).take k) = some y := by
  obtain ⟨cs, rfl, _⟩ := okWide_struct ht hv
  obtain ⟨fuel, hf⟩ := h
  obtain ⟨ys, n, _, _, hlen, hyl, hfl⟩ := DataW.trod_struct ht hf
  simp only [Value.cells] at hlen hfl
  refine ⟨cs.toList, by simp, hlen.trans hN, fun i off ty k f hi ho hty hk => ?_⟩
  have g := hfl i f hi
  rw [ho, hty, hk] at g
  have hil : i < ys.length := by rw [hyl]; exact (Array.getElem?_eq_some_iff.1 hi).1
  rw [List.getElem?_eq_getElem hil] at g
  exact ⟨n, _, g⟩
end Go.Sx
