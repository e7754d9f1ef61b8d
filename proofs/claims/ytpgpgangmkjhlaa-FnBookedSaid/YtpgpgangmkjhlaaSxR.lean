/- Plain laws about loops: counting loops over a row, and loops with a bound. No program in sight. -/
import Derived.Test.YtpgpgangmkjhlaaSxQ
namespace Go.Sx
set_option linter.unusedVariables false

theorem w64_succ {i : Nat} (h : i ≤ 1048576) : w64 ((i : Int) + 1) = ((i + 1 : Nat) : Int) := by
  rw [w64_id (by omega) (by omega)]; simp

theorem loopM_add {σ τ ρ : Type} {body : σ → Option (Ctl σ τ ρ)} {x : τ ⊕ ρ} : ∀ {n : Nat} {s : σ}, loopM body n s = some x → ∀ k, loopM body (n + k) s = some x
  | 0, _, h, _ => by cases h
  | n + 1, s, h, k => by
    rw [show n + 1 + k = (n + k) + 1 by omega]
    rw [loopM] at h ⊢
    split <;> rename_i e <;> rw [e] at h
    · exact loopM_add h k
    all_goals first | exact h | cases h
theorem loopM_big {σ τ ρ : Type} {body : σ → Option (Ctl σ τ ρ)} {x : τ ⊕ ρ} {n : Nat} {s : σ} (h : loopM body n s = some x) (hn : n ≤ big) : loopM body big s = some x := by
  have := loopM_add h (big - n)
  rwa [show n + (big - n) = big by omega] at this

theorem beqI (a b : Int) : (a == b) = decide (a = b) := by by_cases h : a = b <;> simp [h]
theorem bneI (a b : Int) : (a != b) = !decide (a = b) := by by_cases h : a = b <;> simp [h, bne]
/-- A row, from its k-th element on: f goes on with a state, or ends. -/
def each {α X R : Type} (f : Nat → α → X → X ⊕ R) : Nat → List α → X → X ⊕ R
  | _, [], x => .inl x
  | i, a :: l, x => match f i a x with
    | .inl x' => each f (i + 1) l x'
    | .inr r => .inr r
def fin {X R τ : Type} (g : X → τ) : X ⊕ R → τ ⊕ R
  | .inl x => .inl (g x)
  | .inr r => .inr r
def ctl {X R σ τ : Type} (pk : X → Int → σ) (i : Nat) : X ⊕ R → Ctl σ τ R
  | .inl x => .next (pk x (i + 1 : Nat))
  | .inr r => .ret r
theorem loopM_each {α X R σ τ : Type} {body : σ → Option (Ctl σ τ R)} (l : List α) (pk : X → Int → σ) (f : Nat → α → X → X ⊕ R) (g : X → τ) (I : Nat → X → Prop) (x0 : X) (h0 : I 0 x0)
    (hb : ∀ i (hi : i < l.length) x, I i x → body (pk x i) = some (ctl pk i (f i l[i] x)) ∧ ∀ x', f i l[i] x = .inl x' → I (i + 1) x')
    (he : ∀ x, I l.length x → body (pk x l.length) = some (.brk (g x))) (hl : l.length ≤ 1048576) :
    loopM body big (pk x0 0) = some (fin g (each f 0 l x0)) := by
  have key : ∀ (n i : Nat) (x : X), i + n = l.length → I i x → loopM body (n + 1) (pk x i) = some (fin g (each f i (l.drop i) x)) := by
    intro n
    induction n with
    | zero =>
      intro i x hi hI
      have : i = l.length := by omega
      subst this
      rw [loopM, he x hI]
      simp [each, fin]
    | succ n ih =>
      intro i x hi hI
      have hil : i < l.length := by omega
      obtain ⟨hbi, hI'⟩ := hb i hil x hI
      rw [loopM, hbi, List.drop_eq_getElem_cons hil, each]
      cases hf : f i l[i] x with
      | inl x' => exact ih (i + 1) x' (by omega) (hI' x' hf)
      | inr r => rfl
  have := loopM_big (key l.length 0 x0 (by omega) h0) (by unfold big; omega)
  simpa using this
/-- the same, where nothing is to be known of the state -/
theorem loopM_each' {α X R σ τ : Type} {body : σ → Option (Ctl σ τ R)} (l : List α) (pk : X → Int → σ) (f : Nat → α → X → X ⊕ R) (g : X → τ) (x0 : X)
    (hb : ∀ i (hi : i < l.length) x, body (pk x i) = some (ctl pk i (f i l[i] x)))
    (he : ∀ x, body (pk x l.length) = some (.brk (g x))) (hl : l.length ≤ 1048576) :
    loopM body big (pk x0 0) = some (fin g (each f 0 l x0)) :=
  loopM_each l pk f g (fun _ _ => True) x0 trivial (fun i hi x _ => ⟨hb i hi x, fun _ _ => trivial⟩) (fun x _ => he x) hl

/-- a counting loop that runs to its end -/
theorem loop_val {σ τ ρ : Type} {body : σ → Option (Ctl σ τ ρ)} (n : Nat) (st : Nat → σ) (t : τ) (hn : n ≤ 1048576) (h : ∀ i, i < n → body (st i) = some (.next (st (i + 1)))) (he : body (st n) = some (.brk t)) : loopM body big (st 0) = some (.inl t) := by
  have key : ∀ m i, i + m = n → loopM body (m + 1) (st i) = some (.inl t) := by
    intro m
    induction m with
    | zero => intro i hi; have : i = n := by omega
              subst this; rw [loopM, he]
    | succ m ih => intro i hi; rw [loopM, h i (by omega)]; exact ih (i + 1) (by omega)
  exact loopM_big (key n 0 (by omega)) (by unfold big; omega)

/-- all of a row, with their places, are so -/
def allI {α : Type} (p : Nat → α → Bool) : Nat → List α → Bool
  | _, [] => true
  | i, a :: l => p i a && allI p (i + 1) l
theorem each_all {α : Type} (p : Nat → α → Bool) (v : Bool) : ∀ (l : List α) (i : Nat), each (X := Unit) (R := Bool) (fun i a _ => bif p i a then .inl () else .inr v) i l () = bif allI p i l then .inl () else .inr v
  | [], _ => rfl
  | a :: l, i => by
    rw [each, allI]
    cases h : p i a with
    | true => simpa using each_all p v l (i + 1)
    | false => rfl
theorem allI_iff {α : Type} {p : Nat → α → Bool} : ∀ {l : List α} {i : Nat}, allI p i l = true ↔ ∀ j (h : j < l.length), p (i + j) l[j] = true
  | [], i => by simp [allI]
  | a :: l, i => by
    simp only [allI, Bool.and_eq_true, allI_iff]
    constructor
    · rintro ⟨h1, h2⟩ j hj
      cases j with
      | zero => exact h1
      | succ j => have := h2 j (by simpa using hj); simpa [Nat.add_assoc, Nat.add_comm 1 j] using this
    · intro h
      refine ⟨h 0 (by simp), fun j hj => ?_⟩
      have := h (j + 1) (by simpa using hj)
      simpa [Nat.add_assoc, Nat.add_comm 1 j] using this
theorem allI_congr {α : Type} {p q : Nat → α → Bool} {l : List α} {i : Nat} (h : ∀ j (hj : j < l.length), p (i + j) l[j] = q (i + j) l[j]) : allI p i l = allI q i l := by
  rw [Bool.eq_iff_iff, allI_iff, allI_iff]
  exact ⟨fun H j hj => by rw [← h j hj]; exact H j hj, fun H j hj => by rw [h j hj]; exact H j hj⟩
/-- the first of a row that is so -/
def fstI {α : Type} (p : α → Bool) : Nat → List α → Option Nat
  | _, [] => none
  | i, a :: l => bif p a then some i else fstI p (i + 1) l
theorem each_fst {α R : Type} (p : α → Bool) (r : Nat → R) : ∀ (l : List α) (i : Nat), each (X := Unit) (fun i a _ => bif p a then .inr (r i) else .inl ()) i l () = match fstI p i l with | some k => .inr (r k) | none => .inl ()
  | [], _ => rfl
  | a :: l, i => by
    rw [each, fstI]
    cases h : p a with
    | true => rfl
    | false => simpa using each_fst p r l (i + 1)
theorem fstI_some {α : Type} {p : α → Bool} : ∀ {l : List α} {i k : Nat}, fstI p i l = some k → ∃ j, ∃ h : j < l.length, k = i + j ∧ p l[j] = true ∧ ∀ m (hm : m < j), p l[m] = false
  | [], i, k, h => by cases h
  | a :: l, i, k, h => by
    rw [fstI] at h
    cases ha : p a with
    | true => simp [ha] at h; exact ⟨0, by simp, by omega, by simpa using ha, fun m hm => by omega⟩
    | false =>
      simp [ha] at h
      obtain ⟨j, hj, e, h1, h2⟩ := fstI_some h
      refine ⟨j + 1, by simpa using hj, by omega, by simpa using h1, fun m hm => ?_⟩
      cases m with
      | zero => simpa using ha
      | succ m => have := h2 m (by omega); simpa using this
theorem fstI_none {α : Type} {p : α → Bool} : ∀ {l : List α} {i : Nat}, fstI p i l = none → ∀ a ∈ l, p a = false
  | [], i, h, a, ha => by cases ha
  | b :: l, i, h, a, ha => by
    rw [fstI] at h
    cases hb : p b with
    | true => simp [hb] at h
    | false =>
      simp [hb] at h
      cases ha with
      | head => exact hb
      | tail _ ha => exact fstI_none h a ha
/-- a row is told over -/
theorem each_fold {α X R : Type} (f : Nat → α → X → X) : ∀ (l : List α) (i : Nat) (x : X), ∃ y, each (R := R) (fun i a x => .inl (f i a x)) i l x = .inl y
  | [], _, x => ⟨x, rfl⟩
  | a :: l, i, x => by rw [each]; exact each_fold f l (i + 1) (f i a x)
theorem each_filter {α β R : Type} (p : α → Bool) (f : α → β) : ∀ (l : List α) (i : Nat) (x : List β), each (R := R) (fun _ a x => .inl (bif p a then x ++ [f a] else x)) i l x = .inl (x ++ (l.filter p).map f)
  | [], _, x => by simp [each]
  | a :: l, i, x => by
    rw [each]
    show each _ (i + 1) l _ = _
    rw [each_filter p f l (i + 1)]
    cases h : p a <;> simp [h]
theorem each_any {α : Type} (p : α → Bool) (l : List α) (i : Nat) : each (X := Unit) (R := Bool) (fun _ a _ => bif p a then .inr true else .inl ()) i l () = bif l.any p then .inr true else .inl () := by
  induction l generalizing i with
  | nil => rfl
  | cons a l ih =>
    rw [each]
    cases h : p a with
    | true => simp [h]
    | false => simpa [h] using ih (i + 1)
theorem ap_eq {α : Type} {b : Nat} {l m : List α} (h1 : l.length + m.length ≤ 8388608) (h2 : b ≤ 1000) : ap b l m = some (l ++ m) := by
  unfold ap
  rw [if_pos]
  refine ⟨Nat.le_trans h1 (by simp only [maxLen]; omega), ?_⟩
  have : (l.length + m.length) * b ≤ 8388608 * 1000 := Nat.mul_le_mul h1 h2
  omega
def rM (a b : Int) : Option Int := if b = 0 then none else some (Int.tmod a b)
def qM (a b : Int) : Option Int := if b = 0 then none else some (w64 (Int.tdiv a b))
def shlM (a n : Int) : Option Int := if n < 0 then none else some (w64 (a * 2 ^ (min n.toNat 64)))
def shrM (a n : Int) : Option Int := if n < 0 then none else some (Int.fdiv a (2 ^ (min n.toNat 64)))
def catM (x y : ByteArray) : Option ByteArray := if ((x.size + y.size : Nat) : Int) ≤ 9223372036854775807 then some (x ++ y) else none
theorem rM_run {P : Program} {t : TypeId} {x y : Operand} {a b v : Int} (h : rM a b = some v) : ∀ w, (do let r ← (do eqGuard .rem t x y (.int .i64 a) (.int .i64 b); binOp .rem t (.int .i64 a) (.int .i64 b)); pure (Next.value r) : Sem Next).run P w = .ok (.value (.int .i64 v)) w := by
  intro w
  unfold rM at h
  split at h
  · cases h
  · rename_i hb
    simp only [Option.some.injEq] at h
    subst h
    simp [eqGuard, binOp, Op.intDiv, hb]
theorem qM_run {P : Program} {t : TypeId} {x y : Operand} {a b v : Int} (h : qM a b = some v) : ∀ w, (do let r ← (do eqGuard .quo t x y (.int .i64 a) (.int .i64 b); binOp .quo t (.int .i64 a) (.int .i64 b)); pure (Next.value r) : Sem Next).run P w = .ok (.value (.int .i64 v)) w := by
  intro w
  unfold qM at h
  split at h
  · cases h
  · rename_i hb
    simp only [Option.some.injEq] at h
    subst h
    simp [eqGuard, binOp, Op.intDiv, hb]
theorem shlM_run {P : Program} {t : TypeId} {x y : Operand} {a b v : Int} (h : shlM a b = some v) : ∀ w, (do let r ← (do eqGuard .shl t x y (.int .i64 a) (.int .i64 b); binOp .shl t (.int .i64 a) (.int .i64 b)); pure (Next.value r) : Sem Next).run P w = .ok (.value (.int .i64 v)) w := by
  intro w
  unfold shlM at h
  split at h
  · cases h
  · rename_i hb
    simp only [Option.some.injEq] at h
    subst h
    simp [eqGuard, binOp, Op.shift, hb, show IntKind.i64.bits = 64 from rfl]
theorem shrM_run {P : Program} {t : TypeId} {x y : Operand} {a b v : Int} (h : shrM a b = some v) : ∀ w, (do let r ← (do eqGuard .shr t x y (.int .i64 a) (.int .i64 b); binOp .shr t (.int .i64 a) (.int .i64 b)); pure (Next.value r) : Sem Next).run P w = .ok (.value (.int .i64 v)) w := by
  intro w
  unfold shrM at h
  split at h
  · cases h
  · rename_i hb
    simp only [Option.some.injEq] at h
    subst h
    simp [eqGuard, binOp, Op.shift, hb, show IntKind.i64.bits = 64 from rfl]
theorem catM_run {P : Program} {t : TypeId} {x y : Operand} {a b v : ByteArray} (h : catM a b = some v) : ∀ w, (do let r ← (do eqGuard .add t x y (.string a) (.string b); binOp .add t (.string a) (.string b)); pure (Next.value r) : Sem Next).run P w = .ok (.value (.string v)) w := by
  intro w
  unfold catM at h
  split at h
  · rename_i hb
    simp only [Option.some.injEq] at h
    subst h
    simp [eqGuard, binOp, Op.stringOp]
    omega
  · cases h
/-- a text's part: is it one? -/
def stM (s : ByteArray) (l h : Int) : Option Unit := if 0 ≤ l ∧ l ≤ h ∧ h ≤ s.size then some () else none
theorem stM_ok {s : ByteArray} {l h : Int} {u : Unit} (e : stM s l h = some u) : 0 ≤ l ∧ l ≤ h ∧ h ≤ s.size := by
  unfold stM at e
  split at e
  · assumption
  · cases e
theorem slM_tr {α : Type} (enc : α → List Value) {l r : List α} {h : Int} (e : slM l 0 h = some r) : 0 ≤ h ∧ h ≤ ((l.map enc).length : Nat) ∧ (l.map enc).take h.toNat = r.map enc := by
  obtain ⟨_, h1, h2, h3⟩ := slM_ok enc e
  exact ⟨h1, h2, by simpa using h3⟩
/-- a place in a row, its end too -/
def inM {α : Type} (l : List α) (i : Int) : Option Unit := if 0 ≤ i ∧ i ≤ l.length then some () else none
theorem inM_ok {α : Type} (enc : α → List Value) {l : List α} {i : Int} {u : Unit} (e : inM l i = some u) : i = ((Int.toNat i : Nat) : Int) ∧ Int.toNat i ≤ (l.map enc).length := by
  unfold inM at e
  split at e
  · rename_i h; exact ⟨by omega, by simp; omega⟩
  · cases e
/-- what stands between two places is cut out -/
def dlM {α : Type} (b : Nat) (l : List α) (i j : Nat) : Option (List α) := if i ≤ l.length ∧ j ≤ l.length ∧ l.length + l.length ≤ maxLen ∧ (l.length + l.length) * b ≤ 140737488355328 then some (l.take i ++ l.drop j) else none
theorem dlM_ok {α : Type} (enc : α → List Value) {b i j : Nat} {l r : List α} (e : dlM b l i j = some r) : i ≤ (l.map enc).length ∧ j ≤ (l.map enc).length ∧ (l.map enc).length + (l.map enc).length ≤ maxLen ∧ ((l.map enc).length + (l.map enc).length) * b ≤ 140737488355328 ∧ (l.map enc).take i ++ (l.map enc).drop j = r.map enc := by
  unfold dlM at e
  split at e
  · rename_i h
    have hE := Option.some.inj e
    subst hE
    simp only [List.length_map]
    exact ⟨h.1, h.2.1, h.2.2.1, h.2.2.2, by simp [List.map_take, List.map_drop]⟩
  · cases e
end Go.Sx
