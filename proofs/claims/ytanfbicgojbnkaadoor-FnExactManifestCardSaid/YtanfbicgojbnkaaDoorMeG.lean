/- What the functions that turn boxes yield, the program's and the reference's. -/
import Derived.Test.YtanfbicgojbnkaaDoorMeF
namespace Go.Sx
set_option linter.unusedVariables false

/-- the k-th thing -/
def thA (l : List Thing) (k : Int) : Thing := l[k.toNat]?.getD default
theorem gi_thA {l : List Thing} {k : Int} (h0 : 0 ≤ k) (h1 : k < l.length) : gi l k = some (thA l k) := gi_get h0 h1
theorem isBx_thA {l : List Thing} {id : Int} (h : 0 ≤ fnd l id) : isBx l id = (thA l (fnd l id)).Box := by simp [isBx, h, thA]
def seaV (l : List Thing) (id : Int) (s : Bool) : List Thing × Int :=
  if thB l id && isBx l id then (if lockB l id then (l, 2) else (l.set (fnd l id).toNat { thA l (fnd l id) with Sealed := s }, 0)) else (l, 1)
def takV (l : List Thing) (id : Int) : List Thing × Int :=
  if thB l id then (if lockB l id then (l, 2) else if (thA l (fnd l id)).In = 0 then (l, 6) else (l.set (fnd l id).toNat { thA l (fnd l id) with In := (thA l (fnd l (thA l (fnd l id)).In)).In }, 0)) else (l, 1)
theorem Right.in_ge {l : List Thing} (R : Right l) {k : Int} (h0 : 0 ≤ k) (h1 : k < l.length) (hn : (thA l k).In ≠ 0) : 0 ≤ Sx.fnd l (thA l k).In := by
  have hk : k.toNat < l.length := by omega
  have e : thA l k = l[k.toNat] := by simp [thA, hk]
  rw [e] at hn ⊢
  obtain ⟨i, hi, e2, _⟩ := isBx_spec ((R.inn _ hk).resolve_left hn)
  omega
/-- what was in a box is where the box was -/
def empL (l : List Thing) (id to : Int) : List Thing := l.map fun t => if t.In = id then { t with In := to } else t
def empV (l : List Thing) (id : Int) : List Thing × Int :=
  if thB l id && isBx l id then (if lockB l id || (thA l (fnd l id)).Sealed then (l, 2) else (empL l id (thA l (fnd l id)).In, 0)) else (l, 1)
/-- a loop that turns each element of a row -/
theorem map_loop {α ρ : Type} {body : List α × Int → Option (Ctl (List α × Int) (List α) ρ)} (a0 : List α) (f : α → α) (hl : a0.length ≤ 1048576)
    (h : ∀ i (l : List α) (hi : i < a0.length), l.length = a0.length → l[i]? = some a0[i] → body (l, (i : Int)) = some (.next (l.set i (f a0[i]), ((i + 1 : Nat) : Int))))
    (he : ∀ l : List α, l.length = a0.length → body (l, (a0.length : Int)) = some (.brk l)) : loopM body big (a0, 0) = some (.inl (a0.map f)) := by
  refine (loopM_up (body := body) a0.length (fun i s => s.2 = (i : Int) ∧ s.1.length = a0.length ∧ ∀ j (hj : j < a0.length), s.1[j]? = some (if j < i then f a0[j] else a0[j])) (fun x => x = .inl (a0.map f)) (fun i s hi hs => ?_) (fun s hs => ?_) (a0, 0) (by simp) (big_pos hl)).elim fun x hx => by rw [hx.1, hx.2]
  · obtain ⟨l, j⟩ := s
    obtain ⟨h2, h3, h4⟩ := hs
    simp only at h2 h3 h4
    subst h2
    refine .inl ⟨_, h i l hi h3 (by simpa using h4 i hi), rfl, by simpa using h3, fun j hj => ?_⟩
    by_cases hji : j = i
    · subst hji; simp [h3, hi]
    · have := h4 j hj
      rw [List.getElem?_set_ne (by omega), this]
      by_cases hlt : j < i
      · simp [hlt, show j < i + 1 by omega]
      · simp [hlt, show ¬ j < i + 1 by omega]
  · obtain ⟨l, j⟩ := s
    obtain ⟨h2, h3, h4⟩ := hs
    simp only at h2 h3 h4
    subst h2
    refine .inl ⟨_, he l h3, ?_⟩
    congr 1
    apply List.ext_getElem?
    intro j
    by_cases hj : j < a0.length
    · rw [h4 j hj]; simp [hj]
    · rw [List.getElem?_eq_none (by omega), List.getElem?_eq_none (by simp; omega)]
theorem set_same {α : Type} {l : List α} {i : Nat} {a : α} (h : l[i]? = some a) : l.set i a = l := by
  apply List.ext_getElem?
  intro j
  by_cases hj : j = i
  · subst hj
    have : j < l.length := (List.getElem?_eq_some_iff.1 h).1
    rw [h]; simp [this]
  · rw [List.getElem?_set_ne (by omega)]
theorem gi_of {α : Type} {l : List α} {i : Nat} {a : α} (h : l[i]? = some a) : gi l (i : Int) = some a := by
  have hi : i < l.length := (List.getElem?_eq_some_iff.1 h).1
  rw [gi_nat hi]; simpa [hi] using h
/-- a thing is put elsewhere -/
def setIn (l : List Thing) (id box : Int) : List Thing := l.set (fnd l id).toNat { thA l (fnd l id) with In := box }
def dpB (l : List Thing) : Bool := allI (fun _ => dpT l) 0 l
def putV (l : List Thing) (id box : Int) : List Thing × Int :=
  if thB l id && isBx l box then (if lockB l id || lockB l box || (thA l (fnd l box)).Sealed then (l, 2) else if id = box ∨ arB l box id = true then (l, 3) else if dpB (setIn l id box) then (if areB (setIn l id box) then (setIn l id box, 0) else (l, 5)) else (l, 4)) else (l, 1)
theorem fnd_set {l : List Thing} {k : Nat} (hk : k < l.length) (t : Thing) (ht : t.Id = l[k].Id) (id : Int) : fnd (l.set k t) id = fnd l id := by
  have key : ∀ (l : List Thing) (k i : Nat) (hk : k < l.length), t.Id = l[k].Id → fstI (fun x => x.Id == id) i (l.set k t) = fstI (fun x => x.Id == id) i l := by
    intro l
    induction l with
    | nil => intro k i hk; simp at hk
    | cons a l ih =>
      intro k i hk ht
      cases k with
      | zero => simp at ht; simp [fstI, ht]
      | succ k => simp only [List.set_cons_succ, fstI]; rw [ih k (i + 1) (by simpa using hk) (by simpa using ht)]
  unfold fnd
  rw [key l k 0 hk ht]
theorem okT_set {l : List Thing} (R : Right l) {k : Nat} (hk : k < l.length) {box : Int} (hb : isBx l box = true) : Right (l.set k { l[k] with In := box }) := by
  have hget : ∀ j (hj : j < l.length), ∃ t, (l.set k { l[k] with In := box })[j]? = some t ∧ t.Id = l[j].Id ∧ t.Own = l[j].Own ∧ t.Room = l[j].Room ∧ t.Box = l[j].Box ∧ t.Sealed = l[j].Sealed ∧ (t.In = l[j].In ∨ t.In = box) := fun j hj => by
    by_cases hjk : j = k
    · subst hjk
      exact ⟨{ l[j] with In := box }, by simp [hj], rfl, rfl, rfl, rfl, rfl, .inr rfl⟩
    · exact ⟨l[j], by rw [List.getElem?_set_ne (by omega)]; simp [hj], rfl, rfl, rfl, rfl, rfl, .inl rfl⟩
  have hbx : ∀ id, isBx (l.set k { l[k] with In := box }) id = isBx l id := fun id => by
    unfold isBx
    rw [fnd_set hk { l[k] with In := box } rfl]
    by_cases h : 0 ≤ fnd l id
    · obtain ⟨i, hi, e, _⟩ := fnd_some h
      obtain ⟨t, h1, _, _, _, h5, _⟩ := hget i hi
      rw [e]
      simp only [Int.toNat_natCast, h1, Option.getD_some, h5, getD_get hi]
    · simp [h]
  refine ⟨fun i hi => ?_, by simpa using R.len⟩
  have hi' : i < l.length := by simpa using hi
  obtain ⟨t, h1, h2, h3, h4, h5, h6, h7⟩ := hget i hi'
  have e : (l.set k { l[k] with In := box })[i] = t := by simpa [hi'] using h1
  rw [e]
  have ho := R.ok i hi'
  simp only [okT, hbx, h2, h3, h4, h5, h6] at ho ⊢
  have hp : ((l.set k { l[k] with In := box })[i - 1]?.getD default).Id = (l[i - 1]?.getD default).Id := by
    have hi1 : i - 1 < l.length := by omega
    obtain ⟨t', g1, g2, _⟩ := hget (i - 1) hi1
    rw [g1]; simp [g2, hi1]
  rw [hp]
  simp only [Bool.and_eq_true] at ho ⊢
  refine ⟨ho.1, ?_⟩
  rcases h7 with h7 | h7
  · rw [h7]; exact ho.2
  · rw [h7, hb]; simp
theorem deepB_set {l : List Thing} (R : Right l) {k : Nat} (hk : k < l.length) {box : Int} (hb : isBx l box = true) : deepB (l.set k { l[k] with In := box }) = dpB (l.set k { l[k] with In := box }) := by
  have R' := okT_set R hk hb
  unfold deepB dpB
  have h1 : allI (okT (l.set k { l[k] with In := box })) 0 (l.set k { l[k] with In := box }) = true := allI_iff.2 fun j hj => by simpa using R'.ok j hj
  rw [h1]
  simp [R.len]
theorem setIn_nat {l : List Thing} {id box : Int} {k : Nat} (hk : k < l.length) (e : fnd l id = (k : Int)) : setIn l id box = l.set k { l[k] with In := box } := by
  unfold setIn thA; rw [e]; simp [hk]
theorem seaV_le (l : List Thing) (id : Int) (s : Bool) : (seaV l id s).1.length = l.length := by unfold seaV; split <;> (try split) <;> simp
theorem takV_le (l : List Thing) (id : Int) : (takV l id).1.length = l.length := by unfold takV; split <;> (try split) <;> (try split) <;> simp
theorem empV_le (l : List Thing) (id : Int) : (empV l id).1.length = l.length := by unfold empV empL; split <;> (try split) <;> simp
theorem putV_le (l : List Thing) (id box : Int) : (putV l id box).1.length = l.length := by unfold putV setIn; split <;> (try split) <;> (try split) <;> (try split) <;> (try split) <;> simp
end Go.Sx
