/- Things in boxes: who is around whom, and what all weigh together. -/
import Derived.Test.YtanfbicgojbnkaaDoorMeG
namespace Go.Sx
set_option linter.unusedVariables false

/-- a sum over the places of a row -/
def sm : Nat → (Nat → Int) → Int
  | 0, _ => 0
  | n + 1, f => sm n f + f n
theorem sm_congr {n : Nat} {f g : Nat → Int} (h : ∀ i, i < n → f i = g i) : sm n f = sm n g := by
  induction n with
  | zero => rfl
  | succ n ih => rw [sm, sm, ih fun i hi => h i (by omega), h n (by omega)]
theorem sm_add (n : Nat) (f g : Nat → Int) : sm n (fun i => f i + g i) = sm n f + sm n g := by
  induction n with
  | zero => rfl
  | succ n ih => simp only [sm, ih]; omega
theorem sm_zero (n : Nat) : sm n (fun _ => 0) = 0 := by
  induction n with
  | zero => rfl
  | succ n ih => simp only [sm, ih]; rfl
theorem sm_zero' {n : Nat} {f : Nat → Int} (h : ∀ i, i < n → f i = 0) : sm n f = 0 := (sm_congr h).trans (sm_zero n)
theorem sm_mul (n : Nat) (c : Int) (f : Nat → Int) : sm n (fun i => c * f i) = c * sm n f := by
  induction n with
  | zero => simp [sm]
  | succ n ih => simp only [sm, ih, Int.mul_add]
theorem sm_le {n : Nat} {f g : Nat → Int} (h : ∀ i, i < n → f i ≤ g i) : sm n f ≤ sm n g := by
  induction n with
  | zero => simp [sm]
  | succ n ih => have := ih fun i hi => h i (by omega); have := h n (by omega); simp only [sm]; omega
theorem sm_comm (n m : Nat) (f : Nat → Nat → Int) : sm n (fun i => sm m fun j => f i j) = sm m fun j => sm n fun i => f i j := by
  induction n with
  | zero => simp [sm, sm_zero]
  | succ n ih => simp only [sm, ih, sm_add]
theorem sm_one {n k : Nat} (hk : k < n) (f : Nat → Int) : sm n (fun i => if i = k then f i else 0) = f k := by
  induction n with
  | zero => omega
  | succ n ih =>
    simp only [sm]
    by_cases h : n = k
    · subst h
      rw [sm_zero' fun i hi => by simp; omega]; simp
    · rw [ih (by omega)]; simp [h]
theorem grsP_sm (l : List Thing) (n : Nat) (id : Int) : ∀ m, grsP l n id m = sm m fun i => if (l[i]?.getD default).In = id then grs l n i else 0
  | 0 => by simp [grsP, sm]
  | m + 1 => by rw [grsP_succ, sm, grsP_sm l n id m]

/-- the k-th thing -/
abbrev th (l : List Thing) (k : Nat) : Thing := l[k]?.getD default
/-- the numbers of the boxes around the k-th thing, from within -/
abbrev anc (l : List Thing) (k : Nat) : List Int := chn l 5 (k : Int)
theorem th_get {l : List Thing} {k : Nat} (h : k < l.length) : th l k = l[k] := getD_get h
def inc (x : Int) (L : List Int) : Int := if x ∈ L then 1 else 0
theorem inc_cons (x a : Int) (L : List Int) (h : a ∉ L) : inc x (a :: L) = (if x = a then 1 else 0) + inc x L := by
  unfold inc
  by_cases hx : x = a
  · subst hx; simp [h]
  · simp [hx]
theorem chn_5 (l : List Thing) (k : Nat) : chn l 5 (k : Int) = if (th l k).In = 0 then [] else (th l k).In :: chn l 4 (fnd l (th l k).In) := by
  rw [chn, if_pos (show (0 : Int) ≤ (k : Int) by omega)]
  simp only [Int.toNat_natCast, th]
theorem anc_nil {l : List Thing} (R : Right l) {k : Nat} (hk : k < l.length) (h : (th l k).In = 0) : anc l k = [] := by
  rw [anc, chn, if_pos (by omega), if_pos (by simpa using h)]
section
variable {l : List Thing} (R : Right l) (D : DpAll l)
include R
theorem th_pos {k : Nat} (h : k < l.length) : 1 ≤ (th l k).Id := by rw [th_get h]; exact (R.id_pos k h).1
theorem th_inj {i j : Nat} (hi : i < l.length) (hj : j < l.length) (e : (th l i).Id = (th l j).Id) : i = j := by
  rw [th_get hi, th_get hj] at e; exact R.inj hi hj e
include D
theorem anc_cons {k : Nat} (hk : k < l.length) (h : (th l k).In ≠ 0) : ∃ j, j < l.length ∧ (th l j).Id = (th l k).In ∧ (th l j).Box = true ∧ fnd l (th l k).In = (j : Int) ∧ anc l k = (th l j).Id :: anc l j := by
  rw [th_get hk] at h
  obtain ⟨j, hj, e, h1, h2⟩ := isBx_spec ((R.inn k hk).resolve_left h)
  have hd := D k hk
  unfold dpN at hd
  have hc := chn_child R hk hj h1.symm 4
  rw [hc] at hd
  have h4 : (chn l 4 (j : Int)).length < 4 := by simp at hd; omega
  refine ⟨j, hj, by rw [th_get hj, th_get hk]; exact h1, by rw [th_get hj]; exact h2, by rw [th_get hk]; exact e, ?_⟩
  rw [th_get hj]
  show chn l 5 (k : Int) = _
  rw [hc]
  have := chn_fix 4 1 (j : Int) h4
  rw [show chn l (4 + 1) (j : Int) = chn l 5 (j : Int) from rfl] at this
  rw [← this]
theorem anc_ind {M : Nat → Prop} (base : ∀ k, k < l.length → (th l k).In = 0 → anc l k = [] → M k)
    (step : ∀ k j, k < l.length → j < l.length → (th l k).In ≠ 0 → (th l j).Id = (th l k).In → anc l k = (th l j).Id :: anc l j → M j → M k) : ∀ k, k < l.length → M k := by
  have key : ∀ n k, k < l.length → (anc l k).length ≤ n → M k := by
    intro n
    induction n with
    | zero =>
      intro k hk hn
      by_cases h : (th l k).In = 0
      · exact base k hk h (anc_nil R hk h)
      · obtain ⟨j, _, _, _, _, e⟩ := anc_cons R D hk h; rw [e] at hn; simp at hn
    | succ n ih =>
      intro k hk hn
      by_cases h : (th l k).In = 0
      · exact base k hk h (anc_nil R hk h)
      · obtain ⟨j, hj, h1, _, _, e⟩ := anc_cons R D hk h
        exact step k j hk hj h h1 e (ih j hj (by rw [e] at hn; simpa using hn))
  exact fun k hk => key _ k hk (Nat.le_refl _)
theorem anc_lt {j : Nat} (hj : j < l.length) : ∀ k, k < l.length → (th l j).Id ∈ anc l k → (anc l j).length < (anc l k).length :=
  anc_ind R D (fun k _ _ e h => by rw [e] at h; cases h) (fun k p hk hp _ _ e ih h => by
    rw [e] at h ⊢
    rcases List.mem_cons.1 h with h | h
    · rw [th_inj R hj hp h]; simp
    · have := ih h; simp; omega)
theorem anc_self {k : Nat} (hk : k < l.length) : (th l k).Id ∉ anc l k := fun h => by have := anc_lt R D hk k hk h; omega
theorem anc_split {j : Nat} (hj : j < l.length) : ∀ k, k < l.length → (th l j).Id ∈ anc l k → ∃ pre, anc l k = pre ++ (th l j).Id :: anc l j :=
  anc_ind R D (fun k _ _ e h => by rw [e] at h; cases h) (fun k p hk hp _ _ e ih h => by
    rw [e] at h ⊢
    rcases List.mem_cons.1 h with h | h
    · have := th_inj R hj hp h; subst this; exact ⟨[], rfl⟩
    · obtain ⟨pre, e2⟩ := ih h; exact ⟨(th l p).Id :: pre, by rw [e2]; rfl⟩)
/-- what is in a box is directly in it, or in just one that is -/
theorem inc_parts {q : Nat} (hq : q < l.length) : ∀ k, k < l.length → inc (th l q).Id (anc l k) = (if (th l k).In = (th l q).Id then 1 else 0) + sm l.length fun d => if (th l d).In = (th l q).Id then inc (th l d).Id (anc l k) else 0 := by
  refine anc_ind R D (fun k hk h0 e => ?_) (fun k j hk hj _ h1 e ih => ?_)
  · have := th_pos R hq
    rw [e, h0, if_neg (by omega), sm_zero' fun i _ => by simp [inc]]
    simp [inc]
  · have hs := anc_self R D hj
    have e1 : inc (th l q).Id (anc l k) = (if (th l j).Id = (th l q).Id then 1 else 0) + inc (th l q).Id (anc l j) := by
      rw [e, inc_cons _ _ _ hs]
      by_cases h : (th l q).Id = (th l j).Id
      · simp [h]
      · simp [h, Ne.symm h]
    have e2 : (sm l.length fun d => if (th l d).In = (th l q).Id then inc (th l d).Id (anc l k) else 0) = (if (th l j).In = (th l q).Id then 1 else 0) + sm l.length fun d => if (th l d).In = (th l q).Id then inc (th l d).Id (anc l j) else 0 := by
      have : (if (th l j).In = (th l q).Id then (1 : Int) else 0) = sm l.length fun d => if d = j then (if (th l d).In = (th l q).Id then 1 else 0) else 0 := (sm_one hj (fun d => if (th l d).In = (th l q).Id then (1 : Int) else 0)).symm
      rw [this, ← sm_add]
      refine sm_congr fun d hd => ?_
      rw [e]
      by_cases h : (th l d).In = (th l q).Id
      · rw [if_pos h, if_pos h, if_pos h, inc_cons _ _ _ hs]
        by_cases hdj : d = j
        · subst hdj; simp
        · have : (th l d).Id ≠ (th l j).Id := fun e => hdj (th_inj R hd hj e)
          simp [hdj, this]
      · simp [h]
    rw [e1, e2, ← h1, ih]
/-- the gross weight is the own weight and those of all inside -/
theorem grs_flat : ∀ (n k : Nat), k < l.length → 5 ≤ dpN l k + n → grs l n k = (th l k).Own + sm l.length fun t => (th l t).Own * inc (th l k).Id (anc l t)
  | 0, k, hk, h => by have := D k hk; omega
  | n + 1, k, hk, h => by
    rw [grs_eq R k n hk, ← th_get hk, grsP_sm]
    congr 1
    have e : (sm l.length fun i => if (th l i).In = (th l k).Id then grs l n i else 0) = sm l.length fun i => if (th l i).In = (th l k).Id then ((th l i).Own + sm l.length fun t => (th l t).Own * inc (th l i).Id (anc l t)) else 0 := by
      refine sm_congr fun i hi => ?_
      by_cases hc : (th l i).In = (th l k).Id
      · rw [if_pos hc, if_pos hc]
        have hc' : l[i].In = l[k].Id := by rw [th_get hi, th_get hk] at hc; exact hc
        have hd := dpN_child R hi hk hc' (D k hk)
        have := D i hi
        exact grs_flat n i hi (by omega)
      · rw [if_neg hc, if_neg hc]
    refine e.trans ?_
    have e2 : (sm l.length fun t => (th l t).Own * inc (th l k).Id (anc l t)) = sm l.length fun t => ((if (th l t).In = (th l k).Id then (th l t).Own else 0) + sm l.length fun d => if (th l d).In = (th l k).Id then (th l t).Own * inc (th l d).Id (anc l t) else 0) := by
      refine sm_congr fun t ht => ?_
      rw [inc_parts R D hk t ht, Int.mul_add, ← sm_mul]
      congr 1
      · split <;> simp
      · exact sm_congr fun d _ => by split <;> simp
    rw [e2, sm_add, sm_comm, ← sm_add]
    refine sm_congr fun i hi => ?_
    by_cases hc : (th l i).In = (th l k).Id
    · simp [hc]
    · simp [hc, sm_zero]
/-- each thing is in just one that is in nothing, or is such a one -/
theorem root_one : ∀ t, t < l.length → (if anc l t = [] then 1 else 0) + (sm l.length fun k => if anc l k = [] then inc (th l k).Id (anc l t) else 0) = 1 := by
  refine anc_ind R D (fun k hk h0 e => ?_) (fun k j hk hj _ h1 e ih => ?_)
  · rw [e, sm_zero' fun i _ => by simp [inc]]; rfl
  · have hs := anc_self R D hj
    rw [if_neg (by rw [e]; simp)]
    have e2 : (sm l.length fun d => if anc l d = [] then inc (th l d).Id (anc l k) else 0) = (if anc l j = [] then 1 else 0) + sm l.length fun d => if anc l d = [] then inc (th l d).Id (anc l j) else 0 := by
      have : (if anc l j = [] then (1 : Int) else 0) = sm l.length fun d => if d = j then (if anc l d = [] then 1 else 0) else 0 := (sm_one hj (fun d => if anc l d = [] then (1 : Int) else 0)).symm
      rw [this, ← sm_add]
      refine sm_congr fun d hd => ?_
      rw [e]
      by_cases h : anc l d = []
      · rw [if_pos h, if_pos h, if_pos h, inc_cons _ _ _ hs]
        by_cases hdj : d = j
        · subst hdj; simp
        · have : (th l d).Id ≠ (th l j).Id := fun e => hdj (th_inj R hd hj e)
          simp [hdj, this]
      · simp [h]
    rw [e2, ih]; rfl
theorem outer_sum : (sm l.length fun k => if anc l k = [] then grs l 5 k else 0) = sm l.length fun t => (th l t).Own := by
  have e : (sm l.length fun k => if anc l k = [] then grs l 5 k else 0) = sm l.length fun k => ((if anc l k = [] then (th l k).Own else 0) + sm l.length fun t => if anc l k = [] then (th l t).Own * inc (th l k).Id (anc l t) else 0) := by
    refine sm_congr fun k hk => ?_
    by_cases h : anc l k = []
    · rw [if_pos h, if_pos h, grs_flat R D 5 k hk (by omega)]; simp [h]
    · simp [h, sm_zero]
  rw [e, sm_add, sm_comm, ← sm_add]
  refine sm_congr fun t ht => ?_
  have h1 := root_one R D t ht
  have h2 : (sm l.length fun k => if anc l k = [] then (th l t).Own * inc (th l k).Id (anc l t) else 0) = (th l t).Own * sm l.length fun k => if anc l k = [] then inc (th l k).Id (anc l t) else 0 := by
    rw [← sm_mul]; exact sm_congr fun k _ => by split <;> simp
  have h3 : (if anc l t = [] then (th l t).Own else 0) = (th l t).Own * (if anc l t = [] then 1 else 0) := by split <;> simp
  rw [h2, h3, ← Int.mul_add, h1, Int.mul_one]
end

/-- some things of a box are put where the box is -/
structure Up (l l' : List Thing) (p : Nat) (C : Nat → Bool) : Prop where
  len : l'.length = l.length
  hp : p < l.length
  hC : ∀ i, i < l.length → C i = true → (th l i).In = (th l p).Id
  get : ∀ i, i < l.length → th l' i = { th l i with In := if C i then (th l p).In else (th l i).In }
theorem chn_take (l : List Thing) : ∀ (n : Nat) (k : Int), chn l n k = (chn l (n + 1) k).take n
  | 0, _ => by simp [chn]
  | n + 1, k => by
    rw [chn, chn]
    split
    · split
      · simp
      · rw [List.take_succ_cons, ← chn_take l n]
    · simp
theorem fnd_ids {l l' : List Thing} (hl : l'.length = l.length) (h : ∀ i, i < l.length → (th l' i).Id = (th l i).Id) (id : Int) : fnd l' id = fnd l id := by
  have key : ∀ (l l' : List Thing) (i : Nat), l'.length = l.length → (∀ i, i < l.length → (th l' i).Id = (th l i).Id) → fstI (fun x => x.Id == id) i l' = fstI (fun x => x.Id == id) i l := by
    intro l
    induction l with
    | nil => intro l' i hl _; have : l' = [] := List.eq_nil_of_length_eq_zero (by simpa using hl); rw [this]
    | cons a l ih =>
      intro l' i hl h
      cases l' with
      | nil => simp at hl
      | cons b l' =>
        have h0 : b.Id = a.Id := by simpa [th] using h 0 (by simp)
        rw [fstI, fstI, h0, ih l' (i + 1) (by simpa using hl) fun j hj => by have := h (j + 1) (by simpa using hj); simpa [th] using this]
  unfold fnd
  rw [key l l' 0 hl h]
theorem Up.fnd {l l' : List Thing} {p : Nat} {C : Nat → Bool} (R : Right l) (D : DpAll l) (U : Up l l' p C) (id : Int) : Sx.fnd l' id = Sx.fnd l id := fnd_ids U.len (fun i hi => by rw [U.get i hi]) id
section
variable {l l' : List Thing} {p : Nat} {C : Nat → Bool} (R : Right l) (D : DpAll l) (U : Up l l' p C)
include R D U
theorem Up.isBx (id : Int) : Sx.isBx l' id = Sx.isBx l id := by
  unfold Sx.isBx
  rw [U.fnd R D]
  by_cases h : 0 ≤ Sx.fnd l id
  · obtain ⟨i, hi, e, _⟩ := fnd_some h
    rw [e]
    have := U.get i hi
    simp only [th] at this
    simp only [Int.toNat_natCast, this]
  · simp [h]
theorem Up.right : Right l' := by
  refine ⟨fun i hi => ?_, by rw [U.len]; exact R.len⟩
  have hi' : i < l.length := by rw [← U.len]; exact hi
  have e : l'[i] = { th l i with In := if C i then (th l p).In else (th l i).In } := by rw [← th_get hi, U.get i hi']
  have ho := R.ok i hi'
  rw [← th_get hi'] at ho
  rw [e]
  simp only [okT, U.isBx R D] at ho ⊢
  have hpr : (l'[i - 1]?.getD default).Id = (l[i - 1]?.getD default).Id := by
    have := U.get (i - 1) (by omega)
    simp only [th] at this
    rw [this]
  rw [hpr]
  simp only [Bool.and_eq_true] at ho ⊢
  refine ⟨ho.1, ?_⟩
  by_cases hc : C i = true
  · rw [if_pos hc, th_get U.hp]
    rcases R.inn p U.hp with h | h
    · simp [h]
    · simp [h]
  · rw [if_neg hc]; exact ho.2
theorem Up.anc : ∀ t, t < l.length → Sx.anc l' t = Sx.anc l t ∨ Sx.anc l' t = (Sx.anc l t).filter (fun x => x != (th l p).Id) := by
  have hp := U.hp
  have hself := anc_self R D hp
  have hfp : (Sx.anc l p).filter (fun x => x != (th l p).Id) = Sx.anc l p := List.filter_eq_self.2 fun x hx => by
    simp only [bne_iff_ne, ne_eq]; intro e; exact hself (e ▸ hx)
  have hCp : C p = false := by
    cases h : C p with
    | false => rfl
    | true =>
      have h1 := U.hC p hp h
      have : (th l p).In ≠ 0 := by have := th_pos R hp; omega
      obtain ⟨j, hj, e1, _, _, e2⟩ := anc_cons R D hp this
      rw [e1, h1] at e2
      exact absurd (by rw [e2]; simp) hself
  refine anc_ind R D (fun k hk h0 e => ?_) (fun k j hk hj hn h1 e ih => ?_)
  · refine .inl ?_
    rw [e, Sx.anc, chn_5, if_pos]
    rw [U.get k hk]
    by_cases hc : C k = true
    · have := U.hC k hk hc
      have := th_pos R hp
      omega
    · show (if C k = true then _ else (th l k).In) = 0
      rw [if_neg hc]; exact h0
  · by_cases hc : C k = true
    · have hjp : j = p := th_inj R hj hp (by rw [h1]; exact U.hC k hk hc)
      subst hjp
      have hcp : Sx.anc l' k = Sx.anc l' j := by
        have g1 := U.get k hk
        have g2 := U.get j hj
        rw [if_pos hc] at g1
        rw [hCp] at g2
        simp only [Sx.anc]
        rw [chn_5, chn_5, g1, g2]
        rfl
      right
      rw [hcp, e, List.filter_cons_of_neg (by simp), hfp]
      rcases ih with ih | ih
      · exact ih
      · rw [ih, hfp]
    · have g1 := U.get k hk
      rw [if_neg hc] at g1
      have hlen : (Sx.anc l' j).length ≤ 3 := by
        have hd := D k hk
        unfold dpN at hd
        rw [show chn l 5 (k : Int) = Sx.anc l k from rfl, e] at hd
        have hd : (Sx.anc l j).length ≤ 3 := by simpa using hd
        rcases ih with ih | ih
        · rw [ih]; exact hd
        · rw [ih]; exact Nat.le_trans (List.length_filter_le _ _) hd
      have h4 : chn l' 4 (j : Int) = Sx.anc l' j := by
        rw [chn_take l' 4, List.take_of_length_le]
        have : (chn l' (4 + 1) (j : Int)).length ≤ 3 := hlen
        omega
      have hck : Sx.anc l' k = (th l j).Id :: Sx.anc l' j := by
        rw [Sx.anc, chn_5, g1]
        show (if (th l k).In = 0 then [] else (th l k).In :: chn l' 4 (Sx.fnd l' (th l k).In)) = _
        rw [if_neg hn, U.fnd R D]
        have : Sx.fnd l (th l k).In = (j : Int) := by
          rw [← h1, th_get hj]; exact R.fnd j hj
        rw [this, h4, h1]
      rcases ih with ih | ih
      · left; rw [hck, e, ih]
      · by_cases hjp : j = p
        · subst hjp
          left
          rw [hck, e, ih, hfp]
        · right
          have : (th l j).Id ≠ (th l p).Id := fun e => hjp (th_inj R hj hp e)
          rw [hck, e, ih, List.filter_cons_of_pos (by simpa using this)]
theorem Up.dpAll : DpAll l' := fun k hk => by
  have hk' : k < l.length := by rw [← U.len]; exact hk
  have hd := D k hk'
  unfold dpN at hd ⊢
  rcases U.anc R D k hk' with h | h
  · rw [show chn l' 5 (k : Int) = Sx.anc l' k from rfl, h]; exact hd
  · rw [show chn l' 5 (k : Int) = Sx.anc l' k from rfl, h]; exact Nat.le_trans (List.length_filter_le _ _) hd
theorem Up.inc_le {q t : Nat} (hq : q < l.length) (ht : t < l.length) : inc (th l q).Id (Sx.anc l' t) ≤ inc (th l q).Id (Sx.anc l t) := by
  unfold inc
  rcases U.anc R D t ht with h | h
  · rw [h]; exact Int.le_refl _
  · rw [h]
    by_cases hm : (th l q).Id ∈ Sx.anc l t
    · rw [if_pos hm]; split <;> omega
    · rw [if_neg hm, if_neg fun hx => hm (List.mem_filter.1 hx).1]; exact Int.le_refl _
theorem Up.grs_le {q : Nat} (hq : q < l.length) : grs l' 5 q ≤ grs l 5 q := by
  have R' := U.right R D
  have D' := U.dpAll R D
  rw [grs_flat R D 5 q hq (by omega), grs_flat R' D' 5 q (by rw [U.len]; exact hq) (by omega), U.len, U.get q hq]
  have : (sm l.length fun t => (th l' t).Own * inc (th l q).Id (Sx.anc l' t)) ≤ sm l.length fun t => (th l t).Own * inc (th l q).Id (Sx.anc l t) := by
    refine sm_le fun t ht => ?_
    rw [U.get t ht]
    have h1 := U.inc_le R D hq ht
    have h2 : 0 ≤ (th l t).Own := by rw [th_get ht]; have := R.own t ht; omega
    exact Int.mul_le_mul_of_nonneg_left h1 h2
  simp only
  omega
end
theorem areB_iff {l : List Thing} : areB l = true ↔ Right l ∧ DpAll l ∧ ∀ i (h : i < l.length), roomT l i l[i] = true := by
  constructor
  · intro h
    obtain ⟨R, D⟩ := Right.of_are h
    refine ⟨R, D, fun i hi => ?_⟩
    unfold areB at h
    simp only [Bool.and_eq_true] at h
    simpa using allI_iff.1 h.2 i hi
  · rintro ⟨R, D, h⟩
    have h1 : allI (okT l) 0 l = true := allI_iff.2 fun j hj => by simpa using R.ok j hj
    have h2 : allI (fun _ => dpT l) 0 l = true := allI_iff.2 fun j hj => by
      simp only [dpT, R.fnd j hj, decide_eq_true_eq]; exact D j hj
    have h3 : allI (roomT l) 0 l = true := allI_iff.2 fun j hj => by simpa using h j hj
    unfold areB deepB
    simp [h1, h2, h3, R.len]
theorem Up.are {l l' : List Thing} {p : Nat} {C : Nat → Bool} (h : areB l = true) (U : Up l l' p C) : areB l' = true := by
  obtain ⟨R, D, hr⟩ := areB_iff.1 h
  refine areB_iff.2 ⟨U.right R D, U.dpAll R D, fun i hi => ?_⟩
  have hi' : i < l.length := by rw [← U.len]; exact hi
  have h1 := hr i hi'
  have h2 := U.grs_le R D hi'
  have e := U.get i hi'
  rw [th_get hi] at e
  unfold roomT at h1 ⊢
  rw [e, th_get hi']
  cases hb : l[i].Box with
  | false => simp
  | true =>
    simp only [hb, Bool.not_true, Bool.false_or, decide_eq_true_eq] at h1 ⊢
    omega
end Go.Sx
