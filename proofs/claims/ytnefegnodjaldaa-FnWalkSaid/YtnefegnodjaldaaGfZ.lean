/- What the best arrivals and the latest starts mean. -/
import Derived.Test.YtnefegnodjaldaaGfU
import Derived.Test.YtnefegnodjaldaaSxZ
namespace Go.Sx
open Relax (g g_set X)
set_option linter.unusedVariables false

theorem nxt_mono {n : Network} {leg r r' : Int} {d : Nat} (hr : r' ≤ r) (h : (List.range 61).find? (nxtB n leg r) = some d) : ∃ d', (List.range 61).find? (nxtB n leg r') = some d' ∧ d' ≤ d := by
  obtain ⟨h1, h2, h3⟩ := List.find?_range_eq_some.1 h
  have h1' : nxtB n leg r' d = true := by
    simp only [nxtB, Bool.and_eq_true, decide_eq_true_eq] at h1 ⊢
    exact ⟨h1.1, by omega⟩
  cases hf : (List.range 61).find? (nxtB n leg r') with
  | none => exact absurd h1' (by simpa using List.find?_eq_none.1 hf d h2)
  | some d' =>
    refine ⟨d', rfl, ?_⟩
    obtain ⟨g1, g2, g3⟩ := List.find?_range_eq_some.1 hf
    by_cases hh : d < d'
    · have := g3 d hh
      rw [h1'] at this; cases this
    · omega
theorem enT_mono (n : Network) (leg : Int) {d d' : Nat} (h : d' ≤ d) : enT n ⟨leg, d'⟩ ≤ enT n ⟨leg, d⟩ ∧ stT n ⟨leg, d'⟩ ≤ stT n ⟨leg, d⟩ := by
  unfold enT stT
  simp only
  omega
theorem las_mono {n : Network} {leg u : Int} {d : Nat} (hd : d < 61) (hr : runB n leg d = true) (hu : enT n ⟨leg, d⟩ ≤ u) : ∃ d', days.find? (lasB n leg u) = some d' ∧ d ≤ d' := by
  have h1 : lasB n leg u d = true := by simp [lasB, hr, hu]
  have hm : d ∈ days := by simp [days]; exact hd
  cases hf : days.find? (lasB n leg u) with
  | none => exact absurd h1 (by simpa using List.find?_eq_none.1 hf d hm)
  | some d' =>
    refine ⟨d', rfl, ?_⟩
    obtain ⟨g1, i, hi, g2, g3⟩ := List.find?_eq_some_iff_getElem.1 hf
    have hdl : 60 - d < days.length := by simp [days]; omega
    have e1 := days_get hdl
    have e2 := days_get hi
    by_cases hh : 60 - d < i
    · have := g3 (60 - d) hh
      rw [e1, show 60 - (60 - d) = d by omega, h1] at this
      cases this
    · simp [days] at hi
      omega
theorem rdy_eq {n : Network} (hn : netB n = true) {st i : Nat} {x : Int} (h0 : 0 ≤ x) (h1 : x ≤ 1000000) : rdyN n st i x = if iA n i = st then x else x + n.Change := by
  have := change_in hn
  unfold rdyN
  rw [w64_id (by omega) (by omega)]
/-- an arrival along one leg, said without the search -/
theorem arr_some {n : Network} {st i : Nat} {x e : Int} (h : arrN n st i x = some e) : x ≤ 1000000 ∧ ∃ d, (List.range 61).find? (nxtB n i (rdyN n st i x)) = some d ∧ e = enT n ⟨i, d⟩ := by
  unfold arrN at h
  split at h
  · rename_i hx
    refine ⟨hx, ?_⟩
    cases hf : (List.range 61).find? (nxtB n i (rdyN n st i x)) with
    | none => rw [hf] at h; cases h
    | some d => rw [hf] at h; injection h with h; exact ⟨d, rfl, h.symm⟩
  · cases h
/-- WHO IS READY EARLIER ARRIVES NO LATER -/
theorem arr_mono {n : Network} (hn : netB n = true) {st st' i : Nat} {x x' e : Int} (h0 : 0 ≤ x') (hx : x' ≤ 1000000) (hr : rdyN n st' i x' ≤ rdyN n st i x) (h : arrN n st i x = some e) : ∃ e', arrN n st' i x' = some e' ∧ e' ≤ e := by
  obtain ⟨_, d, hd, rfl⟩ := arr_some h
  obtain ⟨d', h1, h2⟩ := nxt_mono hr hd
  refine ⟨enT n ⟨i, d'⟩, ?_, (enT_mono n i h2).1⟩
  unfold arrN
  rw [if_pos hx, h1]

/-- the rounds from a place at a time -/
abbrev XN (n : Network) (st : Nat) (at0 : Int) (k : Nat) : List Int := X (iA n) (iB n) (arrN n st) n.Legs.length (x0N n st at0) k
/-- the end of the rounds -/
abbrev DN (n : Network) (st : Nat) (at0 : Int) (v : Nat) : Int := g (XN n st at0 (plcs n).length) v
section
variable {n : Network} (hn : netB n = true) {st : Nat} (hst : st < (plcs n).length) {at0 : Int} (ha : ¬ at0 > 100000)
include hn hst ha
theorem XN_big (k v : Nat) : g (XN n st at0 k) v ≤ 1000000 := X_big hn (x0_start hst ha).1 (x0_start hst ha).2 k v
theorem XN_st (k : Nat) : g (XN n st at0 k) st = v0N at0 := by
  have := Relax.X_start (A := iA n) (relax_ok hn st) (x0_start hst ha).1 k
  rw [this, g_x0 hst, if_pos rfl]
theorem XN_low (k v : Nat) (h : 0 ≤ g (XN n st at0 k) v) : v0N at0 ≤ g (XN n st at0 k) v := by
  have := Relax.X_low (A := iA n) (relax_ok hn st) (x0_start hst ha).1 k v h
  rw [g_x0 hst, if_pos rfl] at this
  exact this
theorem XN_more (k j v : Nat) (h : 0 ≤ g (XN n st at0 k) v) : 0 ≤ g (XN n st at0 (k + j)) v ∧ g (XN n st at0 (k + j)) v ≤ g (XN n st at0 k) v :=
  Relax.X_mono (A := iA n) (relax_ok hn st) (x0_start hst ha).1 k v h j
theorem XN_neg (k v : Nat) : g (XN n st at0 k) v = -1 ∨ 0 ≤ g (XN n st at0 k) v := by
  induction k with
  | zero =>
    have h0 := g_x0 (at0 := at0) hst v
    show g (x0N n st at0) v = -1 ∨ 0 ≤ g (x0N n st at0) v
    rw [h0]
    split
    · refine .inr ?_; unfold v0N; split <;> omega
    · exact .inl rfl
  | succ k ih =>
    rcases (Relax.inv (A := iA n) (relax_ok hn st) _ (Relax.X_len (A := iA n) (relax_ok hn st) (x0_start hst ha).1 k) n.Legs.length (Nat.le_refl _)).from_ v with e | ⟨e1, _⟩
    · have e : g (XN n st at0 (k + 1)) v = g (XN n st at0 k) v := e
      rw [e]
      exact ih
    · exact .inr e1
theorem XN_step {k i : Nat} {e : Int} (hi : i < n.Legs.length) (h0 : 0 ≤ g (XN n st at0 k) (iA n i)) (he : arrN n st i (g (XN n st at0 k) (iA n i)) = some e) :
    0 ≤ g (XN n st at0 (k + 1)) (iB n i) ∧ g (XN n st at0 (k + 1)) (iB n i) ≤ e := Relax.X_step (relax_ok hn st) (x0_start hst ha).1 hi h0 he
theorem DN_closed {i : Nat} {e : Int} (hi : i < n.Legs.length) (h0 : 0 ≤ DN n st at0 (iA n i)) (he : arrN n st i (DN n st at0 (iA n i)) = some e) :
    0 ≤ DN n st at0 (iB n i) ∧ DN n st at0 (iB n i) ≤ e := Relax.X_closed (relax_ok hn st) (x0_start hst ha).1 (Nat.le_succ _) hi h0 he
theorem XN_end {k : Nat} (hk : (plcs n).length ≤ k) : XN n st at0 k = XN n st at0 (plcs n).length := Relax.X_end (A := iA n) (relax_ok hn st) (x0_start hst ha).1 hk
theorem XN_ind (P : Nat → Nat → Int → Prop) (h0 : P 0 st (v0N at0)) (hk : ∀ k v u, P k v u → P (k + 1) v u)
    (hs : ∀ k i u e, i < n.Legs.length → 0 ≤ u → P k (iA n i) u → arrN n st i u = some e → P (k + 1) (iB n i) e) : ∀ k v, 0 ≤ g (XN n st at0 k) v → P k v (g (XN n st at0 k) v) :=
  Relax.X_ind (relax_ok hn st) (x0_start hst ha).1 P (by rw [g_x0 hst, if_pos rfl]; exact h0) hk hs
end
/-- WHO STARTS LATER ARRIVES NO EARLIER -/
theorem XN_later {n : Network} (hn : netB n = true) {st : Nat} (hst : st < (plcs n).length) {a b : Int} (hb : ¬ b > 100000) (hab : v0N a ≤ v0N b) (ha : ¬ a > 100000) (k v : Nat)
    (h : 0 ≤ g (XN n st b k) v) : 0 ≤ g (XN n st a k) v ∧ g (XN n st a k) v ≤ g (XN n st b k) v := by
  have h00 : 0 ≤ v0N a := by unfold v0N; split <;> omega
  refine XN_ind hn hst hb (fun k v u => 0 ≤ g (XN n st a k) v ∧ g (XN n st a k) v ≤ u) ?_ ?_ ?_ k v h
  · have := XN_st hn hst ha 0
    rw [this]; omega
  · intro k v u ⟨h1, h2⟩
    have := XN_more hn hst ha k 1 v h1
    omega
  · intro k i u e hi hu ⟨h1, h2⟩ he
    have hbg := XN_big hn hst ha k (iA n i)
    have hub := (arr_some he).1
    obtain ⟨e', h3, h4⟩ := arr_mono hn h1 hbg (st' := st) (by rw [rdy_eq hn h1 hbg, rdy_eq hn hu hub]; split <;> omega) he
    have := XN_step hn hst ha hi h1 h3
    omega
/-- A WAY OVER A THIRD PLACE IS NEVER EARLIER -/
theorem DN_over {n : Network} (hn : netB n = true) {st so : Nat} (hst : st < (plcs n).length) (hso : so < (plcs n).length) {a : Int} (ha : ¬ a > 100000) (h0 : 0 ≤ DN n st a so)
    (hb : ¬ DN n st a so + n.Change > 100000) (k v : Nat) (h : 0 ≤ g (XN n so (DN n st a so + n.Change) k) v) : 0 ≤ DN n st a v ∧ DN n st a v ≤ g (XN n so (DN n st a so + n.Change) k) v := by
  have hc := change_in hn
  have hv0 : v0N (DN n st a so + n.Change) = DN n st a so + n.Change := by unfold v0N; split <;> omega
  suffices H : 0 ≤ DN n st a v ∧ DN n st a v ≤ g (XN n so (DN n st a so + n.Change) k) v ∧ DN n st a so + n.Change ≤ g (XN n so (DN n st a so + n.Change) k) v from ⟨H.1, H.2.1⟩
  refine XN_ind hn hso hb (fun k v u => 0 ≤ DN n st a v ∧ DN n st a v ≤ u ∧ DN n st a so + n.Change ≤ u) ?_ (fun _ _ _ h => h) ?_ k v h
  · rw [hv0]; omega
  · intro k i u e hi hu ⟨h1, h2, h3⟩ he
    have hbg := XN_big hn hst ha (plcs n).length (iA n i)
    have hub := (arr_some he).1
    have hlt := (arrN_in hn hu he).1
    obtain ⟨e', h4, h5⟩ := arr_mono hn h1 hbg (st' := st) (by
      rw [rdy_eq hn h1 hbg, rdy_eq hn hu hub]
      by_cases e1 : iA n i = st
      · rw [if_pos e1]
        split <;> omega
      · rw [if_neg e1]
        by_cases e2 : iA n i = so
        · rw [if_pos e2]
          have : DN n st a (iA n i) = DN n st a so := by rw [e2]
          omega
        · rw [if_neg e2]; omega) he
    have := DN_closed hn hst ha hi h1 h4
    omega
/-- the end of the sweeps -/
abbrev LN (n : Network) (x : Nat) (b : Int) (v : Nat) : Int := g (YN n x (y0N n x b) ((plcs n).length * n.Legs.length)) v
theorem places_legs {n : Network} {x : Nat} (hx : x < (plcs n).length) : 0 < n.Legs.length := by
  cases hL : n.Legs with
  | nil =>
    have : plcs n = [] := by simp [plcs, hL, nmL]
    rw [this] at hx
    exact absurd hx (Nat.not_lt_zero _)
  | cons a l => simp
theorem lf_some {n : Network} {x i : Nat} {v s : Int} (h : lfN n x i v = some s) : ∃ d, days.find? (lasB n i (if iB n i = x then v else w64 (v - n.Change))) = some d ∧ s = stT n ⟨i, d⟩ := by
  unfold lfN at h
  split at h
  · cases hf : days.find? (lasB n i (if iB n i = x then v else w64 (v - n.Change))) with
    | none => rw [hf] at h; cases h
    | some d => rw [hf] at h; injection h with h; exact ⟨d, rfl, h.symm⟩
  · cases h
theorem y0_len (n : Network) (x : Nat) (b : Int) : (y0N n x b).length = (plcs n).length := by simp [y0N]
section
variable {n : Network} (hn : netB n = true) {x : Nat} (hx : x < (plcs n).length) {b : Int} (hb0 : 0 ≤ b)
include hn hx
theorem LN_goal (t : Nat) : g (YN n x (y0N n x b) t) x = b := by
  have hL := places_legs hx
  rw [Y_goal hn hL hx (y0_len n x b), g_y0 hx, if_pos rfl]
theorem LN_le (t v : Nat) (h : 0 ≤ g (YN n x (y0N n x b) t) v) : g (YN n x (y0N n x b) t) v ≤ b := by
  have hL := places_legs hx
  refine Sweep.Y_ind (sweep_ok hn hL hx) (y0_len n x b) (fun _ u => u ≤ b) (by rw [g_y0 hx, if_pos rfl]; exact Int.le_refl _) (fun v hv => by rw [g_y0 hx, if_neg hv]; omega) ?_ t v h
  intro i u s hi hA hu hP hf
  have := (lfN_in hn hu hf).1
  omega
theorem LN_closed {i : Nat} {s : Int} (hi : i < n.Legs.length) (hA : iA n i ≠ x) (h0 : 0 ≤ LN n x b (iB n i)) (hf : lfN n x i (LN n x b (iB n i)) = some s) : s ≤ LN n x b (iA n i) := by
  have hL := places_legs hx
  exact Sweep.Y_closed (sweep_ok hn hL hx) (y0_len n x b) (by rw [Nat.mul_div_cancel _ hL]; omega) hi hA h0 hf
include hb0 in
theorem LN_neg (t v : Nat) : g (YN n x (y0N n x b) t) v = -1 ∨ 0 ≤ g (YN n x (y0N n x b) t) v := by
  have hL := places_legs hx
  induction t with
  | zero =>
    show g (y0N n x b) v = -1 ∨ 0 ≤ g (y0N n x b) v
    rw [g_y0 hx]
    split
    · exact .inr hb0
    · exact .inl rfl
  | succ t ih =>
    rcases Sweep.step_at (B := iB n) (sweep_ok hn hL hx) (y0_len n x b) t v with e | ⟨_, _, h2, h3, h4⟩
    · rw [e]; exact ih
    · refine .inr ?_
      obtain ⟨d, hd, hs⟩ := lf_some h3
      have h5 := (stT_in (las_trip hn hd).1).1
      rw [← hs] at h5
      exact h5
end
/-- WHO LEAVES AT THE LATEST START ARRIVES IN TIME -/
theorem dual_1 {n : Network} (hn : netB n = true) {st x : Nat} (hst : st < (plcs n).length) (hx : x < (plcs n).length) {a b : Int} (ha0 : 0 ≤ a) (ha : ¬ a > 100000) (hb0 : 0 ≤ b) (hb : b ≤ 100000)
    (h : a ≤ LN n x b st) : 0 ≤ DN n st a x ∧ DN n st a x ≤ b := by
  have hc := change_in hn
  have hL := places_legs hx
  have hv0 : v0N a = a := by unfold v0N; split <;> omega
  have hs := XN_st hn hst ha (plcs n).length
  have key := Sweep.Y_ind (B := iB n) (sweep_ok hn hL hx) (y0_len n x b) (fun v u => u ≤ b ∧ (0 ≤ DN n st a v → (if v = st then DN n st a v else DN n st a v + n.Change) ≤ u → 0 ≤ DN n st a x ∧ DN n st a x ≤ b)) ?_ (fun v hv => by rw [g_y0 hx, if_neg hv]; omega) ?_ ((plcs n).length * n.Legs.length) st (by show 0 ≤ LN n x b st; omega)
  · exact key.2 (by show 0 ≤ g (XN n st a (plcs n).length) st; omega) (by rw [if_pos rfl]; show g (XN n st a (plcs n).length) st ≤ LN n x b st; omega)
  · rw [g_y0 hx, if_pos rfl]
    refine ⟨Int.le_refl _, fun h1 h2 => ⟨h1, ?_⟩⟩
    split at h2 <;> omega
  · intro i u s hi hA hu ⟨hub', hP⟩ hf
    have hlt := (lfN_in hn hu hf).1
    refine ⟨by omega, fun h1 h2 => ?_⟩
    obtain ⟨d, hd, rfl⟩ := lf_some hf
    obtain ⟨ht, he⟩ := las_trip hn hd
    have hbg := XN_big hn hst ha (plcs n).length (iA n i)
    have hrun : runB n i d = true := by have := ht; simp [tripB, hn] at this; exact this
    have hd61 := (trip_in ht).2.2.2.2
    have hcan : nxtB n i (rdyN n st i (DN n st a (iA n i))) d = true := by
      rw [rdy_eq hn h1 hbg]
      simp only [nxtB, hrun, Bool.true_and, decide_eq_true_eq]
      exact h2
    cases hf2 : (List.range 61).find? (nxtB n i (rdyN n st i (DN n st a (iA n i)))) with
    | none => exact absurd hcan (by simpa using List.find?_eq_none.1 hf2 d (by simp; simp only at hd61; omega))
    | some d' =>
      have hdd : d' ≤ d := by
        obtain ⟨g1, g2, g3⟩ := List.find?_range_eq_some.1 hf2
        by_cases hh : d < d'
        · have := g3 d hh
          rw [hcan] at this; cases this
        · omega
      have harr : arrN n st i (DN n st a (iA n i)) = some (enT n ⟨i, d'⟩) := by
        unfold arrN
        rw [if_pos hbg, hf2]
      have hcl := DN_closed hn hst ha hi h1 harr
      have hem := (enT_mono n i hdd).1
      by_cases e1 : iB n i = x
      · rw [if_pos e1] at he
        rw [e1] at hcl
        omega
      · rw [if_neg e1, w64_id (by omega) (by omega)] at he
        refine hP hcl.1 ?_
        split <;> omega
/-- WHO ARRIVES IN TIME LEFT AT THE LATEST START OR BEFORE -/
theorem dual_2 {n : Network} (hn : netB n = true) {st x : Nat} (hst : st < (plcs n).length) (hx : x < (plcs n).length) {a b : Int} (ha0 : 0 ≤ a) (ha : ¬ a > 100000) (hb0 : 0 ≤ b) (hb : b ≤ 100000)
    (h0 : 0 ≤ DN n st a x) (h : DN n st a x ≤ b) : a ≤ LN n x b st := by
  have hc := change_in hn
  have hv0 : v0N a = a := by unfold v0N; split <;> omega
  have hg := LN_goal hn hx (b := b) ((plcs n).length * n.Legs.length)
  have key := XN_ind hn hst ha (fun _ v u => a ≤ u ∧ ((if v = x then u ≤ b else (if v = st then u else u + n.Change) ≤ LN n x b v) → a ≤ LN n x b st)) ?_ (fun _ _ _ h => h) ?_ (plcs n).length x h0
  · exact key.2 (by rw [if_pos rfl]; exact h)
  · rw [hv0]
    refine ⟨Int.le_refl _, fun hh => ?_⟩
    by_cases e : st = x
    · rw [if_pos e] at hh
      rw [e]
      show a ≤ g (YN n x (y0N n x b) ((plcs n).length * n.Legs.length)) x
      omega
    · rw [if_neg e, if_pos rfl] at hh; exact hh
  · intro k i u e hi hu ⟨hau, hP⟩ he
    have hlt := (arrN_in hn hu he).1
    refine ⟨by omega, fun hh => ?_⟩
    obtain ⟨hub, d, hd, rfl⟩ := arr_some he
    obtain ⟨ht, hs⟩ := nxt_trip hn hd
    rw [rdy_eq hn hu hub] at hs
    have hrun : runB n i d = true := by have := ht; simp [tripB, hn] at this; exact this
    have hd61 : d < 61 := by have := (trip_in ht).2.2.2.2; simp only at this; omega
    have hen := stT_in ht
    by_cases hB : iB n i = x
    · rw [if_pos hB] at hh
      obtain ⟨d', h1, h2⟩ := las_mono hd61 hrun hh
      have hLx : LN n x b (iB n i) = b := by rw [hB]; exact hg
      have hlf : lfN n x i (LN n x b (iB n i)) = some (stT n ⟨i, d'⟩) := by
        rw [hLx]
        unfold lfN
        rw [if_pos hB, if_pos (by omega), h1]
      have hst2 := (enT_mono n i h2).2
      apply hP
      by_cases hA : iA n i = x
      · rw [if_pos hA]; omega
      · rw [if_neg hA]
        have := LN_closed hn hx hi hA (by rw [hLx]; exact hb0) hlf
        split at hs <;> split <;> omega
    · rw [if_neg hB] at hh
      by_cases hBs : iB n i = st
      · rw [if_pos hBs, hBs] at hh
        omega
      · rw [if_neg hBs] at hh
        have hL0 : 0 ≤ LN n x b (iB n i) := by omega
        have hLb' : LN n x b (iB n i) ≤ b := LN_le hn hx ((plcs n).length * n.Legs.length) (iB n i) hL0
        obtain ⟨d', h1, h2⟩ := las_mono (u := LN n x b (iB n i) - n.Change) hd61 hrun (by omega)
        have hlf : lfN n x i (LN n x b (iB n i)) = some (stT n ⟨i, d'⟩) := by
          unfold lfN
          rw [if_neg hB, w64_id (by omega) (by omega), if_pos (by omega), h1]
        have hst2 := (enT_mono n i h2).2
        apply hP
        by_cases hA : iA n i = x
        · rw [if_pos hA]; omega
        · rw [if_neg hA]
          have := LN_closed hn hx hi hA hL0 hlf
          split at hs <;> split <;> omega
end Go.Sx
