/- The places of a network: both functions make the same rising list. -/
import Derived.Test.YtnefegnodjaldaaGlT
import Derived.Test.YtnefegnodjaldaaSxV
namespace Go.Sx
set_option linter.unusedVariables false

def nmL (l : List Leg) : List ByteArray := l.flatMap fun x => [x.From, x.To]
theorem nmL_len (l : List Leg) : (nmL l).length = 2 * l.length := by
  induction l with
  | nil => rfl
  | cons a l ih =>
    have : nmL (a :: l) = a.From :: a.To :: nmL l := rfl
    rw [this]; simp; omega
theorem nmL_get (l : List Leg) : ∀ (i : Nat) (h : i < l.length), (nmL l)[2 * i]? = some l[i].From ∧ (nmL l)[2 * i + 1]? = some l[i].To := by
  induction l with
  | nil => intro i h; simp at h
  | cons a l ih =>
    intro i h
    have e : nmL (a :: l) = a.From :: a.To :: nmL l := rfl
    rw [e]
    cases i with
    | zero => exact ⟨rfl, rfl⟩
    | succ i =>
      have := ih i (by simpa using h)
      rw [show 2 * (i + 1) = 2 * i + 1 + 1 by omega]
      simpa using this
def plcs (n : Network) : List ByteArray := (nmL n.Legs).foldl (fun D s => insB s D) []
theorem ddB_len (l : List ByteArray) : (ddB l).length ≤ l.length := by
  have := (ddB_fold l [] (by simp)).2.2
  unfold ddB
  simpa using this
theorem dd_step {σ τ ρ : Type} (v : ByteArray) (D : List ByteArray) (hD : D.length ≤ 4000000) (f : List ByteArray → List ByteArray → Ctl σ τ ρ) :
    (bif !(memB v D) then (ap 16 D ([v] : List ByteArray)).bind (fun x => some (f (putB v D) x)) else some (f D D)) = some (f (putB v D) (putB v D)) := by
  unfold putB
  cases hb : memB v D with
  | true => rfl
  | false =>
    simp only [Bool.not_false, cond_true, cond_false]
    rw [ap_eq (by simp; omega) (by omega)]
    rfl
theorem places_L2 (a : Leg) (D : List ByteArray) (hD : D.length ≤ 3000000) : loopM (impl_PlacesOf_L2 a) big (D, D, 0) = some (.inl (putB a.To (putB a.From D), putB a.To (putB a.From D))) := by
  have h1 : (putB a.From D).length ≤ 3000001 := by unfold putB; cases memB a.From D <;> simp <;> omega
  have := loop_go (body := impl_PlacesOf_L2 a) 2 (fun i => match i with | 0 => (D, D, 0) | 1 => (putB a.From D, putB a.From D, 1) | _ => (putB a.To (putB a.From D), putB a.To (putB a.From D), 2)) (putB a.To (putB a.From D), putB a.To (putB a.From D)) (by decide) (fun i hi => by
    match i, hi with
    | 0, _ =>
      show impl_PlacesOf_L2_b a D D 0 = _
      unfold impl_PlacesOf_L2_b
      rw [show gi ([a.From, a.To] : List ByteArray) 0 = some a.From from rfl]
      simp only [List.length_cons, List.length_nil, Option.bind_some, show w64 (0 + 1) = 1 from rfl]
      exact dd_step a.From D (by omega) (fun x y => Ctl.next (x, y, 1))
    | 1, _ =>
      show impl_PlacesOf_L2_b a (putB a.From D) (putB a.From D) 1 = _
      unfold impl_PlacesOf_L2_b
      rw [show gi ([a.From, a.To] : List ByteArray) 1 = some a.To from rfl]
      simp only [List.length_cons, List.length_nil, Option.bind_some, show w64 (1 + 1) = 2 from rfl]
      exact dd_step a.To (putB a.From D) (by omega) (fun x y => Ctl.next (x, y, 2))) rfl
  exact this
theorem impl_PlacesOf_eq (n : Network) (h : NetS n) : impl_PlacesOf n = some (plcs n) := by
  have hl := h.legs
  unfold impl_PlacesOf
  have h1 := loop_go (body := impl_PlacesOf_L1 n) n.Legs.length (fun i => (ddB (nmL (n.Legs.take i)), ddB (nmL (n.Legs.take i)), (i : Int))) (ddB (nmL n.Legs)) (big_pos hl) (fun i hi => by
    have hlen : (ddB (nmL (n.Legs.take i))).length ≤ 3000000 := by
      have := ddB_len (nmL (n.Legs.take i))
      rw [nmL_len] at this
      have : (n.Legs.take i).length ≤ n.Legs.length := by rw [List.length_take]; omega
      omega
    have e : ddB (nmL (n.Legs.take (i + 1))) = putB n.Legs[i].To (putB n.Legs[i].From (ddB (nmL (n.Legs.take i)))) := by
      rw [List.take_succ_eq_append_getElem hi]
      simp only [nmL, ddB, List.flatMap_append, List.foldl_append, List.flatMap_cons, List.flatMap_nil, List.foldl_cons, List.foldl_nil, List.append_nil, List.cons_append, List.nil_append]
    show impl_PlacesOf_L1_b n _ _ _ = _
    unfold impl_PlacesOf_L1_b
    simp only [Int.ofNat_lt, hi, decide_true, cond_true, gi_nat hi, Option.bind_some]
    rw [places_L2 _ _ hlen]
    simp only [Option.bind_some, impl_PlacesOf_L2_k, impl_PlacesOf_L2_a, e, w64_succ (Nat.le_of_lt (Nat.lt_of_lt_of_le hi hl))]) (by
    show impl_PlacesOf_L1_b n _ _ _ = _
    simp [impl_PlacesOf_L1_b])
  have h1 : loopM (impl_PlacesOf_L1 n) big (([] : List ByteArray), ([] : List ByteArray), 0) = some (.inl (ddB (nmL n.Legs))) := h1
  rw [h1]
  have hs : sort_Strings (ddB (nmL n.Legs)) = some (plcs n) := by
    unfold sort_Strings
    have := ddB_len (nmL n.Legs)
    rw [nmL_len] at this
    rw [if_pos (by omega), sort_ins]
    rfl
  simp [impl_PlacesOf_L1_k, impl_PlacesOf_L1_a, hs]
theorem slM_take {α : Type} (l : List α) (k : Nat) (h : k ≤ l.length) : slM l 0 (k : Int) = some (l.take k) := by
  unfold slM
  simp [h]
theorem slM_drop {α : Type} (l : List α) (k : Nat) (h : k ≤ l.length) : slM l (k : Int) l.length = some (l.drop k) := by
  unfold slM
  simp [h]
theorem spec_L2 (p : ByteArray) (l : List ByteArray) (hl : l.length ≤ 4000000) : loopM (spec_PlacesOf_L2 l p) big 0 = some (.inl (cntB p l : Int)) := by
  have hc := cntB_le p l
  have := loop_go (body := spec_PlacesOf_L2 l p) (cntB p l) (fun i => (i : Int)) (cntB p l : Int) (show cntB p l < 1000000000000 by omega) (fun i hi => by
    obtain ⟨h1, h2⟩ := cntB_lt p l i hi
    show spec_PlacesOf_L2_b l p _ = _
    unfold spec_PlacesOf_L2_b
    simp only [Int.ofNat_lt, h1, decide_true, cond_true, gi_nat h1, Option.bind_some, less_eq, h2]
    rw [w64_id (by omega) (by omega)]
    simp) (by
    show spec_PlacesOf_L2_b l p _ = _
    unfold spec_PlacesOf_L2_b
    by_cases h1 : cntB p l < l.length
    · have h2 := cntB_at p l h1
      simp only [Int.ofNat_lt, h1, decide_true, cond_true, gi_nat h1, Option.bind_some, less_eq, h2, decide_false, cond_false]
    · simp [h1])
  exact this
theorem spec_put (p : ByteArray) (l : List ByteArray) (hl : l.length ≤ 4000000) (i : Int) : spec_PlacesOf_j1 l i p = some (.next (insB p l, w64 (i + 1))) := by
  have hc := cntB_le p l
  unfold spec_PlacesOf_j1
  rw [spec_L2 p l hl]
  simp only [Option.bind_some, spec_PlacesOf_L2_k]
  unfold spec_PlacesOf_L2_a
  have key : ((slM l 0 (cntB p l : Int)).bind fun v11 => (ap 16 ([] : List ByteArray) v11).bind fun v13 => (ap 16 v13 ([p] : List ByteArray)).bind fun v15 => (slM l (cntB p l : Int) l.length).bind fun v17 => (ap 16 v15 v17).bind fun v19 => some (Ctl.next (τ := List ByteArray) (ρ := List ByteArray) (v19, w64 (i + 1)))) = some (.next (l.take (cntB p l) ++ [p] ++ l.drop (cntB p l), w64 (i + 1))) := by
    rw [slM_take l _ hc, slM_drop l _ hc]
    simp only [Option.bind_some]
    rw [ap_eq (by simp; omega) (by omega)]
    simp only [Option.bind_some, List.nil_append]
    rw [ap_eq (by simp; omega) (by omega)]
    simp only [Option.bind_some]
    rw [ap_eq (by simp; omega) (by omega)]
    rfl
  by_cases h1 : cntB p l < l.length
  · have hne : ((cntB p l : Int) == (l.length : Int)) = false := by simp; omega
    simp only [hne, cond_false, gi_nat h1, Option.bind_some, bytes_eq_decide]
    unfold insB
    rw [dif_pos h1]
    by_cases h2 : l[cntB p l] = p
    · simp [h2]
    · rw [if_neg h2]
      simp only [h2, decide_false, Bool.not_false, cond_true]
      exact key
  · have he : ((cntB p l : Int) == (l.length : Int)) = true := by simp; omega
    simp only [he, cond_true]
    unfold insB
    rw [dif_neg h1]
    exact key
theorem ins_len (l : List ByteArray) : ∀ D : List ByteArray, (l.foldl (fun D s => insB s D) D).length ≤ D.length + l.length := by
  induction l with
  | nil => intro D; simp
  | cons a l ih =>
    intro D
    have := ih (insB a D)
    have := insB_len a D
    simp only [List.foldl_cons, List.length_cons]
    omega
theorem spec_PlacesOf_eq (n : Network) (h : NetS n) : spec_PlacesOf n = some (plcs n) := by
  have hl := h.legs
  have hnl := nmL_len n.Legs
  unfold spec_PlacesOf
  have h1 := loop_go (body := spec_PlacesOf_L1 n) (2 * n.Legs.length) (fun i => (((nmL n.Legs).take i).foldl (fun D s => insB s D) [], (i : Int))) (plcs n) (show 2 * n.Legs.length < 1000000000000 by omega) (fun i hi => by
    have hj : i / 2 < n.Legs.length := by omega
    have hin : i < (nmL n.Legs).length := by omega
    have hlen : (((nmL n.Legs).take i).foldl (fun D s => insB s D) []).length ≤ 4000000 := by
      have := ins_len ((nmL n.Legs).take i) []
      have : ((nmL n.Legs).take i).length ≤ (nmL n.Legs).length := by rw [List.length_take]; omega
      simp only [List.length_nil] at *
      omega
    have e : ((nmL n.Legs).take (i + 1)).foldl (fun D s => insB s D) [] = insB (nmL n.Legs)[i] (((nmL n.Legs).take i).foldl (fun D s => insB s D) []) := by
      rw [List.take_succ_eq_append_getElem hin, List.foldl_append]; rfl
    have ed : Int.tdiv (i : Int) 2 = ((i / 2 : Nat) : Int) := by rw [Int.tdiv_eq_ediv_of_nonneg (by omega)]; omega
    have em : Int.tmod (i : Int) 2 = ((i % 2 : Nat) : Int) := by rw [Int.tmod_eq_emod_of_nonneg (by omega)]; omega
    have hw : w64 (2 * (n.Legs.length : Int)) = 2 * (n.Legs.length : Int) := w64_id (by omega) (by omega)
    have hw2 : w64 ((i / 2 : Nat) : Int) = ((i / 2 : Nat) : Int) := w64_id (by omega) (by omega)
    have hw3 : w64 ((i : Int) + 1) = ((i + 1 : Nat) : Int) := by rw [w64_id (by omega) (by omega)]; omega
    show spec_PlacesOf_L1_b n _ _ = _
    unfold spec_PlacesOf_L1_b
    have hlt : (i : Int) < 2 * (n.Legs.length : Int) := by omega
    simp only [hw, hlt, decide_true, cond_true, ed, hw2, gi_nat hj, Option.bind_some, em]
    obtain ⟨g1, g2⟩ := nmL_get n.Legs (i / 2) hj
    by_cases hp : i % 2 = 1
    · have e2 : (nmL n.Legs)[i] = n.Legs[i / 2].To := by
        have : 2 * (i / 2) + 1 = i := by omega
        rw [this] at g2
        simpa [hin] using g2
      have hb : (((i % 2 : Nat) : Int) == 1) = true := by simp [hp]
      simp only [hb, cond_true, spec_put _ _ hlen, hw3, e, e2]
    · have e2 : (nmL n.Legs)[i] = n.Legs[i / 2].From := by
        have : 2 * (i / 2) = i := by omega
        rw [this] at g1
        simpa [hin] using g1
      have hb : (((i % 2 : Nat) : Int) == 1) = false := by simp; omega
      simp only [hb, cond_false, spec_put _ _ hlen, hw3, e, e2]) (by
    have hw : w64 (2 * (n.Legs.length : Int)) = 2 * (n.Legs.length : Int) := w64_id (by omega) (by omega)
    show spec_PlacesOf_L1_b n _ _ = _
    unfold spec_PlacesOf_L1_b
    rw [hw]
    rw [show (nmL n.Legs).take (2 * n.Legs.length) = nmL n.Legs by rw [← hnl, List.take_length]]
    simp [plcs])
  have h1 : loopM (spec_PlacesOf_L1 n) big (([] : List ByteArray), 0) = some (.inl (plcs n)) := h1
  rw [h1]
  simp [spec_PlacesOf_L1_k, spec_PlacesOf_L1_a]
theorem plcs_len (n : Network) (h : NetS n) : (plcs n).length ≤ 2097152 := by
  have h1 := ins_len (nmL n.Legs) []
  have h2 := h.legs
  rw [nmL_len] at h1
  simp only [List.length_nil] at h1
  unfold plcs
  omega
end Go.Sx
