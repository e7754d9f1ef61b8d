/- FindWay: what both functions return. -/
import Derived.Test.YtnefegnodjaldaaGfK
namespace Go.Sx
open Relax (g g_set X)
set_option linter.unusedVariables false

theorem loopM_nx {σ τ ρ : Type} {body : σ → Option (Ctl σ τ ρ)} {s s' : σ} {f : Nat} (h : body s = some (.next s')) : loopM body (f + 1) s = loopM body f s' := by simp [loopM, h]
theorem loopM_bk {σ τ ρ : Type} {body : σ → Option (Ctl σ τ ρ)} {s : σ} {t : τ} {f : Nat} (h : body s = some (.brk t)) : loopM body (f + 1) s = some (.inl t) := by simp [loopM, h]
/-- the number of legs with which the last arrival is first had -/
def lgsN (n : Network) (st : Nat) (at0 : Int) (x : Nat) : Nat := ((List.range ((plcs n).length + 1)).find? (fun k => decide (g (XN n st at0 k) x = DN n st at0 x))).getD 0
theorem lgs_spec (n : Network) (st : Nat) (at0 : Int) (x : Nat) : lgsN n st at0 x ≤ (plcs n).length ∧ g (XN n st at0 (lgsN n st at0 x)) x = DN n st at0 x ∧ ∀ j, j < lgsN n st at0 x → g (XN n st at0 j) x ≠ DN n st at0 x := by
  unfold lgsN
  cases hf : (List.range ((plcs n).length + 1)).find? (fun k => decide (g (XN n st at0 k) x = DN n st at0 x)) with
  | none =>
    have := List.find?_eq_none.1 hf (plcs n).length (by simp)
    simp at this
  | some k =>
    obtain ⟨h1, h2, h3⟩ := List.find?_range_eq_some.1 hf
    simp only [Option.getD_some]
    refine ⟨by have := List.mem_range.1 h2; omega, by simpa using h1, fun j hj => by have := h3 j hj; simpa using this⟩
/-- the way that is found -/
def fwV (n : Network) (a b : ByteArray) (t : Int) : List Trip × Bool :=
  if earV n a b t < 0 then ([], false) else
    (bckW n (idxV (plcs n) a).toNat t (lgsN n (idxV (plcs n) a).toNat t (idxV (plcs n) b).toNat) (idxV (plcs n) b).toNat (earV n a b t), true)
theorem fw_tight {n : Network} {a b : ByteArray} {t : Int} (h : 0 ≤ earV n a b t) : ∃ st x : Nat, Fine n a t ∧ idxV (plcs n) a = (st : Int) ∧ idxV (plcs n) b = (x : Int) ∧ st < (plcs n).length ∧ x < (plcs n).length ∧ earV n a b t = DN n st t x ∧ Tight n st t (lgsN n st t x) x (DN n st t x) ∧ fwV n a b t = (bckW n st t (lgsN n st t x) x (DN n st t x), true) := by
  have hc : Fine n a t ∧ ¬ idxV (plcs n) b < 0 := Classical.byContradiction fun hc => by rw [ear_bad hc] at h; omega
  obtain ⟨st, e1, h1⟩ := idx_lt hc.1.2.1
  obtain ⟨x, e2, h2⟩ := idx_lt hc.2
  have hE := ear_fine hc.1 hc.2
  rw [e1, e2] at hE
  simp only [Int.toNat_natCast] at hE
  obtain ⟨l1, l2, l3⟩ := lgs_spec n st t x
  refine ⟨st, x, hc.1, e1, e2, h1, h2, hE, tight_first hc.1.1 h1 hc.1.2.2 (by rw [← hE]; exact h) l2 l3, ?_⟩
  unfold fwV
  rw [if_neg (by omega), e1, e2, hE]
  rfl
theorem arrivals_eq (n : Network) (h : NetS n) (hn : netB n = true) (a : ByteArray) (at0 legs : Int) : impl_arrivals_at1fn83 n n a at0 legs = some (bestV n a at0 legs) := by
  have := best_impl n h a at0 legs
  unfold impl_BestArrivals impl_nextOf at this
  rw [impl_IsNetwork_eq n h, hn] at this
  simp only [Option.bind_some, Bool.not_true, cond_false] at this
  cases hx : impl_arrivals_at1fn83 n n a at0 legs with
  | none => rw [hx] at this; cases this
  | some v => rw [hx] at this; exact this
/-- all arrivals, by the number of legs -/
def allN (n : Network) (st : Nat) (at0 : Int) (m : Nat) : List (List Int) := (List.range m).map (XN n st at0)
theorem all_get {n : Network} {st : Nat} {at0 : Int} {m k : Nat} (hk : k < m) : gi (allN n st at0 m) (k : Int) = some (XN n st at0 k) := by
  have hl : k < (allN n st at0 m).length := by simp [allN]; exact hk
  rw [gi_nat hl]
  simp [allN]
section
variable {n : Network} (h : NetS n) (hn : netB n = true) {st : Nat} (hst : st < (plcs n).length) {at0 : Int} (ha : ¬ at0 > 100000) {a : ByteArray} (hf : Fine n a at0) (hai : idxV (plcs n) a = (st : Int))
include h hn hst ha hf hai
theorem best_at (k : Nat) : bestV n a at0 (k : Int) = XN n st at0 k := by
  have _ := h
  have _ := hn
  have _ := hst
  have _ := ha
  rw [best_vals hf, hai, Int.toNat_natCast]
theorem spec_back : ∀ (k x : Nat) (due : Int) (way : List Trip) (f : Nat), x < (plcs n).length → Tight n st at0 k x due → way.length + k ≤ 1000 → k < f →
    loopM (spec_FindWay_L2 n a at0 (plcs n) (st : Int)) f (due, (x : Int), way, (k : Int)) = some (.inl (bckW n st at0 k x due ++ way))
  | 0, x, due, way, f + 1, hx, T, hw, hfu => loopM_bk (by show spec_FindWay_L2_b n a at0 (plcs n) (st : Int) due (x : Int) way ((0 : Nat) : Int) = _; simp [spec_FindWay_L2_b, bckW])
  | k + 1, x, due, way, f + 1, hx, T, hw, hfu => by
    have hp := plcs_len n h
    obtain ⟨i, h1, h2, h3, h4, h5, h6⟩ := tight_step hn hst ha T
    obtain ⟨q1, q2, q3, q4⟩ := tight_trip hn hst ha h2 h5
    have hlen := XN_len hn hst ha k
    have hws : w64 (((k + 1 : Nat) : Int) - 1) = (k : Int) := by rw [w64_id (by omega) (by omega)]; omega
    have hst' := specStep_eq h hn (st := st) hlen (XN_big hn hst ha k) hx due
    rw [h1] at hst'
    have hap : ap 16 ([stpT n st (XN n st at0 k) i] : List Trip) way = some ([stpT n st (XN n st at0 k) i] ++ way) := ap_eq (by simp <;> omega) (by simp <;> omega)
    have hgl : gi n.Legs (stpT n st (XN n st at0 k) i).Leg = some n.Legs[i] := by rw [q4]; exact gi_nat h2
    obtain ⟨a1, a2⟩ := iA_spec h2
    have hgi : gi (XN n st at0 k) (iA n i : Int) = some (g (XN n st at0 k) (iA n i)) := gi_g (by omega)
    rw [loopM_nx (s' := (g (XN n st at0 k) (iA n i), (iA n i : Int), [stpT n st (XN n st at0 k) i] ++ way, (k : Int))) (by
      show spec_FindWay_L2_b n a at0 (plcs n) (st : Int) due (x : Int) way ((k + 1 : Nat) : Int) = _
      unfold spec_FindWay_L2_b
      have hpos : decide (((k + 1 : Nat) : Int) > 0) = true := by simp <;> omega
      simp only [hpos, cond_true, hws, best_spec n h, best_at h hn hst ha hf hai, Option.bind_some, hst', hap, hgl, index_eq _ _ (show (plcs n).length ≤ 4000000 by omega), a1, hgi])]
    rw [spec_back k (iA n i) _ _ f a2 h6 (by simp <;> omega) (by omega)]
    have hb : bckW n st at0 (k + 1) x due = bckW n st at0 k (iA n i) (g (XN n st at0 k) (iA n i)) ++ [stpT n st (XN n st at0 k) i] := by
      rw [bckW, h1]
    rw [hb, List.append_assoc]
theorem impl_back (m : Nat) (hm : m = (plcs n).length + 1) : ∀ (k x : Nat) (due : Int) (back : List Trip) (f : Nat), x < (plcs n).length → Tight n st at0 k x due → back.length + k ≤ 1000 → k < m → k < f →
    loopM (impl_wayTo_at1fn83_L3 n n a (allN n st at0 m)) f (plcs n, (x : Int), due, (k : Int), back) = some (.inl (back ++ (bckW n st at0 k x due).reverse))
  | 0, x, due, back, f + 1, hx, T, hw, hkm, hfu => loopM_bk (by show impl_wayTo_at1fn83_L3_b n n a (allN n st at0 m) (plcs n) (x : Int) due ((0 : Nat) : Int) back = _; simp [impl_wayTo_at1fn83_L3_b, bckW])
  | k + 1, x, due, back, f + 1, hx, T, hw, hkm, hfu => by
    have _ := hf
    have hp := plcs_len n h
    obtain ⟨i, h1, h2, h3, h4, h5, h6⟩ := tight_step hn hst ha T
    obtain ⟨q1, q2, q3, q4⟩ := tight_trip hn hst ha h2 h5
    have hlen := XN_len hn hst ha k
    have hws : w64 (((k + 1 : Nat) : Int) - 1) = (k : Int) := by rw [w64_id (by omega) (by omega)]; omega
    have hst' := implStep_eq h hn (st := st) hlen (XN_big hn hst ha k) hx due hai
    rw [h1] at hst'
    have hap : ap 16 back ([stpT n st (XN n st at0 k) i] : List Trip) = some (back ++ [stpT n st (XN n st at0 k) i]) := ap_eq (by simp <;> omega) (by simp <;> omega)
    have hgl : gi n.Legs (stpT n st (XN n st at0 k) i).Leg = some n.Legs[i] := by rw [q4]; exact gi_nat h2
    obtain ⟨a1, a2⟩ := iA_spec h2
    have hgi : gi (XN n st at0 k) (iA n i : Int) = some (g (XN n st at0 k) (iA n i)) := gi_g (by omega)
    have hall := all_get (n := n) (st := st) (at0 := at0) (m := m) (k := k) (by omega)
    rw [loopM_nx (s' := (plcs n, (iA n i : Int), g (XN n st at0 k) (iA n i), (k : Int), back ++ [stpT n st (XN n st at0 k) i])) (by
      show impl_wayTo_at1fn83_L3_b n n a (allN n st at0 m) (plcs n) (x : Int) due ((k + 1 : Nat) : Int) back = _
      unfold impl_wayTo_at1fn83_L3_b
      have hpos : decide (((k + 1 : Nat) : Int) > 0) = true := by simp <;> omega
      simp only [hpos, cond_true, hws, hall, Option.bind_some, hst', impl_wayTo_at1fn83_j1, Bool.not_true, cond_false, hap, hgl, placeAt_eq _ _ (show (plcs n).length ≤ 4000000 by omega), a1, hgi])]
    rw [impl_back m hm k (iA n i) _ _ f a2 h6 (by simp <;> omega) (by omega) (by omega)]
    have hb : bckW n st at0 (k + 1) x due = bckW n st at0 k (iA n i) (g (XN n st at0 k) (iA n i)) ++ [stpT n st (XN n st at0 k) i] := by
      rw [bckW, h1]
    rw [hb, List.reverse_append, List.append_assoc]
    rfl
end
/-- a list, turned round -/
theorem turn_loop (l : List Trip) (hl : l.length ≤ 1000) : ∀ (i : Nat) (out : List Trip) (f : Nat), i ≤ l.length → out.length + i ≤ 1000 → i < f → loopM (impl_wayTo_at1fn83_L4 l) f (out, (i : Int) - 1) = some (.inl (out ++ (l.take i).reverse))
  | 0, out, f + 1, hi, ho, hf => loopM_bk (by show impl_wayTo_at1fn83_L4_b l out (((0 : Nat) : Int) - 1) = _; simp [impl_wayTo_at1fn83_L4_b])
  | i + 1, out, f + 1, hi, ho, hf => by
    have hil : i < l.length := by omega
    have hap : ap 16 out ([l[i]] : List Trip) = some (out ++ [l[i]]) := ap_eq (by simp <;> omega) (by simp <;> omega)
    have he : ((i + 1 : Nat) : Int) - 1 = (i : Int) := by omega
    rw [he, loopM_nx (s' := (out ++ [l[i]], (i : Int) - 1)) (by
      show impl_wayTo_at1fn83_L4_b l out (i : Int) = _
      unfold impl_wayTo_at1fn83_L4_b
      have h0 : decide ((i : Int) ≥ 0) = true := by simp
      have hw : w64 ((i : Int) - 1) = (i : Int) - 1 := w64_id (by omega) (by omega)
      simp only [h0, cond_true, gi_nat hil, Option.bind_some, hap, hw])]
    rw [turn_loop l hl i _ f (by omega) (by simp <;> omega) (by omega)]
    rw [List.take_succ_eq_append_getElem hil, List.reverse_append, List.append_assoc]
    rfl
theorem findWay_spec (n : Network) (h : NetS n) (a b : ByteArray) (t : Int) : spec_FindWay n a b t = some (fwV n a b t) := by
  have hp := plcs_len n h
  unfold spec_FindWay
  rw [(ear_spec n h a b t).1]
  simp only [Option.bind_some]
  by_cases hE : earV n a b t < 0
  · unfold fwV
    rw [if_pos hE]
    simp [hE]
  · obtain ⟨st, x, hf, e1, e2, hst, hx, hD, T, hV⟩ := fw_tight (n := n) (a := a) (b := b) (t := t) (by omega)
    rw [hV]
    obtain ⟨l1, l2, l3⟩ := lgs_spec n st t x
    have h40 := plcs_le hf.1
    have hL1 := loop_go (body := spec_FindWay_L1 n a t (DN n st t x) (x : Int)) (lgsN n st t x) (fun i => (i : Int)) ((lgsN n st t x : Nat) : Int) (show lgsN n st t x < 1000000000000 by omega) (fun i hi => by
      have hws := w64_succ (show i ≤ 1048576 by omega)
      have hgi : gi (XN n st t i) (x : Int) = some (g (XN n st t i) x) := gi_g (by rw [XN_len hf.1 hst hf.2.2]; exact hx)
      have hne : (g (XN n st t i) x != DN n st t x) = true := by have := l3 i hi; simpa using this
      show spec_FindWay_L1_b n a t (DN n st t x) (x : Int) (i : Int) = _
      unfold spec_FindWay_L1_b
      simp only [best_spec n h, best_at h hf.1 hst hf.2.2 hf e1, Option.bind_some, hgi, hne, cond_true, hws]) (by
      have hgi : gi (XN n st t (lgsN n st t x)) (x : Int) = some (g (XN n st t (lgsN n st t x)) x) := gi_g (by rw [XN_len hf.1 hst hf.2.2]; exact hx)
      show spec_FindWay_L1_b n a t (DN n st t x) (x : Int) ((lgsN n st t x : Nat) : Int) = _
      unfold spec_FindWay_L1_b
      simp only [best_spec n h, best_at h hf.1 hst hf.2.2 hf e1, Option.bind_some, hgi, l2]
      simp)
    have hL2 := spec_back h hf.1 hst hf.2.2 hf e1 (lgsN n st t x) x (DN n st t x) [] big hx T (by simp <;> omega) (by unfold big; omega)
    rw [List.append_nil] at hL2
    have hL1' : loopM (spec_FindWay_L1 n a t (DN n st t x) (x : Int)) big 0 = some (.inl ((lgsN n st t x : Nat) : Int)) := hL1
    have hE' : decide (DN n st t x < 0) = false := by rw [← hD]; simp [hE]
    simp only [hE', cond_false, spec_PlacesOf_eq n h, Option.bind_some, index_eq _ _ (show (plcs n).length ≤ 4000000 by omega), e1, e2, hD, hL1', spec_FindWay_L1_k, spec_FindWay_L1_a, hL2, spec_FindWay_L2_k, spec_FindWay_L2_a]
theorem findWay_impl (n : Network) (h : NetS n) (a b : ByteArray) (t : Int) : impl_FindWay n a b t = some (fwV n a b t) := by
  have hp := plcs_len n h
  unfold impl_FindWay
  rw [impl_IsNetwork_eq n h]
  simp only [Option.bind_some]
  cases hn : netB n with
  | false =>
    have : earV n a b t = -1 := ear_bad (fun hh => by have := hh.1.1; rw [hn] at this; cases this)
    unfold fwV
    rw [if_pos (by omega)]
    rfl
  | true =>
  have h40 := plcs_le hn
  simp only [Bool.not_true, cond_false, impl_nextOf, Option.bind_some]
  suffices H : impl_wayTo_at1fn83 n n a b t = some (fwV n a b t) by rw [H]; rfl
  unfold impl_wayTo_at1fn83
  rw [impl_PlacesOf_eq n h]
  simp only [Option.bind_some, placeAt_eq _ _ (show (plcs n).length ≤ 4000000 by omega)]
  by_cases hf : Fine n a t
  · obtain ⟨st, e1, hst⟩ := idx_lt hf.2.1
    have hl0 : ∀ i : Nat, (((XN n st t i).length : Int) == 0) = false := fun i => by rw [XN_len hn hst hf.2.2]; exact beq_eq_false_iff_ne.2 (by omega)
    by_cases hb : idxV (plcs n) b < 0
    · have hE : earV n a b t = -1 := ear_bad (fun hh => hh.2 hb)
      have hL : loopM (impl_wayTo_at1fn83_L1 n n a t (plcs n) (idxV (plcs n) b)) big (([] : List (List Int)), 0) = some (.inr ([], false)) := by
        have hbody : impl_wayTo_at1fn83_L1 n n a t (plcs n) (idxV (plcs n) b) (([] : List (List Int)), 0) = some (.ret ([], false)) := by
          show impl_wayTo_at1fn83_L1_b n n a t (plcs n) (idxV (plcs n) b) [] ((0 : Nat) : Int) = _
          unfold impl_wayTo_at1fn83_L1_b
          have h0 : decide (((0 : Nat) : Int) ≤ ((plcs n).length : Int)) = true := by simp
          simp only [h0, cond_true, arrivals_eq n h hn, best_at h hn hst hf.2.2 hf e1, Option.bind_some, hl0, cond_false, hb, decide_true]
        show loopM _ (999999999999 + 1) _ = _
        simp [loopM, hbody]
      rw [hL]
      unfold fwV
      rw [if_pos (by omega)]
      rfl
    · obtain ⟨x, e2, hx⟩ := idx_lt hb
      rw [e2]
      have hL1 := loop_go (body := impl_wayTo_at1fn83_L1 n n a t (plcs n) (x : Int)) ((plcs n).length + 1) (fun i => (allN n st t i, (i : Int))) (allN n st t ((plcs n).length + 1)) (show (plcs n).length + 1 < 1000000000000 by omega) (fun i hi => by
        have hws := w64_succ (show i ≤ 1048576 by omega)
        have hal : (allN n st t i).length = i := by simp [allN]
        have hap : ap 24 (allN n st t i) ([XN n st t i] : List (List Int)) = some (allN n st t i ++ [XN n st t i]) := ap_eq (by simp <;> omega) (by simp <;> omega)
        have hsucc : allN n st t (i + 1) = allN n st t i ++ [XN n st t i] := by simp [allN, List.range_succ]
        show impl_wayTo_at1fn83_L1_b n n a t (plcs n) (x : Int) (allN n st t i) (i : Int) = _
        unfold impl_wayTo_at1fn83_L1_b
        have h0 : decide ((i : Int) ≤ ((plcs n).length : Int)) = true := by simp <;> omega
        have hx0 : decide ((x : Int) < 0) = false := by simp
        simp only [h0, cond_true, arrivals_eq n h hn, best_at h hn hst hf.2.2 hf e1, Option.bind_some, hl0, cond_false, hx0, hap, hws, hsucc]) (by
        show impl_wayTo_at1fn83_L1_b n n a t (plcs n) (x : Int) _ (((plcs n).length + 1 : Nat) : Int) = _
        unfold impl_wayTo_at1fn83_L1_b
        have h0 : decide ((((plcs n).length + 1 : Nat) : Int) ≤ ((plcs n).length : Int)) = false := by simp <;> omega
        simp only [h0, cond_false])
      have hL1' : loopM (impl_wayTo_at1fn83_L1 n n a t (plcs n) (x : Int)) big (([] : List (List Int)), 0) = some (.inl (allN n st t ((plcs n).length + 1))) := hL1
      rw [hL1']
      have hall : ∀ k, k < (plcs n).length + 1 → gi (allN n st t ((plcs n).length + 1)) (k : Int) = some (XN n st t k) := fun k hk => all_get hk
      have hgx : ∀ k, gi (XN n st t k) (x : Int) = some (g (XN n st t k) x) := fun k => gi_g (by rw [XN_len hn hst hf.2.2]; exact hx)
      have hE : earV n a b t = DN n st t x := by rw [ear_fine hf hb, e1, e2]; rfl
      simp only [Option.bind_some, impl_wayTo_at1fn83_L1_k, impl_wayTo_at1fn83_L1_a, hall (plcs n).length (Nat.lt_succ_self _), hgx]
      by_cases hneg : DN n st t x < 0
      · have hneg' : g (XN n st t (plcs n).length) x < 0 := hneg
        unfold fwV
        rw [hE, if_pos hneg]
        simp only [hneg', decide_true, cond_true]
      · have hneg' : ¬ g (XN n st t (plcs n).length) x < 0 := hneg
        obtain ⟨st', x', _, e1', e2', _, _, _, T, hV⟩ := fw_tight (n := n) (a := a) (b := b) (t := t) (by omega)
        have hs : st' = st := by omega
        have hxx : x' = x := by omega
        subst hs
        subst hxx
        obtain ⟨l1, l2, l3⟩ := lgs_spec n st' t x'
        have hL2 := loop_go (body := impl_wayTo_at1fn83_L2 (x' : Int) (allN n st' t ((plcs n).length + 1)) (DN n st' t x')) (lgsN n st' t x') (fun i => (i : Int)) ((lgsN n st' t x' : Nat) : Int) (show lgsN n st' t x' < 1000000000000 by omega) (fun i hi => by
          have hws := w64_succ (show i ≤ 1048576 by omega)
          have hne : (g (XN n st' t i) x' != DN n st' t x') = true := by have := l3 i hi; simpa using this
          show impl_wayTo_at1fn83_L2_b (x' : Int) (allN n st' t ((plcs n).length + 1)) (DN n st' t x') (i : Int) = _
          unfold impl_wayTo_at1fn83_L2_b
          simp only [hall i (by omega), Option.bind_some, hgx, hne, cond_true, hws]) (by
          show impl_wayTo_at1fn83_L2_b (x' : Int) (allN n st' t ((plcs n).length + 1)) (DN n st' t x') ((lgsN n st' t x' : Nat) : Int) = _
          unfold impl_wayTo_at1fn83_L2_b
          simp only [hall _ (show lgsN n st' t x' < (plcs n).length + 1 by omega), Option.bind_some, hgx, l2]
          simp)
        have hL2' : loopM (impl_wayTo_at1fn83_L2 (x' : Int) (allN n st' t ((plcs n).length + 1)) (g (XN n st' t (plcs n).length) x')) big 0 = some (.inl ((lgsN n st' t x' : Nat) : Int)) := hL2
        have hL3 := impl_back h hn hst hf.2.2 hf e1 ((plcs n).length + 1) rfl (lgsN n st' t x') x' (DN n st' t x') [] big hx T (by simp <;> omega) (by omega) (by unfold big; omega)
        rw [List.nil_append] at hL3
        have hL3' : loopM (impl_wayTo_at1fn83_L3 n n a (allN n st' t ((plcs n).length + 1))) big (plcs n, (x' : Int), g (XN n st' t (plcs n).length) x', ((lgsN n st' t x' : Nat) : Int), ([] : List Trip)) = some (.inl (bckW n st' t (lgsN n st' t x') x' (DN n st' t x')).reverse) := hL3
        have hbl := bck_len hn hst hf.2.2 (lgsN n st' t x') x' (DN n st' t x') T
        have hL4 := turn_loop (bckW n st' t (lgsN n st' t x') x' (DN n st' t x')).reverse (by rw [List.length_reverse, hbl]; omega) (bckW n st' t (lgsN n st' t x') x' (DN n st' t x')).reverse.length [] big (Nat.le_refl _) (by rw [List.length_reverse, hbl]; simp; omega) (by rw [List.length_reverse, hbl]; unfold big; omega)
        rw [List.take_length, List.reverse_reverse, List.nil_append] at hL4
        have hw : w64 (((bckW n st' t (lgsN n st' t x') x' (DN n st' t x')).reverse.length : Int) - 1) = ((bckW n st' t (lgsN n st' t x') x' (DN n st' t x')).reverse.length : Int) - 1 := by
          rw [List.length_reverse, hbl]; exact w64_id (by omega) (by omega)
        simp only [hneg', decide_false, cond_false, hL2', Option.bind_some, impl_wayTo_at1fn83_L2_k, impl_wayTo_at1fn83_L2_a, hL3', impl_wayTo_at1fn83_L3_k, impl_wayTo_at1fn83_L3_a, hw, hL4, impl_wayTo_at1fn83_L4_k, impl_wayTo_at1fn83_L4_a, hV]
  · have hE : earV n a b t = -1 := ear_bad (fun hh => hf hh.1)
    have hL : loopM (impl_wayTo_at1fn83_L1 n n a t (plcs n) (idxV (plcs n) b)) big (([] : List (List Int)), 0) = some (.inr ([], false)) := by
      have hbody : impl_wayTo_at1fn83_L1 n n a t (plcs n) (idxV (plcs n) b) (([] : List (List Int)), 0) = some (.ret ([], false)) := by
        show impl_wayTo_at1fn83_L1_b n n a t (plcs n) (idxV (plcs n) b) [] ((0 : Nat) : Int) = _
        unfold impl_wayTo_at1fn83_L1_b
        have h0 : decide (((0 : Nat) : Int) ≤ ((plcs n).length : Int)) = true := by simp
        simp only [h0, cond_true, arrivals_eq n h hn, best_bad hf, Option.bind_some]
        rfl
      show loopM _ (999999999999 + 1) _ = _
      simp [loopM, hbody]
    rw [hL]
    unfold fwV
    rw [if_pos (by omega)]
    rfl
end Go.Sx
