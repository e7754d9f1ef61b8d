/- Finding room: what is found; the more is closed or heavy, the later. -/
import Derived.Test.YtnefegnodjaldaaGlA
import Derived.Test.YtnefegnodjaldaaGlF
namespace Go.Sx
open Relax
set_option linter.unusedVariables false

namespace Fr
variable [F : Ctx]
/-- a way with room is there -/
def Has (n : Network) (a b : ByteArray) (t : Int) : Prop := bokB n F.l = true ∧ ¬ F.w < 1 ∧ Fine n a t ∧ ¬ idxV (plcs n) b < 0 ∧ 0 ≤ DN n (idxV (plcs n) a).toNat t (idxV (plcs n) b).toNat
/-- what the program finds -/
theorem findRoom_impl (n : Network) (h : NetS n) (hFl : F.l.length ≤ 1048576) (hFc : F.c.length ≤ 1048576) (a b : ByteArray) (t : Int) :
    (¬ Has n a b t ∧ impl_FindRoom n F.l F.c a b t F.w = some ([], false)) ∨
    (Has n a b t ∧ ∃ w, impl_FindRoom n F.l F.c a b t F.w = some (w, true) ∧ w.length ≤ 40 ∧ (∀ t0, t0 ≤ v0N t → ∃ r, Goes n w (a, t0) (b, r)) ∧ (∀ q ∈ w, tripB n q = true) ∧ endW n (v0N t) w = DN n (idxV (plcs n) a).toNat t (idxV (plcs n) b).toNat) := by
  have hp := plcs_len n h
  unfold impl_FindRoom
  rw [impl_AreBookings_eq n h F.l hFl]
  simp only [Option.bind_some]
  cases hbk : bokB n F.l with
  | false => exact .inl ⟨fun hh => (by have := hh.1; rw [hbk] at this; cases this), rfl⟩
  | true =>
  by_cases hw1 : F.w < 1
  · exact .inl ⟨fun hh => hh.2.1 hw1, by simp [hw1]⟩
  have hn := bok_net hbk
  have h40 := plcs_le hn
  simp only [hw1, Bool.not_true, decide_false, cond_false, impl_freeOf, Option.bind_some]
  have wrap : ∀ v, impl_wayTo_at1fn94 n (n, F.c, F.l, F.w) a b t = some v → (impl_wayTo_at1fn94 n (n, F.c, F.l, F.w) a b t).bind (fun v7 => some v7) = some v := fun v hv => by rw [hv]; rfl
  by_cases hf : Fine n a t
  · obtain ⟨st, e1, hst⟩ := idx_lt hf.2.1
    have hl0 : ∀ i : Nat, (((XN n st t i).length : Int) == 0) = false := fun i => by rw [XN_len hn hst hf.2.2]; exact beq_eq_false_iff_ne.2 (by omega)
    by_cases hb : idxV (plcs n) b < 0
    · refine .inl ⟨fun hh => hh.2.2.2.1 hb, wrap _ ?_⟩
      unfold impl_wayTo_at1fn94
      rw [impl_PlacesOf_eq n h]
      simp only [Option.bind_some, placeAt_eq _ _ (show (plcs n).length ≤ 4000000 by omega)]
      have hL : loopM (impl_wayTo_at1fn94_L1 n (n, F.c, F.l, F.w) a t (plcs n) (idxV (plcs n) b)) big (([] : List (List Int)), 0) = some (.inr ([], false)) := by
        have hbody : impl_wayTo_at1fn94_L1 n (n, F.c, F.l, F.w) a t (plcs n) (idxV (plcs n) b) (([] : List (List Int)), 0) = some (.ret ([], false)) := by
          show impl_wayTo_at1fn94_L1_b n (n, F.c, F.l, F.w) a t (plcs n) (idxV (plcs n) b) [] ((0 : Nat) : Int) = _
          unfold impl_wayTo_at1fn94_L1_b
          have h0 : decide (((0 : Nat) : Int) ≤ ((plcs n).length : Int)) = true := by simp
          simp only [h0, cond_true, arrivals_eq n h hn hFl hFc, best_at hf e1, Option.bind_some, hl0, cond_false, hb, decide_true]
        show loopM _ (999999999999 + 1) _ = _
        simp [loopM, hbody]
      rw [hL]
      rfl
    · obtain ⟨x, e2, hx⟩ := idx_lt hb
      have hL1 := loop_go (body := impl_wayTo_at1fn94_L1 n (n, F.c, F.l, F.w) a t (plcs n) (x : Int)) ((plcs n).length + 1) (fun i => (allN n st t i, (i : Int))) (allN n st t ((plcs n).length + 1)) (show (plcs n).length + 1 < 1000000000000 by omega) (fun i hi => by
        have hws := w64_succ (show i ≤ 1048576 by omega)
        have hal : (allN n st t i).length = i := by simp [allN]
        have hap : ap 24 (allN n st t i) ([XN n st t i] : List (List Int)) = some (allN n st t i ++ [XN n st t i]) := ap_eq (by simp <;> omega) (by simp <;> omega)
        have hsucc : allN n st t (i + 1) = allN n st t i ++ [XN n st t i] := by simp [allN, List.range_succ]
        show impl_wayTo_at1fn94_L1_b n (n, F.c, F.l, F.w) a t (plcs n) (x : Int) (allN n st t i) (i : Int) = _
        unfold impl_wayTo_at1fn94_L1_b
        have h0 : decide ((i : Int) ≤ ((plcs n).length : Int)) = true := by simp <;> omega
        have hx0 : decide ((x : Int) < 0) = false := by simp
        simp only [h0, cond_true, arrivals_eq n h hn hFl hFc, best_at hf e1, Option.bind_some, hl0, cond_false, hx0, hap, hws, hsucc]) (by
        show impl_wayTo_at1fn94_L1_b n (n, F.c, F.l, F.w) a t (plcs n) (x : Int) _ (((plcs n).length + 1 : Nat) : Int) = _
        unfold impl_wayTo_at1fn94_L1_b
        have h0 : decide ((((plcs n).length + 1 : Nat) : Int) ≤ ((plcs n).length : Int)) = false := by simp <;> omega
        simp only [h0, cond_false])
      have hL1' : loopM (impl_wayTo_at1fn94_L1 n (n, F.c, F.l, F.w) a t (plcs n) (x : Int)) big (([] : List (List Int)), 0) = some (.inl (allN n st t ((plcs n).length + 1))) := hL1
      have hall : ∀ k, k < (plcs n).length + 1 → gi (allN n st t ((plcs n).length + 1)) (k : Int) = some (XN n st t k) := fun k hk => all_get hk
      have hgx : ∀ k, gi (XN n st t k) (x : Int) = some (g (XN n st t k) x) := fun k => gi_g (by rw [XN_len hn hst hf.2.2]; exact hx)
      have hDe : DN n (idxV (plcs n) a).toNat t (idxV (plcs n) b).toNat = DN n st t x := by rw [e1, e2]; rfl
      by_cases hneg : DN n st t x < 0
      · have hneg' : g (XN n st t (plcs n).length) x < 0 := hneg
        refine .inl ⟨fun hh => by have := hh.2.2.2.2; rw [hDe] at this; omega, wrap _ ?_⟩
        unfold impl_wayTo_at1fn94
        rw [impl_PlacesOf_eq n h]
        simp only [Option.bind_some, placeAt_eq _ _ (show (plcs n).length ≤ 4000000 by omega), e2]
        rw [hL1']
        simp only [Option.bind_some, impl_wayTo_at1fn94_L1_k, impl_wayTo_at1fn94_L1_a, hall (plcs n).length (Nat.lt_succ_self _), hgx, hneg', decide_true, cond_true]
      · have hneg' : ¬ g (XN n st t (plcs n).length) x < 0 := hneg
        obtain ⟨l1, l2, l3⟩ := lgs_spec n st t x
        have T : Tight n st t (lgsN n st t x) x (DN n st t x) := tight_first hn hst hf.2.2 (by omega) l2 l3
        have hL2 := loop_go (body := impl_wayTo_at1fn94_L2 (x : Int) (allN n st t ((plcs n).length + 1)) (DN n st t x)) (lgsN n st t x) (fun i => (i : Int)) ((lgsN n st t x : Nat) : Int) (show lgsN n st t x < 1000000000000 by omega) (fun i hi => by
          have hws := w64_succ (show i ≤ 1048576 by omega)
          have hne : (g (XN n st t i) x != DN n st t x) = true := by have := l3 i hi; simpa using this
          show impl_wayTo_at1fn94_L2_b (x : Int) (allN n st t ((plcs n).length + 1)) (DN n st t x) (i : Int) = _
          unfold impl_wayTo_at1fn94_L2_b
          simp only [hall i (by omega), Option.bind_some, hgx, hne, cond_true, hws]) (by
          show impl_wayTo_at1fn94_L2_b (x : Int) (allN n st t ((plcs n).length + 1)) (DN n st t x) ((lgsN n st t x : Nat) : Int) = _
          unfold impl_wayTo_at1fn94_L2_b
          simp only [hall _ (show lgsN n st t x < (plcs n).length + 1 by omega), Option.bind_some, hgx, l2]
          simp)
        have hL2' : loopM (impl_wayTo_at1fn94_L2 (x : Int) (allN n st t ((plcs n).length + 1)) (g (XN n st t (plcs n).length) x)) big 0 = some (.inl ((lgsN n st t x : Nat) : Int)) := hL2
        have hL3 := impl_back h hn hFl hFc hst hf.2.2 e1 ((plcs n).length + 1) rfl (lgsN n st t x) x (DN n st t x) [] big hx T (by simp <;> omega) (by omega) (by unfold big; omega)
        rw [List.nil_append] at hL3
        have hL3' : loopM (impl_wayTo_at1fn94_L3 n (n, F.c, F.l, F.w) a (allN n st t ((plcs n).length + 1))) big (plcs n, (x : Int), g (XN n st t (plcs n).length) x, ((lgsN n st t x : Nat) : Int), ([] : List Trip)) = some (.inl (bckW n st t (lgsN n st t x) x (DN n st t x)).reverse) := hL3
        have hbl := bck_len hn hst hf.2.2 (lgsN n st t x) x (DN n st t x) T
        have hL4 := turn_loop (bckW n st t (lgsN n st t x) x (DN n st t x)).reverse (by rw [List.length_reverse, hbl]; omega) (bckW n st t (lgsN n st t x) x (DN n st t x)).reverse.length [] big (Nat.le_refl _) (by rw [List.length_reverse, hbl]; simp <;> omega) (by rw [List.length_reverse, hbl]; unfold big; omega)
        rw [List.take_length, List.reverse_reverse, List.nil_append] at hL4
        have hw : w64 (((bckW n st t (lgsN n st t x) x (DN n st t x)).reverse.length : Int) - 1) = ((bckW n st t (lgsN n st t x) x (DN n st t x)).reverse.length : Int) - 1 := by
          rw [List.length_reverse, hbl]; exact w64_id (by omega) (by omega)
        have hpb : ∀ p, (plcs n)[x]? = some p → p = b := fun p hp => by
          have := idx_get e2
          rw [hp] at this
          exact Option.some.inj this
        have hgo : ∀ t0, t0 ≤ v0N t → each (X := ByteArray × Int) (R := Bool) (fun _ t s => wayF n t s) 0 (bckW n st t (lgsN n st t x) x (DN n st t x)) (a, t0) = .inl (b, if lgsN n st t x = 0 then t0 else DN n st t x + n.Change) := fun t0 ht0 => by
          obtain ⟨p, hp, hwk⟩ := bck_walk hn hst hf.2.2 e1 ht0 _ _ _ hx T
          rw [hpb p hp] at hwk
          exact hwk
        obtain ⟨c1, _, _, c4, _⟩ := goes_chain _ _ _ _ (hgo (v0N t) (Int.le_refl _))
        refine .inr ⟨⟨hbk, hw1, hf, hb, by rw [hDe]; omega⟩, bckW n st t (lgsN n st t x) x (DN n st t x), wrap _ ?_, by rw [hbl]; omega, fun t0 ht0 => ⟨_, hgo t0 ht0⟩, c1, ?_⟩
        · unfold impl_wayTo_at1fn94
          rw [impl_PlacesOf_eq n h]
          simp only [Option.bind_some, placeAt_eq _ _ (show (plcs n).length ≤ 4000000 by omega), e2]
          rw [hL1']
          simp only [Option.bind_some, impl_wayTo_at1fn94_L1_k, impl_wayTo_at1fn94_L1_a, hall (plcs n).length (Nat.lt_succ_self _), hgx, hneg', decide_false, cond_false, hL2', impl_wayTo_at1fn94_L2_k, impl_wayTo_at1fn94_L2_a, hL3', impl_wayTo_at1fn94_L3_k, impl_wayTo_at1fn94_L3_a, hw, hL4, impl_wayTo_at1fn94_L4_k, impl_wayTo_at1fn94_L4_a]
        · rw [hDe]
          unfold endW
          cases hq : (bckW n st t (lgsN n st t x) x (DN n st t x)).getLast? with
          | none =>
            rw [List.getLast?_eq_none_iff] at hq
            rw [hq] at hbl
            have hz0 : lgsN n st t x = 0 := by simpa using hbl.symm
            rw [hz0] at T
            exact (tight_zero hn hst hf.2.2 T).2.symm
          | some q =>
            have h9 := c4 q hq
            have hpos : 0 < (bckW n st t (lgsN n st t x) x (DN n st t x)).length := by
              cases hbq : bckW n st t (lgsN n st t x) x (DN n st t x) with
              | nil => rw [hbq] at hq; cases hq
              | cons b r => simp
            rw [hbl] at hpos
            simp only at h9
            rw [if_neg (by omega)] at h9
            show enT n q = DN n st t x
            omega
  · refine .inl ⟨fun hh => hf hh.2.2.1, wrap _ ?_⟩
    unfold impl_wayTo_at1fn94
    rw [impl_PlacesOf_eq n h]
    simp only [Option.bind_some, placeAt_eq _ _ (show (plcs n).length ≤ 4000000 by omega)]
    have hbb : bestV n a t ((0 : Nat) : Int) = [] := by
      unfold bestV
      rw [if_neg (fun hh => hf ⟨hn, hh.1, hh.2.1⟩)]
    have hL : loopM (impl_wayTo_at1fn94_L1 n (n, F.c, F.l, F.w) a t (plcs n) (idxV (plcs n) b)) big (([] : List (List Int)), 0) = some (.inr ([], false)) := by
      have hbody : impl_wayTo_at1fn94_L1 n (n, F.c, F.l, F.w) a t (plcs n) (idxV (plcs n) b) (([] : List (List Int)), 0) = some (.ret ([], false)) := by
        show impl_wayTo_at1fn94_L1_b n (n, F.c, F.l, F.w) a t (plcs n) (idxV (plcs n) b) [] ((0 : Nat) : Int) = _
        unfold impl_wayTo_at1fn94_L1_b
        have h0 : decide (((0 : Nat) : Int) ≤ ((plcs n).length : Int)) = true := by simp
        simp only [h0, cond_true, arrivals_eq n h hn hFl hFc, hbb, Option.bind_some]
        rfl
      show loopM _ (999999999999 + 1) _ = _
      simp [loopM, hbody]
    rw [hL]
    rfl
/-- what the reference says of it -/
theorem findRoom_spec (n : Network) (h : NetS n) (hFl : F.l.length ≤ 1048576) (hFc : F.c.length ≤ 1048576) (a b : ByteArray) (t : Int) : ∃ r ok, spec_FindRoom n F.l F.c a b t F.w = some (r, ok) ∧ (ok = true ↔ Has n a b t) := by
  obtain ⟨r, ok, e, _, hok⟩ := findRoom_tot n h F.l hFl F.c hFc a b t F.w
  refine ⟨r, ok, e, ?_⟩
  rw [hok]
  obtain ⟨bf', e', hb1, hb2, hb3⟩ := bestFree_tot n h F.l hFl F.c hFc a t F.w (plcs n).length
  constructor
  · intro ⟨bf, e2, hne, hi, hg⟩
    rw [e'] at e2
    have := Option.some.inj e2
    subst this
    obtain ⟨q1, q2, q3, q4⟩ := hb2 hne
    have hf : Fine n a t := ⟨bok_net q1, q2, q3⟩
    have hs := best_spec n h q1 q4 hFl hFc a t (plcs n).length
    rw [e'] at hs
    have hs := Option.some.inj hs
    obtain ⟨st, e1, hst⟩ := idx_lt q2
    rw [best_at hf e1] at hs
    refine ⟨q1, q4, hf, hi, ?_⟩
    rw [e1, Int.toNat_natCast]
    show 0 ≤ g (XN n st t (plcs n).length) _
    rw [← hs]
    omega
  · intro ⟨q1, q4, hf, hi, hD⟩
    have hs := best_spec n h q1 q4 hFl hFc a t (plcs n).length
    obtain ⟨st, e1, hst⟩ := idx_lt hf.2.1
    rw [best_at hf e1] at hs
    rw [e1, Int.toNat_natCast] at hD
    refine ⟨_, hs, fun hh => ?_, hi, ?_⟩
    · have := XN_len hf.1 hst hf.2.2 (plcs n).length
      rw [hh] at this
      simp only [List.length_nil] at this
      omega
    · have hD : 0 ≤ g (XN n st t (plcs n).length) (idxV (plcs n) b).toNat := hD
      omega
end Fr
/-- the more is closed or heavy, the later -/
theorem fr_less {l : List Booking} {c c' : List Trip} {w w' : Int} (hc : ∀ q ∈ c, q ∈ c') (hw : w ≤ w') {n : Network} (hn : netB n = true) {st : Nat} (hst : st < (plcs n).length) {t : Int} (ht : ¬ t > 100000) (k v : Nat)
    (h : 0 ≤ g (@Fr.XN ⟨l, c', w'⟩ n st t k) v) : 0 ≤ g (@Fr.XN ⟨l, c, w⟩ n st t k) v ∧ g (@Fr.XN ⟨l, c, w⟩ n st t k) v ≤ g (@Fr.XN ⟨l, c', w'⟩ n st t k) v := by
  have h00 : 0 ≤ v0N t := by unfold v0N; split <;> omega
  refine @Fr.XN_ind ⟨l, c', w'⟩ n hn st hst t ht (fun k v u => 0 ≤ g (@Fr.XN ⟨l, c, w⟩ n st t k) v ∧ g (@Fr.XN ⟨l, c, w⟩ n st t k) v ≤ u) ?_ ?_ ?_ k v h
  · have := @Fr.XN_st ⟨l, c, w⟩ n hn st hst t ht 0
    rw [this]; omega
  · intro k v u ⟨h1, h2⟩
    have := @Fr.XN_more ⟨l, c, w⟩ n hn st hst t ht k 1 v h1
    omega
  · intro k i u e hi hu ⟨h1, h2⟩ he
    have hbg := @Fr.XN_big ⟨l, c, w⟩ n hn st hst t ht k (iA n i)
    obtain ⟨hub, d, hd, rfl⟩ := @Fr.arr_some ⟨l, c', w'⟩ n st i u e he
    have hm := List.mem_of_find?_eq_some hd
    have hp := (@Fr.nxtB_eq ⟨l, c', w'⟩ n i _ d).1 (List.find?_some hd)
    obtain ⟨p1, p2, p3, p4⟩ := hp
    have hrd : rdyN n st i (g (@Fr.XN ⟨l, c, w⟩ n st t k) (iA n i)) ≤ rdyN n st i u := by
      rw [rdy_eq hn h1 hbg, rdy_eq hn hu hub]; split <;> omega
    have hcan : @Fr.nxtB ⟨l, c, w⟩ n i (rdyN n st i (g (@Fr.XN ⟨l, c, w⟩ n st t k) (iA n i))) d = true := by
      refine (@Fr.nxtB_eq ⟨l, c, w⟩ n i _ d).2 ⟨p1, by omega, ?_, ?_⟩
      · show (c.any fun x => decide (x = ⟨(i : Int), (d : Int)⟩)) = false
        have p3 : (c'.any fun x => decide (x = ⟨(i : Int), (d : Int)⟩)) = false := p3
        rw [List.any_eq_false] at p3 ⊢
        exact fun q hq => p3 q (hc q hq)
      · show w ≤ _
        have p4 : w' ≤ w64 ((legA n i).Room - ldW l ⟨(i : Int), (d : Int)⟩) := p4
        show w ≤ w64 ((legA n i).Room - ldW l ⟨(i : Int), (d : Int)⟩)
        omega
    cases hf2 : (List.range 61).find? (@Fr.nxtB ⟨l, c, w⟩ n i (rdyN n st i (g (@Fr.XN ⟨l, c, w⟩ n st t k) (iA n i)))) with
    | none => exact absurd hcan (by simpa using List.find?_eq_none.1 hf2 d hm)
    | some d' =>
      have hdd : d' ≤ d := by
        obtain ⟨g1, g2, g3⟩ := List.find?_range_eq_some.1 hf2
        by_cases hh : d < d'
        · have := g3 d hh
          rw [hcan] at this; cases this
        · omega
      have harr : @Fr.arrN ⟨l, c, w⟩ n st i (g (@Fr.XN ⟨l, c, w⟩ n st t k) (iA n i)) = some (enT n ⟨(i : Int), (d' : Int)⟩) := by
        unfold Fr.arrN
        rw [if_pos hbg, hf2]
      have hcl := @Fr.XN_step ⟨l, c, w⟩ n hn st hst t ht k i _ hi h1 harr
      have := (enT_mono n (i : Int) hdd).1
      omega
end Go.Sx
