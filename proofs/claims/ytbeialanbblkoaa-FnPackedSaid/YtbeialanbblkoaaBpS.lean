/- Packing all: the library's stable sort orders as the reference inserts; both pack alike. -/
import Derived.Test.YtbeialanbblkoaaBpG
import Derived.Test.YtbeialanbblkoaaBpE
import Derived.Test.YtbeialanbblkoaaSxSg
namespace Go.Sx
open Go.Proofs
set_option linter.unusedVariables false

/-- the heavier first, then the lower number -/
def hvB (l : List Thing) (x y : Int) : Bool := decide (groV l y < groV l x ∨ (groV l x = groV l y ∧ x < y))
theorem hvB_swo (l : List Thing) : Swo (hvB l) := by
  refine ⟨fun a b h => ?_, fun a b c h1 h2 => ?_⟩
  · simp only [hvB, decide_eq_true_eq, decide_eq_false_iff_not] at *
    omega
  · simp only [hvB, decide_eq_true_eq, decide_eq_false_iff_not] at *
    omega
theorem hvB_anti {l : List Thing} {a b : Int} (h1 : hvB l a b = false) (h2 : hvB l b a = false) : a = b := by
  simp only [hvB, decide_eq_false_iff_not] at *
  omega
def cmpI (a b : Int) : Int := if a < b then -1 else if a > b then 1 else 0
theorem compareInts_eq (a b : Int) : impl_compareInts a b = some (cmpI a b) := by
  unfold impl_compareInts cmpI
  by_cases h1 : a < b
  · simp [h1]
  · by_cases h2 : a > b <;> simp [h1, h2]
def fst0 : List Int → Int
  | [] => 0
  | a :: l => if a ≠ 0 then a else fst0 l
theorem first_eq (l : List Int) (hl : l.length ≤ 1048576) : impl_first l = some (fst0 l) := by
  unfold impl_first
  have := loopM_each' (body := impl_first_L1 l) (X := Unit) l (fun _ i => i) (fun _ t _ => bif t != 0 then .inr t else .inl ()) (fun x => x) () (fun i hi y => by
    simp only [impl_first_L1, impl_first_L1_b, gi_nat hi, Option.bind_some, Int.ofNat_lt, hi, decide_true, cond_true, w64_succ (Nat.le_of_lt (Nat.lt_of_lt_of_le hi hl))]
    cases l[i] != 0 <;> simp [ctl]) (fun x => by simp [impl_first_L1, impl_first_L1_b]) hl
  have key : ∀ (l : List Int) (i : Nat), each (X := Unit) (R := Int) (fun _ t _ => bif t != 0 then .inr t else .inl ()) i l () = if fst0 l ≠ 0 then .inr (fst0 l) else .inl () := by
    intro l
    induction l with
    | nil => intro i; rfl
    | cons a l ih =>
      intro i
      rw [each, fst0]
      by_cases ha : a = 0
      · subst ha; simpa [bneI] using ih (i + 1)
      · simp [bneI, ha]
  rw [this, key]
  by_cases h0 : fst0 l = 0
  · simp [h0, fin, impl_first_L1_k, impl_first_L1_a]
  · simp [h0, fin, impl_first_L1_k]
theorem fst_neg (a b c d : Int) : fst0 [cmpI a b, cmpI c d] < 0 ↔ (a < b ∨ (b = a ∧ c < d)) := by
  unfold fst0 fst0 fst0 cmpI
  by_cases h1 : a < b
  · simp [h1]
  · by_cases h2 : a > b
    · simp [h1, h2]; omega
    · have h3 : b = a := by omega
      subst h3
      by_cases h4 : c < d
      · simp [h4]
      · by_cases h5 : c > d
        · simp [h4, h5]
        · simp [h4, h5]
abbrev lsP (l : List Thing) : Int → Int → List Int → Option Bool := fun i j r => impl_PackAll_c1 i j l r
theorem less_rds (l : List Thing) (hl : l.length ≤ 1048576) : Rds (lsP l) (hvB l) := fun row i j x y hi hj => by
  show impl_PackAll_c1 i j l row = _
  unfold impl_PackAll_c1
  rw [gi_app, gi_app, hi, hj]
  simp only [Option.bind_some, impl_GrossOf_eq l _ hl, compareInts_eq, first_eq _ (show [cmpI (groV l y) (groV l x), cmpI x y].length ≤ 1048576 by simp)]
  congr 1
  exact decide_eq_decide.2 (fst_neg _ _ _ _)
theorem sm_eq (l : List Thing) : ∀ (n : Nat) (a0 : List Int) (a1 a2 a3 : Int), sort_symMerge_func_at0ls30_n n (l, a0) a1 a2 a3 = so_symMerge_n (lsP l) n a0 a1 a2 a3
  | 0, _, _, _, _ => rfl
  | n + 1, a0, a1, a2, a3 => by
    have e : ∀ a b c d, sort_symMerge_func_at0ls30_n n (l, a) b c d = so_symMerge_n (lsP l) n a b c d := fun a b c d => sm_eq l n a b c d
    have e2 : so_symMerge_n (lsP l) n = fun a b c d => sort_symMerge_func_at0ls30_n n (l, a) b c d := by
      funext a b c d; exact (e a b c d).symm
    show sort_symMerge_func_at0ls30_F (sort_symMerge_func_at0ls30_n n) (l, a0) a1 a2 a3 = so_symMerge_F (lsP l) (so_symMerge_n (lsP l) n) a0 a1 a2 a3
    rw [e2]
    kernel_rfl
theorem sm_eq' (l : List Thing) (a : List Int) (b c d : Int) : sort_symMerge_func_at0ls30 (l, a) b c d = so_symMerge (lsP l) a b c d := sm_eq l big a b c d
theorem stable_eq (l : List Thing) (a : List Int) (n : Int) : sort_stable_func_at0ls30 (l, a) n = so_stable (lsP l) a n := by
  have e1 : ∀ a1 s9, sort_stable_func_at0ls30_L3 (l, a) a1 s9 = so_stable_L3 (lsP l) a1 s9 := fun a1 s9 => by
    funext s
    unfold sort_stable_func_at0ls30_L3 so_stable_L3 sort_stable_func_at0ls30_L3_b so_stable_L3_b
    simp only [sm_eq']
  have e2 : ∀ a1 s9, sort_stable_func_at0ls30_L3_k (l, a) a1 s9 = so_stable_L3_k (lsP l) a1 s9 := fun a1 s9 => by
    funext s
    cases s with
    | inl t => simp only [sort_stable_func_at0ls30_L3_k, so_stable_L3_k, sort_stable_func_at0ls30_L3_a, so_stable_L3_a, sm_eq']
    | inr y => rfl
  have e3 : ∀ a1, sort_stable_func_at0ls30_L2 (l, a) a1 = so_stable_L2 (lsP l) a1 := fun a1 => by
    funext s
    unfold sort_stable_func_at0ls30_L2 so_stable_L2 sort_stable_func_at0ls30_L2_b so_stable_L2_b
    rw [e1, e2]
  have e4 : ∀ a1, sort_stable_func_at0ls30_L1_k (l, a) a1 = so_stable_L1_k (lsP l) a1 := fun a1 => by
    funext s
    cases s with
    | inl t =>
      simp only [sort_stable_func_at0ls30_L1_k, so_stable_L1_k, sort_stable_func_at0ls30_L1_a, so_stable_L1_a, e3]
      kernel_rfl
    | inr y => rfl
  have e5 : ∀ a1, sort_stable_func_at0ls30_L1 (l, a) a1 = so_stable_L1 (lsP l) a1 := fun a1 => by kernel_rfl
  unfold sort_stable_func_at0ls30 so_stable
  rw [e4, e5]
theorem sort_eq (l : List Thing) (hl : l.length ≤ 1048576) (a : List Int) (ha : a.length ≤ LIM) : ∃ r, sort_SliceStable_at0sk_1lf30 (l, a) = some r ∧ r.Perm a ∧ Srt (hvB l) r := by
  unfold LIM at ha
  unfold sort_SliceStable_at0sk_1lf30
  by_cases h1 : a.length ≤ 1
  · rw [decide_eq_true h1, cond_true]
    refine ⟨a, rfl, List.Perm.refl _, ?_⟩
    match a, h1 with
    | [], _ => exact List.Pairwise.nil
    | [x], _ => simp [Srt]
  · rw [decide_eq_false h1, cond_false, decide_eq_true (show a.length < 4611686018427387904 by omega), cond_true, stable_eq]
    exact so_stable_spec (hvB_swo l) (less_rds l hl) a (by unfold LIM; omega)
theorem srt_uniq {l : List Thing} {S W : List Int} (hs : Srt (hvB l) S) (hw : Srt (hvB l) W) (hp : S.Perm W) : S = W :=
  List.Perm.eq_of_pairwise (le := fun a b => hvB l b a = false) (fun a b _ _ h1 h2 => hvB_anti h2 h1) hs hw hp

/-- the reference puts one number in its place -/
theorem heavy_one (l : List Thing) (hl : l.length ≤ 1048576) (ids H : List Int) (i : Nat) (hi : i < ids.length) (hH : H.length ≤ 1000000) (hii : ids.length ≤ 1000000) (hs : Srt (hvB l) H) :
    ∃ A B, H = A ++ B ∧ spec_l5Heavy_L1 l ids (H, (i : Int)) = some (.next (A ++ ids[i] :: B, ((i + 1 : Nat) : Int))) ∧ Srt (hvB l) (A ++ ids[i] :: B) := by
  obtain ⟨t, e, k, rfl, hk, h1, h2⟩ := loop_end (body := spec_l5Heavy_L2 l ids H (i : Int) (groV l ids[i])) (fun s => ∃ k : Nat, s = (k : Int) ∧ k ≤ H.length ∧ ∀ x ∈ H.take k, hvB l ids[i] x = false) (fun s => H.length - s.toNat)
    (fun t => ∃ k : Nat, t = (k : Int) ∧ k ≤ H.length ∧ (∀ x ∈ H.take k, hvB l ids[i] x = false) ∧ ∀ x, H[k]? = some x → hvB l ids[i] x = true) (fun s hs' => by
    obtain ⟨k, rfl, hk, h1⟩ := hs'
    by_cases hlt : k < H.length
    · have c : decide ((k : Int) < (H.length : Int)) = true := by simp; exact hlt
      have hbody : spec_l5Heavy_L2 l ids H (i : Int) (groV l ids[i]) (k : Int) = bif hvB l ids[i] H[k] then some (.brk (k : Int)) else some (.next ((k + 1 : Nat) : Int)) := by
        simp only [spec_l5Heavy_L2, spec_l5Heavy_L2_b, c, cond_true, gi_nat hlt, gi_nat hi, Option.bind_some, spec_GrossOf_eq l _ hl, w64_succ (i := k) (by omega)]
        by_cases q1 : groV l H[k] > groV l ids[i]
        · rw [show hvB l ids[i] H[k] = false by simp only [hvB, decide_eq_false_iff_not]; omega]
          simp [q1]
        · by_cases q2 : groV l H[k] = groV l ids[i]
          · by_cases q3 : H[k] ≤ ids[i]
            · rw [show hvB l ids[i] H[k] = false by simp only [hvB, decide_eq_false_iff_not]; omega]
              simp [q1, q2, q3]
            · rw [show hvB l ids[i] H[k] = true by simp only [hvB, decide_eq_true_eq]; omega]
              simp [q1, q2, q3]
          · rw [show hvB l ids[i] H[k] = true by simp only [hvB, decide_eq_true_eq]; omega]
            simp [q1, q2, beqI]
      cases hb : hvB l ids[i] H[k] with
      | false =>
        left
        refine ⟨((k + 1 : Nat) : Int), by rw [hbody, hb]; rfl, ⟨k + 1, rfl, hlt, fun x hx => ?_⟩, by omega⟩
        rw [List.take_succ_eq_append_getElem hlt] at hx
        rcases List.mem_append.1 hx with hx | hx
        · exact h1 x hx
        · simp at hx; subst hx; exact hb
      | true =>
        right
        refine ⟨(k : Int), by rw [hbody, hb]; rfl, k, rfl, hk, h1, fun x hx => ?_⟩
        rw [List.getElem?_eq_getElem hlt] at hx
        rw [← Option.some.inj hx]; exact hb
    · right
      have c : decide ((k : Int) < (H.length : Int)) = false := by simp; omega
      refine ⟨(k : Int), by simp only [spec_l5Heavy_L2, spec_l5Heavy_L2_b, c, cond_false], k, rfl, hk, h1, fun x hx => ?_⟩
      rw [List.getElem?_eq_none (by omega)] at hx; cases hx) big 0 ⟨0, rfl, Nat.zero_le _, by simp⟩ (lim_big (by unfold LIM; omega))
  refine ⟨H.take k, H.drop k, (List.take_append_drop k H).symm, ?_, ?_⟩
  · have c : decide ((i : Int) < (ids.length : Int)) = true := by simp; exact hi
    have s1 : slM H 0 (k : Int) = some (H.take k) := by unfold slM; rw [if_pos (by omega)]; simp
    have s2 : slM H (k : Int) (H.length : Int) = some (H.drop k) := by unfold slM; rw [if_pos (by omega)]; simp
    have hc : ∀ z : List Int, z.length ≤ 1000000 → spec_l1Ints z = some z := fun z hz => by
      unfold spec_l1Ints
      rw [ap_eq (by simp; omega) (by omega)]; rfl
    simp only [spec_l5Heavy_L1, spec_l5Heavy_L1_b, c, cond_true, gi_nat hi, Option.bind_some, spec_GrossOf_eq l _ hl]
    rw [e]
    simp only [Option.bind_some, spec_l5Heavy_L2_k, spec_l5Heavy_L2_a, s1, s2, gi_nat hi]
    rw [hc _ (by simp; omega)]
    simp only [Option.bind_some]
    rw [ap_eq (by simp; omega) (by omega)]
    simp only [Option.bind_some]
    rw [ap_eq (by simp; omega) (by omega)]
    simp only [Option.bind_some]
    rw [w64_succ (by omega)]
    simp
  · have hs' : Srt (hvB l) (H.take k ++ H.drop k) := by rw [List.take_append_drop]; exact hs
    refine Srt.put hs' h1 fun y hy => ?_
    obtain ⟨_, hd, _⟩ := List.pairwise_append.1 hs'
    cases hq : H.drop k with
    | nil => rw [hq] at hy; cases hy
    | cons x r =>
      have hx : H[k]? = some x := by
        have : (H.drop k)[0]? = some x := by rw [hq]; rfl
        rw [List.getElem?_drop] at this; simpa using this
      rw [hq] at hy hd
      have hxf := (hvB_swo l).asym _ _ (h2 x hx)
      cases hy with
      | head => exact hxf
      | tail _ hy => exact (hvB_swo l).trans _ x y hxf ((List.pairwise_cons.1 hd).1 y hy)
theorem heavy_eq (l : List Thing) (hl : l.length ≤ 1048576) (ids : List Int) (hi : ids.length ≤ 100000) : ∃ W, spec_l5Heavy l ids = some W ∧ W.Perm ids ∧ Srt (hvB l) W := by
  obtain ⟨t, e, h1, h2⟩ := loop_end (body := spec_l5Heavy_L1 l ids) (fun s => ∃ (k : Nat) (W : List Int), s = (W, (k : Int)) ∧ k ≤ ids.length ∧ W.Perm (ids.take k) ∧ Srt (hvB l) W) (fun s => ids.length - s.2.toNat)
    (fun t => t.Perm ids ∧ Srt (hvB l) t) (fun s hs' => by
    obtain ⟨k, W, rfl, hk, hp, hW⟩ := hs'
    have hpl := hp.length_eq
    rw [List.length_take] at hpl
    by_cases hlt : k < ids.length
    · left
      obtain ⟨A, B, hAB, hadd, hsrt⟩ := heavy_one l hl ids W k hlt (by omega) (by omega) hW
      refine ⟨(A ++ ids[k] :: B, ((k + 1 : Nat) : Int)), hadd, ⟨k + 1, _, rfl, hlt, ?_, hsrt⟩, by simp only; omega⟩
      rw [List.take_succ_eq_append_getElem hlt]
      refine List.perm_middle.trans ?_
      rw [← hAB]
      exact (List.Perm.cons _ hp).trans (List.perm_append_singleton _ _).symm
    · right
      have c : decide ((k : Int) < (ids.length : Int)) = false := by simp; omega
      rw [List.take_of_length_le (by omega)] at hp
      exact ⟨W, by simp only [spec_l5Heavy_L1, spec_l5Heavy_L1_b, c, cond_false], hp, hW⟩) big ([], 0) ⟨0, [], rfl, Nat.zero_le _, by simp, List.Pairwise.nil⟩ (by simp only; exact lim_big (by unfold LIM; omega))
  exact ⟨t, by unfold spec_l5Heavy; rw [e]; rfl, h1, h2⟩
/-- one number is put into the first box that takes it -/
def pk (l : List Thing) (id : Int) : List Int → List Thing × Bool
  | [] => (l, false)
  | b :: bs => if (putV l id b).2 = 0 then ((putV l id b).1, true) else pk l id bs
theorem pk_le (l : List Thing) (id : Int) : ∀ bs, (pk l id bs).1.length = l.length
  | [] => rfl
  | b :: bs => by
    unfold pk
    split
    · exact putV_le l id b
    · exact pk_le l id bs
theorem putV_same (l : List Thing) (id b : Int) (h : (putV l id b).2 ≠ 0) : (putV l id b).1 = l := by
  unfold putV at *
  repeat' split
  all_goals simp_all
theorem impl_pk (l : List Thing) (hl : l.length ≤ 1048576) (id : Int) (bs : List Int) (hb : bs.length ≤ 1000000) : loopM (impl_PackAll_L2 bs l id) big 0 = some (.inl (pk l id bs)) := by
  obtain ⟨t, e, rfl⟩ := loop_end (body := impl_PackAll_L2 bs l id) (fun s => ∃ k : Nat, s = (k : Int) ∧ k ≤ bs.length ∧ pk l id (bs.drop k) = pk l id bs) (fun s => bs.length - s.toNat) (fun t => t = pk l id bs) (fun s hs => by
    obtain ⟨k, rfl, hk, hp⟩ := hs
    by_cases hlt : k < bs.length
    · have c : decide ((k : Int) < (bs.length : Int)) = true := by simp; exact hlt
      rw [List.drop_eq_getElem_cons hlt, pk] at hp
      have hbody : impl_PackAll_L2 bs l id (k : Int) = bif (putV l id bs[k]).2 == 0 then some (.brk ((putV l id bs[k]).1, true)) else some (.next ((k + 1 : Nat) : Int)) := by
        simp only [impl_PackAll_L2, impl_PackAll_L2_b, c, cond_true, gi_nat hlt, Option.bind_some, impl_PutInto_eq l _ _ hl, w64_succ (i := k) (by omega)]
      by_cases hz : (putV l id bs[k]).2 = 0
      · right
        rw [if_pos hz] at hp
        exact ⟨_, by rw [hbody, hz]; rfl, hp⟩
      · left
        rw [if_neg hz] at hp
        exact ⟨_, by rw [hbody, beqI, decide_eq_false hz]; rfl, ⟨k + 1, rfl, hlt, hp⟩, by omega⟩
    · right
      have c : decide ((k : Int) < (bs.length : Int)) = false := by simp; omega
      rw [List.drop_eq_nil_of_le (by omega)] at hp
      exact ⟨(l, false), by simp only [impl_PackAll_L2, impl_PackAll_L2_b, c, cond_false], hp⟩) big 0 ⟨0, rfl, Nat.zero_le _, rfl⟩ (lim_big (by unfold LIM; omega))
  exact e
theorem spec_pk (l : List Thing) (hl : l.length ≤ 1048576) (H : List Int) (i : Nat) (hi : i < H.length) (bs : List Int) (hb : bs.length ≤ 1000000) : loopM (spec_PackAll_L2 bs H (i : Int)) big (l, false, 0) = some (.inl (pk l H[i] bs)) := by
  obtain ⟨t, e, rfl⟩ := loop_end (body := spec_PackAll_L2 bs H (i : Int)) (fun s => ∃ k : Nat, s.2.2 = (k : Int) ∧ k ≤ bs.length ∧ ((s.1 = l ∧ s.2.1 = false ∧ pk l H[i] (bs.drop k) = pk l H[i] bs) ∨ (s.2.1 = true ∧ pk l H[i] bs = (s.1, true)))) (fun s => bs.length - s.2.2.toNat) (fun t => t = pk l H[i] bs) (fun s hs => by
    obtain ⟨a, dn, k'⟩ := s
    obtain ⟨k, hkk, hk, hp⟩ := hs
    simp only at hkk hp
    subst hkk
    by_cases hlt : k < bs.length
    · have c : decide ((k : Int) < (bs.length : Int)) = true := by simp; exact hlt
      rcases hp with ⟨rfl, rfl, hp⟩ | ⟨rfl, hp⟩
      · left
        rw [List.drop_eq_getElem_cons hlt, pk] at hp
        have hbody : spec_PackAll_L2 bs H (i : Int) (a, false, (k : Int)) = some (.next ((putV a H[i] bs[k]).1, (putV a H[i] bs[k]).2 == 0, ((k + 1 : Nat) : Int))) := by
          simp only [spec_PackAll_L2, spec_PackAll_L2_b, c, cond_true, Bool.not_false, gi_nat hlt, gi_nat hi, Option.bind_some, spec_PutInto_eq a _ _ hl, w64_succ (i := k) (by omega)]
        refine ⟨_, hbody, ⟨k + 1, rfl, hlt, ?_⟩, by simp only; omega⟩
        by_cases hz : (putV a H[i] bs[k]).2 = 0
        · right
          rw [if_pos hz] at hp
          exact ⟨by simp [hz], hp.symm⟩
        · left
          rw [if_neg hz] at hp
          exact ⟨putV_same a _ _ hz, by simp [hz], hp⟩
      · right
        exact ⟨(a, true), by simp only [spec_PackAll_L2, spec_PackAll_L2_b, c, cond_true, Bool.not_true, cond_false], hp.symm⟩
    · right
      have c : decide ((k : Int) < (bs.length : Int)) = false := by simp; omega
      refine ⟨(a, dn), by simp only [spec_PackAll_L2, spec_PackAll_L2_b, c, cond_false], ?_⟩
      rcases hp with ⟨rfl, rfl, hp⟩ | ⟨rfl, hp⟩
      · rw [List.drop_eq_nil_of_le (by omega)] at hp; exact hp
      · exact hp.symm) big (l, false, 0) ⟨0, rfl, Nat.zero_le _, .inl ⟨rfl, rfl, rfl⟩⟩ (by simp only; exact lim_big (by unfold LIM; omega))
  exact e
/-- what is packed, and what is left, after so many numbers -/
def pkS (bs : List Int) (s : List Thing × List Int) (id : Int) : List Thing × List Int := ((pk s.1 id bs).1, bif (pk s.1 id bs).2 then s.2 else s.2 ++ [id])
def pkA (bs : List Int) (l : List Thing) (H : List Int) : List Thing × List Int := H.foldl (pkS bs) (l, [])
theorem pkA_le (bs : List Int) (l : List Thing) : ∀ (H : List Int), (pkA bs l H).1.length = l.length ∧ (pkA bs l H).2.length ≤ H.length := by
  intro H
  have key : ∀ (H : List Int) (s : List Thing × List Int), (H.foldl (pkS bs) s).1.length = s.1.length ∧ (H.foldl (pkS bs) s).2.length ≤ s.2.length + H.length := by
    intro H
    induction H with
    | nil => intro s; simp
    | cons a H ih =>
      intro s
      obtain ⟨h1, h2⟩ := ih (pkS bs s a)
      refine ⟨h1.trans (pk_le _ _ _), ?_⟩
      simp only [List.foldl_cons, List.length_cons]
      have : (pkS bs s a).2.length ≤ s.2.length + 1 := by unfold pkS; simp only; cases (pk s.1 a bs).2 <;> simp
      omega
  have := key H (l, [])
  unfold pkA
  simpa using this
theorem pkA_succ (bs : List Int) (l : List Thing) (H : List Int) (i : Nat) (hi : i < H.length) : pkA bs l (H.take (i + 1)) = pkS bs (pkA bs l (H.take i)) H[i] := by
  unfold pkA
  rw [List.take_succ_eq_append_getElem hi, List.foldl_append]; rfl
theorem pack_loop {body : List Thing × List Int × Int → Option (Ctl (List Thing × List Int × Int) (List Thing × List Int) (List Thing × List Int))} (bs : List Int) (l : List Thing) (hl : l.length ≤ 1048576) (H : List Int) (hH : H.length ≤ 100000)
    (hb : ∀ (i : Nat) (a : List Thing) (left : List Int) (hi : i < H.length), a.length ≤ 1048576 → left.length ≤ 100000 → body (a, left, (i : Int)) = some (.next ((pkS bs (a, left) H[i]).1, (pkS bs (a, left) H[i]).2, ((i + 1 : Nat) : Int))))
    (he : ∀ (a : List Thing) (left : List Int), body (a, left, (H.length : Int)) = some (.brk (a, left))) : loopM body big (l, [], 0) = some (.inl (pkA bs l H)) := by
  have := loop_val (body := body) H.length (fun i => ((pkA bs l (H.take i)).1, (pkA bs l (H.take i)).2, (i : Int))) (pkA bs l H) (by omega) (fun i hi => by
    have h1 := pkA_le bs l (H.take i)
    rw [List.length_take] at h1
    rw [hb i _ _ hi (by omega) (by omega), pkA_succ bs l H i hi]) (by rw [he, List.take_length])
  exact this
theorem impl_pack (bs : List Int) (hbs : bs.length ≤ 1000000) (l : List Thing) (hl : l.length ≤ 1048576) (H : List Int) (hH : H.length ≤ 100000) : loopM (impl_PackAll_L1 bs H) big (l, [], 0) = some (.inl (pkA bs l H)) :=
  pack_loop bs l hl H hH (fun i a left hi ha hle => by
    have c : decide ((i : Int) < (H.length : Int)) = true := by simp; exact hi
    simp only [impl_PackAll_L1, impl_PackAll_L1_b, c, cond_true, gi_nat hi, Option.bind_some]
    rw [impl_pk a ha _ bs hbs]
    simp only [Option.bind_some, impl_PackAll_L2_k, impl_PackAll_L2_a, pkS]
    cases (pk a H[i] bs).2 with
    | true => simp only [Bool.not_true, cond_false, cond_true]; rw [w64_succ (by omega)]
    | false =>
      simp only [Bool.not_false, cond_true, cond_false]
      rw [ap_eq (by simp; omega) (by omega)]
      simp only [Option.bind_some]
      rw [w64_succ (by omega)]) (fun a left => by
    have c : decide ((H.length : Int) < (H.length : Int)) = false := by simp
    simp only [impl_PackAll_L1, impl_PackAll_L1_b, c, cond_false])
theorem spec_pack (bs : List Int) (hbs : bs.length ≤ 1000000) (l : List Thing) (hl : l.length ≤ 1048576) (H : List Int) (hH : H.length ≤ 100000) : loopM (spec_PackAll_L1 bs H) big (l, [], 0) = some (.inl (pkA bs l H)) :=
  pack_loop bs l hl H hH (fun i a left hi ha hle => by
    have c : decide ((i : Int) < (H.length : Int)) = true := by simp; exact hi
    simp only [spec_PackAll_L1, spec_PackAll_L1_b, c, cond_true]
    rw [spec_pk a ha H i hi bs hbs]
    simp only [Option.bind_some, spec_PackAll_L2_k, spec_PackAll_L2_a, pkS]
    cases (pk a H[i] bs).2 with
    | true => simp only [Bool.not_true, cond_false, cond_true]; rw [w64_succ (by omega)]
    | false =>
      simp only [Bool.not_false, cond_true, cond_false, gi_nat hi, Option.bind_some]
      rw [ap_eq (by simp; omega) (by omega)]
      simp only [Option.bind_some]
      rw [w64_succ (by omega)]) (fun a left => by
    have c : decide ((H.length : Int) < (H.length : Int)) = false := by simp
    simp only [spec_PackAll_L1, spec_PackAll_L1_b, c, cond_false])
/-- both pack alike -/
theorem PackAll_eq (l : List Thing) (hl : l.length ≤ 1048576) (ids bs : List Int) (hi : ids.length ≤ 1048576) (hb : bs.length ≤ 1048576) :
    ∃ v : List Thing × List Int, spec_PackAll l ids bs = some v ∧ impl_PackAll l ids bs = some v ∧ v.1.length = l.length ∧ v.2.length ≤ 1048576 ∧
      (areB l = false → v = (l, [])) ∧ (areB l = true → ids.length ≤ 40 → bs.length ≤ 40 → ∃ H : List Int, H.Perm ids ∧ Srt (hvB l) H ∧ v = pkA bs l H) := by
  unfold spec_PackAll impl_PackAll
  rw [l5Copy_eq l hl, copyThings_eq l hl, spec_AreThings_eq l hl, impl_AreThings_eq l hl]
  simp only [Option.bind_some]
  cases ha : areB l with
  | false => exact ⟨(l, []), rfl, rfl, rfl, by simp, fun _ => rfl, fun e => by cases e⟩
  | true =>
    simp only [Bool.not_true, cond_false]
    by_cases h1 : ids.length ≤ 40
    · have c1 : decide ((ids.length : Int) > 40) = false := by simp; omega
      rw [c1]
      simp only [cond_false]
      by_cases h2 : bs.length ≤ 40
      · have c2 : decide ((bs.length : Int) > 40) = false := by simp; omega
        rw [c2]
        simp only [cond_false]
        obtain ⟨W, w1, w2, w3⟩ := heavy_eq l hl ids (by omega)
        obtain ⟨S, s1, s2, s3⟩ := sort_eq l hl ids (by unfold LIM; omega)
        have := srt_uniq s3 w3 (s2.trans w2.symm)
        subst this
        have hSl := s2.length_eq
        rw [ap_eq (by simp; omega) (by omega)]
        simp only [Option.bind_some, List.nil_append, w1, s1]
        rw [spec_pack bs (by omega) l hl S (by omega), impl_pack bs (by omega) l hl S (by omega)]
        have hle := pkA_le bs l S
        exact ⟨pkA bs l S, rfl, rfl, hle.1, by omega, (fun e => by cases e), fun _ _ _ => ⟨S, s2, s3, rfl⟩⟩
      · have c2 : decide ((bs.length : Int) > 40) = true := by simp; omega
        rw [c2]
        exact ⟨(l, []), rfl, rfl, rfl, by simp, (fun e => by cases e), fun _ _ e => absurd e h2⟩
    · have c1 : decide ((ids.length : Int) > 40) = true := by simp; omega
      rw [c1]
      exact ⟨(l, []), rfl, rfl, rfl, by simp, (fun e => by cases e), fun _ e => absurd e h1⟩
end Go.Sx
