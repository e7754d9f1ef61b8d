/- Booking a way: the library's stable sort puts the new bookings where the reference inserts them. -/
import Derived.Test.YtpgpgangmkjhlaaGsV
import Derived.Test.YtpgpgangmkjhlaaSxSg
namespace Go.Sx
open Go.Proofs
set_option linter.unusedVariables false

theorem befB_iff (a b : Booking) : befB a b = true ↔ (a.Trip.Day < b.Trip.Day ∨ (a.Trip.Day = b.Trip.Day ∧ (a.Trip.Leg < b.Trip.Leg ∨ (a.Trip.Leg = b.Trip.Leg ∧ a.Thing < b.Thing)))) := by
  unfold befB
  by_cases h1 : a.Trip.Day = b.Trip.Day
  · by_cases h2 : a.Trip.Leg = b.Trip.Leg
    · simp [h1, h2]
    · simp [h1, h2]
  · simp [h1]
theorem befB_iff' (a b : Booking) : befB a b = false ↔ ¬ (a.Trip.Day < b.Trip.Day ∨ (a.Trip.Day = b.Trip.Day ∧ (a.Trip.Leg < b.Trip.Leg ∨ (a.Trip.Leg = b.Trip.Leg ∧ a.Thing < b.Thing)))) := by
  rw [← befB_iff]; simp
theorem befB_swo : Swo befB := by
  refine ⟨fun a b h => ?_, fun a b c h1 h2 => ?_⟩
  · rw [befB_iff] at h
    rw [befB_iff']
    omega
  · rw [befB_iff'] at *
    omega
theorem befB_trans {a b c : Booking} (h1 : befB a b = true) (h2 : befB b c = true) : befB a c = true := by
  cases h : befB a c with
  | true => rfl
  | false =>
    have := befB_swo.trans c a b h (befB_swo.asym a b h1)
    rw [this] at h2; cases h2
theorem less_rds : Rds impl_BookWay_c1 befB := fun row i j x y hi hj => by
  unfold impl_BookWay_c1
  rw [gi_app, gi_app, hi, hj]
  simp only [Option.bind_some, compareBookings_eq]
  congr 1
  have := cmpB_neg x y
  cases hb : befB x y with
  | true => rw [hb] at this; simp [this]
  | false => rw [hb] at this; simp at this; simp; omega
theorem sm_eq : ∀ (n : Nat) (a0 : List Booking) (a1 a2 a3 : Int), sort_symMerge_func_at0ls41_n n a0 a1 a2 a3 = so_symMerge_n impl_BookWay_c1 n a0 a1 a2 a3
  | 0, _, _, _, _ => rfl
  | n + 1, a0, a1, a2, a3 => by
    have e : sort_symMerge_func_at0ls41_n n = so_symMerge_n impl_BookWay_c1 n := by
      funext a b c d; exact sm_eq n a b c d
    show sort_symMerge_func_at0ls41_F (sort_symMerge_func_at0ls41_n n) a0 a1 a2 a3 = so_symMerge_F impl_BookWay_c1 (so_symMerge_n impl_BookWay_c1 n) a0 a1 a2 a3
    rw [e]
    kernel_rfl
theorem sm_eq' : sort_symMerge_func_at0ls41 = so_symMerge impl_BookWay_c1 := by
  funext a b c d; exact sm_eq big a b c d
theorem stable_eq (a : List Booking) (n : Int) : sort_stable_func_at0ls41 a n = so_stable impl_BookWay_c1 a n := by
  have e1 : ∀ a1 s9, sort_stable_func_at0ls41_L3 a1 s9 = so_stable_L3 impl_BookWay_c1 a1 s9 := fun a1 s9 => by
    funext s
    unfold sort_stable_func_at0ls41_L3 so_stable_L3 sort_stable_func_at0ls41_L3_b so_stable_L3_b
    rw [sm_eq']
  have e2 : ∀ a1 s9, sort_stable_func_at0ls41_L3_k a1 s9 = so_stable_L3_k impl_BookWay_c1 a1 s9 := fun a1 s9 => by
    funext s
    cases s with
    | inl t => simp only [sort_stable_func_at0ls41_L3_k, so_stable_L3_k, sort_stable_func_at0ls41_L3_a, so_stable_L3_a, sm_eq']
    | inr y => rfl
  have e3 : ∀ a1, sort_stable_func_at0ls41_L2 a1 = so_stable_L2 impl_BookWay_c1 a1 := fun a1 => by
    funext s
    unfold sort_stable_func_at0ls41_L2 so_stable_L2 sort_stable_func_at0ls41_L2_b so_stable_L2_b
    rw [e1, e2]
  have e4 : ∀ a1, sort_stable_func_at0ls41_L1_k a1 = so_stable_L1_k impl_BookWay_c1 a1 := fun a1 => by
    funext s
    cases s with
    | inl t =>
      simp only [sort_stable_func_at0ls41_L1_k, so_stable_L1_k, sort_stable_func_at0ls41_L1_a, so_stable_L1_a, e3]
      kernel_rfl
    | inr y => rfl
  have e5 : ∀ a1, sort_stable_func_at0ls41_L1 a1 = so_stable_L1 impl_BookWay_c1 a1 := fun a1 => by kernel_rfl
  unfold sort_stable_func_at0ls41 so_stable
  rw [e4, e5]
theorem sort_eq (a : List Booking) (hl : a.length ≤ LIM) : ∃ r, sort_SliceStable_at0sk_1lf41 a = some r ∧ r.Perm a ∧ Srt befB r := by
  unfold LIM at hl
  unfold sort_SliceStable_at0sk_1lf41
  by_cases h1 : a.length ≤ 1
  · rw [decide_eq_true h1, cond_true]
    refine ⟨a, rfl, List.Perm.refl _, ?_⟩
    match a, h1 with
    | [], _ => exact List.Pairwise.nil
    | [x], _ => simp [Srt]
  · rw [decide_eq_false h1, cond_false, decide_eq_true (show a.length < 4611686018427387904 by omega), cond_true, stable_eq]
    exact so_stable_spec befB_swo less_rds a (by unfold LIM; omega)

/-- neighbours rise: all rise -/
theorem strict_of {l : List Booking} (h : ∀ i x y, l[i]? = some x → l[i + 1]? = some y → befB x y = true) : l.Pairwise (fun a b => befB a b = true) := by
  induction l with
  | nil => exact List.Pairwise.nil
  | cons a l ih =>
    have ih' := ih fun i x y hx hy => h (i + 1) x y (by simpa using hx) (by simpa using hy)
    refine List.pairwise_cons.2 ⟨fun b hb => ?_, ih'⟩
    cases l with
    | nil => cases hb
    | cons c l =>
      have hac := h 0 a c rfl rfl
      cases hb with
      | head => exact hac
      | tail _ hb => exact befB_trans hac ((List.pairwise_cons.1 ih').1 b hb)
theorem bok_strict {n : Network} {l : List Booking} (h : bokB n l = true) : l.Pairwise (fun a b => befB a b = true) := by
  unfold bokB at h
  simp only [Bool.and_eq_true] at h
  refine strict_of fun i x y hx hy => ?_
  obtain ⟨h1, e1⟩ := List.getElem?_eq_some_iff.1 hy
  have := allI_iff.1 h.1.2 (i + 1) h1
  simp only [basB, Bool.and_eq_true, Bool.or_eq_true, decide_eq_true_eq] at this
  have h2 := this.2.resolve_left (by omega)
  rw [show 0 + (i + 1) - 1 = i by omega, hx, e1] at h2
  simpa using h2
theorem strict_srt {l : List Booking} (h : l.Pairwise (fun a b => befB a b = true)) : Srt befB l := h.imp fun hab => befB_swo.asym _ _ hab
theorem strict_uniq {S W : List Booking} (hs : S.Pairwise (fun a b => befB a b = true)) (hw : Srt befB W) (hp : S.Perm W) : S = W := by
  refine List.Perm.eq_of_pairwise (le := fun a b => befB b a = false) (fun a b ha hb h1 h2 => ?_) (strict_srt hs) hw hp
  have hb' : b ∈ S := hp.mem_iff.2 hb
  obtain ⟨i, hi, rfl⟩ := List.mem_iff_getElem.1 ha
  obtain ⟨j, hj, rfl⟩ := List.mem_iff_getElem.1 hb'
  rcases Nat.lt_trichotomy i j with h | h | h
  · have := List.pairwise_iff_getElem.1 hs i j hi hj h
    rw [h2] at this; cases this
  · subst h; rfl
  · have := List.pairwise_iff_getElem.1 hs j i hj hi h
    rw [h1] at this; cases this

theorem l6Add_eq (l : List Booking) (b : Booking) (hl : l.length ≤ 1048576) (hs : Srt befB l) : ∃ A B, l = A ++ B ∧ spec_l6Add l b = some (A ++ b :: B) ∧ Srt befB (A ++ b :: B) := by
  obtain ⟨t, e, k, rfl, hk, h1, h2⟩ := loop_end (body := spec_l6Add_L1 l b) (fun s => ∃ k : Nat, s = (k : Int) ∧ k ≤ l.length ∧ ∀ x ∈ l.take k, befB x b = true) (fun s => l.length - s.toNat)
    (fun t => ∃ k : Nat, t = (k : Int) ∧ k ≤ l.length ∧ (∀ x ∈ l.take k, befB x b = true) ∧ ∀ x, l[k]? = some x → befB x b = false) (fun s hs' => by
    obtain ⟨k, rfl, hk, h1⟩ := hs'
    by_cases hlt : k < l.length
    · have c : decide ((k : Int) < (l.length : Int)) = true := by simp; exact hlt
      cases hb : befB l[k] b with
      | true =>
        left
        refine ⟨((k + 1 : Nat) : Int), ?_, ⟨k + 1, rfl, hlt, fun x hx => ?_⟩, by omega⟩
        · simp only [spec_l6Add_L1, spec_l6Add_L1_b, c, cond_true, gi_nat hlt, Option.bind_some, before_eq, hb]
          rw [w64_succ (by omega)]
        · rw [List.take_succ_eq_append_getElem hlt] at hx
          rcases List.mem_append.1 hx with hx | hx
          · exact h1 x hx
          · simp at hx; subst hx; exact hb
      | false =>
        right
        refine ⟨(k : Int), ?_, k, rfl, hk, h1, fun x hx => ?_⟩
        · simp only [spec_l6Add_L1, spec_l6Add_L1_b, c, cond_true, gi_nat hlt, Option.bind_some, before_eq, hb, cond_false]
        · rw [List.getElem?_eq_getElem hlt] at hx
          rw [← Option.some.inj hx]; exact hb
    · right
      have c : decide ((k : Int) < (l.length : Int)) = false := by simp; omega
      refine ⟨(k : Int), by simp only [spec_l6Add_L1, spec_l6Add_L1_b, c, cond_false], k, rfl, hk, h1, fun x hx => ?_⟩
      rw [List.getElem?_eq_none (by omega)] at hx; cases hx) big 0 ⟨0, rfl, Nat.zero_le _, by simp⟩ (lim_big (by unfold LIM; omega))
  refine ⟨l.take k, l.drop k, (List.take_append_drop k l).symm, ?_, ?_⟩
  · unfold spec_l6Add
    rw [e]
    have s1 : slM l 0 (k : Int) = some (l.take k) := by unfold slM; rw [if_pos (by omega)]; simp
    have s2 : slM l (k : Int) (l.length : Int) = some (l.drop k) := by unfold slM; rw [if_pos (by omega)]; simp
    simp only [Option.bind_some, spec_l6Add_L1_k, spec_l6Add_L1_a, s1, s2, spec_l6Copy]
    rw [ap_eq (by simp; omega) (by omega)]
    simp only [Option.bind_some, List.nil_append]
    rw [ap_eq (by simp; omega) (by omega)]
    simp only [Option.bind_some]
    rw [ap_eq (by simp; omega) (by omega)]
    simp
  · have hs' : Srt befB (l.take k ++ l.drop k) := by rw [List.take_append_drop]; exact hs
    refine Srt.put hs' (fun y hy => befB_swo.asym _ _ (h1 y hy)) fun y hy => ?_
    obtain ⟨_, hd, _⟩ := List.pairwise_append.1 hs'
    cases hq : l.drop k with
    | nil => rw [hq] at hy; cases hy
    | cons x r =>
      have hx : l[k]? = some x := by
        have : (l.drop k)[0]? = some x := by rw [hq]; rfl
        rw [List.getElem?_drop] at this; simpa using this
      rw [hq] at hy hd
      cases hy with
      | head => exact h2 _ hx
      | tail _ hy => exact befB_swo.trans b x y (h2 x hx) ((List.pairwise_cons.1 hd).1 y hy)
/-- the bookings of a way -/
def bksOf (th w : Int) (way : List Trip) : List Booking := way.map fun t => ⟨th, t, w⟩
theorem spec_adds (th w : Int) (way : List Trip) (l : List Booking) (hl : l.length + way.length ≤ 1048576) (hs : Srt befB l) :
    ∃ W, loopM (spec_BookWay_L1 th w way) big (l, 0) = some (.inl W) ∧ W.Perm (l ++ bksOf th w way) ∧ Srt befB W := by
  obtain ⟨t, e, h1, h2⟩ := loop_end (body := spec_BookWay_L1 th w way) (fun s => ∃ (k : Nat) (W : List Booking), s = (W, (k : Int)) ∧ k ≤ way.length ∧ W.Perm (l ++ bksOf th w (way.take k)) ∧ Srt befB W) (fun s => way.length - s.2.toNat)
    (fun t => t.Perm (l ++ bksOf th w way) ∧ Srt befB t) (fun s hs' => by
    obtain ⟨k, W, rfl, hk, hp, hW⟩ := hs'
    have hpl := hp.length_eq
    simp only [List.length_append, bksOf, List.length_map, List.length_take] at hpl
    by_cases hlt : k < way.length
    · left
      have c : decide ((k : Int) < (way.length : Int)) = true := by simp; exact hlt
      obtain ⟨A, B, hAB, hadd, hsrt⟩ := l6Add_eq W ⟨th, way[k], w⟩ (by omega) hW
      refine ⟨(A ++ ⟨th, way[k], w⟩ :: B, ((k + 1 : Nat) : Int)), ?_, ⟨k + 1, _, rfl, hlt, ?_, hsrt⟩, by simp only; omega⟩
      · simp only [spec_BookWay_L1, spec_BookWay_L1_b, c, cond_true, gi_nat hlt, Option.bind_some, hadd]
        rw [w64_succ (by omega)]
      · rw [List.take_succ_eq_append_getElem hlt]
        refine List.perm_middle.trans ?_
        rw [← hAB]
        refine (List.Perm.cons _ hp).trans ?_
        simp only [bksOf, List.map_append, List.map_cons, List.map_nil]
        rw [← List.append_assoc]
        exact (List.perm_append_singleton _ _).symm
    · right
      have c : decide ((k : Int) < (way.length : Int)) = false := by simp; omega
      have hkl : k = way.length := by omega
      subst hkl
      rw [List.take_length] at hp
      exact ⟨W, by simp only [spec_BookWay_L1, spec_BookWay_L1_b, c, cond_false], hp, hW⟩) big (l, 0) ⟨0, l, rfl, Nat.zero_le _, by simp [bksOf], hs⟩ (by simp only; exact lim_big (by unfold LIM; omega))
  exact ⟨t, e, h1, h2⟩
theorem impl_adds (th w : Int) (way : List Trip) (l : List Booking) (hl : l.length + way.length ≤ 1048576) : loopM (impl_BookWay_L1 th w way) big (l, 0) = some (.inl (l ++ bksOf th w way)) := by
  have := loop_val (body := impl_BookWay_L1 th w way) way.length (fun k => (l ++ bksOf th w (way.take k), (k : Int))) (l ++ bksOf th w way) (by omega) (fun k hk => by
    have c : decide ((k : Int) < (way.length : Int)) = true := by simp; exact hk
    simp only [impl_BookWay_L1, impl_BookWay_L1_b, c, cond_true, gi_nat hk, Option.bind_some]
    rw [ap_eq (by simp [bksOf]; omega) (by omega)]
    simp only [Option.bind_some]
    rw [w64_succ (by omega), List.take_succ_eq_append_getElem hk]
    simp only [bksOf, List.map_append, List.map_cons, List.map_nil, List.append_assoc]) (by
    have c : decide ((way.length : Int) < (way.length : Int)) = false := by simp
    simp only [impl_BookWay_L1, impl_BookWay_L1_b, c, cond_false, List.take_length])
  simpa [bksOf] using this
theorem bok_len {n : Network} {l : List Booking} (h : bokB n l = true) : l.length ≤ 120 := by
  unfold bokB at h
  simp only [Bool.and_eq_true, decide_eq_true_eq] at h
  exact h.1.1.2
/-- both book the same -/
theorem BookWay_eq (n : Network) (h : NetS n) (l : List Booking) (hl : l.length ≤ 1048576) (th w : Int) (way : List Trip) :
    ∃ v : List Booking × Bool, spec_BookWay n l th w way = some v ∧ impl_BookWay n l th w way = some v ∧ v.1.length ≤ 1048576 ∧ (v.2 = false → v.1 = l) ∧
      (v.2 = true → bokB n l = true ∧ bokB n v.1 = true ∧ v.1.Perm (l ++ bksOf th w way) ∧ way.length ≤ 20) := by
  have cp1 : spec_l6Copy l = some l := by unfold spec_l6Copy; rw [ap_eq (by simp; omega) (by omega)]; rfl
  have cp2 : impl_copyBookings l = some l := by unfold impl_copyBookings; rw [ap_eq (by simp; omega) (by omega)]; rfl
  unfold spec_BookWay impl_BookWay
  rw [cp1, cp2, spec_AreBookings_eq n h l hl, impl_AreBookings_eq n h l hl]
  simp only [Option.bind_some]
  cases hb : bokB n l with
  | false => exact ⟨(l, false), rfl, rfl, hl, fun _ => rfl, fun e => by cases e⟩
  | true =>
    simp only [Bool.not_true, cond_false]
    by_cases hw : way.length ≤ 20
    · have c : decide ((way.length : Int) > 20) = false := by simp; omega
      rw [c, cond_false, cond_false]
      have hll := bok_len hb
      obtain ⟨W, w1, w2, w3⟩ := spec_adds th w way l (by omega) (strict_srt (bok_strict hb))
      have wl := w2.length_eq
      simp only [List.length_append, bksOf, List.length_map] at wl
      rw [w1, impl_adds th w way l (by omega)]
      obtain ⟨S, s1, s2, s3⟩ := sort_eq (l ++ bksOf th w way) (by unfold LIM; simp only [List.length_append, bksOf, List.length_map]; omega)
      have sl := s2.length_eq
      simp only [List.length_append, bksOf, List.length_map] at sl
      simp only [Option.bind_some, spec_BookWay_L1_k, spec_BookWay_L1_a, impl_BookWay_L1_k, impl_BookWay_L1_a, s1, spec_AreBookings_eq n h W (by omega), impl_AreBookings_eq n h S (by omega), cp1, cp2]
      have hSW : bokB n S = true ∨ bokB n W = true → S = W := fun hc => by
        rcases hc with hc | hc
        · exact strict_uniq (bok_strict hc) w3 (s2.trans w2.symm)
        · exact (strict_uniq (bok_strict hc) s3 (w2.trans s2.symm)).symm
      cases hW : bokB n W with
      | true =>
        have := hSW (.inr hW)
        subst this
        rw [hW]
        refine ⟨(S, true), rfl, rfl, ?_, ?_, ?_⟩
        · simp only; omega
        · intro e; cases e
        · intro _; exact ⟨trivial, hW, s2, hw⟩
      | false =>
        cases hS : bokB n S with
        | true => rw [hSW (.inl hS)] at hS; rw [hS] at hW; cases hW
        | false => exact ⟨(l, false), rfl, rfl, hl, fun _ => rfl, fun e => by cases e⟩
    · have c : decide ((way.length : Int) > 20) = true := by simp; omega
      rw [c, cond_true, cond_true]
      exact ⟨(l, false), rfl, rfl, hl, fun _ => rfl, fun e => by cases e⟩
theorem markTripS_tot (a : List Trip) (k0 : Int) (h0 : 0 ≤ k0) (h1 : k0 ≤ 100000000) (hl : a.length ≤ 1048576) : ∃ l', laws_markTripS a k0 = some (k0 + 2 * (a.length : Int), l') := by
  obtain ⟨l', h1⟩ := mark_any (body := laws_markTripS_L1) a k0 2 hl (fun i l hi h => by
      have hil : i < l.length := by omega
      have e6 : k0 + 2 * ((i + 1 : Nat) : Int) = k0 + 2 * (i : Int) + 1 + 1 := by omega
      rw [e6]
      have hk : (0 : Int) ≤ k0 + 2 * (i : Int) ∧ k0 + 2 * (i : Int) ≤ 200000000 := by omega
      generalize k0 + 2 * (i : Int) = k at hk
      have w1 : w64 (k + 1) = k + 1 := w64_id (by omega) (by omega)
      have w2 : w64 (k + 1 + 1) = k + 1 + 1 := w64_id (by omega) (by omega)
      refine ⟨l.set i (Trip.mk k (k + 1)), by simpa using h, ?_⟩
      simp only [laws_markTripS_L1, laws_markTripS_L1_b, Int.ofNat_lt, hil, decide_true, cond_true, Int.toNat_natCast, w1, w2, w64_succ (Nat.le_of_lt (Nat.lt_of_lt_of_le hi hl)), gi_nat, List.length_set, List.set_set, List.getElem_set_self, Option.bind_some])
    (fun l h => by simp [laws_markTripS_L1, laws_markTripS_L1_b, h])
  exact ⟨l', by rw [laws_markTripS, h1]; simp [laws_markTripS_L1_k, laws_markTripS_L1_a]⟩
theorem FnExactBookWay_true (n : Network) (l : List Booking) (th w : Int) (way : List Trip) (hN : NetIn n) (h0 : l.length ≤ maxLen) (h1 : way.length ≤ maxLen) : laws_FnExactBookWay n l th w way = some true := by
  unfold laws_FnExactBookWay
  obtain ⟨v, hv, hk⟩ := szNetwork_le n hN
  rw [hv]
  by_cases hn : v < 0
  · simp [hn]
  obtain ⟨hS, hv1⟩ := hk.resolve_left hn
  obtain ⟨u, hu, hd⟩ := szBookingS_le l v (by omega) hv1 h0
  by_cases hm : u < 0
  · simp [hn, hu, hm]
  obtain ⟨hl, hu1⟩ := hd.resolve_left hm
  obtain ⟨x, hx, hdx⟩ := szTripS_le way u (by omega) hu1 h1
  by_cases ho : x < 0
  · simp [hn, hu, hm, hx, ho]
  obtain ⟨hw, hx1⟩ := hdx.resolve_left ho
  obtain ⟨⟨r, ok⟩, b1, b2, b3, _, _⟩ := BookWay_eq n hS l hl th w way
  obtain ⟨k, n', k0, k1, e1⟩ := markNetwork_tot n hS
  obtain ⟨l', e2⟩ := markBookingS_tot l k k0 (by omega) hl
  obtain ⟨w', e5⟩ := markTripS_tot way (k + 4 * (l.length : Int)) (by omega) (by omega) hw
  obtain ⟨c3, m3, n3, e3, e4⟩ := heldBookingS_eq r b3
  simp [hn, hu, hm, hx, ho, toNetwork_eq n hS, toBookingS_eq l hl, toTripS_eq way hw, b1, b2, eqNetwork_refl n hS, eqBookingS_refl l hl, eqTripS_refl way hw, eqBookingS_refl _ b3, e1, e2, e3, e4, e5, n3, show ¬ k + 4 * (l.length : Int) + 2 * (way.length : Int) < 0 by omega]
end Go.Sx
