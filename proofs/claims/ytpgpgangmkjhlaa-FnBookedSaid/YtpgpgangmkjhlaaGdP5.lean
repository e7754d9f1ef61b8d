/- Part of a proof: GdSsU GdSsV GdSsK GdXxU GdXxV GdY GdJ. -/
import Derived.Test.YtpgpgangmkjhlaaGdP4
import Derived.Test.YtpgpgangmkjhlaaSxSs
section
/- Bookings: what the functions of the program compute, as plain laws. -/
namespace Go.Sx
set_option linter.unusedVariables false

end Go.Sx
end
section
/- The next trip with room, and the bookings that stay: what the functions compute; the two exact laws answer true. -/
namespace Go.Sx
set_option linter.unusedVariables false

end Go.Sx
end
section
/- Booking a way: the library's stable sort puts the new bookings where the reference inserts them. -/
namespace Go.Sx
open Go.Proofs
set_option linter.unusedVariables false

theorem befB_iff (a b : Booking) : befB a b = true ↔ (a.Trip.Day < b.Trip.Day ∨ (a.Trip.Day = b.Trip.Day ∧ (a.Trip.Leg < b.Trip.Leg ∨ (a.Trip.Leg = b.Trip.Leg ∧ a.Thing < b.Thing)))) := by
  unfold befB
  by_cases h1 : a.Trip.Day = b.Trip.Day
  · by_cases h2 : a.Trip.Leg = b.Trip.Leg
    · simp [h1, h2]
    · simp [h1, h2]
  · simp [h1]
theorem befB_iff' (a b : Booking) : befB a b = false ↔ ¬ (a.Trip.Day < b.Trip.Day ∨ (a.Trip.Day = b.Trip.Day ∧ (a.Trip.Leg < b.Trip.Leg ∨ (a.Trip.Leg = b.Trip.Leg ∧ a.Thing < b.Thing)))) := by
  rw [← befB_iff]; simp
theorem befB_swo : Swo befB := by
  refine ⟨fun a b h => ?_, fun a b c h1 h2 => ?_⟩
  · rw [befB_iff] at h
    rw [befB_iff']
    omega
  · rw [befB_iff'] at *
    omega
theorem befB_trans {a b c : Booking} (h1 : befB a b = true) (h2 : befB b c = true) : befB a c = true := by
  cases h : befB a c with
  | true => rfl
  | false =>
    have := befB_swo.trans c a b h (befB_swo.asym a b h1)
    rw [this] at h2; cases h2
theorem less_rds : Rds impl_BookWay_c1 befB := fun row i j x y hi hj => by
  unfold impl_BookWay_c1
  rw [gi_app, gi_app, hi, hj]
  simp only [Option.bind_some, compareBookings_eq]
  congr 1
  have := cmpB_neg x y
  cases hb : befB x y with
  | true => rw [hb] at this; simp [this]
  | false => rw [hb] at this; simp at this; simp; omega
theorem sm_eq : ∀ (n : Nat) (a0 : List Booking) (a1 a2 a3 : Int), sort_symMerge_func_at0ls41_n n a0 a1 a2 a3 = so_symMerge_n impl_BookWay_c1 n a0 a1 a2 a3
  | 0, _, _, _, _ => rfl
  | n + 1, a0, a1, a2, a3 => by
    have e : sort_symMerge_func_at0ls41_n n = so_symMerge_n impl_BookWay_c1 n := by
      funext a b c d; exact sm_eq n a b c d
    show sort_symMerge_func_at0ls41_F (sort_symMerge_func_at0ls41_n n) a0 a1 a2 a3 = so_symMerge_F impl_BookWay_c1 (so_symMerge_n impl_BookWay_c1 n) a0 a1 a2 a3
    rw [e]
    kernel_rfl
theorem sm_eq' : sort_symMerge_func_at0ls41 = so_symMerge impl_BookWay_c1 := by
  funext a b c d; exact sm_eq big a b c d
theorem stable_eq (a : List Booking) (n : Int) : sort_stable_func_at0ls41 a n = so_stable impl_BookWay_c1 a n := by
  have e1 : ∀ a1 s9, sort_stable_func_at0ls41_L3 a1 s9 = so_stable_L3 impl_BookWay_c1 a1 s9 := fun a1 s9 => by
    funext s
    unfold sort_stable_func_at0ls41_L3 so_stable_L3 sort_stable_func_at0ls41_L3_b so_stable_L3_b
    rw [sm_eq']
  have e2 : ∀ a1 s9, sort_stable_func_at0ls41_L3_k a1 s9 = so_stable_L3_k impl_BookWay_c1 a1 s9 := fun a1 s9 => by
    funext s
    cases s with
    | inl t => simp only [sort_stable_func_at0ls41_L3_k, so_stable_L3_k, sort_stable_func_at0ls41_L3_a, so_stable_L3_a, sm_eq']
    | inr y => rfl
  have e3 : ∀ a1, sort_stable_func_at0ls41_L2 a1 = so_stable_L2 impl_BookWay_c1 a1 := fun a1 => by
    funext s
    unfold sort_stable_func_at0ls41_L2 so_stable_L2 sort_stable_func_at0ls41_L2_b so_stable_L2_b
    rw [e1, e2]
  have e4 : ∀ a1, sort_stable_func_at0ls41_L1_k a1 = so_stable_L1_k impl_BookWay_c1 a1 := fun a1 => by
    funext s
    cases s with
    | inl t =>
      simp only [sort_stable_func_at0ls41_L1_k, so_stable_L1_k, sort_stable_func_at0ls41_L1_a, so_stable_L1_a, e3]
      kernel_rfl
    | inr y => rfl
  have e5 : ∀ a1, sort_stable_func_at0ls41_L1 a1 = so_stable_L1 impl_BookWay_c1 a1 := fun a1 => by kernel_rfl
  unfold sort_stable_func_at0ls41 so_stable
  rw [e4, e5]
theorem sort_eq (a : List Booking) (hl : a.length ≤ LIM) : ∃ r, sort_SliceStable_at0sk_1lf41 a = some r ∧ r.Perm a ∧ Srt befB r := by
  unfold LIM at hl
  unfold sort_SliceStable_at0sk_1lf41
  by_cases h1 : a.length ≤ 1
  · rw [decide_eq_true h1, cond_true]
    refine ⟨a, rfl, List.Perm.refl _, ?_⟩
    match a, h1 with
    | [], _ => exact List.Pairwise.nil
    | [x], _ => simp [Srt]
  · rw [decide_eq_false h1, cond_false, decide_eq_true (show a.length < 4611686018427387904 by omega), cond_true, stable_eq]
    exact so_stable_spec befB_swo less_rds a (by unfold LIM; omega)

/-- neighbours rise: all rise -/
theorem strict_of {l : List Booking} (h : ∀ i x y, l[i]? = some x → l[i + 1]? = some y → befB x y = true) : l.Pairwise (fun a b => befB a b = true) := by
  induction l with
  | nil => exact List.Pairwise.nil
  | cons a l ih =>
    have ih' := ih fun i x y hx hy => h (i + 1) x y (by simpa using hx) (by simpa using hy)
    refine List.pairwise_cons.2 ⟨fun b hb => ?_, ih'⟩
    cases l with
    | nil => cases hb
    | cons c l =>
      have hac := h 0 a c rfl rfl
      cases hb with
      | head => exact hac
      | tail _ hb => exact befB_trans hac ((List.pairwise_cons.1 ih').1 b hb)
theorem bok_strict {n : Network} {l : List Booking} (h : bokB n l = true) : l.Pairwise (fun a b => befB a b = true) := by
  unfold bokB at h
  simp only [Bool.and_eq_true] at h
  refine strict_of fun i x y hx hy => ?_
  obtain ⟨h1, e1⟩ := List.getElem?_eq_some_iff.1 hy
  have := allI_iff.1 h.1.2 (i + 1) h1
  simp only [basB, Bool.and_eq_true, Bool.or_eq_true, decide_eq_true_eq] at this
  have h2 := this.2.resolve_left (by omega)
  rw [show 0 + (i + 1) - 1 = i by omega, hx, e1] at h2
  simpa using h2
theorem strict_srt {l : List Booking} (h : l.Pairwise (fun a b => befB a b = true)) : Srt befB l := h.imp fun hab => befB_swo.asym _ _ hab
theorem strict_uniq {S W : List Booking} (hs : S.Pairwise (fun a b => befB a b = true)) (hw : Srt befB W) (hp : S.Perm W) : S = W := by
  refine List.Perm.eq_of_pairwise (le := fun a b => befB b a = false) (fun a b ha hb h1 h2 => ?_) (strict_srt hs) hw hp
  have hb' : b ∈ S := hp.mem_iff.2 hb
  obtain ⟨i, hi, rfl⟩ := List.mem_iff_getElem.1 ha
  obtain ⟨j, hj, rfl⟩ := List.mem_iff_getElem.1 hb'
  rcases Nat.lt_trichotomy i j with h | h | h
  · have := List.pairwise_iff_getElem.1 hs i j hi hj h
    rw [h2] at this; cases this
  · subst h; rfl
  · have := List.pairwise_iff_getElem.1 hs j i hj hi h
    rw [h1] at this; cases this

theorem l6Add_eq (l : List Booking) (b : Booking) (hl : l.length ≤ 1048576) (hs : Srt befB l) : ∃ A B, l = A ++ B ∧ spec_l6Add l b = some (A ++ b :: B) ∧ Srt befB (A ++ b :: B) := by
  obtain ⟨t, e, k, rfl, hk, h1, h2⟩ := loop_end (body := spec_l6Add_L1 l b) (fun s => ∃ k : Nat, s = (k : Int) ∧ k ≤ l.length ∧ ∀ x ∈ l.take k, befB x b = true) (fun s => l.length - s.toNat)
    (fun t => ∃ k : Nat, t = (k : Int) ∧ k ≤ l.length ∧ (∀ x ∈ l.take k, befB x b = true) ∧ ∀ x, l[k]? = some x → befB x b = false) (fun s hs' => by
    obtain ⟨k, rfl, hk, h1⟩ := hs'
    by_cases hlt : k < l.length
    · have c : decide ((k : Int) < (l.length : Int)) = true := by simp; exact hlt
      cases hb : befB l[k] b with
      | true =>
        left
        refine ⟨((k + 1 : Nat) : Int), ?_, ⟨k + 1, rfl, hlt, fun x hx => ?_⟩, by omega⟩
        · simp only [spec_l6Add_L1, spec_l6Add_L1_b, c, cond_true, gi_nat hlt, Option.bind_some, before_eq, hb]
          rw [w64_succ (by omega)]
        · rw [List.take_succ_eq_append_getElem hlt] at hx
          rcases List.mem_append.1 hx with hx | hx
          · exact h1 x hx
          · simp at hx; subst hx; exact hb
      | false =>
        right
        refine ⟨(k : Int), ?_, k, rfl, hk, h1, fun x hx => ?_⟩
        · simp only [spec_l6Add_L1, spec_l6Add_L1_b, c, cond_true, gi_nat hlt, Option.bind_some, before_eq, hb, cond_false]
        · rw [List.getElem?_eq_getElem hlt] at hx
          rw [← Option.some.inj hx]; exact hb
    · right
      have c : decide ((k : Int) < (l.length : Int)) = false := by simp; omega
      refine ⟨(k : Int), by simp only [spec_l6Add_L1, spec_l6Add_L1_b, c, cond_false], k, rfl, hk, h1, fun x hx => ?_⟩
      rw [List.getElem?_eq_none (by omega)] at hx; cases hx) big 0 ⟨0, rfl, Nat.zero_le _, by simp⟩ (lim_big (by unfold LIM; omega))
  refine ⟨l.take k, l.drop k, (List.take_append_drop k l).symm, ?_, ?_⟩
  · unfold spec_l6Add
    rw [e]
    have s1 : slM l 0 (k : Int) = some (l.take k) := by unfold slM; rw [if_pos (by omega)]; simp
    have s2 : slM l (k : Int) (l.length : Int) = some (l.drop k) := by unfold slM; rw [if_pos (by omega)]; simp
    simp only [Option.bind_some, spec_l6Add_L1_k, spec_l6Add_L1_a, s1, s2, spec_l6Copy]
    rw [ap_eq (by simp; omega) (by omega)]
    simp only [Option.bind_some, List.nil_append]
    rw [ap_eq (by simp; omega) (by omega)]
    simp only [Option.bind_some]
    rw [ap_eq (by simp; omega) (by omega)]
    simp
  · have hs' : Srt befB (l.take k ++ l.drop k) := by rw [List.take_append_drop]; exact hs
    refine Srt.put hs' (fun y hy => befB_swo.asym _ _ (h1 y hy)) fun y hy => ?_
    obtain ⟨_, hd, _⟩ := List.pairwise_append.1 hs'
    cases hq : l.drop k with
    | nil => rw [hq] at hy; cases hy
    | cons x r =>
      have hx : l[k]? = some x := by
        have : (l.drop k)[0]? = some x := by rw [hq]; rfl
        rw [List.getElem?_drop] at this; simpa using this
      rw [hq] at hy hd
      cases hy with
      | head => exact h2 _ hx
      | tail _ hy => exact befB_swo.trans b x y (h2 x hx) ((List.pairwise_cons.1 hd).1 y hy)
/-- the bookings of a way -/
def bksOf (th w : Int) (way : List Trip) : List Booking := way.map fun t => ⟨th, t, w⟩
theorem spec_adds (th w : Int) (way : List Trip) (l : List Booking) (hl : l.length + way.length ≤ 1048576) (hs : Srt befB l) :
    ∃ W, loopM (spec_BookWay_L1 th w way) big (l, 0) = some (.inl W) ∧ W.Perm (l ++ bksOf th w way) ∧ Srt befB W := by
  obtain ⟨t, e, h1, h2⟩ := loop_end (body := spec_BookWay_L1 th w way) (fun s => ∃ (k : Nat) (W : List Booking), s = (W, (k : Int)) ∧ k ≤ way.length ∧ W.Perm (l ++ bksOf th w (way.take k)) ∧ Srt befB W) (fun s => way.length - s.2.toNat)
    (fun t => t.Perm (l ++ bksOf th w way) ∧ Srt befB t) (fun s hs' => by
    obtain ⟨k, W, rfl, hk, hp, hW⟩ := hs'
    have hpl := hp.length_eq
    simp only [List.length_append, bksOf, List.length_map, List.length_take] at hpl
    by_cases hlt : k < way.length
    · left
      have c : decide ((k : Int) < (way.length : Int)) = true := by simp; exact hlt
      obtain ⟨A, B, hAB, hadd, hsrt⟩ := l6Add_eq W ⟨th, way[k], w⟩ (by omega) hW
      refine ⟨(A ++ ⟨th, way[k], w⟩ :: B, ((k + 1 : Nat) : Int)), ?_, ⟨k + 1, _, rfl, hlt, ?_, hsrt⟩, by simp only; omega⟩
      · simp only [spec_BookWay_L1, spec_BookWay_L1_b, c, cond_true, gi_nat hlt, Option.bind_some, hadd]
        rw [w64_succ (by omega)]
      · rw [List.take_succ_eq_append_getElem hlt]
        refine List.perm_middle.trans ?_
        rw [← hAB]
        refine (List.Perm.cons _ hp).trans ?_
        simp only [bksOf, List.map_append, List.map_cons, List.map_nil]
        rw [← List.append_assoc]
        exact (List.perm_append_singleton _ _).symm
    · right
      have c : decide ((k : Int) < (way.length : Int)) = false := by simp; omega
      have hkl : k = way.length := by omega
      subst hkl
      rw [List.take_length] at hp
      exact ⟨W, by simp only [spec_BookWay_L1, spec_BookWay_L1_b, c, cond_false], hp, hW⟩) big (l, 0) ⟨0, l, rfl, Nat.zero_le _, by simp [bksOf], hs⟩ (by simp only; exact lim_big (by unfold LIM; omega))
  exact ⟨t, e, h1, h2⟩
theorem impl_adds (th w : Int) (way : List Trip) (l : List Booking) (hl : l.length + way.length ≤ 1048576) : loopM (impl_BookWay_L1 th w way) big (l, 0) = some (.inl (l ++ bksOf th w way)) := by
  have := loop_val (body := impl_BookWay_L1 th w way) way.length (fun k => (l ++ bksOf th w (way.take k), (k : Int))) (l ++ bksOf th w way) (by omega) (fun k hk => by
    have c : decide ((k : Int) < (way.length : Int)) = true := by simp; exact hk
    simp only [impl_BookWay_L1, impl_BookWay_L1_b, c, cond_true, gi_nat hk, Option.bind_some]
    rw [ap_eq (by simp [bksOf]; omega) (by omega)]
    simp only [Option.bind_some]
    rw [w64_succ (by omega), List.take_succ_eq_append_getElem hk]
    simp only [bksOf, List.map_append, List.map_cons, List.map_nil, List.append_assoc]) (by
    have c : decide ((way.length : Int) < (way.length : Int)) = false := by simp
    simp only [impl_BookWay_L1, impl_BookWay_L1_b, c, cond_false, List.take_length])
  simpa [bksOf] using this
theorem bok_len {n : Network} {l : List Booking} (h : bokB n l = true) : l.length ≤ 120 := by
  unfold bokB at h
  simp only [Bool.and_eq_true, decide_eq_true_eq] at h
  exact h.1.1.2
/-- both book the same -/
theorem BookWay_eq (n : Network) (h : NetS n) (l : List Booking) (hl : l.length ≤ 1048576) (th w : Int) (way : List Trip) :
    ∃ v : List Booking × Bool, spec_BookWay n l th w way = some v ∧ impl_BookWay n l th w way = some v ∧ v.1.length ≤ 1048576 ∧ (v.2 = false → v.1 = l) ∧
      (v.2 = true → bokB n l = true ∧ bokB n v.1 = true ∧ v.1.Perm (l ++ bksOf th w way) ∧ way.length ≤ 20) := by
  have cp1 : spec_l6Copy l = some l := by unfold spec_l6Copy; rw [ap_eq (by simp; omega) (by omega)]; rfl
  have cp2 : impl_copyBookings l = some l := by unfold impl_copyBookings; rw [ap_eq (by simp; omega) (by omega)]; rfl
  unfold spec_BookWay impl_BookWay
  rw [cp1, cp2, spec_AreBookings_eq n h l hl, impl_AreBookings_eq n h l hl]
  simp only [Option.bind_some]
  cases hb : bokB n l with
  | false => exact ⟨(l, false), rfl, rfl, hl, fun _ => rfl, fun e => by cases e⟩
  | true =>
    simp only [Bool.not_true, cond_false]
    by_cases hw : way.length ≤ 20
    · have c : decide ((way.length : Int) > 20) = false := by simp; omega
      rw [c, cond_false, cond_false]
      have hll := bok_len hb
      obtain ⟨W, w1, w2, w3⟩ := spec_adds th w way l (by omega) (strict_srt (bok_strict hb))
      have wl := w2.length_eq
      simp only [List.length_append, bksOf, List.length_map] at wl
      rw [w1, impl_adds th w way l (by omega)]
      obtain ⟨S, s1, s2, s3⟩ := sort_eq (l ++ bksOf th w way) (by unfold LIM; simp only [List.length_append, bksOf, List.length_map]; omega)
      have sl := s2.length_eq
      simp only [List.length_append, bksOf, List.length_map] at sl
      simp only [Option.bind_some, spec_BookWay_L1_k, spec_BookWay_L1_a, impl_BookWay_L1_k, impl_BookWay_L1_a, s1, spec_AreBookings_eq n h W (by omega), impl_AreBookings_eq n h S (by omega), cp1, cp2]
      have hSW : bokB n S = true ∨ bokB n W = true → S = W := fun hc => by
        rcases hc with hc | hc
        · exact strict_uniq (bok_strict hc) w3 (s2.trans w2.symm)
        · exact (strict_uniq (bok_strict hc) s3 (w2.trans s2.symm)).symm
      cases hW : bokB n W with
      | true =>
        have := hSW (.inr hW)
        subst this
        rw [hW]
        refine ⟨(S, true), rfl, rfl, ?_, ?_, ?_⟩
        · simp only; omega
        · intro e; cases e
        · intro _; exact ⟨trivial, hW, s2, hw⟩
      | false =>
        cases hS : bokB n S with
        | true => rw [hSW (.inl hS)] at hS; rw [hS] at hW; cases hW
        | false => exact ⟨(l, false), rfl, rfl, hl, fun _ => rfl, fun e => by cases e⟩
    · have c : decide ((way.length : Int) > 20) = true := by simp; omega
      rw [c, cond_true, cond_true]
      exact ⟨(l, false), rfl, rfl, hl, fun _ => rfl, fun e => by cases e⟩
end Go.Sx
end
section
/- Bookings: what the functions of the program compute, as plain laws. -/
namespace Go.Sx
set_option linter.unusedVariables false

theorem impl_SpareOn_eq (n : Network) (h : NetS n) (l : List Booking) (t : Trip) (hl : l.length ≤ 1048576) : impl_SpareOn n l t = some (spaV n l t) := by
  unfold impl_SpareOn spaV
  rw [impl_AreBookings_eq n h l hl, impl_IsTrip_eq n h]
  cases bokB n l with
  | false => simp
  | true =>
    cases ht : tripB n t with
    | false => simp
    | true =>
      obtain ⟨_, t1, t2, _⟩ := trip_in ht
      simp [gi_leg t1 t2, impl_LoadOf_eq l t hl]
theorem impl_FillOf_eq (n : Network) (h : NetS n) (l : List Booking) (t : Trip) (hl : l.length ≤ 1048576) : impl_FillOf n l t = some (filV n l t) := by
  unfold impl_FillOf filV
  rw [impl_AreBookings_eq n h l hl, impl_IsTrip_eq n h]
  cases bokB n l with
  | false => simp
  | true =>
    cases ht : tripB n t with
    | false => simp
    | true =>
      obtain ⟨_, t1, t2, _⟩ := trip_in ht
      by_cases h0 : (legA n t.Leg).Room = 0
      · simp [gi_leg t1 t2, beqI, h0]
      · simp [gi_leg t1 t2, beqI, h0, impl_LoadOf_eq l t hl, qM]
end Go.Sx
end
section
/- The next trip with room, and the bookings that stay: what the functions compute; the two exact laws answer true. -/
namespace Go.Sx
set_option linter.unusedVariables false

theorem impl_DropFrom_eq (n : Network) (h : NetS n) (l : List Booking) (hl : l.length ≤ 1048576) (th at0 : Int) : impl_DropFrom n l th at0 = some (drpV n l th at0) := by
  unfold impl_DropFrom drpV
  rw [impl_AreBookings_eq n h l hl, Option.bind_some]
  cases hb : bokB n l with
  | false =>
    simp only [Bool.not_false, cond_true, impl_copyBookings]
    rw [ap_eq (by simp; omega) (by omega)]
    simp
  | true =>
    have := loopM_each (body := impl_DropFrom_L1 n l th at0) (R := List Booking) l (fun x i => (x, i)) (fun _ b x => .inl (bif kepB n th at0 b then x ++ [b] else x)) (fun x => x) (fun i x => x.length ≤ i) [] (by simp) (fun i hi x hx => by
      simp only [impl_DropFrom_L1, impl_DropFrom_L1_b, gi_nat hi, Option.bind_some, Int.ofNat_lt, hi, decide_true, cond_true, w64_succ (Nat.le_of_lt (Nat.lt_of_lt_of_le hi hl))]
      have hap : ap 32 x [l[i]] = some (x ++ [l[i]]) := ap_eq (by simp; omega) (by omega)
      have ht := bok_trip hb (List.getElem_mem hi)
      simp only [hap, Option.bind_some, starts_eq' ht, kepB]
      cases l[i].Thing != th with
      | true => exact ⟨by simp [ctl], fun x' e => by simp at e; subst e; simp; omega⟩
      | false =>
        by_cases hk : stT n l[i].Trip < at0
        · exact ⟨by simp [ctl, hk], fun x' e => by simp [hk] at e; subst e; simp; omega⟩
        · exact ⟨by simp [ctl, hk], fun x' e => by simp [hk] at e; subst e; omega⟩) (fun x hx => by simp [impl_DropFrom_L1, impl_DropFrom_L1_b]) hl
    rw [each_filter (fun b : Booking => kepB n th at0 b) (fun b => b)] at this
    simp only [Bool.not_true, cond_false, this]
    simp [fin, impl_DropFrom_L1_k, impl_DropFrom_L1_a]

end Go.Sx
end
section
/- The draw of bookings and a way to book: it ends, and what it draws is small. -/
namespace Go.Sx
set_option linter.unusedVariables false

theorem fwV_len (n : Network) (a b : ByteArray) (t : Int) : (fwV n a b t).1.length ≤ 40 := by
  by_cases hE : earV n a b t < 0
  · unfold fwV
    rw [if_pos hE]
    simp
  · obtain ⟨st, x, hf, e1, e2, hst, hx, hD, T, hV⟩ := fw_tight (n := n) (a := a) (b := b) (t := t) (by omega)
    rw [hV]
    show (bckW n st t (lgsN n st t x) x (DN n st t x)).length ≤ 40
    rw [bck_len hf.1 hst hf.2.2 _ _ _ T]
    have := (lgs_spec n st t x).1
    have := plcs_le hf.1
    omega
theorem l3Next_tot (n : Network) (h : NetS n) (leg at0 : Int) : ∃ v, spec_l3Next n leg at0 = some v := by
  unfold spec_l3Next
  obtain ⟨y, hy, _⟩ := loopM_tot (body := spec_l3Next_L1 n leg at0) (fun s => 0 ≤ s ∧ s ≤ 61) (fun s => (61 - s).toNat) (fun _ => True) (fun s hs => by
    obtain ⟨h0, h1⟩ := hs
    have hw : w64 (s + 1) = s + 1 := w64_id (by omega) (by omega)
    show (∃ s', spec_l3Next_L1_b n leg at0 s = some (.next s') ∧ _) ∨ (∃ t', spec_l3Next_L1_b n leg at0 s = some (.brk t') ∧ _) ∨ (∃ r, spec_l3Next_L1_b n leg at0 s = some (.ret r) ∧ _)
    unfold spec_l3Next_L1_b
    rw [spec_runs_eq n h, hw]
    by_cases c : s ≤ 60
    · rw [decide_eq_true c]
      simp only [cond_true, Option.bind_some]
      cases hr : runB n leg s with
      | false => exact .inl ⟨s + 1, rfl, ⟨by omega, by omega⟩, by omega⟩
      | true =>
        have hg : ∃ v, spec_l3Starts n ⟨leg, s⟩ = some v := by
          simp only [runB, Bool.and_eq_true, decide_eq_true_eq] at hr
          unfold spec_l3Starts
          rw [gi_leg hr.1.1.1.1 hr.1.1.1.2]
          exact ⟨_, rfl⟩
        obtain ⟨v, hv⟩ := hg
        simp only [cond_true, hv, Option.bind_some]
        by_cases cv : v ≥ at0
        · exact .inr (.inr ⟨s, by rw [decide_eq_true cv]; rfl, trivial⟩)
        · exact .inl ⟨s + 1, by rw [decide_eq_false cv]; rfl, ⟨by omega, by omega⟩, by omega⟩
    · exact .inr (.inl ⟨(), by rw [decide_eq_false c]; rfl, trivial⟩)) big 0 ⟨by omega, by omega⟩ (by unfold big; omega)
  rw [hy]
  cases y <;> exact ⟨_, rfl⟩
theorem l3Trip_ok {c : l1Cur} (h : CurOk c) {n : Network} (hS : NetS n) : ∃ v c', spec_l3Trip c n = some (v, c') ∧ CurOk c' := by
  obtain ⟨v1, c1, e1, h1, _⟩ := l1Below_ok h (n.Legs.length : Int)
  obtain ⟨v3, c3, e3, h3, _⟩ := l1Below_ok h1 10
  obtain ⟨v5, e5⟩ := l3Next_tot n hS v1 (w64 (v3 * 1440))
  obtain ⟨b8, c8, e8, h8⟩ := l1Once_ok h3 4
  unfold spec_l3Trip
  rw [e1]; simp only [Option.bind_some]
  rw [e3]; simp only [Option.bind_some]
  rw [e5]; simp only [Option.bind_some]
  by_cases c : v5 ≥ 0
  · rw [decide_eq_true c]; simp only [cond_true]
    rw [e8]; simp only [Option.bind_some]
    cases b8 <;> exact ⟨_, _, rfl, h8⟩
  · rw [decide_eq_false c]
    exact ⟨_, _, rfl, h3⟩
theorem l6Trip_ok {c : l1Cur} (h : CurOk c) {n : Network} (hS : NetS n) (l : List Booking) : ∃ v c', spec_l6Trip c n l = some (v, c') ∧ CurOk c' := by
  unfold spec_l6Trip
  by_cases c0 : (l.length : Int) > 0
  · rw [decide_eq_true c0]; simp only [cond_true]
    obtain ⟨b2, c2, e2, h2⟩ := l1Once_ok h 3
    rw [e2]; simp only [Option.bind_some]
    cases b2 with
    | false =>
      obtain ⟨v5, c5, e5, h5, p0, p1, _⟩ := l1Below_ok h2 (l.length : Int)
      have hp1 := p1 c0
      simp only [Bool.not_false, cond_true]
      rw [e5]; simp only [Option.bind_some]
      rw [gi_eq p0 hp1]
      exact ⟨_, _, rfl, h5⟩
    | true =>
      obtain ⟨v, c', e, h'⟩ := l3Trip_ok h2 hS
      simp only [Bool.not_true, cond_false]
      rw [e]
      exact ⟨_, _, rfl, h'⟩
  · rw [decide_eq_false c0]; simp only [cond_false]
    obtain ⟨v, c', e, h'⟩ := l3Trip_ok h hS
    rw [e]
    exact ⟨_, _, rfl, h'⟩
theorem l4Way_ok {c : l1Cur} (h : CurOk c) {n : Network} (hS : NetS n) (a b : ByteArray) (t : Int) : ∃ v c', spec_l4Way c n a b t = some (v, c') ∧ CurOk c' ∧ v.length ≤ 40 := by
  unfold spec_l4Way
  rw [findWay_spec n hS]
  simp only [Option.bind_some]
  have hl := fwV_len n a b t
  generalize fwV n a b t = W at hl ⊢
  obtain ⟨W, ok⟩ := W
  simp only at hl ⊢
  by_cases c0 : (W.length : Int) > 0
  · rw [decide_eq_true c0]; simp only [cond_true]
    obtain ⟨b4, c4, e4, h4⟩ := l1Once_ok h 3
    rw [e4]; simp only [Option.bind_some]
    cases b4 with
    | false => exact ⟨_, _, rfl, h4, hl⟩
    | true =>
      simp only [cond_true]
      obtain ⟨v7, c7, e7, h7, p0, p1, _⟩ := l1Below_ok h4 (W.length : Int)
      have hv := p1 c0
      rw [e7]; simp only [Option.bind_some]
      obtain ⟨v9, c9, e9, h9, _⟩ := l1Below_ok h7 4
      rw [e9]; simp only [Option.bind_some]
      rw [gi_eq p0 hv]
      simp only [Option.bind_some]
      cases h90 : (v9 == 0) with
      | true =>
        simp only [cond_true]
        obtain ⟨v14, c14, e14, h14, _⟩ := l1Below_ok h9 3
        rw [e14]
        exact ⟨_, _, rfl, h14, by rw [List.length_set]; exact hl⟩
      | false =>
      cases h91 : (v9 == 1) with
      | true =>
        simp only [cond_true, cond_false]
        exact ⟨_, _, rfl, h9, by rw [List.length_set]; exact hl⟩
      | false =>
      cases h92 : (v9 == 2) with
      | true =>
        simp only [cond_true, cond_false]
        obtain ⟨v24, c24, e24, h24, _⟩ := l1Below_ok h9 (w64 ((n.Legs.length : Int) + 1))
        rw [e24]
        exact ⟨_, _, rfl, h24, by rw [List.length_set]; exact hl⟩
      | false =>
        simp only [cond_false]
        have hw : w64 (v7 + 1) = v7 + 1 := w64_id (by omega) (by omega)
        have i1 : inM W v7 = some () := by unfold inM; rw [if_pos ⟨p0, by omega⟩]
        have i2 : inM W (v7 + 1) = some () := by unfold inM; rw [if_pos ⟨by omega, by omega⟩]
        have i3 : dlM 16 W v7.toNat (v7 + 1).toNat = some (W.take v7.toNat ++ W.drop (v7 + 1).toNat) := by
          unfold dlM
          rw [if_pos ⟨by omega, by omega, by show _ ≤ 9223372036854775807; omega, by omega⟩]
        rw [hw, i1, i2, i3]
        exact ⟨_, _, rfl, h9, by simp only [List.length_append, List.length_take, List.length_drop]; omega⟩
  · rw [decide_eq_false c0]
    exact ⟨_, _, rfl, h, hl⟩
theorem drawBookWay_ok (a : List Int) (ha : a.length ≤ 4096) : ∃ n l th w way, spec_DrawBookWay a = some (n, l, th, w, way) ∧ NetS n ∧ l.length ≤ 201 ∧ way.length ≤ 41 := by
  obtain ⟨c1, e1, h1⟩ := l1New_ok a ha
  obtain ⟨n, c3, e3, h3, hd, _⟩ := l3Draw_ok h1 6 (by omega) (by omega)
  have hS := hd.S (by omega)
  obtain ⟨l, c5, e5, h5, hl5⟩ := l6Draw_ok h3 hd 6 (by omega) (by omega)
  obtain ⟨b7, c7, e7, h7⟩ := l1Once_ok h5 6
  have key4 : ∀ (l : List Booking) (way : List Trip) (c : l1Cur) (w : Int), CurOk c → l.length ≤ 201 → way.length ≤ 41 → ∃ n' l' th w' way', spec_DrawBookWay_j4 (n, c3) l way c.b c.i c.h w = some (n', l', th, w', way') ∧ NetS n' ∧ l'.length ≤ 201 ∧ way'.length ≤ 41 := fun l way c w hc hl hw => by
    obtain ⟨cb, ci, ch⟩ := c
    obtain ⟨v, c', e, _⟩ := l1Int_ok hc ([1, 2, 3, 13, 0, 9999, 10000] : List Int) (by simp)
    unfold spec_DrawBookWay_j4
    rw [e]
    exact ⟨_, _, _, _, _, rfl, hS, hl, hw⟩
  have key3 : ∀ (l : List Booking) (way : List Trip) (c : l1Cur), CurOk c → l.length ≤ 201 → way.length ≤ 41 → ∃ n' l' th w' way', spec_DrawBookWay_j3 (n, c3) l c.b c.i c.h way = some (n', l', th, w', way') ∧ NetS n' ∧ l'.length ≤ 201 ∧ way'.length ≤ 41 := fun l way c hc hl hw => by
    obtain ⟨cb, ci, ch⟩ := c
    obtain ⟨v27, c27, e27, h27, _⟩ := l1Below_ok hc 20000
    obtain ⟨b29, c29, e29, h29⟩ := l1Once_ok h27 6
    obtain ⟨v38, c38, e38, h38, _⟩ := l1Odd_ok h29
    unfold spec_DrawBookWay_j3
    rw [e27]; simp only [Option.bind_some]
    rw [e29]; simp only [Option.bind_some]
    cases b29 with
    | true =>
      simp only [cond_true]
      rw [e38]; simp only [Option.bind_some]
      exact key4 l way c38 v38 h38 hl hw
    | false => exact key4 l way c29 _ h29 hl hw
  have key1 : ∀ (l : List Booking) (c : l1Cur), CurOk c → l.length ≤ 201 → ∃ n' l' th w' way', spec_DrawBookWay_j1 (n, c3) c.b c.i c.h l = some (n', l', th, w', way') ∧ NetS n' ∧ l'.length ≤ 201 ∧ way'.length ≤ 41 := fun l c hc hl => by
    obtain ⟨cb, ci, ch⟩ := c
    obtain ⟨v13, c13, e13, h13, _⟩ := l1Below_ok hc 100
    obtain ⟨v15, c15, e15, h15, _⟩ := l4Of_ok2 h13 (by omega) hd
    obtain ⟨v17, c17, e17, h17, _⟩ := l4Of_ok2 h15 (by omega) hd
    obtain ⟨v19, c19, e19, h19, hw⟩ := l4Way_ok h17 hS v15 v17 (w64 (60 * v13))
    obtain ⟨b21, c21, e21, h21⟩ := l1Once_ok h19 5
    obtain ⟨v41, c41, e41, h41⟩ := l6Trip_ok h21 hS l
    unfold spec_DrawBookWay_j1
    rw [e13]; simp only [Option.bind_some]
    rw [e15]; simp only [Option.bind_some]
    rw [e17]; simp only [Option.bind_some]
    rw [e19]; simp only [Option.bind_some]
    unfold spec_DrawBookWay_j2
    simp only
    rw [e21]; simp only [Option.bind_some]
    cases b21 with
    | true =>
      simp only [cond_true]
      rw [e41]; simp only [Option.bind_some]
      rw [ap_eq (by simp; omega) (by omega)]
      simp only [Option.bind_some]
      exact key3 l (v19 ++ [v41]) c41 h41 hl (by simp; omega)
    | false => exact key3 l v19 c21 h21 hl (by omega)
  unfold spec_DrawBookWay
  rw [e1]; simp only [Option.bind_some]
  rw [e3]; simp only [Option.bind_some]
  rw [e5]; simp only [Option.bind_some]
  rw [e7]; simp only [Option.bind_some]
  cases b7 with
  | true =>
    simp only [cond_true]
    obtain ⟨l', c46, e46, h46, hl46⟩ := l6Any_ok h7 hd
    rw [e46]; simp only [Option.bind_some]
    exact key1 l' c46 h46 hl46
  | false => exact key1 l c7 h7 (by omega)
end Go.Sx
end
section
/- A booked way is dropped again; what it takes is what is missing: both laws answer true. -/
namespace Go.Sx
set_option linter.unusedVariables false

theorem bookings_refl (l : List Booking) (hl : l.length ≤ 1048576) : laws_bookings l l = some true := by
  unfold laws_bookings
  rw [show ((l.length : Int) != (l.length : Int)) = false by simp, cond_false]
  have := loop_val (body := laws_bookings_L1 l l) l.length (fun i => (i : Int)) () hl (fun i hi => by simp [laws_bookings_L1, laws_bookings_L1_b, gi_nat hi, hi, w64_succ (Nat.le_of_lt (Nat.lt_of_lt_of_le hi hl))]) (by simp [laws_bookings_L1, laws_bookings_L1_b])
  rw [show ((0 : Nat) : Int) = 0 from rfl] at this
  rw [this]
  rfl
theorem drp_new {n : Network} {l L : List Booking} {th w : Int} {way : List Trip} (hl : bokB n l = true) (hL : bokB n L = true) (hp : L.Perm (l ++ bksOf th w way)) (h0 : tofV l th = []) : drpV n L th 0 = l := by
  unfold drpV
  rw [if_pos hL]
  have e : L.filter (kepB n th 0) = L.filter (fun b => b.Thing != th) := List.filter_congr (fun b hb => by
    have := stT_in (bok_trip hL hb)
    unfold kepB
    rw [decide_eq_false (show ¬ stT n b.Trip < 0 by omega), Bool.or_false])
  rw [e]
  have hp2 := hp.filter (fun b => b.Thing != th)
  rw [List.filter_append] at hp2
  have f1 : l.filter (fun b => b.Thing != th) = l := List.filter_eq_self.2 (fun b hb => by
    cases hc : (b.Thing != th) with
    | true => rfl
    | false =>
      have hm : b.Trip ∈ tofV l th := List.mem_map.2 ⟨b, List.mem_filter.2 ⟨hb, by simpa [bne] using hc⟩, rfl⟩
      rw [h0] at hm
      cases hm)
  have f2 : (bksOf th w way).filter (fun b => b.Thing != th) = [] := by
    rw [List.filter_eq_nil_iff]
    intro b hb
    obtain ⟨t, _, rfl⟩ := List.mem_map.1 hb
    simp
  rw [f1, f2, List.append_nil] at hp2
  exact strict_uniq ((bok_strict hL).filter _) (strict_srt (bok_strict hl)) hp2
theorem tof_new {l L : List Booking} {th w : Int} {way : List Trip} (hp : L.Perm (l ++ bksOf th w way)) (h0 : tofV l th = []) : (tofV L th).length = way.length := by
  unfold tofV at h0 ⊢
  rw [List.length_map, (hp.filter (fun b => b.Thing == th)).length_eq, List.filter_append, List.length_append]
  have e0 : (l.filter fun b => b.Thing == th).length = 0 := by
    have := congrArg List.length h0
    simpa using this
  have e1 : (bksOf th w way).filter (fun b => b.Thing == th) = bksOf th w way := List.filter_eq_self.2 (fun b hb => by
    obtain ⟨t, _, rfl⟩ := List.mem_map.1 hb
    simp)
  rw [e0, e1]
  simp [bksOf]
theorem FnDropped_true (a : List Int) : laws_FnDropped a = some true := by
  unfold laws_FnDropped
  rw [show laws_big a = some (decide ((a.length : Int) > 4096)) from rfl]
  simp only [Option.bind_some]
  by_cases hb : (a.length : Int) > 4096
  · rw [decide_eq_true hb]; rfl
  rw [decide_eq_false hb]
  obtain ⟨n, l, th, w, way, e, hS, hl, hw⟩ := drawBookWay_ok a (by omega)
  rw [cond_false, e]
  simp only [Option.bind_some]
  rw [impl_TripsOf_eq l th (by omega)]
  simp only [Option.bind_some]
  by_cases h0 : ((tofV l th).length : Int) > 0
  · rw [decide_eq_true h0]; rfl
  have h00 : tofV l th = [] := List.eq_nil_of_length_eq_zero (by omega)
  rw [decide_eq_false h0, cond_false]
  obtain ⟨v, e1, e2, hv, hf, ht⟩ := BookWay_eq n hS l (by omega) th w way
  rw [e2]
  simp only [Option.bind_some]
  rw [e1]
  simp only [Option.bind_some, beq_self_eq_true, Bool.not_true, cond_false]
  rw [impl_DropFrom_eq n hS v.1 hv th 0]
  simp only [Option.bind_some]
  cases h2 : v.2 with
  | false => rfl
  | true =>
    obtain ⟨b1, b2, hp, _⟩ := ht h2
    simp only [Bool.not_true, cond_false]
    rw [drp_new b1 b2 hp h00, bookings_refl l (by omega)]
    simp only [Option.bind_some, cond_true]
    rw [impl_TripsOf_eq v.1 th hv]
    simp only [Option.bind_some]
    rw [tof_new hp h00]
    simp

/-- what is booked on a trip -/
def ldS (t : Trip) : List Booking → Int
  | [] => 0
  | b :: l => (if b.Trip = t then b.Weight else 0) + ldS t l
theorem ldS_app (t : Trip) (m : List Booking) : ∀ l : List Booking, ldS t (l ++ m) = ldS t l + ldS t m
  | [] => by simp [ldS]
  | b :: l => by rw [List.cons_append, ldS, ldS, ldS_app t m l]; omega
theorem ldS_perm (t : Trip) {l m : List Booking} (h : l.Perm m) : ldS t l = ldS t m := by
  induction h with
  | nil => rfl
  | cons x _ ih => rw [ldS, ldS, ih]
  | swap x y l => simp only [ldS]; omega
  | trans _ _ h1 h2 => rw [h1, h2]
theorem ldS_in (t : Trip) : ∀ l : List Booking, (∀ b ∈ l, 1 ≤ b.Weight ∧ b.Weight ≤ 1000000) → 0 ≤ ldS t l ∧ ldS t l ≤ 1000000 * (l.length : Int)
  | [], _ => by simp [ldS]
  | b :: l, h => by
    have hb := h b (by simp)
    have hr := ldS_in t l (fun q hq => h q (by simp [hq]))
    have hlen : ((b :: l).length : Int) = (l.length : Int) + 1 := by simp
    rw [hlen, ldS]
    by_cases c : b.Trip = t
    · rw [if_pos c]; omega
    · rw [if_neg c]; omega
theorem each_sum (t : Trip) : ∀ (l : List Booking) (i : Nat) (x : Int), 0 ≤ x → x + 1000000 * (l.length : Int) ≤ 4000000000000000000 → (∀ b ∈ l, 1 ≤ b.Weight ∧ b.Weight ≤ 1000000) →
    each (X := Int) (R := Int) (fun _ b x => .inl (bif decide (b.Trip = t) then w64 (x + b.Weight) else x)) i l x = .inl (x + ldS t l)
  | [], i, x, h0, h1, hw => by simp [each, ldS]
  | b :: l, i, x, h0, h1, hw => by
    have hb := hw b (by simp)
    have hlen : ((b :: l).length : Int) = (l.length : Int) + 1 := by simp
    rw [hlen] at h1
    by_cases hbt : b.Trip = t
    · have hws : w64 (x + b.Weight) = x + b.Weight := w64_id (by omega) (by omega)
      have e := each_sum t l (i + 1) (x + b.Weight) (by omega) (by omega) (fun q hq => hw q (by simp [hq]))
      simp only [each, hbt, decide_true, cond_true, hws]
      rw [e, ldS, if_pos hbt, Int.add_assoc]
    · have e := each_sum t l (i + 1) x h0 (by omega) (fun q hq => hw q (by simp [hq]))
      simp only [each, hbt, decide_false, cond_false]
      rw [e, ldS, if_neg hbt, Int.zero_add]
theorem ldW_eq {n : Network} {l : List Booking} (h : bokB n l = true) (t : Trip) : ldW l t = ldS t l ∧ 0 ≤ ldS t l ∧ ldS t l ≤ 120000000 := by
  obtain ⟨h1, h2⟩ := bok_weights h
  have hi := ldS_in t l h2
  have e := each_sum t l 0 0 (Int.le_refl _) (by omega) h2
  refine ⟨?_, hi.1, by omega⟩
  unfold ldW ldE
  rw [e, Int.zero_add]
theorem ldS_none (th w : Int) (t : Trip) : ∀ way : List Trip, t ∉ way → ldS t (bksOf th w way) = 0
  | [], _ => rfl
  | u :: way, h => by
    show (if u = t then w else 0) + ldS t (bksOf th w way) = 0
    rw [ldS_none th w t way (fun hm => h (by simp [hm])), if_neg (fun e => h (by simp [e]))]
    omega
theorem ldS_way (th w : Int) (t : Trip) : ∀ way : List Trip, way.Nodup → ldS t (bksOf th w way) = if t ∈ way then w else 0
  | [], _ => by simp [bksOf, ldS]
  | u :: way, h => by
    obtain ⟨h1, h2⟩ := List.nodup_cons.1 h
    show (if u = t then w else 0) + ldS t (bksOf th w way) = _
    by_cases c : u = t
    · subst c
      rw [ldS_none th w u way h1]
      simp
    · rw [ldS_way th w t way h2, if_neg c]
      simp [show ¬ t = u from fun e => c e.symm]
theorem way_nodup {n : Network} {l L : List Booking} {th w : Int} {way : List Trip} (hL : bokB n L = true) (hp : L.Perm (l ++ bksOf th w way)) : way.Nodup := by
  have h1 : L.Nodup := (bok_strict hL).imp (fun {a b} h e => by
    subst e
    rw [befB_swo.refl] at h
    cases h)
  have h2 := (List.nodup_append.1 (hp.nodup_iff.1 h1)).2.1
  have h3 : (way.map fun t => (⟨th, t, w⟩ : Booking)).Nodup := h2
  rw [List.nodup_iff_pairwise_ne] at h3 ⊢
  rw [List.pairwise_map] at h3
  exact h3.imp (fun h e => h (by rw [e]))
theorem lod_le {n : Network} {L : List Booking} (h : bokB n L = true) {b : Booking} (hb : b ∈ L) : ldW L b.Trip ≤ (legA n b.Trip.Leg).Room := by
  simp only [bokB, Bool.and_eq_true, List.all_eq_true] at h
  have := h.2 b hb
  simpa [lodB] using this
theorem booked_step {n : Network} (hS : NetS n) {l L : List Booking} {th w : Int} {way : List Trip} {ok : Bool} (hl : bokB n l = true) (hL : bokB n L = true) (hp : L.Perm (l ++ bksOf th w way)) {b : Booking} (hb : b ∈ L) (i : Nat) (hi : i ≤ 1048576) :
    laws_FnBooked_j1 (n, l, th, w, way) (L, ok) (i : Int) b (if b.Trip ∈ way then w else 0) = some (.next ((i + 1 : Nat) : Int)) := by
  obtain ⟨l1, _⟩ := bok_weights hl
  obtain ⟨L1, _⟩ := bok_weights hL
  have ht := bok_trip hL hb
  obtain ⟨tn, t0, t1, _⟩ := trip_in ht
  have hR := leg_in tn t0 t1
  obtain ⟨a1, a2, a3⟩ := ldW_eq hl b.Trip
  obtain ⟨A1, A2, A3⟩ := ldW_eq hL b.Trip
  have hle := lod_le hL hb
  have hsum : ldS b.Trip L = ldS b.Trip l + (if b.Trip ∈ way then w else 0) := by
    rw [ldS_perm _ hp, ldS_app, ldS_way th w b.Trip way (way_nodup hL hp)]
  generalize (if b.Trip ∈ way then w else 0) = x at hsum ⊢
  generalize hRm : (legA n b.Trip.Leg).Room = R at hR hle
  have s1 : impl_SpareOn n L b.Trip = some (R - ldS b.Trip L) := by
    rw [impl_SpareOn_eq n hS L b.Trip (by omega)]
    unfold spaV
    rw [hL, ht, hRm, A1, Bool.and_true, if_pos rfl, w64_id (by omega) (by omega)]
  have s2 : impl_SpareOn n l b.Trip = some (R - ldS b.Trip l) := by
    rw [impl_SpareOn_eq n hS l b.Trip (by omega)]
    unfold spaV
    rw [hl, ht, hRm, a1, Bool.and_true, if_pos rfl, w64_id (by omega) (by omega)]
  have s3 : ∃ v, impl_FillOf n L b.Trip = some v ∧ ¬ v > 100 := by
    rw [impl_FillOf_eq n hS L b.Trip (by omega)]
    unfold filV
    rw [hL, ht, hRm, A1, Bool.and_true, if_pos rfl]
    by_cases c : R = 0
    · rw [if_pos c]; exact ⟨0, rfl, by omega⟩
    · rw [if_neg c, w64_id (show -9223372036854775808 ≤ 100 * ldS b.Trip L by omega) (by omega)]
      have q0 : 0 ≤ Int.tdiv (100 * ldS b.Trip L) R := Int.tdiv_nonneg (by omega) (by omega)
      have q1 : Int.tdiv (100 * ldS b.Trip L) R ≤ 100 := by
        rw [Int.tdiv_eq_ediv_of_nonneg (by omega)]
        have : 100 * ldS b.Trip L / R < 101 := Int.ediv_lt_of_lt_mul (by omega) (by omega)
        omega
      rw [w64_id (by omega) (by omega)]
      exact ⟨_, rfl, by omega⟩
  obtain ⟨v3, s3, s4⟩ := s3
  unfold laws_FnBooked_j1
  simp only [s1, s2, s3, Option.bind_some]
  rw [w64_id (show -9223372036854775808 ≤ R - ldS b.Trip l - x by omega) (by omega), w64_succ hi]
  rw [show ((R - ldS b.Trip L) != (R - ldS b.Trip l - x)) = false by rw [bneI, decide_eq_true (by omega)]; rfl]
  rw [decide_eq_false (show ¬ R - ldS b.Trip L < 0 by omega), decide_eq_false s4]
  rfl
theorem FnBooked_true (a : List Int) : laws_FnBooked a = some true := by
  unfold laws_FnBooked
  rw [show laws_big a = some (decide ((a.length : Int) > 4096)) from rfl]
  simp only [Option.bind_some]
  by_cases hb : (a.length : Int) > 4096
  · rw [decide_eq_true hb]; rfl
  rw [decide_eq_false hb]
  obtain ⟨n, l, th, w, way, e, hS, hl, hw⟩ := drawBookWay_ok a (by omega)
  rw [cond_false, e]
  simp only [Option.bind_some]
  obtain ⟨v, e1, e2, hv, hf, ht⟩ := BookWay_eq n hS l (by omega) th w way
  obtain ⟨L, ok⟩ := v
  rw [e2]
  simp only [Option.bind_some]
  cases ok with
  | false =>
    rw [show L = l from hf rfl, Bool.not_false, cond_true, bookings_refl l (by omega)]
    rfl
  | true =>
    obtain ⟨b1, b2, hp, hw20⟩ := ht rfl
    simp only at b2 hp hv
    rw [Bool.not_true, cond_false]
    have hlp := loop_val (body := laws_FnBooked_L1 (n, l, th, w, way) (L, true)) L.length (fun i => (i : Int)) () hv (fun i hi => by
      have hst := booked_step (ok := true) hS b1 b2 hp (List.getElem_mem hi) i (by omega)
      simp only [laws_FnBooked_L1, laws_FnBooked_L1_b, Int.ofNat_lt, hi, decide_true, cond_true, gi_nat hi, Option.bind_some]
      rw [rides_eq way _ (by omega)]
      simp only [Option.bind_some]
      by_cases c : L[i].Trip ∈ way
      · rw [if_pos c] at hst
        rw [show (way.any fun x => decide (x = L[i].Trip)) = true by rw [List.any_eq_true]; exact ⟨_, c, by simp⟩, cond_true]
        exact hst
      · rw [if_neg c] at hst
        rw [show (way.any fun x => decide (x = L[i].Trip)) = false by rw [List.any_eq_false]; intro x hx h; exact c (by rw [← of_decide_eq_true h]; exact hx), cond_false]
        exact hst) (by simp [laws_FnBooked_L1, laws_FnBooked_L1_b])
    rw [show ((0 : Nat) : Int) = 0 from rfl] at hlp
    rw [hlp]
    simp only [Option.bind_some, laws_FnBooked_L1_k, laws_FnBooked_L1_a]
    rw [impl_AreBookings_eq n hS L hv, b2]
    simp only [Option.bind_some, cond_true]
    have hlen := hp.length_eq
    rw [List.length_append] at hlen
    simp only [bksOf, List.length_map] at hlen
    rw [w64_id (by omega) (by omega), hlen]
    simp
end Go.Sx
end
