/- Things in boxes: what the functions of the program compute, as plain laws. -/
import Derived.Test.YtanfbicgojbnkaaDoorSxR
import Derived.Test.YtanfbicgojbnkaaDoorMeW1
namespace Go.Sx
set_option linter.unusedVariables false

/-- the place of a thing; -1 if there is none -/
def fnd (l : List Thing) (id : Int) : Int := match fstI (fun t => t.Id == id) 0 l with | some i => i | none => -1
theorem fnd_some {l : List Thing} {id : Int} (h : 0 ≤ fnd l id) : ∃ i, ∃ hi : i < l.length, fnd l id = (i : Int) ∧ l[i].Id = id := by
  unfold fnd at h ⊢
  split at h
  · rename_i k hk
    obtain ⟨j, hj, rfl, h1, _⟩ := fstI_some hk
    exact ⟨j, hj, by simp, by simpa using h1⟩
  · omega
theorem fnd_ge (l : List Thing) (id : Int) : -1 ≤ fnd l id := by unfold fnd; split <;> omega
theorem fnd_lt {l : List Thing} {id : Int} : fnd l id < l.length := by
  by_cases h : 0 ≤ fnd l id
  · obtain ⟨i, hi, e, _⟩ := fnd_some h; omega
  · omega
theorem fnd_none {l : List Thing} {id : Int} (h : fnd l id < 0) : ∀ t ∈ l, t.Id ≠ id := by
  unfold fnd at h
  split at h
  · omega
  · rename_i hk; intro t ht; simpa using fstI_none hk t ht
theorem spec_FindThing_eq (l : List Thing) (id : Int) (hl : l.length ≤ 1048576) : spec_FindThing l id = some (fnd l id) := by
  unfold spec_FindThing
  have := loopM_each' (body := spec_FindThing_L1 l id) (X := Unit) l (fun _ i => i) (fun i t _ => bif t.Id == id then .inr (i : Int) else .inl ()) (fun x => x) () (fun i hi x => ?_) (fun x => ?_) hl
  · rw [this, each_fst]
    unfold fnd
    cases h : fstI (fun t => t.Id == id) 0 l <;> simp [fin, spec_FindThing_L1_k, spec_FindThing_L1_a]
  · simp only [spec_FindThing_L1, spec_FindThing_L1_b, gi_nat hi]
    cases h : l[i].Id == id <;> simp [h, hi, ctl, w64_succ (Nat.le_of_lt (Nat.lt_of_lt_of_le hi hl))]
  · simp [spec_FindThing_L1, spec_FindThing_L1_b]
theorem impl_FindThing_eq (l : List Thing) (id : Int) (hl : l.length ≤ 1048576) : impl_FindThing l id = some (fnd l id) := spec_FindThing_eq l id hl

def inB (x a b : Int) : Bool := decide (a ≤ x) && decide (x ≤ b)
theorem within_eq (x a b : Int) : impl_within x a b = some (inB x a b) := by
  unfold impl_within inB
  cases h : decide (a ≤ x) <;> simp
theorem l1In_eq (x a b : Int) : spec_l1In x a b = some (inB x a b) := within_eq x a b
def isBx (l : List Thing) (id : Int) : Bool := decide (0 ≤ fnd l id) && (l[(fnd l id).toNat]?.getD default).Box
theorem gi_fnd {l : List Thing} {id : Int} (h : 0 ≤ fnd l id) : gi l (fnd l id) = some (l[(fnd l id).toNat]?.getD default) := by
  obtain ⟨i, hi, e, _⟩ := fnd_some h
  rw [e, gi_nat hi]; simp [hi]
theorem isBox_eq (l : List Thing) (id : Int) (hl : l.length ≤ 1048576) : impl_isBox l id = some (isBx l id) := by
  unfold impl_isBox isBx
  rw [impl_FindThing_eq l id hl]
  by_cases h : 0 ≤ fnd l id
  · simp [h, gi_fnd h]
  · simp [h]
/-- what must hold of one thing, but for its depth and its weight -/
def okT (l : List Thing) (i : Nat) (t : Thing) : Bool :=
  inB t.Id 1 9999 && (decide (i = 0) || decide ((l[i - 1]?.getD default).Id < t.Id)) && inB t.Own 1 30000 && (bif t.Box then inB t.Room 1 1000000 else (decide (t.Room = 0) && !t.Sealed)) && (decide (t.In = 0) || isBx l t.In)
theorem gi_pred {l : List Thing} {i : Nat} (hi : i < l.length) (h0 : 0 < i) (hl : l.length ≤ 1048576) : gi l (w64 ((i : Int) - 1)) = some (l[i - 1]?.getD default) := by
  rw [w64_id (by omega) (by omega), show ((i : Int) - 1) = ((i - 1 : Nat) : Int) by omega, gi_nat (by omega : i - 1 < l.length)]
  simp [show i - 1 < l.length by omega]
theorem l5One_eq (l : List Thing) (i : Nat) (hi : i < l.length) (hl : l.length ≤ 1048576) : spec_l5One l i = some (okT l i l[i]) := by
  unfold spec_l5One okT
  simp only [gi_nat hi, Option.bind_some, l1In_eq, spec_FindThing_eq l _ hl, isBx, beqI, bneI]
  generalize l[i] = t
  cases h1 : inB t.Id 1 9999 <;> simp
  rcases Nat.eq_zero_or_pos i with h0 | h0
  · subst h0
    cases inB t.Own 1 30000 <;> simp
    cases t.Box <;> simp <;> by_cases h3 : 0 ≤ fnd l t.In <;> simp [h3] <;> (try simp only [gi_fnd h3]) <;> (try cases inB t.Room 1 1000000) <;> cases t.Sealed <;> by_cases h4 : t.In = 0 <;> by_cases h5 : t.Room = 0 <;> simp [h4, h5, h3]
  · have e : decide ((i : Int) > 0) = true := by simp; omega
    have e0 : decide (i = 0) = false := by simp; omega
    simp only [gi_pred hi h0 hl, Option.bind_some]
    by_cases h2 : (l[i - 1]?.getD default).Id < t.Id
    · have h2' : ¬ (t.Id ≤ (l[i - 1]?.getD default).Id) := by omega
      simp [h0, e0, h2, h2']
      cases inB t.Own 1 30000 <;> simp
      cases t.Box <;> simp <;> by_cases h3 : 0 ≤ fnd l t.In <;> simp [h3] <;> (try simp only [gi_fnd h3]) <;> (try cases inB t.Room 1 1000000) <;> cases t.Sealed <;> by_cases h4 : t.In = 0 <;> by_cases h5 : t.Room = 0 <;> simp [h4, h5, h3]
    · have h2' : t.Id ≤ (l[i - 1]?.getD default).Id := by omega
      have h0' : ¬ i = 0 := by omega
      simp [h0, h2, h2', h0']
theorem okT_impl (l : List Thing) (i : Nat) (hi : i < l.length) (hl : l.length ≤ 1048576) : impl_areDeep_L1 l (i : Int) = some (ctl (fun (_ : Unit) i => i) i (bif okT l i l[i] then .inl () else .inr false)) := by
  have hws : w64 ((i : Int) + 1) = ((i + 1 : Nat) : Int) := w64_succ (by omega)
  unfold impl_areDeep_L1 impl_areDeep_L1_b okT
  simp only [gi_nat hi, Option.bind_some, within_eq, isBox_eq l _ hl, beqI, bneI, hws]
  generalize l[i] = t
  simp only [Int.ofNat_lt, hi, decide_true, cond_true]
  cases h1 : inB t.Id 1 9999 <;> simp [ctl]
  rcases Nat.eq_zero_or_pos i with h0 | h0
  · subst h0
    cases inB t.Own 1 30000 <;> simp
    cases t.Box <;> simp <;> cases isBx l t.In <;> (try cases inB t.Room 1 1000000) <;> cases t.Sealed <;> by_cases h4 : t.In = 0 <;> by_cases h5 : t.Room = 0 <;> simp [h4, h5]
  · have e0 : decide (i = 0) = false := by simp; omega
    simp only [gi_pred hi h0 hl, Option.bind_some]
    by_cases h2 : (l[i - 1]?.getD default).Id < t.Id
    · have h2' : ¬ (t.Id ≤ (l[i - 1]?.getD default).Id) := by omega
      simp [h0, e0, h2, h2']
      cases inB t.Own 1 30000 <;> simp
      cases t.Box <;> simp <;> cases isBx l t.In <;> (try cases inB t.Room 1 1000000) <;> cases t.Sealed <;> by_cases h4 : t.In = 0 <;> by_cases h5 : t.Room = 0 <;> simp [h4, h5]
    · have h2' : t.Id ≤ (l[i - 1]?.getD default).Id := by omega
      have h0' : ¬ i = 0 := by omega
      simp [h0, h2, h2', h0']

/-- the boxes around the k-th thing, so many at most -/
def chn (l : List Thing) : Nat → Int → List Int
  | 0, _ => []
  | n + 1, k => if 0 ≤ k then (if (l[k.toNat]?.getD default).In = 0 then [] else (l[k.toNat]?.getD default).In :: chn l n (fnd l (l[k.toNat]?.getD default).In)) else []
theorem chn_le (l : List Thing) : ∀ (n : Nat) (k : Int), (chn l n k).length ≤ n
  | 0, _ => by simp [chn]
  | n + 1, k => by
    rw [chn]
    split
    · split
      · simp
      · have := chn_le l n (fnd l (l[k.toNat]?.getD default).In); simp; omega
    · simp
theorem gi_get {l : List Thing} {k : Int} (h0 : 0 ≤ k) (h1 : k < l.length) : gi l k = some (l[k.toNat]?.getD default) := by
  rw [gi_eq h0 h1]
  have : k.toNat < l.length := by omega
  simp [this]
theorem around_loop (l : List Thing) (hl : l.length ≤ 1048576) : ∀ (n : Nat) (out : List Int) (k : Int), k < l.length → out.length + n = 5 → loopM (impl_around_L1 l) (n + 1) (out, k) = some (.inl (out ++ chn l n k))
  | 0, out, k, hk, hn => by
    rw [loopM]
    by_cases h0 : 0 ≤ k
    · by_cases h1 : (l[k.toNat]?.getD default).In = 0
      · simp [impl_around_L1, impl_around_L1_b, h0, gi_get h0 hk, bneI, h1, chn]
      · simp [impl_around_L1, impl_around_L1_b, h0, gi_get h0 hk, bneI, h1, chn, show ¬ ((out.length : Int) ≤ 4) by omega]
    · simp [impl_around_L1, impl_around_L1_b, h0, chn]
  | n + 1, out, k, hk, hn => by
    rw [loopM, chn]
    by_cases h0 : 0 ≤ k
    · by_cases h1 : (l[k.toNat]?.getD default).In = 0
      · simp [impl_around_L1, impl_around_L1_b, h0, gi_get h0 hk, bneI, h1]
      · have e := around_loop l hl n (out ++ [(l[k.toNat]?.getD default).In]) (fnd l (l[k.toNat]?.getD default).In) fnd_lt (by simp; omega)
        simp only [impl_around_L1, impl_around_L1_b, gi_get h0 hk, bneI, h1, ge_iff_le, h0, decide_true, cond_true, Option.bind_some, decide_false, Bool.not_false, show ((out.length : Int) ≤ 4) by omega, impl_FindThing_eq l _ hl]
        rw [ap_eq (by simp; omega) (by omega)]
        simp only [Option.bind_some]
        exact e.trans (by simp)
    · simp [impl_around_L1, impl_around_L1_b, h0]
theorem around_eq (l : List Thing) (id : Int) (hl : l.length ≤ 1048576) : impl_around l id = some (chn l 5 (fnd l id)) := by
  unfold impl_around
  rw [impl_FindThing_eq l id hl]
  simp only [Option.bind_some]
  rw [loopM_big (around_loop l hl 5 [] _ fnd_lt rfl) (by unfold big; omega)]
  simp [impl_around_L1_k, impl_around_L1_a]
theorem depth_loop (l : List Thing) (hl : l.length ≤ 1048576) : ∀ (n : Nat) (c k : Int), k < l.length → 0 ≤ c → c + n = 5 → loopM (spec_l5Depth_L1 l) (n + 1) (c, k) = some (.inl (c + (chn l n k).length))
  | 0, c, k, hk, hc, hn => by
    rw [loopM]
    by_cases h0 : 0 ≤ k
    · by_cases h1 : (l[k.toNat]?.getD default).In = 0
      · simp [spec_l5Depth_L1, spec_l5Depth_L1_b, h0, gi_get h0 hk, bneI, h1, chn]
      · simp [spec_l5Depth_L1, spec_l5Depth_L1_b, h0, gi_get h0 hk, bneI, h1, chn, show ¬ (c ≤ 4) by omega]
    · simp [spec_l5Depth_L1, spec_l5Depth_L1_b, h0, chn]
  | n + 1, c, k, hk, hc, hn => by
    rw [loopM, chn]
    by_cases h0 : 0 ≤ k
    · by_cases h1 : (l[k.toNat]?.getD default).In = 0
      · simp [spec_l5Depth_L1, spec_l5Depth_L1_b, h0, gi_get h0 hk, bneI, h1]
      · have e := depth_loop l hl n (c + 1) (fnd l (l[k.toNat]?.getD default).In) fnd_lt (by omega) (by omega)
        simp only [spec_l5Depth_L1, spec_l5Depth_L1_b, gi_get h0 hk, bneI, h1, ge_iff_le, h0, decide_true, cond_true, Option.bind_some, decide_false, Bool.not_false, show (c ≤ 4) by omega, spec_FindThing_eq l _ hl, w64_id (x := c + 1) (by omega) (by omega)]
        refine e.trans ?_
        simp [h1]; omega
    · simp [spec_l5Depth_L1, spec_l5Depth_L1_b, h0]
theorem depth_eq (l : List Thing) (id : Int) (hl : l.length ≤ 1048576) : spec_l5Depth l id = some ((chn l 5 (fnd l id)).length : Int) := by
  unfold spec_l5Depth
  rw [spec_FindThing_eq l id hl]
  simp only [Option.bind_some]
  rw [loopM_big (depth_loop l hl 5 0 _ fnd_lt (by omega) rfl) (by unfold big; omega)]
  simp [spec_l5Depth_L1_k, spec_l5Depth_L1_a]

/-- not too deep -/
def dpT (l : List Thing) (t : Thing) : Bool := decide ((chn l 5 (fnd l t.Id)).length ≤ 4)
/-- right, but for the weights -/
def deepB (l : List Thing) : Bool := allI (okT l) 0 l && allI (fun _ => dpT l) 0 l && decide (l.length ≤ 40)
theorem areDeep_eq (l : List Thing) (hl : l.length ≤ 1048576) : impl_areDeep l = some (deepB l) := by
  unfold impl_areDeep
  have h1 := loopM_each' (body := impl_areDeep_L1 l) (X := Unit) l (fun _ i => i) (fun i t _ => bif okT l i t then .inl () else .inr false) (fun x => x) () (fun i hi x => okT_impl l i hi hl) (fun x => by simp [impl_areDeep_L1, impl_areDeep_L1_b]) hl
  have h2 := loopM_each' (body := impl_areDeep_L2 l) (X := Unit) l (fun _ i => i) (fun i t _ => bif dpT l t then .inl () else .inr false) (fun x => x) () (fun i hi x => by
    simp only [impl_areDeep_L2, impl_areDeep_L2_b, gi_nat hi, around_eq l _ hl, Option.bind_some, dpT, Int.ofNat_lt, hi, decide_true, cond_true, w64_succ (Nat.le_of_lt (Nat.lt_of_lt_of_le hi hl))]
    by_cases h : (chn l 5 (fnd l l[i].Id)).length ≤ 4
    · simp [h, ctl, show ¬ (4 < ((chn l 5 (fnd l l[i].Id)).length : Int)) by omega]
    · simp [h, ctl, show (4 < ((chn l 5 (fnd l l[i].Id)).length : Int)) by omega]) (fun x => by simp [impl_areDeep_L2, impl_areDeep_L2_b]) hl
  rw [each_all (okT l)] at h1
  rw [each_all (fun _ => dpT l)] at h2
  rw [h1]
  unfold deepB
  cases allI (okT l) 0 l with
  | false => simp [fin, impl_areDeep_L1_k]
  | true =>
    simp only [cond_true, fin, Option.bind_some, impl_areDeep_L1_k, impl_areDeep_L1_a, h2]
    cases allI (fun _ => dpT l) 0 l with
    | false => simp [fin, impl_areDeep_L2_k]
    | true =>
      simp [fin, impl_areDeep_L2_k, impl_areDeep_L2_a]
      omega
structure Right (l : List Thing) : Prop where
  ok : ∀ i (h : i < l.length), okT l i l[i] = true
  len : l.length ≤ 40
theorem Right.of_deep {l : List Thing} (h : deepB l = true) : Right l ∧ ∀ t ∈ l, dpT l t = true := by
  unfold deepB at h
  simp only [Bool.and_eq_true, decide_eq_true_eq] at h
  obtain ⟨⟨h1, h2⟩, h3⟩ := h
  refine ⟨⟨fun i hi => by simpa using allI_iff.1 h1 i hi, h3⟩, fun t ht => ?_⟩
  obtain ⟨i, hi, rfl⟩ := List.getElem_of_mem ht
  simpa using allI_iff.1 h2 i hi
theorem Right.id_pos {l : List Thing} (R : Right l) (i : Nat) (h : i < l.length) : 1 ≤ l[i].Id ∧ l[i].Id ≤ 9999 := by
  have := R.ok i h
  simp only [okT, inB, Bool.and_eq_true, decide_eq_true_eq] at this
  exact this.1.1.1.1
theorem Right.own {l : List Thing} (R : Right l) (i : Nat) (h : i < l.length) : 1 ≤ l[i].Own ∧ l[i].Own ≤ 30000 := by
  have := R.ok i h
  simp only [okT, inB, Bool.and_eq_true, decide_eq_true_eq] at this
  exact this.1.1.2
theorem Right.inn {l : List Thing} (R : Right l) (i : Nat) (h : i < l.length) : l[i].In = 0 ∨ isBx l l[i].In = true := by
  have := R.ok i h
  simp only [okT, Bool.and_eq_true, Bool.or_eq_true, decide_eq_true_eq] at this
  exact this.2
theorem Right.succ {l : List Thing} (R : Right l) (i : Nat) (h : i + 1 < l.length) : l[i].Id < l[i + 1].Id := by
  have := R.ok (i + 1) h
  simp only [okT, Bool.and_eq_true, Bool.or_eq_true, decide_eq_true_eq] at this
  have h2 := this.1.1.1.2
  simp at h2
  simpa [show i < l.length by omega] using h2
theorem Right.lt {l : List Thing} (R : Right l) : ∀ (i d : Nat) (h : i + d + 1 < l.length), l[i].Id < l[i + d + 1].Id
  | i, 0, h => R.succ i h
  | i, d + 1, h => Int.lt_trans (R.lt i d (by omega)) (R.succ (i + d + 1) h)
theorem Right.inj {l : List Thing} (R : Right l) {i j : Nat} (hi : i < l.length) (hj : j < l.length) (e : l[i].Id = l[j].Id) : i = j := by
  rcases Nat.lt_trichotomy i j with h | h | h
  · have := R.lt i (j - i - 1) (by omega)
    simp only [show i + (j - i - 1) + 1 = j by omega] at this
    omega
  · exact h
  · have := R.lt j (i - j - 1) (by omega)
    simp only [show j + (i - j - 1) + 1 = i by omega] at this
    omega
theorem Right.fnd {l : List Thing} (R : Right l) (i : Nat) (h : i < l.length) : Sx.fnd l l[i].Id = (i : Int) := by
  have h0 : 0 ≤ Sx.fnd l l[i].Id := by
    apply Classical.byContradiction
    intro hn
    exact fnd_none (by omega) l[i] (List.getElem_mem h) rfl
  obtain ⟨j, hj, e, h1⟩ := fnd_some h0
  rw [e, R.inj hj h h1]
theorem Right.l20 {l : List Thing} (R : Right l) : l.length ≤ 1048576 := by have := R.len; omega
theorem getD_get {l : List Thing} {i : Nat} (h : i < l.length) : l[i]?.getD default = l[i] := by simp [h]
theorem isBx_spec {l : List Thing} {id : Int} (h : isBx l id = true) : ∃ i, ∃ hi : i < l.length, Sx.fnd l id = (i : Int) ∧ l[i].Id = id ∧ l[i].Box = true := by
  simp only [isBx, Bool.and_eq_true, decide_eq_true_eq] at h
  obtain ⟨i, hi, e, h1⟩ := fnd_some h.1
  refine ⟨i, hi, e, h1, ?_⟩
  have := h.2
  rw [e] at this
  simpa [hi] using this

/-- the gross weight of the k-th thing, so deep at most -/
def grs (l : List Thing) : Nat → Nat → Int
  | 0, _ => 0
  | n + 1, k => (l[k]?.getD default).Own + ((List.range l.length).map fun i => if (l[i]?.getD default).In = (l[k]?.getD default).Id then grs l n i else 0).sum
def gB : Nat → Int
  | 0 => 0
  | n + 1 => 30000 + 40 * gB n
/-- part of the sum -/
def grsP (l : List Thing) (n : Nat) (id : Int) (m : Nat) : Int := ((List.range m).map fun i => if (l[i]?.getD default).In = id then grs l n i else 0).sum
theorem grsP_succ (l : List Thing) (n : Nat) (id : Int) (m : Nat) : grsP l n id (m + 1) = grsP l n id m + if (l[m]?.getD default).In = id then grs l n m else 0 := by
  simp [grsP, List.range_succ]
theorem gB_nn : ∀ n, 0 ≤ gB n
  | 0 => by simp [gB]
  | n + 1 => by have := gB_nn n; simp only [gB]; omega
theorem gB_mono : ∀ n m, n ≤ m → gB n ≤ gB m
  | _, 0, h => by simp at h; subst h; omega
  | 0, m + 1, _ => gB_nn _
  | n + 1, m + 1, h => by have := gB_mono n m (by omega); simp only [gB]; omega
theorem grs_bd {l : List Thing} (R : Right l) : ∀ (n k : Nat), k < l.length → 0 ≤ grs l n k ∧ grs l n k ≤ gB n
  | 0, _, _ => by simp [grs, gB]
  | n + 1, k, hk => by
    have ho := R.own k hk
    have key : ∀ m id, m ≤ l.length → 0 ≤ grsP l n id m ∧ grsP l n id m ≤ m * gB n := by
      intro m id
      induction m with
      | zero => intro _; simp [grsP]
      | succ m ih =>
        intro hm
        have h1 := ih (by omega)
        have h2 := grs_bd R n m (by omega)
        have h3 := gB_nn n
        rw [grsP_succ, show ((m + 1 : Nat) : Int) * gB n = m * gB n + gB n by rw [Int.natCast_add]; simp [Int.add_mul]]
        split <;> omega
    have h1 := key l.length (l[k]?.getD default).Id (Nat.le_refl _)
    have h2 : (l.length : Int) * gB n ≤ 40 * gB n := Int.mul_le_mul_of_nonneg_right (by have := R.len; omega) (gB_nn n)
    rw [getD_get hk] at h1
    simp only [grsP] at h1
    simp only [grs, gB, getD_get hk]
    omega
theorem grsP_bd {l : List Thing} (R : Right l) (n : Nat) (id : Int) : ∀ m, m ≤ l.length → 0 ≤ grsP l n id m ∧ grsP l n id m ≤ 40 * gB n := by
  have key : ∀ m, m ≤ l.length → 0 ≤ grsP l n id m ∧ grsP l n id m ≤ m * gB n := by
    intro m
    induction m with
    | zero => intro _; simp [grsP]
    | succ m ih =>
      intro hm
      have h1 := ih (by omega)
      have h2 := grs_bd R n m (by omega)
      have h3 := gB_nn n
      rw [grsP_succ, show ((m + 1 : Nat) : Int) * gB n = m * gB n + gB n by rw [Int.natCast_add]; simp [Int.add_mul]]
      split <;> omega
  intro m hm
  have h1 := key m hm
  have h2 : (m : Int) * gB n ≤ 40 * gB n := Int.mul_le_mul_of_nonneg_right (by have := R.len; omega) (gB_nn n)
  omega
theorem gB5 : gB 5 = 79303230000 ∨ True := .inr trivial
/-- the depth of a child is one more -/
theorem chn_child {l : List Thing} (R : Right l) {i k : Nat} (hi : i < l.length) (hk : k < l.length) (h : l[i].In = l[k].Id) (n : Nat) : chn l (n + 1) i = l[k].Id :: chn l n k := by
  have := R.id_pos k hk
  rw [chn, if_pos (by omega)]
  simp only [Int.toNat_natCast, getD_get hi, h]
  rw [if_neg (by omega), R.fnd k hk]
def dpN (l : List Thing) (k : Nat) : Nat := (chn l 5 (k : Int)).length
theorem chn_fix {l : List Thing} : ∀ (n m : Nat) (k : Int), (chn l n k).length < n → chn l (n + m) k = chn l n k
  | 0, _, _, h => by simp [chn] at h
  | n + 1, m, k, h => by
    rw [show n + 1 + m = (n + m) + 1 by omega, chn, chn]
    rw [chn] at h
    split
    · rename_i h0
      rw [if_pos h0] at h
      split
      · rfl
      · rename_i h1
        rw [if_neg h1] at h
        rw [chn_fix n m _ (by simpa using h)]
    · rfl
theorem dpN_child {l : List Thing} (R : Right l) {i k : Nat} (hi : i < l.length) (hk : k < l.length) (h : l[i].In = l[k].Id) (hd : dpN l k ≤ 4) : dpN l i = dpN l k + 1 ∨ 5 ≤ dpN l i := by
  unfold dpN at *
  rw [chn_child R hi hk h 4]
  by_cases h4 : (chn l 4 k).length < 4
  · rw [chn_fix 4 1 _ h4]; exact .inl (by simp)
  · have := chn_le l 4 k
    exact .inr (by simp; omega)
def DpAll (l : List Thing) : Prop := ∀ k, k < l.length → dpN l k ≤ 4
theorem Right.dpAll {l : List Thing} (R : Right l) (h : ∀ t ∈ l, dpT l t = true) : DpAll l := fun k hk => by
  have := h l[k] (List.getElem_mem hk)
  simp only [dpT, R.fnd k hk, decide_eq_true_eq] at this
  exact this
theorem gB4 : ∀ n, n ≤ 4 → gB n ≤ gB 4 := fun n h => gB_mono n 4 h
theorem grs_eq {l : List Thing} (R : Right l) (k n : Nat) (hk : k < l.length) : grs l (n + 1) k = l[k].Own + grsP l n l[k].Id l.length := by
  simp only [grs, grsP, getD_get hk]
theorem impl_gross_eq {l : List Thing} (R : Right l) (D : DpAll l) : ∀ (n : Nat), n ≤ 5 → ∀ (k : Nat) (hk : k < l.length), 5 ≤ dpN l k + n → ∀ m, n ≤ m → impl_gross_n m l k = some (grs l n k)
  | 0, _, k, hk, h, _, _ => by have := D k hk; omega
  | n + 1, hn, k, hk, h, 0, hm => by omega
  | n + 1, hn, k, hk, h, m + 1, hm => by
    have ho := R.own k hk
    rw [impl_gross_n, impl_gross_F, gi_nat hk, grs_eq R k n hk]
    simp only [Option.bind_some]
    have hb4 := gB4 n (by omega)
    have e4' : gB 4 ≤ 2000000000 := by simp [gB]
    have hlp := loop_val (body := impl_gross_L1 (impl_gross_n m) l k) l.length (fun i => (l[k].Own + grsP l n l[k].Id i, (i : Int))) (l[k].Own + grsP l n l[k].Id l.length) R.l20 (fun i hi => ?_) ?_
    · simp only [show grsP l n l[k].Id 0 = 0 from rfl, Int.add_zero] at hlp
      rw [show ((0 : Nat) : Int) = 0 from rfl] at hlp
      rw [hlp]
      simp [impl_gross_L1_k, impl_gross_L1_a]
    · show _ = some (Ctl.next (l[k].Own + grsP l n l[k].Id (i + 1), ((i + 1 : Nat) : Int)))
      have b1 := grsP_bd R n l[k].Id i (by omega)
      have b2 := grsP_bd R n l[k].Id (i + 1) (by omega)
      rw [grsP_succ]
      rw [grsP_succ] at b2
      simp only [impl_gross_L1, impl_gross_L1_b, gi_nat hi, gi_nat hk, Option.bind_some, beqI, Int.ofNat_lt, hi, decide_true, cond_true, getD_get hi, w64_succ (Nat.le_of_lt (Nat.lt_of_lt_of_le hi R.l20))]
      rw [getD_get hi] at b2
      by_cases hin : l[i].In = l[k].Id
      · have hd := dpN_child R hi hk hin (D k hk)
        have hi4 := D i hi
        rw [impl_gross_eq R D n (by omega) i hi (by omega) m (by omega)]
        simp only [hin, decide_true, cond_true, Option.bind_some, if_true] at b2 ⊢
        rw [w64_id (by omega) (by omega)]
        simp only [Int.add_assoc]
      · simp [hin]
    · simp [impl_gross_L1, impl_gross_L1_b]
theorem spec_gross_eq {l : List Thing} (R : Right l) (D : DpAll l) : ∀ (n : Nat), n ≤ 5 → ∀ (k : Nat) (hk : k < l.length), 5 ≤ dpN l k + n → ∀ m, n ≤ m → ∀ d : Int, n ≤ d + 1 → d ≤ 5 → spec_l5Gross_n m l l[k].Id d = some (grs l n k)
  | 0, _, k, hk, h, _, _, d, _, _ => by have := D k hk; omega
  | n + 1, hn, k, hk, h, 0, hm, d, _, _ => by omega
  | n + 1, hn, k, hk, h, m + 1, hm, d, hd, hd5 => by
    have ho := R.own k hk
    rw [spec_l5Gross_n, spec_l5Gross_F, spec_FindThing_eq l _ R.l20, R.fnd k hk, grs_eq R k n hk]
    simp only [Option.bind_some, gi_nat hk, show ¬ ((k : Int) < 0) by omega, show ¬ (d < 0) by omega, decide_false, cond_false]
    have hb4 := gB4 n (by omega)
    have e4' : gB 4 ≤ 2000000000 := by simp [gB]
    have hlp := loop_val (body := spec_l5Gross_L1 (spec_l5Gross_n m) l l[k].Id d) l.length (fun i => (l[k].Own + grsP l n l[k].Id i, (i : Int))) (l[k].Own + grsP l n l[k].Id l.length) R.l20 (fun i hi => ?_) ?_
    · simp only [show grsP l n l[k].Id 0 = 0 from rfl, Int.add_zero] at hlp
      rw [show ((0 : Nat) : Int) = 0 from rfl] at hlp
      rw [hlp]
      simp [spec_l5Gross_L1_k, spec_l5Gross_L1_a]
    · show _ = some (Ctl.next (l[k].Own + grsP l n l[k].Id (i + 1), ((i + 1 : Nat) : Int)))
      have b1 := grsP_bd R n l[k].Id i (by omega)
      have b2 := grsP_bd R n l[k].Id (i + 1) (by omega)
      rw [grsP_succ]
      rw [grsP_succ] at b2
      simp only [spec_l5Gross_L1, spec_l5Gross_L1_b, gi_nat hi, gi_nat hk, Option.bind_some, beqI, Int.ofNat_lt, hi, decide_true, cond_true, getD_get hi, w64_succ (Nat.le_of_lt (Nat.lt_of_lt_of_le hi R.l20))]
      rw [getD_get hi] at b2
      by_cases hin : l[i].In = l[k].Id
      · have hdd := dpN_child R hi hk hin (D k hk)
        have hi4 := D i hi
        rw [w64_id (x := d - 1) (by omega) (by omega), spec_gross_eq R D n (by omega) i hi (by omega) m (by omega) (d - 1) (by omega) (by omega)]
        simp only [hin, decide_true, cond_true, Option.bind_some, if_true] at b2 ⊢
        rw [w64_id (by omega) (by omega)]
        simp only [Int.add_assoc]
      · simp [hin]
    · simp [spec_l5Gross_L1, spec_l5Gross_L1_b]
theorem impl_gross5 {l : List Thing} (R : Right l) (D : DpAll l) (k : Nat) (hk : k < l.length) : impl_gross l k = some (grs l 5 k) :=
  impl_gross_eq R D 5 (Nat.le_refl _) k hk (by omega) big (by unfold big; omega)
theorem spec_gross5 {l : List Thing} (R : Right l) (D : DpAll l) (k : Nat) (hk : k < l.length) : spec_l5Gross l l[k].Id 5 = some (grs l 5 k) :=
  spec_gross_eq R D 5 (Nat.le_refl _) k hk (by omega) big (by unfold big; omega) 5 (by omega) (by omega)

/-- the room is enough -/
def roomT (l : List Thing) (i : Nat) (t : Thing) : Bool := !t.Box || decide (grs l 5 i - t.Own ≤ t.Room)
def areB (l : List Thing) : Bool := deepB l && allI (roomT l) 0 l
theorem grs5_bd {l : List Thing} (R : Right l) (k : Nat) (hk : k < l.length) : 0 ≤ grs l 5 k ∧ grs l 5 k ≤ 80000000000 := by
  have := grs_bd R 5 k hk
  have e : gB 5 ≤ 80000000000 := by simp [gB]
  omega
theorem impl_AreThings_eq (l : List Thing) (hl : l.length ≤ 1048576) : impl_AreThings l = some (areB l) := by
  unfold impl_AreThings
  by_cases h40 : l.length ≤ 40
  · rw [areDeep_eq l hl]
    simp only [show ¬ ((l.length : Int) > 40) by omega, decide_false, cond_false, Option.bind_some, areB]
    cases hd : deepB l with
    | false => simp
    | true =>
      obtain ⟨R, ht⟩ := Right.of_deep hd
      have D := R.dpAll ht
      have h1 := loopM_each' (body := impl_AreThings_L1 l) (X := Unit) l (fun _ i => i) (fun i t _ => bif roomT l i t then .inl () else .inr false) (fun x => x) () (fun i hi x => by
        have b := grs5_bd R i hi
        have ho := R.own i hi
        simp only [impl_AreThings_L1, impl_AreThings_L1_b, gi_nat hi, Option.bind_some, Int.ofNat_lt, hi, decide_true, cond_true, impl_gross5 R D i hi, roomT, w64_succ (Nat.le_of_lt (Nat.lt_of_lt_of_le hi hl)), w64_id (x := grs l 5 i - l[i].Own) (by omega) (by omega)]
        cases l[i].Box with
        | false => simp [ctl]
        | true =>
          by_cases hr : grs l 5 i - l[i].Own ≤ l[i].Room
          · simp [ctl, hr, show ¬ (l[i].Room < grs l 5 i - l[i].Own) by omega]
          · simp [ctl, hr, show (l[i].Room < grs l 5 i - l[i].Own) by omega]) (fun x => by simp [impl_AreThings_L1, impl_AreThings_L1_b]) hl
      rw [each_all (roomT l)] at h1
      simp only [Bool.not_true, cond_false, h1, Option.bind_some, Bool.true_and]
      cases allI (roomT l) 0 l <;> simp [fin, impl_AreThings_L1_k, impl_AreThings_L1_a]
  · simp only [show ((l.length : Int) > 40) by omega, decide_true, cond_true, areB, deepB, h40, decide_false, Bool.and_false, Bool.false_and]
theorem spec_AreThings_eq (l : List Thing) (hl : l.length ≤ 1048576) : spec_AreThings l = some (areB l) := by
  unfold spec_AreThings
  by_cases h40 : l.length ≤ 40
  · simp only [show ¬ ((l.length : Int) > 40) by omega, decide_false, cond_false]
    have h1 := loopM_each' (body := spec_AreThings_L1 l) (X := Unit) l (fun _ i => i) (fun i t _ => bif okT l i t && dpT l t then .inl () else .inr false) (fun x => x) () (fun i hi x => by
      simp only [spec_AreThings_L1, spec_AreThings_L1_b, gi_nat hi, Option.bind_some, Int.ofNat_lt, hi, decide_true, cond_true, l5One_eq l i hi hl, depth_eq l _ hl, dpT, w64_succ (Nat.le_of_lt (Nat.lt_of_lt_of_le hi hl))]
      cases okT l i l[i] with
      | false => simp [ctl]
      | true =>
        by_cases hr : (chn l 5 (fnd l l[i].Id)).length ≤ 4
        · simp [ctl, hr, show ¬ (4 < ((chn l 5 (fnd l l[i].Id)).length : Int)) by omega]
        · simp [ctl, hr, show (4 < ((chn l 5 (fnd l l[i].Id)).length : Int)) by omega]) (fun x => by simp [spec_AreThings_L1, spec_AreThings_L1_b]) hl
    rw [each_all (fun i t => okT l i t && dpT l t)] at h1
    have hsp : allI (fun i t => okT l i t && dpT l t) 0 l = deepB l := by
      rw [Bool.eq_iff_iff]
      simp only [deepB, Bool.and_eq_true, allI_iff, decide_eq_true_eq, h40, and_true]
      exact ⟨fun H => ⟨fun j hj => (H j hj).1, fun j hj => (H j hj).2⟩, fun H j hj => ⟨H.1 j hj, H.2 j hj⟩⟩
    rw [hsp] at h1
    rw [h1]
    unfold areB
    cases hd : deepB l with
    | false => simp [fin, spec_AreThings_L1_k]
    | true =>
      obtain ⟨R, ht⟩ := Right.of_deep hd
      have D := R.dpAll ht
      have h2 := loopM_each' (body := spec_AreThings_L2 l) (X := Unit) l (fun _ i => i) (fun i t _ => bif roomT l i t then .inl () else .inr false) (fun x => x) () (fun i hi x => by
        have b := grs5_bd R i hi
        have ho := R.own i hi
        simp only [spec_AreThings_L2, spec_AreThings_L2_b, spec_l5Load, gi_nat hi, Option.bind_some, Int.ofNat_lt, hi, decide_true, cond_true, spec_gross5 R D i hi, spec_FindThing_eq l _ hl, R.fnd i hi, roomT, w64_succ (Nat.le_of_lt (Nat.lt_of_lt_of_le hi hl)), w64_id (x := grs l 5 i - l[i].Own) (by omega) (by omega)]
        cases l[i].Box with
        | false => simp [ctl]
        | true =>
          by_cases hr : grs l 5 i - l[i].Own ≤ l[i].Room
          · simp [ctl, hr, show ¬ (l[i].Room < grs l 5 i - l[i].Own) by omega]
          · simp [ctl, hr, show (l[i].Room < grs l 5 i - l[i].Own) by omega]) (fun x => by simp [spec_AreThings_L2, spec_AreThings_L2_b]) hl
      rw [each_all (roomT l)] at h2
      simp only [fin, cond_true, Option.bind_some, spec_AreThings_L1_k, spec_AreThings_L1_a, h2, Bool.true_and]
      cases allI (roomT l) 0 l <;> simp [fin, spec_AreThings_L2_k, spec_AreThings_L2_a]
  · simp only [show ((l.length : Int) > 40) by omega, decide_true, cond_true, areB, deepB, h40, decide_false, Bool.and_false, Bool.false_and]
end Go.Sx
