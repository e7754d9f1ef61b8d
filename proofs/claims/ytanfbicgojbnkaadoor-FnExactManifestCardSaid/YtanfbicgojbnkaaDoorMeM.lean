/- Manifests: what the program and the reference write, as plain text. -/
import Derived.Test.YtanfbicgojbnkaaDoorMeN
import Derived.Test.YtanfbicgojbnkaaDoorMeI
namespace Go.Sx
set_option linter.unusedVariables false

/-- the things among the first m that are directly in a box -/
def kids (l : List Thing) (id : Int) (m : Nat) : List Nat := (List.range m).filter fun i => decide ((th l i).In = id)
theorem kids_succ (l : List Thing) (id : Int) (m : Nat) : kids l id (m + 1) = kids l id m ++ if (th l m).In = id then [m] else [] := by
  unfold kids
  rw [List.range_succ, List.filter_append]
  congr 1
  by_cases h : (th l m).In = id <;> simp [h]
theorem kids_mem {l : List Thing} {id : Int} {m c : Nat} : c ∈ kids l id m ↔ c < m ∧ (th l c).In = id := by
  unfold kids; simp
theorem kids_ins (l : List Thing) (id : Int) : ∀ m, m ≤ l.length → ((l.take m).filter fun t => t.In == id).map (·.Id) = (kids l id m).map fun i => (th l i).Id
  | 0, _ => rfl
  | m + 1, h => by
    have hm : m < l.length := by omega
    rw [kids_succ, List.take_add_one, List.getElem?_eq_getElem hm, List.filter_append, List.map_append, List.map_append, kids_ins l id m (by omega)]
    congr 1
    by_cases h1 : l[m].In = id <;> simp [th, hm, h1]
def joinS : List (List UInt8) → List UInt8
  | [] => []
  | a :: r => a ++ match r with
    | [] => []
    | _ :: _ => 32 :: joinS r
theorem joinS_snoc (a : List UInt8) : ∀ (L : List (List UInt8)), joinS (L ++ [a]) = if L = [] then a else joinS L ++ 32 :: a
  | [] => by simp [joinS]
  | [b] => by simp [joinS]
  | b :: c :: r => by
    have := joinS_snoc a (c :: r)
    simp only [List.cons_append, joinS, reduceCtorEq, if_false] at this ⊢
    rw [this]
    simp
theorem joinS_cons (a : List UInt8) (r : List (List UInt8)) : joinS (a :: r) = a ++ if r = [] then [] else 32 :: joinS r := by
  cases r <;> simp [joinS]
theorem joinS_len : ∀ (L : List (List UInt8)), (joinS L).length ≤ (L.map fun a => a.length + 1).sum
  | [] => by simp [joinS]
  | a :: r => by
    have := joinS_len r
    rw [joinS_cons, List.map_cons, List.sum_cons, List.length_append]
    split
    · simp; omega
    · simp; omega
/-- the manifest of the k-th thing -/
def txt (l : List Thing) : Nat → Nat → List UInt8
  | 0, _ => []
  | n + 1, k => dd (th l k).Id.toNat ++ if (th l k).Box then 91 :: (joinS ((kids l (th l k).Id l.length).map (txt l n)) ++ [93]) else []
/-- the things of a manifest, each with its box -/
def prs (l : List Thing) : Nat → Nat → Int → List Pair
  | 0, _, _ => []
  | n + 1, k, inn => ⟨(th l k).Id, inn⟩ :: if (th l k).Box then (kids l (th l k).Id l.length).flatMap (fun c => prs l n c (th l k).Id) else []

section
variable {l : List Thing} (R : Right l) (D : DpAll l)
include R
theorem kid_box {k c : Nat} (hk : k < l.length) (hc : c < l.length) (h : (th l c).In = (th l k).Id) : (th l k).Box = true := by
  have hp := th_pos R hk
  have h1 := R.inn c hc
  rw [← th_get hc, h] at h1
  obtain ⟨j, hj, _, hjd, hb⟩ := isBx_spec (h1.resolve_left (by omega))
  have : j = k := R.inj hj hk (by rw [hjd, th_get hk])
  subst this
  rw [th_get hk]; exact hb
include D
theorem kid_deep {k c n : Nat} (hk : k < l.length) (hc : c < l.length) (h : (th l c).In = (th l k).Id) (hn : 5 ≤ dpN l k + (n + 1)) : 5 ≤ dpN l c + n := by
  rw [th_get hc, th_get hk] at h
  have hd := dpN_child R hc hk h (D k hk)
  omega
omit R D in
theorem flat_kids : ∀ (m : Nat) (id : Int) (F : Nat → List Pair) (G : Nat → Int), m ≤ l.length → (∀ c, c < m → (th l c).In = id → ((F c).length : Int) = G c) → ((((kids l id m).flatMap F).length : Nat) : Int) = sm m fun c => if (th l c).In = id then G c else 0
  | 0, id, F, G, _, _ => rfl
  | m + 1, id, F, G, hm, h => by
    rw [kids_succ, List.flatMap_append, List.length_append, sm, ← flat_kids m id F G (by omega) (fun c hc => h c (by omega))]
    by_cases h1 : (th l m).In = id
    · have := h m (by omega) h1
      simp [h1, this]
    · simp [h1]
theorem prs_len : ∀ (n k : Nat), k < l.length → 5 ≤ dpN l k + n → ∀ inn, (((prs l n k inn).length : Nat) : Int) = 1 + sm l.length fun t => inc (th l k).Id (anc l t)
  | 0, k, hk, h, _ => by have := D k hk; omega
  | n + 1, k, hk, h, inn => by
    have hs : (sm l.length fun t => inc (th l k).Id (anc l t)) = sm l.length fun c => if (th l c).In = (th l k).Id then 1 + sm l.length fun t => inc (th l c).Id (anc l t) else 0 := by
      rw [sm_congr (fun t ht => inc_parts R D hk t ht), sm_add, sm_comm]
      rw [← sm_add]
      refine sm_congr fun d hd => ?_
      by_cases h1 : (th l d).In = (th l k).Id
      · simp [h1]
      · simp only [h1, if_false]
        rw [sm_zero]; rfl
    rw [hs, prs, List.length_cons]
    have hkid : ∀ c, c < l.length → (th l c).In = (th l k).Id → (((prs l n c (th l k).Id).length : Nat) : Int) = 1 + sm l.length fun t => inc (th l c).Id (anc l t) := fun c hc h1 => prs_len n c hc (kid_deep R D hk hc h1 h) _
    cases hb : (th l k).Box with
    | true =>
      have := flat_kids l.length (th l k).Id (fun c => prs l n c (th l k).Id) (fun c => 1 + sm l.length fun t => inc (th l c).Id (anc l t)) (Nat.le_refl _) hkid
      simp only [if_true]
      rw [← this]
      omega
    | false =>
      rw [sm_zero' fun c hc => by
        rw [if_neg]
        intro h1
        rw [kid_box R hk hc h1] at hb; cases hb]
      simp
theorem prs_le (n k : Nat) (hk : k < l.length) (h : 5 ≤ dpN l k + n) (inn : Int) : (prs l n k inn).length ≤ 40 := by
  have h1 := prs_len R D n k hk h inn
  have h2 : (sm l.length fun t => inc (th l k).Id (anc l t) + if t = k then 1 else 0) ≤ sm l.length fun _ => 1 := sm_le fun t ht => by
    by_cases htk : t = k
    · subst htk
      have := anc_self R D hk
      simp [inc, this]
    · simp only [htk, if_false]
      unfold inc
      split <;> omega
  rw [sm_add, sm_one hk] at h2
  have h3 : (sm l.length fun _ => (1 : Int)) = l.length := by
    generalize l.length = m
    induction m with
    | zero => rfl
    | succ m ih => rw [sm, ih]; omega
  have := R.len
  omega
theorem txt_len : ∀ (n k : Nat), k < l.length → 5 ≤ dpN l k + n → ∀ inn, (txt l n k).length + 1 ≤ 7 * (prs l n k inn).length
  | 0, k, hk, h, _ => by have := D k hk; omega
  | n + 1, k, hk, h, inn => by
    have hid := R.id_pos k hk
    rw [← th_get hk] at hid
    have hdd := dd_len 3 (th l k).Id.toNat (Nat.lt_of_le_of_lt (show (th l k).Id.toNat ≤ 9999 by omega) (by decide))
    rw [txt, prs, List.length_append, List.length_cons]
    cases hb : (th l k).Box with
    | false => simp; omega
    | true =>
      simp only [if_true, List.length_cons, List.length_append]
      have hj := joinS_len ((kids l (th l k).Id l.length).map (txt l n))
      have hsum : ∀ (K : List Nat), (∀ c ∈ K, c < l.length ∧ (th l c).In = (th l k).Id) → (((K.map (txt l n)).map fun a => a.length + 1).sum) ≤ 7 * (K.flatMap (fun c => prs l n c (th l k).Id)).length := by
        intro K
        induction K with
        | nil => intro _; simp
        | cons c K ih =>
          intro hK
          have h1 := ih (fun c hc => hK c (by simp [hc]))
          have hc := hK c (by simp)
          have h2 := txt_len n c hc.1 (kid_deep R D hk hc.1 hc.2 h) (th l k).Id
          simp only [List.map_cons, List.sum_cons, List.flatMap_cons, List.length_append]
          omega
      have h3 := hsum (kids l (th l k).Id l.length) (fun c hc => kids_mem.1 hc)
      simp only [List.length_nil]
      omega
theorem txt_le (n k : Nat) (hk : k < l.length) (h : 5 ≤ dpN l k + n) : (txt l n k).length ≤ 279 := by
  have h1 := txt_len R D n k hk h 0
  have h2 := prs_le R D n k hk h 0
  omega
theorem txtP_le {n k : Nat} (hk : k < l.length) (h : 5 ≤ dpN l k + (n + 1)) (m : Nat) (hm : m ≤ l.length) : (joinS ((kids l (th l k).Id m).map (txt l n))).length ≤ 11200 := by
  have hl := R.len
  have hj := joinS_len ((kids l (th l k).Id m).map (txt l n))
  have hsum : ∀ (K : List Nat), (∀ c ∈ K, c < l.length ∧ (th l c).In = (th l k).Id) → (((K.map (txt l n)).map fun a => a.length + 1).sum) ≤ 280 * K.length := by
    intro K
    induction K with
    | nil => intro _; simp
    | cons c K ih =>
      intro hK
      have h1 := ih (fun c hc => hK c (by simp [hc]))
      have hc := hK c (by simp)
      have h2 := txt_le R D n c hc.1 (kid_deep R D hk hc.1 hc.2 h)
      simp only [List.map_cons, List.sum_cons, List.length_cons]
      omega
  have h3 := hsum (kids l (th l k).Id m) (fun c hc => ⟨by have := (kids_mem.1 hc).1; omega, (kids_mem.1 hc).2⟩)
  have h4 : (kids l (th l k).Id m).length ≤ m := by
    unfold kids
    exact Nat.le_trans (List.length_filter_le _ _) (by simp)
  omega
end

theorem cat_sm (a b : List UInt8) (h : a.length + b.length ≤ 1000000) : catM (bs a) (bs b) = some (bs (a ++ b)) := cat_bs a b (Nat.le_trans h (by decide))
theorem bs_nil : (ByteArray.mk #[]) = bs [] := rfl
theorem id_nat {l : List Thing} (R : Right l) {k : Nat} (hk : k < l.length) : (th l k).Id = (((th l k).Id.toNat : Nat) : Int) ∧ (th l k).Id.toNat ≤ 9999 := by
  have := R.id_pos k hk
  rw [← th_get hk] at this
  omega
theorem fnd_th {l : List Thing} (R : Right l) {k : Nat} (hk : k < l.length) : fnd l (th l k).Id = (k : Int) := by rw [th_get hk]; exact R.fnd k hk
theorem isBx_th {l : List Thing} (R : Right l) {k : Nat} (hk : k < l.length) : isBx l (th l k).Id = (th l k).Box := by
  unfold isBx
  rw [fnd_th R hk]
  simp
theorem bS {α β : Type} (a : α) (f : α → Option β) : Option.bind (some a) f = f a := by simp
theorem cT {α : Type} (a b : α) : (bif true then a else b) = a := by simp
theorem cF {α : Type} (a b : α) : (bif false then a else b) = b := by simp
theorem nT : (!true) = false := by simp
theorem nF : (!false) = true := by simp
theorem iT {α : Type} (a b : α) : (if true = true then a else b) = a := by simp
theorem iF {α : Type} (a b : α) : (if false = true then a else b) = b := by simp
theorem impl_man_step {l : List Thing} (hA : areB l = true) (n k m : Nat) (hk : k < l.length) (h : 5 ≤ dpN l k + (n + 1)) (ih : ∀ c, c < l.length → 5 ≤ dpN l c + n → impl_Manifest_n m l (th l c).Id = some (bs (txt l n c))) : impl_Manifest_F (impl_Manifest_n m) l (th l k).Id = some (bs (txt l (n + 1) k)) := by
  obtain ⟨R, D⟩ := Right.of_are hA
  have hl := R.l20
  have hlen := R.len
  obtain ⟨hid, hidb⟩ := id_nat R hk
  have hdd := dd_len 3 (th l k).Id.toNat (Nat.lt_of_le_of_lt (show (th l k).Id.toNat ≤ 9999 by omega) (by decide))
  have hth : thB l (th l k).Id = true := by simp [thB, hA, fnd_th R hk]
  unfold impl_Manifest_F
  rw [isThing_eq l _ hl, hth]
  simp only [bS, nT, cF]
  have hfm : impl_FormatInt (th l k).Id = some (bs (dd (th l k).Id.toNat)) := by
    have := itoa_eq (th l k).Id.toNat (by omega)
    rwa [← hid] at this
  rw [hfm, isBox_eq l _ hl, isBx_th R hk, txt]
  cases hb : (th l k).Box with
  | false => simp only [bS, nF, cT, iF, Bool.false_eq_true, if_false, List.append_nil]
  | true =>
    simp only [bS, nT, cF, iT]
    rw [show ByteArray.mk #[91] = bs [91] from rfl, cat_sm _ _ (by simp only [List.length_append, List.length_cons, List.length_nil]; omega)]
    simp only [bS, impl_InsideOf_eq l _ hl]
    have hins : insV l (th l k).Id = (kids l (th l k).Id l.length).map fun i => (th l i).Id := by
      unfold insV
      rw [if_pos hth]
      have := kids_ins l (th l k).Id l.length (Nat.le_refl _)
      rwa [List.take_length] at this
    rw [hins]
    generalize hK : kids l (th l k).Id l.length = K
    have hKm : ∀ c ∈ K, c < l.length ∧ (th l c).In = (th l k).Id := fun c hc => kids_mem.1 (hK ▸ hc)
    have hKl : K.length ≤ 40 := by
      rw [← hK]; unfold kids
      exact Nat.le_trans (List.length_filter_le _ _) (by simpa using hlen)
    have hP : ∀ j, j ≤ K.length → (joinS ((K.take j).map (txt l n))).length ≤ 11200 := fun j hj => by
      have hj1 := joinS_len ((K.take j).map (txt l n))
      have hsum : ∀ (K' : List Nat), (∀ c ∈ K', c < l.length ∧ (th l c).In = (th l k).Id) → (((K'.map (txt l n)).map fun a => a.length + 1).sum) ≤ 280 * K'.length := by
        intro K'
        induction K' with
        | nil => intro _; simp
        | cons c K' ih =>
          intro hK'
          have h1 := ih (fun c hc => hK' c (by simp [hc]))
          have hc := hK' c (by simp)
          have h2 := txt_le R D n c hc.1 (kid_deep R D hk hc.1 hc.2 h)
          simp only [List.map_cons, List.sum_cons, List.length_cons]
          omega
      have h3 := hsum (K.take j) (fun c hc => hKm c (List.mem_of_mem_take hc))
      simp only [List.length_take] at h3
      omega
    have hlp := loop_val (body := impl_Manifest_L1 (impl_Manifest_n m) l (K.map fun i => (th l i).Id)) K.length (fun j => (bs (dd (th l k).Id.toNat ++ [91] ++ joinS ((K.take j).map (txt l n))), (j : Int))) (bs (dd (th l k).Id.toNat ++ [91] ++ joinS ((K.take K.length).map (txt l n)))) (by omega) (fun j hj => by
        have c1 : decide ((j : Int) < ((K.map fun i => (th l i).Id).length : Int)) = true := by simp; omega
        have hg : gi (K.map fun i => (th l i).Id) (j : Int) = some (th l K[j]).Id := by rw [gi_nat (by simpa using hj)]; simp
        have hc := hKm K[j] (List.getElem_mem hj)
        have hrec := ih K[j] hc.1 (kid_deep R D hk hc.1 hc.2 h)
        have htl := txt_le R D n K[j] hc.1 (kid_deep R D hk hc.1 hc.2 h)
        have hPj := hP j (by omega)
        have htake : (K.take (j + 1)).map (txt l n) = (K.take j).map (txt l n) ++ [txt l n K[j]] := by rw [List.take_add_one, List.getElem?_eq_getElem hj, List.map_append]; rfl
        simp only [impl_Manifest_L1, impl_Manifest_L1_b, c1, cT, hg, bS]
        by_cases hj0 : j = 0
        · subst hj0
          simp only [impl_Manifest_j1, hrec, bS]
          rw [show decide (((0 : Nat) : Int) > 0) = false by simp]
          simp only [cF]
          rw [cat_sm _ _ (by simp only [List.length_append, List.length_cons, List.length_nil]; omega), htake, w64_succ (by omega)]
          simp [joinS]
        · rw [show decide ((j : Int) > 0) = true by simp; omega]
          simp only [cT]
          rw [show ByteArray.mk #[32] = bs [32] from rfl, cat_sm _ _ (by simp only [List.length_append, List.length_cons, List.length_nil]; omega)]
          simp only [bS, impl_Manifest_j1, hrec]
          rw [cat_sm _ _ (by simp only [List.length_append, List.length_cons, List.length_nil]; omega), htake, joinS_snoc, if_neg (by intro e; have := congrArg List.length e; rw [List.length_map, List.length_take] at this; simp only [List.length_nil] at this; omega), w64_succ (by omega)]
          simp) (by
        have c1 : decide ((K.length : Int) < ((K.map fun i => (th l i).Id).length : Int)) = false := by simp
        simp only [impl_Manifest_L1, impl_Manifest_L1_b, c1, cF])
    have e0 : bs (dd (th l k).Id.toNat ++ [91] ++ joinS ((K.take 0).map (txt l n))) = bs (dd (th l k).Id.toNat ++ [91]) := by simp [joinS]
    simp only [e0] at hlp
    rw [show ((0 : Nat) : Int) = 0 from rfl] at hlp
    rw [hlp]
    have hPk := hP K.length (Nat.le_refl _)
    simp only [bS, impl_Manifest_L1_k, impl_Manifest_L1_a]
    rw [show ByteArray.mk #[93] = bs [93] from rfl, cat_sm _ _ (by simp only [List.length_append, List.length_cons, List.length_nil]; omega), List.take_length]
    simp
theorem impl_man_eq {l : List Thing} (hA : areB l = true) : ∀ (n k : Nat), k < l.length → 5 ≤ dpN l k + n → ∀ m, n ≤ m → impl_Manifest_n m l (th l k).Id = some (bs (txt l n k))
  | 0, k, hk, h, _, _ => by obtain ⟨R, D⟩ := Right.of_are hA; have := D k hk; omega
  | n + 1, k, hk, h, 0, hm => by omega
  | n + 1, k, hk, h, m + 1, hm => impl_man_step hA n k m hk h fun c hc hd => impl_man_eq hA n c hc hd m (by omega)
theorem spec_man_step {l : List Thing} (hA : areB l = true) (n k m : Nat) (hk : k < l.length) (h : 5 ≤ dpN l k + (n + 1)) (ih : ∀ c, c < l.length → 5 ≤ dpN l c + n → spec_l5Text_n m l (th l c).Id = some (bs (txt l n c))) : spec_l5Text_F (spec_l5Text_n m) l (th l k).Id = some (bs (txt l (n + 1) k)) := by
  obtain ⟨R, D⟩ := Right.of_are hA
  have hl := R.l20
  have hlen := R.len
  obtain ⟨hid, hidb⟩ := id_nat R hk
  have hdd := dd_len 3 (th l k).Id.toNat (Nat.lt_of_le_of_lt (show (th l k).Id.toNat ≤ 9999 by omega) (by decide))
  unfold spec_l5Text_F
  have hfm : spec_FormatInt (th l k).Id = some (bs (dd (th l k).Id.toNat)) := by
    have := fmt_eq (th l k).Id.toNat (by omega)
    rwa [← hid] at this
  rw [hfm, spec_FindThing_eq l _ hl, fnd_th R hk, txt]
  simp only [bS, gi_nat hk, ← th_get hk]
  cases hb : (th l k).Box with
  | false => simp only [bS, nF, cT, iF, Bool.false_eq_true, if_false, List.append_nil]
  | true =>
    simp only [bS, nT, cF, iT]
    rw [show ByteArray.mk #[91] = bs [91] from rfl, cat_sm _ _ (by simp only [List.length_append, List.length_cons, List.length_nil]; omega)]
    simp only [bS]
    have hP : ∀ j, j ≤ l.length → (joinS ((kids l (th l k).Id j).map (txt l n))).length ≤ 11200 := fun j hj => txtP_le R D hk h j hj
    have hlp := loop_val (body := spec_l5Text_L1 (spec_l5Text_n m) l (th l k).Id) l.length (fun j => (bs (dd (th l k).Id.toNat ++ [91] ++ joinS ((kids l (th l k).Id j).map (txt l n))), decide (kids l (th l k).Id j = []), (j : Int))) (bs (dd (th l k).Id.toNat ++ [91] ++ joinS ((kids l (th l k).Id l.length).map (txt l n)))) hl (fun j hj => by
        have c1 : decide ((j : Int) < (l.length : Int)) = true := by simp; omega
        have hPj := hP j (by omega)
        simp only [spec_l5Text_L1, spec_l5Text_L1_b, c1, cT, gi_nat hj, bS, beqI]
        rw [kids_succ]
        by_cases hin : (th l j).In = (th l k).Id
        · have hrec := ih j hj (kid_deep R D hk hj hin h)
          have htl := txt_le R D n j hj (kid_deep R D hk hj hin h)
          have hin' : l[j].In = (th l k).Id := by rw [← th_get hj]; exact hin
          have hid' : l[j].Id = (th l j).Id := by rw [th_get hj]
          rw [if_pos hin, decide_eq_true hin']
          simp only [cT]
          have e2 : decide (kids l (th l k).Id j ++ [j] = []) = false := by simp
          rw [e2]
          by_cases h0 : kids l (th l k).Id j = []
          · rw [decide_eq_true h0]
            simp only [nT, cF, spec_l5Text_j1, gi_nat hj, bS, hid', hrec]
            rw [cat_sm _ _ (by simp only [List.length_append, List.length_cons, List.length_nil]; omega), h0, w64_succ (by omega)]
            simp [joinS]
          · rw [decide_eq_false h0]
            simp only [nF, cT]
            rw [show ByteArray.mk #[32] = bs [32] from rfl, cat_sm _ _ (by simp only [List.length_append, List.length_cons, List.length_nil]; omega)]
            simp only [bS, spec_l5Text_j1, gi_nat hj, hid', hrec]
            rw [cat_sm _ _ (by simp only [List.length_append, List.length_cons, List.length_nil]; omega), List.map_append, List.map_singleton, joinS_snoc, if_neg (by intro e; exact h0 (List.map_eq_nil_iff.1 e)), w64_succ (by omega)]
            simp
        · have hin' : ¬ (l[j].In = (th l k).Id) := by rw [← th_get hj]; exact hin
          rw [if_neg hin, decide_eq_false hin', List.append_nil, w64_succ (by omega)]
          rfl) (by
        have c1 : decide ((l.length : Int) < (l.length : Int)) = false := by simp
        simp only [spec_l5Text_L1, spec_l5Text_L1_b, c1, cF])
    have e0 : bs (dd (th l k).Id.toNat ++ [91] ++ joinS ((kids l (th l k).Id 0).map (txt l n))) = bs (dd (th l k).Id.toNat ++ [91]) := by simp [kids, joinS]
    simp only [e0] at hlp
    rw [show decide (kids l (th l k).Id 0 = []) = true from rfl, show ((0 : Nat) : Int) = 0 from rfl] at hlp
    rw [hlp]
    have hPk := hP l.length (Nat.le_refl _)
    simp only [bS, spec_l5Text_L1_k, spec_l5Text_L1_a]
    rw [show ByteArray.mk #[93] = bs [93] from rfl, cat_sm _ _ (by simp only [List.length_append, List.length_cons, List.length_nil]; omega)]
    simp
theorem spec_man_eq {l : List Thing} (hA : areB l = true) : ∀ (n k : Nat), k < l.length → 5 ≤ dpN l k + n → ∀ m, n ≤ m → spec_l5Text_n m l (th l k).Id = some (bs (txt l n k))
  | 0, k, hk, h, _, _ => by obtain ⟨R, D⟩ := Right.of_are hA; have := D k hk; omega
  | n + 1, k, hk, h, 0, hm => by omega
  | n + 1, k, hk, h, m + 1, hm => spec_man_step hA n k m hk h fun c hc hd => spec_man_eq hA n c hc hd m (by omega)
/-- the manifest of a thing, or nothing -/
def manT (l : List Thing) (id : Int) : List UInt8 := if thB l id then txt l 5 (fnd l id).toNat else []
theorem thB_spec {l : List Thing} {id : Int} (h : thB l id = true) : areB l = true ∧ ∃ k, k < l.length ∧ fnd l id = (k : Int) ∧ (th l k).Id = id := by
  simp only [thB, Bool.and_eq_true, decide_eq_true_eq] at h
  obtain ⟨k, hk, e, hid⟩ := fnd_some h.2
  exact ⟨h.1, k, hk, e, by rw [th_get hk]; exact hid⟩
theorem impl_Manifest_eq (l : List Thing) (id : Int) (hl : l.length ≤ 1048576) : impl_Manifest l id = some (bs (manT l id)) := by
  unfold manT
  by_cases h : thB l id = true
  · obtain ⟨hA, k, hk, e, hid⟩ := thB_spec h
    rw [if_pos h, e, ← hid]
    exact impl_man_eq hA 5 k hk (by omega) big (by unfold big; omega)
  · rw [if_neg h]
    show impl_Manifest_F (impl_Manifest_n 999999999999) l id = _
    unfold impl_Manifest_F
    rw [isThing_eq l id hl]
    simp only [Bool.not_eq_true] at h
    rw [h]
    rfl
theorem spec_Manifest_eq (l : List Thing) (id : Int) (hl : l.length ≤ 1048576) : spec_Manifest l id = some (bs (manT l id)) := by
  unfold manT spec_Manifest
  rw [spec_AreThings_eq l hl, spec_FindThing_eq l id hl]
  by_cases h : thB l id = true
  · obtain ⟨hA, k, hk, e, hid⟩ := thB_spec h
    rw [if_pos h, hA, e]
    simp only [Option.bind_some, Bool.not_true, cond_false]
    rw [show decide (((k : Nat) : Int) < 0) = false by simp <;> omega, ← hid]
    simp only [cond_false, spec_l5Text, spec_man_eq hA 5 k hk (by omega) big (by unfold big; omega), Option.bind_some, Int.toNat_natCast]
  · rw [if_neg h]
    cases hA : areB l with
    | false => rfl
    | true =>
      have : fnd l id < 0 := by
        simp only [thB, hA, Bool.true_and, decide_eq_true_eq] at h
        omega
      simp only [Option.bind_some, Bool.not_true, cond_false]
      rw [decide_eq_true this]
      rfl
end Go.Sx
