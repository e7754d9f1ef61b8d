/- A manifest is read again, with each thing in its box: the law answers true. -/
import Derived.Test.YtanfbicgojbnkaaDoorMfM
import Derived.Test.YtanfbicgojbnkaaDoorMfS
import Derived.Test.YtanfbicgojbnkaaDoorMfC
namespace Go.Sx
set_option linter.unusedVariables false

theorem bt_drop {s : ByteArray} {i : Nat} {c : UInt8} {r : List UInt8} (h : s.data.toList.drop i = c :: r) : i < s.size ∧ bt s i = c.toNat ∧ s.data.toList.drop (i + 1) = r := by
  have hi : i < s.data.toList.length := by
    apply Classical.byContradiction
    intro hn
    rw [List.drop_eq_nil_of_le (by omega)] at h
    cases h
  rw [List.drop_eq_getElem_cons hi] at h
  injection h with h1 h2
  refine ⟨by rw [← size_list]; exact hi, ?_, h2⟩
  unfold bt
  rw [List.getD_eq_getElem?_getD, List.getElem?_eq_getElem hi]
  simp [h1]
theorem end_drop {s : ByteArray} {i : Nat} (h : s.data.toList.drop i = []) : s.size ≤ i := by
  rw [← size_list]
  exact List.drop_eq_nil_iff.1 h
/-- the digits end where they end -/
theorem run_dd {s : ByteArray} : ∀ (D : List UInt8) (i : Nat) (rest : List UInt8), (∀ c ∈ D, 48 ≤ c.toNat ∧ c.toNat ≤ 57) → s.data.toList.drop i = D ++ rest → (∀ c r, rest = c :: r → ¬ (48 ≤ c.toNat ∧ c.toNat ≤ 57)) → run s i = i + D.length
  | [], i, rest, _, h, hr => by
    refine run_stop fun hc => ?_
    cases rest with
    | nil => have := end_drop h; omega
    | cons c r =>
      obtain ⟨_, h2, _⟩ := bt_drop h
      exact hr c r rfl (by rw [← h2]; exact hc.2)
  | c :: D, i, rest, hD, h, hr => by
    obtain ⟨h1, h2, h3⟩ := bt_drop h
    have hc := hD c (by simp)
    rw [run_go h1 (by rw [h2]; exact hc), run_dd D (i + 1) rest (fun x hx => hD x (by simp [hx])) h3 hr, List.length_cons]
    omega
theorem drop_app {s : ByteArray} {i : Nat} {A B : List UInt8} (h : s.data.toList.drop i = A ++ B) : s.data.toList.drop (i + A.length) = B := by
  rw [← List.drop_drop, h]; simp
/-- what stands behind a manifest: nothing, a blank or a bracket -/
def After (rest : List UInt8) : Prop := ∀ c r, rest = c :: r → c.toNat = 32 ∨ c.toNat = 93
/-- what is still to be read of a box's things -/
def sep (j : Nat) (L : List (List UInt8)) : List UInt8 := if L = [] then [] else if j = 0 then joinS L else 32 :: joinS L
theorem sep_cons (a : List UInt8) (L : List (List UInt8)) (j : Nat) : sep j (a :: L) = (if j = 0 then [] else [32]) ++ (a ++ sep (j + 1) L) := by
  unfold sep
  rw [if_neg (by simp), joinS_cons]
  by_cases hj : j = 0
  · simp [hj]
  · simp [hj]
theorem after_sep (j : Nat) (L : List (List UInt8)) (rest : List UInt8) : After (sep (j + 1) L ++ 93 :: rest) := by
  intro c r h
  unfold sep at h
  by_cases hL : L = []
  · simp [hL] at h
    exact .inr (by rw [← h.1]; rfl)
  · simp [hL] at h
    exact .inl (by rw [← h.1]; rfl)
theorem txt_head {l : List Thing} (n k : Nat) : ∃ c r, txt l (n + 1) k = c :: r ∧ 48 ≤ c.toNat ∧ c.toNat ≤ 57 := by
  rw [txt]
  cases hd : dd (th l k).Id.toNat with
  | nil => exact absurd hd (dd_ne _)
  | cons c r => exact ⟨c, _, rfl, dd_digits (th l k).Id.toNat c (by rw [hd]; simp)⟩

theorem rd_txt {l : List Thing} (hA : areB l = true) (s : ByteArray) (hs : s.size ≤ 1048576) : ∀ (n k : Nat), k < l.length → 5 ≤ dpN l k + n → ∀ (f i : Nat) (out : List Pair) (inn : Int) (rest : List UInt8), n ≤ f → s.data.toList.drop i = txt l n k ++ rest → After rest → out.length + (prs l n k inn).length ≤ 40 →
    impl_manifestReader_one_n f ⟨s, (i : Int), out⟩ inn = some (true, ⟨s, ((i + (txt l n k).length : Nat) : Int), out ++ prs l n k inn⟩)
  | 0, k, hk, h, _, _, _, _, _, _, _, _, _ => by obtain ⟨R, D⟩ := Right.of_are hA; have := D k hk; omega
  | n + 1, k, hk, h, 0, _, _, _, _, hf, _, _, _ => by omega
  | n + 1, k, hk, h, f + 1, i, out, inn, rest, hf, hdrop, hrest, hlen => by
    obtain ⟨R, D⟩ := Right.of_are hA
    obtain ⟨hid, hidb⟩ := id_nat R hk
    have hid1 := th_pos R hk
    show impl_manifestReader_one_F (impl_manifestReader_one_n f) ⟨s, (i : Int), out⟩ inn = _
    have hi : i < s.size := by
      obtain ⟨c, r, e, _⟩ := txt_head (l := l) n k
      rw [e] at hdrop
      exact (bt_drop hdrop).1
    have hpl : 0 < (prs l (n + 1) k inn).length := by rw [prs]; simp
    rw [one_F _ s hs i (by omega) out (by omega) inn]
    -- the number
    have hdrop2 : s.data.toList.drop i = dd (th l k).Id.toNat ++ ((if (th l k).Box then 91 :: (joinS ((kids l (th l k).Id l.length).map (txt l n)) ++ [93]) else []) ++ rest) := by
      rw [hdrop, txt, List.append_assoc]
    have hrun := run_dd (dd (th l k).Id.toNat) i _ (dd_digits _) hdrop2 (fun c r e => by
      cases hb : (th l k).Box with
      | true =>
        rw [hb] at e
        simp at e
        rw [← e.1]; decide
      | false =>
        rw [hb] at e
        have := hrest c r (by simpa using e)
        omega)
    have hext : ext s i (run s i) = bs (dd (th l k).Id.toNat) := by
      rw [← bs_of (ext s i (run s i)), ext_list, hrun, hdrop2]
      congr 1
      simp
    rw [hext, pI_dd (by omega), hrun]
    simp only
    rw [← hid, if_neg (by rintro (e | e | e); cases e; exact e (by omega); omega)]
    have hd3 := drop_app hdrop2
    cases hb : (th l k).Box with
    | false =>
      rw [hb] at hd3
      simp only [Bool.false_eq_true, if_false, List.nil_append] at hd3
      rw [if_pos (by
        rintro ⟨h1, h2⟩
        cases hr : rest with
        | nil => rw [hr] at hd3; have := end_drop hd3; omega
        | cons c r =>
          rw [hr] at hd3
          have h3 := (bt_drop hd3).2.1
          have := hrest c r hr
          omega)]
      have e1 : txt l (n + 1) k = dd (th l k).Id.toNat := by rw [txt, hb]; simp
      have e2 : prs l (n + 1) k inn = [⟨(th l k).Id, inn⟩] := by rw [prs, hb]; simp
      rw [e1, e2]
    | true =>
      rw [hb] at hd3
      simp only [if_true] at hd3
      obtain ⟨g1, g2, g3⟩ := bt_drop (show s.data.toList.drop (i + (dd (th l k).Id.toNat).length) = 91 :: (joinS ((kids l (th l k).Id l.length).map (txt l n)) ++ [93] ++ rest) by rw [hd3]; simp)
      rw [if_neg (by rw [Classical.not_not]; exact ⟨g1, by rw [g2]; rfl⟩)]
      -- the things in the box
      have key : ∀ (K : List Nat) (j pos : Nat) (o : List Pair), (∀ c ∈ K, c < l.length ∧ (th l c).In = (th l k).Id) → s.data.toList.drop pos = sep j (K.map (txt l n)) ++ 93 :: rest → o.length + (K.flatMap (fun c => prs l n c (th l k).Id)).length ≤ 40 → j + K.length ≤ 1000 →
          ∀ fuel, K.length < fuel → loopM (impl_manifestReader_one_L2 (impl_manifestReader_one_n f) ((th l k).Id, true)) fuel (s, (pos : Int), o, (j : Int)) = some (.inl (s, ((pos + (sep j (K.map (txt l n))).length : Nat) : Int), o ++ K.flatMap (fun c => prs l n c (th l k).Id))) := by
        intro K
        induction K with
        | nil =>
          intro j pos o _ hd _ _ fuel hfu
          obtain ⟨fuel, rfl⟩ : ∃ g, fuel = g + 1 := ⟨fuel - 1, by simp at hfu; omega⟩
          have hd' : s.data.toList.drop pos = 93 :: rest := by simpa [sep] using hd
          obtain ⟨q1, q2, _⟩ := bt_drop hd'
          have c1 : decide ((pos : Int) < (s.size : Int)) = true := by simp; omega
          have e1 : siM s (pos : Int) = some 93 := by rw [siM_nat q1, q2]; rfl
          rw [loopM]
          simp only [impl_manifestReader_one_L2, impl_manifestReader_one_L2_b, c1, cond_true, e1, Option.bind_some, bne_self_eq_false, cond_false]
          simp [sep]
        | cons c K ih =>
          intro j pos o hK hd ho hj fuel hfu
          obtain ⟨fuel, rfl⟩ : ∃ g, fuel = g + 1 := ⟨fuel - 1, by omega⟩
          have hc := hK c (by simp)
          have hdeep := kid_deep R D hk hc.1 hc.2 h
          have hn : ∃ n', n = n' + 1 := by
            have := D c hc.1
            exact ⟨n - 1, by omega⟩
          rw [List.map_cons, sep_cons, List.append_assoc, List.append_assoc] at hd
          have hd2 := drop_app hd
          simp only [List.flatMap_cons, List.length_append] at ho
          have hself := rd_txt hA s hs n c hc.1 hdeep f (pos + (if j = 0 then ([] : List UInt8) else [32]).length) o (th l k).Id (sep (j + 1) (K.map (txt l n)) ++ 93 :: rest) (by omega) hd2 (after_sep j _ rest) (by omega)
          have hnext := ih (j + 1) (pos + (if j = 0 then ([] : List UInt8) else [32]).length + (txt l n c).length) (o ++ prs l n c (th l k).Id) (fun x hx => hK x (by simp [hx])) (drop_app hd2) (by simp only [List.length_append]; omega) (by simp at hj; omega) fuel (by simp at hfu; omega)
          have hstep : impl_manifestReader_one_L2 (impl_manifestReader_one_n f) ((th l k).Id, true) (s, (pos : Int), o, (j : Int)) = some (.next (s, ((pos + (if j = 0 then ([] : List UInt8) else [32]).length + (txt l n c).length : Nat) : Int), o ++ prs l n c (th l k).Id, ((j + 1 : Nat) : Int))) := by
            obtain ⟨n', rfl⟩ := hn
            obtain ⟨ch, r, e, hch1, hch2⟩ := txt_head (l := l) n' c
            by_cases hj0 : j = 0
            · subst hj0
              simp only [if_true, List.nil_append, List.length_nil, Nat.add_zero] at hd hself ⊢
              rw [e] at hd
              obtain ⟨q1, q2, _⟩ := bt_drop hd
              have c1 : decide ((pos : Int) < (s.size : Int)) = true := by simp; omega
              have b1 : (((bt s pos : Nat) : Int) != 93) = true := by rw [bneI]; simp; omega
              have c2 : decide (((0 : Nat) : Int) > 0) = false := by simp
              simp only [impl_manifestReader_one_L2, impl_manifestReader_one_L2_b, c1, cond_true, siM_nat q1, Option.bind_some, b1, c2, cond_false, impl_manifestReader_one_j1, hself, Bool.not_true, w64_succ (show 0 ≤ 1048576 by omega)]
            · simp only [hj0, if_false, List.length_singleton, List.singleton_append] at hd hself ⊢
              obtain ⟨q1, q2, _⟩ := bt_drop hd
              have c1 : decide ((pos : Int) < (s.size : Int)) = true := by simp; omega
              have e1 : siM s (pos : Int) = some 32 := by rw [siM_nat q1, q2]; rfl
              have b1 : ((32 : Int) != 93) = true := by decide
              have c2 : decide ((j : Int) > 0) = true := by simp; omega
              simp only [impl_manifestReader_one_L2, impl_manifestReader_one_L2_b, c1, cond_true, e1, Option.bind_some, b1, c2, bne_self_eq_false, cond_false, w64_succ (show pos ≤ 1048576 by omega), impl_manifestReader_one_j1, hself, Bool.not_true, w64_succ (show j ≤ 1048576 by omega)]
          rw [loopM, hstep]
          simp only
          rw [hnext, List.map_cons, sep_cons, List.flatMap_cons]
          simp only [List.length_append, List.append_assoc, Nat.add_assoc]
      have hK : ∀ c ∈ kids l (th l k).Id l.length, c < l.length ∧ (th l c).In = (th l k).Id := fun c hc => kids_mem.1 hc
      have hKl : (kids l (th l k).Id l.length).length ≤ 40 := by
        have := R.len
        unfold kids
        exact Nat.le_trans (List.length_filter_le _ _) (by simpa using this)
      have hpr : prs l (n + 1) k inn = ⟨(th l k).Id, inn⟩ :: (kids l (th l k).Id l.length).flatMap (fun c => prs l n c (th l k).Id) := by rw [prs, hb]; simp
      have hsep0 : ∀ (L : List (List UInt8)), sep 0 L = joinS L := fun L => by
        unfold sep
        by_cases hL : L = []
        · simp [hL, joinS]
        · simp [hL]
      have hlp := key (kids l (th l k).Id l.length) 0 (i + (dd (th l k).Id.toNat).length + 1) (out ++ [⟨(th l k).Id, inn⟩]) hK (by rw [g3, hsep0]; simp) (by rw [hpr] at hlen; simp at hlen ⊢; omega) (by omega) big (by unfold big; omega)
      rw [show ((0 : Nat) : Int) = 0 from rfl] at hlp
      rw [hlp]
      have hd5 : s.data.toList.drop (i + (dd (th l k).Id.toNat).length + 1 + (sep 0 ((kids l (th l k).Id l.length).map (txt l n))).length) = 93 :: rest := by
        apply drop_app
        rw [g3, hsep0]; simp
      obtain ⟨q1, q2, _⟩ := bt_drop hd5
      have c3 : ((((i + (dd (th l k).Id.toNat).length + 1 + (sep 0 ((kids l (th l k).Id l.length).map (txt l n))).length : Nat) : Int)) == (s.size : Int)) = false := by rw [beqI]; simp; omega
      simp only [Option.bind_some, impl_manifestReader_one_L2_k, impl_manifestReader_one_L2_a, c3, cond_false, w64_succ (show i + (dd (th l k).Id.toNat).length + 1 + (sep 0 ((kids l (th l k).Id l.length).map (txt l n))).length ≤ 1048576 by omega)]
      rw [hpr]
      have e1 : (txt l (n + 1) k).length = (dd (th l k).Id.toNat).length + 1 + (sep 0 ((kids l (th l k).Id l.length).map (txt l n))).length + 1 := by
        rw [txt, hb, hsep0]; simp; omega
      rw [e1]
      simp only [List.append_assoc, List.singleton_append, Nat.add_assoc]

theorem read_txt {l : List Thing} (hA : areB l = true) {k : Nat} (hk : k < l.length) : impl_ReadManifest (bs (txt l 5 k)) = some (prs l 5 k 0, true) := by
  obtain ⟨R, D⟩ := Right.of_are hA
  have hle := txt_le R D 5 k hk (by omega)
  have hsz : (bs (txt l 5 k)).size = (txt l 5 k).length := bs_size _
  have h := rd_txt hA (bs (txt l 5 k)) (by omega) 5 k hk (by omega) big 0 [] 0 [] (by unfold big; omega) (by rw [List.drop_zero, bs_list]; simp) (fun c r e => by cases e) (by have := prs_le R D 5 k hk (by omega) 0; simpa using this)
  have h' : impl_manifestReader_one ⟨bs (txt l 5 k), 0, []⟩ 0 = some (true, ⟨bs (txt l 5 k), (((txt l 5 k).length : Nat) : Int), prs l 5 k 0⟩) := by
    unfold impl_manifestReader_one
    simpa using h
  unfold impl_ReadManifest
  rw [h']
  simp only [Option.bind_some, Bool.not_true, cond_false, hsz, bne_self_eq_false]
theorem read_nil : impl_ReadManifest (bs []) = some ([], false) := by
  obtain ⟨r, h1, h2, _⟩ := read_eq (bs []) (by rw [bs_size]; simp)
  have h3 : spec_ReadManifest (bs []) = some ([], false) := by
    unfold spec_ReadManifest
    have e : spec_ReadManifest_L1 (bs []) (([] : List Pair), ([] : List Int), true, 0) = some (.brk ([], [])) := sb_end (bs []) [] [] true
    have e2 : loopM (spec_ReadManifest_L1 (bs [])) (999999999999 + 1) (([] : List Pair), ([] : List Int), true, 0) = some (.inl ([], [])) := by rw [loopM, e]
    rw [show big = 999999999999 + 1 from rfl, e2]
    rfl
  rw [h1, ← h2, h3]

theorem filter_len (l : List Thing) (p : Thing → Bool) : ∀ m, m ≤ l.length → ((((l.take m).filter p).length : Nat) : Int) = sm m fun t => if p (th l t) then 1 else 0
  | 0, _ => rfl
  | m + 1, h => by
    have hm : m < l.length := by omega
    rw [List.take_add_one, List.getElem?_eq_getElem hm, List.filter_append, List.length_append, sm, ← filter_len l p m (by omega)]
    simp only [th_get hm, Option.toList]
    cases hp : p l[m] <;> simp [hp]
theorem prs_pairs {l : List Thing} : ∀ (n k : Nat), k < l.length → ∀ inn, inn = (th l k).In → ∀ p ∈ prs l n k inn, ∃ j, j < l.length ∧ p = ⟨(th l j).Id, (th l j).In⟩
  | 0, _, _, _, _, p, hp => by cases hp
  | n + 1, k, hk, inn, hi, p, hp => by
    rw [prs] at hp
    rcases List.mem_cons.1 hp with rfl | hp
    · exact ⟨k, hk, by rw [hi]⟩
    · cases hb : (th l k).Box with
      | false => rw [hb] at hp; simp at hp
      | true =>
        rw [hb, if_pos rfl] at hp
        obtain ⟨c, hc, hp⟩ := List.mem_flatMap.1 hp
        obtain ⟨hc1, hc2⟩ := kids_mem.1 hc
        exact prs_pairs n c hc1 (th l k).Id hc2.symm p hp
theorem FnManifest_true (a : List Int) : laws_FnManifest a = some true := by
  unfold laws_FnManifest
  rw [show laws_big a = some (decide ((a.length : Int) > 4096)) from rfl]
  simp only [Option.bind_some]
  by_cases hb : (a.length : Int) > 4096
  · rw [decide_eq_true hb]; rfl
  rw [decide_eq_false hb]
  obtain ⟨l, id, e, hl⟩ := drawFindThing_ok a (by omega)
  have hl' : l.length ≤ 1048576 := by omega
  simp only [cond_false, spec_DrawManifest, e, Option.bind_some, impl_Manifest_eq l id hl', spec_Manifest_eq l id hl', beq_self_eq_true, Bool.not_true]
  unfold manT
  by_cases h : thB l id = true
  · obtain ⟨hA, k, hk, ek, hid⟩ := thB_spec h
    obtain ⟨R, D⟩ := Right.of_are hA
    rw [if_pos h, ek]
    simp only [Int.toNat_natCast, read_txt hA hk, Option.bind_some]
    have hne : ((bs (txt l 5 k)).toList == (ByteArray.mk #[]).toList) = false := by
      rw [ByteArray.toList_eq, ByteArray.toList_eq, bs_list]
      obtain ⟨c, r, e2, _⟩ := txt_head (l := l) 4 k
      rw [e2]
      rfl
    rw [hne]
    simp only [cond_false, Bool.not_true]
    rw [impl_AllInside_eq l id hl']
    have hlen : (((prs l 5 k 0).length : Nat) : Int) = w64 (1 + ((allV' l id).length : Int)) := by
      have hall : (((allV' l id).length : Nat) : Int) = sm l.length fun t => inc (th l k).Id (anc l t) := by
        unfold allV'
        rw [if_pos h, List.length_map]
        have := filter_len l (fun t => arB l t.Id id) l.length (Nat.le_refl _)
        rw [List.take_length] at this
        rw [this]
        refine sm_congr fun t ht => ?_
        unfold arB aro inc
        rw [fnd_th R ht, hid]
        by_cases hm : id ∈ chn l 5 (t : Int)
        · rw [if_pos hm, if_pos]
          simp only [List.any_eq_true, beq_iff_eq]; exact ⟨_, hm, rfl⟩
        · rw [if_neg hm, if_neg]
          simp only [List.any_eq_true, beq_iff_eq]; rintro ⟨x, hx, rfl⟩; exact hm hx
      have hp := prs_len R D 5 k hk (by omega) 0
      have hp2 := prs_le R D 5 k hk (by omega) 0
      rw [w64_id (by omega) (by omega), hall, hp]
    have c1 : ((((prs l 5 k 0).length : Nat) : Int) != w64 (1 + ((allV' l id).length : Int))) = false := by rw [bneI, decide_eq_true hlen]; rfl
    simp only [Option.bind_some, c1, cond_false]
    have hp0 : prs l 5 k 0 = ⟨(th l k).Id, 0⟩ :: (if (th l k).Box then (kids l (th l k).Id l.length).flatMap (fun c => prs l 4 c (th l k).Id) else []) := rfl
    have g0 : gi (prs l 5 k 0) 0 = some ⟨(th l k).Id, 0⟩ := by rw [hp0]; rfl
    rw [g0]
    simp only [Option.bind_some, hid, bne_self_eq_false, cond_false]
    have htail : ∀ i (hi : i < (prs l 5 k 0).length), 1 ≤ i → ∃ j, j < l.length ∧ (prs l 5 k 0)[i] = ⟨(th l j).Id, (th l j).In⟩ := fun i hi h1 => by
      have hm : (prs l 5 k 0)[i] ∈ (if (th l k).Box then (kids l (th l k).Id l.length).flatMap (fun c => prs l 4 c (th l k).Id) else []) := by
        obtain ⟨i', rfl⟩ : ∃ i', i = i' + 1 := ⟨i - 1, by omega⟩
        simp only [hp0, List.getElem_cons_succ]
        exact List.getElem_mem _
      cases hbx : (th l k).Box with
      | false => rw [hbx] at hm; simp at hm
      | true =>
        rw [hbx, if_pos rfl] at hm
        obtain ⟨c, hc, hp⟩ := List.mem_flatMap.1 hm
        obtain ⟨hc1, hc2⟩ := kids_mem.1 hc
        exact prs_pairs 4 c hc1 (th l k).Id hc2.symm _ hp
    have hp2 := prs_le R D 5 k hk (by omega) 0
    obtain ⟨y, hy, hq⟩ := loopM_tot (body := laws_FnManifest_L1 (l, id) (prs l 5 k 0, true)) (fun z => ∃ i : Nat, z = (i : Int) ∧ 1 ≤ i ∧ i ≤ (prs l 5 k 0).length) (fun z => (prs l 5 k 0).length - z.toNat) (fun y => y = .inl ()) (fun z hz => by
      obtain ⟨i, rfl, hi1, hi2⟩ := hz
      by_cases hi : i < (prs l 5 k 0).length
      · left
        obtain ⟨j, hj, ej⟩ := htail i hi hi1
        have c2 : decide ((i : Int) < ((prs l 5 k 0).length : Int)) = true := by simp; omega
        have gp : gi (prs l 5 k 0) (i : Int) = some ⟨(th l j).Id, (th l j).In⟩ := by rw [gi_nat hi, ej]
        have c3 : decide (((j : Nat) : Int) < 0) = false := by rw [decide_eq_false_iff_not]; omega
        refine ⟨((i + 1 : Nat) : Int), ?_, ⟨i + 1, rfl, by omega, hi⟩, by simp only [Int.toNat_natCast]; omega⟩
        simp only [laws_FnManifest_L1, laws_FnManifest_L1_b, c2, cond_true, gp, Option.bind_some, impl_FindThing_eq l _ hl', fnd_th R hj, c3, cond_false, gi_nat hj, ← th_get hj, bne_self_eq_false, w64_succ (show i ≤ 1048576 by omega)]
      · right; left
        have c2 : decide ((i : Int) < ((prs l 5 k 0).length : Int)) = false := by simp; omega
        exact ⟨(), by simp only [laws_FnManifest_L1, laws_FnManifest_L1_b, c2, cond_false], rfl⟩) big (1 : Int) ⟨1, rfl, Nat.le_refl _, by rw [hp0]; simp⟩ (by unfold big; simp; omega)
    rw [hy, hq]
    rfl
  · rw [if_neg h]
    simp only [read_nil, Option.bind_some]
    rw [show ((bs []).toList == (ByteArray.mk #[]).toList) = true by rw [ByteArray.toList_eq, ByteArray.toList_eq, bs_list]; rfl]
    rfl
end Go.Sx
