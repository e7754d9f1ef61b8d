/- What is packed is in one of the boxes, and what is left is where it was: the law answers true. -/
import Derived.Test.YtbeialanbblkoaaBpL
import Derived.Test.YtbeialanbblkoaaBpX
import Derived.Test.YtbeialanbblkoaaBpJ
namespace Go.Sx
set_option linter.unusedVariables false

/-- what it says of a list and two numbers that the putting goes well -/
structure PutOk (l : List Thing) (id b : Int) : Prop where
  th : thB l id = true
  bx : isBx l b = true
  lk1 : lockB l id = false
  lk2 : lockB l b = false
  sl : (thA l (fnd l b)).Sealed = false
  ne : id ≠ b
  ar : arB l b id = false
  dp : dpB (setIn l id b) = true
  are : areB (setIn l id b) = true
theorem putV_ok {l : List Thing} {id b : Int} (h : (putV l id b).2 = 0) : PutOk l id b ∧ (putV l id b).1 = setIn l id b := by
  unfold putV at *
  by_cases h1 : (thB l id && isBx l b) = true
  · rw [if_pos h1] at h ⊢
    by_cases h2 : (lockB l id || lockB l b || (thA l (fnd l b)).Sealed) = true
    · rw [if_pos h2] at h; simp at h
    · rw [if_neg h2] at h ⊢
      by_cases h3 : id = b ∨ arB l b id = true
      · rw [if_pos h3] at h; simp at h
      · rw [if_neg h3] at h ⊢
        by_cases h4 : dpB (setIn l id b) = true
        · rw [if_pos h4] at h ⊢
          by_cases h5 : areB (setIn l id b) = true
          · rw [if_pos h5]
            simp only [Bool.and_eq_true] at h1
            simp only [Bool.or_eq_true, not_or, Bool.not_eq_true] at h2 h3
            exact ⟨⟨h1.1, h1.2, h2.1.1, h2.1.2, h2.2, h3.1, h3.2, h4, h5⟩, rfl⟩
          · rw [if_neg h5] at h; simp at h
        · rw [if_neg h4] at h; simp at h
  · rw [if_neg h1] at h; simp at h
theorem putV_of {l : List Thing} {id b : Int} (P : PutOk l id b) : putV l id b = (setIn l id b, 0) := by
  unfold putV
  rw [P.th, P.bx, P.lk1, P.lk2, P.sl, P.dp, P.are, P.ar]
  simp [P.ne]
/-- once put, it may be put there again -/
theorem putV_again {l : List Thing} {id b : Int} (h : (putV l id b).2 = 0) : (putV (setIn l id b) id b).2 = 0 := by
  obtain ⟨P, _⟩ := putV_ok h
  have hth := P.th
  simp only [thB, Bool.and_eq_true, decide_eq_true_eq] at hth
  obtain ⟨R, D⟩ := Right.of_are hth.1
  obtain ⟨R', D'⟩ := Right.of_are P.are
  obtain ⟨k, hk, ek, hid⟩ := fnd_some hth.2
  obtain ⟨j, hj, ej, hjd, hbox⟩ := isBx_spec P.bx
  have es := setIn_nat (box := b) hk ek
  have hfn : ∀ q, fnd (setIn l id b) q = fnd l q := fun q => by rw [es]; exact fnd_set hk { l[k] with In := b } rfl q
  have hlen : (setIn l id b).length = l.length := by rw [es]; simp
  have hjk : k ≠ j := fun e => by subst e; exact P.ne (hid.symm.trans hjd)
  have hget : ∀ q, q ≠ k → thA (setIn l id b) (q : Int) = thA l (q : Int) := fun q hq => by
    unfold thA; rw [es]; simp only [Int.toNat_natCast]; rw [List.getElem?_set_ne (Ne.symm hq)]
  have hk' : thA (setIn l id b) (k : Int) = { l[k] with In := b } := by unfold thA; rw [es]; simp [hk]
  have hsl : ∀ q : Nat, (thA (setIn l id b) (q : Int)).Sealed = (thA l (q : Int)).Sealed := fun q => by
    by_cases hq : q = k
    · subst hq; rw [hk']; unfold thA; simp [hk]
    · rw [hget q hq]
  have hnot : l[k].Id ∉ chn l 5 (fnd l b) := fun hm => by
    have : arB l b id = true := by simp only [arB, List.any_eq_true, beq_iff_eq]; exact ⟨_, hm, hid⟩
    rw [P.ar] at this; cases this
  have c5 : aro (setIn l id b) b = aro l b := by
    unfold aro
    rw [hfn, es]
    exact chn_set hk b 5 _ (by rw [ej]; exact fun e => hjk (by omega)) (by rw [ej]; omega) hnot
  have hlb : lockB (setIn l id b) b = false := by
    rw [← lockB_aro R' b, c5]
    rw [← Bool.not_eq_true, List.any_eq_true]
    rintro ⟨x, hx, hs⟩
    have h2 := P.lk2
    rw [← lockB_aro R b, ← Bool.not_eq_true, List.any_eq_true] at h2
    refine h2 ⟨x, hx, ?_⟩
    obtain ⟨i, hi, e, _⟩ := isBx_spec (chn_box R 5 _ x fnd_lt hx).1
    rw [hfn, e] at hs
    rw [e]
    have := hsl i
    unfold thA at this
    rw [← this]; exact hs
  have hsb : (thA (setIn l id b) (fnd (setIn l id b) b)).Sealed = false := by rw [hfn, ej, hsl, ← ej]; exact P.sl
  have hli : lockB (setIn l id b) id = false := by
    rw [← lockB_aro R' id]
    have hb0 : b ≠ 0 := by have := R.id_pos j hj; omega
    have e1 : aro (setIn l id b) id = b :: chn (setIn l id b) 4 (fnd (setIn l id b) b) := by
      unfold aro
      rw [hfn id, ek, chn, if_pos (by omega)]
      have := hk'
      unfold thA at this
      rw [this]
      simp [hb0]
    rw [e1, ← Bool.not_eq_true, List.any_eq_true]
    rintro ⟨x, hx, hs⟩
    cases hx with
    | head => have := hsb; unfold thA at this; rw [this] at hs; cases hs
    | tail _ hx =>
      rw [chn_take] at hx
      have h2 := hlb
      rw [← lockB_aro R' b, ← Bool.not_eq_true, List.any_eq_true] at h2
      exact h2 ⟨x, List.mem_of_mem_take hx, hs⟩
  have har : arB (setIn l id b) b id = false := by unfold arB; rw [c5]; exact P.ar
  have hss : setIn (setIn l id b) id b = setIn l id b := by
    have h1 : setIn (setIn l id b) id b = (setIn l id b).set k { l[k] with In := b } := by
      unfold setIn
      rw [show fnd (l.set (fnd l id).toNat { thA l (fnd l id) with In := b }) id = (k : Int) from (hfn id).trans ek]
      have := hk'
      unfold setIn at this
      rw [this]
      simp
    rw [h1, es]; simp
  rw [putV_of ⟨by simp [thB, P.are, hfn, ek], ?_, hli, hlb, hsb, P.ne, har, by rw [hss]; exact P.dp, by rw [hss]; exact P.are⟩]
  unfold isBx
  rw [hfn, ej]
  have := hget j (Ne.symm hjk)
  unfold thA at this
  rw [this]
  simp [hj, hbox]
theorem pk_true {l : List Thing} {id : Int} : ∀ {bs : List Int}, (pk l id bs).2 = true → ∃ b ∈ bs, (putV l id b).2 = 0 ∧ (pk l id bs).1 = setIn l id b
  | [], h => by simp [pk] at h
  | b :: bs, h => by
    unfold pk at h ⊢
    by_cases h0 : (putV l id b).2 = 0
    · rw [if_pos h0]; exact ⟨b, by simp, h0, (putV_ok h0).2⟩
    · rw [if_neg h0] at h ⊢
      obtain ⟨c, h1, h2, h3⟩ := pk_true h
      exact ⟨c, by simp [h1], h2, h3⟩
theorem pk_false {l : List Thing} {id : Int} : ∀ {bs : List Int}, (pk l id bs).2 = false → (pk l id bs).1 = l
  | [], _ => rfl
  | b :: bs, h => by
    unfold pk at h ⊢
    by_cases h0 : (putV l id b).2 = 0
    · rw [if_pos h0] at h; cases h
    · rw [if_neg h0] at h ⊢; exact pk_false h
theorem pk_of {l : List Thing} {id b : Int} : ∀ {bs : List Int}, b ∈ bs → (putV l id b).2 = 0 → (pk l id bs).2 = true
  | c :: bs, hb, h => by
    unfold pk
    by_cases h0 : (putV l id c).2 = 0
    · rw [if_pos h0]
    · rw [if_neg h0]
      cases hb with
      | head => exact absurd h h0
      | tail _ hb => exact pk_of hb h

/-- what holds while things are packed -/
structure PkInv (bs : List Int) (l : List Thing) (H : List Int) (i : Nat) (s : List Thing × List Int) : Prop where
  are : areB s.1 = true
  len : s.1.length = l.length
  ids : ∀ j, j < l.length → (th s.1 j).Id = (th l j).Id
  b : ∀ j, j < l.length → (th l j).Id ∉ H.take i → th s.1 j = th l j
  c : ∀ id ∈ H.take i, id ∈ s.2 → ∀ j, j < l.length → (th l j).Id = id → th s.1 j = th l j
  d : ∀ id ∈ H.take i, id ∉ s.2 → ∃ j, j < l.length ∧ (th l j).Id = id ∧ (th s.1 j).In ∈ bs
  e : ∀ id ∈ s.2, id ∈ H.take i
  f : ∀ (h : 0 < i) (h2 : i - 1 < H.length), H[i - 1] ∈ s.2 ↔ (pk s.1 H[i - 1] bs).2 = false
theorem pk_inv {bs : List Int} {l : List Thing} (hA : areB l = true) {H : List Int} (hs : Srt (hvB l) H) : ∀ i, i ≤ H.length → PkInv bs l H i (pkA bs l (H.take i))
  | 0, _ => by
    simp only [List.take_zero]
    exact ⟨hA, rfl, fun _ _ => rfl, fun _ _ _ => rfl, by simp, by simp, by simp [pkA], fun h => by omega⟩
  | i + 1, hi => by
    have I := pk_inv (bs := bs) hA hs i (by omega)
    have hiH : i < H.length := by omega
    rw [pkA_succ bs l H i hiH]
    generalize hst : pkA bs l (H.take i) = st at I
    have htake : H.take (i + 1) = H.take i ++ [H[i]] := by rw [List.take_add_one, List.getElem?_eq_getElem hiH]; rfl
    have hmem : ∀ x, x ∈ H.take (i + 1) ↔ x ∈ H.take i ∨ x = H[i] := fun x => by rw [htake, List.mem_append, List.mem_singleton]
    -- a number that came before is the last that came
    have hlast : H[i] ∈ H.take i → 0 < i ∧ ∃ h : i - 1 < H.length, H[i - 1] = H[i] := fun hm => by
      obtain ⟨m, hm1, hm2⟩ := List.mem_iff_getElem.1 hm
      have hmi : m < i := by simp at hm1; omega
      rw [List.getElem_take] at hm2
      refine ⟨by omega, by omega, ?_⟩
      by_cases hmi' : m = i - 1
      · subst hmi'; exact hm2
      · have a1 := List.pairwise_iff_getElem.1 hs m (i - 1) (by omega) (by omega) (by omega)
        have a2 := List.pairwise_iff_getElem.1 hs (i - 1) i (by omega) (by omega) (by omega)
        rw [hm2] at a1
        exact hvB_anti a1 a2
    unfold pkS
    cases hq : (pk st.1 H[i] bs).2 with
    | false =>
      have h1 := pk_false hq
      simp only [cond_false, h1]
      refine ⟨I.are, I.len, I.ids, fun j hj hn => I.b j hj (fun h => hn ((hmem _).2 (.inl h))), fun id hid hl j hj hjd => ?_, fun id hid hl => ?_, fun id hid => ?_, fun _ _ => ?_⟩
      · simp only [List.mem_append, List.mem_singleton] at hl
        by_cases hin : id ∈ H.take i
        · by_cases hil : id ∈ st.2
          · exact I.c id hin hil j hj hjd
          · have hid : id = H[i] := hl.resolve_left hil
            subst hid
            obtain ⟨h0, h2, h3⟩ := hlast hin
            have := (I.f h0 h2).2 (by rw [h3]; exact hq)
            rw [h3] at this
            exact absurd this hil
        · exact I.b j hj (by rw [hjd]; exact hin)
      · simp only [List.mem_append, List.mem_singleton, not_or] at hl
        exact I.d id (((hmem id).1 hid).resolve_right hl.2) hl.1
      · simp only [List.mem_append, List.mem_singleton] at hid
        exact (hmem id).2 (hid.imp (I.e id) (fun h => h))
      · simp only [Nat.add_sub_cancel]
        simp [hq]
    | true =>
      obtain ⟨b, hb, hp, h1⟩ := pk_true hq
      simp only [cond_true, h1]
      have P := (putV_ok hp).1
      have hth := P.th
      simp only [thB, Bool.and_eq_true, decide_eq_true_eq] at hth
      obtain ⟨k, hk, ek, hid⟩ := fnd_some hth.2
      have es := setIn_nat (box := b) hk ek
      have hkl : k < l.length := by rw [← I.len]; exact hk
      obtain ⟨R, _⟩ := Right.of_are hA
      have hne : ∀ j, j ≠ k → th (setIn st.1 H[i] b) j = th st.1 j := fun j hj => by
        unfold th; rw [es, List.getElem?_set_ne (Ne.symm hj)]
      have hkk : th (setIn st.1 H[i] b) k = { st.1[k] with In := b } := by unfold th; rw [es]; simp [hk]
      have hkid : (th l k).Id = H[i] := by rw [← I.ids k hkl, th_get hk]; exact hid
      have hnl : H[i] ∉ st.2 := fun h => by
        obtain ⟨h0, h2, h3⟩ := hlast (I.e _ h)
        have := (I.f h0 h2).1 (by rw [h3]; exact h)
        rw [h3, hq] at this; cases this
      have hidj : ∀ j, j < l.length → (th l j).Id ≠ H[i] → j ≠ k := fun j hj h e => h (by rw [e]; exact hkid)
      refine ⟨P.are, by rw [es]; simpa using I.len, fun j hj => ?_, fun j hj hn => ?_, fun id hin hl j hj hjd => ?_, fun id hin hl => ?_, fun id hin => (hmem id).2 (.inl (I.e id hin)), fun _ _ => ?_⟩
      · by_cases hjk : j = k
        · subst hjk; rw [hkk, hkid]; exact hid
        · rw [hne j hjk]; exact I.ids j hj
      · rw [hmem, not_or] at hn
        rw [hne j (hidj j hj hn.2)]; exact I.b j hj hn.1
      · have hn : id ≠ H[i] := fun e => hnl (e ▸ hl)
        rw [hne j (hidj j hj (by rw [hjd]; exact hn))]
        exact I.c id (((hmem id).1 hin).resolve_right hn) hl j hj hjd
      · by_cases hn : id = H[i]
        · exact ⟨k, hkl, by rw [hkid, hn], by rw [hkk]; exact hb⟩
        · obtain ⟨j, hj, h2, h3⟩ := I.d id (((hmem id).1 hin).resolve_right hn) hl
          exact ⟨j, hj, h2, by rw [hne j (hidj j hj (by rw [h2]; exact hn))]; exact h3⟩
      · simp only [Nat.add_sub_cancel]
        constructor
        · intro h; exact absurd h hnl
        · intro h
          rw [pk_of hb (putV_again hp)] at h; cases h
theorem twice_loop (v : List Thing × List Int × List Int) (hv : v.2.1.length ≤ 1000) (i : Nat) (hi : i < v.2.1.length) : ∃ x, loopM (laws_FnPacked_L2 v (i : Int)) big 0 = some x ∧ (x = .inl () ∨ x = .inr true) := by
  refine loopM_tot (body := laws_FnPacked_L2 v (i : Int)) (fun s => ∃ k : Nat, s = (k : Int) ∧ k ≤ i) (fun s => i - s.toNat) (fun x => x = .inl () ∨ x = .inr true) (fun s hs => ?_) big 0 ⟨0, rfl, by omega⟩ (by unfold big; omega)
  obtain ⟨k, rfl, hk⟩ := hs
  by_cases h : k < i
  · have h' : ((k : Int) < (i : Int)) := by omega
    have hw : w64 ((k : Int) + 1) = ((k + 1 : Nat) : Int) := w64_succ (by omega)
    cases he : (v.2.1[k]'(by omega) == v.2.1[i]) with
    | true => exact .inr (.inr ⟨true, by simp only [laws_FnPacked_L2, laws_FnPacked_L2_b, h', decide_true, cond_true, gi_nat (show k < v.2.1.length by omega), gi_nat hi, Option.bind_some, he], .inr rfl⟩)
    | false => exact .inl ⟨((k + 1 : Nat) : Int), by simp only [laws_FnPacked_L2, laws_FnPacked_L2_b, h', decide_true, cond_true, cond_false, gi_nat (show k < v.2.1.length by omega), gi_nat hi, Option.bind_some, he, hw], ⟨k + 1, rfl, h⟩, by omega⟩
  · have h' : ¬ ((k : Int) < (i : Int)) := by omega
    exact .inr (.inl ⟨(), by simp only [laws_FnPacked_L2, laws_FnPacked_L2_b, h', decide_false, cond_false], .inl rfl⟩)
theorem FnPacked_true (a : List Int) : laws_FnPacked a = some true := by
  unfold laws_FnPacked
  rw [big_eq]
  simp only [Option.bind_some]
  by_cases hb : (a.length : Int) > 4096
  · simp [hb]
  simp only [hb, decide_false, cond_false]
  obtain ⟨l, ids, bs, e, hl, hi, hbs⟩ := drawPackAll_ok a (by omega)
  have hl' : l.length ≤ 1048576 := by omega
  obtain ⟨⟨x, left⟩, _, p2, p3, p4, p5, p6⟩ := PackAll_eq l hl' ids bs (by omega) (by omega)
  simp only at p3 p4
  simp only [e, Option.bind_some, p2, spec_AreThings_eq l hl']
  cases ha : areB l with
  | false =>
    obtain ⟨rfl, rfl⟩ := Prod.mk.inj (p5 ha)
    simp [things_refl _ hl']
  | true =>
    simp only [Bool.not_true, cond_false]
    obtain ⟨H, h1, h2, h3⟩ := p6 ha (by omega) (by omega)
    have I := pk_inv (bs := bs) ha h2 H.length (Nat.le_refl _)
    rw [List.take_length, ← h3] at I
    obtain ⟨R, _⟩ := Right.of_are ha
    obtain ⟨R', _⟩ := Right.of_are I.are
    have I1 := I.len
    simp only at I1
    have hleft : left.length ≤ ids.length := by
      have := (pkA_le bs l H).2
      rw [← h3] at this
      simpa [h1.length_eq] using this
    have hfx : ∀ q, fnd x q = fnd l q := fun q => fnd_ids I1 (fun j hj => by
      have := I.ids j hj
      exact this) q
    have hfj : ∀ j, j < l.length → fnd l (th l j).Id = (j : Int) := fun j hj => by rw [th_get hj]; exact R.fnd j hj
    obtain ⟨y, hy, hyq⟩ := loopM_tot (body := laws_FnPacked_L1 (l, ids, bs) (x, left)) (fun s => ∃ k : Nat, s = (k : Int) ∧ k ≤ ids.length) (fun s => ids.length - s.toNat) (fun y => y = .inl () ∨ y = .inr true) (fun s hs => by
      obtain ⟨k, rfl, hk⟩ := hs
      by_cases h : k < ids.length
      · have h' : ((k : Int) < (ids.length : Int)) := by omega
        have hw : w64 ((k : Int) + 1) = ((k + 1 : Nat) : Int) := w64_succ (by omega)
        obtain ⟨z, hz, hz2⟩ := twice_loop (l, ids, bs) (by simp only; omega) k h
        have hbody : laws_FnPacked_L1 (l, ids, bs) (x, left) (k : Int) = laws_FnPacked_L2_k (l, ids, bs) (x, left) (k : Int) z := by
          simp only [laws_FnPacked_L1, laws_FnPacked_L1_b, h', decide_true, cond_true, hz, Option.bind_some]
        rcases hz2 with rfl | rfl
        · refine .inl ⟨((k + 1 : Nat) : Int), ?_, ⟨k + 1, rfl, h⟩, by omega⟩
          rw [hbody]
          have hin : ids[k] ∈ H := h1.mem_iff.2 (List.getElem_mem h)
          have hin' : ids[k] ∈ H.take H.length := by rw [List.take_length]; exact hin
          simp only [laws_FnPacked_L2_k, laws_FnPacked_L2_a, gi_nat h, Option.bind_some, impl_FindThing_eq x _ (show x.length ≤ 1048576 by omega), hfx, has_eq left _ p4]
          by_cases hil : ids[k] ∈ left
          · have hany : left.any (· == ids[k]) = true := by simp only [List.any_eq_true, beq_iff_eq]; exact ⟨_, hil, rfl⟩
            simp only [hany, cond_true]
            by_cases hf : 0 ≤ fnd l ids[k]
            · obtain ⟨j, hj, ej, hjd⟩ := fnd_some hf
              have := I.c _ hin' hil j hj (by rw [th_get hj]; exact hjd)
              simp only at this
              have e1 : gi x (j : Int) = some (th l j) := by rw [gi_nat (by omega), ← this, th_get (by omega)]
              have e2 : gi l (j : Int) = some (th l j) := by rw [gi_nat hj, th_get hj]
              simp only [ej, e1, e2, Option.bind_some, hw, show ((j : Int) ≥ 0) by omega, decide_true, cond_true, Bool.not_true, cond_false]
            · simp only [show ¬ (fnd l ids[k] ≥ 0) by omega, decide_false, cond_false, hw]
          · have hany : left.any (· == ids[k]) = false := by
              rw [← Bool.not_eq_true, List.any_eq_true]
              rintro ⟨q, hq, e⟩
              rw [beq_iff_eq] at e; subst e; exact hil hq
            obtain ⟨j, hj, hjd, hjb⟩ := I.d _ hin' hil
            simp only at hjb
            have ej : fnd l ids[k] = (j : Int) := by rw [← hjd]; exact hfj j hj
            have e1 : gi x (j : Int) = some (th x j) := by rw [gi_nat (by omega), th_get (by omega)]
            have hany2 : bs.any (· == (th x j).In) = true := by simp only [List.any_eq_true, beq_iff_eq]; exact ⟨_, hjb, rfl⟩
            simp only [hany, cond_false, ej, show ¬ ((j : Int) < 0) by omega, decide_false, e1, Option.bind_some, has_eq bs _ (show bs.length ≤ 1048576 by omega), hany2, Bool.not_true, hw]
        · exact .inr (.inr ⟨true, by rw [hbody]; rfl, .inr rfl⟩)
      · have h' : ¬ ((k : Int) < (ids.length : Int)) := by omega
        exact .inr (.inl ⟨(), by simp only [laws_FnPacked_L1, laws_FnPacked_L1_b, h', decide_false, cond_false], .inl rfl⟩)) big 0 ⟨0, rfl, by omega⟩ (by unfold big; omega)
    rw [hy]
    rcases hyq with rfl | rfl
    · have hax := I.are
      simp only at hax
      simp only [Option.bind_some, laws_FnPacked_L1_k, laws_FnPacked_L1_a, impl_AreThings_eq x (show x.length ≤ 1048576 by omega), hax, cond_true]
      simp; omega
    · rfl
end Go.Sx
