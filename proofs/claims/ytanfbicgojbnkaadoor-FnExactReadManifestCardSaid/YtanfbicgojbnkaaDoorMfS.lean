/- The two readers agree at every text; the exact law on reading answers true. -/
import Derived.Test.YtanfbicgojbnkaaDoorMfR
namespace Go.Sx
set_option linter.unusedVariables false

theorem one_F (self : manifestReader → Int → Option (Bool × manifestReader)) (s : ByteArray) (hs : s.size ≤ 1048576) (i : Nat) (hi : i ≤ s.size) (out : List Pair) (ho : out.length ≤ 40) (inn : Int) :
    impl_manifestReader_one_F self ⟨s, (i : Int), out⟩ inn =
      if (pI (ext s i (run s i))).2 = false ∨ ¬ (1 ≤ (pI (ext s i (run s i))).1 ∧ (pI (ext s i (run s i))).1 ≤ 9999) ∨ out.length = 40 then some (false, ⟨s, ((run s i : Nat) : Int), out⟩)
      else if ¬ (run s i < s.size ∧ bt s (run s i) = 91) then some (true, ⟨s, ((run s i : Nat) : Int), out ++ [⟨(pI (ext s i (run s i))).1, inn⟩]⟩)
      else (loopM (impl_manifestReader_one_L2 self (pI (ext s i (run s i)))) big (s, ((run s i + 1 : Nat) : Int), out ++ [⟨(pI (ext s i (run s i))).1, inn⟩], 0)).bind impl_manifestReader_one_L2_k := by
  have hk := run_le s i hi
  have hge := run_ge s i
  have hsz := Nat.le_trans (ext_size s i (run s i) hk) hs
  have hpi : impl_ParseInt (ext s i (run s i)) = some (pI (ext s i (run s i))) := by unfold impl_ParseInt; rw [if_pos (by omega)]
  unfold impl_manifestReader_one_F
  rw [impl_digits ⟨s, (i : Int), out⟩ i hi hs]
  simp only [Option.bind_some, impl_manifestReader_one_L1_k, impl_manifestReader_one_L1_a, stM_nat hge hk, Int.toNat_natCast, hpi, within_eq]
  generalize pI (ext s i (run s i)) = v
  obtain ⟨v, ok⟩ := v
  cases ok with
  | false => simp
  | true =>
    simp only [Bool.not_true, cond_false, Bool.true_eq_false, false_or]
    by_cases h1 : 1 ≤ v ∧ v ≤ 9999
    · have c1 : inB v 1 9999 = true := by unfold inB; simp; omega
      rw [c1]
      simp only [Bool.not_true, cond_false]
      by_cases h2 : out.length = 40
      · have c2 : ((out.length : Int) == 40) = true := by rw [beqI]; simp; omega
        rw [c2, if_pos (.inr h2)]; rfl
      · have c2 : ((out.length : Int) == 40) = false := by rw [beqI]; simp; omega
        rw [c2, if_neg (by rintro (h | h); exact h h1; exact h2 h)]
        simp only [cond_false]
        rw [ap_eq (by simp; omega) (by omega)]
        simp only [Option.bind_some]
        by_cases h3 : run s i < s.size
        · have c3 : (((run s i : Nat) : Int) == (s.size : Int)) = false := by rw [beqI]; simp; omega
          have hlt := bt_lt s (run s i)
          have c4 : (((bt s (run s i) : Nat) : Int) != 91) = !decide (bt s (run s i) = 91) := by rw [bneI]; simp; omega
          rw [c3]
          simp only [cond_false, siM_nat h3, Option.bind_some, c4]
          by_cases h4 : bt s (run s i) = 91
          · rw [decide_eq_true h4, if_neg (by simp [h3, h4])]
            simp only [Bool.not_true, cond_false, w64_succ (show run s i ≤ 1048576 by omega)]
          · rw [decide_eq_false h4, if_pos (by simp [h4])]
            rfl
        · have c3 : (((run s i : Nat) : Int) == (s.size : Int)) = true := by rw [beqI]; simp; omega
          rw [c3, if_pos (by simp [h3])]
          rfl
    · have c1 : inB v 1 9999 = false := by
        unfold inB; simp; omega
      rw [c1, if_pos (.inl h1)]
      rfl

/-- what the program's reader leaves, and where the reference's stands then -/
structure OneOk (s : ByteArray) (i : Nat) (out : List Pair) (bx : List Int) (ok : Bool) (a : Nat) (o : List Pair) : Prop where
  ge : i ≤ a
  le : a ≤ s.size
  l1 : out.length ≤ o.length
  l2 : o.length ≤ 40
  good : ok = true → i < a ∧ o ≠ [] ∧ ∀ x, End s (o, bx, false, (a : Int)) x → End s (out, bx, true, (i : Int)) x
  bad : ok = false → ∃ x, End s (out, bx, true, (i : Int)) x ∧ Bad x
theorem one_spec (s : ByteArray) (hs : s.size ≤ 1048576) : ∀ (f : Nat) (i : Nat) (inn : Int) (out : List Pair) (bx : List Int), 41 ≤ out.length + f → out.length ≤ 40 → bx.length ≤ out.length → i ≤ s.size → (bx = [] → out = []) → inn = bx.getLast?.getD 0 →
    (bx = [] ∨ (0 < i ∧ ((bt s (i - 1) = 91 ∧ (i < s.size → bt s i ≠ 93)) ∨ bt s (i - 1) = 32))) →
    ∃ ok a o, impl_manifestReader_one_n f ⟨s, (i : Int), out⟩ inn = some (ok, ⟨s, ((a : Nat) : Int), o⟩) ∧ OneOk s i out bx ok a o
  | 0, i, inn, out, bx, h1, h2, _, _, _, _, _ => by omega
  | f + 1, i, inn, out, bx, h1, h2, h3, h4, h5, h6, h7 => by
    show ∃ ok a o, impl_manifestReader_one_F (impl_manifestReader_one_n f) ⟨s, (i : Int), out⟩ inn = some (ok, ⟨s, ((a : Nat) : Int), o⟩) ∧ OneOk s i out bx ok a o
    have hk := run_le s i h4
    have hge := run_ge s i
    rw [one_F _ s hs i h4 out h2 inn]
    by_cases hd : i < s.size ∧ 49 ≤ bt s i ∧ bt s i ≤ 57
    · have hi := hd.1
      have hrun : run s i = run s (i + 1) := run_go hi ⟨by omega, by omega⟩
      have hlt : i < run s i := by rw [hrun]; have := run_ge s (i + 1); omega
      obtain ⟨r, hr⟩ := ext_head hi hlt
      by_cases hbad : (pI (ext s i (run s i))).2 = false ∨ ¬ (1 ≤ (pI (ext s i (run s i))).1 ∧ (pI (ext s i (run s i))).1 ≤ 9999) ∨ out.length = 40
      · rw [if_pos hbad]
        refine ⟨false, _, out, rfl, hge, hk, Nat.le_refl _, h2, fun e => (by cases e), fun _ => ⟨_, End.ret (by simp; omega) (sb_num_bad hi hs hd.2 ?_), bad_ret⟩⟩
        rcases hbad with hb | hb | hb
        · exact .inl hb
        · cases hp : (pI (ext s i (run s i))).2 with
          | false => exact .inl rfl
          | true =>
            obtain ⟨u, hu, hpu, hl⟩ := pI_true hp
            rw [hpu] at hb ⊢
            simp only at hb ⊢
            right; left
            by_cases hu0 : u = 0
            · subst hu0
              rw [hr, dd_small (by omega)] at hl
              have := congrArg (fun l => (l.headD 0).toNat) hl
              simp only [List.headD_cons, ofNat_bt, digit_nat (show 0 < 10 by omega)] at this
              omega
            · omega
        · exact .inr (.inr (by omega))
      · rw [if_neg hbad]
        simp only [not_or, Classical.not_not, Bool.not_eq_false] at hbad
        obtain ⟨hp, hv, hl40⟩ := hbad
        obtain ⟨u, hu, hpu, hl⟩ := pI_true hp
        rw [hpu] at hv ⊢
        simp only at hv ⊢
        have hstep := sb_num_ok hi hs hd.2 (o := out) (bx := bx) hpu (by omega) (by omega) (by omega) h5
        rw [← h6] at hstep
        by_cases hop : run s i < s.size ∧ bt s (run s i) = 91
        · rw [if_neg (by simp [hop])]
          rw [if_pos hop] at hstep
          have hst : ∀ x, End s (out ++ [⟨(u : Int), inn⟩], bx ++ [(u : Int)], true, ((run s i + 1 : Nat) : Int)) x → End s (out, bx, true, (i : Int)) x := fun x e => e.step hstep (by simp only [Int.toNat_natCast]; omega)
          have hbx1 : bx ++ [(u : Int)] ≠ [] := by simp
          obtain ⟨y, hy, hq⟩ := loopM_tot (body := impl_manifestReader_one_L2 (impl_manifestReader_one_n f) ((u : Int), true))
            (fun z => ∃ (a j : Nat) (o : List Pair), z = (s, (a : Int), o, (j : Int)) ∧ run s i + 1 ≤ a ∧ a ≤ s.size ∧ out.length + 1 ≤ o.length ∧ o.length ≤ 40 ∧ j ≤ a ∧ (∀ x, End s (o, bx ++ [(u : Int)], decide (j = 0), (a : Int)) x → End s (out, bx, true, (i : Int)) x) ∧ (j = 0 → bt s (a - 1) = 91))
            (fun z => s.size - z.2.1.toNat)
            (fun y => (∃ (a : Nat) (o : List Pair), y = .inl (s, (a : Int), o) ∧ run s i + 1 ≤ a ∧ a ≤ s.size ∧ out.length + 1 ≤ o.length ∧ o.length ≤ 40 ∧ ((a = s.size ∧ ∃ x, End s (out, bx, true, (i : Int)) x ∧ Bad x) ∨ (a < s.size ∧ ∀ x, End s (o, bx, false, ((a + 1 : Nat) : Int)) x → End s (out, bx, true, (i : Int)) x))) ∨
              ∃ (a : Nat) (o : List Pair), y = .inr (false, ⟨s, (a : Int), o⟩) ∧ i ≤ a ∧ a ≤ s.size ∧ out.length ≤ o.length ∧ o.length ≤ 40 ∧ ∃ x, End s (out, bx, true, (i : Int)) x ∧ Bad x) (fun z hz => by
              obtain ⟨a, j, o, rfl, ha1, ha2, ho1, ho2, hja, hE, hj0⟩ := hz
              by_cases hae : a < s.size
              · have c1 : decide ((a : Int) < (s.size : Int)) = true := by simp; omega
                have hlt := bt_lt s a
                have b1 : (((bt s a : Nat) : Int) != 93) = !decide (bt s a = 93) := by rw [bneI]; simp; omega
                have b2 : (((bt s a : Nat) : Int) != 32) = !decide (bt s a = 32) := by rw [bneI]; simp; omega
                by_cases h93 : bt s a = 93
                · right; left
                  refine ⟨(s, (a : Int), o), ?_, .inl ⟨a, o, rfl, ha1, ha2, ho1, ho2, .inr ⟨hae, fun x e => hE x ?_⟩⟩⟩
                  · simp only [impl_manifestReader_one_L2, impl_manifestReader_one_L2_b, c1, cond_true, siM_nat hae, Option.bind_some, b1, decide_eq_true h93, Bool.not_true, cond_false]
                  · refine e.step (sb_close hae hs h93 (by omega) ?_) (by simp only [Int.toNat_natCast]; omega)
                    by_cases hj : j = 0
                    · exact .inr ⟨by simp [hj], by omega, hj0 hj⟩
                    · exact .inl (by simp [hj])
                · -- one more is read
                  have hself : ∀ (i2 : Nat), i2 ≤ s.size → 0 < i2 → ((bt s (i2 - 1) = 91 ∧ (i2 < s.size → bt s i2 ≠ 93)) ∨ bt s (i2 - 1) = 32) → ∃ ok a' o', impl_manifestReader_one_n f ⟨s, (i2 : Int), o⟩ (u : Int) = some (ok, ⟨s, ((a' : Nat) : Int), o'⟩) ∧ OneOk s i2 o (bx ++ [(u : Int)]) ok a' o' := fun i2 hi2 h0 hc =>
                    one_spec s hs f i2 (u : Int) o (bx ++ [(u : Int)]) (by omega) ho2 (by simp; omega) hi2 (fun h => absurd h hbx1) (by simp) (.inr ⟨h0, hc⟩)
                  have hj1 : ∀ (i2 : Nat), a ≤ i2 → i2 ≤ s.size → 0 < i2 → ((bt s (i2 - 1) = 91 ∧ (i2 < s.size → bt s i2 ≠ 93)) ∨ bt s (i2 - 1) = 32) → (∀ x, End s (o, bx ++ [(u : Int)], true, (i2 : Int)) x → End s (o, bx ++ [(u : Int)], decide (j = 0), (a : Int)) x) →
                      impl_manifestReader_one_L2 (impl_manifestReader_one_n f) ((u : Int), true) (s, (a : Int), o, (j : Int)) = impl_manifestReader_one_j1 (impl_manifestReader_one_n f) ((u : Int), true) s o (j : Int) (i2 : Int) →
                      (∃ s', impl_manifestReader_one_L2 (impl_manifestReader_one_n f) ((u : Int), true) (s, (a : Int), o, (j : Int)) = some (.next s') ∧ (∃ (a j : Nat) (o : List Pair), s' = (s, (a : Int), o, (j : Int)) ∧ run s i + 1 ≤ a ∧ a ≤ s.size ∧ out.length + 1 ≤ o.length ∧ o.length ≤ 40 ∧ j ≤ a ∧ (∀ x, End s (o, bx ++ [(u : Int)], decide (j = 0), (a : Int)) x → End s (out, bx, true, (i : Int)) x) ∧ (j = 0 → bt s (a - 1) = 91)) ∧ s.size - s'.2.1.toNat < s.size - ((s, (a : Int), o, (j : Int)) : ByteArray × Int × List Pair × Int).2.1.toNat) ∨
                        ∃ r, impl_manifestReader_one_L2 (impl_manifestReader_one_n f) ((u : Int), true) (s, (a : Int), o, (j : Int)) = some (.ret r) ∧ (∃ (a : Nat) (o : List Pair), (.inr r : (ByteArray × Int × List Pair) ⊕ (Bool × manifestReader)) = .inr (false, ⟨s, (a : Int), o⟩) ∧ i ≤ a ∧ a ≤ s.size ∧ out.length ≤ o.length ∧ o.length ≤ 40 ∧ ∃ x, End s (out, bx, true, (i : Int)) x ∧ Bad x) := fun i2 hai hi2 h0 hc hcon hL => by
                    obtain ⟨ok, a', o', e, O⟩ := hself i2 hi2 h0 hc
                    rw [hL]
                    simp only [impl_manifestReader_one_j1, e, Option.bind_some]
                    have hle := O.le
                    have hge2 := O.ge
                    have hl1 := O.l1
                    have hl2 := O.l2
                    cases ok with
                    | true =>
                      obtain ⟨g1, _, g3⟩ := O.good rfl
                      left
                      refine ⟨(s, (a' : Int), o', ((j + 1 : Nat) : Int)), by simp only [Bool.not_true, cond_false, w64_succ (show j ≤ 1048576 by omega)], ⟨a', j + 1, o', rfl, by omega, hle, by omega, hl2, by omega, fun x ex => hE x (hcon x (g3 x (by simpa using ex))), fun h => absurd h (by omega)⟩, by simp only [Int.toNat_natCast]; omega⟩
                    | false =>
                      obtain ⟨x, g1, g2⟩ := O.bad rfl
                      right
                      exact ⟨(false, ⟨s, (a' : Int), o'⟩), by simp only [Bool.not_false, cond_true], a', o', rfl, by omega, hle, by omega, hl2, x, hE x (hcon x g1), g2⟩
                  have hb93 : decide (bt s a = 93) = false := by simp [h93]
                  by_cases hj : j = 0
                  · subst hj
                    have c2 : decide (((0 : Nat) : Int) > 0) = false := by simp
                    have hL : impl_manifestReader_one_L2 (impl_manifestReader_one_n f) ((u : Int), true) (s, (a : Int), o, ((0 : Nat) : Int)) = impl_manifestReader_one_j1 (impl_manifestReader_one_n f) ((u : Int), true) s o ((0 : Nat) : Int) (a : Int) := by
                      simp only [impl_manifestReader_one_L2, impl_manifestReader_one_L2_b, c1, cond_true, siM_nat hae, Option.bind_some, b1, hb93, Bool.not_false, c2, cond_false]
                    rcases hj1 a (Nat.le_refl _) ha2 (by omega) (.inl ⟨hj0 rfl, fun _ => h93⟩) (fun x e => by simpa using e) hL with h | ⟨r, h, hq⟩
                    · exact .inl h
                    · exact .inr (.inr ⟨r, h, .inr hq⟩)
                  · have c2 : decide ((j : Int) > 0) = true := by simp; omega
                    have hfr : decide (j = 0) = false := by simp [hj]
                    by_cases h32 : bt s a = 32
                    · have hL : impl_manifestReader_one_L2 (impl_manifestReader_one_n f) ((u : Int), true) (s, (a : Int), o, (j : Int)) = impl_manifestReader_one_j1 (impl_manifestReader_one_n f) ((u : Int), true) s o (j : Int) ((a + 1 : Nat) : Int) := by
                        simp only [impl_manifestReader_one_L2, impl_manifestReader_one_L2_b, c1, cond_true, siM_nat hae, Option.bind_some, b1, hb93, Bool.not_false, c2, b2, decide_eq_true h32, Bool.not_true, cond_false, w64_succ (show a ≤ 1048576 by omega)]
                      rcases hj1 (a + 1) (by omega) hae (by omega) (.inr (by simpa using h32)) (fun x e => by rw [hfr]; exact e.step (sb_space hae hs h32 hbx1) (by simp only [Int.toNat_natCast]; omega)) hL with h | ⟨r, h, hq⟩
                      · exact .inl h
                      · exact .inr (.inr ⟨r, h, .inr hq⟩)
                    · have hL : impl_manifestReader_one_L2 (impl_manifestReader_one_n f) ((u : Int), true) (s, (a : Int), o, (j : Int)) = some (.ret (false, ⟨s, (a : Int), o⟩)) := by
                        simp only [impl_manifestReader_one_L2, impl_manifestReader_one_L2_b, c1, cond_true, siM_nat hae, Option.bind_some, b1, hb93, Bool.not_false, c2, b2, decide_eq_false h32]
                      exact .inr (.inr ⟨_, hL, .inr ⟨a, o, rfl, by omega, ha2, by omega, ho2, .inr ([], false), hE _ (by rw [hfr]; exact End.ret (by simp; omega) (sb_fail hae hs (.inr (by omega)) (.inl rfl) (fun h => h93 h.1) (fun h => h32 h.1))), bad_ret⟩⟩)
              · have hae' : a = s.size := by omega
                have c1 : decide ((a : Int) < (s.size : Int)) = false := by simp; omega
                right; left
                refine ⟨(s, (a : Int), o), by simp only [impl_manifestReader_one_L2, impl_manifestReader_one_L2_b, c1, cond_false], .inl ⟨a, o, rfl, ha1, ha2, ho1, ho2, .inl ⟨hae', .inl (o, bx ++ [(u : Int)]), hE _ ?_, bad_open hbx1⟩⟩⟩
                subst hae'
                exact End.brk (by simp) (sb_end s o _ _)) big (s, ((run s i + 1 : Nat) : Int), out ++ [⟨(u : Int), inn⟩], 0)
            ⟨run s i + 1, 0, _, rfl, Nat.le_refl _, hop.1, by simp, by simp; omega, by omega, fun x e => hst x (by simpa using e), fun _ => by simpa using hop.2⟩ (by simp only [Int.toNat_natCast]; unfold big; omega)
          rw [hy]
          simp only [Option.bind_some]
          rcases hq with ⟨a, o, rfl, ha1, ha2, ho1, ho2, ⟨hae, x, hx, hb⟩ | ⟨hae, hx⟩⟩ | ⟨a, o, rfl, ha1, ha2, ho1, ho2, x, hx, hb⟩
          · have c3 : ((a : Int) == (s.size : Int)) = true := by rw [beqI]; simp; omega
            refine ⟨false, a, o, by simp only [impl_manifestReader_one_L2_k, impl_manifestReader_one_L2_a, c3, cond_true], by omega, ha2, by omega, ho2, fun e => (by cases e), fun _ => ⟨x, hx, hb⟩⟩
          · have c3 : ((a : Int) == (s.size : Int)) = false := by rw [beqI]; simp; omega
            refine ⟨true, a + 1, o, by simp only [impl_manifestReader_one_L2_k, impl_manifestReader_one_L2_a, c3, cond_false, w64_succ (show a ≤ 1048576 by omega)], by omega, hae, by omega, ho2, fun _ => ⟨by omega, fun h => by subst h; simp at ho1, hx⟩, fun e => (by cases e)⟩
          · exact ⟨false, a, o, rfl, ha1, ha2, ho1, ho2, fun e => (by cases e), fun _ => ⟨x, hx, hb⟩⟩
        · rw [if_pos hop]
          rw [if_neg hop] at hstep
          refine ⟨true, _, _, rfl, hge, hk, by simp, by simp; omega, fun _ => ⟨hlt, by simp, fun x e => e.step hstep (by simp only [Int.toNat_natCast]; omega)⟩, fun e => (by cases e)⟩
    · have hbad : (pI (ext s i (run s i))).2 = false ∨ ¬ (1 ≤ (pI (ext s i (run s i))).1 ∧ (pI (ext s i (run s i))).1 ≤ 9999) ∨ out.length = 40 := by
        cases hp : (pI (ext s i (run s i))).2 with
        | false => exact .inl rfl
        | true =>
          obtain ⟨u, hu, hpu, hl⟩ := pI_true hp
          right; left
          rw [hpu]
          simp only
          by_cases h48 : i < s.size ∧ 48 ≤ bt s i ∧ bt s i ≤ 57
          · have hlt : i < run s i := by rw [run_go h48.1 h48.2]; have := run_ge s (i + 1); omega
            obtain ⟨r, hr⟩ := ext_head h48.1 hlt
            by_cases hu0 : u = 0
            · omega
            · obtain ⟨c, r2, e, hc1, hc2⟩ := dd_head u (by omega)
              rw [hr, e] at hl
              have := congrArg (fun l => (l.headD 0).toNat) hl
              simp only [List.headD_cons, ofNat_bt] at this
              exact absurd ⟨h48.1, by omega, by omega⟩ hd
          · rw [ext_list, run_stop h48, Nat.sub_self, List.take_zero] at hl
            exact absurd hl.symm (dd_ne u)
      rw [if_pos hbad]
      refine ⟨false, _, out, rfl, hge, hk, Nat.le_refl _, h2, fun e => (by cases e), fun _ => ?_⟩
      by_cases hi : i < s.size
      · refine ⟨_, End.ret (by simp; omega) (sb_fail hi hs (h7.imp (fun h => h) (fun h => h.1)) (.inr fun h => hd ⟨hi, h⟩) (fun h => ?_) (fun h => by cases h.2.2)), bad_ret⟩
        obtain ⟨h93, hb, h91⟩ := h
        rcases h7 with h7 | ⟨_, ⟨_, h7⟩ | h7⟩
        · exact hb h7
        · exact h7 hi h93
        · rcases h91 with h91 | h91
          · cases h91
          · omega
      · have : i = s.size := by omega
        subst this
        refine ⟨_, End.brk (by simp) (sb_end s out bx true), ?_⟩
        by_cases hbx : bx = []
        · have := h5 hbx
          subst hbx this
          exact bad_none
        · exact bad_open hbx

/-- both read alike -/
theorem read_eq (s : ByteArray) (hs : s.size ≤ 1048576) : ∃ r : List Pair × Bool, impl_ReadManifest s = some r ∧ spec_ReadManifest s = some r ∧ r.1.length ≤ 40 := by
  obtain ⟨ok, a, o, e, O⟩ := one_spec s hs big 0 0 [] [] (by unfold big; simp) (by simp) (by simp) (by omega) (fun _ => rfl) rfl (.inl rfl)
  have hle := O.le
  have hl2 := O.l2
  have e' : impl_manifestReader_one ⟨s, 0, []⟩ 0 = some (ok, ⟨s, (a : Int), o⟩) := e
  have hend : ∀ x, End s ([], [], true, ((0 : Nat) : Int)) x → loopM (spec_ReadManifest_L1 s) big ([], [], true, 0) = some x := fun x hx => by
    obtain ⟨n, h1, h2⟩ := hx
    exact loopM_big h2 (by simp at h1; unfold big; omega)
  unfold impl_ReadManifest spec_ReadManifest
  rw [e']
  simp only [Option.bind_some]
  cases ok with
  | false =>
    obtain ⟨x, h1, h2⟩ := O.bad rfl
    rw [hend x h1]
    exact ⟨([], false), rfl, h2, by simp⟩
  | true =>
    obtain ⟨h1, h2, h3⟩ := O.good rfl
    simp only [Bool.not_true, cond_false]
    by_cases ha : a = s.size
    · have c : ((a : Int) != (s.size : Int)) = false := by rw [bneI]; simp; omega
      subst ha
      rw [c, hend _ (h3 _ (End.brk (by simp) (sb_end s o [] false)))]
      refine ⟨(o, true), rfl, ?_, hl2⟩
      have c2 : ((o.length : Int) == 0) = false := by
        have := List.length_pos_iff.2 h2
        rw [beqI]; simp; omega
      simp only [Option.bind_some, spec_ReadManifest_L1_k, spec_ReadManifest_L1_a, c2, cond_false]
      rfl
    · have c : ((a : Int) != (s.size : Int)) = true := by rw [bneI]; simp; omega
      rw [c, hend _ (h3 _ (End.ret (by simp; omega) (sb_fail (by omega) hs (.inl rfl) (.inl rfl) (fun h => h.2.1 rfl) (fun h => h.2.1 rfl))))]
      exact ⟨([], false), rfl, rfl, by simp⟩
end Go.Sx
