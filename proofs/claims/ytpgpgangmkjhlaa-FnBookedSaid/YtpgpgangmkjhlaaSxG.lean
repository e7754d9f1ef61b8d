/- The operations that make or write memory, and calls: soundness. -/
import Derived.Test.YtpgpgangmkjhlaaSxF
namespace Go.Sx
set_option linter.unusedVariables false

theorem CC.congr {ρ ρ' : Nat → Value} {g : GHeap} : ∀ {c : CA} {y : Value}, (∀ i, c.has i = true → ρ' i = ρ i) → CC ρ g c y → CC ρ' g c y
  | .v _, _, _, h => h
  | .sl i, y, hn, h => by show y = ρ' i ∧ _; rw [hn i (by simp [CA.has])]; exact h
  | .ptr i off, y, hn, ⟨b, h1, h2⟩ => ⟨b, by rw [hn i (by simp [CA.has])]; exact h1, h2⟩
  | .pe i sz k off, y, hn, ⟨b, n, cap, h1, h2⟩ => ⟨b, n, cap, by rw [hn i (by simp [CA.has])]; exact h1, h2⟩
  | .rs _ _, _, _, h => h
  | .re _ _, _, _, h => h
  | .fn f ids, y, hn, ⟨bs, h1, h2⟩ => ⟨bs, h1.imp' fun i hi b hb => by rw [hn i (by simp only [CA.has, List.any_eq_true]; exact ⟨i, hi, by simp⟩)]; exact hb, h2⟩
  | .of F i, y, hn, h => by show y = F (ρ' i) ∧ _; rw [hn i (by simp [CA.has])]; exact h
theorem CAv.congr {ρ ρ' : Nat → Value} {g : GHeap} {c : AV} {y : Value} (hn : ∀ i, c.has i = true → ρ' i = ρ i) (h : CAv ρ g c y) : CAv ρ' g c y := by
  cases c with
  | c a => exact CC.congr hn h
  | agg cs =>
    obtain ⟨ys, e, h2⟩ := h
    exact ⟨ys, e, h2.imp' fun c hc b hb => CC.congr (fun i hi => hn i (by simp only [AV.has, List.any_eq_true]; exact ⟨c, hc, hi⟩)) hb⟩
theorem CR.congr {ρ ρ' : Nat → Value} {g : GHeap} {c : RV} {y : Value} (hn : ∀ i, c.has i = true → ρ' i = ρ i) (h : CR ρ g c y) : CR ρ' g c y := by
  cases c with
  | o a => exact CAv.congr hn h
  | tup vs =>
    obtain ⟨ys, e, h2⟩ := h
    exact ⟨ys, e, h2.imp' fun c hc b hb => CAv.congr (fun i hi => hn i (by simp only [RV.has, List.any_eq_true]; exact ⟨c, hc, hi⟩)) hb⟩
theorem ObOk.congr {ρ ρ' : Nat → Value} {g : GHeap} {w : World} {x : Value} {ob : OB} (hn : ∀ i, ob.has i = true → ρ' i = ρ i) (h : ObOk ρ g w x ob) : ObOk ρ' g w x ob := by
  cases ob with
  | row e sz L => exact h
  | smap k e D => exact h
  | rows e szs D => exact h
  | box ty cs =>
    obtain ⟨b, ys, h1, h2, h3, h4⟩ := h
    exact ⟨b, ys, h1, h2, h3.imp' fun c hc b hb => CC.congr (fun i hi => hn i (by simp only [OB.has, List.any_eq_true]; exact ⟨c, hc, hi⟩)) hb, h4⟩
theorem ObOk.mono {ρ : Nat → Value} {g g' : GHeap} (hg : ∀ b c, g b = some c → g' b = some c) {w : World} {x : Value} {ob : OB} (h : ObOk ρ g w x ob) : ObOk ρ g' w x ob := by
  cases ob with
  | row e sz L => exact h
  | smap k e D => exact h
  | rows e szs D =>
    obtain ⟨ys, h1, h2⟩ := h
    exact ⟨ys, h1, h2.imp fun L y hy => (CC.mono (ρ := ρ) hg (a := .rs szs L) hy : CC ρ g' (.rs szs L) y)⟩
  | box ty cs =>
    obtain ⟨b, ys, h1, h2, h3, h4⟩ := h
    exact ⟨b, ys, h1, h2, h3.imp fun _ _ => CC.mono hg, h4⟩
theorem CC.regap {ρ : Nat → Value} {g g' : GHeap} : ∀ {c : CA} {y : Value}, c.free = true → CC ρ g c y → CC ρ g' c y
  | .v _, _, _, h => h
  | .sl _, _, _, h => h
  | .ptr _ _, _, _, h => h
  | .pe _ _ _ _, _, _, h => h
  | .fn _ _, _, _, h => h
  | .of _ _, _, _, h => h
  | .rs _ _, _, hf, _ => by cases hf
  | .re _ _, _, hf, _ => by cases hf
theorem CAv.regap {ρ : Nat → Value} {g g' : GHeap} {c : AV} {y : Value} (hf : c.free = true) (h : CAv ρ g c y) : CAv ρ g' c y := by
  cases c with
  | c a => exact CC.regap hf h
  | agg cs => obtain ⟨ys, e, h2⟩ := h; exact ⟨ys, e, h2.imp' fun c hc b hb => CC.regap (List.all_eq_true.1 hf c hc) hb⟩
theorem CR.regap {ρ : Nat → Value} {g g' : GHeap} {c : RV} {y : Value} (hf : c.free = true) (h : CR ρ g c y) : CR ρ g' c y := by
  cases c with
  | o a => exact CAv.regap hf h
  | tup vs => obtain ⟨ys, e, h2⟩ := h; exact ⟨ys, e, h2.imp' fun c hc b hb => CAv.regap (List.all_eq_true.1 hf c hc) hb⟩
theorem ObOk.regap {ρ : Nat → Value} {g g' : GHeap} {w : World} {x : Value} {ob : OB} (hf : ob.free = true) (h : ObOk ρ g w x ob) : ObOk ρ g' w x ob := by
  cases ob with
  | row e sz L => exact h
  | smap k e D => exact h
  | rows e szs D => cases hf
  | box ty cs =>
    obtain ⟨b, ys, h1, h2, h3, h4⟩ := h
    exact ⟨b, ys, h1, h2, h3.imp' fun c hc b hb => CC.regap (List.all_eq_true.1 hf c hc) hb, h4⟩

section
variable {E : Env} {S : St} {a : Act} {w : World} {ρ : Nat → Value} {g : GHeap}

/-- THE GENERAL STEP: some owned blocks (B) and new ones are turned; some objects are exchanged. -/
theorem SatX.move (h : SatX E S a w ρ g) {ρ' : Nat → Value} {g' : GHeap} {w' : World} {B : Nat → Prop} {mine rest : List (Nat × OB)} {fr' : List (Nat × RV)}
    (hfr : ∀ p ∈ fr', p ∈ S.fr ∧ ∀ i, p.2.has i = true → ρ' i = ρ i)
    (hrest : ∀ p ∈ rest, p ∈ S.ob ∧ (∀ i, p.2.has i = true → ρ' i = ρ i) ∧ ρ' p.1 = ρ p.1 ∧ ∀ k, blk (ρ p.1) = some k → ¬ B k)
    (hw : Fw B w w') (hB : ∀ k, B k → E.own k ∧ g k = none) (hgs : GSub g' w') (hgm : ∀ b c, g b = some c → g' b = some c)
    (hgn : ∀ b c, g' b = some c → g b = some c ∨ B b ∨ w.heap.size ≤ b)
    (hmine : Objs ρ' g' w' (fun b => B b ∨ w.heap.size ≤ b) mine) (hids : ((mine ++ rest).map (·.1)).Nodup) (hpi : ∀ p ∈ E.pre, ρ' p.1 = ρ p.1) :
    SatX E ⟨fr', mine ++ rest⟩ a w' ρ' g' := by
  have hlt := obBlk_lt h
  have hsz0 := h.fw.size
  refine ⟨h.size, h.defers, fun p hp => ?_, hgs, ⟨fun b c hb => hgm b c (h.gm.1 b c hb), h.gm.2⟩, fun b c hb => ?_, ⟨hids, fun p hp => ?_, fun p hp k hk => ?_, fun p hp q hq hpq k hk => ?_, fun p hp k hk => ?_⟩, ?_, fun p hp => (hpi p hp).trans (h.pi p hp)⟩
  · obtain ⟨h1, h2⟩ := hfr p hp
    obtain ⟨y, hy, hc⟩ := h.fr p h1
    exact ⟨y, hy, CR.mono hgm (CR.congr h2 hc)⟩
  · rcases hgn b c hb with h1 | h1 | h1
    · exact h.gn b c h1
    · exact .inr (hB b h1).1
    · exact .inr (.inr (Nat.le_trans hsz0 h1))
  · rcases List.mem_append.1 hp with hp | hp
    · exact hmine.ok p hp
    · obtain ⟨h1, h2, h3, h4⟩ := hrest p hp
      rw [h3]
      exact ObOk.mono hgm (ObOk.congr h2 ((h.ob.ok p h1).other fun k hk => hw.block k (hlt p h1 k hk) (h4 k hk)))
  · rcases List.mem_append.1 hp with hp | hp
    · rcases hmine.own p hp k hk with h1 | h1
      · exact (hB k h1).1
      · exact .inr (Nat.le_trans hsz0 h1)
    · obtain ⟨h1, h2, h3, h4⟩ := hrest p hp
      rw [h3] at hk
      exact h.ob.own p h1 k hk
  · rcases List.mem_append.1 hp with hp | hp
    · rcases List.mem_append.1 hq with hq | hq
      · exact hmine.apart p hp q hq hpq k hk
      · obtain ⟨h1, h2, h3, h4⟩ := hrest q hq
        rw [h3]
        intro hk'
        rcases hmine.own p hp k hk with h5 | h5
        · exact h4 k hk' h5
        · have := hlt q h1 k hk'; omega
    · obtain ⟨h1, h2, h3, h4⟩ := hrest p hp
      rw [h3] at hk
      rcases List.mem_append.1 hq with hq | hq
      · intro hk'
        rcases hmine.own q hq k hk' with h5 | h5
        · exact h4 k hk h5
        · have := hlt p h1 k hk; omega
      · obtain ⟨h1', h2', h3', h4'⟩ := hrest q hq
        rw [h3']
        exact h.ob.apart p h1 q h1' hpq k hk
  · rcases List.mem_append.1 hp with hp | hp
    · exact hmine.ro p hp k hk
    · obtain ⟨h1, h2, h3, h4⟩ := hrest p hp
      rw [h3] at hk
      cases hg' : g' k with
      | none => rfl
      | some c =>
        rcases hgn k c hg' with h5 | h5 | h5
        · rw [h.ob.ro p h1 k hk] at h5; cases h5
        · exact absurd h5 (h4 k hk)
        · have := hlt p h1 k hk; omega
  · exact h.fw.trans hw fun i hi hBi => by
      rcases (hB i hBi).1 with h1 | h1
      · exact h1
      · omega
theorem PB_of {l : List (Nat × OB)} {p : Nat × OB} (hp : p ∈ l) {k : Nat} (hk : blk (ρ p.1) = some k) : PB ρ l k := ⟨p, hp, hk⟩
theorem mem_dropIds {l : List (Nat × OB)} {ids : List Nat} {p : Nat × OB} (h : p ∈ dropIds l ids) : p ∈ l ∧ ∀ i ∈ ids, i ≠ p.1 := by
  obtain ⟨h1, h2⟩ := List.mem_filter.1 h
  refine ⟨h1, fun i hi e => ?_⟩
  simp only [Bool.not_eq_true', List.any_eq_false] at h2
  exact h2 i hi (by rw [e]; simp)
theorem mem_takeIds {l : List (Nat × OB)} {ids : List Nat} {p : Nat × OB} (h : p ∈ takeIds l ids) : p ∈ l ∧ p.1 ∈ ids := by
  obtain ⟨h1, h2⟩ := List.mem_filter.1 h
  obtain ⟨i, hi, e⟩ := List.any_eq_true.1 h2
  have := Nat.eq_of_beq_eq_true e
  exact ⟨h1, this ▸ hi⟩
theorem nodup_map_filter {l : List (Nat × OB)} {f : Nat × OB → Bool} (h : (l.map (·.1)).Nodup) : ((l.filter f).map (·.1)).Nodup := List.Nodup.sublist (List.Sublist.map _ (List.filter_sublist)) h
theorem freshId_spec {pids : List Nat} {S : St} {id : Nat} (h : freshId pids S id = true) : (∀ p ∈ S.ob, p.1 ≠ id) ∧ id ∉ pids ∧ ∀ p ∈ S.ob, p.2.has id = false := by
  simp only [freshId, Bool.and_eq_true, Bool.not_eq_true'] at h
  obtain ⟨⟨h1, h2⟩, h3⟩ := h
  refine ⟨hasId_false h1, fun hm => ?_, fun p hp => by simpa using List.all_eq_true.1 h3 p hp⟩
  simp only [List.any_eq_false] at h2
  exact h2 id hm (by simp)

/-- A source of cells, as append reads it. -/
theorem src_cells (hg : GSub g w) {sz : Nat} {M : List (List Value)} {y : Value} (h : RsOk g sz M y) :
    (y = .slice none 0 0 ∧ M = []) ∨ ∃ ad c, y = .slice (some ad) M.length c ∧ M.flatten.length = M.length * sz ∧ ∀ j u, M.flatten[j]? = some u → w.cell? (ad.add j) = some u := by
  obtain ⟨h1, h2, h3⟩ := h
  rcases h3 with ⟨h3 | ⟨ad, cp, rfl, _⟩, rfl⟩ | ⟨b, o, cap, c, rfl, hb, _, _, ht⟩
  · exact .inl ⟨h3, rfl⟩
  · exact .inr ⟨ad, cp, rfl, by simp, fun j u hj => by simp at hj⟩
  · refine .inr ⟨_, _, rfl, flat_len h1, fun j u hj => ?_⟩
    obtain ⟨e, fr, he⟩ := hg b c hb
    rw [add_mk]
    have hl := flat_len h1
    rw [← hl] at ht
    have := seg_get ht hj
    simp [World.cell?, he]
    simpa using this
theorem append_run {P : Program} {t ty e : TypeId} {i : TypeInfo} {z : Value} {sz : Nat} (ht : P.underlying t = some (.slice e)) (hi : P.info? e = some i) (hz : i.zero = some z) (hsz : i.size = sz) (hzs : z.cells.size = sz) (h0 : 0 < sz)
    {v : Value} {L M : List (List Value)} (hown : w.ownsRow 0 e sz v L.length L.flatten) {gy : GHeap} (hgy : GSub gy w) {y : Value} (hy : RsOk gy sz M y)
    (b1 : L.length + M.length ≤ maxLen) (b2 : (L.length + M.length) * i.bytes ≤ 140737488355328) :
    ∃ v' w', (Builtin.append_ #[t, t] ty #[v, y]).run P w = .ok v' w' ∧ w'.ownsRow 0 e sz v' (L ++ M).length (L ++ M).flatten ∧ w.grownBy w' (blk v) ∧ (blk v' = none ∨ blk v' = blk v ∨ ∃ b, blk v' = some b ∧ w.heap.size ≤ b) := by
  have hblk : v.ownBlock = blk v := by
    rcases hown.2 with ⟨rfl, _⟩ | ⟨b, cap, cur, rfl, _⟩ <;> rfl
  rcases src_cells hgy hy with ⟨rfl, rfl⟩ | ⟨ad, c, rfl, hl, hc⟩
  · refine ⟨v, w, ?_, by simpa using hown, ⟨rfl, rfl, rfl, Nat.le_refl _, fun _ _ _ => rfl⟩, .inr (.inl rfl)⟩
    rcases hown.2 with ⟨rfl, _⟩ | ⟨b, cap, cur, rfl, _, hh, hn, _, hcs, _⟩
    · simp [Builtin.append_, run_underlying ht, sizeOf, typeInfo, hi, Builtin.lenOf, Builtin.firstCells]
    · simp [Builtin.append_, run_underlying ht, sizeOf, typeInfo, hi, Builtin.lenOf, Builtin.firstCells, hn, storeCells]
  · obtain ⟨v', w', hr, h2, h3, h4⟩ := run_append_own (P := P) w 0 t ty e i z sz i.bytes ht hi hz hsz rfl hzs h0 v L.length L.flatten hown ad M.length c M.flatten hl hc hy.2.1 b1 b2 (Nat.zero_le _)
    rw [hblk] at h3
    refine ⟨v', w', hr, by rw [List.length_append, List.flatten_append]; exact h2, h3, ?_⟩
    have hM : ∀ u ∈ M.flatten, u.oneCell' = true := hy.2.1
    rcases hown.2 with ⟨rfl, h00⟩ | ⟨b, cap, cur, rfl, _, hh, hn, _, hcs, htk⟩
    · by_cases hm : M.length = 0
      · have : v' = .slice none 0 0 := h4.2 ⟨rfl, hm⟩
        rw [this]; exact .inl rfl
      · have he := run_append_nil (P := P) w t ty e i z ht hi hz ad M.length c M.flatten (by rw [hsz]; exact hl) hc (by omega) (by simp only [maxLen] at b1; omega) (Nat.le_trans (Nat.mul_le_mul_right _ (Nat.le_add_left _ L.length)) (Nat.le_trans b2 (by omega)))
        rw [hr] at he
        simp only [Result.ok.injEq] at he
        rw [he.1]
        exact .inr (.inr ⟨_, rfl, Nat.le_refl _⟩)
    · by_cases hroom : L.length + M.length ≤ cap
      · have hfit : L.length * i.size + M.flatten.length ≤ cur.size := by rw [hl, hcs, hsz, ← Nat.add_mul]; exact Nat.mul_le_mul_right _ hroom
        have he := run_append_room (P := P) w t ty e i ht hi b L.length cap cur hh ad M.length c M.flatten (by rw [hsz]; exact hl) hc hM hroom hfit
        rw [hr] at he
        simp only [Result.ok.injEq] at he
        rw [he.1]
        exact .inr (.inl rfl)
      · have holds : ∀ j u, L.flatten[j]? = some u → w.cell? ((⟨b, 0, none⟩ : Addr).add j) = some u := hown.cells (g := b) rfl
        have he := run_append_grow (P := P) w t ty e i z ht hi hz ⟨b, 0, none⟩ L.length cap L.flatten (by rw [hsz]; exact hown.1) holds ad M.length c M.flatten (by rw [hsz]; exact hl) hc (by omega) (by simp only [maxLen] at b1; omega) (growslice_fits (by omega) b2)
        rw [hr] at he
        simp only [Result.ok.injEq] at he
        rw [he.1]
        exact .inr (.inr ⟨_, rfl, Nat.le_refl _⟩)
theorem row_append (h : SatX E S a w ρ g) {id id2 : Nat} {e : TypeId} {sz : Nat} {L M : List (List Value)} (hob : look S.ob id = some (.row e sz L)) (hid : freshId (E.pre.map (·.1)) ⟨S.fr, dropIds S.ob [id]⟩ id2 = true)
    (hM : ∀ cs ∈ M, cs.length = sz) (hM1 : ∀ u ∈ M.flatten, u.oneCell' = true) {v' : Value} {w' : World} (hown : w'.ownsRow 0 e sz v' (L ++ M).length (L ++ M).flatten) (hg : w.grownBy w' (blk (ρ id))) (hb : blk v' = none ∨ blk v' = blk (ρ id) ∨ ∃ b, blk v' = some b ∧ w.heap.size ≤ b) :
    SatX E ⟨delId S.fr id2, [(id2, .row e sz (L ++ M))] ++ dropIds S.ob [id]⟩ a w' (upd ρ id2 v') g := by
  have hm := look_mem hob
  obtain ⟨_, hL, hL1⟩ := h.ob.ok _ hm
  obtain ⟨f1, f2, f3⟩ := freshId_spec hid
  have hBg : ∀ k, some k = blk (ρ id) → g k = none := fun k hk => h.ob.ro _ hm k hk.symm
  refine h.move (B := fun k => some k = blk (ρ id)) (fun p hp => ?_) (fun p hp => ?_) ⟨hg.os, hg.tape, hg.output, hg.size, fun k hk hn => hg.block k hk hn⟩ (fun k hk => ⟨h.ob.own _ hm k hk.symm, hBg k hk⟩)
    (fun k c hk => ?_) (fun _ _ h => h) (fun b c hb => .inl hb) ⟨by simp, fun p hp => ?_, fun p hp k hk => ?_, fun p hp q hq hpq => ?_, fun p hp k hk => ?_⟩ ?_ (fun p hp => ?_)
  · obtain ⟨h1, h2⟩ := List.mem_filter.1 hp
    exact ⟨h1, fun i hi => upd_ne _ _ _ i fun e => by subst e; simp [hi] at h2⟩
  · obtain ⟨h1, h2⟩ := mem_dropIds hp
    refine ⟨h1, (fun i hi => upd_ne _ _ _ i fun e => by subst e; rw [f3 p hp] at hi; cases hi), upd_ne _ _ _ _ (f1 p hp), fun k hk e => ?_⟩
    exact h.ob.apart p h1 _ hm (Ne.symm (h2 id (by simp))) k hk e.symm
  · have : some k ≠ blk (ρ id) := fun e => by rw [hBg k e] at hk; cases hk
    obtain ⟨e, fr, he⟩ := h.gs k c hk
    exact ⟨e, fr, by rw [hg.block k (heap_lt he) this]; exact he⟩
  · simp only [List.mem_singleton] at hp
    subst hp
    simp only [upd_self]
    refine ⟨hown, fun cs hc => ?_, fun u hu => ?_⟩
    · rcases List.mem_append.1 hc with hc | hc
      · exact hL cs hc
      · exact hM cs hc
    · rw [List.flatten_append] at hu
      rcases List.mem_append.1 hu with hu | hu
      · exact hL1 u hu
      · exact hM1 u hu
  · simp only [List.mem_singleton] at hp
    subst hp
    simp only [upd_self] at hk
    rcases hb with hb | hb | ⟨b, hb, hle⟩
    · rw [hb] at hk; cases hk
    · rw [hb] at hk; exact .inl hk.symm
    · rw [hb] at hk; simp at hk; subst hk; exact .inr hle
  · simp only [List.mem_singleton] at hp hq
    subst hp hq
    exact absurd rfl hpq
  · simp only [List.mem_singleton] at hp
    subst hp
    simp only [upd_self] at hk
    rcases hb with hb | hb | ⟨b, hb, hle⟩
    · rw [hb] at hk; cases hk
    · rw [hb] at hk; exact hBg k hk.symm
    · rw [hb] at hk; simp at hk; subst hk
      cases hgk : g b with
      | none => rfl
      | some c => have := h.gs.lt hgk; omega
  · simp only [List.cons_append, List.nil_append, List.map_cons, List.nodup_cons]
    exact ⟨fun hmm => by obtain ⟨p, hp, e⟩ := List.mem_map.1 hmm; exact f1 p hp e, nodup_map_filter h.ob.ids⟩
  · exact upd_ne _ _ _ _ fun e => f2 (e ▸ List.mem_map.2 ⟨p, hp, rfl⟩)
/-- a row is turned, or its header is -/
theorem row_turn (h : SatX E S a w ρ g) {id id2 : Nat} {e : TypeId} {sz : Nat} {L L' : List (List Value)} (hob : look S.ob id = some (.row e sz L)) (hid : freshId (E.pre.map (·.1)) ⟨S.fr, dropIds S.ob [id]⟩ id2 = true)
    (hM : ∀ cs ∈ L', cs.length = sz) (hM1 : ∀ u ∈ L'.flatten, u.oneCell' = true) {v' : Value} {w' : World} (hown : w'.ownsRow 0 e sz v' L'.length L'.flatten) (hg : w.grownBy w' (blk (ρ id))) (hb : blk v' = none ∨ blk v' = blk (ρ id) ∨ ∃ b, blk v' = some b ∧ w.heap.size ≤ b) :
    SatX E ⟨delId S.fr id2, [(id2, .row e sz L')] ++ dropIds S.ob [id]⟩ a w' (upd ρ id2 v') g := by
  have hm := look_mem hob
  obtain ⟨_, hL, hL1⟩ := h.ob.ok _ hm
  obtain ⟨f1, f2, f3⟩ := freshId_spec hid
  have hBg : ∀ k, some k = blk (ρ id) → g k = none := fun k hk => h.ob.ro _ hm k hk.symm
  refine h.move (B := fun k => some k = blk (ρ id)) (fun p hp => ?_) (fun p hp => ?_) ⟨hg.os, hg.tape, hg.output, hg.size, fun k hk hn => hg.block k hk hn⟩ (fun k hk => ⟨h.ob.own _ hm k hk.symm, hBg k hk⟩)
    (fun k c hk => ?_) (fun _ _ h => h) (fun b c hb => .inl hb) ⟨by simp, fun p hp => ?_, fun p hp k hk => ?_, fun p hp q hq hpq => ?_, fun p hp k hk => ?_⟩ ?_ (fun p hp => ?_)
  · obtain ⟨h1, h2⟩ := List.mem_filter.1 hp
    exact ⟨h1, fun i hi => upd_ne _ _ _ i fun e => by subst e; simp [hi] at h2⟩
  · obtain ⟨h1, h2⟩ := mem_dropIds hp
    refine ⟨h1, (fun i hi => upd_ne _ _ _ i fun e => by subst e; rw [f3 p hp] at hi; cases hi), upd_ne _ _ _ _ (f1 p hp), fun k hk e => ?_⟩
    exact h.ob.apart p h1 _ hm (Ne.symm (h2 id (by simp))) k hk e.symm
  · have : some k ≠ blk (ρ id) := fun e => by rw [hBg k e] at hk; cases hk
    obtain ⟨e, fr, he⟩ := h.gs k c hk
    exact ⟨e, fr, by rw [hg.block k (heap_lt he) this]; exact he⟩
  · simp only [List.mem_singleton] at hp
    subst hp
    simp only [upd_self]
    exact ⟨hown, hM, hM1⟩
  · simp only [List.mem_singleton] at hp
    subst hp
    simp only [upd_self] at hk
    rcases hb with hb | hb | ⟨b, hb, hle⟩
    · rw [hb] at hk; cases hk
    · rw [hb] at hk; exact .inl hk.symm
    · rw [hb] at hk; simp at hk; subst hk; exact .inr hle
  · simp only [List.mem_singleton] at hp hq
    subst hp hq
    exact absurd rfl hpq
  · simp only [List.mem_singleton] at hp
    subst hp
    simp only [upd_self] at hk
    rcases hb with hb | hb | ⟨b, hb, hle⟩
    · rw [hb] at hk; cases hk
    · rw [hb] at hk; exact hBg k hk.symm
    · rw [hb] at hk; simp at hk; subst hk
      cases hgk : g b with
      | none => rfl
      | some c => have := h.gs.lt hgk; omega
  · simp only [List.cons_append, List.nil_append, List.map_cons, List.nodup_cons]
    exact ⟨fun hmm => by obtain ⟨p, hp, e⟩ := List.mem_map.1 hmm; exact f1 p hp e, nodup_map_filter h.ob.ids⟩
  · exact upd_ne _ _ _ _ fun e => f2 (e ▸ List.mem_map.2 ⟨p, hp, rfl⟩)
end
end Go.Sx
