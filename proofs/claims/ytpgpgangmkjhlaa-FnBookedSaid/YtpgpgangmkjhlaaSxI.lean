/- Slices made, appended to; calls; the theorem on the operations of the second kind. -/
import Derived.Test.YtpgpgangmkjhlaaSxH
namespace Go.Sx
set_option linter.unusedVariables false

theorem fold_splice (cs : List Value) (off : Nat) (cur : Array Value) (h : off + cs.length ≤ cur.size) :
    ((cs.zipIdx 0).foldl (fun (c : Array Value) (p : Value × Nat) => c.setIfInBounds (off + p.2) p.1) cur).toList = cur.toList.take off ++ cs ++ cur.toList.drop (off + cs.length) := by
  have hfold : ∀ (vs : List Value) (j : Nat) (cu : Array Value), j + vs.length ≤ cu.size →
      ((vs.zipIdx j).foldl (fun (c : Array Value) (p : Value × Nat) => c.setIfInBounds p.2 p.1) cu).toList = cu.toList.take j ++ vs ++ cu.toList.drop (j + vs.length) := by
    intro vs
    induction vs with
    | nil => intro j cu _; simp
    | cons v vs ih =>
      intro j cu hj
      simp only [List.length_cons] at hj
      simp only [List.zipIdx_cons, List.foldl_cons]
      rw [ih (j + 1) _ (by simp; omega)]
      have := list_seg_step cu.toList j v vs (by simp; omega)
      simpa [Array.toList_setIfInBounds, Nat.add_assoc] using this
  have hz : ∀ (vs : List Value) (off j0 : Nat) (cu : Array Value), (vs.zipIdx j0).foldl (fun (c : Array Value) (p : Value × Nat) => c.setIfInBounds (off + p.2) p.1) cu = (vs.zipIdx (off + j0)).foldl (fun (c : Array Value) (p : Value × Nat) => c.setIfInBounds p.2 p.1) cu := by
    intro vs
    induction vs with
    | nil => intro off j0 cu; rfl
    | cons v vs ih =>
      intro off j0 cu
      simp only [List.zipIdx_cons, List.foldl_cons]
      rw [ih off (j0 + 1), Nat.add_assoc]
  have e := hz cs off 0 cur
  rw [Nat.add_zero] at e
  rw [e, hfold cs off cur h]
theorem fillC_ok {P : Program} {E : Env} {S : St} {a : Act} {w : World} {ρ : Nat → Value} {g : GHeap} (h : SatX E S a w ρ g) {fs : Array Field} (hfs : ∀ f ∈ fs.toList, (P.info? f.type).isSome = true) : ∀ (parts : List (Nat × Operand)) (cs cs' : List CA) (cur : Array Value),
    fillC P S fs parts cs = some cs' → All2 (CC ρ g) cs cur.toList →
    ∃ cells : Array Value, Instr.fill ((fs.map fun f => (f.offset, ((P.info? f.type).map (·.size)).getD 0))[·]?) cur (parts.map fun (i, x) => (i, a.eval x)) = some cells ∧ All2 (CC ρ g) cs' cells.toList
  | [], cs, cs', cur, hp, hc => by
    simp only [fillC, Option.some.injEq] at hp
    subst hp
    exact ⟨cur, rfl, hc⟩
  | (i, x) :: r, cs, cs', cur, hp, hc => by
    simp only [fillC] at hp
    split at hp
    · rename_i av f hx hf
      split at hp
      · rename_i fi hi
        obtain ⟨hb, hp⟩ := optB_some hp
        simp only [Bool.and_eq_true] at hb
        have b1 := Nat.eq_of_beq_eq_true hb.1
        have b2 := Nat.le_of_ble_eq_true hb.2
        have hav := cellsOf_ok (ev_ok h hx : CAv ρ g av (a.eval x))
        have hvl : (a.eval x).cells.toList.length = fi.size := by rw [← hav.length]; exact b1
        have hcl := hc.length
        have hsz : f.offset + (a.eval x).cells.toList.length ≤ cur.size := by rw [hvl]; simpa [hcl] using b2
        have hsp := fold_splice (a.eval x).cells.toList f.offset cur hsz
        rw [hvl] at hsp
        obtain ⟨cells, c1, c2⟩ := fillC_ok h hfs r _ cs' ((a.eval x).cells.zipIdx.foldl (fun cs (c, j) => cs.setIfInBounds (f.offset + j) c) cur) hp (by
          rw [← Array.foldl_toList, Array.toList_zipIdx]
          have : ((a.eval x).cells.toList.zipIdx 0).foldl (fun (cs : Array Value) (p : Value × Nat) => cs.setIfInBounds (f.offset + p.2) p.1) cur = ((a.eval x).cells.toList.zipIdx).foldl (fun (cs : Array Value) (x : Value × Nat) => match x with | (c, j) => cs.setIfInBounds (f.offset + j) c) cur := rfl
          rw [← this, hsp]
          exact ((hc.take _).append hav).append (hc.drop _))
        refine ⟨cells, ?_, c2⟩
        have hpl : (fs.map fun f => (f.offset, ((P.info? f.type).map (·.size)).getD 0))[i]? = some (f.offset, fi.size) := by
          rw [Array.getElem?_map, hf]; simp [hi]
        simp only [List.map_cons, Instr.fill, hpl]
        rw [if_neg]
        · exact c1
        · have : (a.eval x).cells.size = fi.size := by simpa using hvl
          rw [this]
          have h2 : f.offset + fi.size ≤ cur.size := by simpa [hcl] using b2
          simp; omega
      · cases hp
    · cases hp
theorem run_sizeOf {P : Program} {t : TypeId} {fi : TypeInfo} (hfi : P.info? t = some fi) (w : World) : (sizeOf t).run P w = .ok fi.size w := by simp [sizeOf, typeInfo, hfi]
theorem run_places {P : Program} {fs : Array Field} (hfs : ∀ f ∈ fs.toList, (P.info? f.type).isSome = true) (w : World) : (fs.mapM fun f => do pure (f.offset, ← sizeOf f.type) : Sem (Array (Nat × Nat))).run P w = .ok (fs.map fun f => (f.offset, ((P.info? f.type).map (·.size)).getD 0)) w := by
  have key : ∀ l : List Field, (∀ f ∈ l, (P.info? f.type).isSome = true) → (l.mapM fun f => do pure (f.offset, ← sizeOf f.type) : Sem (List (Nat × Nat))).run P w = .ok (l.map fun f => (f.offset, ((P.info? f.type).map (·.size)).getD 0)) w := by
    intro l
    induction l with
    | nil => intro _; rfl
    | cons f l ih =>
      intro hl
      obtain ⟨fi, hfi⟩ := Option.isSome_iff_exists.1 (hl f (by simp))
      have e := ih fun f hf => hl f (by simp [hf])
      simp only [List.mapM_cons, Sem.run_bind, run_sizeOf hfi, Result.andThen_ok, Sem.run_pure, e, List.map_cons, hfi, Option.map_some, Option.getD_some]
  rw [Array.mapM_eq_mapM_toList, Sem.run_map, key fs.toList (fun f hf => hfs f hf)]
  simp only [Result.andThen_ok, ← Array.toList_map, Array.toArray_toList]
section
variable {E : Env} {S : St} {a : Act} {w : World} {ρ : Nat → Value} {g : GHeap}
theorem e_build (h : SatX E S a w ρ g) {o : Oper} {t : TypeId} {parts : Array (Nat × Operand)} (ho : o.op = .build t parts) {fs : Array Field} (ht : E.P.underlying t = some (.struct fs)) {i : TypeInfo} (hi : E.P.info? t = some i) {z : Value} (hz : i.zero = some z)
    {cs : List CA} (hc : fillC E.P S fs parts.toList (z.cells.toList.map .v) = some cs) (hfs : ∀ f ∈ fs.toList, (E.P.info? f.type).isSome = true) (hd : dstOk E.N o.dst = true) {K : Act → World → Prop} {Q : Exit → Act → World → Prop}
    (hK : ∀ a' w', Sat E (S.put o.dst (.o (.agg cs))) a' w' → K a' w') : o.wp E.P a w K Q := by
  obtain ⟨cells, c1, c2⟩ := fillC_ok h hfs parts.toList _ cs z.cells hc All2_vals
  have hex : (execOp a.eval o).run E.P w = .ok (.value (.agg cells)) w := by
    have e : (parts.map fun x => (x.1, a.eval x.2)).toList = parts.toList.map fun (i, x) => (i, a.eval x) := by simp
    have hpl := run_places (P := E.P) hfs w
    simp only [execOp, ho, Instr.build, zeroValue, typeInfo, Sem.run_bind, run_program, Result.andThen_ok, hi, hz, Sem.run_pure, run_underlying ht, hpl, e, c1]
  exact wp_value hex (hK _ _ ⟨_, _, h.put hd ⟨cells.toList, by simp, c2⟩⟩)
end
theorem fill_parts {S : St} {a : Act} {sz : Nat} (hev : ∀ x r ds, ev S x = some r → cellsV r = some ds → (a.eval x).cells.toList = ds) : ∀ (parts : List (Nat × Operand)) (k : Nat) (L : List (List Value)) (cur : Array Value) (done : List (List Value)),
    partsOf S sz k parts = some L → done.length = k → (∀ c ∈ done, c.length = sz) → cur.toList.take (k * sz) = done.flatten → (k + L.length) * sz ≤ cur.size →
    ∃ cells : Array Value, Instr.fill (fun i => some (i * sz, sz)) cur (parts.map fun (i, x) => (i, a.eval x)) = some cells ∧ cells.size = cur.size ∧ cells.toList.take ((k + L.length) * sz) = (done ++ L).flatten ∧ (∀ c ∈ L, c.length = sz) ∧ ∀ u ∈ L.flatten, u.oneCell' = true
  | [], k, L, cur, done, hp, hk, hd, ht, hs => by
    simp only [partsOf, Option.some.injEq] at hp
    subst hp
    exact ⟨cur, rfl, rfl, by simpa using ht, by simp, by simp⟩
  | (i, x) :: r, k, L, cur, done, hp, hk, hd, ht, hs => by
    simp only [partsOf] at hp
    split at hp
    · rename_i cs hcs
      obtain ⟨hb, hp⟩ := optB_some hp
      simp only [Bool.and_eq_true] at hb
      obtain ⟨⟨h1, h2⟩, h3⟩ := hb
      have h1 := Nat.eq_of_beq_eq_true h1
      have h2 := Nat.eq_of_beq_eq_true h2
      obtain ⟨L', hL', rfl⟩ := Option.map_eq_some_iff.1 hp
      obtain ⟨rv, hrv, hcv⟩ := Option.bind_eq_some_iff.1 hcs
      have hcells := hev x rv cs hrv hcv
      have hvs : (a.eval x).cells.size = sz := by rw [← h2, ← hcells]; simp
      simp only [List.length_cons] at hs
      have hk1 : (k + 1) * sz = k * sz + sz := by rw [Nat.add_mul, Nat.one_mul]
      have hkk : (k + 1) * sz ≤ (k + (L'.length + 1)) * sz := Nat.mul_le_mul_right _ (by omega)
      -- writing the cells in a row is an exchange of a piece of the list
      have hfold : ∀ (vs : List Value) (j : Nat) (cu : Array Value), j + vs.length ≤ cu.size →
          ((vs.zipIdx j).foldl (fun (c : Array Value) (p : Value × Nat) => c.setIfInBounds p.2 p.1) cu).toList = cu.toList.take j ++ vs ++ cu.toList.drop (j + vs.length) := by
        intro vs
        induction vs with
        | nil => intro j cu _; simp
        | cons v vs ih =>
          intro j cu hj
          simp only [List.length_cons] at hj
          simp only [List.zipIdx_cons, List.foldl_cons]
          rw [ih (j + 1) _ (by simp; omega)]
          have := list_seg_step cu.toList j v vs (by simp; omega)
          simpa [Array.toList_setIfInBounds, Nat.add_assoc] using this
      have hz : ∀ (vs : List Value) (off j0 : Nat) (cu : Array Value), (vs.zipIdx j0).foldl (fun (c : Array Value) (p : Value × Nat) => c.setIfInBounds (off + p.2) p.1) cu = (vs.zipIdx (off + j0)).foldl (fun (c : Array Value) (p : Value × Nat) => c.setIfInBounds p.2 p.1) cu := by
        intro vs
        induction vs with
        | nil => intro off j0 cu; rfl
        | cons v vs ih =>
          intro off j0 cu
          simp only [List.zipIdx_cons, List.foldl_cons]
          rw [ih off (j0 + 1), Nat.add_assoc]
      let cur' := (a.eval x).cells.zipIdx.foldl (fun cs (c, j) => cs.setIfInBounds (k * sz + j) c) cur
      have hcur' : cur'.toList = cur.toList.take (k * sz) ++ cs ++ cur.toList.drop (k * sz + sz) := by
        show ((a.eval x).cells.zipIdx.foldl (fun cs (c, j) => cs.setIfInBounds (k * sz + j) c) cur).toList = _
        rw [← Array.foldl_toList, Array.toList_zipIdx, hcells]
        have e := hz cs (k * sz) 0 cur
        rw [Nat.add_zero] at e
        rw [e, hfold cs (k * sz) cur (by omega), h2]
      have hlen : cur'.size = cur.size := by
        have := congrArg List.length hcur'
        simp only [Array.length_toList, List.length_append, List.length_take, List.length_drop] at this
        omega
      have hdl : (cur.toList.take (k * sz)).length = k * sz := by simp; omega
      obtain ⟨cells, c1, c2, c3, c4, c5⟩ := fill_parts hev r (k + 1) L' cur' (done ++ [cs]) hL' (by simp [hk]) (fun c hc => by
          rcases List.mem_append.1 hc with hc | hc
          · exact hd c hc
          · simp only [List.mem_singleton] at hc; rw [hc]; exact h2)
        (by
          rw [hcur', ht, hk1, List.take_append_of_le_length (by rw [List.length_append, ← ht, hdl, h2]; exact Nat.le_refl _), List.take_of_length_le (by rw [List.length_append, ← ht, hdl, h2]; exact Nat.le_refl _)]
          simp)
        (by rw [hlen]; rw [show k + 1 + L'.length = k + (L'.length + 1) by omega]; exact hs)
      refine ⟨cells, ?_, c2.trans hlen, ?_, fun c hc => ?_, fun u hu => ?_⟩
      · simp only [List.map_cons, Instr.fill, h1]
        rw [if_neg]
        · exact c1
        · rw [hvs]; simp; omega
      · rw [List.length_cons, show k + (L'.length + 1) = k + 1 + L'.length by omega, c3]; simp
      · cases hc with
        | head => exact h2
        | tail _ hc => exact c4 c hc
      · simp only [List.flatten_cons] at hu
        rcases List.mem_append.1 hu with hu | hu
        · exact oneAll_spec h3 u hu
        · exact c5 u hu
    · cases hp
theorem madeCells_flat (z : Array Value) (n : Nat) (hz : 0 < z.size) : (madeCells z (n * z.size)).toList = (List.replicate n z.toList).flatten := by
  apply List.ext_getElem?
  intro j
  have hl : (List.replicate n z.toList).flatten.length = n * z.size := by simp
  by_cases hj : j < n * z.size
  · have h1 : (madeCells z (n * z.size)).toList[j]? = some (z[j % z.size]!) := by simp [madeCells, hj]
    have hlt : j % z.size < z.size := Nat.mod_lt _ hz
    have hi : j / z.size < n := by rw [Nat.div_lt_iff_lt_mul hz]; exact hj
    have h2 := flat_get (L := List.replicate n z.toList) (sz := z.size) (fun cs hc => by rw [(List.mem_replicate.1 hc).2]; simp) (i := j / z.size) (j := j % z.size) (cs := z.toList) (u := z[j % z.size]) (by simp [hi]) (by simp [hlt])
    have hd : j / z.size * z.size + j % z.size = j := by rw [Nat.mul_comm]; exact Nat.div_add_mod j z.size
    rw [hd] at h2
    rw [h1, h2]
    simp [hlt]
  · have a1 : (madeCells z (n * z.size)).toList[j]? = none := List.getElem?_eq_none (by simp [size_madeCells]; omega)
    rw [a1, List.getElem?_eq_none (by rw [hl]; omega)]
section
variable {E : Env} {S : St} {a : Act} {w : World} {ρ : Nat → Value} {g : GHeap}
theorem ownsRow_one {e : TypeId} {sz n : Nat} {x : Value} {xs : List Value} (h : w.ownsRow 0 e sz x n xs) : x.oneCell' = true := by
  rcases h.2 with ⟨rfl, _⟩ | ⟨b, cap, cur, rfl, _⟩ <;> rfl
theorem e_row (h : SatX E S a w ρ g) {o : Oper} {id : Nat} {e : TypeId} {sz : Nat} {L : List (List Value)} (hid : freshId (E.pre.map (·.1)) S id = true) (hd : dstOk E.N o.dst = true) (hL : ∀ cs ∈ L, cs.length = sz) (h1 : ∀ y ∈ L.flatten, y.oneCell' = true)
    {x : Value} {w' : World} (hc : Cls w w') (hx : blk x = none ∨ ∃ b, blk x = some b ∧ w.heap.size ≤ b) (hown : w'.ownsRow 0 e sz x L.length L.flatten) (hr : (execOp a.eval o).run E.P w = .ok (.value x) w') {K : Act → World → Prop} {Q : Exit → Act → World → Prop}
    (hK : ∀ a' w', Sat E (St.put ⟨delId S.fr id, (id, .row e sz L) :: S.ob⟩ o.dst (A (.sl id))) a' w' → K a' w') : o.wp E.P a w K Q :=
  wp_value hr (hK _ _ ⟨_, _, (h.newRow hid hL h1 hc hx hown).put hd ⟨by simp, ownsRow_one hown⟩⟩)
theorem e_buildSlice (h : SatX E S a w ρ g) {o : Oper} {t : TypeId} {len : Nat} {parts : Array (Nat × Operand)} (ho : o.op = .buildSlice t len parts) {e : TypeId} {i : TypeInfo} {z : Value} {id : Nat} {L : List (List Value)} (ht : E.P.underlying t = some (.slice e)) (hi : E.P.info? e = some i) (hz : i.zero = some z)
    (hp : partsOf S i.size 0 parts.toList = some L) (hl : L.length = len) (hzs : z.cells.size = i.size) (hb : len * i.size ≤ 16777216) (hs1 : 1 ≤ i.size) (hid : freshId (E.pre.map (·.1)) S id = true) (hd : dstOk E.N o.dst = true) {K : Act → World → Prop} {Q : Exit → Act → World → Prop}
    (hK : ∀ a' w', Sat E (St.put ⟨delId S.fr id, (id, .row e i.size L) :: S.ob⟩ o.dst (A (.sl id))) a' w' → K a' w') : o.wp E.P a w K Q := by
  obtain ⟨cells, c1, c2, c3, c4, c5⟩ := fill_parts (S := S) (a := a) (sz := i.size) (fun x r ds hx hds => cellsV_ok hds (ev_ok h hx)) parts.toList 0 L (madeCells z.cells (len * i.size)) [] hp rfl (by simp) (by simp) (by rw [size_madeCells, hl, Nat.zero_add]; exact Nat.le_refl _)
  rw [size_madeCells] at c2
  simp only [Nat.zero_add, List.nil_append, hl] at c3
  have c1' : Instr.fill (fun i_1 => some (i_1 * i.size, i.size)) (madeCells z.cells (len * i.size)) (parts.map fun (i, x) => (i, a.eval x)).toList = some cells := by rw [Array.toList_map]; exact c1
  refine e_row h hid hd c4 c5 (x := .slice (some ⟨w.heap.size, 0, none⟩) len len) (w' := w.alloc (.cells cells e)) (cls_alloc w _) (.inr ⟨_, rfl, Nat.le_refl _⟩) ⟨by rw [flat_len c4], .inr ⟨w.heap.size, len, cells, by rw [hl], Nat.zero_le _, heap_alloc_new w _, by omega, ?_, c2, by rw [hl]; exact c3⟩⟩ ?_ hK
  · have : len ≤ len * i.size := Nat.le_mul_of_pos_right _ hs1
    simp only [maxLen]; omega
  · have hnb : ¬ (len * i.size > 2 ^ 24) := by omega
    have hnb0 : ¬ ((0 : Nat) > 2 ^ 24) := by omega
    by_cases h0 : len * i.size = 0
    · have hm : (Array.map (fun x => (#[] : Array Value)[x % (#[] : Array Value).size]!) (Array.range (len * i.size))) = madeCells z.cells (len * i.size) := by rw [h0]; simp [madeCells]
      simp only [execOp, ho, Instr.buildSlice, Sem.run_bind, run_underlying ht, Result.andThen_ok, sizeOf, typeInfo, run_program, hi, Sem.run_pure, h0, hnb0, if_false, if_true]
      rw [h0] at hm c1'
      simp only [hm, c1', newRow, Sem.run_bind, run_newObj, Result.andThen_ok, Sem.run_pure]
      rfl
    · simp only [execOp, ho, Instr.buildSlice, Sem.run_bind, run_underlying ht, Result.andThen_ok, sizeOf, typeInfo, run_program, hi, Sem.run_pure, hnb, if_false, h0, zeroValue, hz]
      have hm : (Array.map (fun x => z.cells[x % z.cells.size]!) (Array.range (len * i.size))) = madeCells z.cells (len * i.size) := rfl
      simp only [hm, c1', newRow, Sem.run_bind, run_newObj, Result.andThen_ok, Sem.run_pure]
      rfl
theorem e_makeSlice (h : SatX E S a w ρ g) {o : Oper} {t : TypeId} {l c : Operand} (ho : o.op = .makeSlice t l c) {e : TypeId} {i : TypeInfo} {z : Value} {id : Nat} {kl kc : IntKind} {n m : Int} (ht : E.P.underlying t = some (.slice e)) (hi : E.P.info? e = some i) (hz : i.zero = some z)
    (hl : ev S l = some (V (.int kl n))) (hc : ev S c = some (V (.int kc m))) (hnm : n = m) (h0 : 0 ≤ n) (hb : (i.bytes : Int) * n ≤ 281474976710656) (h63 : n ≤ 9223372036854775807) (hzs : z.cells.size = i.size) (hz1 : oneAll z.cells.toList = true) (hs1 : 1 ≤ i.size) (hid : freshId (E.pre.map (·.1)) S id = true) (hd : dstOk E.N o.dst = true) {K : Act → World → Prop} {Q : Exit → Act → World → Prop}
    (hK : ∀ a' w', Sat E (St.put ⟨delId S.fr id, (id, .row e i.size (List.replicate n.toNat z.cells.toList)) :: S.ob⟩ o.dst (A (.sl id))) a' w' → K a' w') : o.wp E.P a w K Q := by
  subst hnm
  have e1 : a.eval l = .int kl n := ev_ok h hl
  have e2 : a.eval c = .int kc n := ev_ok h hc
  have hr := run_make (P := E.P) w t e i z ht hi hz kl kc n n h0 (Int.le_refl _) hb h63
  have hLl : ∀ cs ∈ List.replicate n.toNat z.cells.toList, cs.length = i.size := fun cs hc => by rw [(List.mem_replicate.1 hc).2]; simpa using hzs
  refine e_row h hid hd hLl (fun y hy => ?_) (x := .slice (some ⟨w.heap.size, 0, none⟩) n.toNat n.toNat) (w' := w.alloc (.cells (madeCells z.cells (n.toNat * i.size)) e)) (cls_alloc w _) (.inr ⟨_, rfl, Nat.le_refl _⟩)
    ⟨by rw [flat_len hLl], .inr ⟨w.heap.size, n.toNat, _, by simp, Nat.zero_le _, heap_alloc_new w _, by simp, ?_, size_madeCells _ _, ?_⟩⟩ ?_ hK
  · obtain ⟨cs, hc, hy⟩ := List.mem_flatten.1 hy
    rw [(List.mem_replicate.1 hc).2] at hy
    exact oneAll_spec hz1 y hy
  · simp only [maxLen]; omega
  · rw [List.length_replicate, ← hzs, madeCells_flat _ _ (by omega), List.take_of_length_le (by simp)]
  · simp [execOp, ho, e1, e2, hr]
theorem rowOf_ok (h : SatX E S a w ρ g) {rv : RV} {y : Value} {sz : Nat} {M : List (List Value)} (hr : rowOf S rv = some (sz, M)) (hy : CR ρ g rv y) : RsOk (gAll w) sz M y := by
  unfold rowOf at hr
  split at hr
  · simp only [Option.some.injEq, Prod.mk.injEq] at hr
    obtain ⟨rfl, rfl⟩ := hr
    exact (CC.mono (ρ := ρ) (g := g) (g' := gAll w) (fun _ _ hb => h.gs.all hb) (a := .rs _ _) hy : CC ρ (gAll w) (.rs _ _) y)
  · rename_i id
    split at hr
    · rename_i e' sz' L' hob
      simp only [Option.some.injEq, Prod.mk.injEq] at hr
      obtain ⟨rfl, rfl⟩ := hr
      have hy' : y = ρ id := (hy : CC ρ g (.sl id) y).1
      rw [hy']
      exact row_view (h.ob.ok _ (look_mem hob))
    · cases hr
  · cases hr
theorem e_append (h : SatX E S a w ρ g) {o : Oper} {c : Call} (ho : o.op = .call c) {x y : Operand} {t e : TypeId} (hcb : c.callee = .builtin .append) (hargs : c.args.toList = [x, y]) (hat : c.argTypes.toList = [t, t]) {id id2 sz : Nat} {i : TypeInfo} {z : Value} {L M : List (List Value)} {rv : RV}
    (hx : ev S x = some (A (.sl id))) (hy : ev S y = some rv) (hrow : rowOf S rv = some (sz, M)) (hob : look S.ob id = some (.row e sz L)) (ht : E.P.underlying t = some (.slice e)) (hi : E.P.info? e = some i) (hz : i.zero = some z) (hsz : i.size = sz) (hzs : z.cells.size = sz) (h0 : 1 ≤ sz)
    (hid : freshId (E.pre.map (·.1)) ⟨S.fr, dropIds S.ob [id]⟩ id2 = true) (hd : dstOk E.N o.dst = true) (b1 : L.length + M.length ≤ maxLen) (b2 : (L.length + M.length) * i.bytes ≤ 140737488355328) {K : Act → World → Prop} {Q : Exit → Act → World → Prop}
    (hK : ∀ a' w', Sat E (St.put ⟨delId S.fr id2, [(id2, .row e sz (L ++ M))] ++ dropIds S.ob [id]⟩ o.dst (A (.sl id2))) a' w' → K a' w') : o.wp E.P a w K Q := by
  have ex : a.eval x = ρ id := (ev_ok h hx : CC ρ g (.sl id) _).1
  have hy' := rowOf_ok h hrow (ev_ok h hy)
  obtain ⟨hown, hL, hL1⟩ := h.ob.ok _ (look_mem hob)
  obtain ⟨v', w', hr, h2, h3, h4⟩ := append_run (P := E.P) (ty := o.type) ht hi hz hsz hzs h0 hown (gAll_sub w) hy' b1 b2
  have ha : c.args = #[x, y] := by rw [← Array.toArray_toList (xs := c.args), hargs]
  have hta : c.argTypes = #[t, t] := by rw [← Array.toArray_toList (xs := c.argTypes), hat]
  have hrow' := row_append h hob hid hy'.1 hy'.2.1 h2 h3 h4
  refine wp_value (v := v') (w' := w') ?_ (hK _ _ ⟨_, _, hrow'.put hd ⟨by simp, ownsRow_one h2⟩⟩)
  simp [execOp, ho, resolve, hcb, ha, hta, invoke, builtin, ex, hr]
/-- an owned row is cut off: its header is another -/
theorem e_trunc (h : SatX E S a w ρ g) {o : Oper} {t : TypeId} {x u : Operand} (ho : o.op = .slice t x none (some u) none) {id id2 sz : Nat} {e : TypeId} {L : List (List Value)} {k : IntKind} {n : Int}
    (hx : ev S x = some (A (.sl id))) (hu : (ev S u).bind exactR = some (.int k n)) (hob : look S.ob id = some (.row e sz L)) (ht : sliceSz E.P t = some sz)
    (hid : freshId (E.pre.map (·.1)) ⟨S.fr, dropIds S.ob [id]⟩ id2 = true) (hd : dstOk E.N o.dst = true) (h0 : 0 ≤ n) (h1 : n ≤ L.length) {K : Act → World → Prop} {Q : Exit → Act → World → Prop}
    (hK : ∀ a' w', Sat E (St.put ⟨delId S.fr id2, [(id2, .row e sz (L.take n.toNat))] ++ dropIds S.ob [id]⟩ o.dst (A (.sl id2))) a' w' → K a' w') : o.wp E.P a w K Q := by
  have ex : a.eval x = ρ id := (ev_ok h hx : CC ρ g (.sl id) _).1
  have b2 := q_bound (d := .int .i64 0) h (x := some u) (v := .int k n) hu
  obtain ⟨hown, hL, hL1⟩ := h.ob.ok _ (look_mem hob)
  obtain ⟨te, ti, ht1, hti, hts⟩ := sliceSz_spec ht
  have hlen : (L.take n.toNat).length = n.toNat := by simp; omega
  have hLt : ∀ cs ∈ L.take n.toNat, cs.length = sz := fun cs hc => hL cs (List.mem_of_mem_take hc)
  have hfl : (L.take n.toNat).flatten = L.flatten.take (n.toNat * sz) := by
    have e1 : L.flatten = (L.take n.toNat).flatten ++ (L.drop n.toNat).flatten := by rw [← List.flatten_append, List.take_append_drop]
    have e2 : (L.take n.toNat).flatten.length = n.toNat * sz := by rw [flat_len hLt, hlen]
    rw [e1, ← e2]; simp
  have hL1t : ∀ y ∈ (L.take n.toNat).flatten, y.oneCell' = true := fun y hy => by
    rw [hfl] at hy; exact hL1 y (List.mem_of_mem_take hy)
  have hst : ∀ (v : Value), (∀ p m cap, ρ id = .slice p m cap → v = .slice p n.toNat cap) → blk v = blk (ρ id) → w.ownsRow 0 e sz v (L.take n.toNat).length (L.take n.toNat).flatten → (execOp a.eval o).run E.P w = .ok (.value v) w → o.wp E.P a w K Q := fun v _ hb h2 hr =>
    wp_value (v := v) (w' := w) hr (hK _ _ ⟨_, _, (row_turn h hob hid hLt hL1t h2 ⟨rfl, rfl, rfl, Nat.le_refl _, fun _ _ _ => rfl⟩ (.inr (.inl hb))).put hd ⟨by simp, ownsRow_one h2⟩⟩)
  obtain ⟨hxl, hc⟩ := hown
  rcases hc with ⟨hr, hz⟩ | ⟨b, cap, cur, hr, hz, hh, hnn, hm, hcs, htk⟩
  · have hn0 : n = 0 := by omega
    subst hn0
    refine hst (.slice none 0 0) (fun p m cap e => by rw [hr] at e; cases e; rfl) (by rw [hr]) ⟨by simp, .inl ⟨rfl, by simp⟩⟩ ?_
    have hs := run_sliceBounds (P := E.P) (w := w) (isS := true) (len := 0) (cap := 0) (lo := none) (hi := some (a.eval u)) (kl := .i64) (kh := k) (l := 0) (h := 0) rfl b2 (Int.le_refl _) (Int.le_refl _) (Int.le_refl _)
    simp [execOp, ho, ex, hr, Instr.sliceAt, Instr.slice, run_underlying ht1, hs, sizeOf, typeInfo, hti]
  · have hcap : n ≤ cap := by omega
    refine hst (.slice (some ⟨b, 0, none⟩) n.toNat cap) (fun p m cap e => by rw [hr] at e; cases e; rfl) (by rw [hr]; rfl) ⟨by rw [hfl, hlen, List.length_take, hxl]; exact Nat.min_eq_left (Nat.mul_le_mul_right _ (by omega)), .inr ⟨b, cap, cur, by rw [hlen], hz, hh, by rw [hlen]; omega, hm, hcs, ?_⟩⟩ ?_
    · rw [hfl, ← htk, List.take_take, hlen]
      congr 1
      exact (Nat.min_eq_left (Nat.mul_le_mul_right _ (by omega))).symm
    · have hs := run_sliceBounds (P := E.P) (w := w) (isS := true) (len := L.length) (cap := cap) (lo := none) (hi := some (a.eval u)) (kl := .i64) (kh := k) (l := 0) (h := n) rfl b2 (Int.le_refl _) h0 hcap
      simp [execOp, ho, ex, hr, Instr.sliceAt, Instr.slice, run_underlying ht1, hs, sizeOf, typeInfo, hti, add_mk]
/-- what stands between is cut out of an owned row, in place -/
theorem e_del (h : SatX E S a w ρ g) {o : Oper} {c : Call} (ho : o.op = .call c) {x y : Operand} {t e : TypeId} (hcb : c.callee = .builtin .append) (hargs : c.args.toList = [x, y]) (hat : c.argTypes.toList = [t, t]) {id id2 sz k l : Nat} {i : TypeInfo} {z : Value} {L : List (List Value)}
    (hx : ev S x = some (A (.of (preF k) id))) (hy : ev S y = some (A (.of (sufF sz l) id))) (hob : look S.ob id = some (.row e sz L)) (ht : E.P.underlying t = some (.slice e)) (hi : E.P.info? e = some i) (hz : i.zero = some z) (hsz : i.size = sz) (hzs : z.cells.size = sz) (h0 : 1 ≤ sz)
    (hid : freshId (E.pre.map (·.1)) ⟨S.fr, dropIds S.ob [id]⟩ id2 = true) (hd : dstOk E.N o.dst = true) (hk : k ≤ L.length) (hl : l ≤ L.length) (b1 : L.length + L.length ≤ maxLen) (b2 : (L.length + L.length) * i.bytes ≤ 140737488355328) {K : Act → World → Prop} {Q : Exit → Act → World → Prop}
    (hK : ∀ a' w', Sat E (St.put ⟨delId S.fr id2, [(id2, .row e sz (L.take k ++ L.drop l))] ++ dropIds S.ob [id]⟩ o.dst (A (.sl id2))) a' w' → K a' w') : o.wp E.P a w K Q := by
  have ex : a.eval x = preF k (ρ id) := (ev_ok h hx : CC ρ g (.of (preF k) id) _).1
  have ey : a.eval y = sufF sz l (ρ id) := (ev_ok h hy : CC ρ g (.of (sufF sz l) id) _).1
  have hok := h.ob.ok _ (look_mem hob)
  have hy' : RsOk (gAll w) sz (L.drop l) (sufF sz l (ρ id)) := rs_suf hok hl
  obtain ⟨hown, hL, hL1⟩ := hok
  have hLt : ∀ cs ∈ L.take k, cs.length = sz := fun cs hc => hL cs (List.mem_of_mem_take hc)
  have hlen : (L.take k).length = k := by simp; omega
  have hfl : (L.take k).flatten = L.flatten.take (k * sz) := by
    have e1 : L.flatten = (L.take k).flatten ++ (L.drop k).flatten := by rw [← List.flatten_append, List.take_append_drop]
    have e2 : (L.take k).flatten.length = k * sz := by rw [flat_len hLt, hlen]
    rw [e1, ← e2]; simp
  have hown' : w.ownsRow 0 e sz (preF k (ρ id)) (L.take k).length (L.take k).flatten ∧ blk (preF k (ρ id)) = blk (ρ id) := by
    obtain ⟨hxl, hc⟩ := hown
    rcases hc with ⟨hr, hz⟩ | ⟨b, cap, cur, hr, hz, hh, hnn, hm, hcs, htk⟩
    · have hr : ρ id = .slice none 0 0 := hr
      have hk0 : k = 0 := by omega
      subst hk0
      rw [hr]
      exact ⟨⟨by simp, .inl ⟨rfl, by simp⟩⟩, rfl⟩
    · have hr : ρ id = .slice (some ⟨b, 0, none⟩) L.length cap := hr
      rw [hr]
      refine ⟨⟨by rw [flat_len hLt], .inr ⟨b, cap, cur, by rw [hlen]; rfl, hz, hh, by rw [hlen]; omega, hm, hcs, ?_⟩⟩, rfl⟩
      rw [hfl, ← htk, List.take_take, hlen]
      congr 1
      exact (Nat.min_eq_left (Nat.mul_le_mul_right _ hk)).symm
  have hl2 : (L.take k).length + (L.drop l).length ≤ L.length + L.length := by simp; omega
  obtain ⟨v', w', hr, h2, h3, h4⟩ := append_run (P := E.P) (ty := o.type) ht hi hz hsz hzs h0 hown'.1 (gAll_sub w) hy' (Nat.le_trans hl2 b1) (Nat.le_trans (Nat.mul_le_mul_right _ hl2) b2)
  rw [hown'.2] at h3 h4
  have ha : c.args = #[x, y] := by rw [← Array.toArray_toList (xs := c.args), hargs]
  have hta : c.argTypes = #[t, t] := by rw [← Array.toArray_toList (xs := c.argTypes), hat]
  have hrow' := row_turn h hob hid (L' := L.take k ++ L.drop l) (fun cs hc => (List.mem_append.1 hc).elim (fun h => hL cs (List.mem_of_mem_take h)) (fun h => hL cs (List.mem_of_mem_drop h)))
    (fun u hu => by
      obtain ⟨cs, hc, hu⟩ := List.mem_flatten.1 hu
      refine hL1 u (List.mem_flatten.2 ⟨cs, ?_, hu⟩)
      exact (List.mem_append.1 hc).elim List.mem_of_mem_take List.mem_of_mem_drop) h2 h3 h4
  refine wp_value (v := v') (w' := w') ?_ (hK _ _ ⟨_, _, hrow'.put hd ⟨by simp, ownsRow_one h2⟩⟩)
  simp [execOp, ho, resolve, hcb, ha, hta, invoke, builtin, ex, ey, hr]
theorem dropIds_head {l : List (Nat × OB)} {id id1 : Nat} {ob : OB} : dropIds ((id, ob) :: dropIds l [id, id1]) [id] = dropIds l [id, id1] := by
  unfold dropIds
  rw [List.filter_cons]
  have h0 : (!([id].any fun x => Nat.beq x (id, ob).1)) = false := by simp
  rw [h0]
  simp only [Bool.false_eq_true, if_false, List.filter_filter]
  congr 1
  funext p
  simp only [List.any_cons, List.any_nil, Bool.or_false]
  cases Nat.beq id p.1 <;> simp
theorem dropIds_key {l : List (Nat × OB)} {ids : List Nat} {p : Nat × OB} (hp : p ∈ dropIds l ids) : p ∈ l ∧ ∀ i ∈ ids, i ≠ p.1 := by
  unfold dropIds at hp
  obtain ⟨h1, h2⟩ := List.mem_filter.1 hp
  refine ⟨h1, fun i hi e => ?_⟩
  simp only [Bool.not_eq_true', List.any_eq_false] at h2
  exact h2 i hi (by rw [e]; simp)
theorem dropIds_nodup {l : List (Nat × OB)} {ids : List Nat} (h : (l.map (·.1)).Nodup) : ((dropIds l ids).map (·.1)).Nodup :=
  List.Nodup.sublist (List.Sublist.map _ List.filter_sublist) h
theorem e_appendRows (h : SatX E S a w ρ g) {o : Oper} {c : Call} (ho : o.op = .call c) {x y : Operand} {t e : TypeId} (hcb : c.callee = .builtin .append) (hargs : c.args.toList = [x, y]) (hat : c.argTypes.toList = [t, t]) {id id1 id2 szs : Nat} {i : TypeInfo} {z : Value} {D D1 : List (List (List Value))}
    (hx : ev S x = some (A (.sl id))) (hy : ev S y = some (A (.sl id1))) (hob : look S.ob id = some (.rows e szs D)) {e1 : Nat} (hob1 : look S.ob id1 = some (.rows e1 szs D1)) (ht : E.P.underlying t = some (.slice e)) (hi : E.P.info? e = some i) (hz : i.zero = some z) (hsz : i.size = 1) (hzs : z.cells.size = 1)
    (hne : id ≠ id1) (hid : freshId (E.pre.map (·.1)) ⟨S.fr, dropIds S.ob [id, id1]⟩ id2 = true) (hd : dstOk E.N o.dst = true) (b1 : D.length + D1.length ≤ maxLen) (b2 : (D.length + D1.length) * i.bytes ≤ 140737488355328) {K : Act → World → Prop} {Q : Exit → Act → World → Prop}
    (hK : ∀ a' w', Sat E (St.put ⟨delId S.fr id2, (id2, .rows e szs (D ++ D1)) :: dropIds S.ob [id, id1]⟩ o.dst (A (.sl id2))) a' w' → K a' w') : o.wp E.P a w K Q := by
  have ex : a.eval x = ρ id := (ev_ok h hx : CC ρ g (.sl id) _).1
  have ey : a.eval y = ρ id1 := (ev_ok h hy : CC ρ g (.sl id1) _).1
  obtain ⟨ys, r1, r2⟩ := (h.ob.ok _ (look_mem hob)).rows_row
  obtain ⟨ys1, q1, q2⟩ := (h.ob.ok _ (look_mem hob1)).rows_row
  have hnd : ((id, OB.row e 1 (ys.map fun y => [y])) :: dropIds S.ob [id, id1]).map (·.1) |>.Nodup := by
    rw [List.map_cons]
    refine List.nodup_cons.2 ⟨fun hm => ?_, dropIds_nodup h.ob.ids⟩
    obtain ⟨p, hp, e⟩ := List.mem_map.1 hm
    exact (dropIds_key hp).2 id (by simp) e.symm
  have h1 : SatX E ⟨S.fr, (id, OB.row e 1 (ys.map fun y => [y])) :: dropIds S.ob [id, id1]⟩ a w ρ g := by
    have h' : SatX E ⟨S.fr, S.ob⟩ a w ρ g := h
    refine h'.swapOb hnd fun p' hp' => ?_
    rcases List.mem_cons.1 hp' with rfl | hp'
    · exact ⟨_, look_mem hob, rfl, fun _ => r1⟩
    · exact ⟨p', (dropIds_key hp').1, rfl, fun h => h⟩
  have hlook : look ((id, OB.row e 1 (ys.map fun y => [y])) :: dropIds S.ob [id, id1]) id = some (.row e 1 (ys.map fun y => [y])) := by simp [look]
  have hy' : RsOk (gAll w) 1 (ys1.map fun y => [y]) (ρ id1) := row_view q1
  obtain ⟨hown, hL, hL1⟩ := r1
  have l1 : (ys.map fun y => [y]).length = D.length := by rw [List.length_map, r2.length]
  have l2 : (ys1.map fun y => [y]).length = D1.length := by rw [List.length_map, q2.length]
  obtain ⟨v', w', hr, h2, h3, h4⟩ := append_run (P := E.P) (ty := o.type) ht hi hz hsz hzs (by omega) hown (gAll_sub w) hy' (by rw [l1, l2]; exact b1) (by rw [l1, l2]; exact b2)
  have ha : c.args = #[x, y] := by rw [← Array.toArray_toList (xs := c.args), hargs]
  have hta : c.argTypes = #[t, t] := by rw [← Array.toArray_toList (xs := c.argTypes), hat]
  have hrow' := row_append h1 hlook (by rw [dropIds_head]; exact hid) hy'.1 hy'.2.1 h2 h3 h4
  rw [dropIds_head] at hrow'
  have hfin : SatX E ⟨delId S.fr id2, (id2, .rows e szs (D ++ D1)) :: dropIds S.ob [id, id1]⟩ a w' (upd ρ id2 v') g := by
    refine SatX.swapOb hrow' hrow'.ob.ids fun p' hp' => ?_
    rcases List.mem_cons.1 hp' with rfl | hp'
    · refine ⟨_, List.mem_cons_self, rfl, fun hh => ?_⟩
      have e : (ys.map fun y => [y]) ++ (ys1.map fun y => [y]) = ((ys ++ ys1).map fun y => [y]) := by simp
      have hh : ObOk (upd ρ id2 v') g w' (upd ρ id2 v' id2) (.row _ 1 ((ys.map fun y => [y]) ++ (ys1.map fun y => [y]))) := hh
      rw [e] at hh
      exact hh.row_rows (r2.append q2)
    · exact ⟨p', List.mem_cons_of_mem _ hp', rfl, fun h => h⟩
  refine wp_value (v := v') (w' := w') ?_ (hK _ _ ⟨_, _, hfin.put hd ⟨by simp, ownsRow_one h2⟩⟩)
  simp [execOp, ho, resolve, hcb, ha, hta, invoke, builtin, ex, ey, hr]
theorem rs_one {g : GHeap} {sz : Nat} {L : List (List Value)} {y : Value} (h : RsOk g sz L y) : y.oneCell' = true := by
  rcases h.2.2 with ⟨rfl | ⟨_, _, rfl, _⟩, _⟩ | ⟨_, _, _, _, rfl, _⟩ <;> rfl
theorem e_buildRows (h : SatX E S a w ρ g) {o : Oper} {t : TypeId} {parts : Array (Nat × Operand)} (ho : o.op = .buildSlice t 1 parts) {t0 : Nat} (hparts : parts.toList = [(0, .tmp t0)]) {e : TypeId} {i : TypeInfo} {z : Value} {id szs : Nat} {L : List (List Value)} (ht : E.P.underlying t = some (.slice e)) (hi : E.P.info? e = some i) (hz : i.zero = some z)
    (hl : look S.fr t0 = some (.o (.c (.rs szs L)))) (hzs : z.cells.size = i.size) (hs1 : i.size = 1) (hid : freshId (E.pre.map (·.1)) S id = true) (hd : dstOk E.N o.dst = true) {K : Act → World → Prop} {Q : Exit → Act → World → Prop}
    (hK : ∀ a' w', Sat E (St.put ⟨delId S.fr id, (id, .rows e szs [L]) :: S.ob⟩ o.dst (A (.sl id))) a' w' → K a' w') : o.wp E.P a w K Q := by
  obtain ⟨y, hy, hyr⟩ := h.fr _ (look_mem hl)
  have hyr : RsOk g szs L y := hyr
  have hy1 := rs_one hyr
  have h1 : SatX E ⟨[(t0, .o (.c (.v y)))], []⟩ a w ρ g := { h with
    fr := fun p hp => by
      simp only [List.mem_singleton] at hp
      subst hp
      exact ⟨y, hy, rfl⟩
    ob := ⟨List.nodup_nil, fun p hp => (by cases hp), fun p hp => (by cases hp), fun p hp => (by cases hp), fun p hp => (by cases hp)⟩ }
  have hp1 : partsOf ⟨[(t0, .o (.c (.v y)))], []⟩ i.size 0 parts.toList = some [[y]] := by
    have hys : cellsV (.o (.c (.v y))) = some [y] ∧ oneAll [y] = true := by
      rcases hyr.2.2 with ⟨rfl | ⟨_, _, rfl, _⟩, _⟩ | ⟨_, _, _, _, rfl, _⟩ <;> exact ⟨rfl, rfl⟩
    rw [hparts, hs1]
    have he : ev ⟨[(t0, .o (.c (.v y)))], []⟩ (.tmp t0) = some (.o (.c (.v y))) := by simp [ev, look]
    simp only [partsOf, he, Option.bind_some, hys.1, hys.2]
    rfl
  obtain ⟨cells, c1, c2, c3, c4, c5⟩ := fill_parts (S := ⟨[(t0, .o (.c (.v y)))], []⟩) (a := a) (sz := i.size) (fun x r ds hx hds => cellsV_ok hds (ev_ok h1 hx)) parts.toList 0 [[y]] (madeCells z.cells (1 * i.size)) [] hp1 rfl (by simp) (by simp) (by rw [size_madeCells]; simp)
  rw [size_madeCells] at c2
  simp only [Nat.zero_add, List.nil_append, List.length_singleton] at c3
  have c1' : Instr.fill (fun i_1 => some (i_1 * i.size, i.size)) (madeCells z.cells (1 * i.size)) (parts.map fun (i, x) => (i, a.eval x)).toList = some cells := by rw [Array.toList_map]; exact c1
  have hown : (w.alloc (.cells cells e)).ownsRow 0 e 1 (.slice (some ⟨w.heap.size, 0, none⟩) 1 1) [[y]].length [[y]].flatten := ⟨by simp, .inr ⟨w.heap.size, 1, cells, rfl, Nat.zero_le _, heap_alloc_new w _, Nat.le_refl _, by simp [maxLen], by rw [c2, hs1], by rw [hs1] at c3; exact c3⟩⟩
  have hrow := h.newRow hid (e := e) (sz := 1) (L := [[y]]) (by simp) (by simpa using hy1) (cls_alloc w (.cells cells e)) (x := .slice (some ⟨w.heap.size, 0, none⟩) 1 1) (.inr ⟨_, rfl, Nat.le_refl _⟩) hown
  have hfin : SatX E ⟨delId S.fr id, (id, .rows e szs [L]) :: S.ob⟩ a (w.alloc (.cells cells e)) (upd ρ id (.slice (some ⟨w.heap.size, 0, none⟩) 1 1)) g := by
    refine SatX.swapOb hrow hrow.ob.ids fun p' hp' => ?_
    rcases List.mem_cons.1 hp' with rfl | hp'
    · exact ⟨_, List.mem_cons_self, rfl, fun hh => ObOk.row_rows (ys := [y]) hh ⟨hyr, trivial⟩⟩
    · exact ⟨p', List.mem_cons_of_mem _ hp', rfl, fun h => h⟩
  refine wp_value (v := .slice (some ⟨w.heap.size, 0, none⟩) 1 1) (w' := w.alloc (.cells cells e)) ?_ (hK _ _ ⟨_, _, hfin.put hd ⟨by simp, rfl⟩⟩)
  have hnb : ¬ (1 * i.size > 2 ^ 24) := by omega
  have h0 : ¬ 1 * i.size = 0 := by omega
  simp only [execOp, ho, Instr.buildSlice, Sem.run_bind, run_underlying ht, Result.andThen_ok, sizeOf, typeInfo, run_program, hi, Sem.run_pure, hnb, if_false, h0, zeroValue, hz]
  have hm : (Array.map (fun x => z.cells[x % z.cells.size]!) (Array.range (1 * i.size))) = madeCells z.cells (1 * i.size) := rfl
  simp only [hm, c1', newRow, Sem.run_bind, run_newObj, Result.andThen_ok, Sem.run_pure]
  rfl
theorem delFold_mem {l : List (Nat × OB)} : ∀ {fr : List (Nat × RV)} {p : Nat × RV}, p ∈ l.foldl (fun fr q => delId fr q.1) fr → p ∈ fr ∧ ∀ q ∈ l, p.2.has q.1 = false := by
  induction l with
  | nil => intro fr p hp; exact ⟨hp, by simp⟩
  | cons q r ih =>
    intro fr p hp
    obtain ⟨h1, h2⟩ := ih hp
    obtain ⟨h3, h4⟩ := List.mem_filter.1 h1
    exact ⟨h3, fun q' hq' => by
      cases hq' with
      | head => simpa using h4
      | tail _ hq' => exact h2 q' hq'⟩
/-- what is read at a call: all that the world holds, but for the blocks handed over -/
noncomputable def gBut (w : World) (B : Nat → Prop) : GHeap := fun b => by classical exact if B b then none else gAll w b
theorem gBut_sub (w : World) (B : Nat → Prop) : GSub (gBut w B) w := fun b c h => by
  unfold gBut at h
  split at h
  · cases h
  · exact gAll_sub w b c h
theorem aCA_ok (h : SatX E S a w ρ g) {al : Bool} {pre : List Nat} {g1 : GHeap} (hg1 : ∀ b c, g b = some c → g1 b = some c) (hgo : al = false → ∀ p ∈ S.ob, (∀ i ∈ pre, i ≠ p.1) → ∀ b, blk (ρ p.1) = some b → ∀ c, gAll w b = some c → g1 b = some c)
    {c d : CA} {y : Value} (hv : aCA al S pre c = some d) (hy : CC ρ g c y) : CC ρ g1 d y := by
  cases c with
  | sl id =>
    simp only [aCA] at hv
    cases hb : (pre.any (Nat.beq · id) || al) with
    | true =>
      simp only [hb, cond_true, Option.some.injEq] at hv
      subst hv
      exact hy
    | false =>
      simp only [hb, cond_false, vCA] at hv
      simp only [Bool.or_eq_false_iff] at hb
      split at hv
      · rename_i e sz L hob
        simp only [Option.some.injEq] at hv; subst hv
        have hm := look_mem hob
        have hv := row_view (h.ob.ok _ hm)
        have hne : ∀ i ∈ pre, i ≠ id := fun i hi e => by
          have := hb.1
          simp only [List.any_eq_false] at this
          exact this i hi (by rw [e]; simp)
        show RsOk g1 sz L y
        rw [hy.1]
        obtain ⟨v1, v2, v3⟩ := hv
        refine ⟨v1, v2, v3.imp (fun h => h) fun ⟨b, o, cap, c, e1, e2, r⟩ => ⟨b, o, cap, c, e1, hgo hb.2 _ hm hne b ?_ c e2, r⟩⟩
        have e1' : ρ id = .slice (some ⟨b, o, none⟩) L.length cap := e1
        simp [e1', blk]
      · cases hv
  | _ => simp only [aCA, Option.some.injEq] at hv; subst hv; exact CC.mono hg1 hy
theorem aCAs_ok (h : SatX E S a w ρ g) {al : Bool} {pre : List Nat} {g1 : GHeap} (hg1 : ∀ b c, g b = some c → g1 b = some c) (hgo : al = false → ∀ p ∈ S.ob, (∀ i ∈ pre, i ≠ p.1) → ∀ b, blk (ρ p.1) = some b → ∀ c, gAll w b = some c → g1 b = some c) :
    ∀ {cs ds : List CA} {ys : List Value}, aCAs al S pre cs = some ds → All2 (CC ρ g) cs ys → All2 (CC ρ g1) ds ys
  | [], ds, [], hv, _ => by simp [aCAs] at hv; subst hv; trivial
  | [], _, _ :: _, _, h => h.elim
  | _ :: _, _, [], _, h => h.elim
  | c :: cs, ds, y :: ys, hv, hy => by
    simp only [aCAs] at hv
    split at hv
    · rename_i b l hb hl
      simp only [Option.some.injEq] at hv; subst hv
      exact ⟨aCA_ok h hg1 hgo hb hy.1, aCAs_ok h hg1 hgo hl hy.2⟩
    · cases hv
theorem argsAV_ok (h : SatX E S a w ρ g) {al : Bool} {pre : List Nat} {g1 : GHeap} (hg1 : ∀ b c, g b = some c → g1 b = some c) (hgo : al = false → ∀ p ∈ S.ob, (∀ i ∈ pre, i ≠ p.1) → ∀ b, blk (ρ p.1) = some b → ∀ c, gAll w b = some c → g1 b = some c) :
    ∀ {l : List Operand} {avs : List AV}, argsAV al S pre l = some avs → All2 (CAv ρ g1) avs (l.map a.eval)
  | [], avs, hv => by simp [argsAV] at hv; subst hv; trivial
  | x :: r, avs, hv => by
    simp only [argsAV] at hv
    split at hv
    · rename_i b l hb hl
      simp only [Option.some.injEq] at hv; subst hv
      refine ⟨?_, argsAV_ok h hg1 hgo hl⟩
      obtain ⟨rv, hrv, hb⟩ := Option.bind_eq_some_iff.1 hb
      have hy := ev_ok h hrv
      cases rv with
      | tup vs => simp [aAV] at hb
      | o q =>
        cases q with
        | agg cs =>
          simp only [aAV, Option.map_eq_some_iff] at hb
          obtain ⟨ds, hd, rfl⟩ := hb
          obtain ⟨ys, e, h2⟩ := hy
          exact ⟨ys, e, aCAs_ok h hg1 hgo hd h2⟩
        | c q =>
          simp only [aAV, Option.map_eq_some_iff] at hb
          obtain ⟨d, hd, rfl⟩ := hb
          exact aCA_ok h hg1 hgo hd hy
    · cases hv
theorem e_makeMap (h : SatX E S a w ρ g) {o : Oper} {t : TypeId} (ho : o.op = .makeMap t none) {id : Nat} {k e : TypeId} (hid : freshId (E.pre.map (·.1)) S id = true) (hd : dstOk E.N o.dst = true) {K : Act → World → Prop} {Q : Exit → Act → World → Prop}
    (hK : ∀ a' w', Sat E (St.put ⟨delId S.fr id, (id, .smap k e []) :: S.ob⟩ o.dst (A (.sl id))) a' w' → K a' w') : o.wp E.P a w K Q := by
  have hb := h.newOb (id := id) hid (cls_alloc w (.map #[] 0)) (x := .map (some w.heap.size)) (b := w.heap.size) (.inl rfl) (fun _ => Nat.le_refl _) (ob := .smap k e []) rfl ⟨w.heap.size, #[], 0, by simp, (MapKept.heap_alloc w _).1, rfl⟩
  have hr : (execOp a.eval o).run E.P w = .ok (.value (.map (some w.heap.size))) (w.alloc (.map #[] 0)) := by
    have : (Instr.makeMap t none).run E.P w = .ok (.map (some w.heap.size)) (w.alloc (.map #[] 0)) := rfl
    simp [execOp, ho, this]
  exact wp_value hr (hK _ _ ⟨_, _, hb.put hd ⟨by simp, rfl⟩⟩)
theorem e_mapUpdate (h : SatX E S a w ρ g) {o : Oper} {t : TypeId} {m x y : Operand} (ho : o.op = .mapUpdate t m x y) {id : Nat} {s : ByteArray} (hm : ev S m = some (A (.sl id))) (hx : ev S x = some (V (.string s))) (hy : ev S y = some (V (.bool true))) {k e k' e' : TypeId} {D : List ByteArray} (hob : look S.ob id = some (.smap k e D))
    (ht : E.P.underlying t = some (.map k' e')) (hk : E.P.underlying k' = some .string) (hd : o.dst = none) {K : Act → World → Prop} {Q : Exit → Act → World → Prop}
    (hK : ∀ a' w', Sat E ⟨S.fr, setOb S.ob id (.smap k e (putB s D))⟩ a' w' → K a' w') : o.wp E.P a w K Q := by
  have hv : a.eval m = ρ id := (ev_ok h hm : CC ρ g (.sl id) _).1
  obtain ⟨b, es, cl, hr, hh, hes⟩ := h.ob.ok _ (look_mem hob)
  have e1 : a.eval m = .map (some b) := hv.trans hr
  have e2 : a.eval x = .string s := ev_ok h hx
  have e3 : a.eval y = .bool true := ev_ok h hy
  have hck : ∀ c, (Instr.checkKey c 10000 k' (.string s)).run E.P w = .ok () w := fun c => MapKept.run_checkKey hk (k := .string s) trivial c 9999
  obtain ⟨es', cl', hrun, hp⟩ : ∃ es' cl', (execOp a.eval o).run E.P w = .ok .skip { w with heap := w.heap.setIfInBounds b (.map es' cl') } ∧ es'.toList.map (fun z => (z.key, z.val)) = (putB s D).map fun s => (Value.string s, Value.bool true) := by
    rcases findNow_set (s := s) es.toList D 0 hes with ⟨h1, h2⟩ | ⟨h1, j, z, hz, hzk, hzv, h2⟩
    · refine ⟨es.push ⟨.string s, .bool true, cl⟩, cl + 1, ?_, by simp [putB, h1, hes]⟩
      simp [execOp, ho, e1, e2, e3, Instr.mapUpdate, run_underlying ht, MapKept.run_getObj_map hh, hck, Instr.findKey, run_underlying hk, h2, MapKept.run_setObj_map _ hh]
    · have hj : es[j]? = some z := by rw [← Array.getElem?_toList]; exact hz
      refine ⟨es.modify j fun e => { e with key := .string s, val := .bool true }, cl, ?_, ?_⟩
      · simp [execOp, ho, e1, e2, e3, Instr.mapUpdate, run_underlying ht, MapKept.run_getObj_map hh, hck, Instr.findKey, run_underlying hk, h2, MapKept.run_setObj_map _ hh, hj, hzk, Instr.keyThatStays, Instr.sameBits, (MapKept.bytes_beq s s).2 rfl]
      · rw [show putB s D = D by simp [putB, h1], ← hes]
        apply List.ext_getElem?
        intro i
        simp only [List.getElem?_map, Array.getElem?_toList, Array.getElem?_modify]
        by_cases hij : j = i
        · subst hij; simp [hj, hzk, hzv]
        · simp [hij]
  refine wp_skip' hrun ?_
  rw [hd]
  refine hK _ _ ⟨ρ, g, h.write hob (b := b) (by rw [hr]; rfl) rfl rfl rfl (by simp) (fun k hk => by simp [Array.getElem?_setIfInBounds, Ne.symm hk]) ⟨b, es', cl', hr, ?_, hp⟩⟩
  have := heap_lt hh
  simp [Array.getElem?_setIfInBounds, this]
end
end Go.Sx
