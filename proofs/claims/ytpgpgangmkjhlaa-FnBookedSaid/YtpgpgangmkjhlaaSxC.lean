/- The quiet operations: soundness. -/
import Derived.Test.YtpgpgangmkjhlaaSxB
namespace Go.Sx
set_option linter.unusedVariables false

/-- in every grown world operation o yields y -/
def QY (P : Program) (a : Act) (w : World) (o : Oper) (y : Value) : Prop := ∀ w', Cls w w' → o.quietAt P a (Cls w) w' y
theorem QY.of_run {P : Program} {a : Act} {w : World} {o : Oper} {y : Value} (h : ∀ w', Cls w w' → (execOp a.eval o).run P w' = .ok (.value y) w') : QY P a w o y := fun w' hw => by
  unfold Oper.quietAt
  rw [h w' hw]
  exact ⟨rfl, rfl⟩
/-- in every world -/
def YA (P : Program) (a : Act) (o : Oper) (y : Value) : Prop := ∀ w', (execOp a.eval o).run P w' = .ok (.value y) w'
theorem YA.qy {P : Program} {a : Act} {w : World} {o : Oper} {y : Value} (h : YA P a o y) : QY P a w o y := .of_run fun w' _ => h w'
theorem yq {ρ : Nat → Value} {g : GHeap} {rv : RV} {P : Program} {a : Act} {w : World} {o : Oper} (h : ∃ y, CR ρ g rv y ∧ YA P a o y) : ∃ y, CR ρ g rv y ∧ QY P a w o y := h.imp fun _ ⟨h1, h2⟩ => ⟨h1, h2.qy⟩
theorem optB_some {α : Type} {b : Bool} {x : Option α} {y : α} (h : optB b x = some y) : b = true ∧ x = some y := by
  cases b <;> simp_all [optB]

section
variable {E : Env} {S : St} {a : Act} {w : World} {ρ : Nat → Value} {g : GHeap}

theorem q_move (h : SatX E S a w ρ g) {o : Oper} {x : Operand} (ho : o.op = .move x ∨ o.op = .assign x) {rv : RV} (hx : ev S x = some rv) : ∃ y, CR ρ g rv y ∧ YA E.P a o y :=
  ⟨a.eval x, ev_ok h hx, fun w' => by rcases ho with ho | ho <;> simp [execOp, ho]⟩

theorem q_pure (h : SatX E S a w ρ g) {o : Oper} {rv : RV} (hs : ∀ cs b, o.op ≠ .select cs b) (hp : pureOp E.P S o = some rv) : ∃ y, CR ρ g rv y ∧ YA E.P a o y := by
  unfold pureOp at hp
  cases hv : allVal S o.op.operands.toList with
  | false => simp [hv] at hp
  | true =>
    simp only [hv, cond_true] at hp
    split at hp
    · rename_i v hps
      simp only [Option.some.injEq] at hp
      subst hp
      have hc : execOp a.eval o = execOp (valOf S) o := execOp_congr o hs fun x hx => valOf_ok h hv x (Array.mem_toList_iff.2 hx)
      exact ⟨v, rfl, fun w' => by rw [hc]; exact pureSem_run hps w'⟩
    · cases hp
theorem q_run (h : SatX E S a w ρ g) {o : Oper} {v : Value} (hs : ∀ cs b, o.op ≠ .select cs b) (hv : allVal S o.op.operands.toList = true)
    (hr : ∀ w, (execOp (valOf S) o).run E.P w = .ok (.value v) w) : ∃ y, CR ρ g (V v) y ∧ YA E.P a o y := by
  have hc : execOp a.eval o = execOp (valOf S) o := execOp_congr o hs fun x hx => valOf_ok h hv x (Array.mem_toList_iff.2 hx)
  exact ⟨v, rfl, fun w' => by rw [hc]; exact hr w'⟩

theorem sliceSz_spec {P : Program} {t sz : Nat} (h : sliceSz P t = some sz) : ∃ e i, P.underlying t = some (.slice e) ∧ P.info? e = some i ∧ i.size = sz := by
  unfold sliceSz at h
  split at h
  · rename_i e he
    obtain ⟨i, hi, rfl⟩ := Option.map_eq_some_iff.1 h
    exact ⟨e, i, he, hi, rfl⟩
  · cases h
theorem run_indexAt {P : Program} {w : World} {t sz : Nat} (h : sliceSz P t = some sz) {b o len cap : Nat} {k : IntKind} {n : Int} (h0 : 0 ≤ n) (hn : n.toNat < len) :
    (Instr.indexAt t (.slice (some ⟨b, o, none⟩) len cap) (.int k n)).run P w = .ok (.pointer (some ⟨b, o + n.toNat * sz, none⟩)) w := by
  obtain ⟨e, i, ht, hi, hs⟩ := sliceSz_spec h
  have hlt : n < len := by omega
  have ha : (⟨b, o, none⟩ : Addr).add (n.toNat * sz) = ⟨b, o + n.toNat * sz, none⟩ := add_mk _ _ _
  simp [Instr.indexAt, asIntOf, run_underlying ht, h0, hlt, sizeOf, typeInfo, hi, hs, ha]
theorem rs_pointer {sz : Nat} {L : List (List Value)} {y : Value} (h : RsOk g sz L y) {i : Nat} {cs : List Value} (hi : L[i]? = some cs) :
    ∃ b o cap c, y = .slice (some ⟨b, o, none⟩) L.length cap ∧ g b = some c ∧ i < L.length ∧ ReOk g cs 0 (.pointer (some ⟨b, o + i * sz, none⟩)) := by
  obtain ⟨h1, h2, h3⟩ := h
  have hil : i < L.length := (List.getElem?_eq_some_iff.1 hi).1
  rcases h3 with ⟨_, rfl⟩ | ⟨b, o, cap, c, hy, hb, hc, hm, ht⟩
  · simp at hil
  · refine ⟨b, o, cap, c, hy, hb, hil, ?_, b, o + i * sz, c, rfl, hb, ?_⟩
    · intro x hx
      exact h2 x (List.mem_flatten.2 ⟨cs, List.mem_of_getElem? hi, hx⟩)
    · have hs := flat_seg h1 hi
      have hm' : cs ∈ L := List.mem_of_getElem? hi
      rw [← ht] at hs
      rw [h1 cs hm']
      have hlen : (i + 1) * sz ≤ L.length * sz := Nat.mul_le_mul_right _ hil
      rw [Nat.add_mul, Nat.one_mul] at hlen
      rw [List.drop_take, List.take_take, List.drop_drop, Nat.min_eq_left (by omega)] at hs
      exact hs
theorem q_index_rs (h : SatX E S a w ρ g) {o : Oper} {t : TypeId} {x i : Operand} (ho : o.op = .indexAddr t x i) {sz : Nat} {L : List (List Value)} {k : IntKind} {n : Int} {cs : List Value}
    (hx : ev S x = some (A (.rs sz L))) (hi : ev S i = some (V (.int k n))) (ht : sliceSz E.P t = some sz) (h0 : 0 ≤ n) (hcs : L[n.toNat]? = some cs) : ∃ y, CR ρ g (A (.re cs 0)) y ∧ YA E.P a o y := by
  have e1 : RsOk g sz L (a.eval x) := ev_ok h hx
  have e2 : a.eval i = .int k n := ev_ok h hi
  obtain ⟨b, of, cap, c, hy, _, hil, hre⟩ := rs_pointer e1 hcs
  refine ⟨_, hre, fun w' => ?_⟩
  simp [execOp, ho, hy, e2, run_indexAt ht h0 hil]
theorem q_index_row (h : SatX E S a w ρ g) {o : Oper} {t : TypeId} {x i : Operand} (ho : o.op = .indexAddr t x i) {id sz : Nat} {e : TypeId} {L : List (List Value)} {k : IntKind} {n : Int}
    (hx : ev S x = some (A (.sl id))) (hob : ObOk ρ g w (ρ id) (.row e sz L)) (hi : ev S i = some (V (.int k n))) (ht : sliceSz E.P t = some sz) (h0 : 0 ≤ n) (hn : n.toNat < L.length) :
    ∃ y, CR ρ g (A (.pe id sz n.toNat 0)) y ∧ YA E.P a o y := by
  have e1 : a.eval x = ρ id := (ev_ok h hx : CC ρ g (.sl id) _).1
  have e2 : a.eval i = .int k n := ev_ok h hi
  obtain ⟨⟨hl, h1⟩, h2, h3⟩ := hob
  rcases h1 with ⟨_, h0'⟩ | ⟨b, cap, cur, hr, _, hh, hnn, hm, hs, ht'⟩
  · omega
  · have hr' : ρ id = .slice (some ⟨b, 0, none⟩) L.length cap := hr
    refine ⟨.pointer (some ⟨b, n.toNat * sz + 0, none⟩), ⟨b, _, _, hr', rfl⟩, fun w' => ?_⟩
    simp [execOp, ho, e1, hr', e2, run_indexAt ht h0 hn]
theorem q_index_sl (h : SatX E S a w ρ g) {o : Oper} {t : TypeId} {x i : Operand} (ho : o.op = .indexAddr t x i) {id sz : Nat} {e : TypeId} {L : List (List Value)} {k : IntKind} {n : Int}
    (hx : ev S x = some (A (.sl id))) (hob : look S.ob id = some (.row e sz L)) (hi : ev S i = some (V (.int k n))) (ht : sliceSz E.P t = some sz) (h0 : 0 ≤ n) (hn : n.toNat < L.length) :
    ∃ y, CR ρ g (A (.pe id sz n.toNat 0)) y ∧ YA E.P a o y := q_index_row h ho hx (h.ob.ok _ (look_mem hob)) hi ht h0 hn
theorem q_index_rows (h : SatX E S a w ρ g) {o : Oper} {t : TypeId} {x i : Operand} (ho : o.op = .indexAddr t x i) {id szs : Nat} {e : TypeId} {D : List (List (List Value))} {k : IntKind} {n : Int}
    (hx : ev S x = some (A (.sl id))) (hob : look S.ob id = some (.rows e szs D)) (hi : ev S i = some (V (.int k n))) (ht : sliceSz E.P t = some 1) (h0 : 0 ≤ n) (hn : n.toNat < D.length) :
    ∃ y, CR ρ g (A (.pe id 1 n.toNat 0)) y ∧ YA E.P a o y := by
  obtain ⟨ys, h1, h2⟩ := (h.ob.ok _ (look_mem hob)).rows_row
  exact q_index_row h ho hx h1 hi ht h0 (by rw [List.length_map, ← h2.length]; exact hn)

theorem fieldOff_spec {P : Program} {t f fo : Nat} (h : fieldOff P t f = some fo) : ∃ fs fl i, P.underlying t = some (.struct fs) ∧ fs[f]? = some fl ∧ P.info? fl.type = some i ∧ i.size ≠ 0 ∧ fl.offset = fo := by
  unfold fieldOff at h
  split at h
  · rename_i fs hfs
    split at h
    · rename_i fl hfl
      split at h
      · rename_i i hi
        cases hz : Nat.beq i.size 0 with
        | true => simp [hz] at h
        | false =>
          simp [hz] at h
          exact ⟨fs, fl, i, hfs, hfl, hi, fun e => by rw [e] at hz; simp at hz, h⟩
      · cases h
    · cases h
  · cases h
theorem run_fieldAt {P : Program} {w : World} {t f fo : Nat} (h : fieldOff P t f = some fo) (b o : Nat) :
    (Instr.fieldAt t (.pointer (some ⟨b, o, none⟩)) f).run P w = .ok (.pointer (some ⟨b, o + fo, none⟩)) w := by
  obtain ⟨fs, fl, i, h1, h2, h3, h4, rfl⟩ := fieldOff_spec h
  simp [Instr.fieldAt, run_underlying h1, h2, Instr.sureAddr, fieldPlace, sizeOf, typeInfo, h3, h4, add_mk]
theorem q_field_re (h : SatX E S a w ρ g) {o : Oper} {t : TypeId} {x : Operand} {f fo : Nat} (ho : o.op = .fieldAddr t x f) (hf : fieldOff E.P t f = some fo) {cs : List Value} {off : Nat}
    (hx : ev S x = some (A (.re cs off))) : ∃ y, CR ρ g (A (.re cs (off + fo))) y ∧ YA E.P a o y := by
  obtain ⟨h1, b, of, c, hy, hb, ht⟩ : ReOk g cs off (a.eval x) := ev_ok h hx
  refine ⟨.pointer (some ⟨b, of + (off + fo), none⟩), ⟨h1, b, of, c, rfl, hb, ht⟩, fun w' => ?_⟩
  simp [execOp, ho, hy, run_fieldAt hf, Nat.add_assoc]
theorem q_field_ptr (h : SatX E S a w ρ g) {o : Oper} {t : TypeId} {x : Operand} {f fo : Nat} (ho : o.op = .fieldAddr t x f) (hf : fieldOff E.P t f = some fo) {id off : Nat}
    (hx : ev S x = some (A (.ptr id off))) : ∃ y, CR ρ g (A (.ptr id (off + fo))) y ∧ YA E.P a o y := by
  obtain ⟨b, hr, hy⟩ : CC ρ g (.ptr id off) (a.eval x) := ev_ok h hx
  refine ⟨.pointer (some ⟨b, off + fo, none⟩), ⟨b, hr, rfl⟩, fun w' => ?_⟩
  simp [execOp, ho, hy, run_fieldAt hf]
theorem q_field_pe (h : SatX E S a w ρ g) {o : Oper} {t : TypeId} {x : Operand} {f fo : Nat} (ho : o.op = .fieldAddr t x f) (hf : fieldOff E.P t f = some fo) {id sz i off : Nat}
    (hx : ev S x = some (A (.pe id sz i off))) : ∃ y, CR ρ g (A (.pe id sz i (off + fo))) y ∧ YA E.P a o y := by
  obtain ⟨b, n, cap, hr, hy⟩ : CC ρ g (.pe id sz i off) (a.eval x) := ev_ok h hx
  refine ⟨.pointer (some ⟨b, i * sz + (off + fo), none⟩), ⟨b, n, cap, hr, rfl⟩, fun w' => ?_⟩
  simp [execOp, ho, hy, run_fieldAt hf, Nat.add_assoc]

theorem tsh_len {n k : Nat} (h : Nat.beq k n = true) : k = n := Nat.eq_of_beq_eq_true h

/-- the cells that lie at a pointer, in every grown world -/
theorem load_seg {P : Program} {w' : World} {o : Oper} {t : TypeId} {x : Operand} (ho : o.op = .load t x) {ag : Bool} {n : Nat} (ht : tsh P t = some (ag, n)) {b of off : Nat} (hy : a.eval x = .pointer (some ⟨b, of + off, none⟩))
    {cs : List Value} (hc : ∀ j u, cs[j]? = some u → w'.cell? ⟨b, of + j, none⟩ = some u) :
    (ag = true → ((cs.drop off).take n).length = n → (execOp a.eval o).run P w' = .ok (.value (.agg ((cs.drop off).take n).toArray)) w') ∧
    (ag = false → ∀ v, cs[off]? = some v → (execOp a.eval o).run P w' = .ok (.value v) w') := by
  refine ⟨fun hag hl => ?_, fun hag v hv => ?_⟩
  · have hr := run_load_cells (w := w') ht (b := b) (o := of + off) (xs := (cs.drop off).take n) (fun j u hj => ?_) (fun _ => hl) (fun e => by rw [hag] at e; cases e)
    · rw [hag] at hr
      simp only [if_true] at hr
      simp [execOp, ho, hy, Instr.loadAt, Instr.sureAddr, hr]
    · rw [List.getElem?_take] at hj
      split at hj
      · rw [List.getElem?_drop] at hj
        rw [Nat.add_assoc]
        exact hc _ u hj
      · cases hj
  · have hr := run_load_cells (w := w') ht (b := b) (o := of + off) (xs := [v]) (fun j u hj => ?_) (fun e => by rw [hag] at e; cases e) (fun _ => rfl)
    · rw [hag] at hr
      simp only [Bool.false_eq_true, if_false] at hr
      simp [execOp, ho, hy, Instr.loadAt, Instr.sureAddr, hr]
    · cases j with
      | zero => simp only [List.getElem?_cons_zero, Option.some.injEq] at hj; subst hj; exact hc off _ hv
      | succ j => simp at hj
theorem q_load_re_cell (h : SatX E S a w ρ g) {x : Operand} {cs : List Value} {off : Nat} (hx : ev S x = some (A (.re cs off))) :
    ∃ b of, a.eval x = .pointer (some ⟨b, of + off, none⟩) ∧ ∀ w', Cls w w' → ∀ j u, cs[j]? = some u → w'.cell? ⟨b, of + j, none⟩ = some u := by
  obtain ⟨h1, b, of, c, hy, hb, ht⟩ : ReOk g cs off (a.eval x) := ev_ok h hx
  refine ⟨b, of, hy, fun w' hw j u hj => ?_⟩
  obtain ⟨e, fr, he⟩ := (h.gs.cls hw) b c hb
  have := seg_get ht hj
  simp [World.cell?, he]
  simpa using this
theorem q_load_ptr_cell (h : SatX E S a w ρ g) {x : Operand} {id off : Nat} {ty : TypeId} {cs : List CA} (hx : ev S x = some (A (.ptr id off))) (hob : look S.ob id = some (.box ty cs)) :
    ∃ b, ∃ ys : List Value, a.eval x = .pointer (some ⟨b, 0 + off, none⟩) ∧ All2 (CC ρ g) cs ys ∧ ∀ w', Cls w w' → ∀ j u, ys[j]? = some u → w'.cell? ⟨b, 0 + j, none⟩ = some u := by
  obtain ⟨b, hr, hy⟩ : CC ρ g (.ptr id off) (a.eval x) := ev_ok h hx
  obtain ⟨b', ys, hr', hh, hc, h1⟩ := h.ob.ok _ (look_mem hob)
  have hb : b' = b := by
    have : ρ id = .pointer (some ⟨b', 0, none⟩) := hr'
    rw [hr] at this
    simpa using this.symm
  subst hb
  refine ⟨b', ys, by simpa using hy, hc, fun w' hw j u hj => ?_⟩
  have hh' : w'.heap[b']? = some (.cells ys.toArray ty (0, 0)) := by rw [hw.block b' (heap_lt hh)]; exact hh
  simp [World.cell?, hh']
  simpa using hj
theorem q_load_pe_row (h : SatX E S a w ρ g) {x : Operand} {id sz i off : Nat} {e : TypeId} {L : List (List Value)} {cs : List Value} (hx : ev S x = some (A (.pe id sz i off))) (hob : ObOk ρ g w (ρ id) (.row e sz L)) (hi : L[i]? = some cs) :
    ∃ b, a.eval x = .pointer (some ⟨b, i * sz + off, none⟩) ∧ ∀ w', Cls w w' → ∀ j u, cs[j]? = some u → w'.cell? ⟨b, i * sz + j, none⟩ = some u := by
  obtain ⟨b, n, cap, hr, hy⟩ : CC ρ g (.pe id sz i off) (a.eval x) := ev_ok h hx
  obtain ⟨⟨hl, h1⟩, h2, h3⟩ := hob
  have hil : i < L.length := (List.getElem?_eq_some_iff.1 hi).1
  rcases h1 with ⟨_, h0⟩ | ⟨b', cap', cur, hr', _, hh, hnn, hm, hs, ht⟩
  · omega
  · have hb : b' = b := by
      have : ρ id = .slice (some ⟨b', 0, none⟩) L.length cap' := hr'
      rw [hr] at this
      simp at this
      exact this.1.symm
    subst hb
    refine ⟨b', hy, fun w' hw j u hj => ?_⟩
    have hh' : w'.heap[b']? = some (.cells cur e (0, 0)) := by rw [hw.block b' (heap_lt hh)]; exact hh
    have hg := flat_get h2 hi hj
    rw [← ht, List.getElem?_take] at hg
    split at hg
    · simp [World.cell?, hh']
      simpa using hg
    · cases hg
theorem q_load_pe_cell (h : SatX E S a w ρ g) {x : Operand} {id sz i off : Nat} {e : TypeId} {L : List (List Value)} {cs : List Value} (hx : ev S x = some (A (.pe id sz i off))) (hob : look S.ob id = some (.row e sz L)) (hi : L[i]? = some cs) :
    ∃ b, a.eval x = .pointer (some ⟨b, i * sz + off, none⟩) ∧ ∀ w', Cls w w' → ∀ j u, cs[j]? = some u → w'.cell? ⟨b, i * sz + j, none⟩ = some u := q_load_pe_row h hx (h.ob.ok _ (look_mem hob)) hi
theorem q_load (h : SatX E S a w ρ g) {o : Oper} {t : TypeId} {x : Operand} (ho : o.op = .load t x) {orc orc' : List Orc} {rv : RV} {C : Option Prop} (hq : qev E.P S o orc = some (rv, orc', C)) (hC : oP C) : ∃ y, CR ρ g rv y ∧ QY E.P a w o y := by
  simp only [qev, ho] at hq
  cases ht : tsh E.P t with
  | none => simp [ht] at hq
  | some sh =>
    obtain ⟨ag, n⟩ := sh
    cases hx : ev S x with
    | none => simp [ht, hx] at hq
    | some r =>
      match r, hx with
      | .o (.c (.re cs off)), hx =>
        obtain ⟨b, of, hy, hcell⟩ := q_load_re_cell h hx
        cases ag with
        | true =>
          simp only [ht, hx, cond_true] at hq
          obtain ⟨hl, hq⟩ := optB_some hq
          simp only [Option.some.injEq, Prod.mk.injEq] at hq
          obtain ⟨rfl, _, _⟩ := hq
          exact ⟨_, rfl, .of_run fun w' hw => (load_seg ho ht hy (hcell w' hw)).1 rfl (tsh_len hl)⟩
        | false =>
          simp only [ht, hx, cond_false] at hq
          split at hq
          · rename_i v hv
            simp only [Option.some.injEq, Prod.mk.injEq] at hq
            obtain ⟨rfl, _, _⟩ := hq
            exact ⟨_, rfl, .of_run fun w' hw => (load_seg ho ht hy (hcell w' hw)).2 rfl v hv⟩
          · cases hq
      | .o (.c (.ptr id off)), hx =>
        cases hob : look S.ob id with
        | none => simp [ht, hx, hob] at hq
        | some ob =>
          cases ob with
          | row e sz L => simp [ht, hx, hob] at hq
          | rows e szs D => simp [ht, hx, hob] at hq
          | smap k e D => simp [ht, hx, hob] at hq
          | box ty cs =>
            obtain ⟨b, ys, hy, hcc, hcell⟩ := q_load_ptr_cell h hx hob
            cases ag with
            | true =>
              simp only [ht, hx, hob, cond_true] at hq
              obtain ⟨hl, hq⟩ := optB_some hq
              simp only [Option.some.injEq, Prod.mk.injEq] at hq
              obtain ⟨rfl, _, _⟩ := hq
              have h2 := (hcc.drop off).take n
              refine ⟨_, mkAgg_ok h2, .of_run fun w' hw => (load_seg ho ht hy (hcell w' hw)).1 rfl ?_⟩
              rw [← h2.length]; exact tsh_len hl
            | false =>
              simp only [ht, hx, hob, cond_false] at hq
              split at hq
              · rename_i c hv
                simp only [Option.some.injEq, Prod.mk.injEq] at hq
                obtain ⟨rfl, _, _⟩ := hq
                obtain ⟨y, hyy, hcy⟩ := hcc.get hv
                exact ⟨y, hcy, .of_run fun w' hw => (load_seg ho ht hy (hcell w' hw)).2 rfl y hyy⟩
              · cases hq
      | .o (.c (.pe id sz i off)), hx =>
        cases hob : look S.ob id with
        | none => simp [ht, hx, hob] at hq
        | some ob =>
          cases ob with
          | box ty cs => simp [ht, hx, hob] at hq
          | smap k e D => simp [ht, hx, hob] at hq
          | row e sz' L =>
            match orc with
            | .ix cs :: orc2 =>
              cases ag with
              | true =>
                simp only [ht, hx, hob, cond_true] at hq
                obtain ⟨hsz, hq'⟩ := optB_some hq
                clear hq
                have hsz := tsh_len hsz
                subst hsz
                have hq := hq'
                clear hq'
                obtain ⟨hl, hq⟩ := optB_some hq
                simp only [Option.some.injEq, Prod.mk.injEq] at hq
                obtain ⟨rfl, _, rfl⟩ := hq
                obtain ⟨b, hy, hcell⟩ := q_load_pe_cell h hx hob hC
                exact ⟨_, rfl, .of_run fun w' hw => (load_seg ho ht hy (hcell w' hw)).1 rfl (tsh_len hl)⟩
              | false =>
                simp only [ht, hx, hob, cond_false] at hq
                obtain ⟨hsz, hq'⟩ := optB_some hq
                clear hq
                have hsz := tsh_len hsz
                subst hsz
                have hq := hq'
                clear hq'
                split at hq
                · rename_i v hv
                  simp only [Option.some.injEq, Prod.mk.injEq] at hq
                  obtain ⟨rfl, _, rfl⟩ := hq
                  obtain ⟨b, hy, hcell⟩ := q_load_pe_cell h hx hob hC
                  exact ⟨_, rfl, .of_run fun w' hw => (load_seg ho ht hy (hcell w' hw)).2 rfl v hv⟩
                · cases hq
            | [] => simp [ht, hx, hob] at hq
            | .new _ :: _ => simp [ht, hx, hob] at hq
            | .run _ _ :: _ => simp [ht, hx, hob] at hq
            | .call .. :: _ => simp [ht, hx, hob] at hq
            | .as _ _ :: _ => simp [ht, hx, hob] at hq
            | .ln _ :: _ => simp [ht, hx, hob] at hq
            | .nm _ :: _ => simp [ht, hx, hob] at hq
            | .ad _ :: _ => simp [ht, hx, hob] at hq
            | .xo _ _ _ :: _ => simp [ht, hx, hob] at hq
            | .xg _ _ _ _ _ :: _ => simp [ht, hx, hob] at hq
            | .nd _ :: _ => simp [ht, hx, hob] at hq
          | rows e szs D =>
            match orc with
            | .nm Li :: orc2 =>
              simp only [ht, hx, hob] at hq
              obtain ⟨hb, hq⟩ := optB_some hq
              simp only [Option.some.injEq, Prod.mk.injEq] at hq
              obtain ⟨rfl, _, rfl⟩ := hq
              simp only [Bool.and_eq_true, Bool.not_eq_true'] at hb
              obtain ⟨⟨b1, b2⟩, b3⟩ := hb
              have b1 := tsh_len b1
              have b3 := tsh_len b3
              subst b1
              subst b3
              subst b2
              obtain ⟨ys, h1, h2⟩ := (h.ob.ok _ (look_mem hob)).rows_row
              obtain ⟨y, hy1, hy2⟩ := h2.get hC
              obtain ⟨b, hy, hcell⟩ := q_load_pe_row h hx h1 (cs := [y]) (by rw [List.getElem?_map, hy1]; rfl)
              exact ⟨y, hy2, .of_run fun w' hw => (load_seg ho ht hy (hcell w' hw)).2 rfl y rfl⟩
            | [] => simp [ht, hx, hob] at hq
            | .ix _ :: _ => simp [ht, hx, hob] at hq
            | .new _ :: _ => simp [ht, hx, hob] at hq
            | .run _ _ :: _ => simp [ht, hx, hob] at hq
            | .call .. :: _ => simp [ht, hx, hob] at hq
            | .as _ _ :: _ => simp [ht, hx, hob] at hq
            | .ln _ :: _ => simp [ht, hx, hob] at hq
            | .ad _ :: _ => simp [ht, hx, hob] at hq
            | .xo _ _ _ :: _ => simp [ht, hx, hob] at hq
            | .xg _ _ _ _ _ :: _ => simp [ht, hx, hob] at hq
            | .nd _ :: _ => simp [ht, hx, hob] at hq
      | .tup _, hx => simp [ht, hx] at hq
      | .o (.agg _), hx => simp [ht, hx] at hq
      | .o (.c (.v _)), hx => simp [ht, hx] at hq
      | .o (.c (.sl _)), hx => simp [ht, hx] at hq
      | .o (.c (.rs _ _)), hx => simp [ht, hx] at hq
      | .o (.c (.fn _ _)), hx => simp [ht, hx] at hq
      | .o (.c (.of _ _)), hx => simp [ht, hx] at hq
end
end Go.Sx
