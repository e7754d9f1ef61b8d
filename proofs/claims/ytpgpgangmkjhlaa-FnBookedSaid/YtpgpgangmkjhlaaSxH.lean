/- The operations that make or write memory, and calls: the theorem. -/
import Derived.Test.YtpgpgangmkjhlaaSxG
namespace Go.Sx
set_option linter.unusedVariables false

theorem oneAll_spec {l : List Value} (h : oneAll l = true) : ∀ y ∈ l, y.oneCell' = true := fun y hy => List.all_eq_true.1 h y hy
theorem cells_one {y : Value} (h : y.oneCell' = true) : y.cells = #[y] := by cases y <;> first | rfl | simp [Value.oneCell'] at h
section
variable {E : Env} {S : St} {a : Act} {w : World} {ρ : Nat → Value} {g : GHeap}

theorem All2_vals : ∀ {l : List Value}, All2 (CC ρ g) (l.map .v) l
  | [] => trivial
  | x :: r => ⟨rfl, All2_vals⟩
theorem CC.one_of {c : CA} {y : Value} (h : CC ρ g c y) (hc : c.one = true) : y.oneCell' = true := by
  cases c with
  | v x => have : y = x := h; rw [this]; exact hc
  | sl id => exact h.2
  | ptr id off => obtain ⟨b, _, rfl⟩ := h; rfl
  | pe id sz i off => obtain ⟨b, n, cap, _, rfl⟩ := h; rfl
  | rs sz L => obtain ⟨_, _, h3⟩ := h; rcases h3 with ⟨rfl | ⟨_, _, rfl, _⟩, _⟩ | ⟨b, o, cap, c, rfl, _⟩ <;> rfl
  | re cs off => obtain ⟨_, b, o, c, rfl, _⟩ := h; rfl
  | fn f ids => obtain ⟨bs, _, rfl⟩ := h; rfl
  | of F id => exact h.2
theorem ones_of : ∀ {cs : List CA} {ys : List Value}, All2 (CC ρ g) cs ys → cs.all CA.one = true → ∀ y ∈ ys, y.oneCell' = true
  | [], [], _, _, y, hy => by cases hy
  | c :: cs, z :: ys, h, ha, y, hy => by
    simp only [List.all_cons, Bool.and_eq_true] at ha
    cases hy with
    | head => exact CC.one_of h.1 ha.1
    | tail _ hy => exact ones_of h.2 ha.2 y hy
  | [], _ :: _, h, _, _, _ => h.elim
  | _ :: _, [], h, _, _, _ => h.elim
theorem cellsOf_ok {av : AV} {y : Value} (h : CAv ρ g av y) : All2 (CC ρ g) (cellsOf av) y.cells.toList := by
  cases av with
  | agg cs => obtain ⟨ys, rfl, h2⟩ := h; exact h2
  | c ca =>
    have key : ∀ ca : CA, CC ρ g ca y → y.oneCell' = true → All2 (CC ρ g) [ca] y.cells.toList := fun ca hc h1 => by
      rw [cells_one h1]; exact ⟨hc, trivial⟩
    have h' : CC ρ g ca y := h
    cases ca with
    | v x =>
      have e : y = x := h'
      subst e
      cases y <;> first | exact ⟨rfl, trivial⟩ | exact All2_vals
    | sl id => exact key _ h' (CC.one_of h' rfl)
    | ptr id off => exact key _ h' (CC.one_of h' rfl)
    | pe id sz i off => exact key _ h' (CC.one_of h' rfl)
    | rs sz L => exact key _ h' (CC.one_of h' rfl)
    | re cs off => exact key _ h' (CC.one_of h' rfl)
    | fn f ids => exact key _ h' (CC.one_of h' rfl)
    | of F id => exact key _ h' (CC.one_of h' rfl)
theorem cellsV_ok {rv : RV} {y : Value} {ds : List Value} (hd : cellsV rv = some ds) (h : CR ρ g rv y) : y.cells.toList = ds := by
  unfold cellsV at hd
  split at hd
  · simp only [Option.some.injEq] at hd; subst hd; have : y = _ := h; rw [this]; rfl
  · rename_i x hx
    simp only [Option.some.injEq] at hd; subst hd
    have e : y = x := h
    rw [e]
    cases x <;> first | rfl | exact absurd rfl (hx _)
  · cases hd

/-- A step of the second kind, from what it runs to. -/
theorem wp_value {o : Oper} {K : Act → World → Prop} {Q : Exit → Act → World → Prop} {v : Value} {w' : World} (hr : (execOp a.eval o).run E.P w = .ok (.value v) w') (hk : K (a.put o.dst v) w') : o.wp E.P a w K Q := by
  unfold Oper.wp; rw [hr]; exact hk
theorem wp_skip' {o : Oper} {K : Act → World → Prop} {Q : Exit → Act → World → Prop} {w' : World} (hr : (execOp a.eval o).run E.P w = .ok .skip w') (hk : K (a.put o.dst undef) w') : o.wp E.P a w K Q := by
  unfold Oper.wp; rw [hr]; exact hk

theorem e_box (h : SatX E S a w ρ g) {o : Oper} {ty : TypeId} {id : Nat} {cs : List CA} {v : Value} (hcs : All2 (CC ρ g) cs v.cells.toList) (h1 : cs.all CA.one = true) (hn : cs.any (CA.has id) = false) (hid : freshId (E.pre.map (·.1)) S id = true) (hd : dstOk E.N o.dst = true)
    (hr : (execOp a.eval o).run E.P w = .ok (.value (.pointer (some ⟨w.heap.size, 0, none⟩))) (w.alloc (.cells v.cells ty))) {K : Act → World → Prop} {Q : Exit → Act → World → Prop}
    (hK : ∀ a' w', Sat E (St.put ⟨delId S.fr id, (id, .box ty cs) :: S.ob⟩ o.dst (A (.ptr id 0))) a' w' → K a' w') : o.wp E.P a w K Q := by
  have hb := h.newBox hid (ty := ty) hcs (ones_of hcs h1) hn
  rw [show (v.cells.toList.toArray : Array Value) = v.cells by simp] at hb
  exact wp_value hr (hK _ _ ⟨_, _, hb.put hd ⟨w.heap.size, by simp, rfl⟩⟩)

theorem run_storeVar {P : Program} {t : TypeId} {ag : Bool} {n : Nat} (ht : tsh P t = some (ag, n)) {b o : Nat} {e : TypeId} {cur : Array Value} (hg : w.heap[b]? = some (.cells cur e (0, 0))) {v : Value} (hn : v.cells.toList.length = n) (hfit : o + n ≤ cur.size) (h1 : ∀ y ∈ v.cells.toList, y.oneCell' = true) :
    (storeVar t ⟨b, o, none⟩ v).run P w = .ok () (w.setRow b (cur.toList.take o ++ v.cells.toList ++ cur.toList.drop (o + n)).toArray) := by
  obtain ⟨d, i, hd, hi, hs, _⟩ := tsh_spec ht
  have hr := run_storeCells_at P b o e v.cells.toList 0 cur w hg (by omega) h1
  simp only [Nat.add_zero, hn] at hr
  have hsz : v.cells.size = n := by simpa using hn
  simp [storeVar, sizeOf, typeInfo, hi, hs, hsz, hr]
theorem setRow_fw (w : World) (b : Nat) (cs : Array Value) : (w.setRow b cs).heap.size = w.heap.size ∧ ∀ k, k ≠ b → (w.setRow b cs).heap[k]? = w.heap[k]? := ⟨by simp, fun k hk => setRow_other w b k cs hk⟩

theorem e_store_box (h : SatX E S a w ρ g) {o : Oper} {t : TypeId} {x y : Operand} (ho : o.op = .store t x y) {id off : Nat} {av : AV} {ag : Bool} {n : Nat} {ty : TypeId} {cs : List CA} (hx : ev S x = some (A (.ptr id off))) (hy : ev S y = some (.o av)) (ht : tsh E.P t = some (ag, n)) (hob : look S.ob id = some (.box ty cs))
    (hl : (cellsOf av).length = n) (hf : off + n ≤ cs.length) (h1 : (cellsOf av).all CA.one = true) (hd : o.dst = none) {K : Act → World → Prop} {Q : Exit → Act → World → Prop}
    (hK : ∀ a' w', Sat E ⟨S.fr, setOb S.ob id (.box ty (cs.take off ++ cellsOf av ++ cs.drop (off + n)))⟩ a' w' → K a' w') : o.wp E.P a w K Q := by
  obtain ⟨b, hr, ex⟩ : CC ρ g (.ptr id off) (a.eval x) := ev_ok h hx
  have hc := cellsOf_ok (ev_ok h hy : CAv ρ g av (a.eval y))
  obtain ⟨b', ys, hr', hh, hcc, h1c⟩ := h.ob.ok _ (look_mem hob)
  have hb : b' = b := by
    have : ρ id = .pointer (some ⟨b', 0, none⟩) := hr'
    rw [hr] at this
    simpa using this.symm
  subst hb
  have hn : (a.eval y).cells.toList.length = n := by rw [← hc.length]; exact hl
  have hones := ones_of hc h1
  have hs := run_storeVar (w := w) (P := E.P) ht (b := b') (o := off) hh hn (by have := hcc.length; simp; omega) hones
  have hex : (execOp a.eval o).run E.P w = .ok .skip (w.setRow b' (ys.take off ++ (a.eval y).cells.toList ++ ys.drop (off + n)).toArray) := by
    simp [execOp, ho, ex, Instr.storeAt, Instr.sureAddr, hs]
  refine wp_skip' hex ?_
  rw [hd]
  obtain ⟨s1, s2⟩ := setRow_fw w b' (ys.take off ++ (a.eval y).cells.toList ++ ys.drop (off + n)).toArray
  refine hK _ _ ⟨ρ, g, h.write hob (by rw [hr]; rfl) rfl rfl rfl s1 s2 ⟨b', _, hr, setRow_heap w b' _ _ ty _ hh, ((hcc.take off).append hc).append (hcc.drop (off + n)), fun z hz => ?_⟩⟩
  rcases List.mem_append.1 hz with hz | hz
  · rcases List.mem_append.1 hz with hz | hz
    · exact h1c z (List.mem_of_mem_take hz)
    · exact hones z hz
  · exact h1c z (List.mem_of_mem_drop hz)

theorem flat_set {L : List (List Value)} {sz i : Nat} {cs ds : List Value} (hL : ∀ c ∈ L, c.length = sz) (hi : L[i]? = some cs) (hd : ds.length = sz) : (L.set i ds).flatten = L.flatten.take (i * sz) ++ ds ++ L.flatten.drop ((i + 1) * sz) := by
  induction L generalizing i with
  | nil => simp at hi
  | cons c r ih =>
    have h1 := hL c (by simp)
    cases i with
    | zero => simp only [List.set_cons_zero, List.flatten_cons, Nat.zero_mul, List.take_zero, List.nil_append, Nat.zero_add, Nat.one_mul]; rw [List.drop_left' h1]
    | succ i =>
      have h2 := ih (fun c hc => hL c (by simp [hc])) (by simpa using hi)
      have t1 : ∀ k, (c ++ r.flatten).take (c.length + k) = c ++ r.flatten.take k := fun k => by
        rw [List.take_append, List.take_of_length_le (Nat.le_add_right _ _), Nat.add_sub_cancel_left]
      have t2 : ∀ k, (c ++ r.flatten).drop (c.length + k) = r.flatten.drop k := fun k => by
        rw [List.drop_append, List.drop_eq_nil_of_le (Nat.le_add_right _ _), Nat.add_sub_cancel_left, List.nil_append]
      have e1 : (i + 1) * sz = c.length + i * sz := by rw [h1, Nat.add_mul]; omega
      have e2 : (i + 1 + 1) * sz = c.length + (i + 1) * sz := by rw [h1, Nat.add_mul (i + 1)]; omega
      rw [List.set_cons_succ, List.flatten_cons, List.flatten_cons, h2, e2, t2, e1, t1, ← e1]
      simp [List.append_assoc]
theorem e_store_row (h : SatX E S a w ρ g) {o : Oper} {t : TypeId} {x y : Operand} (ho : o.op = .store t x y) {id sz i off : Nat} {rv : RV} {ag : Bool} {n : Nat} {e : TypeId} {L : List (List Value)} {cs ds : List Value} (hx : ev S x = some (A (.pe id sz i off))) (hy : ev S y = some rv) (ht : tsh E.P t = some (ag, n)) (hob : look S.ob id = some (.row e sz L))
    (hds : cellsV rv = some ds) (hl : ds.length = n) (hf : off + n ≤ cs.length) (h1 : oneAll ds = true) (hi : L[i]? = some cs) (hd : o.dst = none) {K : Act → World → Prop} {Q : Exit → Act → World → Prop}
    (hK : ∀ a' w', Sat E ⟨S.fr, setOb S.ob id (.row e sz (L.set i (cs.take off ++ ds ++ cs.drop (off + n))))⟩ a' w' → K a' w') : o.wp E.P a w K Q := by
  obtain ⟨b, m, cap, hr, ex⟩ : CC ρ g (.pe id sz i off) (a.eval x) := ev_ok h hx
  have hc := cellsV_ok hds (ev_ok h hy)
  obtain ⟨⟨hfl, h0⟩, hL, hL1⟩ := h.ob.ok _ (look_mem hob)
  have hil : i < L.length := (List.getElem?_eq_some_iff.1 hi).1
  have hcl : cs.length = sz := hL cs (List.mem_of_getElem? hi)
  rcases h0 with ⟨_, h00⟩ | ⟨b', cap', cur, hr', hz, hh, hnn, hm, hcs, htk⟩
  · omega
  · have hb : b' = b := by
      have : ρ id = .slice (some ⟨b', 0, none⟩) L.length cap' := hr'
      rw [hr] at this
      simp at this
      exact this.1.symm
    subst hb
    have hones : ∀ z ∈ (a.eval y).cells.toList, z.oneCell' = true := by rw [hc]; exact oneAll_spec h1
    have hle : (i + 1) * sz ≤ L.length * sz := Nat.mul_le_mul_right _ hil
    have hle2 : L.length * sz ≤ cap' * sz := Nat.mul_le_mul_right _ hnn
    have hle1 : (i + 1) * sz = i * sz + sz := by rw [Nat.add_mul, Nat.one_mul]
    have hfit : i * sz + off + n ≤ cur.size := by omega
    have hs := run_storeVar (w := w) (P := E.P) ht (b := b') (o := i * sz + off) hh (by rw [hc]; exact hl) hfit hones
    rw [hc] at hs
    have hex : (execOp a.eval o).run E.P w = .ok .skip (w.setRow b' (cur.toList.take (i * sz + off) ++ ds ++ cur.toList.drop (i * sz + off + n)).toArray) := by
      simp [execOp, ho, ex, Instr.storeAt, Instr.sureAddr, hs]
    refine wp_skip' hex ?_
    rw [hd]
    obtain ⟨s1, s2⟩ := setRow_fw w b' (cur.toList.take (i * sz + off) ++ ds ++ cur.toList.drop (i * sz + off + n)).toArray
    have hdl : (cs.take off ++ ds ++ cs.drop (off + n)).length = sz := by simp; omega
    have hdm : ∀ c ∈ L.set i (cs.take off ++ ds ++ cs.drop (off + n)), c.length = sz := fun c hc => by
      rcases List.mem_or_eq_of_mem_set hc with hc | rfl
      · exact hL c hc
      · exact hdl
    have hflat := flat_set hL hi hdl
    have hseg := flat_seg hL hi
    -- the cells of element i, before and behind the store
    have htl : (cur.toList.take (L.length * sz)) = L.flatten := htk
    have c1 : L.flatten.take (i * sz) ++ cs.take off = cur.toList.take (i * sz + off) := by
      rw [← htl, List.take_take, Nat.min_eq_left (by omega), List.take_add, ← hseg, List.take_take, Nat.min_eq_left (by omega), ← htl, List.drop_take, List.take_take, Nat.min_eq_left (by omega)]
    have c2 : cs.drop (off + n) ++ L.flatten.drop ((i + 1) * sz) = (cur.toList.take (L.length * sz)).drop (i * sz + off + n) := by
      rw [htl, ← hseg, List.drop_take, List.drop_drop]
      have e1 : i * sz + off + n = i * sz + (off + n) := by omega
      have e2 : L.flatten.drop ((i + 1) * sz) = (L.flatten.drop (i * sz + (off + n))).drop (sz - (off + n)) := by rw [List.drop_drop]; congr 1; omega
      rw [e1, e2, List.take_append_drop]
    have hnew : (L.set i (cs.take off ++ ds ++ cs.drop (off + n))).flatten = cur.toList.take (i * sz + off) ++ ds ++ (cur.toList.take (L.length * sz)).drop (i * sz + off + n) := by
      rw [hflat, ← c1, ← c2]; simp [List.append_assoc]
    have hone' : ∀ z ∈ (L.set i (cs.take off ++ ds ++ cs.drop (off + n))).flatten, z.oneCell' = true := fun z hz => by
      obtain ⟨c, hc, hz⟩ := List.mem_flatten.1 hz
      rcases List.mem_or_eq_of_mem_set hc with hc | rfl
      · exact hL1 z (List.mem_flatten.2 ⟨c, hc, hz⟩)
      · have hcs1 : ∀ z ∈ cs, z.oneCell' = true := fun z hz => hL1 z (List.mem_flatten.2 ⟨cs, List.mem_of_getElem? hi, hz⟩)
        rcases List.mem_append.1 hz with hz | hz
        · rcases List.mem_append.1 hz with hz | hz
          · exact hcs1 z (List.mem_of_mem_take hz)
          · exact oneAll_spec h1 z hz
        · exact hcs1 z (List.mem_of_mem_drop hz)
    refine hK _ _ ⟨ρ, g, h.write hob (by rw [hr]; rfl) rfl rfl rfl s1 s2 ⟨⟨by rw [flat_len hdm], .inr ⟨b', cap', _, ?_, hz, setRow_heap w b' _ _ e _ hh, by simpa using hnn, hm, ?_, ?_⟩⟩, hdm, hone'⟩⟩
    · simp only [List.length_set]; exact hr'
    · simp only [List.size_toArray, List.length_append, List.length_take, List.length_drop, Array.length_toList]
      omega
    · simp only [List.length_set, hnew]
      have hcl2 : cur.toList.length = cap' * sz := by simpa using hcs
      have l1 : (cur.toList.take (i * sz + off) ++ ds).length = i * sz + off + n := by simp; omega
      rw [List.take_append, l1, List.take_of_length_le (by rw [l1]; omega), List.drop_take]
end
end Go.Sx
