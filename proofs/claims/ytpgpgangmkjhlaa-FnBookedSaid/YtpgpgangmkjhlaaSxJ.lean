/- Calls that make or write memory; the theorem on the operations of the second kind. -/
import Derived.Test.YtpgpgangmkjhlaaSxI
namespace Go.Sx
set_option linter.unusedVariables false
section
variable {E : Env} {S : St} {a : Act} {w : World} {ρ : Nat → Value} {g : GHeap}
theorem allIds_ok {l m : List (Nat × OB)} (h : (l.all fun p => m.any fun q => Nat.beq p.1 q.1) = true) : ∀ i ∈ l.map (·.1), i ∈ m.map (·.1) := fun i hi => by
  obtain ⟨p, hp, rfl⟩ := List.mem_map.1 hi
  obtain ⟨q, hq, e⟩ := List.any_eq_true.1 (List.all_eq_true.1 h p hp)
  exact List.mem_map.2 ⟨q, hq, (Nat.eq_of_beq_eq_true e).symm⟩
theorem e_call0 (h : SatX E S a w ρ g) {o : Oper} {f : FuncId} {vs : List Value} (hrun : (execOp a.eval o).run E.P w = .ok (.enter f vs.toArray) w)
    {al : Bool} {pre : List Nat} {avs : List AV} (hv : ∀ g1 : GHeap, (∀ b c, g b = some c → g1 b = some c) → (al = false → ∀ p ∈ S.ob, (∀ i ∈ pre, i ≠ p.1) → ∀ b, blk (ρ p.1) = some b → ∀ c, gAll w b = some c → g1 b = some c) → All2 (CAv ρ g1) avs vs) {res : RV} {pre' new : List (Nat × OB)} (hd : dstOk E.N o.dst = true)
    (hfree : al = false → res.free = true ∧ (∀ p ∈ pre', p.2.free = true) ∧ ∀ p ∈ new, p.2.free = true)
    (hnew : ∀ p ∈ new, freshId (E.pre.map (·.1)) ⟨S.fr, S.ob⟩ p.1 = true ∧ ∀ q ∈ dropIds S.ob pre, q.2.has p.1 = false)
    (hC : Con E.P f avs (takeIds S.ob pre) res pre' new) (hids : ∀ i ∈ pre'.map (·.1), i ∈ (takeIds S.ob pre).map (·.1)) {K : Act → World → Prop} {Q : Exit → Act → World → Prop}
    (hK : ∀ a' w', Sat E (St.put ⟨new.foldl (fun fr p => delId fr p.1) S.fr, pre' ++ new ++ dropIds S.ob pre⟩ o.dst res) a' w' → K a' w') : o.wp E.P a w K Q := by
  let obs := takeIds S.ob pre
  let B : Nat → Prop := PB ρ obs
  have hobs : ∀ p ∈ obs, p ∈ S.ob ∧ p.1 ∈ pre := fun p hp => mem_takeIds hp
  have hBown : ∀ k, B k → E.own k ∧ g k = none := fun k ⟨p, hp, hk⟩ => ⟨h.ob.own p (hobs p hp).1 k hk, h.ob.ro p (hobs p hp).1 k hk⟩
  have hBlt : ∀ k, B k → k < w.heap.size := fun k ⟨p, hp, hk⟩ => obBlk_lt h p (hobs p hp).1 k hk
  have hrestB : ∀ p ∈ dropIds S.ob pre, ∀ k, blk (ρ p.1) = some k → ¬ B k := fun p hp k hk ⟨q, hq, hqk⟩ => by
    obtain ⟨h1, h2⟩ := mem_dropIds hp
    obtain ⟨h3, h4⟩ := hobs q hq
    exact h.ob.apart p h1 q h3 (fun e => h2 q.1 h4 e.symm) k hk hqk
  -- what is read at the call
  obtain ⟨g1, hg1, hsub1, hro1, hargs⟩ : ∃ g1 : GHeap, (∀ b c, g b = some c → g1 b = some c) ∧ GSub g1 w ∧ (∀ k, B k → g1 k = none) ∧ All2 (CAv ρ g1) avs vs ∧ (al = true → g1 = g) := by
    cases al with
    | true => exact ⟨g, fun _ _ h => h, h.gs, fun k hk => (hBown k hk).2, hv g (fun _ _ h => h) (fun e => by cases e), fun _ => rfl⟩
    | false =>
      have hgg : ∀ b c, g b = some c → gBut w B b = some c := fun b c hb => by
        have : ¬ B b := fun hB => by rw [(hBown b hB).2] at hb; cases hb
        unfold gBut; rw [if_neg this]; exact h.gs.all hb
      refine ⟨gBut w B, hgg, gBut_sub w B, fun k hk => by unfold gBut; rw [if_pos hk], hv _ hgg (fun _ p hp hne b hb c hc => ?_), fun e => by cases e⟩
      have : ¬ B b := fun ⟨q, hq, hqk⟩ => by
        obtain ⟨h3, h4⟩ := hobs q hq
        exact h.ob.apart p hp q h3 (fun e => hne q.1 h4 e.symm) b hb hqk
      unfold gBut; rw [if_neg this]; exact hc
  obtain ⟨hargs, hal⟩ := hargs
  have hpre : Objs ρ g1 w (fun b => b < w.heap.size) obs :=
    ⟨nodup_map_filter h.ob.ids, fun p hp => ObOk.mono hg1 (h.ob.ok p (hobs p hp).1), fun p hp k hk => obBlk_lt h p (hobs p hp).1 k hk, fun p hp q hq => h.ob.apart p (hobs p hp).1 q (hobs q hq).1, fun p hp k hk => hro1 k ⟨p, hp, hk⟩⟩
  unfold Oper.wp
  rw [hrun]
  refine (hC ρ g1 w _ (Tab.mono hg1 h.gm.tab) hsub1 hpre hargs).mono ?_
  rintro e w' ⟨v, ρ', g', rfl, hρ, hfw, hgs', hgm', hgn', hres, hob'⟩
  show K (a.put o.dst v) w'
  have hnewid : ∀ p ∈ new, (∀ q ∈ S.ob, q.1 ≠ p.1) ∧ p.1 ∉ E.pre.map (·.1) := fun p hp => by
    obtain ⟨f1, f2, _⟩ := freshId_spec (hnew p hp).1
    exact ⟨f1, f2⟩
  have hρob : ∀ q ∈ S.ob, ρ' q.1 = ρ q.1 := fun q hq => hρ q.1 fun hm => by
    obtain ⟨p, hp, e⟩ := List.mem_map.1 hm
    exact (hnewid p hp).1 q hq e.symm
  have hfr : ∀ p ∈ new.foldl (fun fr p => delId fr p.1) S.fr, p ∈ S.fr ∧ ∀ i, p.2.has i = true → ρ' i = ρ i := fun p hp => by
    obtain ⟨h1, h2⟩ := delFold_mem hp
    exact ⟨h1, fun i hi => hρ i fun hm => by
      obtain ⟨q, hq, e⟩ := List.mem_map.1 hm
      have := h2 q hq
      rw [e, hi] at this
      cases this⟩
  have hrest : ∀ p ∈ dropIds S.ob pre, p ∈ S.ob ∧ (∀ i, p.2.has i = true → ρ' i = ρ i) ∧ ρ' p.1 = ρ p.1 ∧ ∀ k, blk (ρ p.1) = some k → ¬ B k := fun p hp => by
    have h1 := (mem_dropIds hp).1
    exact ⟨h1, (fun i hi => hρ i fun hm => by
      obtain ⟨q, hq, e⟩ := List.mem_map.1 hm
      have := (hnew q hq).2 p hp
      rw [e, hi] at this
      cases this), hρob p h1, hrestB p hp⟩
  have hidall : ((pre' ++ new ++ dropIds S.ob pre).map (·.1)).Nodup := by
    rw [List.map_append, List.nodup_append]
    refine ⟨hob'.ids, nodup_map_filter h.ob.ids, fun i hi j hj e => ?_⟩
    subst e
    obtain ⟨q, hq, rfl⟩ := List.mem_map.1 hj
    rw [List.map_append, List.mem_append] at hi
    rcases hi with hi | hi
    · have hi := hids _ hi
      obtain ⟨p, hp, e⟩ := List.mem_map.1 hi
      exact (mem_dropIds hq).2 p.1 (hobs p hp).2 e
    · obtain ⟨p, hp, e⟩ := List.mem_map.1 hi
      exact (hnewid p hp).1 q (mem_dropIds hq).1 e.symm
  have hpi : ∀ p ∈ E.pre, ρ' p.1 = ρ p.1 := fun p hp => hρ p.1 fun hm => by
    obtain ⟨q, hq, e⟩ := List.mem_map.1 hm
    exact (hnewid q hq).2 (e ▸ List.mem_map.2 ⟨p, hp, rfl⟩)
  cases al with
  | true =>
    have hg1 : g1 = g := hal rfl
    subst hg1
    have := h.move (B := B) (mine := pre' ++ new) (rest := dropIds S.ob pre) hfr hrest hfw hBown hgs' hgm' hgn' hob' hidall hpi
    exact hK _ _ ⟨_, _, this.put hd hres⟩
  | false =>
    obtain ⟨fr1, fr2, fr3⟩ := hfree rfl
    have hgsw : GSub g w' := fun k c hk => by
      have hnB : ¬ B k := fun hB => by rw [(hBown k hB).2] at hk; cases hk
      obtain ⟨e, fr, he⟩ := h.gs k c hk
      exact ⟨e, fr, by rw [hfw.block k (heap_lt he) hnB]; exact he⟩
    have hobg : Objs ρ' g w' (fun b => PB ρ obs b ∨ w.heap.size ≤ b) (pre' ++ new) :=
      ⟨hob'.ids, fun p hp => ObOk.regap ((List.mem_append.1 hp).elim (fr2 p) (fr3 p)) (hob'.ok p hp), hob'.own, hob'.apart, fun p hp k hk => by
        rcases hob'.own p hp k hk with h5 | h5
        · exact (hBown k h5).2
        · cases hgk : g k with
          | none => rfl
          | some c => have := h.gs.lt hgk; omega⟩
    have := h.move (B := B) (mine := pre' ++ new) (rest := dropIds S.ob pre) hfr hrest hfw hBown hgsw (fun _ _ h => h) (fun _ _ h => .inl h) hobg hidall hpi
    exact hK _ _ ⟨_, _, this.put hd (CR.regap fr1 hres)⟩

theorem e_call (h : SatX E S a w ρ g) {o : Oper} {c : Call} (ho : o.op = .call c) {f : FuncId} (hcv : c.callee = .value (.func f)) {fn : Func} (hf : E.P.funcs[f]? = some fn) (hb : fn.body.isSome = true) (hn : (fn.name == "runtime.NumGoroutine") = false)
    {al : Bool} {pre : List Nat} {avs : List AV} (hv : argsAV al S pre c.args.toList = some avs) {res : RV} {pre' new : List (Nat × OB)} (hd : dstOk E.N o.dst = true)
    (hfree : al = false → res.free = true ∧ (∀ p ∈ pre', p.2.free = true) ∧ ∀ p ∈ new, p.2.free = true)
    (hnew : ∀ p ∈ new, freshId (E.pre.map (·.1)) ⟨S.fr, S.ob⟩ p.1 = true ∧ ∀ q ∈ dropIds S.ob pre, q.2.has p.1 = false)
    (hC : Con E.P f avs (takeIds S.ob pre) res pre' new) (hids : ∀ i ∈ pre'.map (·.1), i ∈ (takeIds S.ob pre).map (·.1)) {K : Act → World → Prop} {Q : Exit → Act → World → Prop}
    (hK : ∀ a' w', Sat E (St.put ⟨new.foldl (fun fr p => delId fr p.1) S.fr, pre' ++ new ++ dropIds S.ob pre⟩ o.dst res) a' w' → K a' w') : o.wp E.P a w K Q :=
  e_call0 h (run_call ho hcv hf hb hn w) (fun g1 h1 h2 => argsAV_ok h h1 h2 hv) hd hfree hnew hC hids hK
theorem ptrs_ok {g1 : GHeap} : ∀ {ids bs : List Nat}, All2 (fun id b => ρ id = .pointer (some ⟨b, 0, none⟩)) ids bs → All2 (CAv ρ g1) (ids.map fun i => AV.c (.ptr i 0)) (bs.map fun b => Value.pointer (some ⟨b, 0, none⟩))
  | [], [], _ => trivial
  | i :: ids, b :: bs, h => ⟨⟨b, h.1, rfl⟩, ptrs_ok h.2⟩
  | [], _ :: _, h => h.elim
  | _ :: _, [], h => h.elim
theorem e_callFn (h : SatX E S a w ρ g) {o : Oper} {c : Call} (ho : o.op = .call c) {t : Nat} (hcv : c.callee = .value (.tmp t)) {f : FuncId} {ids : List Nat} (hl : look S.fr t = some (.o (.c (.fn f ids)))) {fn : Func} (hf : E.P.funcs[f]? = some fn) (hb : fn.body.isSome = true) (hn : (fn.name == "runtime.NumGoroutine") = false)
    {al : Bool} {pre : List Nat} {avs : List AV} (hv : argsAV al S pre c.args.toList = some avs) {res : RV} {pre' new : List (Nat × OB)} (hd : dstOk E.N o.dst = true)
    (hfree : al = false → res.free = true ∧ (∀ p ∈ pre', p.2.free = true) ∧ ∀ p ∈ new, p.2.free = true)
    (hnew : ∀ p ∈ new, freshId (E.pre.map (·.1)) ⟨S.fr, S.ob⟩ p.1 = true ∧ ∀ q ∈ dropIds S.ob pre, q.2.has p.1 = false)
    (hC : Con E.P f (avs ++ ids.map fun i => .c (.ptr i 0)) (takeIds S.ob pre) res pre' new) (hids : ∀ i ∈ pre'.map (·.1), i ∈ (takeIds S.ob pre).map (·.1)) {K : Act → World → Prop} {Q : Exit → Act → World → Prop}
    (hK : ∀ a' w', Sat E (St.put ⟨new.foldl (fun fr p => delId fr p.1) S.fr, pre' ++ new ++ dropIds S.ob pre⟩ o.dst res) a' w' → K a' w') : o.wp E.P a w K Q := by
  obtain ⟨bs, h1, hy⟩ : CC ρ g (.fn f ids) (a.eval (.tmp t)) := ev_ok h (x := .tmp t) hl
  exact e_call0 h (run_callFn ho hcv hy hf hb hn w) (fun g1 h2 h3 => (argsAV_ok h h2 h3 hv).append (ptrs_ok h1)) hd hfree hnew hC hids hK

/-- an element of an owned row is written whole -/
theorem row_set {x : Value} {e sz : Nat} {L : List (List Value)} (h : ObOk ρ g w x (.row e sz L)) {i : Nat} {cs ds : List Value} (hi : L[i]? = some cs) (hd : ds.length = sz) (h1 : ∀ y ∈ ds, y.oneCell' = true) :
    ∃ b cap cur, x = .slice (some ⟨b, 0, none⟩) L.length cap ∧ w.heap[b]? = some (.cells cur e (0, 0)) ∧ i * sz + sz ≤ cur.size ∧ (∀ j u, cs[j]? = some u → cur.toList[i * sz + j]? = some u) ∧
      ObOk ρ g (w.setRow b (cur.toList.take (i * sz) ++ ds ++ cur.toList.drop (i * sz + sz)).toArray) x (.row e sz (L.set i ds)) := by
  obtain ⟨⟨hfl, h0⟩, hL, hL1⟩ := h
  have hil : i < L.length := (List.getElem?_eq_some_iff.1 hi).1
  have hcl : cs.length = sz := hL cs (List.mem_of_getElem? hi)
  rcases h0 with ⟨_, h00⟩ | ⟨b, cap, cur, hr, hz, hh, hnn, hm, hcs, htk⟩
  · omega
  · have hle : (i + 1) * sz ≤ L.length * sz := Nat.mul_le_mul_right _ hil
    have hle2 : L.length * sz ≤ cap * sz := Nat.mul_le_mul_right _ hnn
    have hle1 : (i + 1) * sz = i * sz + sz := by rw [Nat.add_mul, Nat.one_mul]
    have hfit : i * sz + sz ≤ cur.size := by omega
    have htl : (cur.toList.take (L.length * sz)) = L.flatten := htk
    have hdm : ∀ c ∈ L.set i ds, c.length = sz := fun c hc => by
      rcases List.mem_or_eq_of_mem_set hc with hc | rfl
      · exact hL c hc
      · exact hd
    have hflat := flat_set hL hi hd
    have hnew : (L.set i ds).flatten = cur.toList.take (i * sz) ++ ds ++ (cur.toList.take (L.length * sz)).drop (i * sz + sz) := by
      rw [hflat, htl, hle1, ← htl, List.take_take, Nat.min_eq_left (by omega)]
    have hone' : ∀ z ∈ (L.set i ds).flatten, z.oneCell' = true := fun z hz => by
      obtain ⟨c, hc, hz⟩ := List.mem_flatten.1 hz
      rcases List.mem_or_eq_of_mem_set hc with hc | hc
      · exact hL1 z (List.mem_flatten.2 ⟨c, hc, hz⟩)
      · exact h1 z (hc ▸ hz)
    refine ⟨b, cap, cur, hr, hh, hfit, fun j u hj => ?_, ⟨by rw [flat_len hdm], .inr ⟨b, cap, _, ?_, hz, setRow_heap w b _ _ e _ hh, by simpa using hnn, hm, ?_, ?_⟩⟩, hdm, hone'⟩
    · have hg := flat_get hL hi hj
      rw [← htl, List.getElem?_take] at hg
      split at hg
      · exact hg
      · cases hg
    · simp only [List.length_set]; exact hr
    · simp only [List.size_toArray, List.length_append, List.length_take, List.length_drop, Array.length_toList]
      omega
    · simp only [List.length_set, hnew]
      have hcl2 : cur.toList.length = cap * sz := by simpa using hcs
      have l1 : (cur.toList.take (i * sz) ++ ds).length = i * sz + sz := by simp; omega
      rw [List.take_append, l1, List.take_of_length_le (by rw [l1]; omega), List.drop_take]
/-- the library's exchange of two elements -/
theorem run_exchange {P : Program} {e sz : Nat} {ie : TypeInfo} {ag : Bool} (hie : P.info? e = some ie) (hs : ie.size = sz) (ht : tsh P e = some (ag, sz)) (hag : ag = false → sz = 1) {x : Value} {te : TypeId} {L : List (List Value)} (h : ObOk ρ g w x (.row te sz L)) {i j : Nat} {cs ds : List Value}
    (hi : L[i]? = some cs) (hj : L[j]? = some ds) : ∃ b cap w', x = .slice (some ⟨b, 0, none⟩) L.length cap ∧ (Extern.ReflectliteSwapper.exchange e ⟨b, 0, none⟩ i j).run P w = .ok (.tuple #[]) w' ∧
      w'.os = w.os ∧ w'.tape = w.tape ∧ w'.output = w.output ∧ w'.heap.size = w.heap.size ∧ (∀ k, k ≠ b → w'.heap[k]? = w.heap[k]?) ∧ ObOk ρ g w' x (.row te sz ((L.set i ds).set j cs)) := by
  have hL := h.2.1
  have hL1 := h.2.2
  have lcs : cs.length = sz := hL cs (List.mem_of_getElem? hi)
  have lds : ds.length = sz := hL ds (List.mem_of_getElem? hj)
  have ocs : ∀ y ∈ cs, y.oneCell' = true := fun y hy => hL1 y (List.mem_flatten.2 ⟨cs, List.mem_of_getElem? hi, hy⟩)
  have ods : ∀ y ∈ ds, y.oneCell' = true := fun y hy => hL1 y (List.mem_flatten.2 ⟨ds, List.mem_of_getElem? hj, hy⟩)
  obtain ⟨b, cap, cur, hx, hh, hf1, hc1, ho1⟩ := row_set h hi lds ods
  obtain ⟨b0, cap0, cur0, hx0, hh0, _, hc0, _⟩ := row_set h hj lcs ocs
  have e0 : b0 = b := by rw [hx] at hx0; simp at hx0; exact hx0.1.symm
  subst e0
  have e1 : cur0 = cur := by rw [hh] at hh0; simp at hh0; exact hh0.symm
  subst e1
  have hj' : (L.set i ds)[j]? = some (if i = j then ds else ds) := by
    by_cases hij : i = j
    · subst hij; simp [(List.getElem?_eq_some_iff.1 hi).1]
    · rw [List.getElem?_set_ne hij]; simpa using hj
  simp only [ite_self] at hj'
  obtain ⟨b2, cap2, cur2, hx2, hh2, hf2, _, ho2⟩ := row_set ho1 hj' lcs ocs
  have e2 : b2 = b0 := by
    have := hx2
    rw [hx] at this; simp at this; exact this.1.symm
  subst e2
  have cell : ∀ (k : Nat) (cs' : List Value), (∀ q u, cs'[q]? = some u → cur0.toList[k * sz + q]? = some u) → ∀ q u, cs'[q]? = some u → w.cell? ⟨b2, k * sz + q, none⟩ = some u := fun k cs' hc q u hq => by
    have := hc q u hq
    simp [World.cell?, hh]
    simpa using this
  have ldx : ∀ (k : Nat) (cs' : List Value), cs'.length = sz → (∀ q u, cs'[q]? = some u → cur0.toList[k * sz + q]? = some u) → ∃ v, (loadVar e ⟨b2, k * sz, none⟩).run P w = .ok v w ∧ ((∀ y ∈ cs', y.oneCell' = true) → v.cells.toList = cs') := fun k cs' hl hc => by
    refine ⟨_, run_load_cells (w := w) ht (b := b2) (o := k * sz) (xs := cs') (cell k cs' hc) (fun _ => hl) (fun ha => hl.trans (hag ha)), fun ho => ?_⟩
    cases ag with
    | true => rfl
    | false =>
      have := hag rfl
      subst this
      match cs', hl with
      | [y], _ => simp [cells_one (ho y (by simp))]
  obtain ⟨vx, lx, cx⟩ := ldx i cs lcs hc1
  obtain ⟨vy, ly, cy⟩ := ldx j ds lds hc0
  have cx := cx ocs
  have cy := cy ods
  have s1 := run_storeVar (w := w) (P := P) ht (b := b2) (o := i * sz) hh (v := vy) (by rw [cy]; exact lds) hf1 (by rw [cy]; exact ods)
  rw [cy] at s1
  have s2 := run_storeVar (w := w.setRow b2 (cur0.toList.take (i * sz) ++ ds ++ cur0.toList.drop (i * sz + sz)).toArray) (P := P) ht (b := b2) (o := j * sz) hh2 (v := vx) (by rw [cx]; exact lcs) hf2 (by rw [cx]; exact ocs)
  rw [cx] at s2
  refine ⟨b2, cap, _, hx, ?_, ?_, ?_, ?_, ?_, ?_, ho2⟩
  · simp only [List.append_assoc] at s1 s2
    simp [Extern.ReflectliteSwapper.exchange, sizeOf, typeInfo, hie, hs, add_mk, lx, ly, s1, s2]
  · rfl
  · rfl
  · rfl
  · obtain ⟨q1, _⟩ := setRow_fw w b2 (cur0.toList.take (i * sz) ++ ds ++ cur0.toList.drop (i * sz + sz)).toArray
    obtain ⟨q2, _⟩ := setRow_fw (w.setRow b2 (cur0.toList.take (i * sz) ++ ds ++ cur0.toList.drop (i * sz + sz)).toArray) b2 (cur2.toList.take (j * sz) ++ cs ++ cur2.toList.drop (j * sz + sz)).toArray
    rw [q2, q1]
  · intro k hk
    obtain ⟨_, q1⟩ := setRow_fw w b2 (cur0.toList.take (i * sz) ++ ds ++ cur0.toList.drop (i * sz + sz)).toArray
    obtain ⟨_, q2⟩ := setRow_fw (w.setRow b2 (cur0.toList.take (i * sz) ++ ds ++ cur0.toList.drop (i * sz + sz)).toArray) b2 (cur2.toList.take (j * sz) ++ cs ++ cur2.toList.drop (j * sz + sz)).toArray
    rw [q2 k hk, q1 k hk]
theorem run_callOf {P : Program} {o : Oper} {c : Call} (ho : o.op = .call c) {t : Nat} (hcv : c.callee = .value (.tmp t)) {f : FuncId} {caps : Array Value} (hy : a.eval (.tmp t) = .func (.func f) #[] caps) {w w' : World} {v : Value} (hr : (callFunc f ((c.args.map a.eval) ++ caps)).run P w = .ok (.value v) w') :
    (execOp a.eval o).run P w = .ok (.value v) w' := by
  simp [execOp, ho, resolve, hcv, hy, Deferred.ofValue, invoke, hr]
theorem e_swap (h : SatX E S a w ρ g) {o : Oper} {c : Call} (ho : o.op = .call c) {t : Nat} {x y : Operand} (hcv : c.callee = .value (.tmp t)) (hargs : c.args.toList = [x, y]) {F : Value → Value} {id : Nat} (hl : look S.fr t = some (.o (.c (.of F id)))) {i j : Int} (hx : ev S x = some (V (.int .i64 i))) (hy : ev S y = some (V (.int .i64 j)))
    {e sz : Nat} {L L' : List (List Value)} {cs ds : List Value} (hob : look S.ob id = some (.row e sz L)) (hd : dstOk E.N o.dst = true) (hF : SwOk E.P F sz) (hi0 : 0 ≤ i) (hj0 : 0 ≤ j) (hi : L[i.toNat]? = some cs) (hj : L[j.toNat]? = some ds) (hL' : (L.set i.toNat ds).set j.toNat cs = L')
    {K : Act → World → Prop} {Q : Exit → Act → World → Prop} (hK : ∀ a' w', Sat E (St.put ⟨S.fr, setOb S.ob id (.row e sz L')⟩ o.dst (.tup [])) a' w' → K a' w') : o.wp E.P a w K Q := by
  subst hL'
  obtain ⟨f, te, ie, gS, ag, f1, f2, f3, f4, f5, f6⟩ := hF
  obtain ⟨hv, _⟩ : CC ρ g (.of F id) (a.eval (.tmp t)) := ev_ok h (x := .tmp t) hl
  have hok := h.ob.ok _ (look_mem hob)
  obtain ⟨b, cap, w', hr, hrun, w1, w2, w3, w4, w5, w6⟩ := run_exchange f3 f4 f5 f6 hok hi hj
  have hr' : ρ id = .slice (some ⟨b, 0, none⟩) L.length cap := hr
  have il : i.toNat < L.length := (List.getElem?_eq_some_iff.1 hi).1
  have jl : j.toNat < L.length := (List.getElem?_eq_some_iff.1 hj).1
  have ei : a.eval x = .int .i64 i := ev_ok h hx
  have ej : a.eval y = .int .i64 j := ev_ok h hy
  rw [f1, hr'] at hv
  have hA : (c.args.map a.eval) ++ #[.slice (some ⟨b, 0, none⟩) L.length cap, typeHandle E.P te] = #[.int .i64 i, .int .i64 j, .slice (some ⟨b, 0, none⟩) L.length cap, typeHandle E.P te] := by
    have : c.args = #[x, y] := by rw [← Array.toArray_toList (xs := c.args), hargs]
    rw [this]; simp [ei, ej]
  have hcall : (callFunc f ((c.args.map a.eval) ++ #[.slice (some ⟨b, 0, none⟩) L.length cap, typeHandle E.P te])).run E.P w = .ok (.value (.tuple #[])) w' := by
    have i0 : ¬ (i < 0) := by omega
    have i1 : ¬ (i ≥ L.length) := by omega
    have j0 : ¬ (j < 0) := by omega
    have j1 : ¬ (j ≥ L.length) := by omega
    rw [f2, hA, Lib.rl_swap]
    cases gS <;> simp [i0, i1, j0, j1, Extern.Rtype.ofHandle, handleType, typeHandle, hrun, Result.andThen]
  exact wp_value (run_callOf ho hcv hv hcall) (hK _ _ ⟨_, _, (h.write hob (b := b) (by rw [hr']; rfl) w1 w2 w3 w4 w5 w6).put hd ⟨[], rfl, trivial⟩⟩)

set_option maxHeartbeats 2000000 in
theorem eev_ok (h : SatX E S a w ρ g) {o : Oper} {orc orc' : List Orc} {S' : St} {C : Option Prop} (hq : eev E.P (E.pre.map (·.1)) E.N S o orc = some (S', orc', C)) (hC : oP C) {K : Act → World → Prop} {Q : Exit → Act → World → Prop}
    (hK : ∀ a' w', Sat E S' a' w' → K a' w') : o.wp E.P a w K Q := by
  cases ho : o.op with
  | alloc ty =>
    simp only [eev, ho] at hq
    split at hq
    · rename_i id orc2 i hi
      split at hq
      · rename_i z hz
        obtain ⟨hb, hq⟩ := optB_some hq
        simp only [Bool.and_eq_true] at hb
        simp only [Option.some.injEq, Prod.mk.injEq] at hq
        obtain ⟨rfl, _, _⟩ := hq
        have h1 : (z.cells.toList.map CA.v).all CA.one = true := by
          rw [List.all_map]; exact hb.1.2
        have h2 : (z.cells.toList.map CA.v).any (CA.has id) = false := by
          rw [List.any_map, List.any_eq_false]; intro x _; simp [CA.has]
        refine e_box h (v := z) All2_vals h1 h2 hb.1.1 hb.2 ?_ hK
        simp [execOp, ho, Instr.alloc, zeroValue, typeInfo, hi, hz, newVar, newRow]
      · cases hq
    · cases hq
  | box ty x =>
    simp only [eev, ho] at hq
    split at hq
    · rename_i id orc2 av hx
      obtain ⟨hb, hq⟩ := optB_some hq
      simp only [Bool.and_eq_true, Bool.not_eq_true'] at hb
      simp only [Option.some.injEq, Prod.mk.injEq] at hq
      obtain ⟨rfl, _, _⟩ := hq
      refine e_box h (v := a.eval x) (cellsOf_ok (ev_ok h hx : CAv ρ g av _)) hb.1.1.2 hb.1.2 hb.1.1.1 hb.2 ?_ hK
      simp [execOp, ho, Instr.box, newVar, newRow]
    · cases hq
  | store t x y =>
    simp only [eev, ho] at hq
    split at hq
    · rename_i id off av ag n hx hy ht
      split at hq
      · rename_i ty cs hob
        obtain ⟨hb, hq⟩ := optB_some hq
        simp only [Bool.and_eq_true, Option.isNone_iff_eq_none] at hb
        simp only [Option.some.injEq, Prod.mk.injEq] at hq
        obtain ⟨rfl, _, _⟩ := hq
        exact e_store_box h ho hx hy ht hob (Nat.eq_of_beq_eq_true hb.1.1.1) (Nat.le_of_ble_eq_true hb.1.1.2) hb.1.2 hb.2 hK
      · cases hq
    · rename_i id sz i off rv ag n _ hx hy ht
      split at hq
      · rename_i e sz' L ds cs L' orc2 hob hds
        obtain ⟨hb, hq'⟩ := optB_some hq
        clear hq
        simp only [Bool.and_eq_true, Option.isNone_iff_eq_none] at hb
        have hsz := Nat.eq_of_beq_eq_true hb.1.1.1.1
        subst hsz
        simp only [Option.some.injEq, Prod.mk.injEq] at hq'
        obtain ⟨rfl, _, rfl⟩ := hq'
        obtain ⟨c1, rfl⟩ := hC
        exact e_store_row h ho hx hy ht hob hds (Nat.eq_of_beq_eq_true hb.1.1.1.2) (Nat.le_of_ble_eq_true hb.1.1.2) hb.1.2 c1 hb.2 hK
      · cases hq
    · cases hq
  | build t parts =>
    simp only [eev, ho] at hq
    split at hq
    · rename_i fs i ht hi
      split at hq
      · rename_i z hz
        split at hq
        · rename_i cs hc
          obtain ⟨hb, hq⟩ := optB_some hq
          simp only [Bool.and_eq_true] at hb
          simp only [Option.some.injEq, Prod.mk.injEq] at hq
          obtain ⟨rfl, _, _⟩ := hq
          exact e_build h ho ht hi hz hc (fun f hf => List.all_eq_true.1 hb.1 f hf) hb.2 hK
        · cases hq
      · cases hq
    · cases hq
  | buildSlice t len parts =>
    simp only [eev, ho] at hq
    split at hq
    · rename_i id orc2 e ht
      split at hq
      · rename_i i hi
        split at hq
        · rename_i z L hz hL
          obtain ⟨hb, hq⟩ := optB_some hq
          simp only [Bool.and_eq_true] at hb
          simp only [Option.some.injEq, Prod.mk.injEq] at hq
          obtain ⟨rfl, _, _⟩ := hq
          exact e_buildSlice h ho ht hi hz hL (Nat.eq_of_beq_eq_true hb.1.1.1.1.2) (Nat.eq_of_beq_eq_true hb.1.1.1.2) (Nat.le_of_ble_eq_true hb.1.1.2) (Nat.le_of_ble_eq_true hb.1.2) hb.1.1.1.1.1 hb.2 hK
        · rename_i z hz hL
          split at hq
          · rename_i t0 hparts
            split at hq
            · rename_i szs L hl
              obtain ⟨hb, hq⟩ := optB_some hq
              simp only [Bool.and_eq_true] at hb
              simp only [Option.some.injEq, Prod.mk.injEq] at hq
              obtain ⟨rfl, _, _⟩ := hq
              have hlen := Nat.eq_of_beq_eq_true hb.1.1.1.2
              subst hlen
              exact e_buildRows h ho hparts ht hi hz hl (Nat.eq_of_beq_eq_true hb.1.1.2) (Nat.eq_of_beq_eq_true hb.1.2) hb.1.1.1.1 hb.2 hK
            · cases hq
          · cases hq
        · cases hq
      · cases hq
    · cases hq
  | makeMap t r =>
    simp only [eev, ho] at hq
    split at hq
    · rename_i id orc2 k e ht
      obtain ⟨hb, hq⟩ := optB_some hq
      simp only [Bool.and_eq_true] at hb
      simp only [Option.some.injEq, Prod.mk.injEq] at hq
      obtain ⟨rfl, _, _⟩ := hq
      exact e_makeMap h ho hb.1 hb.2 hK
    · cases hq
  | mapUpdate t m x y =>
    simp only [eev, ho] at hq
    split at hq
    · rename_i id s hm hx hy
      split at hq
      · rename_i k e D k' e' hob ht
        split at hq
        · rename_i hk
          obtain ⟨hb, hq⟩ := optB_some hq
          simp only [Bool.and_eq_true, Option.isNone_iff_eq_none] at hb
          simp only [Option.some.injEq, Prod.mk.injEq] at hq
          obtain ⟨rfl, _, _⟩ := hq
          exact e_mapUpdate h ho hm hx hy hob ht hk hb.2 hK
        · cases hq
      · cases hq
    · cases hq
  | slice t x lo hi mx =>
    simp only [eev, ho] at hq
    split at hq
    · rename_i mx lo id kk n id2 L' orc2 hx hu
      split at hq
      · rename_i e sz L sz' hob hsz
        obtain ⟨hb, hq⟩ := optB_some hq
        simp only [Bool.and_eq_true] at hb
        simp only [Option.some.injEq, Prod.mk.injEq] at hq
        obtain ⟨rfl, _, rfl⟩ := hq
        obtain ⟨c1, c2, rfl⟩ := hC
        have hss := Nat.eq_of_beq_eq_true hb.1.1
        subst hss
        cases hi with
        | none => cases hu
        | some u => exact e_trunc h ho hx hu hob hsz hb.1.2 hb.2 c1 c2 hK
      · cases hq
    · cases hq
  | makeSlice t l c =>
    simp only [eev, ho] at hq
    split at hq
    · rename_i id L' orc2 e kl n kc m ht hl hc
      split at hq
      · rename_i i hi
        split at hq
        · rename_i z hz
          obtain ⟨hb, hq⟩ := optB_some hq
          simp only [Bool.and_eq_true] at hb
          simp only [Option.some.injEq, Prod.mk.injEq] at hq
          obtain ⟨rfl, _, rfl⟩ := hq
          obtain ⟨c1, c2, c3, c4, rfl⟩ := hC
          exact e_makeSlice h ho ht hi hz hl hc c1 c2 c3 c4 (Nat.eq_of_beq_eq_true hb.1.1.1.2) hb.1.1.2 (Nat.le_of_ble_eq_true hb.1.2) hb.1.1.1.1 hb.2 hK
        · cases hq
      · cases hq
    · cases hq
  | call c =>
    simp only [eev, ho] at hq
    split at hq
    · rename_i x y id2 L' orc2 hcb hargs
      split at hq
      · rename_i t t' id szy M hat hx hrow
        split at hq
        · rename_i e sz L e' hob ht
          split at hq
          · rename_i i hi
            split at hq
            · rename_i z hz
              obtain ⟨hb, hq'⟩ := optB_some hq
              clear hq
              simp only [Bool.and_eq_true] at hb
              obtain ⟨⟨⟨⟨⟨⟨⟨b1, b2⟩, b3⟩, b4⟩, b5⟩, b6⟩, b7⟩, b8⟩ := hb
              have e1 := Nat.eq_of_beq_eq_true b1
              have e2 := Nat.eq_of_beq_eq_true b2
              have e3 := Nat.eq_of_beq_eq_true b3
              subst e1 e2 e3
              simp only [Option.some.injEq, Prod.mk.injEq] at hq'
              obtain ⟨rfl, _, rfl⟩ := hq'
              obtain ⟨rv, hrv, hrow⟩ := Option.bind_eq_some_iff.1 hrow
              obtain ⟨c1, c2, rfl⟩ := hC
              exact e_append h ho hcb hargs hat hx hrv hrow hob ht hi hz (Nat.eq_of_beq_eq_true b4).symm (Nat.eq_of_beq_eq_true b5) (Nat.le_of_ble_eq_true b6) b7 b8 c1 c2 hK
            · cases hq
          · cases hq
        · cases hq
      · cases hq
    · rename_i x y id2 D' orc2 hcb hargs
      split at hq
      · rename_i t t' id id1 hat hx hy
        split at hq
        · rename_i e szs D e1 szs1 D1 e' hob hob1 ht
          split at hq
          · rename_i i hi
            split at hq
            · rename_i z hz
              obtain ⟨hb, hq'⟩ := optB_some hq
              clear hq
              simp only [Bool.and_eq_true, Bool.not_eq_true'] at hb
              obtain ⟨⟨⟨⟨⟨⟨⟨b1, b2⟩, b3⟩, b4⟩, b5⟩, b6⟩, b7⟩, b8⟩ := hb
              have e1 := Nat.eq_of_beq_eq_true b1
              have e2 := Nat.eq_of_beq_eq_true b2
              have e3 := Nat.eq_of_beq_eq_true b3
              subst e1 e2 e3
              simp only [Option.some.injEq, Prod.mk.injEq] at hq'
              obtain ⟨rfl, _, rfl⟩ := hq'
              obtain ⟨c1, c2, rfl⟩ := hC
              exact e_appendRows h ho hcb hargs hat hx hy hob hob1 ht hi hz (Nat.eq_of_beq_eq_true b4) (Nat.eq_of_beq_eq_true b5) (fun e => by rw [e] at b6; simp at b6) b7 b8 c1 c2 hK
            · cases hq
          · cases hq
        · cases hq
      · cases hq
    · rename_i x y k l id2 L' orc2 hcb hargs
      split at hq
      · rename_i t t' F id G id' hat hx hy
        split at hq
        · rename_i e sz L e' hob ht
          split at hq
          · rename_i i hi
            split at hq
            · rename_i z hz
              obtain ⟨hb, hq⟩ := optB_some hq
              simp only [Bool.and_eq_true] at hb
              simp only [Option.some.injEq, Prod.mk.injEq] at hq
              obtain ⟨rfl, _, rfl⟩ := hq
              obtain ⟨rfl, rfl, c1, c2, c3, c4, rfl⟩ := hC
              obtain ⟨⟨⟨⟨⟨⟨⟨d1, d2⟩, d3⟩, d4⟩, d5⟩, d6⟩, d7⟩, d8⟩ := hb
              have d1 := Nat.eq_of_beq_eq_true d1
              have d2 := Nat.eq_of_beq_eq_true d2
              have d3 := Nat.eq_of_beq_eq_true d3
              subst d1 d2 d3
              exact e_del h ho hcb hargs hat hx hy hob ht hi hz (Nat.eq_of_beq_eq_true d4).symm (Nat.eq_of_beq_eq_true d5) (Nat.le_of_ble_eq_true d6) d7 d8 c1 c2 c3 c4 hK
            · cases hq
          · cases hq
        · cases hq
      · cases hq
    · rename_i f al pre res pre' new orc2 hcv
      split at hq
      · rename_i avs fn hv hf
        obtain ⟨hb, hq⟩ := optB_some hq
        simp only [Bool.and_eq_true, Bool.not_eq_true', Bool.or_eq_true] at hb
        simp only [Option.some.injEq, Prod.mk.injEq] at hq
        obtain ⟨rfl, _, rfl⟩ := hq
        obtain ⟨⟨⟨⟨⟨b0, b1⟩, b2⟩, b3⟩, b4⟩, b5⟩ := hb
        refine e_call h ho hcv hf b1 b2 hv b3 (fun e => ?_) (fun p hp => ?_) hC.1 (allIds_ok b0) hK
        · rcases b4 with b4 | b4
          · rw [e] at b4; cases b4
          · exact ⟨b4.1.1, fun p hp => List.all_eq_true.1 b4.1.2 p hp, fun p hp => List.all_eq_true.1 b4.2 p hp⟩
        · have := List.all_eq_true.1 b5 p hp
          simp only [Bool.and_eq_true] at this
          exact ⟨this.1, fun q hq => by simpa using List.all_eq_true.1 this.2 q hq⟩
      · cases hq
    · rename_i t al pre res pre' new orc2 hcv
      split at hq
      · rename_i f ids hl
        split at hq
        · rename_i avs fn hv hf
          obtain ⟨hb, hq⟩ := optB_some hq
          simp only [Bool.and_eq_true, Bool.not_eq_true', Bool.or_eq_true] at hb
          simp only [Option.some.injEq, Prod.mk.injEq] at hq
          obtain ⟨rfl, _, rfl⟩ := hq
          obtain ⟨⟨⟨⟨⟨b0, b1⟩, b2⟩, b3⟩, b4⟩, b5⟩ := hb
          refine e_callFn h ho hcv hl hf b1 b2 hv b3 (fun e => ?_) (fun p hp => ?_) hC.1 (allIds_ok b0) hK
          · rcases b4 with b4 | b4
            · rw [e] at b4; cases b4
            · exact ⟨b4.1.1, fun p hp => List.all_eq_true.1 b4.1.2 p hp, fun p hp => List.all_eq_true.1 b4.2 p hp⟩
          · have := List.all_eq_true.1 b5 p hp
            simp only [Bool.and_eq_true] at this
            exact ⟨this.1, fun q hq => by simpa using List.all_eq_true.1 this.2 q hq⟩
        · cases hq
      · cases hq
    · rename_i t x y cs ds L' orc2 hcv hargs
      split at hq
      · rename_i F id i j hl hx hy
        split at hq
        · rename_i e sz L hob
          obtain ⟨hb, hq⟩ := optB_some hq
          simp only [Option.some.injEq, Prod.mk.injEq] at hq
          obtain ⟨rfl, _, rfl⟩ := hq
          exact e_swap h ho hcv hargs hl hx hy hob hb hC.1 hC.2.1 hC.2.2.1 hC.2.2.2.1 hC.2.2.2.2.1 hC.2.2.2.2.2 hK
        · cases hq
      · cases hq
    · cases hq
  | _ => simp only [eev, ho] at hq; cases hq
end
end Go.Sx
