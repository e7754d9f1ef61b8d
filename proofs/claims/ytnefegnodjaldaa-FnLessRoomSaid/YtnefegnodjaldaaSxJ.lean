/- Calls that make or write memory; the theorem on the operations of the second kind. -/
import Derived.Test.YtnefegnodjaldaaSxI
namespace Go.Sx
set_option linter.unusedVariables false
section
variable {E : Env} {S : St} {a : Act} {w : World} {ρ : Nat → Value} {g : GHeap}
theorem e_call0 (h : SatX E S a w ρ g) {o : Oper} {f : FuncId} {vs : List Value} (hrun : (execOp a.eval o).run E.P w = .ok (.enter f vs.toArray) w)
    {al : Bool} {pre : List Nat} {avs : List AV} (hv : ∀ g1 : GHeap, (∀ b c, g b = some c → g1 b = some c) → (al = false → ∀ p ∈ S.ob, (∀ i ∈ pre, i ≠ p.1) → ∀ b, blk (ρ p.1) = some b → ∀ c, gAll w b = some c → g1 b = some c) → All2 (CAv ρ g1) avs vs) {res : RV} {pre' new : List (Nat × OB)} (hd : dstOk E.N o.dst = true)
    (hfree : al = false → res.free = true ∧ (∀ p ∈ pre', p.2.free = true) ∧ ∀ p ∈ new, p.2.free = true)
    (hnew : ∀ p ∈ new, freshId (E.pre.map (·.1)) ⟨S.fr, S.ob⟩ p.1 = true ∧ ∀ q ∈ dropIds S.ob pre, q.2.has p.1 = false)
    (hC : Con E.P f avs (takeIds S.ob pre) res pre' new) (hids : pre'.map (·.1) = (takeIds S.ob pre).map (·.1)) {K : Act → World → Prop} {Q : Exit → Act → World → Prop}
    (hK : ∀ a' w', Sat E (St.put ⟨new.foldl (fun fr p => delId fr p.1) S.fr, pre' ++ new ++ dropIds S.ob pre⟩ o.dst res) a' w' → K a' w') : o.wp E.P a w K Q := by
  let obs := takeIds S.ob pre
  let B : Nat → Prop := PB ρ obs
  have hobs : ∀ p ∈ obs, p ∈ S.ob ∧ p.1 ∈ pre := fun p hp => mem_takeIds hp
  have hBown : ∀ k, B k → E.own k ∧ g k = none := fun k ⟨p, hp, hk⟩ => ⟨h.ob.own p (hobs p hp).1 k hk, h.ob.ro p (hobs p hp).1 k hk⟩
  have hBlt : ∀ k, B k → k < w.heap.size := fun k ⟨p, hp, hk⟩ => obBlk_lt h p (hobs p hp).1 k hk
  have hrestB : ∀ p ∈ dropIds S.ob pre, ∀ k, blk (ρ p.1) = some k → ¬ B k := fun p hp k hk ⟨q, hq, hqk⟩ => by
    obtain ⟨h1, h2⟩ := mem_dropIds hp
    obtain ⟨h3, h4⟩ := hobs q hq
    exact h.ob.apart p h1 q h3 (fun e => h2 q.1 h4 e.symm) k hk hqk
  -- what is read at the call
  obtain ⟨g1, hg1, hsub1, hro1, hargs⟩ : ∃ g1 : GHeap, (∀ b c, g b = some c → g1 b = some c) ∧ GSub g1 w ∧ (∀ k, B k → g1 k = none) ∧ All2 (CAv ρ g1) avs vs ∧ (al = true → g1 = g) := by
    cases al with
    | true => exact ⟨g, fun _ _ h => h, h.gs, fun k hk => (hBown k hk).2, hv g (fun _ _ h => h) (fun e => by cases e), fun _ => rfl⟩
    | false =>
      have hgg : ∀ b c, g b = some c → gBut w B b = some c := fun b c hb => by
        have : ¬ B b := fun hB => by rw [(hBown b hB).2] at hb; cases hb
        unfold gBut; rw [if_neg this]; exact h.gs.all hb
      refine ⟨gBut w B, hgg, gBut_sub w B, fun k hk => by unfold gBut; rw [if_pos hk], hv _ hgg (fun _ p hp hne b hb c hc => ?_), fun e => by cases e⟩
      have : ¬ B b := fun ⟨q, hq, hqk⟩ => by
        obtain ⟨h3, h4⟩ := hobs q hq
        exact h.ob.apart p hp q h3 (fun e => hne q.1 h4 e.symm) b hb hqk
      unfold gBut; rw [if_neg this]; exact hc
  obtain ⟨hargs, hal⟩ := hargs
  have hpre : Objs ρ g1 w (fun b => b < w.heap.size) obs :=
    ⟨nodup_map_filter h.ob.ids, fun p hp => ObOk.mono hg1 (h.ob.ok p (hobs p hp).1), fun p hp k hk => obBlk_lt h p (hobs p hp).1 k hk, fun p hp q hq => h.ob.apart p (hobs p hp).1 q (hobs q hq).1, fun p hp k hk => hro1 k ⟨p, hp, hk⟩⟩
  unfold Oper.wp
  rw [hrun]
  refine (hC ρ g1 w _ hsub1 hpre hargs).mono ?_
  rintro e w' ⟨v, ρ', g', rfl, hρ, hfw, hgs', hgm', hgn', hres, hob'⟩
  show K (a.put o.dst v) w'
  have hnewid : ∀ p ∈ new, (∀ q ∈ S.ob, q.1 ≠ p.1) ∧ p.1 ∉ E.pre.map (·.1) := fun p hp => by
    obtain ⟨f1, f2, _⟩ := freshId_spec (hnew p hp).1
    exact ⟨f1, f2⟩
  have hρob : ∀ q ∈ S.ob, ρ' q.1 = ρ q.1 := fun q hq => hρ q.1 fun hm => by
    obtain ⟨p, hp, e⟩ := List.mem_map.1 hm
    exact (hnewid p hp).1 q hq e.symm
  have hfr : ∀ p ∈ new.foldl (fun fr p => delId fr p.1) S.fr, p ∈ S.fr ∧ ∀ i, p.2.has i = true → ρ' i = ρ i := fun p hp => by
    obtain ⟨h1, h2⟩ := delFold_mem hp
    exact ⟨h1, fun i hi => hρ i fun hm => by
      obtain ⟨q, hq, e⟩ := List.mem_map.1 hm
      have := h2 q hq
      rw [e, hi] at this
      cases this⟩
  have hrest : ∀ p ∈ dropIds S.ob pre, p ∈ S.ob ∧ (∀ i, p.2.has i = true → ρ' i = ρ i) ∧ ρ' p.1 = ρ p.1 ∧ ∀ k, blk (ρ p.1) = some k → ¬ B k := fun p hp => by
    have h1 := (mem_dropIds hp).1
    exact ⟨h1, (fun i hi => hρ i fun hm => by
      obtain ⟨q, hq, e⟩ := List.mem_map.1 hm
      have := (hnew q hq).2 p hp
      rw [e, hi] at this
      cases this), hρob p h1, hrestB p hp⟩
  have hidall : ((pre' ++ new ++ dropIds S.ob pre).map (·.1)).Nodup := by
    rw [List.map_append, List.nodup_append]
    refine ⟨hob'.ids, nodup_map_filter h.ob.ids, fun i hi j hj e => ?_⟩
    subst e
    obtain ⟨q, hq, rfl⟩ := List.mem_map.1 hj
    rw [List.map_append, List.mem_append] at hi
    rcases hi with hi | hi
    · rw [hids] at hi
      obtain ⟨p, hp, e⟩ := List.mem_map.1 hi
      exact (mem_dropIds hq).2 p.1 (hobs p hp).2 e
    · obtain ⟨p, hp, e⟩ := List.mem_map.1 hi
      exact (hnewid p hp).1 q (mem_dropIds hq).1 e.symm
  have hpi : ∀ p ∈ E.pre, ρ' p.1 = ρ p.1 := fun p hp => hρ p.1 fun hm => by
    obtain ⟨q, hq, e⟩ := List.mem_map.1 hm
    exact (hnewid q hq).2 (e ▸ List.mem_map.2 ⟨p, hp, rfl⟩)
  cases al with
  | true =>
    have hg1 : g1 = g := hal rfl
    subst hg1
    have := h.move (B := B) (mine := pre' ++ new) (rest := dropIds S.ob pre) hfr hrest hfw hBown hgs' hgm' hgn' hob' hidall hpi
    exact hK _ _ ⟨_, _, this.put hd hres⟩
  | false =>
    obtain ⟨fr1, fr2, fr3⟩ := hfree rfl
    have hgsw : GSub g w' := fun k c hk => by
      have hnB : ¬ B k := fun hB => by rw [(hBown k hB).2] at hk; cases hk
      obtain ⟨e, fr, he⟩ := h.gs k c hk
      exact ⟨e, fr, by rw [hfw.block k (heap_lt he) hnB]; exact he⟩
    have hobg : Objs ρ' g w' (fun b => PB ρ obs b ∨ w.heap.size ≤ b) (pre' ++ new) :=
      ⟨hob'.ids, fun p hp => ObOk.regap ((List.mem_append.1 hp).elim (fr2 p) (fr3 p)) (hob'.ok p hp), hob'.own, hob'.apart, fun p hp k hk => by
        rcases hob'.own p hp k hk with h5 | h5
        · exact (hBown k h5).2
        · cases hgk : g k with
          | none => rfl
          | some c => have := h.gs.lt hgk; omega⟩
    have := h.move (B := B) (mine := pre' ++ new) (rest := dropIds S.ob pre) hfr hrest hfw hBown hgsw (fun _ _ h => h) (fun _ _ h => .inl h) hobg hidall hpi
    exact hK _ _ ⟨_, _, this.put hd (CR.regap fr1 hres)⟩

theorem e_call (h : SatX E S a w ρ g) {o : Oper} {c : Call} (ho : o.op = .call c) {f : FuncId} (hcv : c.callee = .value (.func f)) {fn : Func} (hf : E.P.funcs[f]? = some fn) (hb : fn.body.isSome = true) (hn : (fn.name == "runtime.NumGoroutine") = false)
    {al : Bool} {pre : List Nat} {avs : List AV} (hv : argsAV al S pre c.args.toList = some avs) {res : RV} {pre' new : List (Nat × OB)} (hd : dstOk E.N o.dst = true)
    (hfree : al = false → res.free = true ∧ (∀ p ∈ pre', p.2.free = true) ∧ ∀ p ∈ new, p.2.free = true)
    (hnew : ∀ p ∈ new, freshId (E.pre.map (·.1)) ⟨S.fr, S.ob⟩ p.1 = true ∧ ∀ q ∈ dropIds S.ob pre, q.2.has p.1 = false)
    (hC : Con E.P f avs (takeIds S.ob pre) res pre' new) (hids : pre'.map (·.1) = (takeIds S.ob pre).map (·.1)) {K : Act → World → Prop} {Q : Exit → Act → World → Prop}
    (hK : ∀ a' w', Sat E (St.put ⟨new.foldl (fun fr p => delId fr p.1) S.fr, pre' ++ new ++ dropIds S.ob pre⟩ o.dst res) a' w' → K a' w') : o.wp E.P a w K Q :=
  e_call0 h (run_call ho hcv hf hb hn w) (fun g1 h1 h2 => argsAV_ok h h1 h2 hv) hd hfree hnew hC hids hK
theorem ptrs_ok {g1 : GHeap} : ∀ {ids bs : List Nat}, All2 (fun id b => ρ id = .pointer (some ⟨b, 0, none⟩)) ids bs → All2 (CAv ρ g1) (ids.map fun i => AV.c (.ptr i 0)) (bs.map fun b => Value.pointer (some ⟨b, 0, none⟩))
  | [], [], _ => trivial
  | i :: ids, b :: bs, h => ⟨⟨b, h.1, rfl⟩, ptrs_ok h.2⟩
  | [], _ :: _, h => h.elim
  | _ :: _, [], h => h.elim
theorem e_callFn (h : SatX E S a w ρ g) {o : Oper} {c : Call} (ho : o.op = .call c) {t : Nat} (hcv : c.callee = .value (.tmp t)) {f : FuncId} {ids : List Nat} (hl : look S.fr t = some (.o (.c (.fn f ids)))) {fn : Func} (hf : E.P.funcs[f]? = some fn) (hb : fn.body.isSome = true) (hn : (fn.name == "runtime.NumGoroutine") = false)
    {al : Bool} {pre : List Nat} {avs : List AV} (hv : argsAV al S pre c.args.toList = some avs) {res : RV} {pre' new : List (Nat × OB)} (hd : dstOk E.N o.dst = true)
    (hfree : al = false → res.free = true ∧ (∀ p ∈ pre', p.2.free = true) ∧ ∀ p ∈ new, p.2.free = true)
    (hnew : ∀ p ∈ new, freshId (E.pre.map (·.1)) ⟨S.fr, S.ob⟩ p.1 = true ∧ ∀ q ∈ dropIds S.ob pre, q.2.has p.1 = false)
    (hC : Con E.P f (avs ++ ids.map fun i => .c (.ptr i 0)) (takeIds S.ob pre) res pre' new) (hids : pre'.map (·.1) = (takeIds S.ob pre).map (·.1)) {K : Act → World → Prop} {Q : Exit → Act → World → Prop}
    (hK : ∀ a' w', Sat E (St.put ⟨new.foldl (fun fr p => delId fr p.1) S.fr, pre' ++ new ++ dropIds S.ob pre⟩ o.dst res) a' w' → K a' w') : o.wp E.P a w K Q := by
  obtain ⟨bs, h1, hy⟩ : CC ρ g (.fn f ids) (a.eval (.tmp t)) := ev_ok h (x := .tmp t) hl
  exact e_call0 h (run_callFn ho hcv hy hf hb hn w) (fun g1 h2 h3 => (argsAV_ok h h2 h3 hv).append (ptrs_ok h1)) hd hfree hnew hC hids hK

set_option maxHeartbeats 2000000 in
theorem eev_ok (h : SatX E S a w ρ g) {o : Oper} {orc orc' : List Orc} {S' : St} {C : Option Prop} (hq : eev E.P (E.pre.map (·.1)) E.N S o orc = some (S', orc', C)) (hC : oP C) {K : Act → World → Prop} {Q : Exit → Act → World → Prop}
    (hK : ∀ a' w', Sat E S' a' w' → K a' w') : o.wp E.P a w K Q := by
  cases ho : o.op with
  | alloc ty =>
    simp only [eev, ho] at hq
    split at hq
    · rename_i id orc2 i hi
      split at hq
      · rename_i z hz
        obtain ⟨hb, hq⟩ := optB_some hq
        simp only [Bool.and_eq_true] at hb
        simp only [Option.some.injEq, Prod.mk.injEq] at hq
        obtain ⟨rfl, _, _⟩ := hq
        have h1 : (z.cells.toList.map CA.v).all CA.one = true := by
          rw [List.all_map]; exact hb.1.2
        have h2 : (z.cells.toList.map CA.v).any (CA.has id) = false := by
          rw [List.any_map, List.any_eq_false]; intro x _; simp [CA.has]
        refine e_box h (v := z) All2_vals h1 h2 hb.1.1 hb.2 ?_ hK
        simp [execOp, ho, Instr.alloc, zeroValue, typeInfo, hi, hz, newVar, newRow]
      · cases hq
    · cases hq
  | box ty x =>
    simp only [eev, ho] at hq
    split at hq
    · rename_i id orc2 av hx
      obtain ⟨hb, hq⟩ := optB_some hq
      simp only [Bool.and_eq_true, Bool.not_eq_true'] at hb
      simp only [Option.some.injEq, Prod.mk.injEq] at hq
      obtain ⟨rfl, _, _⟩ := hq
      refine e_box h (v := a.eval x) (cellsOf_ok (ev_ok h hx : CAv ρ g av _)) hb.1.1.2 hb.1.2 hb.1.1.1 hb.2 ?_ hK
      simp [execOp, ho, Instr.box, newVar, newRow]
    · cases hq
  | store t x y =>
    simp only [eev, ho] at hq
    split at hq
    · rename_i id off av ag n hx hy ht
      split at hq
      · rename_i ty cs hob
        obtain ⟨hb, hq⟩ := optB_some hq
        simp only [Bool.and_eq_true, Option.isNone_iff_eq_none] at hb
        simp only [Option.some.injEq, Prod.mk.injEq] at hq
        obtain ⟨rfl, _, _⟩ := hq
        exact e_store_box h ho hx hy ht hob (Nat.eq_of_beq_eq_true hb.1.1.1) (Nat.le_of_ble_eq_true hb.1.1.2) hb.1.2 hb.2 hK
      · cases hq
    · rename_i id sz i off rv ag n _ hx hy ht
      split at hq
      · rename_i e sz' L ds cs L' orc2 hob hds
        obtain ⟨hb, hq'⟩ := optB_some hq
        clear hq
        simp only [Bool.and_eq_true, Option.isNone_iff_eq_none] at hb
        have hsz := Nat.eq_of_beq_eq_true hb.1.1.1.1
        subst hsz
        simp only [Option.some.injEq, Prod.mk.injEq] at hq'
        obtain ⟨rfl, _, rfl⟩ := hq'
        obtain ⟨c1, rfl⟩ := hC
        exact e_store_row h ho hx hy ht hob hds (Nat.eq_of_beq_eq_true hb.1.1.1.2) (Nat.le_of_ble_eq_true hb.1.1.2) hb.1.2 c1 hb.2 hK
      · cases hq
    · cases hq
  | build t parts =>
    simp only [eev, ho] at hq
    split at hq
    · rename_i fs i ht hi
      split at hq
      · rename_i z hz
        split at hq
        · rename_i cs hc
          obtain ⟨hb, hq⟩ := optB_some hq
          simp only [Bool.and_eq_true] at hb
          simp only [Option.some.injEq, Prod.mk.injEq] at hq
          obtain ⟨rfl, _, _⟩ := hq
          exact e_build h ho ht hi hz hc (fun f hf => List.all_eq_true.1 hb.1 f hf) hb.2 hK
        · cases hq
      · cases hq
    · cases hq
  | buildSlice t len parts =>
    simp only [eev, ho] at hq
    split at hq
    · rename_i id orc2 e ht
      split at hq
      · rename_i i hi
        split at hq
        · rename_i z L hz hL
          obtain ⟨hb, hq⟩ := optB_some hq
          simp only [Bool.and_eq_true] at hb
          simp only [Option.some.injEq, Prod.mk.injEq] at hq
          obtain ⟨rfl, _, _⟩ := hq
          exact e_buildSlice h ho ht hi hz hL (Nat.eq_of_beq_eq_true hb.1.1.1.1.2) (Nat.eq_of_beq_eq_true hb.1.1.1.2) (Nat.le_of_ble_eq_true hb.1.1.2) (Nat.le_of_ble_eq_true hb.1.2) hb.1.1.1.1.1 hb.2 hK
        · rename_i z hz hL
          split at hq
          · rename_i t0 hparts
            split at hq
            · rename_i szs L hl
              obtain ⟨hb, hq⟩ := optB_some hq
              simp only [Bool.and_eq_true] at hb
              simp only [Option.some.injEq, Prod.mk.injEq] at hq
              obtain ⟨rfl, _, _⟩ := hq
              have hlen := Nat.eq_of_beq_eq_true hb.1.1.1.2
              subst hlen
              exact e_buildRows h ho hparts ht hi hz hl (Nat.eq_of_beq_eq_true hb.1.1.2) (Nat.eq_of_beq_eq_true hb.1.2) hb.1.1.1.1 hb.2 hK
            · cases hq
          · cases hq
        · cases hq
      · cases hq
    · cases hq
  | makeMap t r =>
    simp only [eev, ho] at hq
    split at hq
    · rename_i id orc2 k e ht
      obtain ⟨hb, hq⟩ := optB_some hq
      simp only [Bool.and_eq_true] at hb
      simp only [Option.some.injEq, Prod.mk.injEq] at hq
      obtain ⟨rfl, _, _⟩ := hq
      exact e_makeMap h ho hb.1 hb.2 hK
    · cases hq
  | mapUpdate t m x y =>
    simp only [eev, ho] at hq
    split at hq
    · rename_i id s hm hx hy
      split at hq
      · rename_i k e D k' e' hob ht
        split at hq
        · rename_i hk
          obtain ⟨hb, hq⟩ := optB_some hq
          simp only [Bool.and_eq_true, Option.isNone_iff_eq_none] at hb
          simp only [Option.some.injEq, Prod.mk.injEq] at hq
          obtain ⟨rfl, _, _⟩ := hq
          exact e_mapUpdate h ho hm hx hy hob ht hk hb.2 hK
        · cases hq
      · cases hq
    · cases hq
  | makeSlice t l c =>
    simp only [eev, ho] at hq
    split at hq
    · rename_i id L' orc2 e kl n kc m ht hl hc
      split at hq
      · rename_i i hi
        split at hq
        · rename_i z hz
          obtain ⟨hb, hq⟩ := optB_some hq
          simp only [Bool.and_eq_true] at hb
          simp only [Option.some.injEq, Prod.mk.injEq] at hq
          obtain ⟨rfl, _, rfl⟩ := hq
          obtain ⟨c1, c2, c3, c4, rfl⟩ := hC
          exact e_makeSlice h ho ht hi hz hl hc c1 c2 c3 c4 (Nat.eq_of_beq_eq_true hb.1.1.1.2) hb.1.1.2 (Nat.le_of_ble_eq_true hb.1.2) hb.1.1.1.1 hb.2 hK
        · cases hq
      · cases hq
    · cases hq
  | call c =>
    simp only [eev, ho] at hq
    split at hq
    · rename_i x y id2 L' orc2 hcb hargs
      split at hq
      · rename_i t t' id szy M hat hx hrow
        split at hq
        · rename_i e sz L e' hob ht
          split at hq
          · rename_i i hi
            split at hq
            · rename_i z hz
              obtain ⟨hb, hq'⟩ := optB_some hq
              clear hq
              simp only [Bool.and_eq_true] at hb
              obtain ⟨⟨⟨⟨⟨⟨⟨b1, b2⟩, b3⟩, b4⟩, b5⟩, b6⟩, b7⟩, b8⟩ := hb
              have e1 := Nat.eq_of_beq_eq_true b1
              have e2 := Nat.eq_of_beq_eq_true b2
              have e3 := Nat.eq_of_beq_eq_true b3
              subst e1 e2 e3
              simp only [Option.some.injEq, Prod.mk.injEq] at hq'
              obtain ⟨rfl, _, rfl⟩ := hq'
              obtain ⟨rv, hrv, hrow⟩ := Option.bind_eq_some_iff.1 hrow
              obtain ⟨c1, c2, rfl⟩ := hC
              exact e_append h ho hcb hargs hat hx hrv hrow hob ht hi hz (Nat.eq_of_beq_eq_true b4).symm (Nat.eq_of_beq_eq_true b5) (Nat.le_of_ble_eq_true b6) b7 b8 c1 c2 hK
            · cases hq
          · cases hq
        · cases hq
      · cases hq
    · rename_i x y id2 D' orc2 hcb hargs
      split at hq
      · rename_i t t' id id1 hat hx hy
        split at hq
        · rename_i e szs D e1 szs1 D1 e' hob hob1 ht
          split at hq
          · rename_i i hi
            split at hq
            · rename_i z hz
              obtain ⟨hb, hq'⟩ := optB_some hq
              clear hq
              simp only [Bool.and_eq_true, Bool.not_eq_true'] at hb
              obtain ⟨⟨⟨⟨⟨⟨⟨b1, b2⟩, b3⟩, b4⟩, b5⟩, b6⟩, b7⟩, b8⟩ := hb
              have e1 := Nat.eq_of_beq_eq_true b1
              have e2 := Nat.eq_of_beq_eq_true b2
              have e3 := Nat.eq_of_beq_eq_true b3
              subst e1 e2 e3
              simp only [Option.some.injEq, Prod.mk.injEq] at hq'
              obtain ⟨rfl, _, rfl⟩ := hq'
              obtain ⟨c1, c2, rfl⟩ := hC
              exact e_appendRows h ho hcb hargs hat hx hy hob hob1 ht hi hz (Nat.eq_of_beq_eq_true b4) (Nat.eq_of_beq_eq_true b5) (fun e => by rw [e] at b6; simp at b6) b7 b8 c1 c2 hK
            · cases hq
          · cases hq
        · cases hq
      · cases hq
    · rename_i f al pre res pre' new orc2 hcv
      split at hq
      · rename_i avs fn hv hf
        obtain ⟨hb, hq⟩ := optB_some hq
        simp only [Bool.and_eq_true, Bool.not_eq_true', Bool.or_eq_true] at hb
        simp only [Option.some.injEq, Prod.mk.injEq] at hq
        obtain ⟨rfl, _, rfl⟩ := hq
        obtain ⟨⟨⟨⟨b1, b2⟩, b3⟩, b4⟩, b5⟩ := hb
        refine e_call h ho hcv hf b1 b2 hv b3 (fun e => ?_) (fun p hp => ?_) hC.1 hC.2 hK
        · rcases b4 with b4 | b4
          · rw [e] at b4; cases b4
          · exact ⟨b4.1.1, fun p hp => List.all_eq_true.1 b4.1.2 p hp, fun p hp => List.all_eq_true.1 b4.2 p hp⟩
        · have := List.all_eq_true.1 b5 p hp
          simp only [Bool.and_eq_true] at this
          exact ⟨this.1, fun q hq => by simpa using List.all_eq_true.1 this.2 q hq⟩
      · cases hq
    · rename_i t al pre res pre' new orc2 hcv
      split at hq
      · rename_i f ids hl
        split at hq
        · rename_i avs fn hv hf
          obtain ⟨hb, hq⟩ := optB_some hq
          simp only [Bool.and_eq_true, Bool.not_eq_true', Bool.or_eq_true] at hb
          simp only [Option.some.injEq, Prod.mk.injEq] at hq
          obtain ⟨rfl, _, rfl⟩ := hq
          obtain ⟨⟨⟨⟨b1, b2⟩, b3⟩, b4⟩, b5⟩ := hb
          refine e_callFn h ho hcv hl hf b1 b2 hv b3 (fun e => ?_) (fun p hp => ?_) hC.1 hC.2 hK
          · rcases b4 with b4 | b4
            · rw [e] at b4; cases b4
            · exact ⟨b4.1.1, fun p hp => List.all_eq_true.1 b4.1.2 p hp, fun p hp => List.all_eq_true.1 b4.2 p hp⟩
          · have := List.all_eq_true.1 b5 p hp
            simp only [Bool.and_eq_true] at this
            exact ⟨this.1, fun q hq => by simpa using List.all_eq_true.1 this.2 q hq⟩
        · cases hq
      · cases hq
    · cases hq
  | _ => simp only [eev, ho] at hq; cases hq
end
end Go.Sx
