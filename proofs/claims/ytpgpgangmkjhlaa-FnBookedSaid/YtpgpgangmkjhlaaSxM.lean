/- Pieces of code; loops; returns; contracts. -/
import Derived.Test.YtpgpgangmkjhlaaSxL
namespace Go.Sx
set_option linter.unusedVariables false
section
variable {E : Env} {S : St} {a : Act} {w : World} {ρ : Nat → Value} {g : GHeap}
/-- ONE PIECE OF CODE: from this state the evaluator comes to that one, if the conditions hold. -/
def pieceOf (P : Program) (pids : List Nat) (N n : Nat) (k : List KI) (S : St) (orc : List Orc) (aj : List Adj) : Option (List KI × St × Prop) :=
  match runK P pids N n k S orc with
  | some (k', S', cs) => match adjs pids S' aj with
    | some S2 => some (k', S2, allP cs)
    | none => none
  | none => none
theorem piece {P : Program} {pids : List Nat} {N : Nat} (hP : E.P = P) (hpids : E.pre.map (·.1) = pids) (hN : E.N = N) (hm : P.follows .mixedOrders = true) {n : Nat} {k k' : List KI} {S' : St} {orc : List Orc} {aj : List Adj} {C : Prop} (hC : C)
    (hr : pieceOf P pids N n k S orc aj = some (k', S', C)) (hG : G E k' S') : G E k S := by
  subst hP hpids hN
  unfold pieceOf at hr
  split at hr
  · rename_i k2 S2 cs hrun
    split at hr
    · rename_i S3 haj
      simp only [Option.some.injEq, Prod.mk.injEq] at hr
      obtain ⟨rfl, rfl, rfl⟩ := hr
      exact runK_ok hm n hrun hC fun a w h => hG a w (h.adjs haj)
    · cases hr
  · cases hr

theorem exists_least {p : Nat → Prop} (h : ∃ n, p n) : ∃ n, p n ∧ ∀ m, m < n → ¬ p m := by
  obtain ⟨n, hn⟩ := h
  induction n using Nat.strongRecOn with
  | _ n ih =>
    by_cases hs : ∃ m, m < n ∧ p m
    · obtain ⟨m, hm, hp⟩ := hs; exact ih m hm hp
    · exact ⟨n, hn, fun m hm hp => hs ⟨m, hm, hp⟩⟩
open Classical in
noncomputable def leastN (p : Nat → Prop) : Nat := if h : ∃ n, p n then Classical.choose (exists_least h) else 0
theorem leastN_spec {p : Nat → Prop} (h : ∃ n, p n) : p (leastN p) ∧ ∀ m, p m → leastN p ≤ m := by
  unfold leastN
  rw [dif_pos h]
  obtain ⟨h1, h2⟩ := Classical.choose_spec (exists_least h)
  exact ⟨h1, fun m hm => Nat.le_of_not_lt fun hlt => h2 m hlt hm⟩
/-- A loop whose states are known up to an index. M n i: 'from i it ends within n rounds'. -/
theorem G_loop {c : Code} {k : List KI} {ι : Type} (Sf : ι → St) (M : Nat → ι → Prop) {n0 : Nat} {i0 : ι} (h0 : M n0 i0)
    (round : ∀ n i, M n i → G E (.code c :: .inv (fun a w => ∃ m, m < n ∧ ∃ j, M m j ∧ Sat E (Sf j) a w) :: k) (Sf i)) : G E (.code (.loop c) :: k) (Sf i0) := by
  intro a w h
  let p : Act → World → Nat → Prop := fun a w n => ∃ i, M n i ∧ Sat E (Sf i) a w
  refine wp_loop (I := fun a w => ∃ n, p a w n) (μ := fun a w => leastN (p a w)) ⟨n0, i0, h0, h⟩ fun a w hI => ?_
  obtain ⟨⟨i, hM, hs⟩, hle⟩ := leastN_spec hI
  have hr := round _ i hM a w hs
  refine Code.wp_mono (fun e a' w' hq => ?_) hr
  cases e with
  | normal =>
    obtain ⟨m, hm, j, hMj, hsj⟩ := hq
    have hI' : ∃ n, p a' w' n := ⟨m, j, hMj, hsj⟩
    exact ⟨hI', Nat.lt_of_le_of_lt ((leastN_spec hI').2 m ⟨j, hMj, hsj⟩) hm⟩
  | _ => exact hq
theorem G_inv {k : List KI} {ι : Type} {Sf : ι → St} {M : Nat → ι → Prop} {n m : Nat} {j : ι} (hlt : m < n) (hM : M m j) : G E (.inv (fun a w => ∃ m, m < n ∧ ∃ j, M m j ∧ Sat E (Sf j) a w) :: k) (Sf j) :=
  fun a w h => ⟨m, hlt, j, hM, h⟩

def resRV (P : Program) (S : St) : ResultVar → Option RV
  | .tmp t => look S.fr t
  | .cell p ty => match look S.fr p, tsh P ty with
    | some (.o (.c (.ptr id off))), some (ag, n) => match look S.ob id with
      | some (.box _ cs) => bif ag then optB (Nat.beq ((cs.drop off).take n).length n) (some (.o (mkAgg ((cs.drop off).take n)))) else (cs[off]?).map A
      | _ => none
    | _, _ => none
def resAVs (P : Program) (S : St) : List ResultVar → Option (List AV)
  | [] => some []
  | r :: l => match resRV P S r, resAVs P S l with
    | some (.o a), some m => some (a :: m)
    | _, _ => none
def finR (P : Program) (S : St) : List ResultVar → Option RV
  | [r] => resRV P S r
  | l => (resAVs P S l).map .tup
theorem run_cell (h : SatX E S a w ρ g) {p : Nat} {ty : TypeId} {rv : RV} (hr : resRV E.P S (.cell p ty) = some rv) : ∃ y, (do loadVar ty (← asAddr (a.tmps.getD p undef)) : Sem Value).run E.P w = .ok y w ∧ CR ρ g rv y := by
  simp only [resRV] at hr
  split at hr
  · rename_i id off ag n hp ht
    split at hr
    · rename_i ty' cs hob
      obtain ⟨b, ys, hy, hcc, hcell⟩ := q_load_ptr_cell h (x := .tmp p) hp hob
      have hcell' := hcell w (RowKit.Below.refl _ _)
      have hy' : a.tmps.getD p undef = .pointer (some ⟨b, 0 + off, none⟩) := hy
      cases ag with
      | true =>
        simp only [cond_true] at hr
        obtain ⟨hl, hr⟩ := optB_some hr
        simp only [Option.some.injEq] at hr
        subst hr
        have h2 := (hcc.drop off).take n
        refine ⟨_, ?_, mkAgg_ok h2⟩
        have := run_load_cells (w := w) ht (b := b) (o := 0 + off) (xs := (ys.drop off).take n) (fun j u hj => by
          rw [List.getElem?_take] at hj
          split at hj
          · rw [List.getElem?_drop] at hj; rw [Nat.add_assoc]; exact hcell' _ u hj
          · cases hj) (fun _ => by rw [← h2.length]; exact tsh_len hl) (fun e => by cases e)
        rw [hy']
        simpa [asAddr] using this
      | false =>
        simp only [cond_false] at hr
        obtain ⟨c, hc, rfl⟩ := Option.map_eq_some_iff.1 hr
        obtain ⟨y, hyy, hcy⟩ := hcc.get hc
        refine ⟨y, ?_, hcy⟩
        have := run_load_cells (w := w) ht (b := b) (o := 0 + off) (xs := [y]) (fun j u hj => by
          cases j with
          | zero => simp only [List.getElem?_cons_zero, Option.some.injEq] at hj; subst hj; exact hcell' off _ hyy
          | succ j => simp at hj) (fun e => by cases e) (fun _ => rfl)
        rw [hy']
        simpa [asAddr] using this
    · cases hr
  · cases hr
def resSem (tmps : Array Value) : ResultVar → Sem Value
  | .tmp t => pure (tmps.getD t undef)
  | .cell a t => do loadVar t (← asAddr (tmps.getD a undef))
theorem run_res (h : SatX E S a w ρ g) {r : ResultVar} {rv : RV} (hr : resRV E.P S r = some rv) : ∃ y, (resSem a.tmps r).run E.P w = .ok y w ∧ CR ρ g rv y := by
  cases r with
  | tmp t => exact ⟨_, rfl, ev_ok h (x := .tmp t) hr⟩
  | cell p ty => exact run_cell h hr
theorem run_ress (h : SatX E S a w ρ g) : ∀ {l : List ResultVar} {avs : List AV}, resAVs E.P S l = some avs → ∃ ys, (l.mapM (resSem a.tmps)).run E.P w = .ok ys w ∧ All2 (CAv ρ g) avs ys
  | [], avs, hr => by simp [resAVs] at hr; subst hr; exact ⟨[], rfl, trivial⟩
  | r :: l, avs, hr => by
    simp only [resAVs] at hr
    split at hr
    · rename_i av m h1 h2
      simp only [Option.some.injEq] at hr
      subst hr
      obtain ⟨y, hy, hc⟩ := run_res h h1
      obtain ⟨ys, hys, hcs⟩ := run_ress h h2
      refine ⟨y :: ys, ?_, hc, hcs⟩
      simp [List.mapM_cons, hy, hys]
    · cases hr
theorem run_results (h : SatX E S a w ρ g) {fn : Func} {rv : RV} (hr : finR E.P S fn.results.toList = some rv) : ∃ y, (results fn a.tmps).run E.P w = .ok y w ∧ CR ρ g rv y := by
  have hform : ∀ ys : List Value, (fn.results.toList.mapM (resSem a.tmps)).run E.P w = .ok ys w → (results fn a.tmps).run E.P w = .ok (if h : ys.toArray.size = 1 then ys.toArray[0] else .tuple ys.toArray) w := fun ys hys => by
    unfold results
    rw [Array.mapM_eq_mapM_toList]
    simp only [Sem.run_bind, Sem.run_map]
    exact congrArg (fun r : Result (List Value) => (r.andThen fun a w' => Result.ok a.toArray w').andThen fun a w' => Sem.run E.P (pure (if h : a.size = 1 then a[0] else Value.tuple a)) w') hys
  unfold finR at hr
  split at hr
  · rename_i r hl
    obtain ⟨y, hy, hc⟩ := run_res h hr
    refine ⟨y, ?_, hc⟩
    have := hform [y] (by rw [hl]; simp [List.mapM_cons, hy])
    simpa using this
  · rename_i hne
    obtain ⟨avs, h1, rfl⟩ := Option.map_eq_some_iff.1 hr
    obtain ⟨ys, hys, hcs⟩ := run_ress h h1
    have hlen : ys.length ≠ 1 := fun e => by
      have h2 := hcs.length
      have h3 : ∀ {l : List ResultVar} {avs : List AV}, resAVs E.P S l = some avs → avs.length = l.length := by
        intro l
        induction l with
        | nil => intro avs h; simp [resAVs] at h; subst h; rfl
        | cons r l ih =>
          intro avs h
          simp only [resAVs] at h
          split at h
          · rename_i av m _ h2; simp only [Option.some.injEq] at h; subst h; simp [ih h2]
          · cases h
      have h4 := h3 h1
      have h5 : fn.results.toList.length = 1 := by omega
      obtain ⟨r, hr⟩ := List.length_eq_one_iff.1 h5
      exact hne r hr
    refine ⟨.tuple ys.toArray, ?_, ys, rfl, hcs⟩
    have := hform ys hys
    simpa [hlen] using this

/-- what a contract says of the end -/
def Post (ρ : Nat → Value) (g : GHeap) (w : World) (pre : List (Nat × OB)) (res : RV) (pre' new : List (Nat × OB)) (e : Ending) (w' : World) : Prop :=
  ∃ v ρ' g', e = .returned v ∧ (∀ id, id ∉ new.map (·.1) → ρ' id = ρ id) ∧ Fw (PB ρ pre) w w' ∧ GSub g' w' ∧
      (∀ b c, g b = some c → g' b = some c) ∧ (∀ b c, g' b = some c → g b = some c ∨ PB ρ pre b ∨ w.heap.size ≤ b) ∧ CR ρ' g' res v ∧
      Objs ρ' g' w' (fun b => PB ρ pre b ∨ w.heap.size ≤ b) (pre' ++ new)
def envOf (P : Program) (fn : Func) (N : Nat) (ρ : Nat → Value) (g : GHeap) (w : World) (pre : List (Nat × OB)) (res : RV) (pre' new : List (Nat × OB)) : Env :=
  { P, N, w0 := w, ρ0 := ρ, g0 := g, pre, R := bodyPost P fn (Post ρ g w pre res pre' new) }

def CA.only (ids : List Nat) : CA → Bool
  | .sl i => ids.any (Nat.beq · i)
  | .ptr i _ => ids.any (Nat.beq · i)
  | .pe i _ _ _ => ids.any (Nat.beq · i)
  | .fn _ is => is.all fun i => ids.any (Nat.beq · i)
  | .of _ i => ids.any (Nat.beq · i)
  | _ => true
def AV.only (ids : List Nat) : AV → Bool
  | .c a => a.only ids
  | .agg cs => cs.all (CA.only ids)
def RV.only (ids : List Nat) : RV → Bool
  | .o a => a.only ids
  | .tup vs => vs.all (AV.only ids)
def OB.only (ids : List Nat) : OB → Bool
  | .box _ cs => cs.all (CA.only ids)
  | .row .. => true
  | .smap .. => true
  | .rows .. => true
theorem any_mem {ids : List Nat} {i : Nat} (h : ids.any (Nat.beq · i) = true) : i ∈ ids := by
  obtain ⟨j, hj, e⟩ := List.any_eq_true.1 h
  exact Nat.eq_of_beq_eq_true e ▸ hj
theorem CA.only_has {ids : List Nat} {c : CA} {i : Nat} (h : c.only ids = true) (hi : c.has i = true) : i ∈ ids := by
  cases c with
  | sl j => simp only [CA.has] at hi; have := Nat.eq_of_beq_eq_true hi; subst this; exact any_mem h
  | ptr j _ => simp only [CA.has] at hi; have := Nat.eq_of_beq_eq_true hi; subst this; exact any_mem h
  | pe j _ _ _ => simp only [CA.has] at hi; have := Nat.eq_of_beq_eq_true hi; subst this; exact any_mem h
  | fn f js =>
    simp only [CA.has] at hi
    have := any_mem hi
    exact any_mem (List.all_eq_true.1 h i this)
  | of F j => simp only [CA.has] at hi; have := Nat.eq_of_beq_eq_true hi; subst this; exact any_mem h
  | _ => simp [CA.has] at hi
theorem AV.only_has {ids : List Nat} {c : AV} {i : Nat} (h : c.only ids = true) (hi : c.has i = true) : i ∈ ids := by
  cases c with
  | c a => exact CA.only_has h hi
  | agg cs => obtain ⟨c, hc, hi⟩ := List.any_eq_true.1 hi; exact CA.only_has (List.all_eq_true.1 h c hc) hi
theorem RV.only_has {ids : List Nat} {c : RV} {i : Nat} (h : c.only ids = true) (hi : c.has i = true) : i ∈ ids := by
  cases c with
  | o a => exact AV.only_has h hi
  | tup vs => obtain ⟨c, hc, hi⟩ := List.any_eq_true.1 hi; exact AV.only_has (List.all_eq_true.1 h c hc) hi
theorem OB.only_has {ids : List Nat} {c : OB} {i : Nat} (h : c.only ids = true) (hi : c.has i = true) : i ∈ ids := by
  cases c with
  | box ty cs => obtain ⟨c, hc, hi⟩ := List.any_eq_true.1 hi; exact CA.only_has (List.all_eq_true.1 h c hc) hi
  | row e sz L => cases hi
  | smap k e D => cases hi
  | rows e szs D => cases hi

theorem QK_ret {P : Program} {R : Exit → Act → World → Prop} : ∀ {k : List KI}, QK P R k .ret a w = R .ret a w
  | [] => rfl
  | .code c :: k => by show QK P R k .ret a w = _; exact QK_ret
  | .blk id :: k => by show QK P R k .ret a w = _; exact QK_ret
  | .inv J :: k => by show QK P R k .ret a w = _; exact QK_ret

theorem pick_append {α : Type} {l : List (Nat × α)} : ∀ (a b : List Nat), pick l (a ++ b) = pick l a ++ pick l b
  | [], _ => rfl
  | t :: a, b => by
    simp only [List.cons_append, pick, pick_append a b]
    split <;> rfl
/-- what is looked at when a call returns -/
def endOf (P : Program) (pids : List Nat) (S : St) (rs : List ResultVar) (pre' new : List Nat) : Option (RV × List (Nat × OB) × List (Nat × OB)) :=
  match finR P S rs with
  | some rv => let a := pick S.ob pre'; let b := pick S.ob new
    let ids := b.map (·.1) ++ pids
    optB (nodupB (pre' ++ new) && pre'.all (fun i => pids.any (Nat.beq · i)) && rv.only ids && a.all (fun p => p.2.only ids) && b.all (fun p => p.2.only ids)) (some (rv, a, b))
  | none => none
theorem finish {P : Program} {fn : Func} {N : Nat} {ρ0 : Nat → Value} {g0 : GHeap} {w0 : World} {pre : List (Nat × OB)} {res : RV} {pre' new : List (Nat × OB)} {i1 i2 : List Nat} {S : St}
    (h : endOf P (pre.map (·.1)) S fn.results.toList i1 i2 = some (res, pre', new)) {a : Act} {w : World} (hs : Sat (envOf P fn N ρ0 g0 w0 pre res pre' new) S a w) : bodyPost P fn (Post ρ0 g0 w0 pre res pre' new) .ret a w := by
  obtain ⟨ρ, g, hs⟩ := hs
  unfold endOf at h
  split at h
  · rename_i rv hrv
    obtain ⟨hb, h⟩ := optB_some h
    simp only [Option.some.injEq, Prod.mk.injEq] at h
    obtain ⟨rfl, rfl, rfl⟩ := h
    simp only [Bool.and_eq_true] at hb
    obtain ⟨⟨⟨⟨b1, b0⟩, b2⟩, b3⟩, b4⟩ := hb
    obtain ⟨y, hy, hc⟩ := run_results hs hrv
    let nw := (pick S.ob i2).map (·.1)
    let ρ' : Nat → Value := fun i => by classical exact if i ∈ nw then ρ i else ρ0 i
    have hpids : ∀ i ∈ pre.map (·.1), ρ i = ρ0 i := fun i hi => by obtain ⟨p, hp, rfl⟩ := List.mem_map.1 hi; exact hs.pi p hp
    have hρ : ∀ i, i ∈ nw ++ pre.map (·.1) → ρ' i = ρ i := fun i hi => by
      show (if i ∈ nw then ρ i else ρ0 i) = ρ i
      split
      · rfl
      · rename_i hn
        rcases List.mem_append.1 hi with hi | hi
        · exact absurd hi hn
        · exact (hpids i hi).symm
    have hmem : ∀ p ∈ pick S.ob i1 ++ pick S.ob i2, p ∈ S.ob ∧ ρ' p.1 = ρ p.1 ∧ p.2.only (nw ++ pre.map (·.1)) = true := fun p hp => by
      rcases List.mem_append.1 hp with hp | hp
      · have h1 := pick_mem hp
        refine ⟨h1.1, hρ _ (List.mem_append.2 (.inr (any_mem (List.all_eq_true.1 b0 p.1 h1.2)))), List.all_eq_true.1 b3 p hp⟩
      · exact ⟨(pick_mem hp).1, hρ _ (List.mem_append.2 (.inl (List.mem_map.2 ⟨p, hp, rfl⟩))), List.all_eq_true.1 b4 p hp⟩
    refine ⟨hs.defers, y, hy, y, ρ', g, rfl, fun i hi => ?_, hs.fw, hs.gs, hs.gm.1, fun b c hb => ?_, CR.congr (fun i hi => hρ i (RV.only_has b2 hi)) hc, ⟨?_, fun p hp => ?_, fun p hp k hk => ?_, fun p hp q hq hpq k hk => ?_, fun p hp k hk => ?_⟩⟩
    · show (if i ∈ nw then ρ i else ρ0 i) = ρ0 i
      rw [if_neg hi]
    · rcases hs.gn b c hb with h1 | h1
      · exact .inl h1
      · exact .inr h1
    · rw [← pick_append]; exact pick_nodup (nodupB_ok b1)
    · obtain ⟨h1, h2, h3⟩ := hmem p hp
      rw [h2]
      exact ObOk.congr (fun i hi => hρ i (OB.only_has h3 hi)) (hs.ob.ok p h1)
    · obtain ⟨h1, h2, h3⟩ := hmem p hp
      rw [h2] at hk
      exact hs.ob.own p h1 k hk
    · obtain ⟨h1, h2, h3⟩ := hmem p hp
      obtain ⟨h1', h2', h3'⟩ := hmem q hq
      rw [h2] at hk
      rw [h2']
      exact hs.ob.apart p h1 q h1' hpq k hk
    · obtain ⟨h1, h2, h3⟩ := hmem p hp
      rw [h2] at hk
      exact hs.ob.ro p h1 k hk
  · cases h
theorem G_ret {P : Program} {fn : Func} {N : Nat} {ρ0 : Nat → Value} {g0 : GHeap} {w0 : World} {pre : List (Nat × OB)} {res : RV} {pre' new : List (Nat × OB)} {k : List KI} {S : St} (i1 i2 : List Nat) {pids : List Nat} (hpids : pre.map (·.1) = pids)
    {rs : List ResultVar} (hrs : fn.results.toList = rs) (h : endOf P pids S rs i1 i2 = some (res, pre', new)) : G (envOf P fn N ρ0 g0 w0 pre res pre' new) (.code .ret :: k) S := by
  subst hpids hrs
  intro a w hs
  refine wp_ret ?_
  show QK _ _ k .ret a w
  rw [QK_ret]
  exact finish h hs

def argsFr : Nat → List AV → List (Nat × RV)
  | _, [] => []
  | i, a :: r => (i, .o a) :: argsFr (i + 1) r
theorem argsFr_ok : ∀ {i : Nat} {avs : List AV} {vs : List Value}, All2 (CAv ρ g) avs vs → ∀ p ∈ argsFr i avs, ∃ j y, p.1 = i + j ∧ vs[j]? = some y ∧ CR ρ g p.2 y
  | _, [], _, _, p, hp => by cases hp
  | i, av :: avs, v :: vs, h, p, hp => by
    cases hp with
    | head => exact ⟨0, v, rfl, rfl, h.1⟩
    | tail _ hp =>
      obtain ⟨j, y, h1, h2, h3⟩ := argsFr_ok (i := i + 1) h.2 p hp
      exact ⟨j + 1, y, by omega, by simpa using h2, h3⟩
  | _, _ :: _, [], h, _, _ => h.elim
/-- A CONTRACT, from the function's code. -/
theorem con_of {P : Program} {f : FuncId} {fn : Func} {c : Code} {N : Nat} {args : List AV} {pre : List (Nat × OB)} {res : RV} {pre' new : List (Nat × OB)} (hf : P.funcs[f]? = some fn) (hb : fn.body = some c) (hn : fn.ntmps = N) (hl : args.length ≤ N)
    (h : ∀ ρ g w, G (envOf P fn N ρ g w pre res pre' new) [.code c] ⟨argsFr 0 args, pre⟩) : Con P f args pre res pre' new := by
  intro ρ g w vs htab hg hpre hargs
  refine calls_of_wp hf hb ?_
  have hlen := hargs.length
  refine h ρ g w _ w ⟨ρ, g, ?_, rfl, fun p hp => ?_, hg, ⟨fun _ _ h => h, htab⟩, fun b c hb => .inl hb, ⟨hpre.ids, hpre.ok, fun p hp k hk => .inl ⟨p, hp, hk⟩, hpre.apart, hpre.ro⟩, Fw.refl _ _, fun _ _ => rfl⟩
  · show (vs.toArray ++ Array.replicate (fn.ntmps - vs.toArray.size) undef).size = N
    simp; omega
  · obtain ⟨j, y, h1, h2, h3⟩ := argsFr_ok hargs p hp
    refine ⟨y, ?_, h3⟩
    have hj : j < vs.length := (List.getElem?_eq_some_iff.1 h2).1
    show (vs.toArray ++ Array.replicate (fn.ntmps - vs.toArray.size) undef)[p.1]? = some y
    rw [h1, Nat.zero_add, Array.getElem?_append_left (by simpa using hj)]
    simpa using h2
end
end Go.Sx
