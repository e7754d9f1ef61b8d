/- How the generated walks speak: places in a function's code, pieces, loops, returns. -/
import Derived.Test.YtpgpgangmkjhlaaSxM
namespace Go.Sx
set_option linter.unusedVariables false

/-- a part of a piece of code, by the way to it -/
def Code.sub : Code → List Nat → Code
  | c, [] => c
  | .seq a _, 0 :: p => Code.sub a p
  | .seq _ b, 1 :: p => Code.sub b p
  | .block _ c, 0 :: p => Code.sub c p
  | .loop c, 0 :: p => Code.sub c p
  | .cond _ a _, 0 :: p => Code.sub a p
  | .cond _ _ b, 1 :: p => Code.sub b p
  | _, _ => .skip
theorem Code.sub_nil (c : Code) : Code.sub c [] = c := by cases c <;> rfl
def cAt (fn : Func) (p : List Nat) : Code := match fn.body with
  | some c => Code.sub c p
  | none => .skip

structure Rn (E : Env) (P : Program) (pids : List Nat) (N : Nat) : Prop where
  hP : E.P = P
  hp : E.pre.map (·.1) = pids
  hN : E.N = N
  hm : P.follows .mixedOrders = true

/-- in a loop's round: the state is one of the loop's, with less to go -/
def Jn {ι : Type} (E : Env) (Sf : ι → St) (M : Nat → ι → Prop) (n : Nat) : Act → World → Prop := fun a w => ∃ m, m < n ∧ ∃ j, M m j ∧ Sat E (Sf j) a w
theorem lp {E : Env} {c : Code} {k : List KI} {ι : Type} (Sf : ι → St) (M : Nat → ι → Prop) {n0 : Nat} {i0 : ι} (h0 : M n0 i0)
    (round : ∀ n i, M n i → G E (.code c :: .inv (Jn E Sf M n) :: k) (Sf i)) : G E (.code (.loop c) :: k) (Sf i0) := G_loop Sf M h0 round
theorem li {E : Env} {k : List KI} {ι : Type} {Sf : ι → St} {M : Nat → ι → Prop} {n m : Nat} {j : ι} (hlt : m < n) (hM : M m j) : G E (.inv (Jn E Sf M n) :: k) (Sf j) := G_inv hlt hM

section
variable {E : Env} {P : Program} {pids : List Nat} {N : Nat} {k k' : List KI} {S S' : St} {C : Prop}
/-- a piece of code -/
theorem pc (R : Rn E P pids N) (n : Nat) (orc : List Orc) (aj : List Adj) (hC : C) (hr : pieceOf P pids N n k S orc aj = some (k', S', C)) (hG : G E k' S') : G E k S :=
  piece R.hP R.hp R.hN R.hm hC hr hG

def retOf (P : Program) (pids : List Nat) (N n : Nat) (k : List KI) (S : St) (orc : List Orc) (aj : List Adj) (rs : List ResultVar) (i1 i2 : List Nat) : Option (Prop × RV × List (Nat × OB) × List (Nat × OB)) :=
  match runK P pids N n k S orc with
  | some (.code .ret :: _, S', cs) => match adjs pids S' aj with
    | some S2 => match endOf P pids S2 rs i1 i2 with
      | some x => some (allP cs, x)
      | none => none
    | none => none
  | some ([], S', cs) => match adjs pids S' aj with
    | some S2 => match endOf P pids S2 rs i1 i2 with
      | some x => some (allP cs, x)
      | none => none
    | none => none
  | _ => none
/-- a piece of code that ends in a return -/
theorem pr {fn : Func} {ρ0 : Nat → Value} {g0 : GHeap} {w0 : World} {pre : List (Nat × OB)} {res : RV} {pre' new : List (Nat × OB)} (R : Rn (envOf P fn N ρ0 g0 w0 pre res pre' new) P pids N) (n : Nat) (orc : List Orc) (aj : List Adj) (i1 i2 : List Nat) (hC : C)
    (hr : retOf P pids N n k S orc aj fn.results.toList i1 i2 = some (C, res, pre', new)) : G (envOf P fn N ρ0 g0 w0 pre res pre' new) k S := by
  unfold retOf at hr
  split at hr
  · rename_i k2 S2 cs hrun
    split at hr
    · rename_i S3 haj
      split at hr
      · rename_i x hx
        simp only [Option.some.injEq, Prod.mk.injEq] at hr
        obtain ⟨rfl, rfl⟩ := hr
        have hp : pre.map (·.1) = pids := R.hp
        subst hp
        exact runK_ok (E := envOf P fn N ρ0 g0 w0 pre res pre' new) R.hm n hrun hC fun a w h => G_ret i1 i2 rfl rfl hx a w (h.adjs haj)
      · cases hr
    · cases hr
  · rename_i S2 cs hrun
    split at hr
    · rename_i S3 haj
      split at hr
      · rename_i x hx
        simp only [Option.some.injEq, Prod.mk.injEq] at hr
        obtain ⟨rfl, rfl⟩ := hr
        have hp : pre.map (·.1) = pids := R.hp
        subst hp
        exact runK_ok (E := envOf P fn N ρ0 g0 w0 pre res pre' new) R.hm n hrun hC fun a w h => (finish hx (h.adjs haj) : bodyPost P fn (Post ρ0 g0 w0 pre res pre' new) .ret a w)
      · cases hr
    · cases hr
  · cases hr
/-- a function's contract, from a walk of its code -/
theorem cn {f : FuncId} {fn : Func} {args : List AV} {pre : List (Nat × OB)} {res : RV} {pre' new : List (Nat × OB)} (hm : P.follows .mixedOrders = true) (hf : P.funcs[f]? = some fn) (hb : fn.body.isSome = true) (hn : fn.ntmps = N) (hl : Nat.ble args.length N = true) (hp : pre.map (·.1) = pids)
    (h : ∀ ρ g w, Rn (envOf P fn N ρ g w pre res pre' new) P pids N → G (envOf P fn N ρ g w pre res pre' new) [.code (cAt fn [])] ⟨argsFr 0 args, pre⟩) : Con P f args pre res pre' new := by
  obtain ⟨c, hc⟩ := Option.isSome_iff_exists.1 hb
  refine con_of hf hc hn (Nat.le_of_ble_eq_true hl) fun ρ g w => ?_
  have := h ρ g w ⟨rfl, hp, rfl, hm⟩
  unfold cAt at this
  rw [hc] at this
  simp only [Code.sub_nil] at this
  exact this
end

theorem CA.ren_ren {σ : Nat → Nat} (hσ : ∀ i, σ (σ i) = i) (c : CA) : (c.ren σ).ren σ = c := by
  cases c <;> simp [CA.ren, hσ, Function.comp_def]
theorem AV.ren_ren {σ : Nat → Nat} (hσ : ∀ i, σ (σ i) = i) (c : AV) : (c.ren σ).ren σ = c := by
  cases c with
  | c a => simp [AV.ren, CA.ren_ren hσ]
  | agg cs => simp [AV.ren, Function.comp_def, CA.ren_ren hσ]
theorem OB.ren_ren {σ : Nat → Nat} (hσ : ∀ i, σ (σ i) = i) (c : OB) : (c.ren σ).ren σ = c := by
  cases c with
  | row e sz L => rfl
  | smap k e D => rfl
  | rows e szs D => rfl
  | box ty cs => simp [OB.ren, Function.comp_def, CA.ren_ren hσ]
def renL (σ : Nat → Nat) (l : List (Nat × OB)) : List (Nat × OB) := l.map fun p => (σ p.1, p.2.ren σ)
theorem renL_renL {σ : Nat → Nat} (hσ : ∀ i, σ (σ i) = i) (l : List (Nat × OB)) : renL σ (renL σ l) = l := by
  simp [renL, Function.comp_def, OB.ren_ren hσ, hσ]
theorem Objs.ren {ρ : Nat → Value} {g : GHeap} {w : World} {B : Nat → Prop} {l : List (Nat × OB)} {σ : Nat → Nat} (hσ : ∀ i, σ (σ i) = i) (h : Objs ρ g w B l) : Objs (fun i => ρ (σ i)) g w B (renL σ l) := by
  have hinj : ∀ i j, σ i = σ j → i = j := fun i j e => by rw [← hσ i, ← hσ j, e]
  refine ⟨?_, fun p hp => ?_, fun p hp k hk => ?_, fun p hp q hq hpq k hk => ?_, fun p hp k hk => ?_⟩
  · have : (renL σ l).map (·.1) = (l.map (·.1)).map σ := by simp [renL, List.map_map, Function.comp_def]
    rw [this]
    exact List.pairwise_map.2 (List.Pairwise.imp (fun hne e => hne (hinj _ _ e)) h.ids)
  all_goals obtain ⟨p', hp', rfl⟩ := List.mem_map.1 hp
  · simp only [hσ]; exact ObOk.ren hσ (h.ok p' hp')
  · simp only [hσ] at hk; exact h.own p' hp' k hk
  · obtain ⟨q', hq', rfl⟩ := List.mem_map.1 hq
    simp only [hσ] at hk ⊢
    exact h.apart p' hp' q' hq' (fun e => hpq (by rw [e])) k hk
  · simp only [hσ] at hk; exact h.ro p' hp' k hk
theorem PB_ren {ρ : Nat → Value} {l : List (Nat × OB)} {σ : Nat → Nat} (hσ : ∀ i, σ (σ i) = i) (b : Nat) : PB (fun i => ρ (σ i)) l b ↔ PB ρ (renL σ l) b := by
  constructor
  · rintro ⟨p, hp, hk⟩; exact ⟨_, List.mem_map.2 ⟨p, hp, rfl⟩, hk⟩
  · rintro ⟨p, hp, hk⟩
    obtain ⟨q, hq, rfl⟩ := List.mem_map.1 hp
    exact ⟨q, hq, hk⟩
/-- A contract under other names. -/
theorem con_sw {P : Program} {f : FuncId} {args : List AV} {pre : List (Nat × OB)} {res : RV} {pre' new : List (Nat × OB)} (i j : Nat) (h : Con P f args pre res pre' new) :
    Con P f (args.map (AV.ren (swp i j))) (renL (swp i j) pre) (res.ren (swp i j)) (renL (swp i j) pre') (renL (swp i j) new) := by
  have hσ := swp_swp i j
  generalize swp i j = σ at hσ ⊢
  intro ρ g w vs htab hg hpre hargs
  have hpre' : Objs (fun i => ρ (σ i)) g w (fun b => b < w.heap.size) pre := by
    have := hpre.ren hσ
    rwa [renL_renL hσ] at this
  have hargs' : All2 (CAv (fun i => ρ (σ i)) g) args vs := by
    refine (All2.of_map_left hargs).imp fun av y hy => ?_
    have := CAv.ren hσ hy
    rwa [AV.ren_ren hσ] at this
  refine (h _ g w vs htab hg hpre' hargs').mono ?_
  rintro e w' ⟨v, ρ1, g', rfl, h1, h2, h3, h4, h5, h6, h7⟩
  have hPB : PB (fun i => ρ (σ i)) pre = PB ρ (renL σ pre) := funext fun b => propext (PB_ren hσ b)
  refine ⟨v, fun i => ρ1 (σ i), g', rfl, fun id hid => ?_, hPB ▸ h2, h3, h4, hPB ▸ h5, CR.ren hσ h6, ?_⟩
  · have : σ id ∉ new.map (·.1) := fun hm => by
      obtain ⟨p, hp, e⟩ := List.mem_map.1 hm
      refine hid (List.mem_map.2 ⟨_, List.mem_map.2 ⟨p, hp, rfl⟩, ?_⟩)
      show σ p.1 = id
      rw [e, hσ]
    exact (h1 _ this).trans (congrArg ρ (hσ id))
  · have := h7.ren hσ
    rw [hPB] at this
    have e : renL σ pre' ++ renL σ new = renL σ (pre' ++ new) := by simp [renL]
    rw [e]; exact this

/-- an index as Go has it -/
def gi {α : Type} (l : List α) (i : Int) : Option α := if 0 ≤ i then l[i.toNat]? else none
theorem gi_some {α : Type} {l : List α} {i : Int} {x : α} (h : gi l i = some x) : 0 ≤ i ∧ l[i.toNat]? = some x := by
  unfold gi at h
  split at h
  · exact ⟨by assumption, h⟩
  · cases h
theorem gi_map {α β : Type} {l : List α} {i : Int} {x : α} (enc : α → β) (h : gi l i = some x) : 0 ≤ i ∧ (l.map enc)[i.toNat]? = some (enc x) := by
  obtain ⟨h1, h2⟩ := gi_some h
  exact ⟨h1, by rw [List.getElem?_map, h2]; rfl⟩
theorem lenm {α β : Type} (enc : α → β) (l : List α) : (l.map enc).length = l.length := by simp
theorem gi_lt {α β : Type} {l : List α} {i : Int} {x : α} (enc : α → β) (h : gi l i = some x) : 0 ≤ i ∧ i.toNat < (l.map enc).length := by
  obtain ⟨h1, h2⟩ := gi_some h
  exact ⟨h1, by simp; exact (List.getElem?_eq_some_iff.1 h2).1⟩

/-- how a round ends -/
inductive Ctl (σ τ ρ : Type) where
  | next (s : σ)
  | brk (s : τ)
  | ret (r : ρ)
/-- a loop of at most n rounds -/
def loopM {σ τ ρ : Type} (body : σ → Option (Ctl σ τ ρ)) : Nat → σ → Option (τ ⊕ ρ)
  | 0, _ => none
  | n + 1, s => match body s with
    | some (.next s') => loopM body n s'
    | some (.brk s') => some (.inl s')
    | some (.ret r) => some (.inr r)
    | none => none
end Go.Sx
