/- Regions and code over a symbolic state: the evaluator, and that what it says holds. -/
import Derived.Test.YtpgpgangmkjhlaaSxKa
namespace Go.Sx
set_option linter.unusedVariables false

/-- Tests that the oracle decides, ahead of the next operation. -/
def absorb (pids : List Nat) (S : St) : List Orc → St × List Orc × List Prop
  | .as t b :: r => match look S.fr t with
    | some (.o (.c (.v (.bool e)))) => let x := absorb pids ⟨(t, V (.bool b)) :: delSlot S.fr t, S.ob⟩ r
      (x.1, x.2.1, (e = b) :: x.2.2)
    | _ => (S, .as t b :: r, [])
  | .ad x :: r => match adj1 pids S x with
    | some S' => absorb pids S' r
    | none => (S, .ad x :: r, [])
  | orc => (S, orc, [])
def guardOf (all : Array Oper) (S : St) (o : Oper) : Option Bool :=
  match o.guard with
  | none => some true
  | some (j, want) => match (all[j]?).bind (·.dst) with
    | some t => match look S.fr t with
      | some (.o (.c (.v (.bool true)))) => some want
      | some (.o (.c (.v (.bool false)))) => some (!want)
      | some (.o (.c (.v (.tuple _)))) => some false
      | _ => none
    | none => none
def toL : Option Prop → List Prop
  | none => []
  | some p => [p]
def allP : List Prop → Prop
  | [] => True
  | p :: r => p ∧ allP r
theorem allP_append {l m : List Prop} : allP (l ++ m) ↔ allP l ∧ allP m := by
  induction l with
  | nil => simp [allP]
  | cons p r ih => simp [allP, ih, and_assoc]
theorem allP_toL {c : Option Prop} : allP (toL c) ↔ oP c := by cases c <;> simp [toL, allP, oP]

def qStep (P : Program) (N : Nat) (all : Array Oper) (S : St) (o : Oper) (orc : List Orc) : Option (St × List Orc × List Prop) :=
  match guardOf all S o with
  | none => none
  | some false => optB (dstOk N o.dst) (some (S.put o.dst (V undef), orc, []))
  | some true => match qev P S o orc with
    | some (rv, orc', c) => optB (dstOk N o.dst) (some (S.put o.dst rv, orc', toL c))
    | none => none
def sStep (P : Program) (pids : List Nat) (N : Nat) (all : Array Oper) (S : St) (o : Oper) (orc : List Orc) : Option (St × List Orc × List Prop) :=
  match qStep P N all S o orc with
  | some r => some r
  | none => match guardOf all S o with
    | some true => match eev P pids N S o orc with
      | some (S', orc', c) => some (S', orc', toL c)
      | none => none
    | _ => none
def qOps (P : Program) (pids : List Nat) (N : Nat) (all : Array Oper) : List Oper → St → List Orc → Option (St × List Orc × List Prop)
  | [], S, orc => some (S, orc, [])
  | o :: r, S, orc => let x := absorb pids S orc
    match qStep P N all x.1 o x.2.1 with
    | some (S2, orc2, c2) => match qOps P pids N all r S2 orc2 with
      | some (S3, orc3, c3) => some (S3, orc3, x.2.2 ++ (c2 ++ c3))
      | none => none
    | none => none
def sOps (P : Program) (pids : List Nat) (N : Nat) (all : Array Oper) : List Oper → St → List Orc → Option (St × List Orc × List Prop)
  | [], S, orc => some (S, orc, [])
  | o :: r, S, orc => let x := absorb pids S orc
    match sStep P pids N all x.1 o x.2.1 with
    | some (S2, orc2, c2) => match sOps P pids N all r S2 orc2 with
      | some (S3, orc3, c3) => some (S3, orc3, x.2.2 ++ (c2 ++ c3))
      | none => none
    | none => none
/-- where the tail of a drawn region begins: the least place from which the order is the text's -/
def tailAt (ops : Array Oper) : Nat → Option Nat
  | 0 => none
  | n + 1 => bif Region.lexTailB .any ops (ops.size - (n + 1)) then some (ops.size - (n + 1)) else tailAt ops n
/-- the first of these that asks nothing of the memory and may be taken first -/
def firstF (ops : Array Oper) (listed : Array Bool) : List Nat → Option Nat
  | [] => none
  | j :: r => match ops[j]? with
    | some o => bif pureO o && Region.free .any ops listed j then some j else firstF ops listed r
    | none => firstF ops listed r
def allX (K : Nat → Option (List Prop)) : List Nat → Option (List Prop)
  | [] => some []
  | j :: r => match K j, allX K r with
    | some a, some b => some (a ++ b)
    | _, _ => none
def xStep (P : Program) (pids : List Nat) (N : Nat) (ops : Array Oper) (oo : List (List Orc)) (pur : Bool) (j : Nat) (S : St) (K : St → Option (List Prop)) : Option (List Prop) :=
  match ops[j]? with
  | some o => let x := absorb pids S (oo.getD j [])
    match (bif pur then qStep P N ops x.1 o x.2.1 else sStep P pids N ops x.1 o x.2.1) with
    | some (S2, [], c2) => match K S2 with
      | some c3 => some (x.2.2 ++ (c2 ++ c3))
      | none => none
    | _ => none
  | none => none
def endX (pids : List Nat) (aj : List Adj) (T S : St) : Option (List Prop) := match adjs pids S aj with
  | some S' => some [S' = T]
  | none => none
/-- a region that draws its order: each order, where it matters -/
def xOps (P : Program) (pids : List Nat) (N : Nat) (ops : Array Oper) (oo : List (List Orc)) (aj : List Adj) (T : St) : Nat → Array Bool → St → Option (List Prop)
  | 0, listed, S => match Region.ready .any ops listed with
    | [] => endX pids aj T S
    | _ => none
  | f + 1, listed, S => match Region.ready .any ops listed with
    | [] => endX pids aj T S
    | r => match firstF ops listed r with
      | some j => xStep P pids N ops oo true j S fun S2 => xOps P pids N ops oo aj T f (listed.setIfInBounds j true) S2
      | none => allX (fun j => xStep P pids N ops oo false j S fun S2 => xOps P pids N ops oo aj T f (listed.setIfInBounds j true) S2) r
/-- the same, with the orders that list the same operations taken together: the sets at which one must choose are named -/
def inB0 (L : List Nat) (i : Nat) : Bool := L.any (Nat.beq · i)
def listOf (n : Nat) (L : List Nat) : Array Bool := ((List.range n).map (inB0 L)).toArray
def eqBs : List Bool → List Bool → Bool
  | [], [] => true
  | a :: l, b :: m => (bif a then b else !b) && eqBs l m
  | _, _ => false
theorem eqBs_ok : ∀ {l m : List Bool}, eqBs l m = true → l = m
  | [], [], _ => rfl
  | [], _ :: _, h => by cases h
  | _ :: _, [], h => by cases h
  | a :: l, b :: m, h => by
    simp only [eqBs, Bool.and_eq_true] at h
    rw [eqBs_ok h.2]
    cases a <;> cases b <;> simp_all
def nodeAt (n : Nat) (listed : Array Bool) : List (List Nat) → Option (List Nat)
  | [] => none
  | L :: r => bif eqBs (listOf n L).toList listed.toList then some L else nodeAt n listed r
theorem nodeAt_ok {n : Nat} {listed : Array Bool} : ∀ {r : List (List Nat)} {L : List Nat}, nodeAt n listed r = some L → L ∈ r ∧ listOf n L = listed
  | [], _, h => by cases h
  | L' :: r, L, h => by
    simp only [nodeAt] at h
    cases hb : eqBs (listOf n L').toList listed.toList with
    | true =>
      simp only [hb, cond_true, Option.some.injEq] at h
      subst h
      exact ⟨by simp, Array.toList_inj.1 (eqBs_ok hb)⟩
    | false =>
      simp only [hb, cond_false] at h
      obtain ⟨h1, h2⟩ := nodeAt_ok h
      exact ⟨List.mem_cons_of_mem _ h1, h2⟩
def insN (x : Nat) : List Nat → List Nat
  | [] => [x]
  | y :: r => bif Nat.ble x y then x :: y :: r else y :: insN x r
def sortN : List Nat → List Nat
  | [] => []
  | x :: r => insN x (sortN r)
def St.norm (S : St) : St := S.keep (sortN (S.fr.map (·.1))) (sortN (S.ob.map (·.1)))
def subX (P : Program) (pids : List Nat) (N : Nat) (ops : Array Oper) (oo : List (List Orc)) : List Nat → St → St
  | [], S => S.norm
  | j :: r, S => match ops[j]? with
    | some o => let x := absorb pids S (oo.getD j [])
      match sStep P pids N ops x.1 o x.2.1 with
      | some (S2, _, _) => subX P pids N ops oo r S2
      | none => S
    | none => S
def gGo (P : Program) (pids : List Nat) (N : Nat) (ops : Array Oper) (oo : List (List Orc)) (aj : List Adj) (T S0 : St) (nodes : List (List Nat)) : Nat → Array Bool → St → Option (List Prop)
  | 0, listed, S => match Region.ready .any ops listed with
    | [] => endX pids aj T S
    | _ => none
  | f + 1, listed, S => match Region.ready .any ops listed with
    | [] => endX pids aj T S
    | r => match firstF ops listed r with
      | some j => xStep P pids N ops oo true j S fun S2 => gGo P pids N ops oo aj T S0 nodes f (listed.setIfInBounds j true) S2
      | none => match nodeAt ops.size listed nodes with
        | some L => optB (Nat.beq (f + 1 + L.length) ops.size && nodupB (sortN (S.ob.map (·.1)))) (some [S.norm = subX P pids N ops oo L S0])
        | none => none
def gNode (P : Program) (pids : List Nat) (N : Nat) (ops : Array Oper) (oo : List (List Orc)) (aj : List Adj) (T S0 : St) (nodes : List (List Nat)) (L : List Nat) : Option (List Prop) :=
  allX (fun j => xStep P pids N ops oo false j (subX P pids N ops oo L S0) fun S2 => gGo P pids N ops oo aj T S0 nodes (ops.size - L.length - 1) ((listOf ops.size L).setIfInBounds j true) S2) (Region.ready .any ops (listOf ops.size L))
def gEach (K : List Nat → Option (List Prop)) : List (List Nat) → Option (List Prop)
  | [] => some []
  | L :: r => match K L, gEach K r with
    | some a, some b => some (a ++ b)
    | _, _ => none
theorem gEach_spec {K : List Nat → Option (List Prop)} : ∀ {l : List (List Nat)} {cs : List Prop}, gEach K l = some cs → allP cs → ∀ j ∈ l, ∃ c, K j = some c ∧ allP c
  | [], _, _, _, j, hj => by cases hj
  | k :: r, cs, h, hC, j, hj => by
    simp only [gEach] at h
    split at h
    · rename_i a b ha hb
      simp only [Option.some.injEq] at h
      subst h
      rw [allP_append] at hC
      cases hj with
      | head => exact ⟨a, ha, hC.1⟩
      | tail _ hj => exact gEach_spec hb hC.2 j hj
    · cases h
def opsOf : Code → Array Oper
  | .region _ ops _ => ops
  | _ => #[]
def gOps (P : Program) (pids : List Nat) (N : Nat) (ops : Array Oper) (oo : List (List Orc)) (aj : List Adj) (T : St) (nodes : List (List Nat)) (S : St) : Option (List Prop) :=
  match gGo P pids N ops oo aj T S nodes ops.size (Array.replicate ops.size false) S, gEach (gNode P pids N ops oo aj T S nodes) nodes with
  | some a, some b => some (a ++ b)
  | _, _ => none
def dOps0 (P : Program) (pids : List Nat) (N : Nat) (ops : Array Oper) (S : St) (orc : List Orc) : Option (St × List Orc × List Prop) :=
  match tailAt ops ops.size with
  | some n => match qOps P pids N ops (ops.toList.take n) S orc with
    | some (S2, orc2, c2) => match sOps P pids N ops (ops.toList.drop n) S2 orc2 with
      | some (S3, orc3, c3) => some (S3, orc3, c2 ++ c3)
      | none => none
    | none => none
  | none => optB (Region.lexB .any ops) (qOps P pids N ops ops.toList S orc)
def dOps (P : Program) (pids : List Nat) (N : Nat) (ops : Array Oper) (S : St) (orc : List Orc) : Option (St × List Orc × List Prop) :=
  match orc with
  | .xo oo aj T :: orc' => match xOps P pids N ops oo aj T ops.size (Array.replicate ops.size false) S with
    | some cs => optB (Region.noSelect ops) (some (T, orc', cs))
    | none => none
  | .xg oo aj0 aj T nodes :: orc' => match adjs pids S aj0 with
    | some S0 => match gOps P pids N ops oo aj T nodes S0 with
      | some cs => optB (Region.noSelect ops) (some (T, orc', cs))
      | none => none
    | none => none
  | _ => dOps0 P pids N ops S orc

inductive KI where
  | code (c : Code)
  | blk (id : Nat)
  | inv (J : Act → World → Prop)
def QK (P : Program) (R : Exit → Act → World → Prop) : List KI → Exit → Act → World → Prop
  | [] => R
  | .code c :: k => Exit.then (fun a w => c.wp P (QK P R k) a w) (QK P R k)
  | .blk id :: k => Exit.inBlock id (QK P R k)
  | .inv J :: k => Exit.then J (QK P R k)
def G (E : Env) (k : List KI) (S : St) : Prop := ∀ a w, Sat E S a w → QK E.P E.R k .normal a w
def exitK (id : Nat) : List KI → Option (List KI)
  | [] => none
  | .blk i :: k => bif Nat.beq i id then some k else exitK id k
  | _ :: k => exitK id k

def runK (P : Program) (pids : List Nat) (N : Nat) : Nat → List KI → St → List Orc → Option (List KI × St × List Prop)
  | 0, k, S, [] => some (k, S, [])
  | 0, _, _, _ => none
  | n + 1, k, S, orc => match k with
    | .code (.seq a b) :: k' => runK P pids N n (.code a :: .code b :: k') S orc
    | .code .skip :: k' => runK P pids N n k' S orc
    | .code (.block id c) :: k' => runK P pids N n (.code c :: .blk id :: k') S orc
    | .blk _ :: k' => runK P pids N n k' S orc
    | .code (.exit id) :: k' => match exitK id k' with
      | some k2 => runK P pids N n k2 S orc
      | none => none
    | .code (.cond c x y) :: k' => let z := absorb pids S orc
      match ev z.1 c with
      | some (.o (.c (.v (.bool true)))) => match runK P pids N n (.code x :: k') z.1 z.2.1 with
        | some (k2, S2, c2) => some (k2, S2, z.2.2 ++ c2)
        | none => none
      | some (.o (.c (.v (.bool false)))) => match runK P pids N n (.code y :: k') z.1 z.2.1 with
        | some (k2, S2, c2) => some (k2, S2, z.2.2 ++ c2)
        | none => none
      | _ => none
    | .code (.region id ops d) :: k' => match (bif d then dOps P pids N ops S orc else sOps P pids N ops ops.toList S orc) with
      | some (S1, orc1, c1) => match runK P pids N n k' S1 orc1 with
        | some (k2, S2, c2) => some (k2, S2, c1 ++ c2)
        | none => none
      | none => none
    | k => match orc with
      | [] => some (k, S, [])
      | _ => none

section
variable {E : Env} {S : St} {a : Act} {w : World} {ρ : Nat → Value} {g : GHeap}

theorem absorb_ok : ∀ {orc : List Orc} {S : St}, Sat E S a w → allP (absorb (E.pre.map (·.1)) S orc).2.2 → Sat E (absorb (E.pre.map (·.1)) S orc).1 a w
  | [], S, h, _ => h
  | .as t b :: r, S, h, hC => by
    unfold absorb at hC ⊢
    split
    · rename_i e he
      simp only [he] at hC
      obtain ⟨h1, h2⟩ := hC
      refine absorb_ok ?_ h2
      obtain ⟨ρ, g, h⟩ := h
      have hm := look_mem he
      refine ⟨ρ, g, h.size, h.defers, fun p hp => ?_, h.gs, h.gm, h.gn, h.ob, h.fw, h.pi⟩
      cases hp with
      | head => obtain ⟨y, hy, hc⟩ := h.fr _ hm; exact ⟨y, hy, by rw [← h1]; exact hc⟩
      | tail _ hp => exact h.fr p (delSlot_mem hp).1
    · exact h
  | .ad x :: r, S, h, hC => by
    unfold absorb at hC ⊢
    split
    · rename_i S' he
      simp only [he] at hC
      exact absorb_ok (h.adj1 he) hC
    · exact h
  | .ix _ :: _, S, h, _ => h
  | .new _ :: _, S, h, _ => h
  | .run _ _ :: _, S, h, _ => h
  | .call .. :: _, S, h, _ => h
  | .ln _ :: _, S, h, _ => h
  | .nm _ :: _, S, h, _ => h
  | .xo _ _ _ :: _, S, h, _ => h
  | .nd _ :: _, S, h, _ => h
  | .xg _ _ _ _ _ :: _, S, h, _ => h
theorem guardOf_ok (h : SatX E S a w ρ g) {ops : Array Oper} {o : Oper} {b : Bool} (hg : guardOf ops S o = some b) : Region.wanted o (yielded ops a.tmps) = b := by
  unfold guardOf at hg
  cases hgd : o.guard with
  | none => simp only [hgd, Option.some.injEq] at hg; subst hg; simp [Region.wanted, hgd]
  | some jw =>
    obtain ⟨j, want⟩ := jw
    simp only [hgd] at hg
    split at hg
    · rename_i t ht
      have key : ∀ c : Bool, look S.fr t = some (V (.bool c)) → Region.wanted o (yielded ops a.tmps) = (c == want) := fun c hc => by
        obtain ⟨y, hy, hcy⟩ := h.fr _ (look_mem hc)
        have hyc : y = .bool c := hcy
        subst hyc
        simp only [Region.wanted, hgd, yielded, ht, Option.bind_some, hy]
        simp
      split at hg
      · rename_i hl
        rw [key true hl]
        simp only [Option.some.injEq] at hg
        subst hg
        cases want <;> rfl
      · rename_i hl
        rw [key false hl]
        simp only [Option.some.injEq] at hg
        subst hg
        cases want <;> rfl
      · rename_i vs hl
        simp only [Option.some.injEq] at hg
        subst hg
        obtain ⟨y, hy, hcy⟩ := h.fr _ (look_mem hl)
        have hyc : y = .tuple vs := hcy
        subst hyc
        simp only [Region.wanted, hgd, yielded, ht, Option.bind_some, hy]
        rfl
      · cases hg
    · cases hg

/-- the quiet head, walked -/
theorem qOps_ok {ops : Array Oper} : ∀ (l : List Oper) {S S' : St} {a : Act} {orc orc' : List Orc} {cs : List Prop} {K : Act → Prop}, Sat E S a w → qOps E.P (E.pre.map (·.1)) E.N ops l S orc = some (S', orc', cs) → allP cs →
    (∀ a', Sat E S' a' w → K a') → wpQuiet E.P ops (Cls w) K l a
  | [], S, S', a, orc, orc', cs, K, h, hq, hC, hK => by
    simp only [qOps, Option.some.injEq, Prod.mk.injEq] at hq
    obtain ⟨rfl, _, _⟩ := hq
    exact hK a h
  | o :: r, S, S', a, orc, orc', cs, K, h, hq, hC, hK => by
    simp only [qOps] at hq
    split at hq
    · rename_i S2 orc2 c2 hs
      split at hq
      · rename_i S3 orc3 c3 hr
        simp only [Option.some.injEq, Prod.mk.injEq] at hq
        obtain ⟨rfl, _, rfl⟩ := hq
        rw [allP_append, allP_append] at hC
        obtain ⟨ρ, g, h1⟩ := absorb_ok h hC.1
        unfold qStep at hs
        split at hs
        · cases hs
        · rename_i hg
          obtain ⟨hd, hs⟩ := optB_some hs
          simp only [Option.some.injEq, Prod.mk.injEq] at hs
          obtain ⟨rfl, rfl, rfl⟩ := hs
          have hw := guardOf_ok h1 hg
          simp only [wpQuiet, hw]
          simp only [Bool.false_eq_true, if_false]
          exact qOps_ok r ⟨_, _, h1.put hd (rv := V undef) rfl⟩ hr hC.2.2 hK
        · rename_i hg
          split at hs
          · rename_i rv orc4 c hqv
            obtain ⟨hd, hs⟩ := optB_some hs
            simp only [Option.some.injEq, Prod.mk.injEq] at hs
            obtain ⟨rfl, rfl, rfl⟩ := hs
            have hw := guardOf_ok h1 hg
            obtain ⟨y, hy, hQ⟩ := qev_ok h1 hqv (allP_toL.1 hC.2.1)
            simp only [wpQuiet, hw, if_true]
            exact ⟨y, hQ, qOps_ok r ⟨_, _, h1.put hd hy⟩ hr hC.2.2 hK⟩
          · cases hs
      · cases hq
    · cases hq

/-- the text's order, walked -/
theorem sOps_ok {ops : Array Oper} {Q : Exit → Act → World → Prop} : ∀ (l : List Oper) {S S' : St} {a : Act} {w : World} {orc orc' : List Orc} {cs : List Prop}, Sat E S a w → sOps E.P (E.pre.map (·.1)) E.N ops l S orc = some (S', orc', cs) → allP cs →
    (∀ a' w', Sat E S' a' w' → Q .normal a' w') → wpList E.P ops Q l a w
  | [], S, S', a, w, orc, orc', cs, h, hq, hC, hK => by
    simp only [sOps, Option.some.injEq, Prod.mk.injEq] at hq
    obtain ⟨rfl, _, _⟩ := hq
    exact hK a w h
  | o :: r, S, S', a, w, orc, orc', cs, h, hq, hC, hK => by
    simp only [sOps] at hq
    split at hq
    · rename_i S2 orc2 c2 hs
      split at hq
      · rename_i S3 orc3 c3 hr
        simp only [Option.some.injEq, Prod.mk.injEq] at hq
        obtain ⟨rfl, _, rfl⟩ := hq
        rw [allP_append, allP_append] at hC
        obtain ⟨ρ, g, h1⟩ := absorb_ok h hC.1
        have ih : ∀ a' w', Sat E S2 a' w' → wpList E.P ops Q r a' w' := fun a' w' h' => sOps_ok r h' hr hC.2.2 hK
        unfold sStep at hs
        split at hs
        · rename_i res hqs
          simp only [Option.some.injEq] at hs
          subst hs
          unfold qStep at hqs
          split at hqs
          · cases hqs
          · rename_i hg
            obtain ⟨hd, hs⟩ := optB_some hqs
            simp only [Option.some.injEq, Prod.mk.injEq] at hs
            obtain ⟨rfl, rfl, rfl⟩ := hs
            have hw := guardOf_ok h1 hg
            simp only [wpList, hw]
            simp only [Bool.false_eq_true, if_false]
            exact ih _ _ ⟨_, _, h1.put hd (rv := V undef) rfl⟩
          · rename_i hg
            split at hqs
            · rename_i rv orc4 c hqv
              obtain ⟨hd, hs⟩ := optB_some hqs
              simp only [Option.some.injEq, Prod.mk.injEq] at hs
              obtain ⟨rfl, rfl, rfl⟩ := hs
              have hw := guardOf_ok h1 hg
              obtain ⟨y, hy, hQ⟩ := qev_ok h1 hqv (allP_toL.1 hC.2.1)
              simp only [wpList, hw, if_true]
              refine .inl (Oper.wp_of_quiet (C := Cls w) (K := fun a' => a' = a.put o.dst y) (RowKit.Below.refl _ _) (fun a' w' hc e => ?_) ⟨y, hQ, rfl⟩)
              subst e
              exact ih _ _ ⟨_, _, (h1.cls hc).put hd hy⟩
            · cases hqs
        · split at hs
          · rename_i hg
            split at hs
            · rename_i S4 orc4 c he
              simp only [Option.some.injEq, Prod.mk.injEq] at hs
              obtain ⟨rfl, rfl, rfl⟩ := hs
              have hw := guardOf_ok h1 hg
              simp only [wpList, hw, if_true]
              exact .inl (eev_ok h1 he (allP_toL.1 hC.2.1) ih)
            · cases hs
          · cases hs
      · cases hq
    · cases hq

theorem cls_drew (w : World) : Cls w { w with drawn := w.drawn + 1 } := (RowKit.Below.refl _ _).drew
theorem dOps0_ok {id : Nat} {ops : Array Oper} {Q : Exit → Act → World → Prop} (hm : E.P.follows .mixedOrders = true) {S' : St} {orc orc' : List Orc} {cs : List Prop} (h : Sat E S a w) (hq : dOps0 E.P (E.pre.map (·.1)) E.N ops S orc = some (S', orc', cs)) (hC : allP cs)
    (hK : ∀ a' w', Sat E S' a' w' → Q .normal a' w') : (Code.region id ops true).wp E.P Q a w := by
  unfold dOps0 at hq
  split at hq
  · rename_i n hn
    split at hq
    · rename_i S2 orc2 c2 h1
      split at hq
      · rename_i S3 orc3 c3 h2
        simp only [Option.some.injEq, Prod.mk.injEq] at hq
        obtain ⟨rfl, _, rfl⟩ := hq
        rw [allP_append] at hC
        have hB : Region.lexTailB .any ops n = true := by
          have key : ∀ m, tailAt ops m = some n → Region.lexTailB .any ops n = true := by
            intro m
            induction m with
            | zero => intro e; cases e
            | succ m ih =>
              intro e
              unfold tailAt at e
              cases hb : Region.lexTailB .any ops (ops.size - (m + 1)) with
              | true => simp only [hb, cond_true, Option.some.injEq] at e; rw [← e]; exact hb
              | false => simp only [hb, cond_false] at e; exact ih e
          exact key _ hn
        have := region_head (P := E.P) (id := id) (Q := Q) (a := a) (w := w) (l := ops.toList) (C := Cls w) n hm (by simpa using hB) (cls_drew w)
          (by
            have := qOps_ok (w := w) (ops := ops) (ops.toList.take n) (K := fun a' => ∀ w', Cls w w' → wpList E.P ops Q (ops.toList.drop n) a' w') h h1 hC.1 (fun a' ⟨_, _, h'⟩ w' hc => sOps_ok _ ⟨_, _, h'.cls hc⟩ h2 hC.2 hK)
            simpa using this)
        simpa using this
      · cases hq
    · cases hq
  · obtain ⟨hB, hq⟩ := optB_some hq
    refine wp_region_quiet hm hB (C := Cls w) (cls_drew w) ?_
    exact qOps_ok (w := w) ops.toList h hq hC (fun a' ⟨_, _, h'⟩ w' hc => hK a' w' ⟨_, _, h'.cls hc⟩)

theorem wp_monoQ {o : Oper} {a : Act} {w : World} {K : Act → World → Prop} {Q Q' : Exit → Act → World → Prop} (hQ : ∀ e a w, Q' e a w → Q e a w) (hh : o.wp E.P a w K Q') : o.wp E.P a w K Q := by
  unfold Oper.wp at *
  generalize (execOp a.eval o).run E.P w = r at *
  cases r with
  | ok n w' =>
    cases n <;> simp only [Oper.upon] at hh ⊢ <;>
      first
        | exact hh
        | exact Calls.mono hh (fun e w'' he => by cases e <;> first | exact he | exact hQ _ _ _ he | (obtain ⟨b, u, hbu⟩ := he; exact ⟨b, u, hQ _ _ _ hbu⟩))
        | exact Rows.mono hh (fun _ _ he => he)
  | halt x w' => cases x <;> simp only [Oper.upon] at hh ⊢ <;> first | exact hh | exact hQ _ _ _ hh
theorem wpOp_monoQ {ops : Array Oper} {i : Nat} {a : Act} {w : World} {K K' : Act → World → Prop} {Q Q' : Exit → Act → World → Prop} (hQ : ∀ e a w, Q' e a w → Q e a w) (hK : ∀ a w, K' a w → K a w) (hh : wpOp E.P ops Q' i K' a w) : wpOp E.P ops Q i K a w := by
  have h2 := wpOp_mono hK hh
  unfold wpOp at *
  split
  · rename_i hn; simp only [hn] at h2; exact h2
  · rename_i o ho
    simp only [ho] at h2
    split
    · rename_i hw; simp only [hw, if_true] at h2; exact h2.imp (wp_monoQ hQ) fun ⟨h1, a, w, h3⟩ => ⟨h1, a, w, hQ _ _ _ h3⟩
    · rename_i hw; simp only [hw] at h2; exact h2
theorem wpAny_monoQ {ops : Array Oper} {Q Q' : Exit → Act → World → Prop} (hQ : ∀ e a w, Q' e a w → Q e a w) : ∀ (n : Nat) (listed : Array Bool) (a : Act) (w : World), wpAny E.P .any ops Q' n listed a w → wpAny E.P .any ops Q n listed a w
  | 0, _, _, _, h => ⟨h.1, hQ _ _ _ h.2⟩
  | n + 1, listed, a, w, h => ⟨fun h0 => hQ _ _ _ (h.1 h0), fun i hi => wpOp_monoQ hQ (fun a' w' h' => wpAny_monoQ hQ n _ a' w' h') (h.2 i hi)⟩
theorem firstF_spec {ops : Array Oper} {listed : Array Bool} : ∀ {l : List Nat} {j : Nat}, firstF ops listed l = some j → j ∈ l ∧ ∃ o, ops[j]? = some o ∧ pureO o = true ∧ Region.free .any ops listed j = true
  | [], _, h => by cases h
  | k :: r, j, h => by
    simp only [firstF] at h
    split at h
    · rename_i o ho
      cases hb : (pureO o && Region.free .any ops listed k) with
      | true =>
        simp only [hb, cond_true, Option.some.injEq] at h
        subst h
        simp only [Bool.and_eq_true] at hb
        exact ⟨by simp, o, ho, hb.1, hb.2⟩
      | false =>
        simp only [hb, cond_false] at h
        obtain ⟨h1, h2⟩ := firstF_spec h
        exact ⟨List.mem_cons_of_mem _ h1, h2⟩
    · obtain ⟨h1, h2⟩ := firstF_spec h
      exact ⟨List.mem_cons_of_mem _ h1, h2⟩
theorem allX_spec {K : Nat → Option (List Prop)} : ∀ {l : List Nat} {cs : List Prop}, allX K l = some cs → allP cs → ∀ j ∈ l, ∃ c, K j = some c ∧ allP c
  | [], _, _, _, j, hj => by cases hj
  | k :: r, cs, h, hC, j, hj => by
    simp only [allX] at h
    split at h
    · rename_i a b ha hb
      simp only [Option.some.injEq] at h
      subst h
      rw [allP_append] at hC
      cases hj with
      | head => exact ⟨a, ha, hC.1⟩
      | tail _ hj => exact allX_spec hb hC.2 j hj
    · cases h
theorem xStep_spec {ops : Array Oper} {oo : List (List Orc)} {pur : Bool} {j : Nat} {S : St} {K : St → Option (List Prop)} {cs : List Prop} (h : xStep E.P (E.pre.map (·.1)) E.N ops oo pur j S K = some cs) (hC : allP cs) (hs : Sat E S a w) :
    ∃ o S1 S2 orc c2 c3, ops[j]? = some o ∧ Sat E S1 a w ∧ (bif pur then qStep E.P E.N ops S1 o orc else sStep E.P (E.pre.map (·.1)) E.N ops S1 o orc) = some (S2, [], c2) ∧ allP c2 ∧ K S2 = some c3 ∧ allP c3 := by
  unfold xStep at h
  split at h
  · rename_i o ho
    dsimp only at h
    split at h
    · rename_i S2 c2 hst
      split at h
      · rename_i c3 hk
        simp only [Option.some.injEq] at h
        subst h
        rw [allP_append, allP_append] at hC
        exact ⟨o, _, S2, _, c2, c3, ho, absorb_ok hs hC.1, hst, hC.2.1, hk, hC.2.2⟩
      · cases h
    · cases h
  · cases h
theorem endX_ok {aj : List Adj} {T S : St} {cs : List Prop} (h : endX (E.pre.map (·.1)) aj T S = some cs) (hC : allP cs) (hs : Sat E S a w) : Sat E T a w := by
  unfold endX at h
  split at h
  · rename_i S' he
    simp only [Option.some.injEq] at h
    subst h
    have e : S' = T := hC.1
    subst e
    exact hs.adjs he
  · cases h
theorem xOps_ok {ops : Array Oper} (hsel : Region.noSelect ops = true) {oo : List (List Orc)} {aj : List Adj} {T : St} {Q : Exit → Act → World → Prop} (hQ : ∀ c a w, ¬ Q (.panic c) a w) (hK : ∀ a w, Sat E T a w → Q .normal a w) :
    ∀ (f : Nat) (listed : Array Bool) (S : St) (a : Act) (w : World) (cs : List Prop), Sat E S a w → xOps E.P (E.pre.map (·.1)) E.N ops oo aj T f listed S = some cs → allP cs → wpAny E.P .any ops Q f listed a w
  | 0, listed, S, a, w, cs, hs, hx, hC => by
    simp only [xOps] at hx
    split at hx
    · rename_i hr; exact ⟨hr, hK a w (endX_ok hx hC hs)⟩
    · cases hx
  | f + 1, listed, S, a, w, cs, hs, hx, hC => by
    simp only [xOps] at hx
    split at hx
    · rename_i hr
      exact ⟨fun _ => hK a w (endX_ok hx hC hs), fun i hi => by rw [hr] at hi; cases hi⟩
    · split at hx
      · rename_i j hj
        obtain ⟨hjr, oj, hoj, hpu, hfr⟩ := firstF_spec hj
        obtain ⟨o, S1, S2, orc, c2, c3, ho, ⟨ρ, g, h1⟩, hst, hc2, hk, hc3⟩ := xStep_spec hx hC hs
        rw [hoj] at ho
        simp only [Option.some.injEq] at ho
        subst ho
        simp only [cond_true] at hst
        have hstep : ∃ y, Yields E.P ops oj y a ∧ Sat E S2 (a.put oj.dst y) w := by
          unfold qStep at hst
          split at hst
          · cases hst
          · rename_i hg
            obtain ⟨hd, hst⟩ := optB_some hst
            simp only [Option.some.injEq, Prod.mk.injEq] at hst
            obtain ⟨rfl, _, _⟩ := hst
            exact ⟨undef, .inr ⟨guardOf_ok h1 hg, rfl⟩, _, _, h1.put hd (rv := V undef) rfl⟩
          · rename_i hg
            split at hst
            · rename_i rv orc4 c hqv
              obtain ⟨hd, hst⟩ := optB_some hst
              simp only [Option.some.injEq, Prod.mk.injEq] at hst
              obtain ⟨rfl, _, rfl⟩ := hst
              obtain ⟨y, hy, hQ⟩ := qev_pure h1 hqv (allP_toL.1 hc2) hpu
              exact ⟨y, .inl ⟨guardOf_ok h1 hg, hQ⟩, _, _, h1.put hd hy⟩
            · cases hst
        obtain ⟨y, hy, hs2⟩ := hstep
        exact wpAny_first hoj (fun j o cs b => Region.noSelect_spec hsel j o cs b) (fun c a w h => absurd h (hQ c _ w)) f listed a w (Region.free_spec hoj hfr) hjr hy (xOps_ok hsel hQ hK f _ S2 _ w c3 hs2 hk hc3)
      · refine ⟨fun h0 => absurd h0 (by assumption), fun i hi => ?_⟩
        obtain ⟨c, hki, hci⟩ := allX_spec hx hC i hi
        obtain ⟨o, S1, S2, orc, c2, c3, ho, ⟨ρ, g, h1⟩, hst, hc2, hk, hc3⟩ := xStep_spec hki hci hs
        simp only [cond_false] at hst
        have ih : ∀ a' w', Sat E S2 a' w' → wpAny E.P .any ops Q f (listed.setIfInBounds i true) a' w' := fun a' w' h' => xOps_ok hsel hQ hK f _ S2 a' w' c3 h' hk hc3
        unfold wpOp
        simp only [ho]
        unfold sStep at hst
        split at hst
        · rename_i res hqs
          simp only [Option.some.injEq] at hst
          subst hst
          unfold qStep at hqs
          split at hqs
          · cases hqs
          · rename_i hg
            obtain ⟨hd, hs⟩ := optB_some hqs
            simp only [Option.some.injEq, Prod.mk.injEq] at hs
            obtain ⟨rfl, _, _⟩ := hs
            have hw := guardOf_ok h1 hg
            simp only [hw]
            simp only [Bool.false_eq_true, if_false]
            exact ih _ _ ⟨_, _, h1.put hd (rv := V undef) rfl⟩
          · rename_i hg
            split at hqs
            · rename_i rv orc4 c hqv
              obtain ⟨hd, hs⟩ := optB_some hqs
              simp only [Option.some.injEq, Prod.mk.injEq] at hs
              obtain ⟨rfl, _, rfl⟩ := hs
              have hw := guardOf_ok h1 hg
              obtain ⟨y, hy, hQy⟩ := qev_ok h1 hqv (allP_toL.1 hc2)
              simp only [hw, if_true]
              refine .inl (Oper.wp_of_quiet (C := Cls w) (K := fun a' => a' = a.put o.dst y) (RowKit.Below.refl _ _) (fun a' w' hc e => ?_) ⟨y, hQy, rfl⟩)
              subst e
              exact ih _ _ ⟨_, _, (h1.cls hc).put hd hy⟩
            · cases hqs
        · split at hst
          · rename_i hg
            split at hst
            · rename_i S4 orc4 c he
              simp only [Option.some.injEq, Prod.mk.injEq] at hst
              obtain ⟨rfl, _, rfl⟩ := hst
              have hw := guardOf_ok h1 hg
              simp only [hw, if_true]
              exact .inl (eev_ok h1 he (allP_toL.1 hc2) ih)
            · cases hst
          · cases hst
theorem branch_ok {ops : Array Oper} {oo : List (List Orc)} {K : Nat → St → Option (List Prop)} {Q : Exit → Act → World → Prop} {f : Nat} {listed : Array Bool} {S : St} {cs : List Prop} (hr : Region.ready .any ops listed ≠ []) (hs : Sat E S a w)
    (hx : allX (fun j => xStep E.P (E.pre.map (·.1)) E.N ops oo false j S (K j)) (Region.ready .any ops listed) = some cs) (hC : allP cs)
    (ih0 : ∀ i S2 c3 a' w', Sat E S2 a' w' → K i S2 = some c3 → allP c3 → wpAny E.P .any ops Q f (listed.setIfInBounds i true) a' w') : wpAny E.P .any ops Q (f + 1) listed a w := by
  refine ⟨fun h0 => absurd h0 hr, fun i hi => ?_⟩
  obtain ⟨c, hki, hci⟩ := allX_spec hx hC i hi
  obtain ⟨o, S1, S2, orc, c2, c3, ho, ⟨ρ, g, h1⟩, hst, hc2, hk, hc3⟩ := xStep_spec hki hci hs
  simp only [cond_false] at hst
  have ih : ∀ a' w', Sat E S2 a' w' → wpAny E.P .any ops Q f (listed.setIfInBounds i true) a' w' := fun a' w' h' => ih0 i S2 c3 a' w' h' hk hc3
  unfold wpOp
  simp only [ho]
  unfold sStep at hst
  split at hst
  · rename_i res hqs
    simp only [Option.some.injEq] at hst
    subst hst
    unfold qStep at hqs
    split at hqs
    · cases hqs
    · rename_i hg
      obtain ⟨hd, hs⟩ := optB_some hqs
      simp only [Option.some.injEq, Prod.mk.injEq] at hs
      obtain ⟨rfl, _, _⟩ := hs
      have hw := guardOf_ok h1 hg
      simp only [hw]
      simp only [Bool.false_eq_true, if_false]
      exact ih _ _ ⟨_, _, h1.put hd (rv := V undef) rfl⟩
    · rename_i hg
      split at hqs
      · rename_i rv orc4 c hqv
        obtain ⟨hd, hs⟩ := optB_some hqs
        simp only [Option.some.injEq, Prod.mk.injEq] at hs
        obtain ⟨rfl, _, rfl⟩ := hs
        have hw := guardOf_ok h1 hg
        obtain ⟨y, hy, hQy⟩ := qev_ok h1 hqv (allP_toL.1 hc2)
        simp only [hw, if_true]
        refine .inl (Oper.wp_of_quiet (C := Cls w) (K := fun a' => a' = a.put o.dst y) (RowKit.Below.refl _ _) (fun a' w' hc e => ?_) ⟨y, hQy, rfl⟩)
        subst e
        exact ih _ _ ⟨_, _, (h1.cls hc).put hd hy⟩
      · cases hqs
  · split at hst
    · rename_i hg
      split at hst
      · rename_i S4 orc4 c he
        simp only [Option.some.injEq, Prod.mk.injEq] at hst
        obtain ⟨rfl, _, rfl⟩ := hst
        have hw := guardOf_ok h1 hg
        simp only [hw, if_true]
        exact .inl (eev_ok h1 he (allP_toL.1 hc2) ih)
      · cases hst
    · cases hst
theorem gGo_ok {ops : Array Oper} (hsel : Region.noSelect ops = true) {oo : List (List Orc)} {aj : List Adj} {T S0 : St} {nodes : List (List Nat)} {Q : Exit → Act → World → Prop} (hQ : ∀ c a w, ¬ Q (.panic c) a w) (hK : ∀ a w, Sat E T a w → Q .normal a w)
    (hN : ∀ L ∈ nodes, ∃ c, gNode E.P (E.pre.map (·.1)) E.N ops oo aj T S0 nodes L = some c ∧ allP c) :
    ∀ (f : Nat) (listed : Array Bool) (S : St) (a : Act) (w : World) (cs : List Prop), Sat E S a w → gGo E.P (E.pre.map (·.1)) E.N ops oo aj T S0 nodes f listed S = some cs → allP cs → wpAny E.P .any ops Q f listed a w
  | 0, listed, S, a, w, cs, hs, hx, hC => by
    simp only [gGo] at hx
    split at hx
    · rename_i hr; exact ⟨hr, hK a w (endX_ok hx hC hs)⟩
    · cases hx
  | f + 1, listed, S, a, w, cs, hs, hx, hC => by
    simp only [gGo] at hx
    split at hx
    · rename_i hr
      exact ⟨fun _ => hK a w (endX_ok hx hC hs), fun i hi => by rw [hr] at hi; cases hi⟩
    · rename_i hr
      split at hx
      · rename_i j hj
        obtain ⟨hjr, oj, hoj, hpu, hfr⟩ := firstF_spec hj
        obtain ⟨o, S1, S2, orc, c2, c3, ho, ⟨ρ, g, h1⟩, hst, hc2, hk, hc3⟩ := xStep_spec hx hC hs
        rw [hoj] at ho
        simp only [Option.some.injEq] at ho
        subst ho
        simp only [cond_true] at hst
        have hstep : ∃ y, Yields E.P ops oj y a ∧ Sat E S2 (a.put oj.dst y) w := by
          unfold qStep at hst
          split at hst
          · cases hst
          · rename_i hg
            obtain ⟨hd, hst⟩ := optB_some hst
            simp only [Option.some.injEq, Prod.mk.injEq] at hst
            obtain ⟨rfl, _, _⟩ := hst
            exact ⟨undef, .inr ⟨guardOf_ok h1 hg, rfl⟩, _, _, h1.put hd (rv := V undef) rfl⟩
          · rename_i hg
            split at hst
            · rename_i rv orc4 c hqv
              obtain ⟨hd, hst⟩ := optB_some hst
              simp only [Option.some.injEq, Prod.mk.injEq] at hst
              obtain ⟨rfl, _, rfl⟩ := hst
              obtain ⟨y, hy, hQ⟩ := qev_pure h1 hqv (allP_toL.1 hc2) hpu
              exact ⟨y, .inl ⟨guardOf_ok h1 hg, hQ⟩, _, _, h1.put hd hy⟩
            · cases hst
        obtain ⟨y, hy, hs2⟩ := hstep
        exact wpAny_first hoj (fun j o cs b => Region.noSelect_spec hsel j o cs b) (fun c a w h => absurd h (hQ c _ w)) f listed a w (Region.free_spec hoj hfr) hjr hy (gGo_ok hsel hQ hK hN f _ S2 _ w c3 hs2 hk hc3)
      · split at hx
        · rename_i L hL
          obtain ⟨hb, hx⟩ := optB_some hx
          simp only [Option.some.injEq] at hx
          subst hx
          simp only [Bool.and_eq_true] at hb
          have hf := Nat.eq_of_beq_eq_true hb.1
          obtain ⟨hm, hl⟩ := nodeAt_ok hL
          obtain ⟨c, hc, hcC⟩ := hN L hm
          unfold gNode at hc
          rw [hl, show ops.size - L.length - 1 = f by omega] at hc
          obtain ⟨ρ, g, h⟩ := hs
          have hT : Sat E (subX E.P (E.pre.map (·.1)) E.N ops oo L S0) a w := by
            have e : S.norm = subX E.P (E.pre.map (·.1)) E.N ops oo L S0 := hC.1
            rw [← e]
            exact ⟨ρ, g, h.keep hb.2⟩
          exact branch_ok hr hT hc hcC (fun i S2 c3 a' w' h' hk hc3 => gGo_ok hsel hQ hK hN f _ S2 a' w' c3 h' hk hc3)
        · cases hx
theorem dOps_ok {id : Nat} {ops : Array Oper} {Q : Exit → Act → World → Prop} (hm : E.P.follows .mixedOrders = true) {S S' : St} {orc orc' : List Orc} {cs : List Prop} (h : Sat E S a w) (hq : dOps E.P (E.pre.map (·.1)) E.N ops S orc = some (S', orc', cs)) (hC : allP cs)
    (hK : ∀ a' w', Sat E S' a' w' → Q .normal a' w') : (Code.region id ops true).wp E.P Q a w := by
  unfold dOps at hq
  split at hq
  · rename_i oo aj T orc2
    split at hq
    · rename_i cs' hx
      obtain ⟨hsel, hq⟩ := optB_some hq
      simp only [Option.some.injEq, Prod.mk.injEq] at hq
      obtain ⟨rfl, _, rfl⟩ := hq
      refine wp_region_any hm ?_
      obtain ⟨ρ, g, h⟩ := h
      refine wpAny_monoQ (Q' := fun e a w => match e with | .normal => Q .normal a w | _ => False) (fun e a w h => ?_) _ _ _ _ (xOps_ok (Q := fun e a w => match e with | .normal => Q .normal a w | _ => False) hsel (fun c a w h => h) (fun a w h => hK a w h) _ _ S a _ _ ⟨ρ, g, h.cls (cls_drew w)⟩ hx hC)
      cases e <;> first | exact h | exact h.elim
    · cases hq
  · rename_i oo aj0 aj T nodes orc2
    split at hq
    · rename_i S0 h0
      have h := h.adjs h0
      split at hq
      · rename_i cs' hx
        obtain ⟨hsel, hq⟩ := optB_some hq
        simp only [Option.some.injEq, Prod.mk.injEq] at hq
        obtain ⟨rfl, _, rfl⟩ := hq
        refine wp_region_any hm ?_
        obtain ⟨ρ, g, h⟩ := h
        unfold gOps at hx
        split at hx
        · rename_i c1 c2 h1 h2
          simp only [Option.some.injEq] at hx
          subst hx
          rw [allP_append] at hC
          refine wpAny_monoQ (Q' := fun e a w => match e with | .normal => Q .normal a w | _ => False) (fun e a w h => ?_) _ _ _ _ (gGo_ok (Q := fun e a w => match e with | .normal => Q .normal a w | _ => False) hsel (fun c a w h => h) (fun a w h => hK a w h) (fun L hL => gEach_spec h2 hC.2 L hL) _ _ S0 a _ _ ⟨ρ, g, h.cls (cls_drew w)⟩ h1 hC.1)
          cases e <;> first | exact h | exact h.elim
        · cases hx
      · cases hq
    · cases hq
  · exact dOps0_ok hm h hq hC hK

theorem exitK_ok {R : Exit → Act → World → Prop} {P : Program} {id : Nat} : ∀ {k k2 : List KI}, exitK id k = some k2 → ∀ a w, QK P R k2 .normal a w → QK P R k (.exit id) a w
  | [], _, h, _, _, _ => by cases h
  | .blk i :: k, k2, h, a, w, hQ => by
    simp only [exitK] at h
    simp only [QK, Exit.inBlock]
    cases hb : Nat.beq i id with
    | true =>
      simp only [hb, cond_true, Option.some.injEq] at h
      have := Nat.eq_of_beq_eq_true hb
      subst this
      subst h
      simpa using hQ
    | false =>
      simp only [hb, cond_false] at h
      have : id ≠ i := fun e => by rw [e] at hb; simp at hb
      rw [if_neg this]
      exact exitK_ok h a w hQ
  | .code c :: k, k2, h, a, w, hQ => by
    simp only [exitK] at h
    exact exitK_ok h a w hQ
  | .inv J :: k, k2, h, a, w, hQ => by
    simp only [exitK] at h
    exact exitK_ok h a w hQ

theorem runK_ok (hm : E.P.follows .mixedOrders = true) : ∀ (n : Nat) {k k' : List KI} {S S' : St} {orc : List Orc} {cs : List Prop}, runK E.P (E.pre.map (·.1)) E.N n k S orc = some (k', S', cs) → allP cs → G E k' S' → G E k S
  | 0, k, k', S, S', orc, cs, hr, hC, hG => by
    cases orc with
    | nil =>
      simp only [runK, Option.some.injEq, Prod.mk.injEq] at hr
      obtain ⟨rfl, rfl, _⟩ := hr
      exact hG
    | cons _ _ => simp [runK] at hr
  | n + 1, k, k', S, S', orc, cs, hr, hC, hG => by
    simp only [runK] at hr
    split at hr
    · exact fun a w h => wp_seq (runK_ok hm n hr hC hG a w h)
    · exact fun a w h => wp_skip (runK_ok hm n hr hC hG a w h)
    · exact fun a w h => wp_block (runK_ok hm n hr hC hG a w h)
    · exact fun a w h => runK_ok hm n hr hC hG a w h
    · split at hr
      · rename_i k2 he
        exact fun a w h => wp_exit (exitK_ok he a w (runK_ok hm n hr hC hG a w h))
      · cases hr
    · rename_i c x y k2
      split at hr
      · rename_i hc
        split at hr
        · rename_i k3 S3 c3 hr2
          simp only [Option.some.injEq, Prod.mk.injEq] at hr
          obtain ⟨rfl, rfl, rfl⟩ := hr
          rw [allP_append] at hC
          intro a w h
          obtain ⟨ρ, g, h1⟩ := absorb_ok h hC.1
          exact wp_cond_true (ev_ok h1 hc) (runK_ok hm n hr2 hC.2 hG a w ⟨ρ, g, h1⟩)
        · cases hr
      · rename_i hc
        split at hr
        · rename_i k3 S3 c3 hr2
          simp only [Option.some.injEq, Prod.mk.injEq] at hr
          obtain ⟨rfl, rfl, rfl⟩ := hr
          rw [allP_append] at hC
          intro a w h
          obtain ⟨ρ, g, h1⟩ := absorb_ok h hC.1
          exact wp_cond_false (ev_ok h1 hc) (runK_ok hm n hr2 hC.2 hG a w ⟨ρ, g, h1⟩)
        · cases hr
      · cases hr
    · rename_i id ops d k2
      split at hr
      · rename_i S1 orc1 c1 ho
        split at hr
        · rename_i k3 S3 c3 hr2
          simp only [Option.some.injEq, Prod.mk.injEq] at hr
          obtain ⟨rfl, rfl, rfl⟩ := hr
          rw [allP_append] at hC
          intro a w h
          cases d with
          | true =>
            simp only [cond_true] at ho
            exact dOps_ok hm h ho hC.1 (runK_ok hm n hr2 hC.2 hG)
          | false =>
            simp only [cond_false] at ho
            exact wp_region_list (sOps_ok ops.toList h ho hC.1 (runK_ok hm n hr2 hC.2 hG))
        · cases hr
      · cases hr
    · split at hr
      · simp only [Option.some.injEq, Prod.mk.injEq] at hr
        obtain ⟨rfl, rfl, _⟩ := hr
        exact hG
      · cases hr
end
end Go.Sx
