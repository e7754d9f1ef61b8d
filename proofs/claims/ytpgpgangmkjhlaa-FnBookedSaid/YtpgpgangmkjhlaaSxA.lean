/- A symbolic state over the walk's frames: abstract values for slots, owned objects, and what it means that a frame and a world fit one. -/
import Derived.Laws.AppendOwn
import Derived.Laws.MakeOwn
import Derived.Laws.Entries
import Derived.Laws.BytesArg
import Derived.Carry
import Derived.MapKept
import Derived.ChangeMaps4
import Derived.Below
import Derived.Deep.Quiet
import Derived.Tactics
import Derived.KernelRfl
import Derived.Test.YtpgpgangmkjhlaaSxTb
namespace Go.Sx
set_option linter.unusedVariables false

def blk : Value → Option Nat
  | .slice (some a) _ _ => some a.block
  | .pointer (some a) => some a.block
  | .map (some b) => some b
  | _ => none

/-- A cell's abstract value: an exact value; an owned row's header; a pointer into an owned box, or at an owned row's element; a slice that is only read; a pointer at cells that are only read; a closure over owned boxes; a value that is made of an owned row's header (an interface over it, a library's closure over it). -/
inductive CA where
  | v (x : Value)
  | sl (id : Nat)
  | ptr (id off : Nat)
  | pe (id sz i off : Nat)
  | rs (sz : Nat) (L : List (List Value))
  | re (cs : List Value) (off : Nat)
  | fn (f : Nat) (ids : List Nat)
  | of (F : Value → Value) (id : Nat)
inductive AV where
  | c (a : CA)
  | agg (cs : List CA)
inductive RV where
  | o (a : AV)
  | tup (vs : List AV)
inductive OB where
  | box (ty : TypeId) (cs : List CA)
  | row (e : TypeId) (sz : Nat) (L : List (List Value))
  | smap (k e : TypeId) (D : List ByteArray)
  | rows (e szs : Nat) (D : List (List (List Value)))

abbrev V (x : Value) : RV := .o (.c (.v x))
abbrev A (a : CA) : RV := .o (.c a)

def All2 {α β : Type} (R : α → β → Prop) : List α → List β → Prop
  | [], [] => True
  | a :: l, b :: m => R a b ∧ All2 R l m
  | _, _ => False
theorem All2.length {α β : Type} {R : α → β → Prop} : ∀ {l : List α} {m : List β}, All2 R l m → l.length = m.length
  | [], [], _ => rfl
  | _ :: _, _ :: _, h => by simp [All2.length h.2]
  | [], _ :: _, h => h.elim
  | _ :: _, [], h => h.elim
theorem All2.get {α β : Type} {R : α → β → Prop} : ∀ {l : List α} {m : List β} {i : Nat} {a : α}, All2 R l m → l[i]? = some a → ∃ b, m[i]? = some b ∧ R a b
  | [], _, i, a, _, h => by simp at h
  | x :: l, [], i, a, h, _ => h.elim
  | x :: l, y :: m, 0, a, h, ha => ⟨y, rfl, by simp at ha; exact ha ▸ h.1⟩
  | x :: l, y :: m, i + 1, a, h, ha => by
    obtain ⟨b, hb, hr⟩ := All2.get (i := i) h.2 (by simpa using ha)
    exact ⟨b, by simpa using hb, hr⟩
theorem All2.imp {α β : Type} {R R' : α → β → Prop} (hi : ∀ a b, R a b → R' a b) : ∀ {l : List α} {m : List β}, All2 R l m → All2 R' l m
  | [], [], _ => trivial
  | _ :: _, _ :: _, h => ⟨hi _ _ h.1, All2.imp hi h.2⟩
  | [], _ :: _, h => h.elim
  | _ :: _, [], h => h.elim
theorem All2.imp' {α β : Type} {R R' : α → β → Prop} : ∀ {l : List α} {m : List β}, (∀ a ∈ l, ∀ b, R a b → R' a b) → All2 R l m → All2 R' l m
  | [], [], _, _ => trivial
  | a :: l, b :: m, hi, h => ⟨hi a (by simp) b h.1, All2.imp' (fun a ha => hi a (by simp [ha])) h.2⟩
  | [], _ :: _, _, h => h.elim
  | _ :: _, [], _, h => h.elim
theorem All2.drop {α β : Type} {R : α → β → Prop} : ∀ {l : List α} {m : List β} (n : Nat), All2 R l m → All2 R (l.drop n) (m.drop n)
  | l, m, 0, h => by simpa using h
  | [], [], n + 1, _ => by simp [All2]
  | _ :: l, _ :: m, n + 1, h => by simpa using All2.drop n h.2
  | [], _ :: _, _, h => h.elim
  | _ :: _, [], _, h => h.elim
theorem All2.take {α β : Type} {R : α → β → Prop} : ∀ {l : List α} {m : List β} (n : Nat), All2 R l m → All2 R (l.take n) (m.take n)
  | l, m, 0, h => by simp [All2]
  | [], [], n + 1, _ => by simp [All2]
  | _ :: l, _ :: m, n + 1, h => by simpa [All2] using ⟨h.1, All2.take n h.2⟩
  | [], _ :: _, _, h => h.elim
  | _ :: _, [], _, h => h.elim
theorem All2.set_left {α β : Type} {R : α → β → Prop} : ∀ {l : List α} {m : List β} {j : Nat} {a a' : α}, All2 R l m → l[j]? = some a → (∀ y, R a y → R a' y) → All2 R (l.set j a') m
  | [], [], j, _, _, _, h, _ => by simp at h
  | x :: l, y :: m, 0, a, a', h, hj, hi => by
    have : x = a := by simpa using hj
    subst this
    exact ⟨hi y h.1, h.2⟩
  | x :: l, y :: m, j + 1, a, a', h, hj, hi => ⟨h.1, All2.set_left h.2 (by simpa using hj) hi⟩
  | [], _ :: _, _, _, _, h, _, _ => h.elim
  | _ :: _, [], _, _, _, h, _, _ => h.elim
theorem All2.append {α β : Type} {R : α → β → Prop} : ∀ {l : List α} {m : List β} {l' : List α} {m' : List β}, All2 R l m → All2 R l' m' → All2 R (l ++ l') (m ++ m')
  | [], [], _, _, _, h' => by simpa using h'
  | _ :: _, _ :: _, _, _, h, h' => ⟨h.1, All2.append h.2 h'⟩
  | [], _ :: _, _, _, h, _ => h.elim
  | _ :: _, [], _, _, h, _ => h.elim
theorem All2.map_left {α β γ : Type} {R : α → β → Prop} {f : γ → α} : ∀ {l : List γ} {m : List β}, All2 (fun c b => R (f c) b) l m → All2 R (l.map f) m
  | [], [], _ => trivial
  | _ :: _, _ :: _, h => ⟨h.1, All2.map_left h.2⟩
  | [], _ :: _, h => h.elim
  | _ :: _, [], h => h.elim
theorem All2.of_map_left {α β γ : Type} {R : α → β → Prop} {f : γ → α} : ∀ {l : List γ} {m : List β}, All2 R (l.map f) m → All2 (fun c b => R (f c) b) l m
  | [], [], _ => trivial
  | _ :: _, _ :: _, h => ⟨h.1, All2.of_map_left h.2⟩
  | [], _ :: _, h => h.elim
  | _ :: _, [], h => h.elim

abbrev GHeap := Nat → Option (Array Value)
/-- what is read stays, and the listed variables are among it -/
def Gm (g0 g : GHeap) : Prop := (∀ b c, g0 b = some c → g b = some c) ∧ Tab g0
theorem Gm.tab {g0 g : GHeap} (h : Gm g0 g) : Tab g := Tab.mono h.1 h.2

/-- A slice of no elements: nil, or one whose place is not told. -/
def Bare (y : Value) : Prop := y = .slice none 0 0 ∨ ∃ a cap, y = .slice (some a) 0 cap ∧ cap ≤ maxLen
def RsOk (g : GHeap) (sz : Nat) (L : List (List Value)) (y : Value) : Prop :=
  (∀ cs ∈ L, cs.length = sz) ∧ (∀ x ∈ L.flatten, x.oneCell' = true) ∧
  ((Bare y ∧ L = []) ∨ ∃ b o cap c, y = .slice (some ⟨b, o, none⟩) L.length cap ∧ g b = some c ∧ L.length ≤ cap ∧ cap ≤ maxLen ∧ (c.toList.drop o).take (L.length * sz) = L.flatten)
def ReOk (g : GHeap) (cs : List Value) (off : Nat) (y : Value) : Prop :=
  (∀ x ∈ cs, x.oneCell' = true) ∧ ∃ b o c, y = .pointer (some ⟨b, o + off, none⟩) ∧ g b = some c ∧ (c.toList.drop o).take cs.length = cs

/-- A value fits an abstract cell. -/
def CC (ρ : Nat → Value) (g : GHeap) : CA → Value → Prop
  | .v x, y => y = x
  | .sl id, y => y = ρ id ∧ y.oneCell' = true
  | .ptr id off, y => ∃ b, ρ id = .pointer (some ⟨b, 0, none⟩) ∧ y = .pointer (some ⟨b, off, none⟩)
  | .pe id sz i off, y => ∃ b n cap, ρ id = .slice (some ⟨b, 0, none⟩) n cap ∧ y = .pointer (some ⟨b, i * sz + off, none⟩)
  | .rs sz L, y => RsOk g sz L y
  | .re cs off, y => ReOk g cs off y
  | .fn f ids, y => ∃ bs : List Nat, All2 (fun id b => ρ id = .pointer (some ⟨b, 0, none⟩)) ids bs ∧ y = .func (.func f) #[] (bs.map fun b => Value.pointer (some ⟨b, 0, none⟩)).toArray
  | .of F id, y => y = F (ρ id) ∧ y.oneCell' = true
def CAv (ρ : Nat → Value) (g : GHeap) : AV → Value → Prop
  | .c a, y => CC ρ g a y
  | .agg cs, y => ∃ ys : List Value, y = .agg ys.toArray ∧ All2 (CC ρ g) cs ys
def CR (ρ : Nat → Value) (g : GHeap) : RV → Value → Prop
  | .o a, y => CAv ρ g a y
  | .tup vs, y => ∃ ys : List Value, y = .tuple ys.toArray ∧ All2 (CAv ρ g) vs ys

def ObOk (ρ : Nat → Value) (g : GHeap) (w : World) (x : Value) : OB → Prop
  | .box ty cs => ∃ b, ∃ ys : List Value, x = .pointer (some ⟨b, 0, none⟩) ∧ w.heap[b]? = some (.cells ys.toArray ty (0, 0)) ∧ All2 (CC ρ g) cs ys ∧ ∀ y ∈ ys, y.oneCell' = true
  | .row e sz L => w.ownsRow 0 e sz x L.length L.flatten ∧ (∀ cs ∈ L, cs.length = sz) ∧ ∀ y ∈ L.flatten, y.oneCell' = true
  | .smap _ _ D => ∃ b, ∃ es : Array MapEntry, ∃ clock, x = .map (some b) ∧ w.heap[b]? = some (.map es clock) ∧ es.toList.map (fun z => (z.key, z.val)) = D.map fun s => (Value.string s, Value.bool true)
  | .rows e szs D => ∃ ys : List Value, (w.ownsRow 0 e 1 x ys.length ys ∧ ∀ y ∈ ys, y.oneCell' = true) ∧ All2 (RsOk g szs) D ys

def GSub (g : GHeap) (w : World) : Prop := ∀ b c, g b = some c → ∃ e fr, w.heap[b]? = some (.cells c e fr)

structure Objs (ρ : Nat → Value) (g : GHeap) (w : World) (B : Nat → Prop) (l : List (Nat × OB)) : Prop where
  ids : (l.map (·.1)).Nodup
  ok : ∀ p ∈ l, ObOk ρ g w (ρ p.1) p.2
  own : ∀ p ∈ l, ∀ b, blk (ρ p.1) = some b → B b
  apart : ∀ p ∈ l, ∀ q ∈ l, p.1 ≠ q.1 → ∀ b, blk (ρ p.1) = some b → blk (ρ q.1) ≠ some b
  ro : ∀ p ∈ l, ∀ b, blk (ρ p.1) = some b → g b = none

/-- Of what w had, nothing outside B has turned. -/
structure Fw (B : Nat → Prop) (w w' : World) : Prop where
  os : w'.os = w.os
  tape : w'.tape = w.tape
  output : w'.output = w.output
  size : w.heap.size ≤ w'.heap.size
  block : ∀ k, k < w.heap.size → ¬ B k → w'.heap[k]? = w.heap[k]?

theorem Fw.refl (B : Nat → Prop) (w : World) : Fw B w w := ⟨rfl, rfl, rfl, Nat.le_refl _, fun _ _ _ => rfl⟩
theorem Fw.trans {B B' : Nat → Prop} {a b c : World} (h : Fw B a b) (k : Fw B' b c) (hB : ∀ i, i < a.heap.size → B' i → B i) : Fw B a c :=
  ⟨k.os.trans h.os, k.tape.trans h.tape, k.output.trans h.output, Nat.le_trans h.size k.size, fun i hi hn => (k.block i (Nat.lt_of_lt_of_le hi h.size) (fun h' => hn (hB i hi h'))).trans (h.block i hi hn)⟩
theorem Fw.of_below {B : Nat → Prop} {w w' : World} (h : RowKit.Below w.heap.size w w') : Fw B w w' := ⟨h.os, h.tape, h.output, h.size, fun k hk _ => h.block k hk⟩
theorem Fw.below {w w' : World} (h : Fw (fun _ => False) w w') : RowKit.Below w.heap.size w w' := ⟨h.os, h.tape, h.output, h.size, fun k hk => h.block k hk id⟩

def PB (ρ : Nat → Value) (l : List (Nat × OB)) (b : Nat) : Prop := ∃ p ∈ l, blk (ρ p.1) = some b

structure St where
  fr : List (Nat × RV)
  ob : List (Nat × OB)

structure Env where
  P : Program
  N : Nat
  w0 : World
  ρ0 : Nat → Value
  g0 : GHeap
  pre : List (Nat × OB)
  R : Exit → Act → World → Prop
def Env.own (E : Env) (b : Nat) : Prop := PB E.ρ0 E.pre b ∨ E.w0.heap.size ≤ b

structure SatX (E : Env) (S : St) (a : Act) (w : World) (ρ : Nat → Value) (g : GHeap) : Prop where
  size : a.tmps.size = E.N
  defers : a.defers = []
  fr : ∀ p ∈ S.fr, ∃ y, a.tmps[p.1]? = some y ∧ CR ρ g p.2 y
  gs : GSub g w
  gm : Gm E.g0 g
  gn : ∀ b c, g b = some c → E.g0 b = some c ∨ E.own b
  ob : Objs ρ g w E.own S.ob
  fw : Fw (PB E.ρ0 E.pre) E.w0 w
  pi : ∀ p ∈ E.pre, ρ p.1 = E.ρ0 p.1
def Sat (E : Env) (S : St) (a : Act) (w : World) : Prop := ∃ ρ g, SatX E S a w ρ g

/-- A function's contract. -/
def Con (P : Program) (f : FuncId) (args : List AV) (pre : List (Nat × OB)) (res : RV) (pre' new : List (Nat × OB)) : Prop :=
  ∀ (ρ : Nat → Value) (g : GHeap) (w : World) (vs : List Value), Tab g → GSub g w → Objs ρ g w (fun b => b < w.heap.size) pre → All2 (CAv ρ g) args vs →
    Calls P f vs.toArray w fun e w' => ∃ v ρ' g', e = .returned v ∧ (∀ id, id ∉ new.map (·.1) → ρ' id = ρ id) ∧ Fw (PB ρ pre) w w' ∧ GSub g' w' ∧
      (∀ b c, g b = some c → g' b = some c) ∧ (∀ b c, g' b = some c → g b = some c ∨ PB ρ pre b ∨ w.heap.size ≤ b) ∧ CR ρ' g' res v ∧
      Objs ρ' g' w' (fun b => PB ρ pre b ∨ w.heap.size ≤ b) (pre' ++ new)

def look {α : Type} : List (Nat × α) → Nat → Option α
  | [], _ => none
  | (i, a) :: r, k => bif Nat.beq i k then some a else look r k
theorem look_mem {α : Type} : ∀ {l : List (Nat × α)} {k : Nat} {a : α}, look l k = some a → (k, a) ∈ l
  | [], _, _, h => by simp [look] at h
  | (i, x) :: r, k, a, h => by
    unfold look at h
    cases hb : Nat.beq i k with
    | true => simp [hb] at h; have := Nat.eq_of_beq_eq_true hb; subst this; subst h; simp
    | false => simp [hb] at h; exact List.mem_cons_of_mem _ (look_mem h)

def ev (S : St) : Operand → Option RV
  | .tmp t => look S.fr t
  | .const v => some (V v)
  | .func f => some (V (.func (.func f) #[] #[]))
  | .global _ => none
theorem ev_ok {E : Env} {S : St} {a : Act} {w : World} {ρ : Nat → Value} {g : GHeap} (h : SatX E S a w ρ g) {x : Operand} {r : RV} (hx : ev S x = some r) : CR ρ g r (a.eval x) := by
  cases x with
  | tmp t =>
    obtain ⟨y, hy, hc⟩ := h.fr _ (look_mem hx)
    have : a.eval (.tmp t) = y := by simp [Act.eval, hy]
    rw [this]; exact hc
  | const v => simp [ev] at hx; subst hx; rfl
  | func f => simp [ev] at hx; subst hx; rfl
  | global gl => simp [ev] at hx

end Go.Sx
