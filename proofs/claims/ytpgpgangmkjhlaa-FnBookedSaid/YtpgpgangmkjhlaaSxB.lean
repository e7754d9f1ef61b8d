/- The quiet operations over a symbolic state: what they yield in every world that has grown from this one, and that it is so. -/
import Derived.Test.YtpgpgangmkjhlaaSxA
namespace Go.Sx
set_option linter.unusedVariables false

inductive Adj where
  | fz (id : Nat)
  | sw (i j : Nat)
  | mv (i j : Nat)
  | nl (t id : Nat) (e sz : Nat)
  | nr (t sz : Nat)
  | nb (bid j id : Nat) (e sz : Nat)
  | na (t j id : Nat) (e sz : Nat)
  | rw (id szs : Nat)
  | keep (live ids : List Nat)
inductive Orc where
  | ix (cs : List Value)
  | new (id : Nat)
  | run (t : Nat) (v : Value)
  | call (al : Bool) (pre : List Nat) (res : RV) (pre' new : List (Nat × OB))
  | as (t : Nat) (b : Bool)
  | ln (n : Nat)
  | nm (L : List (List Value))
  | ad (x : Adj)
  | xo (oo : List (List Orc)) (aj : List Adj) (T : St)
  | nd (D : List (List (List Value)))
  | xg (oo : List (List Orc)) (aj0 aj : List Adj) (T : St) (nodes : List (List Nat))

def pureSem {α : Type} (P : Program) : Sem α → Option α
  | .pure a => some a
  | .program k => pureSem P (k P)
  | .mark _ k => pureSem P k
  | _ => none
theorem pureSem_run {α : Type} {P : Program} : ∀ {s : Sem α} {a : α}, pureSem P s = some a → ∀ w, s.run P w = .ok a w
  | .pure _, _, h, w => by simp only [pureSem, Option.some.injEq] at h; subst h; rfl
  | .program k, _, h, w => by simp only [pureSem] at h; simp only [Sem.run]; exact pureSem_run h w
  | .mark _ k, _, h, w => by simp only [pureSem] at h; simp only [Sem.run]; exact pureSem_run h w
  | .load .., _, h, _ => by simp [pureSem] at h
  | .store .., _, h, _ => by simp [pureSem] at h
  | .new .., _, h, _ => by simp [pureSem] at h
  | .shape .., _, h, _ => by simp [pureSem] at h
  | .freeze .., _, h, _ => by simp [pureSem] at h
  | .frozen .., _, h, _ => by simp [pureSem] at h
  | .getObj .., _, h, _ => by simp [pureSem] at h
  | .setObj .., _, h, _ => by simp [pureSem] at h
  | .choose .., _, h, _ => by simp [pureSem] at h
  | .sys .., _, h, _ => by simp [pureSem] at h
  | .halt .., _, h, _ => by simp [pureSem] at h

def valOf (S : St) (x : Operand) : Value :=
  match ev S x with
  | some (.o (.c (.v v))) => v
  | _ => undef
def allVal (S : St) : List Operand → Bool
  | [] => true
  | x :: r => match ev S x with
    | some (.o (.c (.v _))) => allVal S r
    | _ => false
def tsh (P : Program) (t : TypeId) : Option (Bool × Nat) :=
  match P.underlying t, P.info? t with
  | some (.struct _), some i => some (true, i.size)
  | some (.array _ _), some i => some (true, i.size)
  | some _, some i => some (false, i.size)
  | _, _ => none
/-- the number of cells of the slice type's elements -/
def sliceSz (P : Program) (t : TypeId) : Option Nat :=
  match P.underlying t with
  | some (.slice e) => (P.info? e).map (·.size)
  | _ => none
def fieldOff (P : Program) (t : TypeId) (f : Nat) : Option Nat :=
  match P.underlying t with
  | some (.struct fs) => match fs[f]? with
    | some fl => match P.info? fl.type with
      | some i => bif Nat.beq i.size 0 then none else some fl.offset
      | none => none
    | none => none
  | _ => none

def allV : List CA → Option (List Value)
  | [] => some []
  | .v x :: r => (allV r).map (x :: ·)
  | _ => none
def mkAgg (cs : List CA) : AV := match allV cs with
  | some l => .c (.v (.agg l.toArray))
  | none => .agg cs

def vCA (S : St) : CA → Option CA
  | .sl id => match look S.ob id with
    | some (.row _ sz L) => some (.rs sz L)
    | _ => none
  | c => some c
def vCAs (S : St) : List CA → Option (List CA)
  | [] => some []
  | a :: r => match vCA S a, vCAs S r with
    | some b, some l => some (b :: l)
    | _, _ => none
def viewAV (S : St) : RV → Option AV
  | .o (.c a) => (vCA S a).map .c
  | .o (.agg cs) => (vCAs S cs).map .agg
  | .tup _ => none
def viewArgs (S : St) : List Operand → Option (List AV)
  | [] => some []
  | x :: r => match (ev S x).bind (viewAV S), viewArgs S r with
    | some a, some l => some (a :: l)
    | _, _ => none

def pureOp (P : Program) (S : St) (o : Oper) : Option RV :=
  bif allVal S o.op.operands.toList then match pureSem P (execOp (valOf S) o) with
    | some (.value v) => some (V v)
    | _ => none
  else none

/-- a result that is one exact value -/
def exactR : RV → Option Value
  | .o (.c (.v x)) => some x
  | _ => none
def exactL : List AV → Option (List Value)
  | [] => some []
  | .c (.v x) :: r => (exactL r).map (x :: ·)
  | _ => none
def exactRV : RV → Option Value
  | .o (.c (.v x)) => some x
  | .tup l => (exactL l).map fun l => .tuple l.toArray
  | _ => none

def optB {α : Type} (b : Bool) (x : Option α) : Option α := bif b then x else none

/-- a set of strings: does it have this one? -/
def memB (s : ByteArray) : List ByteArray → Bool
  | [] => false
  | x :: r => bif s == x then true else memB s r
def putB (s : ByteArray) (D : List ByteArray) : List ByteArray := bif memB s D then D else D ++ [s]
/-- an operation that asks nothing of the memory -/
def pureO (o : Oper) : Bool := match o.op with
  | .move _ => true
  | .assign _ => true
  | .binOp .. => true
  | .unOp .. => true
  | .convert _ d _ => !(Nat.beq d 9)
  | .extract .. => true
  | .pick .. => true
  | .nilCheck _ => true
  | .fieldAddr .. => true
  | .field .. => true
  | .indexAddr .. => true
  | .slice .. => true
  | .call c => match c.callee with
    | .builtin .len => true
    | .builtin .max => true
    | .builtin .min => true
    | _ => false
  | _ => false
def oP : Option Prop → Prop
  | none => True
  | some p => p
/-- the boxes that these point at -/
def ptrIds (S : St) : List Operand → Option (List Nat)
  | [] => some []
  | x :: r => match ev S x with
    | some (.o (.c (.ptr id off))) => optB (Nat.beq off 0) ((ptrIds S r).map (id :: ·))
    | _ => none
/-- a slice's first k elements; its elements from the k-th on -/
def preF (k : Nat) : Value → Value
  | .slice p _ c => .slice p k c
  | v => v
def sufF (sz k : Nat) : Value → Value
  | .slice (some a) n c => .slice (some (if c = k then a else a.add (k * sz))) (n - k) (c - k)
  | .slice none n c => .slice none (n - k) (c - k)
  | v => v
/-- parts of an owned row, as values made of its header -/
def qsl (P : Program) (S : St) (t : TypeId) (id : Nat) (lo hi : Option Operand) (orc : List Orc) : Option (RV × List Orc × Option Prop) :=
  match look S.ob id, sliceSz P t, orc with
  | some (.row _ sz L), some sz', .ln k :: orc' => match lo, hi with
    | none, some u => match (ev S u).bind exactR with
      | some (.int _ h) => optB (Nat.beq sz' sz) (some (A (.of (preF k) id), orc', some (h = (k : Int) ∧ k ≤ L.length)))
      | _ => none
    | some u, none => match (ev S u).bind exactR with
      | some (.int _ h) => optB (Nat.beq sz' sz) (some (A (.of (sufF sz k) id), orc', some (h = (k : Int) ∧ k ≤ L.length)))
      | _ => none
    | _, _ => none
  | _, _, _ => none

def qev (P : Program) (S : St) (o : Oper) (orc : List Orc) : Option (RV × List Orc × Option Prop) :=
  match o.op with
  | .move x => (ev S x).map (·, orc, none)
  | .assign x => (ev S x).map (·, orc, none)
  | .indexAddr t x i => match ev S x, ev S i with
    | some (.o (.c (.rs sz L))), some (.o (.c (.v (.int _ n)))) => match orc with
      | .ix cs :: orc' => match sliceSz P t with
        | some sz' => optB (Nat.beq sz' sz) (some (A (.re cs 0), orc', some (0 ≤ n ∧ L[n.toNat]? = some cs)))
        | none => none
      | _ => none
    | some (.o (.c (.sl id))), some (.o (.c (.v (.int _ n)))) => match look S.ob id with
      | some (.row _ sz L) => match sliceSz P t with
        | some sz' => optB (Nat.beq sz' sz) (some (A (.pe id sz n.toNat 0), orc, some (0 ≤ n ∧ n.toNat < L.length)))
        | none => none
      | some (.rows _ szs D) => match sliceSz P t with
        | some sz' => optB (Nat.beq sz' 1) (some (A (.pe id 1 n.toNat 0), orc, some (0 ≤ n ∧ n.toNat < D.length)))
        | none => none
      | _ => none
    | _, _ => none
  | .fieldAddr t x f => match fieldOff P t f, ev S x with
    | some fo, some (.o (.c (.re cs off))) => some (A (.re cs (off + fo)), orc, none)
    | some fo, some (.o (.c (.ptr id off))) => some (A (.ptr id (off + fo)), orc, none)
    | some fo, some (.o (.c (.pe id sz i off))) => some (A (.pe id sz i (off + fo)), orc, none)
    | _, _ => none
  | .load t x => match tsh P t, ev S x with
    | some (ag, n), some (.o (.c (.re cs off))) =>
      bif ag then optB (Nat.beq ((cs.drop off).take n).length n) (some (V (.agg ((cs.drop off).take n).toArray), orc, none))
      else match cs[off]? with
        | some v => some (V v, orc, none)
        | none => none
    | some (ag, n), some (.o (.c (.ptr id off))) => match look S.ob id with
      | some (.box _ cs) =>
        bif ag then optB (Nat.beq ((cs.drop off).take n).length n) (some (.o (mkAgg ((cs.drop off).take n)), orc, none))
        else match cs[off]? with
          | some c => some (A c, orc, none)
          | none => none
      | _ => none
    | some (ag, n), some (.o (.c (.pe id sz i off))) => match look S.ob id, orc with
      | some (.row _ sz' L), .ix cs :: orc' =>
        optB (Nat.beq sz sz') (bif ag then optB (Nat.beq ((cs.drop off).take n).length n) (some (V (.agg ((cs.drop off).take n).toArray), orc', some (L[i]? = some cs)))
        else match cs[off]? with
          | some v => some (V v, orc', some (L[i]? = some cs))
          | none => none)
      | some (.rows _ szs D), .nm Li :: orc' => optB (Nat.beq sz 1 && !ag && Nat.beq off 0) (some (A (.rs szs Li), orc', some (D[i]? = some Li)))
      | _, _ => none
    | _, _ => none
  | .extract x i => match ev S x with
    | some (.tup vs) => match vs[i]? with
      | some a => some (.o a, orc, none)
      | none => none
    | _ => none
  | .pick c a b => match ev S c with
    | some (.o (.c (.v (.bool true)))) => (ev S a).map (·, orc, none)
    | some (.o (.c (.v (.bool false)))) => (ev S b).map (·, orc, none)
    | _ => none
  | .nilCheck x => match ev S x with
    | some (.o (.c (.re cs off))) => some (A (.re cs off), orc, none)
    | some (.o (.c (.ptr id off))) => some (A (.ptr id off), orc, none)
    | some (.o (.c (.pe id sz i off))) => some (A (.pe id sz i off), orc, none)
    | _ => none
  | .field t x f => match ev S x with
    | some (.o (.agg cs)) => match fieldOff P t f, (P.underlying t), tsh P t with
      | some fo, some (.struct fs), _ => match (fs[f]?).bind fun fl => tsh P fl.type with
        | some (true, n) => optB (Nat.beq ((cs.drop fo).take n).length n) (some (.o (mkAgg ((cs.drop fo).take n)), orc, none))
        | some (false, n) => match cs[fo]? with
          | some c => some (A c, orc, none)
          | none => none
        | none => none
      | _, _, _ => none
    | _ => (pureOp P S o).map (·, orc, none)
  | .slice t x lo hi mx => match mx, ev S x with
    | none, some (.o (.c (.rs sz L))) =>
      match (match lo with | some l => (ev S l).bind exactR | none => some (.int .i64 0)), (match hi with | some h => (ev S h).bind exactR | none => some (.int .i64 L.length)) with
      | some (.int _ l), some (.int _ h) => match sliceSz P t with
        | some sz' => match orc with
          | .nm L' :: orc' => optB (Nat.beq sz' sz) (some (A (.rs sz L'), orc', some (0 ≤ l ∧ l ≤ h ∧ h ≤ L.length ∧ (L.take h.toNat).drop l.toNat = L')))
          | _ => none
        | none => none
      | _, _ => none
    | none, some (.o (.c (.v (.string s)))) =>
      match (match lo with | some l => (ev S l).bind exactR | none => some (.int .i64 0)), (match hi with | some h => (ev S h).bind exactR | none => some (.int .i64 s.size)) with
      | some (.int _ l), some (.int _ h) => match P.underlying t with
        | some .string => some (V (.string (s.extract l.toNat h.toNat)), orc, some (0 ≤ l ∧ l ≤ h ∧ h ≤ s.size))
        | _ => none
      | _, _ => none
    | none, some (.o (.c (.sl id))) => qsl P S t id lo hi orc
    | _, _ => none
  | .index t x i => match ev S x, ev S i with
    | some (.o (.c (.v (.string s)))), some (.o (.c (.v (.int _ n)))) => match orc with
      | .ix [.int .u8 b] :: orc' => match P.underlying t with
        | some .string => some (V (.int .u8 b), orc', some (0 ≤ n ∧ ∃ u : UInt8, s[n.toNat]? = some u ∧ b = u.toNat))
        | _ => none
      | _ => none
    | _, _ => none
  | .call c => match c.callee, c.args.toList with
    | .builtin .len, [x] => match ev S x with
      | some (.o (.c (.rs sz L))) => match (c.argTypes[0]?).bind P.underlying, orc with
        | some (.slice _), .ln n :: orc' => some (V (goInt n), orc', some (L.length = n))
        | _, _ => none
      | some (.o (.c (.sl id))) => match look S.ob id, (c.argTypes[0]?).bind P.underlying, orc with
        | some (.row _ _ L), some (.slice _), .ln n :: orc' => some (V (goInt n), orc', some (L.length = n))
        | _, _, _ => none
      | _ => (pureOp P S o).map (·, orc, none)
    | .builtin .max, _ => (pureOp P S o).map (·, orc, none)
    | .builtin .min, _ => (pureOp P S o).map (·, orc, none)
    | .value (.func f), args => match orc with
      | .call _ [] res [] [] :: orc' => match exactRV res, viewArgs S args, (P.funcs[f]?) with
        | some _, some avs, some fn => optB (fn.body.isSome && !(fn.name == "runtime.NumGoroutine")) (some (res, orc', some (Con P f avs [] res [] [])))
        | _, _, _ => none
      | _ => none
    | _, _ => none
  | .binOp .. => match orc with
    | .run t v :: orc' => match o.dst with
      | some d => bif Nat.beq d t then optB (allVal S o.op.operands.toList) (some (V v, orc', some (∀ w, (execOp (valOf S) o).run P w = .ok (.value v) w))) else (pureOp P S o).map (·, orc, none)
      | none => none
    | _ => (pureOp P S o).map (·, orc, none)
  | .unOp .. => (pureOp P S o).map (·, orc, none)
  | .lookup t m x ok => match ok, ev S m, ev S x with
    | false, some (.o (.c (.sl id))), some (.o (.c (.v (.string s)))) => match look S.ob id, P.underlying t with
      | some (.smap k e D), some (.map k' e') => match P.underlying k', P.info? e' with
        | some .string, some i => match i.zero with
          | some (.bool false) => some (V (.bool (memB s D)), orc, none)
          | _ => none
        | _, _ => none
      | _, _ => none
    | _, _, _ => none
  | .convert s d x => bif Nat.beq d 9 then (match ev S x with
    | some (.o (.c (.sl id))) => match look S.ob id, orc, P.underlying s with
      | some (.row _ _ L), .ix [.string t] :: orc', some (.slice e) => match P.underlying e, P.underlying d with
        | some (.int .u8), some .string => some (V (.string t), orc', some (∃ l : List Int, (L = l.map fun n => [Value.int .u8 n]) ∧ t = strOfNums l))
        | _, _ => none
      | _, _, _ => none
    | _ => (pureOp P S o).map (·, orc, none)) else (pureOp P S o).map (·, orc, none)
  | .build t parts => (pureOp P S o).map (·, orc, none)
  | .makeFunc fn first captured => match fn, first.toList, ptrIds S captured.toList with
    | .func f, [], some ids => some (A (.fn f ids), orc, none)
    | _, _, _ => none
  | .makeInterface t x => match ev S x, P.underlying t with
    | some (.o (.c (.sl id))), some (.slice _) => some (A (.of (fun s => .iface t s) id), orc, none)
    | _, _ => none
  | _ => none

theorem add_mk (b o n : Nat) : (⟨b, o, none⟩ : Addr).add n = ⟨b, o + n, none⟩ := by
  unfold Addr.add; split
  · subst_vars; rfl
  · rfl

abbrev Cls (w w' : World) : Prop := RowKit.Below w.heap.size w w'
theorem GSub.lt {g : GHeap} {w : World} (h : GSub g w) {b : Nat} {c : Array Value} (hb : g b = some c) : b < w.heap.size := by
  obtain ⟨e, fr, he⟩ := h b c hb
  exact (Array.getElem?_eq_some_iff.1 he).1
theorem GSub.cls {g : GHeap} {w w' : World} (h : GSub g w) (hc : Cls w w') : GSub g w' := fun b c hb => by
  obtain ⟨e, fr, he⟩ := h b c hb
  exact ⟨e, fr, by rw [hc.block b (h.lt hb)]; exact he⟩
theorem heap_lt {w : World} {b : Nat} {o : Obj} (h : w.heap[b]? = some o) : b < w.heap.size := (Array.getElem?_eq_some_iff.1 h).1
theorem ObOk.cls {ρ : Nat → Value} {g : GHeap} {w w' : World} {x : Value} {ob : OB} (h : ObOk ρ g w x ob) (hc : Cls w w') : ObOk ρ g w' x ob := by
  cases ob with
  | box ty cs =>
    obtain ⟨b, ys, hx, hb, h1, h2⟩ := h
    exact ⟨b, ys, hx, by rw [hc.block b (heap_lt hb)]; exact hb, h1, h2⟩
  | smap k e D =>
    obtain ⟨b, es, cl, hx, hb, r⟩ := h
    exact ⟨b, es, cl, hx, by rw [hc.block b (heap_lt hb)]; exact hb, r⟩
  | row e sz L =>
    obtain ⟨⟨h0, h1⟩, h2, h3⟩ := h
    refine ⟨⟨h0, ?_⟩, h2, h3⟩
    rcases h1 with h1 | ⟨gb, cap, cur, hv, hg, hh, r⟩
    · exact .inl h1
    · exact .inr ⟨gb, cap, cur, hv, hg, by rw [hc.block gb (heap_lt hh)]; exact hh, r⟩
  | rows e szs D =>
    obtain ⟨ys, ⟨⟨h0, h1⟩, h2⟩, h3⟩ := h
    refine ⟨ys, ⟨⟨h0, ?_⟩, h2⟩, h3⟩
    rcases h1 with h1 | ⟨gb, cap, cur, hv, hg, hh, r⟩
    · exact .inl h1
    · exact .inr ⟨gb, cap, cur, hv, hg, by rw [hc.block gb (heap_lt hh)]; exact hh, r⟩

theorem flat_one : ∀ (ys : List Value), (ys.map fun y => [y]).flatten = ys
  | [] => rfl
  | y :: r => by simp [flat_one r]
theorem ObOk.rows_row {ρ : Nat → Value} {g : GHeap} {w : World} {x : Value} {e szs : Nat} {D : List (List (List Value))} (h : ObOk ρ g w x (.rows e szs D)) :
    ∃ ys, ObOk ρ g w x (.row e 1 (ys.map fun y => [y])) ∧ All2 (RsOk g szs) D ys := by
  obtain ⟨ys, ⟨h1, h2⟩, h3⟩ := h
  refine ⟨ys, ⟨?_, fun cs hc => ?_, fun y hy => ?_⟩, h3⟩
  · rw [flat_one, List.length_map]; exact h1
  · obtain ⟨y, _, rfl⟩ := List.mem_map.1 hc; rfl
  · rw [flat_one] at hy; exact h2 y hy
theorem ObOk.row_rows {ρ : Nat → Value} {g : GHeap} {w : World} {x : Value} {e szs : Nat} {D : List (List (List Value))} {ys : List Value} (h : ObOk ρ g w x (.row e 1 (ys.map fun y => [y]))) (h3 : All2 (RsOk g szs) D ys) : ObOk ρ g w x (.rows e szs D) := by
  obtain ⟨h1, _, h2⟩ := h
  rw [flat_one] at h1 h2
  rw [List.length_map] at h1
  exact ⟨ys, ⟨h1, h2⟩, h3⟩
theorem seg_get {l xs : List Value} {o : Nat} (h : (l.drop o).take xs.length = xs) {j : Nat} {u : Value} (hj : xs[j]? = some u) : l[o + j]? = some u := by
  have hl : j < xs.length := (List.getElem?_eq_some_iff.1 hj).1
  rw [← h, List.getElem?_take] at hj
  rw [if_pos hl, List.getElem?_drop] at hj
  exact hj
theorem flat_len {L : List (List Value)} {sz : Nat} (h : ∀ cs ∈ L, cs.length = sz) : L.flatten.length = L.length * sz := by
  induction L with
  | nil => simp
  | cons a r ih =>
    have h1 := h a (by simp)
    have h2 := ih (fun cs hc => h cs (by simp [hc]))
    simp only [List.flatten_cons, List.length_append, h1, h2, List.length_cons, Nat.add_mul]
    omega
theorem flat_seg {L : List (List Value)} {sz : Nat} (h : ∀ cs ∈ L, cs.length = sz) {i : Nat} {cs : List Value} (hi : L[i]? = some cs) : (L.flatten.drop (i * sz)).take sz = cs := by
  induction L generalizing i with
  | nil => simp at hi
  | cons a r ih =>
    have h1 := h a (by simp)
    cases i with
    | zero =>
      simp only [List.getElem?_cons_zero, Option.some.injEq] at hi
      subst hi
      simp only [Nat.zero_mul, List.drop_zero, List.flatten_cons]
      rw [List.take_append_of_le_length (by omega), List.take_of_length_le (by omega)]
    | succ i =>
      have h2 := ih (fun cs hc => h cs (by simp [hc])) (by simpa using hi)
      simp only [List.flatten_cons]
      rw [show (i + 1) * sz = a.length + i * sz by rw [h1, Nat.add_mul]; omega, List.drop_append, List.drop_eq_nil_of_le (by omega), List.nil_append, Nat.add_sub_cancel_left]
      exact h2
theorem flat_get {L : List (List Value)} {sz : Nat} (h : ∀ cs ∈ L, cs.length = sz) {i j : Nat} {cs : List Value} {u : Value} (hi : L[i]? = some cs) (hj : cs[j]? = some u) : L.flatten[i * sz + j]? = some u := by
  have hm : cs ∈ L := List.mem_of_getElem? hi
  have hs := flat_seg h hi
  exact seg_get (by rw [h cs hm]; exact hs) hj

/-- A load of known cells. -/
theorem run_load_cells {P : Program} {w : World} {t : TypeId} {ag : Bool} {n : Nat} (ht : tsh P t = some (ag, n)) {b o : Nat} {xs : List Value}
    (hx : ∀ j u, xs[j]? = some u → w.cell? ⟨b, o + j, none⟩ = some u) (hag : ag = true → xs.length = n) (hsg : ag = false → xs.length = 1) :
    (loadVar t ⟨b, o, none⟩).run P w = .ok (if ag then .agg xs.toArray else xs.getD 0 undef) w := by
  unfold tsh at ht
  have hu : ∃ d, P.underlying t = some d ∧ ∃ i, P.info? t = some i ∧ i.size = n ∧ ag = (match d with | .struct _ | .array _ _ => true | _ => false) := by
    split at ht <;> simp_all
  obtain ⟨d, hd, i, hi, hsz, hagd⟩ := hu
  have hagg : (isAgg t).run P w = .ok ag w := by
    unfold isAgg
    rw [Sem.run_bind, run_underlying hd w, hagd]
    cases d <;> simp
  cases ag with
  | true =>
    have hl := run_loadCells_list (P := P) w ⟨b, o, none⟩ xs (fun j u hj => by rw [add_mk]; exact hx j u hj)
    rw [hag rfl] at hl
    simp [loadVar, hagg, sizeOf, typeInfo, hi, hsz, hl]
  | false =>
    have h1 := hsg rfl
    match xs, h1 with
    | [x], _ =>
      have hc := hx 0 x rfl
      simp only [Nat.add_zero] at hc
      simp [loadVar, hagg, hc]

theorem CC.oneV {ρ : Nat → Value} {g : GHeap} : ∀ {cs : List CA} {l ys : List Value}, allV cs = some l → All2 (CC ρ g) cs ys → ys = l
  | [], l, [], h, _ => by simp [allV] at h; exact h.symm
  | [], _, _ :: _, _, h => h.elim
  | _ :: _, _, [], _, h => h.elim
  | c :: r, l, y :: ys, h, h2 => by
    cases c with
    | v x =>
      simp only [allV, Option.map_eq_some_iff] at h
      obtain ⟨l', hl, rfl⟩ := h
      have := CC.oneV hl h2.2
      subst this
      have h3 : y = x := h2.1
      rw [h3]
    | _ => simp [allV] at h
theorem mkAgg_ok {ρ : Nat → Value} {g : GHeap} {cs : List CA} {ys : List Value} (h : All2 (CC ρ g) cs ys) : CAv ρ g (mkAgg cs) (.agg ys.toArray) := by
  unfold mkAgg
  cases ha : allV cs with
  | some l => have := CC.oneV ha h; subst this; rfl
  | none => exact ⟨ys, rfl, h⟩

/-- the owned row, seen as a slice that is read: under all that the world holds -/
def gAll (w : World) : GHeap := fun b => match w.heap[b]? with
  | some (.cells c _ _) => some c
  | _ => none
theorem gAll_sub (w : World) : GSub (gAll w) w := fun b c h => by
  unfold gAll at h
  split at h
  · rename_i c' e fr hb; simp only [Option.some.injEq] at h; subst h; exact ⟨e, fr, hb⟩
  · cases h
theorem GSub.all {g : GHeap} {w : World} (h : GSub g w) {b : Nat} {c : Array Value} (hb : g b = some c) : gAll w b = some c := by
  obtain ⟨e, fr, he⟩ := h b c hb
  simp [gAll, he]
theorem CC.mono {ρ : Nat → Value} {g g' : GHeap} (hg : ∀ b c, g b = some c → g' b = some c) : ∀ {a : CA} {y : Value}, CC ρ g a y → CC ρ g' a y
  | .v _, _, h => h
  | .sl _, _, h => h
  | .ptr _ _, _, h => h
  | .pe _ _ _ _, _, h => h
  | .fn _ _, _, h => h
  | .of _ _, _, h => h
  | .rs sz L, y, ⟨h1, h2, h3⟩ => ⟨h1, h2, h3.imp id fun ⟨b, o, cap, c, e, hb, r⟩ => ⟨b, o, cap, c, e, hg b c hb, r⟩⟩
  | .re cs off, y, ⟨h1, b, o, c, e, hb, r⟩ => ⟨h1, b, o, c, e, hg b c hb, r⟩
theorem CAv.mono {ρ : Nat → Value} {g g' : GHeap} (hg : ∀ b c, g b = some c → g' b = some c) {a : AV} {y : Value} (h : CAv ρ g a y) : CAv ρ g' a y := by
  cases a with
  | c a => exact CC.mono hg h
  | agg cs => obtain ⟨ys, e, h2⟩ := h; exact ⟨ys, e, h2.imp fun _ _ => CC.mono hg⟩
theorem CR.mono {ρ : Nat → Value} {g g' : GHeap} (hg : ∀ b c, g b = some c → g' b = some c) {a : RV} {y : Value} (h : CR ρ g a y) : CR ρ g' a y := by
  cases a with
  | o a => exact CAv.mono hg h
  | tup vs => obtain ⟨ys, e, h2⟩ := h; exact ⟨ys, e, h2.imp fun _ _ => CAv.mono hg⟩
theorem row_view {ρ : Nat → Value} {g : GHeap} {w : World} {x : Value} {e : TypeId} {sz : Nat} {L : List (List Value)} (h : ObOk ρ g w x (.row e sz L)) : RsOk (gAll w) sz L x := by
  obtain ⟨⟨hl, h1⟩, h2, h3⟩ := h
  refine ⟨h2, h3, ?_⟩
  rcases h1 with ⟨rfl, h0⟩ | ⟨b, cap, cur, rfl, _, hh, hn, hm, hs, ht⟩
  · exact .inl ⟨.inl rfl, List.eq_nil_of_length_eq_zero h0⟩
  · exact .inr ⟨b, 0, cap, cur, rfl, by simp [gAll, hh], hn, hm, by simpa using ht⟩

theorem vCA_ok {E : Env} {S : St} {a : Act} {w : World} {ρ : Nat → Value} {g : GHeap} (h : SatX E S a w ρ g) {c d : CA} {y : Value} (hv : vCA S c = some d) (hy : CC ρ g c y) : CC ρ (gAll w) d y := by
  cases c with
  | sl id =>
    simp only [vCA] at hv
    split at hv
    · rename_i e sz L ho
      simp only [Option.some.injEq] at hv; subst hv
      have := h.ob.ok _ (look_mem ho)
      have hy' : y = ρ id := hy.1
      rw [hy']
      exact row_view this
    · cases hv
  | _ => simp only [vCA, Option.some.injEq] at hv; subst hv; exact CC.mono (fun _ _ hb => h.gs.all hb) hy
theorem vCAs_ok {E : Env} {S : St} {a : Act} {w : World} {ρ : Nat → Value} {g : GHeap} (h : SatX E S a w ρ g) : ∀ {cs ds : List CA} {ys : List Value}, vCAs S cs = some ds → All2 (CC ρ g) cs ys → All2 (CC ρ (gAll w)) ds ys
  | [], ds, [], hv, _ => by simp [vCAs] at hv; subst hv; trivial
  | [], _, _ :: _, _, h => h.elim
  | _ :: _, _, [], _, h => h.elim
  | c :: cs, ds, y :: ys, hv, hy => by
    simp only [vCAs] at hv
    split at hv
    · rename_i b l hb hl
      simp only [Option.some.injEq] at hv; subst hv
      exact ⟨vCA_ok h hb hy.1, vCAs_ok h hl hy.2⟩
    · cases hv
theorem viewAV_ok {E : Env} {S : St} {a : Act} {w : World} {ρ : Nat → Value} {g : GHeap} (h : SatX E S a w ρ g) {r : RV} {av : AV} {y : Value} (hv : viewAV S r = some av) (hy : CR ρ g r y) : CAv ρ (gAll w) av y := by
  cases r with
  | tup vs => simp [viewAV] at hv
  | o b =>
    cases b with
    | agg cs =>
      simp only [viewAV, Option.map_eq_some_iff] at hv
      obtain ⟨ds, hd, rfl⟩ := hv
      obtain ⟨ys, rfl, h2⟩ := hy
      exact ⟨ys, rfl, vCAs_ok h hd h2⟩
    | c b =>
      simp only [viewAV, Option.map_eq_some_iff] at hv
      obtain ⟨d, hd, rfl⟩ := hv
      exact vCA_ok h hd hy
theorem viewArgs_ok {E : Env} {S : St} {a : Act} {w : World} {ρ : Nat → Value} {g : GHeap} (h : SatX E S a w ρ g) : ∀ {l : List Operand} {avs : List AV}, viewArgs S l = some avs → All2 (CAv ρ (gAll w)) avs (l.map a.eval)
  | [], avs, hv => by simp [viewArgs] at hv; subst hv; trivial
  | x :: r, avs, hv => by
    simp only [viewArgs] at hv
    split at hv
    · rename_i b l hb hl
      simp only [Option.some.injEq] at hv; subst hv
      obtain ⟨rv, hrv, hb⟩ := Option.bind_eq_some_iff.1 hb
      exact ⟨viewAV_ok h hb (ev_ok h hrv), viewArgs_ok h hl⟩
    · cases hv
theorem valOf_ok {E : Env} {S : St} {a : Act} {w : World} {ρ : Nat → Value} {g : GHeap} (h : SatX E S a w ρ g) : ∀ {l : List Operand}, allVal S l = true → ∀ x ∈ l, a.eval x = valOf S x
  | [], _, x, hx => by cases hx
  | z :: r, hv, x, hx => by
    simp only [allVal] at hv
    split at hv
    · rename_i v hz
      cases hx with
      | head => have := ev_ok h hz; simp only [valOf, hz]; exact this
      | tail _ hx => exact valOf_ok h hv x hx
    · cases hv
theorem exactL_ok {ρ : Nat → Value} {g : GHeap} : ∀ {l : List AV} {xs ys : List Value}, exactL l = some xs → All2 (CAv ρ g) l ys → ys = xs
  | [], _, [], h, _ => by simp [exactL] at h; exact h.symm
  | [], _, _ :: _, _, h => h.elim
  | _ :: _, _, [], _, h => h.elim
  | c :: r, l, y :: ys, h, h2 => by
    unfold exactL at h
    split at h
    · simp_all
    · rename_i x r' heq
      simp only [List.cons.injEq] at heq
      obtain ⟨rfl, rfl⟩ := heq
      simp only [Option.map_eq_some_iff] at h
      obtain ⟨l', hl, rfl⟩ := h
      have := exactL_ok hl h2.2
      subst this
      have h3 : y = x := h2.1
      rw [h3]
    · cases h
theorem exactL_mk {ρ : Nat → Value} {g : GHeap} : ∀ {l : List AV} {xs : List Value}, exactL l = some xs → All2 (CAv ρ g) l xs
  | [], xs, h => by simp [exactL] at h; subst h; trivial
  | c :: r, l, h => by
    unfold exactL at h
    split at h
    · simp_all
    · rename_i x r' heq
      simp only [List.cons.injEq] at heq
      obtain ⟨rfl, rfl⟩ := heq
      simp only [Option.map_eq_some_iff] at h
      obtain ⟨l', hl, rfl⟩ := h
      exact ⟨rfl, exactL_mk hl⟩
    · cases h
theorem exactRV_ok {ρ : Nat → Value} {g : GHeap} {r : RV} {x y : Value} (h : exactRV r = some x) (hy : CR ρ g r y) : y = x := by
  unfold exactRV at h
  split at h
  · simp only [Option.some.injEq] at h; subst h; exact hy
  · rename_i l
    simp only [Option.map_eq_some_iff] at h
    obtain ⟨xs, hl, rfl⟩ := h
    obtain ⟨ys, rfl, h2⟩ := hy
    rw [exactL_ok hl h2]
  · cases h
theorem exactRV_mk {ρ : Nat → Value} {g : GHeap} {r : RV} {x : Value} (h : exactRV r = some x) : CR ρ g r x := by
  unfold exactRV at h
  split at h
  · simp only [Option.some.injEq] at h; subst h; rfl
  · rename_i l
    simp only [Option.map_eq_some_iff] at h
    obtain ⟨xs, hl, rfl⟩ := h
    exact ⟨xs, rfl, exactL_mk hl⟩
  · cases h
end Go.Sx
