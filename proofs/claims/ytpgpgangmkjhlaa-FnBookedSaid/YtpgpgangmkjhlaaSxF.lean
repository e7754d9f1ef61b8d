/- The operations that make or write memory: evaluation and soundness. -/
import Derived.Test.YtpgpgangmkjhlaaSxE
import Derived.Lib.ReflectliteSwap
namespace Go.Sx
set_option linter.unusedVariables false

def oneAll (l : List Value) : Bool := l.all (·.oneCell')
/-- a value's cells -/
def cellsOf : AV → List CA
  | .c (.v (.agg ys)) => ys.toList.map .v
  | .c (.v (.tuple ys)) => [.v (.tuple ys)]
  | .c a => [a]
  | .agg cs => cs
def CA.one : CA → Bool
  | .v x => x.oneCell'
  | _ => true
def cellsV : RV → Option (List Value)
  | .o (.c (.v (.agg ys))) => some ys.toList
  | .o (.c (.v x)) => some [x]
  | _ => none
/-- the parts of a slice's literal, in order from k on, each of so many cells -/
def partsOf (S : St) (sz : Nat) : Nat → List (Nat × Operand) → Option (List (List Value))
  | _, [] => some []
  | k, (i, x) :: r => match (ev S x).bind cellsV with
    | some cs => optB (Nat.beq i k && Nat.beq cs.length sz && oneAll cs) ((partsOf S sz (k + 1) r).map (cs :: ·))
    | none => none
def rowOf (S : St) : RV → Option (Nat × List (List Value))
  | .o (.c (.rs sz L)) => some (sz, L)
  | .o (.c (.sl id)) => match look S.ob id with
    | some (.row _ sz L) => some (sz, L)
    | _ => none
  | _ => none
def takeIds (l : List (Nat × OB)) (ids : List Nat) : List (Nat × OB) := l.filter fun p => ids.any (Nat.beq · p.1)
def dropIds (l : List (Nat × OB)) (ids : List Nat) : List (Nat × OB) := l.filter fun p => !ids.any (Nat.beq · p.1)
/-- a cell whose fit does not hang on what is only read -/
def CA.free : CA → Bool
  | .rs _ _ => false
  | .re _ _ => false
  | _ => true
def AV.free : AV → Bool
  | .c a => a.free
  | .agg cs => cs.all CA.free
def RV.free : RV → Bool
  | .o a => a.free
  | .tup vs => vs.all AV.free
def OB.free : OB → Bool
  | .row .. => true
  | .smap .. => true
  | .rows .. => false
  | .box _ cs => cs.all CA.free
def aCA (al : Bool) (S : St) (pre : List Nat) : CA → Option CA
  | .sl id => bif pre.any (Nat.beq · id) || al then some (.sl id) else vCA S (.sl id)
  | c => some c
def aCAs (al : Bool) (S : St) (pre : List Nat) : List CA → Option (List CA)
  | [] => some []
  | a :: r => match aCA al S pre a, aCAs al S pre r with
    | some b, some l => some (b :: l)
    | _, _ => none
def aAV (al : Bool) (S : St) (pre : List Nat) : RV → Option AV
  | .o (.c a) => (aCA al S pre a).map .c
  | .o (.agg cs) => (aCAs al S pre cs).map .agg
  | .tup _ => none
def argsAV (al : Bool) (S : St) (pre : List Nat) : List Operand → Option (List AV)
  | [] => some []
  | x :: r => match (ev S x).bind (aAV al S pre), argsAV al S pre r with
    | some a, some l => some (a :: l)
    | _, _ => none

/-- the parts of a struct's literal, put into its cells -/
def fillC (P : Program) (S : St) (fs : Array Field) : List (Nat × Operand) → List CA → Option (List CA)
  | [], cs => some cs
  | (i, x) :: r, cs => match ev S x, fs[i]? with
    | some (.o av), some f => match P.info? f.type with
      | some fi => optB (Nat.beq (cellsOf av).length fi.size && Nat.ble (f.offset + fi.size) cs.length) (fillC P S fs r (cs.take f.offset ++ cellsOf av ++ cs.drop (f.offset + fi.size)))
      | none => none
    | _, _ => none

/-- F of a slice is a library's closure that swaps two of its elements, of so many cells -/
def SwOk (P : Program) (F : Value → Value) (sz : Nat) : Prop :=
  ∃ f e ie gS ag, (∀ s, F s = .func (.func f) #[] #[s, typeHandle P e]) ∧
    (∀ args W, (callFunc f args).run P W = ((Extern.ReflectliteSwapper.swap gS args).run P W).andThen fun v w' => .ok (.value v) w') ∧ P.info? e = some ie ∧ ie.size = sz ∧ tsh P e = some (ag, sz) ∧ (ag = false → sz = 1)
/-- what an operation of the second kind does -/
def eev (P : Program) (pids : List Nat) (N : Nat) (S : St) (o : Oper) (orc : List Orc) : Option (St × List Orc × Option Prop) :=
  match o.op with
  | .alloc ty => match orc, P.info? ty with
    | .new id :: orc', some i => match i.zero with
      | some z => optB (freshId pids S id && oneAll z.cells.toList && dstOk N o.dst)
          (some (St.put ⟨delId S.fr id, (id, .box ty (z.cells.toList.map .v)) :: S.ob⟩ o.dst (A (.ptr id 0)), orc', none))
      | none => none
    | _, _ => none
  | .box ty x => match orc, ev S x with
    | .new id :: orc', some (.o av) => let cs := cellsOf av
      optB (freshId pids S id && cs.all CA.one && !cs.any (CA.has id) && dstOk N o.dst)
        (some (St.put ⟨delId S.fr id, (id, .box ty cs) :: S.ob⟩ o.dst (A (.ptr id 0)), orc', none))
    | _, _ => none
  | .store t x y => match ev S x, ev S y, tsh P t with
    | some (.o (.c (.ptr id off))), some (.o av), some (_, n) => match look S.ob id with
      | some (.box ty cs) => let ds := cellsOf av
        optB (Nat.beq ds.length n && Nat.ble (off + n) cs.length && ds.all CA.one && o.dst.isNone)
          (some (⟨S.fr, setOb S.ob id (.box ty (cs.take off ++ ds ++ cs.drop (off + n)))⟩, orc, none))
      | _ => none
    | some (.o (.c (.pe id sz i off))), some rv, some (_, n) => match look S.ob id, cellsV rv, orc with
      | some (.row e sz' L), some ds, .ix cs :: .nm L' :: orc' =>
        optB (Nat.beq sz sz' && Nat.beq ds.length n && Nat.ble (off + n) cs.length && oneAll ds && o.dst.isNone)
          (some (⟨S.fr, setOb S.ob id (.row e sz L')⟩, orc', some (L[i]? = some cs ∧ L.set i (cs.take off ++ ds ++ cs.drop (off + n)) = L')))
      | _, _, _ => none
    | _, _, _ => none
  | .build t parts => match P.underlying t, P.info? t with
    | some (.struct fs), some i => match i.zero with
      | some z => match fillC P S fs parts.toList (z.cells.toList.map .v) with
        | some cs => optB (fs.toList.all (fun f => (P.info? f.type).isSome) && dstOk N o.dst) (some (S.put o.dst (.o (.agg cs)), orc, none))
        | none => none
      | none => none
    | _, _ => none
  | .makeMap t r => match orc, r, P.underlying t with
    | .new id :: orc', none, some (.map k e) => optB (freshId pids S id && dstOk N o.dst) (some (St.put ⟨delId S.fr id, (id, .smap k e []) :: S.ob⟩ o.dst (A (.sl id)), orc', none))
    | _, _, _ => none
  | .mapUpdate t m x y => match ev S m, ev S x, ev S y with
    | some (.o (.c (.sl id))), some (.o (.c (.v (.string s)))), some (.o (.c (.v (.bool true)))) => match look S.ob id, P.underlying t with
      | some (.smap k e D), some (.map k' e') => match P.underlying k' with
        | some .string => optB (Nat.beq k k' && Nat.beq e e' && o.dst.isNone) (some (⟨S.fr, setOb S.ob id (.smap k e (putB s D))⟩, orc, none))
        | _ => none
      | _, _ => none
    | _, _, _ => none
  | .buildSlice t len parts => match orc, P.underlying t with
    | .new id :: orc', some (.slice e) => match P.info? e with
      | some i => match i.zero, partsOf S i.size 0 parts.toList with
        | some z, some L => optB (freshId pids S id && Nat.beq L.length len && Nat.beq z.cells.size i.size && Nat.ble (len * i.size) 16777216 && Nat.ble 1 i.size && dstOk N o.dst)
            (some (St.put ⟨delId S.fr id, (id, .row e i.size L) :: S.ob⟩ o.dst (A (.sl id)), orc', none))
        | some z, none => match parts.toList with
          | [(0, .tmp t0)] => match look S.fr t0 with
            | some (.o (.c (.rs szs L))) => optB (freshId pids S id && Nat.beq len 1 && Nat.beq z.cells.size i.size && Nat.beq i.size 1 && dstOk N o.dst)
                (some (St.put ⟨delId S.fr id, (id, .rows e szs [L]) :: S.ob⟩ o.dst (A (.sl id)), orc', none))
            | _ => none
          | _ => none
        | _, _ => none
      | none => none
    | _, _ => none
  | .makeSlice t l c => match orc, P.underlying t, ev S l, ev S c with
    | .new id :: .nm L' :: orc', some (.slice e), some (.o (.c (.v (.int _ n)))), some (.o (.c (.v (.int _ m)))) => match P.info? e with
      | some i => match i.zero with
        | some z => optB (freshId pids S id && Nat.beq z.cells.size i.size && oneAll z.cells.toList && Nat.ble 1 i.size && dstOk N o.dst)
            (some (St.put ⟨delId S.fr id, (id, .row e i.size L') :: S.ob⟩ o.dst (A (.sl id)), orc', some (n = m ∧ 0 ≤ n ∧ (i.bytes : Int) * n ≤ 281474976710656 ∧ n ≤ 9223372036854775807 ∧ List.replicate n.toNat z.cells.toList = L')))
        | none => none
      | none => none
    | _, _, _, _ => none
  | .slice t x lo hi mx => match mx, lo, ev S x, (match hi with | some h => (ev S h).bind exactR | none => none), orc with
    | none, none, some (.o (.c (.sl id))), some (.int _ h), .new id2 :: .nm L' :: orc' => match look S.ob id, sliceSz P t with
      | some (.row e sz L), some sz' => optB (Nat.beq sz' sz && freshId pids ⟨S.fr, dropIds S.ob [id]⟩ id2 && dstOk N o.dst)
          (some (St.put ⟨delId S.fr id2, [(id2, .row e sz L')] ++ dropIds S.ob [id]⟩ o.dst (A (.sl id2)), orc', some (0 ≤ h ∧ h ≤ L.length ∧ L.take h.toNat = L')))
      | _, _ => none
    | _, _, _, _, _ => none
  | .call c => match c.callee, c.args.toList, orc with
    | .builtin .append, [x, y], .new id2 :: .nm L' :: orc' => match c.argTypes.toList, ev S x, (ev S y).bind (rowOf S) with
      | [t, t'], some (.o (.c (.sl id))), some (szy, M) => match look S.ob id, P.underlying t with
        | some (.row e sz L), some (.slice e') => match P.info? e with
          | some i => match i.zero with
            | some z => optB (Nat.beq t t' && Nat.beq e e' && Nat.beq szy sz && Nat.beq sz i.size && Nat.beq z.cells.size sz && Nat.ble 1 sz && freshId pids ⟨S.fr, dropIds S.ob [id]⟩ id2 && dstOk N o.dst)
                (some (St.put ⟨delId S.fr id2, [(id2, .row e sz L')] ++ dropIds S.ob [id]⟩ o.dst (A (.sl id2)), orc', some (L.length + M.length ≤ maxLen ∧ (L.length + M.length) * i.bytes ≤ 140737488355328 ∧ L ++ M = L')))
            | none => none
          | none => none
        | _, _ => none
      | _, _, _ => none
    | .builtin .append, [x, y], .new id2 :: .nd D' :: orc' => match c.argTypes.toList, ev S x, ev S y with
      | [t, t'], some (.o (.c (.sl id))), some (.o (.c (.sl id1))) => match look S.ob id, look S.ob id1, P.underlying t with
        | some (.rows e szs D), some (.rows e1 szs1 D1), some (.slice e') => match P.info? e with
          | some i => match i.zero with
            | some z => optB (Nat.beq t t' && Nat.beq e e' && Nat.beq szs szs1 && Nat.beq i.size 1 && Nat.beq z.cells.size 1 && !Nat.beq id id1 && freshId pids ⟨S.fr, dropIds S.ob [id, id1]⟩ id2 && dstOk N o.dst)
                (some (St.put ⟨delId S.fr id2, (id2, .rows e szs D') :: dropIds S.ob [id, id1]⟩ o.dst (A (.sl id2)), orc', some (D.length + D1.length ≤ maxLen ∧ (D.length + D1.length) * i.bytes ≤ 140737488355328 ∧ D ++ D1 = D')))
            | none => none
          | none => none
        | _, _, _ => none
      | _, _, _ => none
    | .builtin .append, [x, y], .ln k :: .ln l :: .new id2 :: .nm L' :: orc' => match c.argTypes.toList, ev S x, ev S y with
      | [t, t'], some (.o (.c (.of F id))), some (.o (.c (.of G id'))) => match look S.ob id, P.underlying t with
        | some (.row e sz L), some (.slice e') => match P.info? e with
          | some i => match i.zero with
            | some z => optB (Nat.beq id id' && Nat.beq t t' && Nat.beq e e' && Nat.beq sz i.size && Nat.beq z.cells.size sz && Nat.ble 1 sz && freshId pids ⟨S.fr, dropIds S.ob [id]⟩ id2 && dstOk N o.dst)
                (some (St.put ⟨delId S.fr id2, [(id2, .row e sz L')] ++ dropIds S.ob [id]⟩ o.dst (A (.sl id2)), orc', some (F = preF k ∧ G = sufF sz l ∧ k ≤ L.length ∧ l ≤ L.length ∧ L.length + L.length ≤ maxLen ∧ (L.length + L.length) * i.bytes ≤ 140737488355328 ∧ L.take k ++ L.drop l = L')))
            | none => none
          | none => none
        | _, _ => none
      | _, _, _ => none
    | .value (.func f), args, .call al pre res pre' new :: orc' => match argsAV al S pre args, P.funcs[f]? with
      | some avs, some fn =>
        let obs := takeIds S.ob pre
        let rest := dropIds S.ob pre
        optB (pre'.all (fun p => obs.any fun q => Nat.beq p.1 q.1) && fn.body.isSome && !(fn.name == "runtime.NumGoroutine") && dstOk N o.dst && (al || (res.free && pre'.all (fun p => p.2.free) && new.all (fun p => p.2.free))) && new.all (fun p => freshId pids ⟨S.fr, S.ob⟩ p.1 && rest.all (fun q => !q.2.has p.1)))
          (some (St.put ⟨new.foldl (fun fr p => delId fr p.1) S.fr, pre' ++ new ++ rest⟩ o.dst res, orc', some (Con P f avs obs res pre' new ∧ pre = pre)))
      | _, _ => none
    | .value (.tmp t), args, .call al pre res pre' new :: orc' => match look S.fr t with
      | some (.o (.c (.fn f ids))) => match argsAV al S pre args, P.funcs[f]? with
        | some avs, some fn =>
          let obs := takeIds S.ob pre
          let rest := dropIds S.ob pre
          optB (pre'.all (fun p => obs.any fun q => Nat.beq p.1 q.1) && fn.body.isSome && !(fn.name == "runtime.NumGoroutine") && dstOk N o.dst && (al || (res.free && pre'.all (fun p => p.2.free) && new.all (fun p => p.2.free))) && new.all (fun p => freshId pids ⟨S.fr, S.ob⟩ p.1 && rest.all (fun q => !q.2.has p.1)))
            (some (St.put ⟨new.foldl (fun fr p => delId fr p.1) S.fr, pre' ++ new ++ rest⟩ o.dst res, orc', some (Con P f (avs ++ ids.map fun i => .c (.ptr i 0)) obs res pre' new ∧ pre = pre)))
        | _, _ => none
      | _ => none
    | .value (.tmp t), [x, y], .ix cs :: .ix ds :: .nm L' :: orc' => match look S.fr t, ev S x, ev S y with
      | some (.o (.c (.of F id))), some (.o (.c (.v (.int .i64 i)))), some (.o (.c (.v (.int .i64 j)))) => match look S.ob id with
        | some (.row e sz L) => optB (dstOk N o.dst) (some (St.put ⟨S.fr, setOb S.ob id (.row e sz L')⟩ o.dst (.tup []), orc', some (SwOk P F sz ∧ 0 ≤ i ∧ 0 ≤ j ∧ L[i.toNat]? = some cs ∧ L[j.toNat]? = some ds ∧ (L.set i.toNat ds).set j.toNat cs = L')))
        | _ => none
      | _, _, _ => none
    | _, _, _ => none
  | _ => none
end Go.Sx
