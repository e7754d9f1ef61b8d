/- The operations that make or write memory, and calls: what they do to a symbolic state, and that it is so. -/
import Derived.Test.YtpgpgangmkjhlaaSxD
namespace Go.Sx
set_option linter.unusedVariables false

def CA.has (id : Nat) : CA → Bool
  | .sl i => Nat.beq i id
  | .ptr i _ => Nat.beq i id
  | .pe i _ _ _ => Nat.beq i id
  | .fn _ ids => ids.any (Nat.beq · id)
  | .of _ i => Nat.beq i id
  | _ => false
def AV.has (id : Nat) : AV → Bool
  | .c a => a.has id
  | .agg cs => cs.any (CA.has id)
def RV.has (id : Nat) : RV → Bool
  | .o a => a.has id
  | .tup vs => vs.any (AV.has id)
def OB.has (id : Nat) : OB → Bool
  | .box _ cs => cs.any (CA.has id)
  | .row .. => false
  | .smap .. => false
  | .rows .. => false
def hasId {α : Type} (l : List (Nat × α)) (id : Nat) : Bool := l.any fun p => Nat.beq p.1 id
def delSlot (fr : List (Nat × RV)) (t : Nat) : List (Nat × RV) := fr.filter fun p => !Nat.beq p.1 t
def delId (fr : List (Nat × RV)) (id : Nat) : List (Nat × RV) := fr.filter fun p => !p.2.has id
def setOb (l : List (Nat × OB)) (id : Nat) (ob : OB) : List (Nat × OB) := l.map fun p => bif Nat.beq p.1 id then (id, ob) else p

/-- put a result into its slot -/
def St.put (S : St) (d : Option Nat) (rv : RV) : St :=
  match d with
  | some t => ⟨(t, rv) :: delSlot S.fr t, S.ob⟩
  | none => S
def dstOk (N : Nat) : Option Nat → Bool
  | some t => Nat.blt t N
  | none => true

theorem delSlot_mem {fr : List (Nat × RV)} {t : Nat} {p : Nat × RV} (h : p ∈ delSlot fr t) : p ∈ fr ∧ p.1 ≠ t := by
  unfold delSlot at h
  obtain ⟨h1, h2⟩ := List.mem_filter.1 h
  exact ⟨h1, fun e => by rw [e] at h2; simp at h2⟩

section
variable {E : Env} {S : St} {a : Act} {w : World} {ρ : Nat → Value} {g : GHeap}
theorem SatX.cls (h : SatX E S a w ρ g) {w' : World} (hc : Cls w w') : SatX E S a w' ρ g :=
  { h with
    gs := h.gs.cls hc
    ob := ⟨h.ob.ids, fun p hp => (h.ob.ok p hp).cls hc, h.ob.own, h.ob.apart, h.ob.ro⟩
    fw := h.fw.cls hc }
theorem SatX.put (h : SatX E S a w ρ g) {d : Option Nat} {rv : RV} {y : Value} (hd : dstOk E.N d = true) (hy : CR ρ g rv y) : SatX E (S.put d rv) (a.put d y) w ρ g := by
  cases d with
  | none => exact h
  | some t =>
    have ht : t < E.N := by simpa [dstOk] using hd
    refine ⟨by simp [Act.put, h.size], by simp [Act.put, h.defers], fun p hp => ?_, h.gs, h.gm, h.gn, h.ob, h.fw, h.pi⟩
    cases hp with
    | head => exact ⟨y, by simp [Act.put, h.size, ht], hy⟩
    | tail _ hp =>
      obtain ⟨h1, h2⟩ := delSlot_mem hp
      obtain ⟨z, hz, hc⟩ := h.fr p h1
      refine ⟨z, ?_, hc⟩
      simp only [Act.put]
      rw [Array.getElem?_setIfInBounds_ne (Ne.symm h2)]
      exact hz
theorem SatX.weak (h : SatX E S a w ρ g) {fr' : List (Nat × RV)} (hf : ∀ p ∈ fr', p ∈ S.fr) : SatX E ⟨fr', S.ob⟩ a w ρ g := { h with fr := fun p hp => h.fr p (hf p hp), ob := h.ob }

/-- a changed record of what the ids stand for: what does not mention the id stays -/
theorem CC.upd {ρ' : Nat → Value} {id : Nat} (hρ : ∀ i, i ≠ id → ρ' i = ρ i) : ∀ {c : CA} {y : Value}, c.has id = false → CC ρ g c y → CC ρ' g c y
  | .v _, _, _, h => h
  | .sl i, y, hn, h => by
    have : i ≠ id := fun e => by subst e; simp [CA.has] at hn
    show y = ρ' i ∧ _
    rw [hρ i this]; exact h
  | .ptr i off, y, hn, ⟨b, h1, h2⟩ => by
    have : i ≠ id := fun e => by subst e; simp [CA.has] at hn
    exact ⟨b, by rw [hρ i this]; exact h1, h2⟩
  | .pe i sz k off, y, hn, ⟨b, n, cap, h1, h2⟩ => by
    have : i ≠ id := fun e => by subst e; simp [CA.has] at hn
    exact ⟨b, n, cap, by rw [hρ i this]; exact h1, h2⟩
  | .rs _ _, _, _, h => h
  | .re _ _, _, _, h => h
  | .fn f ids, y, hn, ⟨bs, h1, h2⟩ => by
    refine ⟨bs, h1.imp' fun i hi b hb => ?_, h2⟩
    have : i ≠ id := fun e => by
      subst e
      simp only [CA.has, List.any_eq_false] at hn
      exact hn i hi (by simp)
    rw [hρ i this]; exact hb
  | .of F i, y, hn, h => by
    have : i ≠ id := fun e => by subst e; simp [CA.has] at hn
    show y = F (ρ' i) ∧ _
    rw [hρ i this]; exact h
theorem CAv.upd {ρ' : Nat → Value} {id : Nat} (hρ : ∀ i, i ≠ id → ρ' i = ρ i) {c : AV} {y : Value} (hn : c.has id = false) (h : CAv ρ g c y) : CAv ρ' g c y := by
  cases c with
  | c a => exact CC.upd hρ hn h
  | agg cs =>
    obtain ⟨ys, e, h2⟩ := h
    simp only [AV.has, List.any_eq_false] at hn
    exact ⟨ys, e, h2.imp' fun c hc b hb => CC.upd hρ (by simpa using hn c hc) hb⟩
theorem CR.upd {ρ' : Nat → Value} {id : Nat} (hρ : ∀ i, i ≠ id → ρ' i = ρ i) {c : RV} {y : Value} (hn : c.has id = false) (h : CR ρ g c y) : CR ρ' g c y := by
  cases c with
  | o a => exact CAv.upd hρ hn h
  | tup vs =>
    obtain ⟨ys, e, h2⟩ := h
    simp only [RV.has, List.any_eq_false] at hn
    exact ⟨ys, e, h2.imp' fun c hc b hb => CAv.upd hρ (by simpa using hn c hc) hb⟩
theorem ObOk.upd {ρ' : Nat → Value} {id : Nat} (hρ : ∀ i, i ≠ id → ρ' i = ρ i) {x : Value} {ob : OB} (hn : ob.has id = false) (h : ObOk ρ g w x ob) : ObOk ρ' g w x ob := by
  cases ob with
  | row e sz L => exact h
  | rows e szs D => exact h
  | smap k e D => exact h
  | box ty cs =>
    obtain ⟨b, ys, h1, h2, h3, h4⟩ := h
    simp only [OB.has, List.any_eq_false] at hn
    exact ⟨b, ys, h1, h2, h3.imp' fun c hc b hb => CC.upd hρ (by simpa using hn c hc) hb, h4⟩

def upd (ρ : Nat → Value) (id : Nat) (v : Value) : Nat → Value := fun i => if i = id then v else ρ i
theorem upd_ne (ρ : Nat → Value) (id : Nat) (v : Value) : ∀ i, i ≠ id → upd ρ id v i = ρ i := fun i h => by simp [upd, h]
@[simp] theorem upd_self (ρ : Nat → Value) (id : Nat) (v : Value) : upd ρ id v id = v := by simp [upd]

/-- what a fresh id asks: no object has it, none of the caller's, and no object mentions it -/
def freshId (pids : List Nat) (S : St) (id : Nat) : Bool := !hasId S.ob id && !pids.any (Nat.beq · id) && S.ob.all fun p => !p.2.has id
theorem hasId_false {α : Type} {l : List (Nat × α)} {id : Nat} (h : hasId l id = false) : ∀ p ∈ l, p.1 ≠ id := fun p hp e => by
  simp only [hasId, List.any_eq_false] at h
  exact h p hp (by rw [e]; simp)

/-- A new object in a new block. -/
theorem SatX.newOb (h : SatX E S a w ρ g) {id : Nat} (hid : freshId (E.pre.map (·.1)) S id = true) {w' : World} (hc : Cls w w') {x : Value} {b : Nat} (hb : blk x = some b ∨ blk x = none) (hbn : blk x = some b → w.heap.size ≤ b) {ob : OB} (hob : ob.has id = false)
    (hok : ObOk (upd ρ id x) g w' x ob) : SatX E ⟨delId S.fr id, (id, ob) :: S.ob⟩ a w' (upd ρ id x) g := by
  have hρ := upd_ne ρ id x
  simp only [freshId, Bool.and_eq_true, Bool.not_eq_true'] at hid
  obtain ⟨⟨h1, h2⟩, h3⟩ := hid
  have hne := hasId_false h1
  have hc' := h.cls hc
  have hblk : ∀ p ∈ S.ob, blk (upd ρ id x p.1) = blk (ρ p.1) := fun p hp => by rw [hρ _ (hne p hp)]
  have hold : ∀ p ∈ S.ob, ∀ k, blk (ρ p.1) = some k → k < w.heap.size := fun p hp k hk => by
    have := h.ob.ok p hp
    cases hpo : p.2 with
    | box ty cs =>
      rw [hpo] at this
      obtain ⟨b', ys, e1, e2, _⟩ := this
      rw [e1] at hk
      simp [blk] at hk
      subst hk
      exact heap_lt e2
    | smap k e D =>
      rw [hpo] at this
      obtain ⟨b', es, cl, e1, e2, _⟩ := this
      rw [e1] at hk
      simp [blk] at hk
      subst hk
      exact heap_lt e2
    | rows e szs D =>
      rw [hpo] at this
      obtain ⟨_, ⟨⟨_, r⟩, _⟩, _⟩ := this
      rcases r with ⟨e1, _⟩ | ⟨b', cap, cur, e1, _, e2, _⟩
      · rw [e1] at hk; simp [blk] at hk
      · rw [e1] at hk
        simp [blk] at hk
        subst hk
        exact heap_lt e2
    | row e sz L =>
      rw [hpo] at this
      obtain ⟨⟨_, r⟩, _⟩ := this
      rcases r with ⟨e1, _⟩ | ⟨b', cap, cur, e1, _, e2, _⟩
      · rw [e1] at hk; simp [blk] at hk
      · rw [e1] at hk
        simp [blk] at hk
        subst hk
        exact heap_lt e2
  have hnew : ∀ k, blk x = some k → w.heap.size ≤ k := fun k hk => by
    rcases hb with hb | hb
    · rw [hb] at hk; simp at hk; subst hk; exact hbn hb
    · rw [hb] at hk; cases hk
  refine ⟨h.size, h.defers, fun p hp => ?_, hc'.gs, h.gm, h.gn, ⟨?_, fun p hp => ?_, fun p hp k hk => ?_, fun p hp q hq hpq k hk => ?_, fun p hp k hk => ?_⟩, hc'.fw, fun p hp => ?_⟩
  · obtain ⟨e1, e2⟩ := List.mem_filter.1 hp
    obtain ⟨y, hy, hcr⟩ := h.fr p e1
    exact ⟨y, hy, CR.upd hρ (by simpa using e2) hcr⟩
  · simp only [List.map_cons, List.nodup_cons]
    exact ⟨fun hm => by obtain ⟨p, hp, e⟩ := List.mem_map.1 hm; exact hne p hp e, h.ob.ids⟩
  · cases hp with
    | head => simp only [upd_self]; exact hok
    | tail _ hp =>
      rw [hρ _ (hne p hp)]
      exact ObOk.upd hρ (by simpa using List.all_eq_true.1 h3 p hp) (hc'.ob.ok p hp)
  · cases hp with
    | head => simp only [upd_self] at hk; exact .inr (Nat.le_trans h.fw.size (hnew k hk))
    | tail _ hp => rw [hblk p hp] at hk; exact h.ob.own p hp k hk
  · cases hp with
    | head =>
      simp only [upd_self] at hk
      cases hq with
      | head => exact absurd rfl hpq
      | tail _ hq => rw [hblk q hq]; intro hk'; have := hold q hq k hk'; have := hnew k hk; omega
    | tail _ hp =>
      rw [hblk p hp] at hk
      cases hq with
      | head => simp only [upd_self]; intro hk'; have := hold p hp k hk; have := hnew k hk'; omega
      | tail _ hq => rw [hblk q hq]; exact h.ob.apart p hp q hq hpq k hk
  · cases hp with
    | head =>
      simp only [upd_self] at hk
      cases hgk : g k with
      | none => rfl
      | some c => have := h.gs.lt hgk; have := hnew k hk; omega
    | tail _ hp => rw [hblk p hp] at hk; exact h.ob.ro p hp k hk
  · have : p.1 ≠ id := fun e => by
      simp only [List.any_eq_false] at h2
      exact h2 p.1 (List.mem_map.2 ⟨p, hp, rfl⟩) (by rw [e]; simp)
    rw [hρ _ this]; exact h.pi p hp

theorem cls_alloc (w : World) (o : Obj) : Cls w (w.alloc o) := (RowKit.Below.refl _ _).alloc (Nat.le_refl _) o

/-- A box in a new block. -/
theorem SatX.newBox (h : SatX E S a w ρ g) {id : Nat} (hid : freshId (E.pre.map (·.1)) S id = true) {ty : TypeId} {cs : List CA} {ys : List Value} (hcs : All2 (CC ρ g) cs ys) (h1 : ∀ y ∈ ys, y.oneCell' = true) (hn : cs.any (CA.has id) = false) :
    SatX E ⟨delId S.fr id, (id, .box ty cs) :: S.ob⟩ a (w.alloc (.cells ys.toArray ty)) (upd ρ id (.pointer (some ⟨w.heap.size, 0, none⟩))) g := by
  refine h.newOb hid (cls_alloc w _) (b := w.heap.size) (.inl rfl) (fun _ => Nat.le_refl _) hn ⟨w.heap.size, ys, rfl, heap_alloc_new w _, ?_, h1⟩
  exact hcs.imp' fun c hc y hy => CC.upd (upd_ne ρ id _) (by simp only [List.any_eq_false] at hn; simpa using hn c hc) hy
/-- A row in a new block. -/
theorem SatX.newRow (h : SatX E S a w ρ g) {id : Nat} (hid : freshId (E.pre.map (·.1)) S id = true) {e : TypeId} {sz : Nat} {L : List (List Value)} (hL : ∀ cs ∈ L, cs.length = sz) (h1 : ∀ y ∈ L.flatten, y.oneCell' = true)
    {w' : World} (hc : Cls w w') {x : Value} (hx : blk x = none ∨ ∃ b, blk x = some b ∧ w.heap.size ≤ b) (hown : w'.ownsRow 0 e sz x L.length L.flatten) :
    SatX E ⟨delId S.fr id, (id, .row e sz L) :: S.ob⟩ a w' (upd ρ id x) g := by
  rcases hx with hx | ⟨b, hx, hb⟩
  · exact h.newOb hid hc (b := 0) (.inr hx) (fun e => by rw [hx] at e; cases e) rfl ⟨hown, hL, h1⟩
  · exact h.newOb hid hc (b := b) (.inl hx) (fun _ => hb) rfl ⟨hown, hL, h1⟩
end

theorem mem_setOb {l : List (Nat × OB)} {id : Nat} {ob : OB} {p : Nat × OB} (h : p ∈ setOb l id ob) : (p = (id, ob) ∧ ∃ q ∈ l, q.1 = id) ∨ (p ∈ l ∧ p.1 ≠ id) := by
  obtain ⟨q, hq, e⟩ := List.mem_map.1 h
  cases hb : Nat.beq q.1 id with
  | true => simp only [hb, cond_true] at e; exact .inl ⟨e.symm, q, hq, Nat.eq_of_beq_eq_true hb⟩
  | false => simp only [hb, cond_false] at e; subst e; exact .inr ⟨hq, fun e => by rw [e] at hb; simp at hb⟩
theorem setOb_ids (l : List (Nat × OB)) (id : Nat) (ob : OB) : (setOb l id ob).map (·.1) = l.map (·.1) := by
  unfold setOb
  rw [List.map_map]
  apply List.map_congr_left
  intro p _
  simp only [Function.comp]
  cases hb : Nat.beq p.1 id with
  | true => simp only [cond_true]; exact (Nat.eq_of_beq_eq_true hb).symm
  | false => rfl
section
variable {E : Env} {S : St} {a : Act} {w : World} {ρ : Nat → Value} {g : GHeap}
theorem obBlk_lt (h : SatX E S a w ρ g) : ∀ p ∈ S.ob, ∀ k, blk (ρ p.1) = some k → k < w.heap.size := fun p hp k hk => by
  have := h.ob.ok p hp
  cases hpo : p.2 with
  | box ty cs =>
    rw [hpo] at this
    obtain ⟨b', ys, e1, e2, _⟩ := this
    rw [e1] at hk
    simp [blk] at hk
    subst hk
    exact heap_lt e2
  | smap k e D =>
    rw [hpo] at this
    obtain ⟨b', es, cl, e1, e2, _⟩ := this
    rw [e1] at hk
    simp [blk] at hk
    subst hk
    exact heap_lt e2
  | rows e szs D =>
    rw [hpo] at this
    obtain ⟨_, ⟨⟨_, r⟩, _⟩, _⟩ := this
    rcases r with ⟨e1, _⟩ | ⟨b', cap, cur, e1, _, e2, _⟩
    · rw [e1] at hk; simp [blk] at hk
    · rw [e1] at hk
      simp [blk] at hk
      subst hk
      exact heap_lt e2
  | row e sz L =>
    rw [hpo] at this
    obtain ⟨⟨_, r⟩, _⟩ := this
    rcases r with ⟨e1, _⟩ | ⟨b', cap, cur, e1, _, e2, _⟩
    · rw [e1] at hk; simp [blk] at hk
    · rw [e1] at hk
      simp [blk] at hk
      subst hk
      exact heap_lt e2
theorem ObOk.other {w' : World} {x : Value} {ob : OB} (h : ObOk ρ g w x ob) (hb : ∀ k, blk x = some k → w'.heap[k]? = w.heap[k]?) : ObOk ρ g w' x ob := by
  cases ob with
  | box ty cs =>
    obtain ⟨b', ys, e1, e2, r⟩ := h
    exact ⟨b', ys, e1, by rw [hb b' (by rw [e1]; rfl)]; exact e2, r⟩
  | smap k e D =>
    obtain ⟨b', es, cl, e1, e2, r⟩ := h
    exact ⟨b', es, cl, e1, by rw [hb b' (by rw [e1]; rfl)]; exact e2, r⟩
  | row e sz L =>
    obtain ⟨⟨h0, r⟩, h2⟩ := h
    refine ⟨⟨h0, ?_⟩, h2⟩
    rcases r with r | ⟨b', cap, cur, e1, hz, e2, r⟩
    · exact .inl r
    · exact .inr ⟨b', cap, cur, e1, hz, by rw [hb b' (by rw [e1]; rfl)]; exact e2, r⟩
  | rows e szs D =>
    obtain ⟨ys, ⟨⟨h0, r⟩, h2⟩, h3⟩ := h
    refine ⟨ys, ⟨⟨h0, ?_⟩, h2⟩, h3⟩
    rcases r with r | ⟨b', cap, cur, e1, hz, e2, r⟩
    · exact .inl r
    · exact .inr ⟨b', cap, cur, e1, hz, by rw [hb b' (by rw [e1]; rfl)]; exact e2, r⟩

/-- The same objects, seen otherwise, or fewer of them. -/
theorem SatX.swapOb {fr : List (Nat × RV)} {l l' : List (Nat × OB)} (h : SatX E ⟨fr, l⟩ a w ρ g) (hk : (l'.map (·.1)).Nodup)
    (hm : ∀ p' ∈ l', ∃ p ∈ l, p.1 = p'.1 ∧ (ObOk ρ g w (ρ p.1) p.2 → ObOk ρ g w (ρ p'.1) p'.2)) : SatX E ⟨fr, l'⟩ a w ρ g := by
  refine { h with ob := ⟨hk, fun p' hp' => ?_, fun p' hp' k hb => ?_, fun p' hp' q' hq' hne k hb => ?_, fun p' hp' k hb => ?_⟩ }
  · obtain ⟨p, hp, e, hi⟩ := hm p' hp'
    exact hi (h.ob.ok p hp)
  · obtain ⟨p, hp, e, hi⟩ := hm p' hp'
    exact h.ob.own p hp k (by rw [e]; exact hb)
  · obtain ⟨p, hp, e, hi⟩ := hm p' hp'
    obtain ⟨q, hq, e2, _⟩ := hm q' hq'
    rw [← e2]
    exact h.ob.apart p hp q hq (by rw [e, e2]; exact hne) k (by rw [e]; exact hb)
  · obtain ⟨p, hp, e, hi⟩ := hm p' hp'
    exact h.ob.ro p hp k (by rw [e]; exact hb)

/-- One object is written: in its own block, nothing else turns. -/
theorem SatX.write (h : SatX E S a w ρ g) {id : Nat} {ob ob' : OB} (hob : look S.ob id = some ob) {w' : World} {b : Nat} (hb : blk (ρ id) = some b)
    (hos : w'.os = w.os) (htp : w'.tape = w.tape) (hout : w'.output = w.output) (hsz : w'.heap.size = w.heap.size) (hoth : ∀ k, k ≠ b → w'.heap[k]? = w.heap[k]?) (hok : ObOk ρ g w' (ρ id) ob') :
    SatX E ⟨S.fr, setOb S.ob id ob'⟩ a w' ρ g := by
  have hm := look_mem hob
  have hgb : g b = none := h.ob.ro _ hm b hb
  have hnb : ∀ p ∈ S.ob, p.1 ≠ id → ∀ k, blk (ρ p.1) = some k → k ≠ b := fun p hp hne k hk e => by
    subst e
    exact h.ob.apart p hp _ hm hne k hk hb
  refine ⟨h.size, h.defers, h.fr, fun k c hk => ?_, h.gm, h.gn, ⟨by rw [setOb_ids]; exact h.ob.ids, fun p hp => ?_, fun p hp k hk => ?_, fun p hp q hq hpq k hk => ?_, fun p hp k hk => ?_⟩, ?_, h.pi⟩
  · have : k ≠ b := fun e => by rw [e, hgb] at hk; cases hk
    obtain ⟨e, fr, he⟩ := h.gs k c hk
    exact ⟨e, fr, by rw [hoth k this]; exact he⟩
  · rcases mem_setOb hp with ⟨rfl, _⟩ | ⟨hp, hne⟩
    · exact hok
    · exact (h.ob.ok p hp).other fun k hk => hoth k (hnb p hp hne k hk)
  · rcases mem_setOb hp with ⟨rfl, _⟩ | ⟨hp, hne⟩
    · exact h.ob.own _ hm k hk
    · exact h.ob.own p hp k hk
  · rcases mem_setOb hp with ⟨rfl, _⟩ | ⟨hp, hne⟩
    · rcases mem_setOb hq with ⟨rfl, _⟩ | ⟨hq, hne'⟩
      · exact absurd rfl hpq
      · exact h.ob.apart _ hm q hq (Ne.symm hne') k hk
    · rcases mem_setOb hq with ⟨rfl, _⟩ | ⟨hq, hne'⟩
      · exact h.ob.apart p hp _ hm hne k hk
      · exact h.ob.apart p hp q hq hpq k hk
  · rcases mem_setOb hp with ⟨rfl, _⟩ | ⟨hp, hne⟩
    · exact h.ob.ro _ hm k hk
    · exact h.ob.ro p hp k hk
  · refine ⟨hos.trans h.fw.os, htp.trans h.fw.tape, hout.trans h.fw.output, by rw [hsz]; exact h.fw.size, fun k hk hn => ?_⟩
    have : k ≠ b := fun e => by
      subst e
      rcases h.ob.own _ hm k hb with h' | h'
      · exact hn h'
      · omega
    rw [hoth k this]
    exact h.fw.block k hk hn
end
end Go.Sx
