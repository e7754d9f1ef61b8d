/- Other ways to see one state: what is forgotten, renamed, or only read from here on. -/
import Derived.Test.YtpgpgangmkjhlaaSxK
namespace Go.Sx
set_option linter.unusedVariables false

def nodupB : List Nat → Bool
  | [] => true
  | i :: r => !r.any (Nat.beq · i) && nodupB r
theorem nodupB_ok : ∀ {l : List Nat}, nodupB l = true → l.Nodup
  | [], _ => List.nodup_nil
  | i :: r, h => by
    simp only [nodupB, Bool.and_eq_true, Bool.not_eq_true', List.any_eq_false] at h
    exact List.nodup_cons.2 ⟨fun hm => h.1 i hm (by simp), nodupB_ok h.2⟩
def pick {α : Type} (l : List (Nat × α)) : List Nat → List (Nat × α)
  | [] => []
  | t :: r => match look l t with
    | some a => (t, a) :: pick l r
    | none => pick l r
theorem pick_mem {α : Type} {l : List (Nat × α)} : ∀ {ts : List Nat} {p : Nat × α}, p ∈ pick l ts → p ∈ l ∧ p.1 ∈ ts
  | [], _, h => by cases h
  | t :: r, p, h => by
    simp only [pick] at h
    split at h
    · rename_i a ha
      cases h with
      | head => exact ⟨look_mem ha, by simp⟩
      | tail _ h => exact ⟨(pick_mem h).1, List.mem_cons_of_mem _ (pick_mem h).2⟩
    · exact ⟨(pick_mem h).1, List.mem_cons_of_mem _ (pick_mem h).2⟩
theorem pick_nodup {α : Type} {l : List (Nat × α)} : ∀ {ts : List Nat}, ts.Nodup → ((pick l ts).map (·.1)).Nodup
  | [], _ => List.nodup_nil
  | t :: r, h => by
    obtain ⟨h1, h2⟩ := List.nodup_cons.1 h
    simp only [pick]
    split
    · simp only [List.map_cons]
      exact List.nodup_cons.2 ⟨fun hm => by obtain ⟨p, hp, e⟩ := List.mem_map.1 hm; exact h1 (e ▸ (pick_mem hp).2), pick_nodup h2⟩
    · exact pick_nodup h2
def St.keep (S : St) (live ids : List Nat) : St := ⟨pick S.fr live, pick S.ob ids⟩

def CA.fz (id sz : Nat) (L : List (List Value)) : CA → CA
  | .sl i => bif Nat.beq i id then .rs sz L else .sl i
  | c => c
def AV.fz (id sz : Nat) (L : List (List Value)) : AV → AV
  | .c a => .c (a.fz id sz L)
  | .agg cs => .agg (cs.map (CA.fz id sz L))
def RV.fz (id sz : Nat) (L : List (List Value)) : RV → RV
  | .o a => .o (a.fz id sz L)
  | .tup vs => .tup (vs.map (AV.fz id sz L))
def OB.fz (id sz : Nat) (L : List (List Value)) : OB → OB
  | .box ty cs => .box ty (cs.map (CA.fz id sz L))
  | o => o
/-- from here on the row is only read -/
def St.fz (S : St) (id : Nat) : St :=
  match look S.ob id with
  | some (.row _ sz L) => ⟨S.fr.map fun p => (p.1, p.2.fz id sz L), (dropIds S.ob [id]).map fun p => (p.1, p.2.fz id sz L)⟩
  | _ => S

def swp (i j x : Nat) : Nat := bif Nat.beq x i then j else bif Nat.beq x j then i else x
theorem swp_swp (i j x : Nat) : swp i j (swp i j x) = x := by
  unfold swp
  cases h1 : Nat.beq x i with
  | true =>
    have := Nat.eq_of_beq_eq_true h1
    subst this
    simp only [cond_true]
    cases h2 : Nat.beq j x with
    | true => have := Nat.eq_of_beq_eq_true h2; simp [this]
    | false => simp
  | false =>
    simp only [cond_false]
    cases h2 : Nat.beq x j with
    | true => have := Nat.eq_of_beq_eq_true h2; subst this; simp
    | false => simp [h1, h2]
def CA.ren (σ : Nat → Nat) : CA → CA
  | .sl i => .sl (σ i)
  | .ptr i off => .ptr (σ i) off
  | .pe i sz k off => .pe (σ i) sz k off
  | .fn f ids => .fn f (ids.map σ)
  | .of F i => .of F (σ i)
  | c => c
def AV.ren (σ : Nat → Nat) : AV → AV
  | .c a => .c (a.ren σ)
  | .agg cs => .agg (cs.map (CA.ren σ))
def RV.ren (σ : Nat → Nat) : RV → RV
  | .o a => .o (a.ren σ)
  | .tup vs => .tup (vs.map (AV.ren σ))
def OB.ren (σ : Nat → Nat) : OB → OB
  | .box ty cs => .box ty (cs.map (CA.ren σ))
  | o => o
def St.ren (S : St) (σ : Nat → Nat) : St := ⟨S.fr.map fun p => (p.1, p.2.ren σ), S.ob.map fun p => (σ p.1, p.2.ren σ)⟩
/-- another way to see the same state -/
def adj1 (pids : List Nat) (S : St) : Adj → Option St
  | .fz id => match look S.ob id with
    | some (.row ..) => some (S.fz id)
    | _ => none
  | .sw i j => optB (!pids.any (Nat.beq · i) && !pids.any (Nat.beq · j)) (some (S.ren (swp i j)))
  | .mv i j => optB (freshId pids S j) (some (St.ren ⟨delId S.fr j, S.ob⟩ (swp i j)))
  | .nl t id e sz => match look S.fr t with
    | some (.o (.c (.v (.slice none 0 0)))) => optB (freshId pids S id) (some ⟨(t, A (.sl id)) :: delSlot (delId S.fr id) t, (id, .row e sz []) :: S.ob⟩)
    | _ => none
  | .nr t sz => match look S.fr t with
    | some (.o (.c (.v (.slice none 0 0)))) => some ⟨(t, A (.rs sz [])) :: delSlot S.fr t, S.ob⟩
    | _ => none
  | .nb bid j id e sz => match look S.ob bid with
    | some (.box ty cs) => match cs[j]? with
      | some (.v (.slice none 0 0)) => optB (freshId pids S id && !Nat.beq id bid) (some ⟨delId S.fr id, setOb ((id, .row e sz []) :: S.ob) bid (.box ty (cs.set j (.sl id)))⟩)
      | _ => none
    | _ => none
  | .na t j id e sz => match look S.fr t with
    | some (.o (.agg cs)) => match cs[j]? with
      | some (.v (.slice none 0 0)) => optB (freshId pids S id && !cs.any (CA.has id)) (some ⟨(t, .o (.agg (cs.set j (.sl id)))) :: delSlot (delId S.fr id) t, (id, .row e sz []) :: S.ob⟩)
      | _ => none
    | _ => none
  | .keep live ids => optB (nodupB ids) (some (S.keep live ids))
  | .rw id szs => match look S.ob id with
    | some (.row e sz []) => optB (Nat.beq sz 1) (some ⟨S.fr, setOb S.ob id (.rows e szs [])⟩)
    | _ => none
def adjs (pids : List Nat) (S : St) : List Adj → Option St
  | [] => some S
  | x :: r => match adj1 pids S x with
    | some S' => adjs pids S' r
    | none => none

section
variable {E : Env} {S : St} {a : Act} {w : World} {ρ : Nat → Value} {g : GHeap}
theorem SatX.keep (h : SatX E S a w ρ g) {live ids : List Nat} (hn : nodupB ids = true) : SatX E (S.keep live ids) a w ρ g :=
  { h with
    fr := fun p hp => h.fr p (pick_mem hp).1
    ob := ⟨pick_nodup (nodupB_ok hn), fun p hp => h.ob.ok p (pick_mem hp).1, fun p hp => h.ob.own p (pick_mem hp).1, fun p hp q hq => h.ob.apart p (pick_mem hp).1 q (pick_mem hq).1, fun p hp => h.ob.ro p (pick_mem hp).1⟩ }

theorem CC.ren {σ : Nat → Nat} (hσ : ∀ i, σ (σ i) = i) : ∀ {c : CA} {y : Value}, CC ρ g c y → CC (fun i => ρ (σ i)) g (c.ren σ) y
  | .v _, _, h => h
  | .sl i, y, h => by show y = ρ (σ (σ i)) ∧ _; rw [hσ]; exact h
  | .ptr i off, y, ⟨b, h1, h2⟩ => ⟨b, by show ρ (σ (σ i)) = _; rw [hσ]; exact h1, h2⟩
  | .pe i sz k off, y, ⟨b, n, cap, h1, h2⟩ => ⟨b, n, cap, by show ρ (σ (σ i)) = _; rw [hσ]; exact h1, h2⟩
  | .rs _ _, _, h => h
  | .re _ _, _, h => h
  | .fn f ids, y, ⟨bs, h1, h2⟩ => ⟨bs, All2.map_left (h1.imp fun i b hb => by show ρ (σ (σ i)) = _; rw [hσ]; exact hb), h2⟩
  | .of F i, y, h => by show y = F (ρ (σ (σ i))) ∧ _; rw [hσ]; exact h
theorem CAv.ren {σ : Nat → Nat} (hσ : ∀ i, σ (σ i) = i) {c : AV} {y : Value} (h : CAv ρ g c y) : CAv (fun i => ρ (σ i)) g (c.ren σ) y := by
  cases c with
  | c a => exact CC.ren hσ h
  | agg cs => obtain ⟨ys, e, h2⟩ := h; exact ⟨ys, e, All2.map_left (h2.imp fun _ _ => CC.ren hσ)⟩
theorem CR.ren {σ : Nat → Nat} (hσ : ∀ i, σ (σ i) = i) {c : RV} {y : Value} (h : CR ρ g c y) : CR (fun i => ρ (σ i)) g (c.ren σ) y := by
  cases c with
  | o a => exact CAv.ren hσ h
  | tup vs => obtain ⟨ys, e, h2⟩ := h; exact ⟨ys, e, All2.map_left (h2.imp fun _ _ => CAv.ren hσ)⟩
theorem ObOk.ren {σ : Nat → Nat} (hσ : ∀ i, σ (σ i) = i) {x : Value} {ob : OB} (h : ObOk ρ g w x ob) : ObOk (fun i => ρ (σ i)) g w x (ob.ren σ) := by
  cases ob with
  | row e sz L => exact h
  | smap k e D => exact h
  | rows e szs D => exact h
  | box ty cs => obtain ⟨b, ys, h1, h2, h3, h4⟩ := h; exact ⟨b, ys, h1, h2, All2.map_left (h3.imp fun _ _ => CC.ren hσ), h4⟩
theorem SatX.ren (h : SatX E S a w ρ g) {σ : Nat → Nat} (hσ : ∀ i, σ (σ i) = i) (hpi : ∀ p ∈ E.pre, σ p.1 = p.1) : SatX E (S.ren σ) a w (fun i => ρ (σ i)) g := by
  have hinj : ∀ i j, σ i = σ j → i = j := fun i j e => by rw [← hσ i, ← hσ j, e]
  refine ⟨h.size, h.defers, fun p hp => ?_, h.gs, h.gm, h.gn, ⟨?_, fun p hp => ?_, fun p hp k hk => ?_, fun p hp q hq hpq k hk => ?_, fun p hp k hk => ?_⟩, h.fw, fun p hp => by rw [hpi p hp]; exact h.pi p hp⟩
  · obtain ⟨q, hq, rfl⟩ := List.mem_map.1 hp
    obtain ⟨y, hy, hc⟩ := h.fr q hq
    exact ⟨y, hy, CR.ren hσ hc⟩
  · have : (S.ren σ).ob.map (·.1) = (S.ob.map (·.1)).map σ := by simp [St.ren, List.map_map, Function.comp_def]
    rw [this]
    exact List.pairwise_map.2 (List.Pairwise.imp (fun hne e => hne (hinj _ _ e)) h.ob.ids)
  all_goals obtain ⟨p', hp', rfl⟩ := List.mem_map.1 hp
  · simp only [hσ]; exact ObOk.ren hσ (h.ob.ok p' hp')
  · simp only [hσ] at hk; exact h.ob.own p' hp' k hk
  · obtain ⟨q', hq', rfl⟩ := List.mem_map.1 hq
    simp only [hσ] at hk ⊢
    exact h.ob.apart p' hp' q' hq' (fun e => hpq (by rw [e])) k hk
  · simp only [hσ] at hk; exact h.ob.ro p' hp' k hk
/-- a new name for an object: both names tell the same -/
theorem SatX.mv (h : SatX E S a w ρ g) {i j : Nat} (hj : freshId (E.pre.map (·.1)) S j = true) : SatX E (St.ren ⟨delId S.fr j, S.ob⟩ (swp i j)) a w (Sx.upd ρ j (ρ i)) g := by
  obtain ⟨f1, f2, f3⟩ := freshId_spec hj
  have hσ := swp_swp i j
  have hinj : ∀ x y, swp i j x = swp i j y → x = y := fun x y e => by rw [← hσ x, ← hσ y, e]
  have hρ : (fun k => Sx.upd ρ j (ρ i) (swp i j k)) = Sx.upd ρ j (ρ i) := by
    funext k
    unfold swp
    cases h1 : Nat.beq k i with
    | true =>
      have := Nat.eq_of_beq_eq_true h1
      subst this
      simp only [cond_true]
      unfold Sx.upd
      by_cases hkj : k = j <;> simp [hkj]
    | false =>
      simp only [cond_false]
      cases h2 : Nat.beq k j with
      | true =>
        have := Nat.eq_of_beq_eq_true h2
        subst this
        simp only [cond_true]
        unfold Sx.upd
        by_cases hki : i = k <;> simp [hki]
      | false => rfl
  have hup : ∀ k, k ≠ j → Sx.upd ρ j (ρ i) k = ρ k := fun k hk => upd_ne ρ j _ k hk
  have hval : ∀ p ∈ S.ob, Sx.upd ρ j (ρ i) (swp i j p.1) = ρ p.1 := fun p hp => by
    rw [congrFun hρ p.1]; exact hup _ (f1 p hp)
  refine ⟨h.size, h.defers, fun p hp => ?_, h.gs, h.gm, h.gn, ⟨?_, fun p hp => ?_, fun p hp k hk => ?_, fun p hp q hq hpq k hk => ?_, fun p hp k hk => ?_⟩, h.fw, fun p hp => (hup _ fun e => f2 (e ▸ List.mem_map.2 ⟨p, hp, rfl⟩)).trans (h.pi p hp)⟩
  · obtain ⟨q, hq, rfl⟩ := List.mem_map.1 hp
    obtain ⟨h1, h2⟩ := List.mem_filter.1 hq
    obtain ⟨y, hy, hc⟩ := h.fr q h1
    refine ⟨y, hy, ?_⟩
    have := CR.ren hσ (CR.upd hup (by simpa using h2) hc)
    rwa [hρ] at this
  · have : (St.ren ⟨delId S.fr j, S.ob⟩ (swp i j)).ob.map (·.1) = (S.ob.map (·.1)).map (swp i j) := by simp [St.ren, List.map_map, Function.comp_def]
    rw [this]
    exact List.pairwise_map.2 (List.Pairwise.imp (fun hne e => hne (hinj _ _ e)) h.ob.ids)
  all_goals obtain ⟨p', hp', rfl⟩ := List.mem_map.1 hp
  · simp only [hval p' hp']
    have := ObOk.ren hσ (ObOk.upd hup (f3 p' hp') (h.ob.ok p' hp'))
    rwa [hρ] at this
  · simp only [hval p' hp'] at hk; exact h.ob.own p' hp' k hk
  · obtain ⟨q', hq', rfl⟩ := List.mem_map.1 hq
    simp only [hval p' hp'] at hk
    simp only [hval q' hq']
    exact h.ob.apart p' hp' q' hq' (fun e => hpq (by rw [e])) k hk
  · simp only [hval p' hp'] at hk; exact h.ob.ro p' hp' k hk
theorem SatX.fz (h : SatX E S a w ρ g) (id : Nat) : Sat E (S.fz id) a w := by
  unfold St.fz
  split
  · rename_i e sz L hob
    have hm := look_mem hob
    have hok := h.ob.ok _ hm
    obtain ⟨v1, v2, v3⟩ := row_view hok
    let g' : GHeap := fun b => by classical exact if blk (ρ id) = some b then gAll w b else g b
    have hgg : ∀ b c, g b = some c → g' b = some c := fun b c hb => by
      show (if blk (ρ id) = some b then gAll w b else g b) = some c
      split
      · exact h.gs.all hb
      · exact hb
    have hg' : ∀ b c, g' b = some c → g b = some c ∨ (blk (ρ id) = some b ∧ gAll w b = some c) := fun b c hb => by
      have hb : (if blk (ρ id) = some b then gAll w b else g b) = some c := hb
      split at hb
      · exact .inr ⟨by assumption, hb⟩
      · exact .inl hb
    have hrow : RsOk g' sz L (ρ id) := by
      refine ⟨v1, v2, v3.imp (fun h => h) fun ⟨b, o, cap, c, e1, e2, r⟩ => ⟨b, o, cap, c, e1, ?_, r⟩⟩
      have e1' : ρ id = .slice (some ⟨b, o, none⟩) L.length cap := e1
      show (if blk (ρ id) = some b then gAll w b else g b) = some c
      rw [if_pos (by rw [e1']; rfl)]; exact e2
    have hcc : ∀ {c : CA} {y : Value}, CC ρ g c y → CC ρ g' (c.fz id sz L) y := fun {c y} hc => by
      cases c with
      | sl i =>
        simp only [CA.fz]
        cases hb : Nat.beq i id with
        | true =>
          have := Nat.eq_of_beq_eq_true hb
          subst this
          simp only [cond_true]
          show RsOk g' sz L y
          rw [hc.1]; exact hrow
        | false => exact hc
      | _ => exact CC.mono hgg hc
    have hav : ∀ {c : AV} {y : Value}, CAv ρ g c y → CAv ρ g' (c.fz id sz L) y := fun {c y} hc => by
      cases c with
      | c a => exact hcc hc
      | agg cs => obtain ⟨ys, e, h2⟩ := hc; exact ⟨ys, e, All2.map_left (h2.imp fun _ _ => hcc)⟩
    have hrv : ∀ {c : RV} {y : Value}, CR ρ g c y → CR ρ g' (c.fz id sz L) y := fun {c y} hc => by
      cases c with
      | o a => exact hav hc
      | tup vs => obtain ⟨ys, e, h2⟩ := hc; exact ⟨ys, e, All2.map_left (h2.imp fun _ _ => hav)⟩
    have hids : ((dropIds S.ob [id]).map fun p => (p.1, p.2.fz id sz L)).map (·.1) = (dropIds S.ob [id]).map (·.1) := by simp [List.map_map, Function.comp_def]
    refine ⟨ρ, g', h.size, h.defers, fun p hp => ?_, fun b c hb => ?_, ⟨fun b c hb => hgg b c (h.gm.1 b c hb), h.gm.2⟩, fun b c hb => ?_, ⟨by rw [hids]; exact nodup_map_filter h.ob.ids, fun p hp => ?_, fun p hp k hk => ?_, fun p hp q hq hpq k hk => ?_, fun p hp k hk => ?_⟩, h.fw, h.pi⟩
    · obtain ⟨q, hq, rfl⟩ := List.mem_map.1 hp
      obtain ⟨y, hy, hc⟩ := h.fr q hq
      exact ⟨y, hy, hrv hc⟩
    · rcases hg' b c hb with h1 | ⟨_, h1⟩
      · exact h.gs b c h1
      · exact gAll_sub w b c h1
    · rcases hg' b c hb with h1 | ⟨h1, _⟩
      · exact h.gn b c h1
      · exact .inr (h.ob.own _ hm b h1)
    all_goals
      obtain ⟨p', hp', rfl⟩ := List.mem_map.1 hp
      obtain ⟨hp1, hp2⟩ := mem_dropIds hp'
    · have := h.ob.ok p' hp1
      show ObOk ρ g' w (ρ p'.1) (p'.2.fz id sz L)
      cases ho : p'.2 with
      | row e' sz' L' => rw [ho] at this; exact this
      | smap k' e' D' => rw [ho] at this; exact this
      | rows e' szs' D' =>
        rw [ho] at this
        obtain ⟨ys, h1, h2⟩ := this
        exact ⟨ys, h1, h2.imp fun L y hy => (CC.mono (ρ := ρ) (g := g) (g' := g') hgg (a := .rs szs' L) hy : CC ρ g' (.rs szs' L) y)⟩
      | box ty cs =>
        rw [ho] at this
        obtain ⟨b, ys, h1, h2, h3, h4⟩ := this
        exact ⟨b, ys, h1, h2, All2.map_left (h3.imp fun _ _ => hcc), h4⟩
    · exact h.ob.own p' hp1 k hk
    · obtain ⟨q', hq', rfl⟩ := List.mem_map.1 hq
      exact h.ob.apart p' hp1 q' (mem_dropIds hq').1 hpq k hk
    · cases hgk : g' k with
      | none => rfl
      | some c =>
        rcases hg' k c hgk with h1 | ⟨h1, _⟩
        · rw [h.ob.ro p' hp1 k hk] at h1; cases h1
        · exact absurd h1 (h.ob.apart p' hp1 _ hm (Ne.symm (hp2 id (by simp))) k hk)
  · exact ⟨ρ, g, h⟩
theorem Sat.adj1 {S S' : St} {x : Adj} (h : Sat E S a w) (hx : Sx.adj1 (E.pre.map (·.1)) S x = some S') : Sat E S' a w := by
  obtain ⟨ρ, g, h⟩ := h
  cases x with
  | fz id =>
    simp only [Sx.adj1] at hx
    split at hx
    · simp only [Option.some.injEq] at hx; subst hx; exact h.fz id
    · cases hx
  | sw i j =>
    simp only [Sx.adj1] at hx
    obtain ⟨hb, hx⟩ := optB_some hx
    simp only [Option.some.injEq] at hx; subst hx
    simp only [Bool.and_eq_true, Bool.not_eq_true', List.any_eq_false] at hb
    refine ⟨_, _, h.ren (swp_swp i j) fun q hq => ?_⟩
    have hm : q.1 ∈ E.pre.map (·.1) := List.mem_map.2 ⟨q, hq, rfl⟩
    have h1 := hb.1 q.1 hm
    have h2 := hb.2 q.1 hm
    unfold swp
    simp only [Bool.not_eq_true] at h1 h2
    rw [h1, h2]; rfl
  | mv i j =>
    simp only [Sx.adj1] at hx
    obtain ⟨hb, hx⟩ := optB_some hx
    simp only [Option.some.injEq] at hx; subst hx
    exact ⟨_, _, h.mv hb⟩
  | nl t id e sz =>
    simp only [Sx.adj1] at hx
    split at hx
    · rename_i hl
      obtain ⟨hb, hx⟩ := optB_some hx
      simp only [Option.some.injEq] at hx; subst hx
      obtain ⟨y, hy, hc⟩ := h.fr _ (look_mem hl)
      have hyv : y = .slice none 0 0 := hc
      subst hyv
      have hn := h.newRow hb (e := e) (sz := sz) (L := []) (by simp) (by simp) (w' := w) (RowKit.Below.refl _ _) (x := .slice none 0 0) (.inl rfl) ⟨by simp, .inl ⟨rfl, rfl⟩⟩
      refine ⟨_, _, hn.size, hn.defers, fun p hp => ?_, hn.gs, hn.gm, hn.gn, hn.ob, hn.fw, hn.pi⟩
      cases hp with
      | head => exact ⟨_, hy, by simp, rfl⟩
      | tail _ hp => exact hn.fr p (delSlot_mem hp).1
    · cases hx
  | nr t sz =>
    simp only [Sx.adj1] at hx
    split at hx
    · rename_i hl
      simp only [Option.some.injEq] at hx; subst hx
      obtain ⟨y, hy, hc⟩ := h.fr _ (look_mem hl)
      have hyv : y = .slice none 0 0 := hc
      subst hyv
      refine ⟨ρ, g, h.size, h.defers, fun p hp => ?_, h.gs, h.gm, h.gn, h.ob, h.fw, h.pi⟩
      cases hp with
      | head => exact ⟨_, hy, by simp, by simp, .inl ⟨.inl rfl, rfl⟩⟩
      | tail _ hp => exact h.fr p (delSlot_mem hp).1
    · cases hx
  | nb bid j id e sz =>
    simp only [Sx.adj1] at hx
    split at hx
    · rename_i ty cs hl
      split at hx
      · rename_i hj
        obtain ⟨hb, hx⟩ := optB_some hx
        simp only [Bool.and_eq_true, Bool.not_eq_true'] at hb
        simp only [Option.some.injEq] at hx; subst hx
        obtain ⟨hb, hne⟩ := hb
        have hn := h.newRow hb (e := e) (sz := sz) (L := []) (by simp) (by simp) (w' := w) (RowKit.Below.refl _ _) (x := .slice none 0 0) (.inl rfl) ⟨by simp, .inl ⟨rfl, rfl⟩⟩
        have hl' : look ((id, OB.row e sz []) :: S.ob) bid = some (.box ty cs) := by simp only [look, hne, cond_false]; exact hl
        obtain ⟨b, ys, e1, e2, e3, e4⟩ := hn.ob.ok _ (look_mem hl')
        refine ⟨_, _, hn.write hl' (b := b) (by rw [e1]; rfl) rfl rfl rfl rfl (fun _ _ => rfl) ⟨b, ys, e1, e2, e3.set_left hj fun y hy => ?_, e4⟩⟩
        have hy : y = .slice none 0 0 := hy
        subst hy
        exact ⟨by simp, rfl⟩
      · cases hx
    · cases hx
  | na t j id e sz =>
    simp only [Sx.adj1] at hx
    split at hx
    · rename_i cs hl
      split at hx
      · rename_i hj
        obtain ⟨hb, hx⟩ := optB_some hx
        simp only [Bool.and_eq_true, Bool.not_eq_true'] at hb
        simp only [Option.some.injEq] at hx; subst hx
        obtain ⟨hb, hno⟩ := hb
        obtain ⟨y, hy, ys, e1, hc⟩ := h.fr _ (look_mem hl)
        have hn := h.newRow hb (e := e) (sz := sz) (L := []) (by simp) (by simp) (w' := w) (RowKit.Below.refl _ _) (x := .slice none 0 0) (.inl rfl) ⟨by simp, .inl ⟨rfl, rfl⟩⟩
        refine ⟨_, _, hn.size, hn.defers, fun p hp => ?_, hn.gs, hn.gm, hn.gn, hn.ob, hn.fw, hn.pi⟩
        cases hp with
        | head =>
          simp only [List.any_eq_false] at hno
          have hc' : All2 (CC (Sx.upd ρ id (.slice none 0 0)) g) cs ys := hc.imp' fun c hcm b hb => CC.upd (upd_ne ρ id _) (by simpa using hno c hcm) hb
          refine ⟨y, hy, ys, e1, hc'.set_left hj fun z hz => ?_⟩
          have hz : z = .slice none 0 0 := hz
          subst hz
          exact ⟨by simp, rfl⟩
        | tail _ hp => exact hn.fr p (delSlot_mem hp).1
      · cases hx
    · cases hx
  | keep live ids =>
    simp only [Sx.adj1] at hx
    obtain ⟨hb, hx⟩ := optB_some hx
    simp only [Option.some.injEq] at hx; subst hx
    exact ⟨ρ, g, h.keep hb⟩
  | rw id szs =>
    simp only [Sx.adj1] at hx
    split at hx
    · rename_i e sz hl
      obtain ⟨hb, hx⟩ := optB_some hx
      simp only [Option.some.injEq] at hx; subst hx
      have hb := Nat.eq_of_beq_eq_true hb
      subst hb
      have h' : SatX E ⟨S.fr, S.ob⟩ a w ρ g := h
      refine ⟨ρ, g, h'.swapOb ?_ fun p' hp' => ?_⟩
      · have : (setOb S.ob id (.rows e szs [])).map (·.1) = S.ob.map (·.1) := by
          unfold setOb
          rw [List.map_map]
          apply List.map_congr_left
          intro p hp
          simp only [Function.comp]
          cases hb : Nat.beq p.1 id with
          | true => simp only [cond_true]; exact (Nat.eq_of_beq_eq_true hb).symm
          | false => simp only [cond_false]
        rw [this]; exact h.ob.ids
      · unfold setOb at hp'
        obtain ⟨p, hp, rfl⟩ := List.mem_map.1 hp'
        cases hb : Nat.beq p.1 id with
        | true =>
          simp only [cond_true]
          exact ⟨_, look_mem hl, rfl, fun hh => ObOk.row_rows (ys := []) hh trivial⟩
        | false => exact ⟨p, hp, rfl, fun hh => hh⟩
    · cases hx
theorem Sat.adjs : ∀ {l : List Adj} {S S' : St}, Sat E S a w → Sx.adjs (E.pre.map (·.1)) S l = some S' → Sat E S' a w
  | [], S, S', h, hx => by simp only [Sx.adjs, Option.some.injEq] at hx; subst hx; exact h
  | x :: r, S, S', h, hx => by
    simp only [Sx.adjs] at hx
    split at hx
    · rename_i S2 h2; exact Sat.adjs (h.adj1 h2) hx
    · cases hx
end
end Go.Sx
