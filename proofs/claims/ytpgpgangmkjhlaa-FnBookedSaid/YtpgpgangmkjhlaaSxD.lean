/- The quiet operations, the rest, and all of them in one theorem. -/
import Derived.Test.YtpgpgangmkjhlaaSxC
namespace Go.Sx
set_option linter.unusedVariables false
section
variable {E : Env} {S : St} {a : Act} {w : World} {ρ : Nat → Value} {g : GHeap}

theorem q_extract (h : SatX E S a w ρ g) {o : Oper} {x : Operand} {i : Nat} (ho : o.op = .extract x i) {vs : List AV} {av : AV} (hx : ev S x = some (.tup vs)) (hi : vs[i]? = some av) : ∃ y, CR ρ g (.o av) y ∧ YA E.P a o y := by
  obtain ⟨ys, hy, h2⟩ : CR ρ g (.tup vs) (a.eval x) := ev_ok h hx
  obtain ⟨y, hyi, hc⟩ := h2.get hi
  refine ⟨y, hc, fun w' => ?_⟩
  simp [execOp, ho, hy, Instr.extract, hyi]
theorem q_pick (h : SatX E S a w ρ g) {o : Oper} {c x z : Operand} (ho : o.op = .pick c x z) {t : Bool} (hc : ev S c = some (V (.bool t))) {rv : RV} (hx : ev S (if t then x else z) = some rv) : ∃ y, CR ρ g rv y ∧ YA E.P a o y := by
  have e : a.eval c = .bool t := ev_ok h hc
  refine ⟨_, ev_ok h hx, fun w' => ?_⟩
  cases t <;> simp [execOp, ho, e, asBool]
theorem q_nilCheck (h : SatX E S a w ρ g) {o : Oper} {x : Operand} (ho : o.op = .nilCheck x) {ca : CA} (hx : ev S x = some (A ca)) (hp : ∃ ad, a.eval x = .pointer (some ad)) : ∃ y, CR ρ g (A ca) y ∧ YA E.P a o y := by
  obtain ⟨ad, hp⟩ := hp
  refine ⟨_, ev_ok h hx, fun w' => ?_⟩
  simp [execOp, ho, hp]
theorem tsh_spec {P : Program} {t n : Nat} {ag : Bool} (h : tsh P t = some (ag, n)) : ∃ d i, P.underlying t = some d ∧ P.info? t = some i ∧ i.size = n ∧ ag = (match d with | .struct _ | .array _ _ => true | _ => false) := by
  unfold tsh at h
  split at h <;> simp_all
theorem run_part {P : Program} {w : World} {t n : Nat} {ag : Bool} (h : tsh P t = some (ag, n)) {ys : List Value} {off : Nat} {v : Value}
    (h1 : ag = true → v = .agg ((ys.drop off).take n).toArray) (h2 : ag = false → ys[off]? = some v) : (part t ys.toArray off).run P w = .ok v w := by
  obtain ⟨d, i, hd, hi, hs, hag⟩ := tsh_spec h
  have hagg : (isAgg t).run P w = .ok ag w := by
    unfold isAgg
    rw [Sem.run_bind, run_underlying hd w, hag]
    cases d <;> simp
  cases ag with
  | true =>
    have := h1 rfl
    subst this
    simp [part, hagg, sizeOf, typeInfo, hi, hs, List.extract_eq_take_drop]
  | false => simp [part, hagg, h2 rfl]
theorem q_field_agg (h : SatX E S a w ρ g) {o : Oper} {t : TypeId} {x : Operand} {f fo : Nat} (ho : o.op = .field t x f) (hf : fieldOff E.P t f = some fo) {fs : Array Field} {fl : Field} (hfs : E.P.underlying t = some (.struct fs)) (hfl : fs[f]? = some fl)
    {ag : Bool} {n : Nat} (hsh : tsh E.P fl.type = some (ag, n)) {cs : List CA} (hx : ev S x = some (.o (.agg cs))) :
    (ag = true → ((cs.drop fo).take n).length = n → ∃ y, CR ρ g (.o (mkAgg ((cs.drop fo).take n))) y ∧ YA E.P a o y) ∧
    (ag = false → ∀ c, cs[fo]? = some c → ∃ y, CR ρ g (A c) y ∧ YA E.P a o y) := by
  obtain ⟨ys, hy, h2⟩ : CAv ρ g (.agg cs) (a.eval x) := ev_ok h hx
  obtain ⟨fs', fl', i, e1, e2, _, _, e3⟩ := fieldOff_spec hf
  rw [hfs] at e1
  simp only [Option.some.injEq, TypeDesc.struct.injEq] at e1
  subst e1
  rw [hfl] at e2
  simp only [Option.some.injEq] at e2
  subst e2
  subst e3
  have hex : ∀ v w', (part fl.type ys.toArray fl.offset).run E.P w' = .ok v w' → (execOp a.eval o).run E.P w' = .ok (.value v) w' := fun v w' hr => by
    simp [execOp, ho, hy, Instr.field, run_underlying hfs, hfl, asAgg, hr]
  refine ⟨fun hag hl => ?_, fun hag c hc => ?_⟩
  · exact ⟨_, mkAgg_ok ((h2.drop fl.offset).take n), fun w' => hex _ w' (run_part hsh (fun _ => rfl) (fun e => by rw [hag] at e; cases e))⟩
  · obtain ⟨y, hyy, hcy⟩ := h2.get hc
    exact ⟨y, hcy, fun w' => hex _ w' (run_part hsh (fun e => by rw [hag] at e; cases e) (fun _ => hyy))⟩

theorem run_sliceBounds {P : Program} {w : World} {isS : Bool} {len cap : Nat} {lo hi : Option Value} {kl kh : IntKind} {l h : Int}
    (hlo : (match lo with | some v => v = .int kl l | none => l = 0)) (hhi : (match hi with | some v => v = .int kh h | none => h = len)) (h0 : 0 ≤ l) (h1 : l ≤ h) (h2 : h ≤ cap) :
    (Instr.sliceBounds isS len cap lo hi none).run P w = .ok (l.toNat, h.toNat, cap) w := by
  have hh0 : 0 ≤ h := by omega
  obtain ⟨m, rfl⟩ := Int.eq_ofNat_of_zero_le hh0
  simp only [Int.toNat_natCast] at *
  have h2' : m ≤ cap := by omega
  cases hi with
  | none =>
    have hlen : m = len := by simp only at hhi; omega
    have hl' : l ≤ (len : Int) := by omega
    cases lo with
    | none => simp only at hlo; subst hlo; simp [Instr.sliceBounds, hlen]
    | some v => simp only at hlo; subst hlo; simp [Instr.sliceBounds, Instr.sliceBound, asIntOf, h0, hlen, hl']
  | some v =>
    simp only at hhi; subst hhi
    cases lo with
    | none => simp only at hlo; subst hlo; simp [Instr.sliceBounds, Instr.sliceBound, asIntOf, h2']
    | some u => simp only at hlo; subst hlo; simp [Instr.sliceBounds, Instr.sliceBound, asIntOf, h2', h0, h1]

theorem exactR_spec {r : RV} {x : Value} (h : exactR r = some x) : r = V x := by
  unfold exactR at h
  split at h
  · simp only [Option.some.injEq] at h; subst h; rfl
  · cases h
theorem q_bound (h : SatX E S a w ρ g) {x : Option Operand} {d v : Value} (hv : (match x with | some l => (ev S l).bind exactR | none => some d) = some v) :
    match x.map a.eval with | some u => u = v | none => v = d := by
  cases x with
  | none => simp only [Option.some.injEq] at hv; simp [hv]
  | some l =>
    simp only at hv
    obtain ⟨r, hr, hx⟩ := Option.bind_eq_some_iff.1 hv
    have := exactR_spec hx
    subst this
    exact ev_ok h hr
theorem q_slice_rs (h : SatX E S a w ρ g) {o : Oper} {t : TypeId} {x : Operand} {lo hi : Option Operand} (ho : o.op = .slice t x lo hi none) {sz : Nat} {L : List (List Value)} (hx : ev S x = some (A (.rs sz L)))
    {kl kh : IntKind} {l u : Int} (hlo : (match lo with | some l => (ev S l).bind exactR | none => some (.int .i64 0)) = some (.int kl l)) (hhi : (match hi with | some u => (ev S u).bind exactR | none => some (.int .i64 L.length)) = some (.int kh u))
    (hsz : sliceSz E.P t = some sz) (h0 : 0 ≤ l) (h1 : l ≤ u) (h2 : u ≤ L.length) : ∃ y, CR ρ g (A (.rs sz ((L.take u.toNat).drop l.toNat))) y ∧ YA E.P a o y := by
  obtain ⟨r1, r2, r3⟩ : RsOk g sz L (a.eval x) := ev_ok h hx
  obtain ⟨e, ti, ht, hti, hts⟩ := sliceSz_spec hsz
  have b1 := q_bound h hlo
  have b2 := q_bound h hhi
  have hsub : ∀ cs ∈ (L.take u.toNat).drop l.toNat, cs ∈ L := fun cs hc => List.mem_of_mem_take (List.mem_of_mem_drop hc)
  have hflat : ∀ z ∈ ((L.take u.toNat).drop l.toNat).flatten, z.oneCell' = true := fun z hz => by
    obtain ⟨cs, hc, hz⟩ := List.mem_flatten.1 hz
    exact r2 z (List.mem_flatten.2 ⟨cs, hsub cs hc, hz⟩)
  have hb1 : (match lo.map a.eval with | some v => v = .int kl l | none => l = 0) := by
    cases lo with
    | none => simp at b1; simp; omega
    | some z => exact b1
  rcases r3 with ⟨hy | ⟨ad, cp, hy, hcp⟩, rfl⟩ | ⟨b, of, cap, c, hy, hb, hc, hm, htk⟩
  · have hu0 : u = 0 := by simp at h2; omega
    have hl0 : l = 0 := by omega
    subst hu0 hl0
    refine ⟨.slice none 0 0, ⟨by simp, by simp, .inl ⟨.inl rfl, by simp⟩⟩, fun w' => ?_⟩
    have hs := run_sliceBounds (P := E.P) (w := w') (isS := true) (len := 0) (cap := 0) (lo := lo.map a.eval) (hi := hi.map a.eval) (kl := kl) (kh := kh) (l := 0) (h := 0) hb1
      (by cases hi with | none => simp | some z => exact b2) (by omega) (by omega) (by omega)
    simp [execOp, ho, hy, Instr.sliceAt, Instr.slice, run_underlying ht, hs, sizeOf, typeInfo, hti]
  · have hu0 : u = 0 := by simp at h2; omega
    have hl0 : l = 0 := by omega
    subst hu0 hl0
    have hs := fun w' => run_sliceBounds (P := E.P) (w := w') (isS := true) (len := 0) (cap := cp) (lo := lo.map a.eval) (hi := hi.map a.eval) (kl := kl) (kh := kh) (l := 0) (h := 0) hb1
      (by cases hi with | none => simp | some z => exact b2) (by omega) (by omega) (by omega)
    refine ⟨.slice (some (if cp = 0 then ad else ad.add 0)) 0 cp, ⟨by simp, by simp, .inl ⟨.inr ⟨_, _, rfl, hcp⟩, by simp⟩⟩, fun w' => ?_⟩
    simp [execOp, ho, hy, Instr.sliceAt, Instr.slice, run_underlying ht, hs w', sizeOf, typeInfo, hti]
    split <;> rfl
  · have hcap : (u : Int) ≤ cap := by omega
    have hs := fun w' => run_sliceBounds (P := E.P) (w := w') (isS := true) (len := L.length) (cap := cap) (lo := lo.map a.eval) (hi := hi.map a.eval) (kl := kl) (kh := kh) (l := l) (h := u) hb1
      (by cases hi with | none => simp at b2; simp; omega | some z => exact b2) h0 h1 hcap
    have hlen : ((L.take u.toNat).drop l.toNat).length = u.toNat - l.toNat := by simp; omega
    have hseg : ∀ k, k = l.toNat * sz → (c.toList.drop (of + k)).take ((u.toNat - l.toNat) * sz) = ((L.take u.toNat).drop l.toNat).flatten := by
      intro k hk
      subst hk
      have hL : L.flatten = (L.take l.toNat).flatten ++ (((L.take u.toNat).drop l.toNat).flatten ++ (L.drop u.toNat).flatten) := by
        rw [← List.flatten_append, ← List.flatten_append]
        congr 1
        have e1 : L.take l.toNat = (L.take u.toNat).take l.toNat := by rw [List.take_take, Nat.min_eq_left (by omega)]
        rw [e1, ← List.append_assoc, List.take_append_drop, List.take_append_drop]
      have l1 : (L.take l.toNat).flatten.length = l.toNat * sz := by rw [flat_len (fun cs hc => r1 cs (List.mem_of_mem_take hc))]; simp; rw [Nat.min_eq_left (by omega)]
      have l2 : ((L.take u.toNat).drop l.toNat).flatten.length = (u.toNat - l.toNat) * sz := by rw [flat_len (fun cs hc => r1 cs (hsub cs hc)), hlen]
      have hle : l.toNat * sz + (u.toNat - l.toNat) * sz ≤ L.length * sz := by rw [← Nat.add_mul]; exact Nat.mul_le_mul_right _ (by omega)
      have h3 : ((c.toList.drop of).take (L.length * sz)).drop (l.toNat * sz) = ((L.take u.toNat).drop l.toNat).flatten ++ (L.drop u.toNat).flatten := by
        rw [htk, hL, List.drop_left' l1]
      have h4 : (((c.toList.drop of).take (L.length * sz)).drop (l.toNat * sz)).take ((u.toNat - l.toNat) * sz) = ((L.take u.toNat).drop l.toNat).flatten := by
        rw [h3, List.take_left' l2]
      rw [← h4, List.drop_take, List.take_take, Nat.min_eq_left (by omega), List.drop_drop]
    refine ⟨.slice (some (if cap = l.toNat then ⟨b, of, none⟩ else ⟨b, of + l.toNat * sz, none⟩)) (u.toNat - l.toNat) (cap - l.toNat), ⟨fun cs hc => r1 cs (hsub cs hc), hflat, .inr ?_⟩, fun w' => ?_⟩
    · by_cases hcl : cap = l.toNat
      · refine ⟨b, of, cap - l.toNat, c, by rw [if_pos hcl, hlen], hb, by rw [hlen]; omega, by simp only [maxLen] at hm ⊢; omega, ?_⟩
        have : u.toNat - l.toNat = 0 := by omega
        rw [hlen, this, Nat.zero_mul, List.take_zero]
        have h0 : ((L.take u.toNat).drop l.toNat) = [] := List.eq_nil_of_length_eq_zero (by rw [hlen]; exact this)
        rw [h0]; rfl
      · exact ⟨b, of + l.toNat * sz, cap - l.toNat, c, by rw [if_neg hcl, hlen], hb, by rw [hlen]; omega, by simp only [maxLen] at hm ⊢; omega, by rw [hlen]; exact hseg _ rfl⟩
    · simp [execOp, ho, hy, Instr.sliceAt, Instr.slice, run_underlying ht, hs w', sizeOf, typeInfo, hti, hts, add_mk]
      by_cases hcl : cap = l.toNat <;> simp [hcl]
theorem rs_suf {ρ : Nat → Value} {g : GHeap} {w : World} {x : Value} {e : TypeId} {sz : Nat} {L : List (List Value)} (h : ObOk ρ g w x (.row e sz L)) {k : Nat} (hk : k ≤ L.length) : RsOk (gAll w) sz (L.drop k) (sufF sz k x) := by
  obtain ⟨⟨hl, h1⟩, h2, h3⟩ := h
  have h3' : ∀ y ∈ (L.drop k).flatten, y.oneCell' = true := fun y hy => by
    obtain ⟨cs, hc, hy⟩ := List.mem_flatten.1 hy
    exact h3 y (List.mem_flatten.2 ⟨cs, List.mem_of_mem_drop hc, hy⟩)
  refine ⟨fun cs hc => h2 cs (List.mem_of_mem_drop hc), h3', ?_⟩
  rcases h1 with ⟨rfl, h0⟩ | ⟨b, cap, cur, rfl, _, hh, hn, hm, hs, ht⟩
  · have hk0 : k = 0 := by omega
    subst hk0
    exact .inl ⟨.inl rfl, by simpa using List.eq_nil_of_length_eq_zero h0⟩
  · by_cases hc : cap = k
    · have : L.drop k = [] := List.drop_eq_nil_of_le (by omega)
      rw [this]
      refine .inl ⟨.inr ⟨⟨b, 0, none⟩, cap - k, ?_, by omega⟩, rfl⟩
      simp only [sufF, hc, if_true]
      rw [show L.length - k = 0 by omega]
    · refine .inr ⟨b, k * sz, cap - k, cur, ?_, by simp [gAll, hh], by simp; omega, by omega, ?_⟩
      · simp only [sufF, if_neg hc, List.length_drop, add_mk, Nat.zero_add]
      · have e1 : (L.take k).flatten.length = k * sz := by rw [flat_len (fun cs hc => h2 cs (List.mem_of_mem_take hc)), List.length_take, Nat.min_eq_left hk]
        have e2 : L.flatten = (L.take k).flatten ++ (L.drop k).flatten := by rw [← List.flatten_append, List.take_append_drop]
        rw [List.length_drop, ← ht] at *
        have e3 : (cur.toList.take (L.length * sz)).drop (k * sz) = (L.drop k).flatten := by rw [e2, List.drop_left' e1]
        rw [← e3, List.drop_take]
        congr 1
        rw [Nat.sub_mul]
theorem q_slsl (h : SatX E S a w ρ g) {o : Oper} {t : TypeId} {x : Operand} {lo hi : Option Operand} (ho : o.op = .slice t x lo hi none) {id : Nat} (hx : ev S x = some (A (.sl id))) {orc orc' : List Orc} {rv : RV} {C : Option Prop} (hq : qsl E.P S t id lo hi orc = some (rv, orc', C)) (hC : oP C) : ∃ y, CR ρ g rv y ∧ YA E.P a o y := by
  have ex : a.eval x = ρ id := (ev_ok h hx : CC ρ g (.sl id) _).1
  unfold qsl at hq
  split at hq
  · rename_i e sz L sz' k orc2 hob hsz
    obtain ⟨hown, _, _⟩ := h.ob.ok _ (look_mem hob)
    obtain ⟨te, ti, ht1, hti, hts⟩ := sliceSz_spec hsz
    split at hq
    · rename_i u
      split at hq
      · rename_i kk hh hu
        obtain ⟨hb, hq⟩ := optB_some hq
        simp only [Option.some.injEq, Prod.mk.injEq] at hq
        obtain ⟨rfl, _, rfl⟩ := hq
        obtain ⟨c1, c2⟩ := hC
        subst c1
        have b2 := q_bound (d := .int .i64 0) h (x := some u) (v := .int kk (k : Int)) hu
        rcases hown.2 with ⟨hr, hz⟩ | ⟨b, cap, cur, hr, _, hh, hn, hm, _, _⟩
        · have hr : ρ id = .slice none 0 0 := hr
          have hk0 : k = 0 := by omega
          subst hk0
          refine ⟨_, ⟨rfl, by rw [hr]; rfl⟩, fun w' => ?_⟩
          have hs := run_sliceBounds (P := E.P) (w := w') (isS := true) (len := 0) (cap := 0) (lo := none) (hi := some (a.eval u)) (kl := .i64) (kh := kk) (l := 0) (h := 0) rfl b2 (Int.le_refl _) (Int.le_refl _) (Int.le_refl _)
          simp [execOp, ho, ex, hr, preF, Instr.sliceAt, Instr.slice, run_underlying ht1, hs, sizeOf, typeInfo, hti]
        · have hr : ρ id = .slice (some ⟨b, 0, none⟩) L.length cap := hr
          refine ⟨_, ⟨rfl, by rw [hr]; rfl⟩, fun w' => ?_⟩
          have hs := run_sliceBounds (P := E.P) (w := w') (isS := true) (len := L.length) (cap := cap) (lo := none) (hi := some (a.eval u)) (kl := .i64) (kh := kk) (l := 0) (h := (k : Int)) rfl b2 (Int.le_refl _) (by omega) (by omega)
          simp [execOp, ho, ex, hr, preF, Instr.sliceAt, Instr.slice, run_underlying ht1, hs, sizeOf, typeInfo, hti, add_mk]
      · cases hq
    · rename_i u
      split at hq
      · rename_i kk hh hu
        obtain ⟨hb, hq⟩ := optB_some hq
        have hb := Nat.eq_of_beq_eq_true hb
        subst hb
        simp only [Option.some.injEq, Prod.mk.injEq] at hq
        obtain ⟨rfl, _, rfl⟩ := hq
        obtain ⟨c1, c2⟩ := hC
        subst c1
        have b2 := q_bound (d := .int .i64 0) h (x := some u) (v := .int kk (k : Int)) hu
        rcases hown.2 with ⟨hr, hz⟩ | ⟨b, cap, cur, hr, _, hh, hn, hm, _, _⟩
        · have hr : ρ id = .slice none 0 0 := hr
          have hk0 : k = 0 := by omega
          subst hk0
          refine ⟨_, ⟨rfl, by rw [hr]; rfl⟩, fun w' => ?_⟩
          have hs := run_sliceBounds (P := E.P) (w := w') (isS := true) (len := 0) (cap := 0) (lo := some (a.eval u)) (hi := none) (kl := kk) (kh := .i64) (l := 0) (h := 0) b2 rfl (Int.le_refl _) (Int.le_refl _) (Int.le_refl _)
          simp [execOp, ho, ex, hr, sufF, Instr.sliceAt, Instr.slice, run_underlying ht1, hs, sizeOf, typeInfo, hti]
        · have hr : ρ id = .slice (some ⟨b, 0, none⟩) L.length cap := hr
          refine ⟨_, ⟨rfl, by rw [hr]; rfl⟩, fun w' => ?_⟩
          have hs := run_sliceBounds (P := E.P) (w := w') (isS := true) (len := L.length) (cap := cap) (lo := some (a.eval u)) (hi := none) (kl := kk) (kh := .i64) (l := (k : Int)) (h := (L.length : Int)) b2 rfl (by omega) (by omega) (by omega)
          simp [execOp, ho, ex, hr, sufF, Instr.sliceAt, Instr.slice, run_underlying ht1, hs, sizeOf, typeInfo, hti, hts, add_mk]
          split <;> rfl
      · cases hq
    · cases hq
  · cases hq
theorem q_slice_str (h : SatX E S a w ρ g) {o : Oper} {t : TypeId} {x : Operand} {lo hi : Option Operand} (ho : o.op = .slice t x lo hi none) {s : ByteArray} (hx : ev S x = some (V (.string s)))
    {kl kh : IntKind} {l u : Int} (hlo : (match lo with | some l => (ev S l).bind exactR | none => some (.int .i64 0)) = some (.int kl l)) (hhi : (match hi with | some u => (ev S u).bind exactR | none => some (.int .i64 s.size)) = some (.int kh u))
    (hsz : E.P.underlying t = some .string) (h0 : 0 ≤ l) (h1 : l ≤ u) (h2 : u ≤ s.size) : ∃ y, CR ρ g (V (.string (s.extract l.toNat u.toNat))) y ∧ YA E.P a o y := by
  have e : a.eval x = .string s := ev_ok h hx
  have b1 := q_bound h hlo
  have b2 := q_bound h hhi
  refine ⟨_, rfl, fun w' => ?_⟩
  have hs := run_sliceBounds (P := E.P) (w := w') (isS := false) (len := s.size) (cap := s.size) (lo := lo.map a.eval) (hi := hi.map a.eval) (kl := kl) (kh := kh) (l := l) (h := u)
    (by cases lo with | none => simp at b1; simp; omega | some z => exact b1) (by cases hi with | none => simp at b2; simp; omega | some z => exact b2) h0 h1 h2
  simp [execOp, ho, e, Instr.sliceAt, Instr.slice, run_underlying hsz, hs]
theorem q_index_str (h : SatX E S a w ρ g) {o : Oper} {t : TypeId} {x i : Operand} (ho : o.op = .index t x i) {s : ByteArray} {k : IntKind} {n : Int} (hx : ev S x = some (V (.string s))) (hi : ev S i = some (V (.int k n)))
    (ht : E.P.underlying t = some .string) (h0 : 0 ≤ n) {b : Int} (hb : ∃ u : UInt8, s[n.toNat]? = some u ∧ b = u.toNat) : ∃ y, CR ρ g (V (.int .u8 b)) y ∧ YA E.P a o y := by
  obtain ⟨u, hu, rfl⟩ := hb
  have e1 : a.eval x = .string s := ev_ok h hx
  have e2 : a.eval i = .int k n := ev_ok h hi
  refine ⟨_, rfl, fun w' => ?_⟩
  simp [execOp, ho, e1, e2, Instr.index, asIntOf, run_underlying ht, h0, hu]
theorem q_len (h : SatX E S a w ρ g) {o : Oper} {c : Call} (ho : o.op = .call c) (hcb : c.callee = .builtin .len) {x : Operand} (hargs : c.args.toList = [x]) {e : TypeId} (ht : (c.argTypes[0]?).bind E.P.underlying = some (.slice e))
    {ao : Option Addr} {n cap : Nat} (hy : a.eval x = .slice ao n cap) : YA E.P a o (goInt n) := fun w' => by
  obtain ⟨t, h1, h2⟩ := Option.bind_eq_some_iff.1 ht
  have ha : c.args = #[x] := by rw [← Array.toArray_toList (xs := c.args), hargs]
  simp [execOp, ho, resolve, hcb, ha, invoke, builtin, Builtin.len_, h1, run_underlying h2, hy]

theorem Fw.cls {B : Nat → Prop} {w0 w w' : World} (h : Fw B w0 w) (hc : Cls w w') : Fw B w0 w' :=
  h.trans (Fw.of_below (B := B) hc) fun _ _ hb => hb
theorem gAll_cls {w w' : World} (hc : Cls w w') {b : Nat} {c : Array Value} (h : gAll w b = some c) : gAll w' b = some c := by
  unfold gAll at h ⊢
  split at h
  · rename_i c' e fr hb
    rw [hc.block b (heap_lt hb), hb]
    exact h
  · cases h
theorem run_callFunc {P : Program} {f : FuncId} {fn : Func} (hf : P.funcs[f]? = some fn) (hb : fn.body.isSome = true) (hn : (fn.name == "runtime.NumGoroutine") = false) (args : Array Value) (w : World) :
    (callFunc f args).run P w = .ok (.enter f args) w := by
  have hb' : fn.body.isNone = false := by cases h : fn.body <;> simp_all
  unfold callFunc
  simp only [Sem.run_bind, run_program, Result.andThen_ok, hf, hn, hb', Bool.false_eq_true, if_false, Sem.run_pure]
theorem run_call {P : Program} {o : Oper} {c : Call} (ho : o.op = .call c) {f : FuncId} (hcv : c.callee = .value (.func f)) {fn : Func} (hf : P.funcs[f]? = some fn) (hb : fn.body.isSome = true) (hn : (fn.name == "runtime.NumGoroutine") = false) (w : World) :
    (execOp a.eval o).run P w = .ok (.enter f (c.args.toList.map a.eval).toArray) w := by
  have h1 : c.args.map a.eval = (c.args.toList.map a.eval).toArray := by rw [← Array.toList_map]
  simp [execOp, ho, resolve, hcv, Act.eval, Deferred.ofValue, invoke, run_callFunc hf hb hn]
  exact h1
theorem run_callFn {P : Program} {o : Oper} {c : Call} (ho : o.op = .call c) {t : Nat} (hcv : c.callee = .value (.tmp t)) {f : FuncId} {caps : List Value} (hy : a.eval (.tmp t) = .func (.func f) #[] caps.toArray) {fn : Func} (hf : P.funcs[f]? = some fn) (hb : fn.body.isSome = true) (hn : (fn.name == "runtime.NumGoroutine") = false) (w : World) :
    (execOp a.eval o).run P w = .ok (.enter f (c.args.toList.map a.eval ++ caps).toArray) w := by
  have h1 : c.args.map a.eval = (c.args.toList.map a.eval).toArray := by rw [← Array.toList_map]
  simp [execOp, ho, resolve, hcv, hy, Deferred.ofValue, invoke, run_callFunc hf hb hn]
theorem Objs.nil (ρ : Nat → Value) (g : GHeap) (w : World) (B : Nat → Prop) : Objs ρ g w B [] :=
  ⟨by simp, (fun p hp => by cases hp), (fun p hp => by cases hp), (fun p hp => by cases hp), (fun p hp => by cases hp)⟩
theorem q_call (h : SatX E S a w ρ g) {o : Oper} {c : Call} (ho : o.op = .call c) {f : FuncId} (hcv : c.callee = .value (.func f)) {fn : Func} (hf : E.P.funcs[f]? = some fn) (hb : fn.body.isSome = true) (hn : (fn.name == "runtime.NumGoroutine") = false)
    {avs : List AV} (hv : viewArgs S c.args.toList = some avs) {res : RV} {x : Value} (hx : exactRV res = some x) (hC : Con E.P f avs [] res [] []) : ∃ y, CR ρ g res y ∧ QY E.P a w o y := by
  refine ⟨x, exactRV_mk hx, fun w' hw => ?_⟩
  unfold Oper.quietAt
  rw [run_call ho hcv hf hb hn w']
  refine ⟨rfl, ?_⟩
  have hargs := (viewArgs_ok h hv).imp fun _ _ => CAv.mono (fun b c hb => gAll_cls hw hb)
  refine (hC ρ (gAll w') w' _ (Tab.mono (fun b c hb => (h.gs.cls hw).all hb) h.gm.tab) (gAll_sub w') (Objs.nil _ _ _ _) hargs).mono ?_
  rintro e w'' ⟨v, ρ', g', rfl, _, hfw, _, _, _, hres, _⟩
  refine ⟨by rw [exactRV_ok hx hres], ?_⟩
  have hb2 : RowKit.Below w'.heap.size w' w'' := ⟨hfw.os, hfw.tape, hfw.output, hfw.size, fun k hk => hfw.block k hk (fun ⟨p, hp, _⟩ => by cases hp)⟩
  exact hw.trans (hb2.mono hw.size)

theorem ptrIds_ok (h : SatX E S a w ρ g) : ∀ {l : List Operand} {ids : List Nat}, ptrIds S l = some ids → ∃ bs : List Nat, All2 (fun id b => ρ id = .pointer (some ⟨b, 0, none⟩)) ids bs ∧ l.map a.eval = bs.map fun b => Value.pointer (some ⟨b, 0, none⟩)
  | [], ids, hi => by simp [ptrIds] at hi; subst hi; exact ⟨[], trivial, rfl⟩
  | x :: r, ids, hi => by
    simp only [ptrIds] at hi
    split at hi
    · rename_i id off hx
      obtain ⟨h0, hi⟩ := optB_some hi
      have h0 := Nat.eq_of_beq_eq_true h0
      subst h0
      obtain ⟨is, his, rfl⟩ := Option.map_eq_some_iff.1 hi
      obtain ⟨bs, h1, h2⟩ := ptrIds_ok h his
      obtain ⟨b, hb, hy⟩ : CC ρ g (.ptr id 0) (a.eval x) := ev_ok h hx
      exact ⟨b :: bs, ⟨hb, h1⟩, by simp [hy, h2]⟩
    · cases hi
theorem q_makeFunc (h : SatX E S a w ρ g) {o : Oper} {f : FuncId} {first captured : Array Operand} (ho : o.op = .makeFunc (.func f) first captured) (hf : first.toList = []) {ids : List Nat} (hi : ptrIds S captured.toList = some ids) : ∃ y, CR ρ g (A (.fn f ids)) y ∧ YA E.P a o y := by
  obtain ⟨bs, h1, h2⟩ := ptrIds_ok h hi
  refine ⟨.func (.func f) #[] (bs.map fun b => Value.pointer (some ⟨b, 0, none⟩)).toArray, ⟨bs, h1, rfl⟩, fun w' => ?_⟩
  have e1 : first = #[] := by rw [← Array.toArray_toList (xs := first), hf]
  have e2 : captured.map a.eval = (bs.map fun b => Value.pointer (some ⟨b, 0, none⟩)).toArray := by rw [← h2, ← Array.toList_map]
  simp [execOp, ho, Instr.makeFunc, e1, e2]
theorem q_makeIface (h : SatX E S a w ρ g) {o : Oper} {t : TypeId} {x : Operand} (ho : o.op = .makeInterface t x) {id : Nat} (hx : ev S x = some (A (.sl id))) {e : TypeId} (ht : E.P.underlying t = some (.slice e)) : ∃ y, CR ρ g (A (.of (fun s => .iface t s) id)) y ∧ YA E.P a o y := by
  obtain ⟨hy, _⟩ : CC ρ g (.sl id) (a.eval x) := ev_ok h hx
  refine ⟨.iface t (ρ id), ⟨rfl, rfl⟩, fun w' => ?_⟩
  simp [execOp, ho, Instr.makeInterface, run_underlying ht, hy]
theorem qmap {α : Type} {x : Option RV} {orc orc' : List Orc} {rv : RV} {C : Option Prop} (h : x.map (·, orc, none) = some (rv, orc', C)) : x = some rv := by
  cases x with
  | none => cases h
  | some r => simp only [Option.map_some, Option.some.injEq, Prod.mk.injEq] at h; rw [h.1]

theorem q_conv_row (h : SatX E S a w ρ g) {o : Oper} {x : Operand} {id : Nat} {s d e' : TypeId} (ho : o.op = .convert s d x) (hx : ev S x = some (A (.sl id))) {e : TypeId} {sz : Nat} {L : List (List Value)} (hob : look S.ob id = some (.row e sz L)) {l : List Int} (hl : L = l.map fun n => [Value.int .u8 n]) (hs : E.P.underlying s = some (.slice e')) (he : E.P.underlying e' = some (.int .u8)) (hd : E.P.underlying d = some .string) : QY E.P a w o (.string (strOfNums l)) := by
  refine .of_run fun w' hw => ?_
  have hy : a.eval x = ρ id := (ev_ok h hx : CC ρ g (.sl id) _).1
  have key : (convert s d (a.eval x)).run E.P w' = .ok (.string (strOfNums l)) w' := by
    obtain ⟨⟨_, h1⟩, h2, h3⟩ := h.ob.ok _ (look_mem hob)
    rw [hy]
    rcases h1 with ⟨hr, h0⟩ | ⟨b, cap, cur, hr, _, hh, hnn, hm, hss, ht⟩
    · have hr' : ρ id = .slice none 0 0 := hr
      rw [hr', run_convert_bytes_nil w' s e' hs he 0 0 d hd]
      have : l = [] := by subst hl; simpa using h0
      subst this; rfl
    · have hr' : ρ id = .slice (some ⟨b, 0, none⟩) L.length cap := hr
      rw [hr']
      have hh' : w'.heap[b]? = some (.cells cur e (0, 0)) := by rw [hw.block b (heap_lt hh)]; exact hh
      refine run_convert_bytes_arg w' s e' hs he b 0 L.length cap l (by simp [hl]) (fun i hi => ?_) d hd
      have hil : i < l.length := by simpa [hl] using hi
      have hLi : L[i]? = some [Value.int .u8 l[i]] := by simp [hl, hil]
      have hsz : sz = 1 := by have := h2 _ (List.mem_of_getElem? hLi); simpa using this.symm
      subst hsz
      have hg := flat_get h2 hLi (show [Value.int .u8 l[i]][0]? = some _ from rfl)
      rw [← ht, List.getElem?_take] at hg
      split at hg
      · simp [World.cell?, hh', List.getD, hil]
        simpa using hg
      · cases hg
  simp [execOp, ho, key]
theorem findNow_set {s : ByteArray} : ∀ (es : List MapEntry) (D : List ByteArray) (i : Nat), es.map (fun z => (z.key, z.val)) = D.map (fun s => (Value.string s, Value.bool true)) →
    (memB s D = false ∧ Instr.findNow .string (.string s) es i = some none) ∨ (memB s D = true ∧ ∃ j z, es[j]? = some z ∧ z.key = .string s ∧ z.val = .bool true ∧ Instr.findNow .string (.string s) es i = some (some (i + j, .bool true)))
  | [], [], i, _ => .inl ⟨rfl, rfl⟩
  | [], _ :: _, _, h => by cases h
  | _ :: _, [], _, h => by cases h
  | z :: es, d :: D, i, h => by
    simp only [List.map_cons, List.cons.injEq, Prod.mk.injEq] at h
    obtain ⟨⟨h1, h2⟩, h3⟩ := h
    cases hb : s == d with
    | true =>
      have hsd : s = d := (MapKept.bytes_beq s d).1 hb
      exact .inr ⟨by simp [memB, hb], 0, z, rfl, by rw [h1, hsd], h2, by simp [Instr.findNow, h1, h2, Instr.sameNow, hb]⟩
    | false =>
      rcases findNow_set (s := s) es D (i + 1) h3 with ⟨e1, e2⟩ | ⟨e1, j, y, e2, e3, e4, e5⟩
      · exact .inl ⟨by simp [memB, hb, e1], by simp [Instr.findNow, h1, Instr.sameNow, hb, e2]⟩
      · exact .inr ⟨by simp [memB, hb, e1], j + 1, y, by simpa using e2, e3, e4, by simp [Instr.findNow, h1, Instr.sameNow, hb, e5]; omega⟩
theorem q_lookup (h : SatX E S a w ρ g) {o : Oper} {t : TypeId} {m x : Operand} (ho : o.op = .lookup t m x false) {id : Nat} {s : ByteArray} (hm : ev S m = some (A (.sl id))) (hx : ev S x = some (V (.string s))) {k e k' e' : TypeId} {D : List ByteArray} (hob : look S.ob id = some (.smap k e D))
    (ht : E.P.underlying t = some (.map k' e')) (hk : E.P.underlying k' = some .string) {i : TypeInfo} (hi : E.P.info? e' = some i) (hz : i.zero = some (.bool false)) : QY E.P a w o (.bool (memB s D)) := by
  refine .of_run fun w' hw => ?_
  have hy : a.eval m = ρ id := (ev_ok h hm : CC ρ g (.sl id) _).1
  obtain ⟨b, es, cl, hr, hh, hes⟩ := h.ob.ok _ (look_mem hob)
  have hh' : w'.heap[b]? = some (.map es cl) := by rw [hw.block b (heap_lt hh)]; exact hh
  have e1 : a.eval m = .map (some b) := hy.trans hr
  have e2 : a.eval x = .string s := ev_ok h hx
  have hck : ∀ c, (Instr.checkKey c 10000 k' (.string s)).run E.P w' = .ok () w' := fun c => MapKept.run_checkKey hk (k := .string s) trivial c 9999
  rcases findNow_set (s := s) es.toList D 0 hes with ⟨h1, h2⟩ | ⟨h1, j, z, _, _, _, h2⟩
  · simp [execOp, ho, e1, e2, Instr.lookup, run_underlying ht, MapKept.run_getObj_map hh', hck, Instr.findKey, run_underlying hk, h2, zeroValue, typeInfo, hi, hz, h1]
  · simp [execOp, ho, e1, e2, Instr.lookup, run_underlying ht, MapKept.run_getObj_map hh', hck, Instr.findKey, run_underlying hk, h2, h1]
set_option maxHeartbeats 1000000 in
theorem qev_ok (h : SatX E S a w ρ g) {o : Oper} {orc orc' : List Orc} {rv : RV} {C : Option Prop} (hq : qev E.P S o orc = some (rv, orc', C)) (hC : oP C) : ∃ y, CR ρ g rv y ∧ QY E.P a w o y := by
  cases ho : o.op with
  | move x => simp only [qev, ho] at hq; exact yq (q_move h (.inl ho) (qmap (α := RV) hq))
  | assign x => simp only [qev, ho] at hq; exact yq (q_move h (.inr ho) (qmap (α := RV) hq))
  | load t x => exact q_load h ho hq hC
  | unOp op t x => simp only [qev, ho] at hq; exact yq (q_pure h (by simp [ho]) (qmap (α := RV) hq))
  | convert s d x =>
    simp only [qev, ho] at hq
    cases hb : Nat.beq d 9 with
    | false => simp only [hb, cond_false] at hq; exact yq (q_pure h (by simp [ho]) (qmap (α := RV) hq))
    | true =>
      simp only [hb, cond_true] at hq
      split at hq
      · rename_i id hx
        split at hq
        · rename_i e sz L t orc2 e' hob hs
          split at hq
          · rename_i he hd
            simp only [Option.some.injEq, Prod.mk.injEq] at hq
            obtain ⟨rfl, _, rfl⟩ := hq
            obtain ⟨l, hl, rfl⟩ := hC
            exact ⟨_, rfl, q_conv_row h ho hx hob hl hs he hd⟩
          · cases hq
        · cases hq
      · exact yq (q_pure h (by simp [ho]) (qmap (α := RV) hq))
  | build t p => simp only [qev, ho] at hq; exact yq (q_pure h (by simp [ho]) (qmap (α := RV) hq))
  | binOp op t x y t' =>
    simp only [qev, ho] at hq
    split at hq
    · rename_i t v orc2
      split at hq
      · rename_i d hd
        cases hb : Nat.beq d t with
        | true =>
          simp only [hb, cond_true] at hq
          obtain ⟨hv, hq⟩ := optB_some hq
          simp only [Option.some.injEq, Prod.mk.injEq] at hq
          obtain ⟨rfl, _, rfl⟩ := hq
          exact yq (q_run h (by simp [ho]) (by rw [ho]; exact hv) hC)
        | false =>
          simp only [hb, cond_false] at hq
          exact yq (q_pure h (by simp [ho]) (qmap (α := RV) hq))
      · cases hq
    · exact yq (q_pure h (by simp [ho]) (qmap (α := RV) hq))
  | extract x i =>
    simp only [qev, ho] at hq
    split at hq
    · rename_i vs hx
      split at hq
      · rename_i av hi
        simp only [Option.some.injEq, Prod.mk.injEq] at hq
        obtain ⟨rfl, _, _⟩ := hq
        exact yq (q_extract h ho hx hi)
      · cases hq
    · cases hq
  | pick c x y =>
    simp only [qev, ho] at hq
    split at hq
    · rename_i hc; exact yq (q_pick h ho hc (by simpa using qmap (α := RV) hq))
    · rename_i hc; exact yq (q_pick h ho hc (by simpa using qmap (α := RV) hq))
    · cases hq
  | nilCheck x =>
    simp only [qev, ho] at hq
    split at hq
    · rename_i cs off hx
      simp only [Option.some.injEq, Prod.mk.injEq] at hq
      obtain ⟨rfl, _, _⟩ := hq
      obtain ⟨_, b, of, c, hy, _⟩ : ReOk g cs off (a.eval x) := ev_ok h hx
      exact yq (q_nilCheck h ho hx ⟨_, hy⟩)
    · rename_i id off hx
      simp only [Option.some.injEq, Prod.mk.injEq] at hq
      obtain ⟨rfl, _, _⟩ := hq
      obtain ⟨b, _, hy⟩ : CC ρ g (.ptr id off) (a.eval x) := ev_ok h hx
      exact yq (q_nilCheck h ho hx ⟨_, hy⟩)
    · rename_i id sz i off hx
      simp only [Option.some.injEq, Prod.mk.injEq] at hq
      obtain ⟨rfl, _, _⟩ := hq
      obtain ⟨b, _, _, _, hy⟩ : CC ρ g (.pe id sz i off) (a.eval x) := ev_ok h hx
      exact yq (q_nilCheck h ho hx ⟨_, hy⟩)
    · cases hq
  | fieldAddr t x f =>
    simp only [qev, ho] at hq
    split at hq
    · rename_i fo cs off hf hx
      simp only [Option.some.injEq, Prod.mk.injEq] at hq
      obtain ⟨rfl, _, _⟩ := hq
      exact yq (q_field_re h ho hf hx)
    · rename_i fo id off hf hx
      simp only [Option.some.injEq, Prod.mk.injEq] at hq
      obtain ⟨rfl, _, _⟩ := hq
      exact yq (q_field_ptr h ho hf hx)
    · rename_i fo id sz i off hf hx
      simp only [Option.some.injEq, Prod.mk.injEq] at hq
      obtain ⟨rfl, _, _⟩ := hq
      exact yq (q_field_pe h ho hf hx)
    · cases hq
  | field t x f =>
    simp only [qev, ho] at hq
    split at hq
    · rename_i cs hx
      split at hq
      · rename_i fo fs sh hf hfs
        split at hq
        · rename_i n hfl
          obtain ⟨fl, hfl, hsh⟩ := Option.bind_eq_some_iff.1 hfl
          obtain ⟨hl, hq⟩ := optB_some hq
          simp only [Option.some.injEq, Prod.mk.injEq] at hq
          obtain ⟨rfl, _, _⟩ := hq
          exact yq ((q_field_agg h ho hf hfs hfl hsh hx).1 rfl (tsh_len hl))
        · rename_i n hfl
          obtain ⟨fl, hfl, hsh⟩ := Option.bind_eq_some_iff.1 hfl
          split at hq
          · rename_i c hc
            simp only [Option.some.injEq, Prod.mk.injEq] at hq
            obtain ⟨rfl, _, _⟩ := hq
            exact yq ((q_field_agg h ho hf hfs hfl hsh hx).2 rfl c hc)
          · cases hq
        · cases hq
      · cases hq
    · exact yq (q_pure h (by simp [ho]) (qmap (α := RV) hq))
  | indexAddr t x i =>
    simp only [qev, ho] at hq
    split at hq
    · rename_i sz L k n hx hi
      split at hq
      · rename_i cs orc2
        split at hq
        · rename_i sz' hsz
          obtain ⟨hb, hq'⟩ := optB_some hq
          clear hq
          have hb := tsh_len hb
          subst hb
          have hq := hq'
          clear hq'
          simp only [Option.some.injEq, Prod.mk.injEq] at hq
          obtain ⟨rfl, _, rfl⟩ := hq
          exact yq (q_index_rs h ho hx hi hsz hC.1 hC.2)
        · cases hq
      · cases hq
    · rename_i id k n hx hi
      split at hq
      · rename_i e sz L hob
        split at hq
        · rename_i sz' hsz
          obtain ⟨hb, hq'⟩ := optB_some hq
          clear hq
          have hb := tsh_len hb
          subst hb
          have hq := hq'
          clear hq'
          simp only [Option.some.injEq, Prod.mk.injEq] at hq
          obtain ⟨rfl, _, rfl⟩ := hq
          exact yq (q_index_sl h ho hx hob hi hsz hC.1 hC.2)
        · cases hq
      · rename_i e szs D hob
        split at hq
        · rename_i sz' hsz
          obtain ⟨hb, hq'⟩ := optB_some hq
          clear hq
          have hb := tsh_len hb
          subst hb
          have hq := hq'
          clear hq'
          simp only [Option.some.injEq, Prod.mk.injEq] at hq
          obtain ⟨rfl, _, rfl⟩ := hq
          exact yq (q_index_rows h ho hx hob hi hsz hC.1 hC.2)
        · cases hq
      · cases hq
    · cases hq
  | slice t x lo hi mx =>
    simp only [qev, ho] at hq
    split at hq
    · rename_i sz L hx
      split at hq
      · rename_i kl l kh u hlo hhi
        split at hq
        · rename_i sz' hsz
          split at hq
          · rename_i L' orc2
            obtain ⟨hb, hq'⟩ := optB_some hq
            clear hq
            have hb := tsh_len hb
            subst hb
            simp only [Option.some.injEq, Prod.mk.injEq] at hq'
            obtain ⟨rfl, _, rfl⟩ := hq'
            obtain ⟨c1, c2, c3, rfl⟩ := hC
            exact yq (q_slice_rs h ho hx hlo hhi hsz c1 c2 c3)
          · cases hq
        · cases hq
      · cases hq
    · rename_i s hx
      split at hq
      · rename_i kl l kh u hlo hhi
        split at hq
        · rename_i ht
          simp only [Option.some.injEq, Prod.mk.injEq] at hq
          obtain ⟨rfl, _, rfl⟩ := hq
          exact yq (q_slice_str h ho hx hlo hhi ht hC.1 hC.2.1 hC.2.2)
        · cases hq
      · cases hq
    · rename_i id hx
      exact yq (q_slsl h ho hx hq hC)
    · cases hq
  | index t x i =>
    simp only [qev, ho] at hq
    split at hq
    · rename_i s k n hx hi
      split at hq
      · rename_i b orc2
        split at hq
        · rename_i ht
          simp only [Option.some.injEq, Prod.mk.injEq] at hq
          obtain ⟨rfl, _, rfl⟩ := hq
          exact yq (q_index_str h ho hx hi ht hC.1 hC.2)
        · cases hq
      · cases hq
    · cases hq
  | call c =>
    simp only [qev, ho] at hq
    split at hq
    · rename_i x hcb hargs
      split at hq
      · rename_i sz L hx
        split at hq
        · rename_i e n orc2 ht
          simp only [Option.some.injEq, Prod.mk.injEq] at hq
          obtain ⟨rfl, _, rfl⟩ := hq
          obtain rfl : L.length = n := hC
          obtain ⟨_, _, r⟩ : RsOk g sz L (a.eval x) := ev_ok h hx
          rcases r with ⟨hy | ⟨ad, cp, hy, _⟩, rfl⟩ | ⟨b, of, cap, cc, hy, _⟩
          · exact ⟨_, rfl, (q_len h ho hcb hargs ht hy).qy⟩
          · exact ⟨_, rfl, (q_len h ho hcb hargs ht hy).qy⟩
          · exact ⟨_, rfl, (q_len h ho hcb hargs ht hy).qy⟩
        · cases hq
      · rename_i id hx
        split at hq
        · rename_i e sz L e' n orc2 hob ht
          simp only [Option.some.injEq, Prod.mk.injEq] at hq
          obtain ⟨rfl, _, rfl⟩ := hq
          obtain rfl : L.length = n := hC
          have hy : a.eval x = ρ id := (ev_ok h hx : CC ρ g (.sl id) _).1
          obtain ⟨⟨_, r⟩, _, _⟩ := h.ob.ok _ (look_mem hob)
          rcases r with ⟨hr, h0⟩ | ⟨b, cap, cur, hr, _⟩
          · have hr' : ρ id = .slice none 0 0 := hr
            rw [h0]
            exact ⟨_, rfl, (q_len h ho hcb hargs ht (hy.trans hr')).qy⟩
          · have hr' : ρ id = .slice (some ⟨b, 0, none⟩) L.length cap := hr
            exact ⟨_, rfl, (q_len h ho hcb hargs ht (hy.trans hr')).qy⟩
        · cases hq
      · exact yq (q_pure h (by simp [ho]) (qmap (α := RV) hq))
    · exact yq (q_pure h (by simp [ho]) (qmap (α := RV) hq))
    · exact yq (q_pure h (by simp [ho]) (qmap (α := RV) hq))
    · rename_i f hcv
      split at hq
      · rename_i res orc2
        split at hq
        · rename_i x avs fn hx hv hf
          obtain ⟨hb, hq⟩ := optB_some hq
          simp only [Bool.and_eq_true, Bool.not_eq_true'] at hb
          simp only [Option.some.injEq, Prod.mk.injEq] at hq
          obtain ⟨rfl, _, rfl⟩ := hq
          exact q_call h ho hcv hf hb.1 hb.2 hv hx hC
        · cases hq
      · cases hq
    · cases hq
  | lookup t m x ok =>
    simp only [qev, ho] at hq
    split at hq
    · rename_i id s hm hx
      split at hq
      · rename_i k e D k' e' hob ht
        split at hq
        · rename_i i hk hi
          split at hq
          · rename_i hz
            simp only [Option.some.injEq, Prod.mk.injEq] at hq
            obtain ⟨rfl, _, _⟩ := hq
            exact ⟨_, rfl, q_lookup h ho hm hx hob ht hk hi hz⟩
          · cases hq
        · cases hq
      · cases hq
    · cases hq
  | makeFunc fn first captured =>
    simp only [qev, ho] at hq
    split at hq
    · rename_i f ids hfst hi
      simp only [Option.some.injEq, Prod.mk.injEq] at hq
      obtain ⟨rfl, _, _⟩ := hq
      exact yq (q_makeFunc h ho hfst hi)
    · cases hq
  | makeInterface t x =>
    simp only [qev, ho] at hq
    split at hq
    · rename_i id e hx ht
      simp only [Option.some.injEq, Prod.mk.injEq] at hq
      obtain ⟨rfl, _, _⟩ := hq
      exact yq (q_makeIface h ho hx ht)
    · cases hq
  | _ => simp only [qev, ho] at hq; cases hq
set_option maxHeartbeats 1000000 in
theorem qev_pure (h : SatX E S a w ρ g) {o : Oper} {orc orc' : List Orc} {rv : RV} {C : Option Prop} (hq : qev E.P S o orc = some (rv, orc', C)) (hC : oP C) (hp : pureO o = true) : ∃ y, CR ρ g rv y ∧ YA E.P a o y := by
  cases ho : o.op with
  | move x => simp only [qev, ho] at hq; exact q_move h (.inl ho) (qmap (α := RV) hq)
  | assign x => simp only [qev, ho] at hq; exact q_move h (.inr ho) (qmap (α := RV) hq)
  | load t x => simp [pureO, ho] at hp
  | unOp op t x => simp only [qev, ho] at hq; exact q_pure h (by simp [ho]) (qmap (α := RV) hq)
  | convert s d x =>
    simp only [qev, ho] at hq
    cases hb : Nat.beq d 9 with
    | false => simp only [hb, cond_false] at hq; exact q_pure h (by simp [ho]) (qmap (α := RV) hq)
    | true => simp [pureO, ho, hb] at hp
  | build t p => simp [pureO, ho] at hp
  | binOp op t x y t' =>
    simp only [qev, ho] at hq
    split at hq
    · rename_i t v orc2
      split at hq
      · rename_i d hd
        cases hb : Nat.beq d t with
        | true =>
          simp only [hb, cond_true] at hq
          obtain ⟨hv, hq⟩ := optB_some hq
          simp only [Option.some.injEq, Prod.mk.injEq] at hq
          obtain ⟨rfl, _, rfl⟩ := hq
          exact q_run h (by simp [ho]) (by rw [ho]; exact hv) hC
        | false =>
          simp only [hb, cond_false] at hq
          exact q_pure h (by simp [ho]) (qmap (α := RV) hq)
      · cases hq
    · exact q_pure h (by simp [ho]) (qmap (α := RV) hq)
  | extract x i =>
    simp only [qev, ho] at hq
    split at hq
    · rename_i vs hx
      split at hq
      · rename_i av hi
        simp only [Option.some.injEq, Prod.mk.injEq] at hq
        obtain ⟨rfl, _, _⟩ := hq
        exact q_extract h ho hx hi
      · cases hq
    · cases hq
  | pick c x y =>
    simp only [qev, ho] at hq
    split at hq
    · rename_i hc; exact q_pick h ho hc (by simpa using qmap (α := RV) hq)
    · rename_i hc; exact q_pick h ho hc (by simpa using qmap (α := RV) hq)
    · cases hq
  | nilCheck x =>
    simp only [qev, ho] at hq
    split at hq
    · rename_i cs off hx
      simp only [Option.some.injEq, Prod.mk.injEq] at hq
      obtain ⟨rfl, _, _⟩ := hq
      obtain ⟨_, b, of, c, hy, _⟩ : ReOk g cs off (a.eval x) := ev_ok h hx
      exact q_nilCheck h ho hx ⟨_, hy⟩
    · rename_i id off hx
      simp only [Option.some.injEq, Prod.mk.injEq] at hq
      obtain ⟨rfl, _, _⟩ := hq
      obtain ⟨b, _, hy⟩ : CC ρ g (.ptr id off) (a.eval x) := ev_ok h hx
      exact q_nilCheck h ho hx ⟨_, hy⟩
    · rename_i id sz i off hx
      simp only [Option.some.injEq, Prod.mk.injEq] at hq
      obtain ⟨rfl, _, _⟩ := hq
      obtain ⟨b, _, _, _, hy⟩ : CC ρ g (.pe id sz i off) (a.eval x) := ev_ok h hx
      exact q_nilCheck h ho hx ⟨_, hy⟩
    · cases hq
  | fieldAddr t x f =>
    simp only [qev, ho] at hq
    split at hq
    · rename_i fo cs off hf hx
      simp only [Option.some.injEq, Prod.mk.injEq] at hq
      obtain ⟨rfl, _, _⟩ := hq
      exact q_field_re h ho hf hx
    · rename_i fo id off hf hx
      simp only [Option.some.injEq, Prod.mk.injEq] at hq
      obtain ⟨rfl, _, _⟩ := hq
      exact q_field_ptr h ho hf hx
    · rename_i fo id sz i off hf hx
      simp only [Option.some.injEq, Prod.mk.injEq] at hq
      obtain ⟨rfl, _, _⟩ := hq
      exact q_field_pe h ho hf hx
    · cases hq
  | field t x f =>
    simp only [qev, ho] at hq
    split at hq
    · rename_i cs hx
      split at hq
      · rename_i fo fs sh hf hfs
        split at hq
        · rename_i n hfl
          obtain ⟨fl, hfl, hsh⟩ := Option.bind_eq_some_iff.1 hfl
          obtain ⟨hl, hq⟩ := optB_some hq
          simp only [Option.some.injEq, Prod.mk.injEq] at hq
          obtain ⟨rfl, _, _⟩ := hq
          exact (q_field_agg h ho hf hfs hfl hsh hx).1 rfl (tsh_len hl)
        · rename_i n hfl
          obtain ⟨fl, hfl, hsh⟩ := Option.bind_eq_some_iff.1 hfl
          split at hq
          · rename_i c hc
            simp only [Option.some.injEq, Prod.mk.injEq] at hq
            obtain ⟨rfl, _, _⟩ := hq
            exact (q_field_agg h ho hf hfs hfl hsh hx).2 rfl c hc
          · cases hq
        · cases hq
      · cases hq
    · exact q_pure h (by simp [ho]) (qmap (α := RV) hq)
  | indexAddr t x i =>
    simp only [qev, ho] at hq
    split at hq
    · rename_i sz L k n hx hi
      split at hq
      · rename_i cs orc2
        split at hq
        · rename_i sz' hsz
          obtain ⟨hb, hq'⟩ := optB_some hq
          clear hq
          have hb := tsh_len hb
          subst hb
          have hq := hq'
          clear hq'
          simp only [Option.some.injEq, Prod.mk.injEq] at hq
          obtain ⟨rfl, _, rfl⟩ := hq
          exact q_index_rs h ho hx hi hsz hC.1 hC.2
        · cases hq
      · cases hq
    · rename_i id k n hx hi
      split at hq
      · rename_i e sz L hob
        split at hq
        · rename_i sz' hsz
          obtain ⟨hb, hq'⟩ := optB_some hq
          clear hq
          have hb := tsh_len hb
          subst hb
          have hq := hq'
          clear hq'
          simp only [Option.some.injEq, Prod.mk.injEq] at hq
          obtain ⟨rfl, _, rfl⟩ := hq
          exact q_index_sl h ho hx hob hi hsz hC.1 hC.2
        · cases hq
      · rename_i e szs D hob
        split at hq
        · rename_i sz' hsz
          obtain ⟨hb, hq'⟩ := optB_some hq
          clear hq
          have hb := tsh_len hb
          subst hb
          have hq := hq'
          clear hq'
          simp only [Option.some.injEq, Prod.mk.injEq] at hq
          obtain ⟨rfl, _, rfl⟩ := hq
          exact q_index_rows h ho hx hob hi hsz hC.1 hC.2
        · cases hq
      · cases hq
    · cases hq
  | slice t x lo hi mx =>
    simp only [qev, ho] at hq
    split at hq
    · rename_i sz L hx
      split at hq
      · rename_i kl l kh u hlo hhi
        split at hq
        · rename_i sz' hsz
          split at hq
          · rename_i L' orc2
            obtain ⟨hb, hq'⟩ := optB_some hq
            clear hq
            have hb := tsh_len hb
            subst hb
            simp only [Option.some.injEq, Prod.mk.injEq] at hq'
            obtain ⟨rfl, _, rfl⟩ := hq'
            obtain ⟨c1, c2, c3, rfl⟩ := hC
            exact q_slice_rs h ho hx hlo hhi hsz c1 c2 c3
          · cases hq
        · cases hq
      · cases hq
    · rename_i s hx
      split at hq
      · rename_i kl l kh u hlo hhi
        split at hq
        · rename_i ht
          simp only [Option.some.injEq, Prod.mk.injEq] at hq
          obtain ⟨rfl, _, rfl⟩ := hq
          exact q_slice_str h ho hx hlo hhi ht hC.1 hC.2.1 hC.2.2
        · cases hq
      · cases hq
    · rename_i id hx
      exact q_slsl h ho hx hq hC
    · cases hq
  | index t x i => simp [pureO, ho] at hp
  | call c =>
    simp only [qev, ho] at hq
    split at hq
    · rename_i x hcb hargs
      split at hq
      · rename_i sz L hx
        split at hq
        · rename_i e n orc2 ht
          simp only [Option.some.injEq, Prod.mk.injEq] at hq
          obtain ⟨rfl, _, rfl⟩ := hq
          obtain rfl : L.length = n := hC
          obtain ⟨_, _, r⟩ : RsOk g sz L (a.eval x) := ev_ok h hx
          rcases r with ⟨hy | ⟨ad, cp, hy, _⟩, rfl⟩ | ⟨b, of, cap, cc, hy, _⟩
          · exact ⟨_, rfl, q_len h ho hcb hargs ht hy⟩
          · exact ⟨_, rfl, q_len h ho hcb hargs ht hy⟩
          · exact ⟨_, rfl, q_len h ho hcb hargs ht hy⟩
        · cases hq
      · rename_i id hx
        split at hq
        · rename_i e sz L e' n orc2 hob ht
          simp only [Option.some.injEq, Prod.mk.injEq] at hq
          obtain ⟨rfl, _, rfl⟩ := hq
          obtain rfl : L.length = n := hC
          have hy : a.eval x = ρ id := (ev_ok h hx : CC ρ g (.sl id) _).1
          obtain ⟨⟨_, r⟩, _, _⟩ := h.ob.ok _ (look_mem hob)
          rcases r with ⟨hr, h0⟩ | ⟨b, cap, cur, hr, _⟩
          · have hr' : ρ id = .slice none 0 0 := hr
            rw [h0]
            exact ⟨_, rfl, q_len h ho hcb hargs ht (hy.trans hr')⟩
          · have hr' : ρ id = .slice (some ⟨b, 0, none⟩) L.length cap := hr
            exact ⟨_, rfl, q_len h ho hcb hargs ht (hy.trans hr')⟩
        · cases hq
      · exact q_pure h (by simp [ho]) (qmap (α := RV) hq)
    · exact q_pure h (by simp [ho]) (qmap (α := RV) hq)
    · exact q_pure h (by simp [ho]) (qmap (α := RV) hq)
    · rename_i f hcv
      simp [pureO, ho, hcv] at hp
    · cases hq
  | makeFunc fn first captured => simp [pureO, ho] at hp
  | makeInterface t x => simp [pureO, ho] at hp
  | lookup t m x ok => simp [pureO, ho] at hp
  | _ => simp only [qev, ho] at hq; cases hq
end
end Go.Sx
