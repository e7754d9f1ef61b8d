/- The latest starts: whole sweeps. -/
import Derived.Test.YtgfliphofffcaaaGyM
namespace Go.Sx
open Relax (g g_set)
set_option linter.unusedVariables false

theorem mul_mod {k L i : Nat} (h : i < L) : (k * L + i) % L = i := by
  rw [Nat.mul_comm, Nat.mul_add_mod]; exact Nat.mod_eq_of_lt h
theorem spec_sweep (n : Network) (h : NetS n) (hn : netB n = true) (hL : 0 < n.Legs.length) {x : Nat} (hx : x < (plcs n).length) {y0 : List Int} (h0 : y0.length = (plcs n).length) (hb : ∀ v, g y0 v ≤ 9223372036854775807) (k : Nat) :
    loopM (spec_LatestStarts_L3 n (plcs n) (x : Int)) big (Sweep.Y (iA n) (iB n) (lfN n x) x n.Legs.length y0 (k * n.Legs.length), 0) = some (.inl (Sweep.Y (iA n) (iB n) (lfN n x) x n.Legs.length y0 ((k + 1) * n.Legs.length))) := by
  have := loop_go (body := spec_LatestStarts_L3 n (plcs n) (x : Int)) n.Legs.length (fun i => (Sweep.Y (iA n) (iB n) (lfN n x) x n.Legs.length y0 (k * n.Legs.length + i), (i : Int))) (Sweep.Y (iA n) (iB n) (lfN n x) x n.Legs.length y0 ((k + 1) * n.Legs.length)) (big_pos h.legs) (fun i hi => by
    rw [spec_leg n h hn hx _ (Sweep.Y_len h0 _) (Y_big hn hL hx h0 hb _) i hi]
    show _ = some (Ctl.next (Sweep.stp (iA n) (iB n) (lfN n x) x ((k * n.Legs.length + i) % n.Legs.length) _, _))
    rw [mul_mod hi]
    rfl) (by
    rw [show (k + 1) * n.Legs.length = k * n.Legs.length + n.Legs.length by rw [Nat.add_mul, Nat.one_mul]]
    show spec_LatestStarts_L3_b n (plcs n) (x : Int) _ _ = _
    simp [spec_LatestStarts_L3_b])
  simpa using this
theorem spec_sweeps (n : Network) (h : NetS n) (hn : netB n = true) (hL : 0 < n.Legs.length) {x : Nat} (hx : x < (plcs n).length) {y0 : List Int} (h0 : y0.length = (plcs n).length) (hb : ∀ v, g y0 v ≤ 9223372036854775807) :
    loopM (spec_LatestStarts_L2 n (plcs n) (x : Int)) big (y0, 0) = some (.inl (Sweep.Y (iA n) (iB n) (lfN n x) x n.Legs.length y0 ((plcs n).length * n.Legs.length))) := by
  have hp := plcs_len n h
  have := loop_go (body := spec_LatestStarts_L2 n (plcs n) (x : Int)) (plcs n).length (fun k => (Sweep.Y (iA n) (iB n) (lfN n x) x n.Legs.length y0 (k * n.Legs.length), (k : Int))) (Sweep.Y (iA n) (iB n) (lfN n x) x n.Legs.length y0 ((plcs n).length * n.Legs.length)) (show (plcs n).length < 1000000000000 by omega) (fun k hk => by
    have hws : w64 ((k : Int) + 1) = ((k + 1 : Nat) : Int) := by rw [w64_id (by omega) (by omega)]; omega
    show spec_LatestStarts_L2_b n (plcs n) (x : Int) _ _ = _
    unfold spec_LatestStarts_L2_b
    simp only [Int.ofNat_lt, hk, decide_true, cond_true, spec_sweep n h hn hL hx h0 hb k, Option.bind_some, spec_LatestStarts_L3_k, spec_LatestStarts_L3_a, hws]) (by
    show spec_LatestStarts_L2_b n (plcs n) (x : Int) _ _ = _
    simp [spec_LatestStarts_L2_b])
  simp only [Nat.zero_mul] at this
  exact this
end Go.Sx
