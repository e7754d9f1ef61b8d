/-
  What each claim of this seat uses: facts on the program, and what the listed variables hold, as the contracts want it.
-/
import Derived.Test.YtanfbicgojbnkaaDoorSxQ
import Derived.Test.YtanfbicgojbnkaaDoorRows
import Derived.ChangeOld
import Derived.Below
import Derived.JoinedOf
import Derived.LaidMore
import Derived.Stop.LaidErr
import Derived.MakeChecks
namespace Go.Proofs.YtanfbicgojbnkaaDoor
open Go.Sx Go.RowKit
theorem own : ownKnob Tryd.prog.godebug = none := by kernel_rfl
theorem laidOut : laidOutB Tryd.prog = true := by kernel_rfl
theorem gAll_var {P : Program} {W : World} {nm : String} {g : Nat} {cs : Array Value} (hg : P.globalNamed nm = some g) (h : W.var? P nm = some cs) : gAll W g = some cs := by
  unfold World.var? at h
  rw [hg] at h
  exact h
theorem tab3 {W : World} (h : laidMetH Tryd.prog Rows.fnExactManifestRow.laid W) : Tab (gAll W) := by
  rw [MakeChecks.laidMetH_plain _ _ _ (by kernel_rfl)] at h
  have h3 : laidMet Tryd.prog (("internal/strconv.uint64pow10", Lib.tabData .u64 Lib.pow10Tab) :: []) W := laidMet.tail (laidMet.tail h)
  have hp := Lib.tabIs_of_head (g := 0) (t := 98) (e := 85) (n := 20) (k := .u64) (zs := Lib.pow10Tab) (by kernel_rfl) (by kernel_rfl) Tryd.underlying98 Tryd.underlying85 (by kernel_rfl) (by kernel_rfl) h3
  exact gAll_var (by kernel_rfl) hp
end Go.Proofs.YtanfbicgojbnkaaDoor
