/-
  What each claim of this seat uses: facts on the program, and what the listed variables hold, as the contracts want it.
-/
import Derived.Test.YtanfbicgojbnkaaDoorSxQ
import Derived.Test.YtanfbicgojbnkaaDoorRows
import Derived.ChangeOld
import Derived.Below
import Derived.JoinedOf
import Derived.LaidMore
import Derived.Stop.LaidErr
import Derived.MakeChecks
namespace Go.Proofs.YtanfbicgojbnkaaDoor
open Go.Sx Go.RowKit
theorem own : ownKnob Tryd.prog.godebug = none := by kernel_rfl
theorem laidOut : laidOutB Tryd.prog = true := by kernel_rfl
theorem gAll_var {P : Program} {W : World} {nm : String} {g : Nat} {cs : Array Value} (hg : P.globalNamed nm = some g) (h : W.var? P nm = some cs) : gAll W g = some cs := by
  unfold World.var? at h
  rw [hg] at h
  exact h
theorem star : "*" ++ "errors.errorString" = "*errors.errorString" := by decide
theorem row111 (u : TypeId) (h : Tryd.prog.typeName? 3 u = some "*errors.errorString") : u = 111 :=
  typeName_ptr_named (nm := "errors.errorString") (by rw [star]; kernel_rfl) (by kernel_rfl) (by decide) u (by rw [star]; exact h)
theorem tab5 {W : World} (h : laidMetH Tryd.prog Rows.fnManifestRow.laid W) : Tab (gAll W) := by
  rw [MakeChecks.laidMetH_plain _ _ _ (by kernel_rfl)] at h
  have h3 : laidMet Tryd.prog (("internal/strconv.uint64pow10", Lib.tabData .u64 Lib.pow10Tab) :: [("strconv.ErrRange", Rows.laid_strconv_ErrRange), ("strconv.ErrSyntax", Rows.laid_strconv_ErrSyntax)]) W := laidMet.tail (laidMet.tail h)
  have hp := Lib.tabIs_of_head (g := 0) (t := 98) (e := 85) (n := 20) (k := .u64) (zs := Lib.pow10Tab) (by kernel_rfl) (by kernel_rfl) Tryd.underlying98 Tryd.underlying85 (by kernel_rfl) (by kernel_rfl) h3
  have h4 := laidMet.tail h3
  obtain ⟨a1, s1, v1, _⟩ := laid_sentinel (g := 2) (ti := 73) (tp := 111) (te := 113) (ts := 9) h4 (by kernel_rfl) (by kernel_rfl) Tryd.underlying73 row111 Tryd.underlying111 Tryd.underlying113 rfl rfl Tryd.underlying9 (by kernel_rfl) (by kernel_rfl)
  obtain ⟨a2, s2, v2, _⟩ := laid_sentinel (g := 1) (ti := 73) (tp := 111) (te := 113) (ts := 9) (laidMet.tail h4) (by kernel_rfl) (by kernel_rfl) Tryd.underlying73 row111 Tryd.underlying111 Tryd.underlying113 rfl rfl Tryd.underlying9 (by kernel_rfl) (by kernel_rfl)
  exact ⟨gAll_var (by kernel_rfl) hp, ⟨111, _, gAll_var (by kernel_rfl) v2⟩, 111, _, gAll_var (by kernel_rfl) v1⟩
end Go.Proofs.YtanfbicgojbnkaaDoor
