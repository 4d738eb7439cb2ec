/-
  Parts of what is proved for this claim; each declaration is one of the seat's texts.
-/
import Derived.Test.YtcallmnhaikfpaaGreatDoorTPF
import Derived.Test.YtcallmnhaikfpaaGreatDoorCards
import Derived.Test.YtcallmnhaikfpaaGreatDoorTie
import Derived.WalkKit
import Derived.ProofKit
import Derived.OpenShut
import Derived.Deep.DeepHandedRow
import Derived.Lib.LaidTab
import Derived.LaidMore
set_option linter.unusedVariables false
set_option linter.unusedSimpArgs false
namespace Go.Proofs.YtcallmnhaikfpaaGreatDoor
open Go Go.RowKit Go.Deep Go.ChangeShapes Go.WideShapes Go.ChangeAt
theorem tPow : (Tryz.prog.globalNamed "internal/strconv.uint64pow10").bind (fun g => (Tryz.prog.globals[g]?).map (·.type)) = some 236 := by kernel_rfl
theorem cPow : Tryz.prog.cellsOf 236 = 20 := by kernel_rfl
theorem cPow1 : Tryz.prog.cellsOf 35 = 1 := by kernel_rfl
theorem tab_of_laid {W : World} (h : laidMetH Tryz.prog Rows.logTakesRow.laid W) : Tab W := by
  have h' : laidMet Tryz.prog Rows.logTakesRow.laid W := h
  obtain ⟨ps, ⟨g0, t0, cs0, f0, p0, q0, hg0, ht0, hv0, hd0, ⟨g1, t1, cs1, f1, p1, q1, hg1, ht1, hv1, hd1, ⟨g2, t2, cs2, f2, p2, q2, hg2, ht2, hv2, hd2, _, _⟩, _⟩, _⟩, _⟩ := h'
  have ht := tPow
  rw [hg2, Option.bind_some] at ht
  obtain rfl := Option.some.inj (ht.symm.trans ht2)
  show W.var? Tryz.prog "internal/strconv.uint64pow10" = _
  rw [hv2, ← Lib.cells_of_tab (zs := Lib.pow10Tab) Tryz.underlying236 Tryz.underlying35 cPow1 cPow hd2]
end Go.Proofs.YtcallmnhaikfpaaGreatDoor
