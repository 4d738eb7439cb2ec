/-
  Parts of what is proved for this claim; each declaration is one of the seat's texts.
-/
import Derived.Test.YtpjcebajkfeacaaGreatDoorBReF
import Derived.Test.YtpjcebajkfeacaaGreatDoorBKB
import Derived.LaidLaws
import Derived.FnData
set_option linter.unusedVariables false
set_option linter.unusedSimpArgs false
namespace Go.Proofs.YtpjcebajkfeacaaGreatDoor
open Go Go.RowKit Go.Deep Go.ChangeShapes Go.WideShapes Go.ChangeAt
theorem tRange : (Tryz.prog.globalNamed "strconv.ErrRange").bind (fun g => (Tryz.prog.globals[g]?).map (·.type)) = some 161 := by kernel_rfl
theorem tSyntax : (Tryz.prog.globalNamed "strconv.ErrSyntax").bind (fun g => (Tryz.prog.globals[g]?).map (·.type)) = some 161 := by kernel_rfl
theorem gRange : Tryz.prog.globalNamed "strconv.ErrRange" = some 3 := by kernel_rfl
theorem gSyntax : Tryz.prog.globalNamed "strconv.ErrSyntax" = some 2 := by kernel_rfl
theorem env_of_laid {W : World} (h : laidMetH Tryz.prog Rows.requestTextsUptoRow.laid W) : Tab W ∧ Errs W := by
  have h' : laidMet Tryz.prog Rows.requestTextsUptoRow.laid W := h
  obtain ⟨ps, ⟨g0, t0, cs0, f0, p0, q0, hg0, ht0, hv0, hd0, ⟨g1, t1, cs1, f1, p1, q1, hg1, ht1, hv1, hd1, ⟨g2, t2, cs2, f2, p2, q2, hg2, ht2, hv2, hd2, ⟨g3, t3, cs3, f3, p3, q3, hg3, ht3, hv3, hd3, ⟨g4, t4, cs4, f4, p4, q4, hg4, ht4, hv4, hd4, _, _⟩, _⟩, _⟩, _⟩, _⟩, _⟩ := h'
  refine ⟨?_, ?_, ?_⟩
  · have ht := tPow
    rw [hg2, Option.bind_some] at ht
    obtain rfl := Option.some.inj (ht.symm.trans ht2)
    show W.var? Tryz.prog "internal/strconv.uint64pow10" = _
    rw [hv2, ← Lib.cells_of_tab (zs := Lib.pow10Tab) Tryz.underlying283 Tryz.underlying26 cPow1 cPow hd2]
  · have ht := tSyntax
    rw [hg4, Option.bind_some] at ht
    obtain rfl := Option.some.inj (ht.symm.trans ht4)
    obtain ⟨_, u, v, e, -, -⟩ := iface_of_trod Tryz.underlying161 hd4
    refine ⟨u, v, ?_⟩
    rw [World.var?_cell gSyntax hv4 0]
    obtain ⟨l4⟩ := cs4
    have e' : l4 = [.iface u v] := e
    rw [e']
    rfl
  · have ht := tRange
    rw [hg3, Option.bind_some] at ht
    obtain rfl := Option.some.inj (ht.symm.trans ht3)
    obtain ⟨_, u, v, e, -, -⟩ := iface_of_trod Tryz.underlying161 hd3
    refine ⟨u, v, ?_⟩
    rw [World.var?_cell gRange hv3 0]
    obtain ⟨l3⟩ := cs3
    have e' : l3 = [.iface u v] := e
    rw [e']
    rfl
end Go.Proofs.YtpjcebajkfeacaaGreatDoor
