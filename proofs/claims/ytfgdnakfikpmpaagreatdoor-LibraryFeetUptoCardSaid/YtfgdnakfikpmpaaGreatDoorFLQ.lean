/-
  Parts of what is proved for this claim; each declaration is one of the seat's texts.
-/
import Derived.Test.YtfgdnakfikpmpaaGreatDoorFPH
set_option linter.unusedVariables false
set_option linter.unusedSimpArgs false
namespace Go.Proofs.YtfgdnakfikpmpaaGreatDoor
open Go Go.RowKit Go.Deep
theorem findP_none {L : List Prc} {n : ByteArray} : findP L n = none ↔ n ∉ L.map Prc.name := by
  unfold findP
  rw [List.find?_eq_none]
  simp only [decide_eq_true_eq, List.mem_map, not_exists, not_and]
def namesL (L : List Prc) : List ByteArray := setT (L.map Prc.name)
end Go.Proofs.YtfgdnakfikpmpaaGreatDoor
