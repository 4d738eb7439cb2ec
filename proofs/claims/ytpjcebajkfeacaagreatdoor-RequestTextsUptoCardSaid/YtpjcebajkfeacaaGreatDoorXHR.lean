/-
  Parts of what is proved for this claim; each declaration is one of the seat's texts.
-/
import Derived.Test.YtpjcebajkfeacaaGreatDoorXGA
import Derived.Test.YtpjcebajkfeacaaGreatDoorXGB
import Derived.Test.YtpjcebajkfeacaaGreatDoorXGC
import Derived.Test.YtpjcebajkfeacaaGreatDoorXGD
import Derived.Test.YtpjcebajkfeacaaGreatDoorXGF
import Derived.Test.YtpjcebajkfeacaaGreatDoorXGJ
import Derived.Test.YtpjcebajkfeacaaGreatDoorXGK
import Derived.Test.YtpjcebajkfeacaaGreatDoorXGL
import Derived.Test.YtpjcebajkfeacaaGreatDoorXGU
import Derived.Test.YtpjcebajkfeacaaGreatDoorXGV
import Derived.Test.YtpjcebajkfeacaaGreatDoorXGW
import Derived.Test.YtpjcebajkfeacaaGreatDoorXGX
import Derived.Test.YtpjcebajkfeacaaGreatDoorXHD
import Derived.Test.YtpjcebajkfeacaaGreatDoorXHF
import Derived.Test.YtpjcebajkfeacaaGreatDoorXHL
import Derived.Test.YtpjcebajkfeacaaGreatDoorXHN
import Derived.Test.YtpjcebajkfeacaaGreatDoorXGG
import Derived.Test.YtpjcebajkfeacaaGreatDoorXGI
import Derived.Test.YtpjcebajkfeacaaGreatDoorXGN
import Derived.Test.YtpjcebajkfeacaaGreatDoorXGQ
import Derived.Test.YtpjcebajkfeacaaGreatDoorXHQ
import Derived.WalkKit
import Derived.WalkSpells
import Derived.WalkLawsBesides
import Derived.ProofKit
import Derived.Deep.Slices
import Derived.Deep.AppendSrc
import Derived.Lib.Hide
import Derived.Still
import Derived.StillTactics
import Derived.Recover
import Derived.Defers
import Derived.Deep.QuietTactic
import Derived.BigQuiet
import Derived.Handy
import Derived.Laws.Bits64b
import Derived.Lib.Zigzag
import Derived.OwnWalk
import Derived.Deep.DeepCutAuto
import Derived.Lib.Bytealg
import Derived.Laws.Externs
import Derived.Deep.LoopGhost
import Derived.Laws.CopyRow
import Derived.Laws.IdiomCopy
import Derived.Maps.OwnSet
import Derived.Maps.RangeWalk
import Derived.Shelf.SortM.Plain
import Derived.Shelf.SortM.SortNone
import Derived.Ground.SlgmProg
import Derived.Maps.OwnOps
import Derived.Lib.ItoaNum
import Derived.Lib.Join
import Derived.Shelf.Strconv.Itoa4
import Derived.Shelf.Strings.BuilderK
import Derived.Shelf.Strings.OnBuilder
import Derived.Ground.NamesProg
import Derived.Lib.AppendIntMem
import Derived.Lib.UnsafeStr
import Derived.Deep.WholeRow
import Derived.Maps.Views
set_option linter.unusedVariables false
set_option linter.unusedSimpArgs false
namespace Go.Proofs.YtpjcebajkfeacaaGreatDoor
open Go Go.RowKit Go.Deep
theorem vals_bulk : ∀ (l : List Val), l.length ≤ (l.map valueSh.bulk).sum ∧ ∀ i (h : i < l.length), l[i].text.size ≤ (l.map valueSh.bulk).sum
  | [] => ⟨Nat.le_refl _, fun i h => absurd h (by simp)⟩
  | v :: l => by
    obtain ⟨h1, h2⟩ := vals_bulk l
    have e : valueSh.bulk v = (1 + (1 + ((v.text.size + 1) + 0))) + 1 := rfl
    simp only [List.map_cons, List.sum_cons, List.length_cons]
    refine ⟨by omega, fun i hi => ?_⟩
    cases i with
    | zero => show v.text.size ≤ _; omega
    | succ i => have := h2 i (by omega); simp only [List.getElem_cons_succ]; omega
theorem req_small {q : Req} (h : requestSh.bulk q ≤ 1048576) : q.Small := by
  have e : requestSh.bulk q = (1 + (1 + ((q.name.size + 1) + (((q.args.map valueSh.bulk).sum + 1) + 0)))) + 1 := rfl
  obtain ⟨h1, h2⟩ := vals_bulk q.args
  exact ⟨by omega, by omega, fun i hi => by have := h2 i hi; omega⟩
end Go.Proofs.YtpjcebajkfeacaaGreatDoor
