/-
  Parts of what is proved for this claim; each declaration is one of the seat's texts.
-/
import Derived.Test.YtpjcebajkfeacaaGreatDoorJGA
import Derived.Test.YtpjcebajkfeacaaGreatDoorJGB
import Derived.Test.YtpjcebajkfeacaaGreatDoorJGC
import Derived.Test.YtpjcebajkfeacaaGreatDoorJGK
import Derived.Test.YtpjcebajkfeacaaGreatDoorJGN
import Derived.Test.YtpjcebajkfeacaaGreatDoorJGU
import Derived.Test.YtpjcebajkfeacaaGreatDoorJGV
import Derived.Test.YtpjcebajkfeacaaGreatDoorJHA
import Derived.Test.YtpjcebajkfeacaaGreatDoorJHE
import Derived.Test.YtpjcebajkfeacaaGreatDoorJHF
import Derived.Test.YtpjcebajkfeacaaGreatDoorJHI
import Derived.Test.YtpjcebajkfeacaaGreatDoorJHN
import Derived.Test.YtpjcebajkfeacaaGreatDoorJHQ
import Derived.Test.YtpjcebajkfeacaaGreatDoorJHR
import Derived.WalkKit
import Derived.WalkSpells
import Derived.WalkLawsBesides
import Derived.ProofKit
import Derived.Deep.Slices
import Derived.Deep.AppendSrc
import Derived.Lib.Hide
import Derived.Lib.ItoaNum
import Derived.Lib.Join
import Derived.Still
import Derived.StillTactics
import Derived.Recover
import Derived.Defers
import Derived.Deep.QuietTactic
import Derived.BigQuiet
import Derived.Handy
import Derived.Laws.Bits64b
import Derived.Lib.Zigzag
import Derived.OwnWalk
import Derived.Deep.DeepCutAuto
import Derived.Deep.LoopGhost
import Derived.Lib.Bytealg
import Derived.Laws.Externs
import Derived.Laws.CopyRow
import Derived.Laws.IdiomCopy
import Derived.Maps.OwnSet
import Derived.Maps.RangeWalk
import Derived.Shelf.SortM.Plain
import Derived.Shelf.SortM.SortNone
import Derived.Ground.SlgmProg
import Derived.Maps.OwnOps
import Derived.Shelf.Strconv.Itoa4
import Derived.Shelf.Strings.BuilderK
import Derived.Shelf.Strings.OnBuilder
import Derived.Ground.NamesProg
import Derived.Lib.AppendIntMem
import Derived.Lib.UnsafeStr
import Derived.Deep.WholeRow
import Derived.Maps.Views
set_option linter.unusedVariables false
set_option linter.unusedSimpArgs false
namespace Go.Proofs.YtpjcebajkfeacaaGreatDoor
open Go Go.RowKit Go.Deep
theorem num9_w (w : World) (e : Int) : Calls Tryz.prog 12 #[.int .i64 e] w fun en w' => en = .returned (.int .i64 e) ∧ w = w' :=
  (num9_any w e).mono (by rintro _ _ ⟨rfl, rfl⟩; exact ⟨rfl, rfl⟩)
structure DcW (w : World) (q : Req) (R0 : Nat) (a : Option Addr) (c : Nat) (B m R : Nat) (la : Option Addr) (lc : Nat) (L : List Prc) (W : World) : Prop where
  keep : Keep No w W
  tab : Tab W
  r0 : W.heap[R0]? = some (.cells #[.int .i64 q.client, .int .u64 q.token, .string q.name, .slice a q.args.length c] 29 (0, 0))
  rr : Rd requestSh W (Lt w.heap.size) [.int .i64 q.client, .int .u64 q.token, .string q.name, .slice a q.args.length c] q
  libs : ∃ n, LibsW n W B m R la lc L
  hR : w.heap.size ≤ R0
theorem DcW.more {w : World} {q : Req} {R0 : Nat} {a : Option Addr} {c : Nat} {B m R : Nat} {la : Option Addr} {lc : Nat} {L : List Prc} {W W' : World} (h : DcW w q R0 a c B m R la lc L W) (k : Keep No W W') : DcW w q R0 a c B m R la lc L W' := by
  obtain ⟨n, hl⟩ := h.libs
  exact ⟨h.keep.trans k, h.tab.keep k, k.blk h.r0 (fun x => x), h.rr.agree _ k.agreeNo, ⟨n, hl.keep k⟩, h.hR⟩
end Go.Proofs.YtpjcebajkfeacaaGreatDoor
