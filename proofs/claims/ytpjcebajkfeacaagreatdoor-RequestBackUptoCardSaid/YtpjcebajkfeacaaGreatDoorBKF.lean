/-
  Parts of what is proved for this claim; each declaration is one of the seat's texts.
-/
import Derived.Test.YtpjcebajkfeacaaGreatDoorBGA
import Derived.Test.YtpjcebajkfeacaaGreatDoorBGC
import Derived.Test.YtpjcebajkfeacaaGreatDoorBGD
import Derived.Test.YtpjcebajkfeacaaGreatDoorBGF
import Derived.Test.YtpjcebajkfeacaaGreatDoorBGK
import Derived.Test.YtpjcebajkfeacaaGreatDoorBGU
import Derived.Test.YtpjcebajkfeacaaGreatDoorBGV
import Derived.Test.YtpjcebajkfeacaaGreatDoorBGX
import Derived.Test.YtpjcebajkfeacaaGreatDoorBHA
import Derived.Test.YtpjcebajkfeacaaGreatDoorBHF
import Derived.Test.YtpjcebajkfeacaaGreatDoorBHG
import Derived.Test.YtpjcebajkfeacaaGreatDoorBHJ
import Derived.Test.YtpjcebajkfeacaaGreatDoorBHN
import Derived.Test.YtpjcebajkfeacaaGreatDoorBHQ
import Derived.Test.YtpjcebajkfeacaaGreatDoorBHR
import Derived.Test.YtpjcebajkfeacaaGreatDoorBKA
import Derived.Test.YtpjcebajkfeacaaGreatDoorBKB
import Derived.Test.YtpjcebajkfeacaaGreatDoorBKC
import Derived.Test.YtpjcebajkfeacaaGreatDoorBGB
import Derived.Test.YtpjcebajkfeacaaGreatDoorBHB
import Derived.Test.YtpjcebajkfeacaaGreatDoorBHL
import Derived.WalkKit
import Derived.WalkSpells
import Derived.WalkLawsBesides
import Derived.ProofKit
import Derived.Deep.Slices
import Derived.Deep.AppendSrc
import Derived.Lib.Hide
import Derived.Lib.ItoaNum
import Derived.Lib.Join
import Derived.Still
import Derived.StillTactics
import Derived.Recover
import Derived.Defers
import Derived.Deep.QuietTactic
import Derived.BigQuiet
import Derived.Handy
import Derived.Laws.Bits64b
import Derived.Lib.Zigzag
import Derived.OwnWalk
import Derived.Deep.DeepCutAuto
import Derived.Deep.LoopGhost
import Derived.Lib.Bytealg
import Derived.Laws.Externs
import Derived.Laws.CopyRow
import Derived.Laws.IdiomCopy
import Derived.Maps.OwnSet
import Derived.Maps.RangeWalk
import Derived.Shelf.SortM.Plain
import Derived.Shelf.SortM.SortNone
import Derived.Ground.SlgmProg
import Derived.Maps.OwnOps
import Derived.Shelf.Strconv.Itoa4
import Derived.Shelf.Strings.BuilderK
import Derived.Shelf.Strings.OnBuilder
import Derived.Ground.NamesProg
import Derived.Lib.AppendIntMem
import Derived.Lib.UnsafeStr
import Derived.Deep.WholeRow
import Derived.Maps.Views
import Derived.Lib.ParseIntB
import Derived.Shelf.Pu.ParseUintPublic10
import Derived.Shelf.Strconv.ParseIntPublic10
import Derived.Shelf.Strings.Search2
import Derived.Shelf.Strings.Prefix
import Derived.Ground.MpProg
import Derived.Lib.ParseIntBCases
import Derived.Lib.ParseIntBTie
set_option linter.unusedVariables false
set_option linter.unusedSimpArgs false
namespace Go.Proofs.YtpjcebajkfeacaaGreatDoor
open Go Go.RowKit Go.Deep
theorem num_tz (w : World) (e : Int) : Calls Tryz.prog 12 #[.int .i64 e] w fun en w' => en = .returned (.int .i64 e) ∧ w = w' :=
  (num9_any w e).mono (by rintro e w' ⟨rfl, rfl⟩; exact ⟨rfl, rfl⟩)
structure TzW (w : World) (q : Req) (R : Nat) (a : Option Addr) (c : Nat) (W : World) : Prop where
  keep : Keep No w W
  r0 : W.heap[R]? = some (.cells #[.int .i64 q.client, .int .u64 q.token, .string q.name, .slice a q.args.length c] 29 (0, 0))
  rd : ∃ S, Rd requestSh W S [.int .i64 q.client, .int .u64 q.token, .string q.name, .slice a q.args.length c] q
  tab : Tab W
  errs : Errs W
theorem TzW.more {w : World} {q : Req} {R : Nat} {a : Option Addr} {c : Nat} {W W' : World} (h : TzW w q R a c W) (k : Keep No W W') : TzW w q R a c W' := by
  obtain ⟨S, hr⟩ := h.rd
  exact ⟨h.keep.trans k, k.blk h.r0 (fun x => x), ⟨S, hr.agree _ k.agreeNo⟩, h.tab.keep k, h.errs.keep k⟩
structure LayR (q : Req) (R : Nat) (a : Option Addr) (c : Nat) (W : World) : Prop where
  r0 : W.heap[R]? = some (.cells #[.int .i64 q.client, .int .u64 q.token, .string q.name, .slice a q.args.length c] 29 (0, 0))
  rd : ∃ S, Rd requestSh W S [.int .i64 q.client, .int .u64 q.token, .string q.name, .slice a q.args.length c] q
theorem LayR.more {q : Req} {R : Nat} {a : Option Addr} {c : Nat} {W W' : World} (h : LayR q R a c W) (k : Keep No W W') : LayR q R a c W' := by
  obtain ⟨S, hr⟩ := h.rd
  exact ⟨k.blk h.r0 (fun x => x), S, hr.agree _ k.agreeNo⟩
theorem LayR.mk' {q : Req} {a : Option Addr} {c : Nat} {S : Nat → Prop} {W : World} (h : Rd requestSh W S [.int .i64 q.client, .int .u64 q.token, .string q.name, .slice a q.args.length c] q) :
    LayR q W.heap.size a c (W.alloc (.cells #[.int .i64 q.client, .int .u64 q.token, .string q.name, .slice a q.args.length c] 29)) :=
  ⟨blk_new _ _, S, h.agree _ ((Keep.refl No W).alloc _).agreeNo⟩
end Go.Proofs.YtpjcebajkfeacaaGreatDoor
