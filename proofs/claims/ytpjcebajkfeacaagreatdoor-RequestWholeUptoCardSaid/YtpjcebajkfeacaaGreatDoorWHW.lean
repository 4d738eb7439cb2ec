/-
  Parts of what is proved for this claim; each declaration is one of the seat's texts.
-/
import Derived.Test.YtpjcebajkfeacaaGreatDoorWGA
import Derived.Test.YtpjcebajkfeacaaGreatDoorWGB
import Derived.Test.YtpjcebajkfeacaaGreatDoorWGC
import Derived.Test.YtpjcebajkfeacaaGreatDoorWGF
import Derived.Test.YtpjcebajkfeacaaGreatDoorWGI
import Derived.Test.YtpjcebajkfeacaaGreatDoorWGJ
import Derived.Test.YtpjcebajkfeacaaGreatDoorWGK
import Derived.Test.YtpjcebajkfeacaaGreatDoorWGQ
import Derived.Test.YtpjcebajkfeacaaGreatDoorWGU
import Derived.Test.YtpjcebajkfeacaaGreatDoorWGV
import Derived.Test.YtpjcebajkfeacaaGreatDoorWHE
import Derived.Test.YtpjcebajkfeacaaGreatDoorWHL
import Derived.Test.YtpjcebajkfeacaaGreatDoorWGD
import Derived.Test.YtpjcebajkfeacaaGreatDoorWGG
import Derived.Test.YtpjcebajkfeacaaGreatDoorWGL
import Derived.Test.YtpjcebajkfeacaaGreatDoorWGN
import Derived.Test.YtpjcebajkfeacaaGreatDoorWGW
import Derived.Test.YtpjcebajkfeacaaGreatDoorWGX
import Derived.Test.YtpjcebajkfeacaaGreatDoorWHT
import Derived.WalkKit
import Derived.WalkSpells
import Derived.WalkLawsBesides
import Derived.ProofKit
import Derived.Deep.Slices
import Derived.Deep.AppendSrc
import Derived.Lib.Hide
import Derived.Still
import Derived.StillTactics
import Derived.Recover
import Derived.Defers
import Derived.Deep.QuietTactic
import Derived.BigQuiet
import Derived.Handy
import Derived.Laws.Bits64b
import Derived.Lib.Zigzag
import Derived.OwnWalk
import Derived.Deep.DeepCutAuto
import Derived.Lib.Bytealg
import Derived.Laws.Externs
import Derived.Deep.LoopGhost
import Derived.Laws.CopyRow
import Derived.Laws.IdiomCopy
import Derived.Maps.OwnSet
import Derived.Maps.RangeWalk
import Derived.Shelf.SortM.Plain
import Derived.Shelf.SortM.SortNone
import Derived.Ground.SlgmProg
import Derived.Maps.OwnOps
import Derived.Lib.EndianBits
import Derived.OpenShut
import Derived.Lib.VarintBits
import Derived.Lib.ItoaNum
import Derived.Lib.Join
import Derived.Deep.WholeRow
import Derived.Shelf.Strconv.Itoa4
import Derived.Shelf.Strings.BuilderK
import Derived.Shelf.Strings.OnBuilder
import Derived.Ground.NamesProg
import Derived.Lib.AppendIntMem
import Derived.Lib.UnsafeStr
import Derived.Maps.Views
set_option linter.unusedVariables false
set_option linter.unusedSimpArgs false
namespace Go.Proofs.YtpjcebajkfeacaaGreatDoor
open Go Go.RowKit Go.Deep
def Req.sealed (q : Req) : Bytes := if q.check = 0 then sealB q.bytes else []
set_option maxRecDepth 10000 in
set_option maxHeartbeats 1000000 in
theorem rqSeal_any (w : World) (S : Nat → Prop) (cs : List Value) (q : Req) (h : Rd requestSh w S cs q) (hn : q.name.size ≤ 9223372036854775806) :
    Calls Tryz.prog 36 #[.agg cs.toArray] w (PutsC w q.sealed q.check) := by
  obtain ⟨aa, ca, rfl, h4, w1, w2, w3⟩ := req_cells h
  have K1 : Keep No w (w.alloc (.cells #[.int .i64 q.client, .int .u64 q.token, .string q.name, .slice aa q.args.length ca] 29)) := (Keep.refl No w).alloc _
  have hp := (rqPut_any _ S No (.slice none 0 0) [] (rd_nil _ _ _) (by simp) _ q (h.agree _ K1.agreeNo) hn).mono (R' := fun e w3 => ∃ a n c, e = .returned (.tuple #[.slice a n c, .int .i64 q.check]) ∧ RowKit.Hid (OwnB w w3 (.slice a n c) (if q.check = 0 then q.bytes else []))) (by
    rintro e w3 ⟨a, n, c, rfl, ho⟩
    rw [List.nil_append] at ho
    exact ⟨a, n, c, rfl, ho.then K1⟩)
  clear h h4 w1 w2 w3 K1
  by_cases hc : q.check = 0
  · have hl := Req.bytes_length hc
    rw [hc, if_pos rfl] at hp
    have e : q.sealed = sealB q.bytes := by unfold Req.sealed; rw [if_pos hc]
    rw [e, hc]
    have HL := Lib.hid hl
    clear hc hl e
    go_enter Tryz.func36, Tryz.ntmps36
    go_wp2_with fail
    refine hp.mono ?_
    clear hp
    rintro e w3 ⟨a, n, c, rfl, HO⟩
    have hs := (Seal_any w3 _ a n c q.bytes HO.out.rd HO.out.len.symm).mono (R' := fun e w4 => ∃ a4 n4 c4, e = .returned (.tuple #[.slice a4 n4 c4, .int .i64 0]) ∧ RowKit.Hid (OwnB w w4 (.slice a4 n4 c4) (sealB q.bytes))) (by
      rw [if_neg (by have := HL.out; omega), if_neg (by have := HL.out; omega)]
      rintro e w4 ⟨a4, n4, c4, rfl, ho⟩
      exact ⟨a4, n4, c4, rfl, ho.then HO.out.2⟩)
    go_wp2_with fail
    refine hs.mono ?_
    clear hs HO
    rintro e w4 ⟨a4, n4, c4, rfl, HO4⟩
    go_wp2_with fail
    go_ret2
    exact ⟨a4, n4, c4, rfl, HO4.out⟩
  · have e : q.sealed = [] := by unfold Req.sealed; rw [if_neg hc]
    rw [e]
    rw [if_neg hc] at hp
    generalize q.check = ch at *
    have hc' : (ch != 0) = true := by simpa using hc
    clear hc e
    go_enter Tryz.func36, Tryz.ntmps36
    go_wp2_with fail
    refine hp.mono ?_
    clear hp
    rintro e w3 ⟨a, n, c, rfl, HO⟩
    go_wp2_with fail
    go_ret2
    exact ⟨none, 0, 0, rfl, ownB_nil HO.out.2⟩
end Go.Proofs.YtpjcebajkfeacaaGreatDoor
