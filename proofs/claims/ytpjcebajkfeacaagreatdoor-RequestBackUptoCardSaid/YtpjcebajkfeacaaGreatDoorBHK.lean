/-
  Parts of what is proved for this claim; each declaration is one of the seat's texts.
-/
import Derived.Test.YtpjcebajkfeacaaGreatDoorBGA
import Derived.Test.YtpjcebajkfeacaaGreatDoorBGB
import Derived.Test.YtpjcebajkfeacaaGreatDoorBGC
import Derived.Test.YtpjcebajkfeacaaGreatDoorBGK
import Derived.Test.YtpjcebajkfeacaaGreatDoorBGM
import Derived.Test.YtpjcebajkfeacaaGreatDoorBGU
import Derived.Test.YtpjcebajkfeacaaGreatDoorBHA
import Derived.Test.YtpjcebajkfeacaaGreatDoorBHC
import Derived.WalkKit
import Derived.WalkSpells
import Derived.WalkLawsBesides
import Derived.ProofKit
import Derived.Deep.Slices
import Derived.Deep.AppendSrc
import Derived.Lib.Hide
import Derived.Lib.ItoaNum
import Derived.Lib.Join
import Derived.Still
import Derived.StillTactics
import Derived.Recover
import Derived.Defers
import Derived.Deep.QuietTactic
import Derived.BigQuiet
import Derived.Handy
import Derived.Laws.Bits64b
import Derived.Lib.Zigzag
import Derived.OwnWalk
import Derived.Deep.DeepCutAuto
import Derived.Deep.LoopGhost
import Derived.Lib.Bytealg
import Derived.Laws.Externs
import Derived.Laws.CopyRow
import Derived.Laws.IdiomCopy
import Derived.Maps.OwnSet
import Derived.Maps.RangeWalk
import Derived.Shelf.SortM.Plain
import Derived.Shelf.SortM.SortNone
import Derived.Ground.SlgmProg
import Derived.Deep.WholeRow
import Derived.Maps.OwnOps
set_option linter.unusedVariables false
set_option linter.unusedSimpArgs false
namespace Go.Proofs.YtpjcebajkfeacaaGreatDoor
open Go Go.RowKit Go.Deep
set_option maxRecDepth 10000 in
theorem rTakes_any (w : World) : Calls Tryz.prog 249 #[.int .i64 31] w fun e w' => e = .returned (.tuple #[.int .i64 0, .int .i64 0]) ∧ w' = w := by
  go_enter Tryz.func249, Tryz.ntmps249
  go_wp2_with fail
  go_ret2
  exact ⟨rfl, rfl⟩
theorem rOperand_any (w : World) : Calls Tryz.prog 263 #[.int .i64 31] w fun e w' => e = .returned (.int .i64 0) ∧ w' = w := by
  go_enter Tryz.func263, Tryz.ntmps263
  go_wp2_with fail
  go_ret
  exact ⟨rfl, rfl⟩
set_option maxRecDepth 10000 in
theorem rWords_any (w : World) : Calls Tryz.prog 278 #[] w fun e w' => e = .returned (.slice (some ⟨w.heap.size, 0, none⟩) 31 31) ∧ w'.cell? ⟨w.heap.size, 30, none⟩ = some (.string ⟨#[114, 101, 116]⟩) ∧ RowKit.Hid (Keep No w w') := by
  go_enter Tryz.func278, Tryz.ntmps278
  go_wp2_with fail
  go_ret
  refine ⟨rfl, ?_, (Keep.refl No w).alloc _⟩
  have := blk_cell (blk_new w (.cells #[.string ⟨#[99, 111, 110, 115, 116]⟩] 9)) 0
  rw [blk_cell (blk_new w _) 30]
  rfl
set_option maxRecDepth 10000 in
theorem rpWord_any (w : World) : Calls Tryz.prog 262 #[.int .i64 31] w fun e w' => e = .returned (.string ⟨#[114, 101, 116]⟩) ∧ RowKit.Hid (Keep No w w') := by
  go_enter Tryz.func262, Tryz.ntmps262
  go_wp2_with (go_at_call 278; refine (rWords_any _).mono ?_; rintro e w2 ⟨rfl, q2, HK⟩)
  go_ret
  exact ⟨rfl, HK⟩
set_option maxRecDepth 10000 in
theorem rInstr_any (w : World) (v1 v2 v3 : Value) (i1 : v1.oneCell' = true) (i2 : v2.oneCell' = true) (i3 : v3.oneCell' = true) : Calls Tryz.prog 247 #[.agg #[v1, v2, v3], .agg #[.int .i64 31, .int .i64 0]] w fun e w' => e = .returned (.int .i64 0) ∧ RowKit.Hid (Keep No w w') := by
  have K2 := ((Keep.refl No w).alloc (.cells #[v1, v2, v3] 128)).alloc (.cells #[.int .i64 31, .int .i64 0] 197)
  have x2 := blk_new (w.alloc (.cells #[v1, v2, v3] 128)) (.cells #[.int .i64 31, .int .i64 0] 197)
  have q2 := blk_cell x2
  simp only [World.size_alloc] at q2
  have HX := Lib.hid (And.intro K2 x2)
  clear K2 x2
  go_enter Tryz.func247, Tryz.ntmps247
  go_wp2_with (first | (go_at_call 262; refine (rpWord_any _).mono ?_; rintro e w3 ⟨rfl, HK3⟩; have q3 := blk_cell (HK3.out.blk HX.out.2 (fun x => x)); simp only [World.size_alloc] at q3) | (go_at_call 263; refine (rOperand_any _).mono ?_; rintro e w4 ⟨rfl, rfl⟩))
  go_ret
  exact ⟨rfl, HX.out.1.trans HK3.out⟩
set_option maxRecDepth 10000 in
set_option maxHeartbeats 1000000 in
theorem rForm_any (w : World) (n : Int) (h0 : 0 ≤ n) (h8 : n ≤ 8) (a4 : Option Addr) (c4 b5 o5 c5 : Nat) (r0 : w.cell? ⟨b5, o5, none⟩ = some (.int .i64 31)) (r1 : w.cell? ⟨b5, o5 + 1, none⟩ = some (.int .i64 0)) :
    Calls Tryz.prog 223 #[.agg #[.int .i64 n, .slice a4 0 c4, .slice (some ⟨b5, o5, none⟩) 1 c5]] w fun e w' => e = .returned (.tuple #[.int .i64 0, .int .i64 0]) ∧ RowKit.Hid (Keep No w w') := by
  have K1 := (Keep.refl No w).alloc (.cells #[.int .i64 n, .slice a4 0 c4, .slice (some ⟨b5, o5, none⟩) 1 c5] 128)
  have x1 := blk_new w (.cells #[.int .i64 n, .slice a4 0 c4, .slice (some ⟨b5, o5, none⟩) 1 c5] 128)
  have l5 : b5 < w.heap.size := World.block_lt_of_cell? _ _ r0
  have q1 := blk_cell x1
  have HX := Lib.hid (And.intro K1 (And.intro x1 (And.intro l5 (And.intro r0 r1))))
  have i1 : ¬ n < 0 := by omega
  have i2 : ¬ 8 < n := by omega
  clear K1 x1 l5 r0 r1
  go_enter Tryz.func223, Tryz.ntmps223
  go_wp2_with fail
  go_loopg [4] 0 (fun g i wr => g = 0 ∧ i = .int .i64 0 ∧ wr = w.alloc (.cells #[.int .i64 n, .slice a4 0 c4, .slice (some ⟨b5, o5, none⟩) 1 c5] 128))
  case atStart => exact ⟨rfl, rfl, rfl⟩
  case round =>
    obtain ⟨rfl, rfl, rfl⟩ := hrel
    go_wp2_with fail
    go_loopg [5] 1 (fun g i wr => ∃ k : Nat, k ≤ 1 ∧ g = 1 - k ∧ i = .int .i64 k ∧ RowKit.Hid (Keep No (w.alloc (.cells #[.int .i64 n, .slice a4 0 c4, .slice (some ⟨b5, o5, none⟩) 1 c5] 128)) wr))
    case atStart => exact ⟨0, by omega, by omega, rfl, Keep.refl No _⟩
    case round =>
      obtain ⟨k, hk, rfl, rfl, HR⟩ := hrel
      have q2 := blk_cell (HR.out.blk HX.out.2.1 (fun x => x))
      by_cases hk0 : k = 0
      · subst hk0
        have e0 : ((0 : Nat) : Int) = 0 := rfl
        rw [e0]
        have r0 := (HR.out.cell (Nat.lt_of_lt_of_le HX.out.2.2.1 (by simp)) (o := o5) (fun x => x)).trans ((HX.out.1.cell HX.out.2.2.1 (o := o5) (fun x => x)).trans HX.out.2.2.2.1)
        have r1 := (HR.out.cell (Nat.lt_of_lt_of_le HX.out.2.2.1 (by simp)) (o := o5 + 1) (fun x => x)).trans ((HX.out.1.cell HX.out.2.2.1 (o := o5 + 1) (fun x => x)).trans HX.out.2.2.2.2)
        clear hk q1
        go_upto_region 15 with fail
        refine wp_region_canw [0, 1, 2, 3, 4, 5, 6, 7] [6] [] (by kernel_rfl) (by kernel_rfl) (by kernel_rfl) (by kernel_rfl) (by intro c a d v w h; cases d <;> exact h) ?_
        have q3 := blk_cell ((HR.out.trans (Keep.refl No wr).drew).blk HX.out.2.1 (fun x => x))
        have r3 := ((Keep.refl No wr).drew.cell (World.block_lt_of_cell? _ _ r0) (o := o5) (fun x => x)).trans r0
        have r4 := ((Keep.refl No wr).drew.cell (World.block_lt_of_cell? _ _ r0) (o := o5 + 1) (fun x => x)).trans r1
        have HR3 := Lib.hid (HR.out.trans (Keep.refl No wr).drew)
        clear r0 r1 q2 HR
        generalize wr.drew = w3 at *
        iterate 6 (refine canw_sil rfl rfl (fun K hK => ?_); go_simp; refine hK _ ?_; clear hK K)
        refine canw_loud [] rfl rfl rfl (fun K hK => ?_)
        go_wp2_with (go_at_call 247; refine (rInstr_any _ _ _ _ rfl rfl rfl).mono ?_; rintro e w4 ⟨rfl, HK4⟩)
        refine Mid.normal (hK _ _ stabs_nil ?_)
        clear hK K
        iterate 1 (refine canw_sil rfl rfl (fun K hK => ?_); go_simp; refine hK _ ?_; clear hK K)
        refine canw_nil ?_
        go_wp2_with fail
        go_roundg 0
        case measure => omega
        case rel => exact ⟨1, by omega, rfl, by simp, HR3.out.trans HK4.out⟩
      · obtain rfl : k = 1 := by omega
        have e0 : ((1 : Nat) : Int) = 1 := rfl
        rw [e0]
        go_wp2_with fail
        go_ret2
        exact ⟨rfl, HX.out.1.trans HR.out⟩
end Go.Proofs.YtpjcebajkfeacaaGreatDoor
namespace Go.Proofs.YtpjcebajkfeacaaGreatDoor
open Go Go.RowKit Go.Deep
set_option maxRecDepth 10000 in
set_option maxHeartbeats 1000000 in
theorem rLeast_any (w : World) (D K : Nat) (lk : Bool) (q1 : w.cell? ⟨D, 0, none⟩ = some (.int .i64 0)) (q2 : w.cell? ⟨K, 0, none⟩ = some (.bool lk)) :
    Calls Tryz.prog 248 #[.slice (some ⟨D, 0, none⟩) 1 1, .slice (some ⟨K, 0, none⟩) 1 1] w fun e w' => e = .returned (.int .i64 (if lk then -1 else 0)) ∧ w' = w := by
  go_enter Tryz.func248, Tryz.ntmps248
  go_wp2_with fail
  go_loopg [5] 1 (fun g i wr => ∃ k : Nat, k ≤ 1 ∧ g = 1 - k ∧ i = .int .i64 k ∧ wr = w ∧ (k = 1 → lk = true))
  case atStart => exact ⟨0, by omega, by omega, rfl, rfl, fun h => absurd h (by omega)⟩
  case round =>
    obtain ⟨k, hk, rfl, rfl, rfl, hlk⟩ := hrel
    by_cases hk0 : k = 0
    · subst hk0
      have e0 : ((0 : Nat) : Int) = 0 := rfl
      rw [e0]
      cases lk with
      | false =>
        go_wp2_with fail
        go_ret
        exact ⟨rfl, rfl⟩
      | true =>
        go_wp2_with fail
        go_roundg 0
        case measure => omega
        case rel => exact ⟨1, by omega, rfl, by simp, rfl, by simp⟩
    · obtain rfl : k = 1 := by omega
      have e0 : ((1 : Nat) : Int) = 1 := rfl
      rw [e0]
      have := hlk rfl
      subst this
      go_wp2_with fail
      go_ret
      exact ⟨rfl, rfl⟩
set_option maxRecDepth 10000 in
set_option maxHeartbeats 1000000 in
theorem rNexts_any (w : World) (v1 v2 : Value) (i1 : v1.oneCell' = true) (i2 : v2.oneCell' = true) (b5 o5 c5 : Nat) (r0 : w.cell? ⟨b5, o5, none⟩ = some (.int .i64 31)) (r1 : w.cell? ⟨b5, o5 + 1, none⟩ = some (.int .i64 0)) :
    Calls Tryz.prog 250 #[.agg #[v1, v2, .slice (some ⟨b5, o5, none⟩) 1 c5], .int .i64 0] w fun e w' => e = .returned (.slice none 0 0) ∧ RowKit.Hid (Keep No w w') := by
  have l5 : b5 < w.heap.size := World.block_lt_of_cell? _ _ r0
  have K1 := (Keep.refl No w).alloc (.cells #[v1, v2, .slice (some ⟨b5, o5, none⟩) 1 c5] 128)
  have q1 := blk_cell (blk_new w (.cells #[v1, v2, .slice (some ⟨b5, o5, none⟩) 1 c5] 128))
  have r2 := (K1.cell l5 (o := o5) (fun x => x)).trans r0
  have r3 := (K1.cell l5 (o := o5 + 1) (fun x => x)).trans r1
  have HK := Lib.hid K1
  clear K1 r0 r1
  go_enter Tryz.func250, Tryz.ntmps250
  go_wp2_with fail
  go_ret
  exact ⟨rfl, HK.out.alloc _⟩
theorem mk_int (W : World) : (Instr.makeSlice 66 (.int .i64 1) (.int .i64 1)).run Tryz.prog W = .ok (.slice (some ⟨W.heap.size, 0, none⟩) 1 1) (W.alloc (.cells #[.int .i64 0] 3)) := by kernel_rfl
theorem mk_bool (W : World) : (Instr.makeSlice 294 (.int .i64 1) (.int .i64 1)).run Tryz.prog W = .ok (.slice (some ⟨W.heap.size, 0, none⟩) 1 1) (W.alloc (.cells #[.bool false] 4)) := by kernel_rfl
structure RFind (w : World) (n : Int) (v4 v5 : Value) (lk : Bool) (W : World) : Prop where
  keep : Keep No w W
  p : W.heap[w.heap.size]? = some (.cells #[.int .i64 n, v4, v5] 128 (0, 0))
  d : W.heap[w.heap.size + 1]? = some (.cells #[.int .i64 0] 3 (0, 0))
  k : W.heap[w.heap.size + 1 + 1]? = some (.cells #[.bool lk] 4 (0, 0))
theorem RFind.more {w : World} {n : Int} {v4 v5 : Value} {lk : Bool} {W W' : World} (h : RFind w n v4 v5 lk W) (hk : Keep No W W') : RFind w n v4 v5 lk W' :=
  ⟨h.keep.trans hk, hk.blk h.p (fun x => x), hk.blk h.d (fun x => x), hk.blk h.k (fun x => x)⟩
theorem RFind.look {w : World} {n : Int} {v4 v5 : Value} {lk : Bool} {W : World} (h : RFind w n v4 v5 lk W) : RFind w n v4 v5 true (W.setCell ⟨w.heap.size + 1 + 1, 0, none⟩ (.bool true)) := by
  have ks := keep_set W (w.heap.size + 1 + 1) 0 (.bool true)
  have hn : ∀ i, i < w.heap.size + 1 + 1 → ¬ One (w.heap.size + 1 + 1) i := fun i hi e => by have : i = w.heap.size + 1 + 1 := e; omega
  refine ⟨h.keep.setNew (by show w.heap.size ≤ w.heap.size + 1 + 1; omega) _, ks.blk h.p (hn _ (by omega)), ks.blk h.d (hn _ (by omega)), ?_⟩
  have := blk_set h.k 0 (.bool true)
  simpa using this
set_option maxRecDepth 10000 in
set_option maxHeartbeats 2000000 in
theorem rFind0_any (w : World) (n : Int) (a4 : Option Addr) (c4 b5 o5 c5 : Nat) (r0 : w.cell? ⟨b5, o5, none⟩ = some (.int .i64 31)) (r1 : w.cell? ⟨b5, o5 + 1, none⟩ = some (.int .i64 0)) :
    Calls Tryz.prog 224 #[.agg #[.int .i64 n, .slice a4 0 c4, .slice (some ⟨b5, o5, none⟩) 1 c5]] w fun e w' => (∃ v, e = .returned (.tuple #[v, .int .i64 0, .int .i64 0])) ∧ RowKit.Hid (Keep No w w') := by
  have l5 : b5 < w.heap.size := World.block_lt_of_cell? _ _ r0
  have K1 := (Keep.refl No w).alloc (.cells #[.int .i64 n, .slice a4 0 c4, .slice (some ⟨b5, o5, none⟩) 1 c5] 128)
  have x1 := blk_new w (.cells #[.int .i64 n, .slice a4 0 c4, .slice (some ⟨b5, o5, none⟩) 1 c5] 128)
  have q1 := blk_cell x1
  have HX := Lib.hid (And.intro K1 (And.intro x1 (And.intro l5 (And.intro r0 r1))))
  clear K1 x1 r0 r1 l5
  have hm1 := mk_int
  have hm2 := mk_bool
  go_enter Tryz.func224, Tryz.ntmps224
  go_upto_region 3 with fail
  have hR : RFind w n (.slice a4 0 c4) (.slice (some ⟨b5, o5, none⟩) 1 c5) false (((w.alloc (.cells #[.int .i64 n, .slice a4 0 c4, .slice (some ⟨b5, o5, none⟩) 1 c5] 128)).alloc (.cells #[.int .i64 0] 3)).alloc (.cells #[.bool false] 4)) := by
    refine ⟨(HX.out.1.alloc _).alloc _, blk_alloc (blk_alloc HX.out.2.1), blk_alloc ?_, ?_⟩
    · simpa using blk_new (w.alloc (.cells #[.int .i64 n, .slice a4 0 c4, .slice (some ⟨b5, o5, none⟩) 1 c5] 128)) (.cells #[.int .i64 0] 3)
    · simpa using blk_new ((w.alloc (.cells #[.int .i64 n, .slice a4 0 c4, .slice (some ⟨b5, o5, none⟩) 1 c5] 128)).alloc (.cells #[.int .i64 0] 3)) (.cells #[.bool false] 4)
  have HR := Lib.hid hR
  clear hR q1
  generalize (((w.alloc (.cells #[.int .i64 n, .slice a4 0 c4, .slice (some ⟨b5, o5, none⟩) 1 c5] 128)).alloc (.cells #[.int .i64 0] 3)).alloc (.cells #[.bool false] 4)) = w3 at *
  go_wp2_with fail
  go_loopg [7] 0 (fun g i wr => g = 0 ∧ i = .int .i64 1 ∧ wr = w3)
  case atStart => exact ⟨rfl, rfl, rfl⟩
  case round =>
    obtain ⟨rfl, rfl, rfl⟩ := hrel
    go_upto_region 7 with fail
    go_loopg [] 1 (fun g wq => ∃ lk : Bool, g = (if lk then 0 else 1) ∧ RowKit.Hid (RFind w n (.slice a4 0 c4) (.slice (some ⟨b5, o5, none⟩) 1 c5) lk wq))
    case atStart => exact ⟨false, rfl, HR.out⟩
    case round =>
      obtain ⟨lk, rfl, HQ⟩ := hrel
      have hl := rLeast_any wr (w.heap.size + 1) (w.heap.size + 1 + 1) lk (blk_cell HQ.out.d 0) (blk_cell HQ.out.k 0)
      cases lk with
      | false =>
        simp only [Bool.false_eq_true, if_false] at hl
        have q2 := blk_cell HQ.out.look.p
        have q3 := blk_cell HQ.out.look.d
        have p0 := blk_cell HQ.out.p
        have p4 := blk_cell HQ.out.k
        have f4 := blk_fro HQ.out.k
        have r5 := (HQ.out.look.keep.cell HX.out.2.2.1 (o := o5) (fun x => x)).trans HX.out.2.2.2.1
        have r6 := (HQ.out.look.keep.cell HX.out.2.2.1 (o := o5 + 1) (fun x => x)).trans HX.out.2.2.2.2
        have HN := Lib.hid (rNexts_any _ (.int .i64 n) (.slice a4 0 c4) rfl rfl b5 o5 c5 r5 r6)
        go_wp2_with (first | (go_at_call 248; refine hl.mono ?_; clear hl; rintro e w4 ⟨rfl, rfl⟩) | (go_at_call 249; refine (rTakes_any _).mono ?_; rintro e w5 ⟨rfl, rfl⟩) | (go_at_call 250; refine HN.out.mono ?_; clear HN; rintro e w6 ⟨rfl, HK6⟩))
        have HE := Lib.hid (HQ.out.look.more HK6.out)
        clear q2 q3 p0 p4 f4 r5 r6
        go_loopg [13] 0 (fun g i wq => g = 0 ∧ i = .int .i64 0 ∧ wq = w6)
        case atStart => exact ⟨rfl, rfl, rfl⟩
        case round =>
          obtain ⟨rfl, rfl, rfl⟩ := hrel
          go_wp2_with fail
          go_roundg 0
          case measure => simp
          case rel => exact ⟨true, rfl, HE.out⟩
      | true =>
        simp only [if_true] at hl
        go_wp2_with (go_at_call 248; refine hl.mono ?_; clear hl; rintro e w4 ⟨rfl, rfl⟩)
        refine bodyPost_ret (v := .tuple #[.slice (some ⟨w.heap.size + 1, 0, none⟩) 1 1, .int .i64 0, .int .i64 0]) (by simp [results, Tryz.results224, go_sem]) rfl ?_
        exact ⟨⟨_, rfl⟩, HQ.out.keep⟩
set_option maxRecDepth 10000 in
theorem rpCheck_any (w : World) (n : Int) (h0 : 0 ≤ n) (h8 : n ≤ 8) (a4 : Option Addr) (c4 b5 o5 c5 : Nat) (r0 : w.cell? ⟨b5, o5, none⟩ = some (.int .i64 31)) (r1 : w.cell? ⟨b5, o5 + 1, none⟩ = some (.int .i64 0)) :
    Calls Tryz.prog 183 #[.agg #[.int .i64 n, .slice a4 0 c4, .slice (some ⟨b5, o5, none⟩) 1 c5]] w fun e w' => e = .returned (.tuple #[.int .i64 0, .int .i64 0]) ∧ RowKit.Hid (Keep No w w') := by
  have l5 : b5 < w.heap.size := World.block_lt_of_cell? _ _ r0
  have K1 := (Keep.refl No w).alloc (.cells #[.int .i64 n, .slice a4 0 c4, .slice (some ⟨b5, o5, none⟩) 1 c5] 128)
  have x1 := blk_new w (.cells #[.int .i64 n, .slice a4 0 c4, .slice (some ⟨b5, o5, none⟩) 1 c5] 128)
  have hf := (rForm_any _ n h0 h8 a4 c4 b5 o5 c5 ((K1.cell l5 (o := o5) (fun x => x)).trans r0) ((K1.cell l5 (o := o5 + 1) (fun x => x)).trans r1)).mono (R' := fun e w2 => e = .returned (.tuple #[.int .i64 0, .int .i64 0]) ∧ w2.heap[w.heap.size]? = some (.cells #[.int .i64 n, .slice a4 0 c4, .slice (some ⟨b5, o5, none⟩) 1 c5] 128 (0, 0)) ∧ RowKit.Hid (Keep No w w2 ∧ w2.cell? ⟨b5, o5, none⟩ = some (.int .i64 31) ∧ w2.cell? ⟨b5, o5 + 1, none⟩ = some (.int .i64 0))) (by
    rintro e w2 ⟨rfl, hk⟩
    have k2 := K1.trans hk.out
    exact ⟨rfl, hk.out.blk x1 (fun x => x), k2, (k2.cell l5 (o := o5) (fun x => x)).trans r0, (k2.cell l5 (o := o5 + 1) (fun x => x)).trans r1⟩)
  clear K1 x1 r0 r1 l5 h0 h8
  go_enter Tryz.func183, Tryz.ntmps183
  go_wp2_with (first | (go_at_call 223; refine hf.mono ?_; clear hf; rintro e w2 ⟨rfl, x2, H2⟩; have q2 := blk_cell x2) | (go_at_call 224; refine (rFind0_any _ n a4 c4 b5 o5 c5 H2.out.2.1 H2.out.2.2).mono ?_; rintro e w3 ⟨⟨v, rfl⟩, HK3⟩))
  go_ret2
  exact ⟨rfl, H2.out.1.trans HK3.out⟩
end Go.Proofs.YtpjcebajkfeacaaGreatDoor
namespace Go.Proofs.YtpjcebajkfeacaaGreatDoor
open Go Go.RowKit Go.Deep
def OwnI (lo : Nat) (w : World) (v : Value) (l : List Int) : Prop := Own (.int .i64) 3 w (Fr lo w.heap.size) v l
theorem OwnI.app {lo : Nat} {w : World} {v : Value} {l : List Int} (h : OwnI lo w v l) (hlo : lo ≤ w.heap.size) (n : Int) (h0 : -1 ≤ n) (h1 : n ≤ 255) (hl : l.length + 1 ≤ 1048576) :
    ∃ a c w', (Builtin.append_ #[66, 66] 66 #[v, .slice (some ⟨w.heap.size, 0, none⟩) 1 1]).run Tryz.prog (w.alloc (.cells #[.int .i64 n] 3)) = .ok (.slice a (l.length + 1) c) w' ∧ OwnI lo w' (.slice a (l.length + 1) c) (l ++ [n]) ∧ Keep (Fr lo w.heap.size) w w' := by
  obtain ⟨i0, hi0, hz0, hz1, hz2⟩ := info_parts Tryz.infoI
  have h1' : Own (.int .i64) 3 (w.alloc (.cells #[.int .i64 n] 3)) (Fr lo w.heap.size) v l := Own.agree h ((Keep.refl No w).alloc _).agreeNo
  obtain ⟨a, c, w', hr, ho, hk, hs⟩ := Own.append (P := Tryz.prog) (T := No) h1' 66 66 i0 _ 8 Tryz.underlying66 hi0 hz0 hz1 hz2 rfl (blk_new w _) (x := n) ⟨rfl, show (Lit.int .i64 n).wf = true from wf_i64q (by omega) (by omega)⟩ (fun k _ x => x) (by omega) (by omega) 1
  have hsz := hk.size
  simp only [World.size_alloc] at hsz
  refine ⟨a, c, w', hr, Own.mono ho.live fun k hk' => ?_, ((Keep.refl _ w).alloc _).then hk fun i _ hi => hi⟩
  obtain ⟨h1 | h1 | h1, h2⟩ := hk'
  · exact ⟨h1.1, h2⟩
  · exact h1.elim
  · simp only [World.size_alloc] at h1; exact ⟨by omega, h2⟩
def mks (l : List Prt) : List Int := l.filterMap fun p => if p.arg < 0 then none else some p.arg
theorem mks_text (l : List Prt) (t : ByteArray) : mks (l ++ [mkPrt t (-1)]) = mks l := by
  unfold mks
  rw [List.filterMap_append]
  have : ([mkPrt t (-1)].filterMap fun p : Prt => if p.arg < 0 then none else some p.arg) = [] := rfl
  rw [this, List.append_nil]
theorem mks_mark (l : List Prt) (n : Int) (h : 0 ≤ n) : mks (l ++ [mkPrt noText n]) = mks l ++ [n] := by
  unfold mks
  rw [List.filterMap_append]
  congr 1
  have e : (mkPrt noText n).arg = n := rfl
  rw [List.filterMap_cons, e, if_neg (by omega)]
  rfl
theorem mks_len (l : List Prt) : (mks l).length ≤ l.length := List.length_filterMap_le _ _
theorem mks_mem {l : List Prt} {n : Int} (h : n ∈ mks l) : ∃ p ∈ l, p.arg = n ∧ 0 ≤ n := by
  obtain ⟨p, hp, h2⟩ := List.mem_filterMap.1 h
  split at h2
  · cases h2
  · cases h2; exact ⟨p, hp, rfl, by omega⟩
def GivesMk (w : World) (l : List Int) (e : Ending) (w' : World) : Prop := ∃ a c, e = .returned (.tuple #[.slice a l.length c, .bool true]) ∧ OwnI w.heap.size w' (.slice a l.length c) l ∧ Keep No w w'
set_option maxRecDepth 10000 in
set_option maxHeartbeats 4000000 in
theorem marks_ok (t : ByteArray) (l : List Prt) (hl : cutT t = some l) (w : World) : Calls Tryz.prog 197 #[.string t] w (GivesMk w (mks l)) := by
  have hbl := bytesOf_length t
  have h0 : ¬ (t.size = 0 ∨ 64 < t.size) := fun hh => by rw [cutT_none hh] at hl; cases hl
  rw [cutT_some (by omega) (by omega)] at hl
  have i64 : (t.size : Int) ≤ 64 := by omega
  have i65 : (1 : Int) ≤ t.size := by omega
  have HC := Lib.hid (And.intro hbl (And.intro h0 hl))
  clear hl hbl h0
  go_enter Tryz.func197, Tryz.ntmps197
  go_wp2_with fail
  go_loopg [4, 5] t.size (fun g s i wr => ∃ (k : Nat) (v : Value) (out : List Prt), k ≤ t.size ∧ g = t.size - k ∧ s = v ∧ i = .int .i64 k ∧ RowKit.Hid (CutTo (bytesOf t) k out ∧ OwnI w.heap.size wr v (mks out) ∧ Keep No w wr))
  case atStart => exact ⟨0, _, [], by omega, by omega, rfl, rfl, CutTo.start _, Own.nil _ _ _ _, Keep.refl No w⟩
  case round =>
    obtain ⟨k, v, out, hk, rfl, rfl, rfl, HR⟩ := hrel
    have HML := Lib.hid (mks_len out)
    by_cases hlt : k < t.size
    · have j1 : (k : Int) < t.size := by omega
      have j0 : (0 : Int) ≤ k := by omega
      have j3 : (k : Int) ≤ 64 := by omega
      have hl : k < (bytesOf t).length := by rw [HC.out.1]; exact hlt
      have hg := bytesOf_get t k hl hlt
      by_cases hm : (bytesOf t)[k] = 123
      · have hk2 : k + 2 < (bytesOf t).length := Classical.byContradiction fun hh => by
          have := HR.out.1.none (cutU_short _ k hl hm hh); rw [HC.out.2.2] at this; cases this
        have hd : 48 ≤ (bytesOf t)[k + 1] ∧ (bytesOf t)[k + 1] ≤ 57 ∧ (bytesOf t)[k + 2] = 125 := Classical.byContradiction fun hh => by
          have := HR.out.1.none (cutU_nomark _ k hk2 hm hh); rw [HC.out.2.2] at this; cases this
        have hnext := HR.out.1.mark hk2 hm hd
        have ht2 : k + 2 < t.size := by rw [← HC.out.1]; exact hk2
        have ht1 : k + 1 < t.size := Nat.lt_of_succ_lt ht2
        have g1 := bytesOf_get t (k + 1) (Nat.lt_of_succ_lt hk2) ht1
        have g2 := bytesOf_get t (k + 2) hk2 ht2
        rw [hg] at hm
        rw [g1, g2] at hd
        rw [g1] at hnext
        have j4 : (k : Int) + 2 < t.size := by omega
        have j5 : (k : Int) + 1 < t.size := by omega
        obtain ⟨c1, hc1⟩ : ∃ c1 : Int, (t[k + 1].toNat : Int) = c1 := ⟨_, rfl⟩
        rw [hc1] at hd hnext
        obtain ⟨d0, d1, d2⟩ := hd
        have HT := Lib.hid (And.intro hnext (And.intro d0 (And.intro d1 ht2)))
        have n1 : ¬ c1 < 48 := by omega
        have n2 : ¬ 57 < c1 := by omega
        clear hnext hg hl hk hk2 g1 g2
        obtain ⟨av, cv, hv, -⟩ := Own.form HR.out.2.1
        subst hv
        obtain ⟨a3, c3, w2, hrun, ho2, hk2⟩ := HR.out.2.1.app HR.out.2.2.size (c1 - 48) (by omega) (by omega) (by have := HR.out.1.2; have := HML.out; have := HT.out.2.2.2; omega)
        rw [← mks_mark out (c1 - 48) (by omega)] at ho2
        have HO := Lib.hid (And.intro ho2 (HR.out.2.2.thenOwn hk2))
        clear ho2 hk2
        generalize (mks out).length = m at *
        go_wp2_with (at_builtin; refine wpList_app rfl (.tmp 40) (.tmp 47) 66 66 rfl rfl rfl hrun ?_)
        go_roundg (t.size - (k + 3))
        case measure => have := HT.out.2.2.2; omega
        case rel => exact ⟨k + 3, _, _, by have := HT.out.2.2.2; omega, rfl, rfl, by simp, HT.out.1, HO.out.1, HO.out.2⟩
      · have hkc : keyC (bytesOf t)[k] = true := by
          cases hh : keyC (bytesOf t)[k] with
          | true => rfl
          | false => have := HR.out.1.none (cutU_bad _ k hl hm hh); rw [HC.out.2.2] at this; cases this
        have hnext := HR.out.1.text hl hm hkc
        have hsub := sub_one t k hlt
        have hko : keyOk ⟨#[t[k]]⟩ = true := keyOk_one hkc hg
        rw [hg] at hm
        have hm' : ((t[k].toNat : Int) == 123) = false := by simpa using hm
        have hnext' : CutTo (bytesOf t) (k + 1) (out ++ [mkPrt ⟨#[t[k]]⟩ (-1)]) := by
          rw [hg] at hnext
          have hbk : (t[k].toNat : Int).toNat.toUInt8 = t[k] := by simp
          rw [hbk] at hnext
          exact hnext
        have HN := Lib.hid (And.intro hnext' hlt)
        clear hnext hnext' hm hkc hg hl hk
        have hval := rKeyOk_any ⟨#[t[k]]⟩ (by show (1 : Nat) ≤ 9223372036854775807; decide) wr
        rw [hko] at hval
        go_wp2_with (go_at_call 198; refine hval.mono ?_; clear hval; rintro e w3 ⟨rfl, rfl⟩)
        go_roundg (t.size - (k + 1))
        case measure => have := HN.out.2; omega
        case rel => exact ⟨k + 1, _, _, by have := HN.out.2; omega, rfl, rfl, by simp, HN.out.1, by rw [mks_text]; exact HR.out.2.1, HR.out.2.2⟩
    · obtain rfl : k = t.size := by omega
      have hd : cutU (bytesOf t) = some out := by
        have := HR.out.1
        rw [← HC.out.1] at this
        exact this.done
      rw [HC.out.2.2] at hd
      obtain rfl := Option.some.inj hd
      obtain ⟨av, cv, hv, -⟩ := Own.form HR.out.2.1
      subst hv
      clear hd hlt hk
      go_wp2_with fail
      go_ret2
      exact ⟨av, cv, rfl, HR.out.2⟩
theorem ints_cell {w : World} {S : Nat → Prop} {a : Option Addr} {n c : Nat} {l : List Int} (h : Rd (.slice (.int .i64)) w S [.slice a n c] l) (i : Nat) (hi : i < l.length) :
    ∃ b off, a = some ⟨b, off, none⟩ ∧ w.cell? ⟨b, off + i, none⟩ = some (.int .i64 l[i]) := by
  obtain ⟨b, off, row, ha, -, hb, hS, -, hrow, hx⟩ := h.elem' i hi
  obtain ⟨rfl, -⟩ := hx
  have p0 := (hrow 0 (by simp)).1
  simp [Sh.size] at p0
  exact ⟨b, off, ha, p0⟩
set_option maxRecDepth 10000 in
set_option maxHeartbeats 2000000 in
theorem rTemplate_ok (t : ByteArray) (n : Nat) (ht : tmplOk t n = true) (w : World) :
    Calls Tryz.prog 182 #[.string t, .int .i64 n] w (Says w true) := by
  unfold tmplOk at ht
  cases hr : cutT t with
  | none => rw [hr] at ht; cases ht
  | some l =>
    rw [hr] at ht
    simp only at ht
    have hb : ∀ x ∈ mks l, 0 ≤ x ∧ x < n := fun x hx => by
      obtain ⟨p, hp, h1, h2⟩ := mks_mem hx
      have := List.all_eq_true.1 ht p hp
      simp only [decide_eq_true_eq] at this
      omega
    have hm := (marks_ok t l hr w)
    have HB := Lib.hid hb
    clear hb ht hr
    go_enter Tryz.func182, Tryz.ntmps182
    go_wp2_with (go_at_call 197; refine hm.mono ?_; clear hm; rintro e w2 ⟨a, c, rfl, ho, hk⟩)
    have HO := Lib.hid (And.intro (Own.rd ho) (And.intro hk (mks_len l)))
    have h63 := slice_len (Own.rd ho)
    clear ho hk
    generalize mks l = ms at *
    go_loopg [7] ms.length (fun g i wr => ∃ k : Nat, k ≤ ms.length ∧ g = ms.length - k ∧ i = .int .i64 k ∧ wr = w2)
    case atStart => exact ⟨0, by omega, by omega, rfl, rfl⟩
    case round =>
      obtain ⟨k, hk, rfl, rfl, rfl⟩ := hrel
      by_cases hlt : k < ms.length
      · have j1 : (k : Int) < ms.length := by omega
        have j0 : (0 : Int) ≤ k := by omega
        have j3 : (k : Int) ≤ 9223372036854775806 := by omega
        obtain ⟨b, off, rfl, q1⟩ := ints_cell HO.out.1 k hlt
        have hx := HB.out ms[k] (List.getElem_mem hlt)
        have hlow : ¬ (n : Int) ≤ ms[k] := by omega
        have HL := Lib.hid hlt
        generalize ms[k] = x at *
        clear hx hlt hk h63
        go_wp2_with fail
        go_roundg (ms.length - (k + 1))
        case measure => have := HL.out; omega
        case rel => exact ⟨k + 1, by have := HL.out; omega, rfl, by simp, rfl⟩
      · have j1 : ¬ (k : Int) < ms.length := by omega
        clear hlt hk h63
        go_wp2_with fail
        go_ret
        exact ⟨rfl, HO.out.2.1⟩
end Go.Proofs.YtpjcebajkfeacaaGreatDoor
