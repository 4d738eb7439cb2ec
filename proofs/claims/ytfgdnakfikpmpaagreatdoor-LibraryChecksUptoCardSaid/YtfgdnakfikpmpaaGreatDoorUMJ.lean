/-
  Parts of what is proved for this claim; each declaration is one of the seat's texts.
-/
import Derived.Test.YtfgdnakfikpmpaaGreatDoorUGA
import Derived.Test.YtfgdnakfikpmpaaGreatDoorUGB
import Derived.Test.YtfgdnakfikpmpaaGreatDoorUGC
import Derived.Test.YtfgdnakfikpmpaaGreatDoorUGD
import Derived.Test.YtfgdnakfikpmpaaGreatDoorUGK
import Derived.Test.YtfgdnakfikpmpaaGreatDoorUPA
import Derived.Test.YtfgdnakfikpmpaaGreatDoorUPB
import Derived.Test.YtfgdnakfikpmpaaGreatDoorUGQ
import Derived.Test.YtfgdnakfikpmpaaGreatDoorUPG
import Derived.Test.YtfgdnakfikpmpaaGreatDoorUPH
import Derived.Test.YtfgdnakfikpmpaaGreatDoorUPF
import Derived.Test.YtfgdnakfikpmpaaGreatDoorUPT
import Derived.Test.YtfgdnakfikpmpaaGreatDoorUKB
import Derived.Test.YtfgdnakfikpmpaaGreatDoorULF
import Derived.Test.YtfgdnakfikpmpaaGreatDoorULK
import Derived.Test.YtfgdnakfikpmpaaGreatDoorUMA
import Derived.Test.YtfgdnakfikpmpaaGreatDoorUMD
import Derived.Test.YtfgdnakfikpmpaaGreatDoorUMG
import Derived.Test.YtfgdnakfikpmpaaGreatDoorUMI
import Derived.WalkKit
import Derived.WalkSpells
import Derived.WalkLawsBesides
import Derived.ProofKit
import Derived.Deep.Slices
import Derived.Deep.AppendSrc
import Derived.Lib.Hide
import Derived.Lib.ItoaNum
import Derived.Lib.Join
import Derived.Still
import Derived.StillTactics
import Derived.Recover
import Derived.Defers
import Derived.Deep.QuietTactic
import Derived.BigQuiet
import Derived.Handy
import Derived.Laws.Bits64b
import Derived.Lib.Zigzag
import Derived.OwnWalk
import Derived.Deep.DeepCutAuto
import Derived.Deep.LoopGhost
import Derived.Lib.Bytealg
import Derived.Laws.Externs
import Derived.Laws.CopyRow
import Derived.Laws.IdiomCopy
import Derived.Maps.OwnSet
import Derived.Maps.RangeWalk
import Derived.Shelf.SortM.Plain
import Derived.Shelf.SortM.SortNone
import Derived.Ground.SlgmProg
import Derived.Deep.WholeRow
import Derived.Maps.OwnOps
import Derived.Lib.ParseIntB
import Derived.Lib.Split
import Derived.Lib.SplitLaws
import Derived.Lib.IndexBytes
import Derived.Maps.Views
import Derived.Shelf.Strconv.Itoa4
import Derived.Shelf.Strings.BuilderK
import Derived.Shelf.Strings.OnBuilder
import Derived.Ground.NamesProg
import Derived.Lib.AppendIntMem
import Derived.Lib.UnsafeStr
import Derived.Shelf.Pu.ParseUintPublic10
import Derived.Shelf.Strconv.ParseIntPublic10
import Derived.Shelf.Strings.Search2
import Derived.Shelf.Strings.Prefix
import Derived.Ground.MpProg
import Derived.Lib.ParseIntBCases
import Derived.Lib.ParseIntBTie
import Derived.Deep.CutBlock
import Derived.Shelf.Strings.SplitCore
import Derived.Shelf.Strings.Search3
import Derived.Shelf.Strings.Count
import Derived.Laws.OwnMore
import Derived.Shelf.SlIter.Nil
import Derived.Ground.GgzProg
import Derived.Sort.KeysCollected
set_option linter.unusedVariables false
set_option linter.unusedSimpArgs false
namespace Go.Proofs.YtfgdnakfikpmpaaGreatDoor
open Go Go.RowKit Go.Deep
theorem libCheckP_any (w : World) (S : Nat → Prop) (cs : Array Value) (p : Prc) (h : Rd procSh w S cs.toList p) (hl : p.Lens) :
    Calls Tryz.prog 17 #[.agg cs] w fun e w' => e = .returned (.int .i64 p.chk) ∧ RowKit.Hid (Keep No w w') := by
  obtain ⟨a1, c1, a2, c2, a3, c3, a4, c4, a5, c5, hcs, h1, h2, h3, h4, h5, -⟩ := proc_cells h
  obtain rfl : cs = #[.string p.name, .slice a1 p.kinds.length c1, .bool p.dep, .slice a2 p.reads.length c2, .slice a3 p.writes.length c3, .int .i64 p.pgm.args, .slice a4 p.pgm.consts.length c4, .slice a5 p.pgm.code.length c5] := by
    cases cs; simp at hcs; rw [hcs]
  refine (libCheck_any w S p.kinds.length p.reads.length p.writes.length c1 c2 c3 a1 a2 a3 (.slice a4 p.pgm.consts.length c4) (.slice a5 p.pgm.code.length c5) p _ rfl rfl rfl h1 h2 h3 (by have := hl.name; omega) (by have := hl.reads; have := hl.writes; omega) (pgSays_any h4 h5)).mono ?_
  rintro e w2 ⟨rfl, hk⟩
  exact ⟨rfl, hk⟩
set_option maxRecDepth 10000 in
set_option maxHeartbeats 8000000 in
theorem LibraryChecks_main (w : World) (ht : Tab w ∧ Errs w ∧ KindsW w) (S : Nat → Prop) (cs : List Value) (p : Prc) (h : Rd procSh w S cs p) (hs : p.Small) :
    Calls Tryz.prog 3 #[.agg cs.toArray] w fun e w' => e = .returned (.bool true) ∧ Keep No w w' := by
  have h0 := h
  obtain ⟨a1, c1, a2, c2, a3, c3, a4, c4, a5, c5, rfl, h1, h2, h3, h4, h5, -⟩ := proc_cells h
  have K1 := (Keep.refl No w).alloc (.cells #[.string p.name, .slice a1 p.kinds.length c1, .bool p.dep, .slice a2 p.reads.length c2, .slice a3 p.writes.length c3, .int .i64 p.pgm.args, .slice a4 p.pgm.consts.length c4, .slice a5 p.pgm.code.length c5] 29)
  have x1 := blk_new w (.cells #[.string p.name, .slice a1 p.kinds.length c1, .bool p.dep, .slice a2 p.reads.length c2, .slice a3 p.writes.length c3, .int .i64 p.pgm.args, .slice a4 p.pgm.consts.length c4, .slice a5 p.pgm.code.length c5] 29)
  have q1 := blk_cell x1
  have HLV : RowKit.Hid (∀ W, Keep No w W → Calls Tryz.prog 14 #[] W fun e w' => e = .returned (.bool true) ∧ RowKit.Hid (Keep No w w')) := fun W hW => (live8_any W (ht.1.keep hW) (ht.2.1.keep hW) (ht.2.2.keep hW (fun x => x))).mono (by rintro e w' ⟨rfl, hk⟩; exact ⟨rfl, hW.trans hk.out⟩)
  obtain ⟨lb, hlb⟩ : ∃ lb, largeB p = lb := ⟨_, rfl⟩
  have hlg := (large_any (w.alloc (.cells #[.string p.name, .slice a1 p.kinds.length c1, .bool p.dep, .slice a2 p.reads.length c2, .slice a3 p.writes.length c3, .int .i64 p.pgm.args, .slice a4 p.pgm.consts.length c4, .slice a5 p.pgm.code.length c5] 29)) a1 a2 a3 a4 a5 c1 c2 c3 c4 c5 p ⟨slice_len h1, slice_len h2, slice_len h3, slice_len h4, slice_len h5⟩).mono (R' := fun e w2 => e = .returned (.bool lb) ∧ w2.heap[w.heap.size]? = some (.cells #[.string p.name, .slice a1 p.kinds.length c1, .bool p.dep, .slice a2 p.reads.length c2, .slice a3 p.writes.length c3, .int .i64 p.pgm.args, .slice a4 p.pgm.consts.length c4, .slice a5 p.pgm.code.length c5] 29 (0, 0)) ∧ RowKit.Hid (Keep No w w2)) (by
    rintro e w2 ⟨rfl, hk⟩
    exact ⟨by rw [hlb], hk.out.blk x1 (fun x => x), K1.trans hk.out⟩)
  cases lb with
  | true =>
    clear h0 h1 h2 h3 h4 h5 K1 x1 h ht hlb
    go_enter Tryz.func3, Tryz.ntmps3
    go_wp2_with (first | (go_at_call 13; refine hlg.mono ?_; clear hlg; rintro e w3 ⟨rfl, x3, HK3⟩) | (go_at_call 14; refine (HLV.out _ HK3.out).mono ?_; rintro e w4 ⟨rfl, HK4⟩))
    go_ret
    exact ⟨rfl, HK4.out⟩
  | false =>
    have HOW : RowKit.Hid (∀ W, Keep No w W → Calls Tryz.prog 15 #[.agg #[.string p.name, .slice a1 p.kinds.length c1, .bool p.dep, .slice a2 p.reads.length c2, .slice a3 p.writes.length c3, .int .i64 p.pgm.args, .slice a4 p.pgm.consts.length c4, .slice a5 p.pgm.code.length c5]] W fun e w2 => ∃ b1 d1 b2 d2 b3 d3 b4 d4 b5 d5, e = .returned (.agg #[.string p.name, .slice b1 p.kinds.length d1, .bool p.dep, .slice b2 p.reads.length d2, .slice b3 p.writes.length d3, .int .i64 p.pgm.args, .slice b4 p.pgm.consts.length d4, .slice b5 p.pgm.code.length d5]) ∧ RowKit.Hid (Rd procSh w2 (Fr W.heap.size w2.heap.size) #[.string p.name, .slice b1 p.kinds.length d1, .bool p.dep, .slice b2 p.reads.length d2, .slice b3 p.writes.length d3, .int .i64 p.pgm.args, .slice b4 p.pgm.consts.length d4, .slice b5 p.pgm.code.length d5].toList p ∧ Keep No W w2)) := fun W hW => own8_cells W S #[.string p.name, .slice a1 p.kinds.length c1, .bool p.dep, .slice a2 p.reads.length c2, .slice a3 p.writes.length c3, .int .i64 p.pgm.args, .slice a4 p.pgm.consts.length c4, .slice a5 p.pgm.code.length c5] p (h0.agree procSh hW.agreeNo) hs.lens
    have HLC : RowKit.Hid (∀ (W : World) (T : Nat → Prop) (cs : Array Value), Rd procSh W T cs.toList p → Calls Tryz.prog 17 #[.agg cs] W fun e w2 => e = .returned (.int .i64 p.chk) ∧ RowKit.Hid (Keep No W w2)) := fun W T cs hr => libCheckP_any W T cs p hr hs.lens
    have HRC : RowKit.Hid (∀ W, Keep No w W → Calls Tryz.prog 18 #[.agg #[.string p.name, .slice a1 p.kinds.length c1, .bool p.dep, .slice a2 p.reads.length c2, .slice a3 p.writes.length c3, .int .i64 p.pgm.args, .slice a4 p.pgm.consts.length c4, .slice a5 p.pgm.code.length c5]] W fun e w2 => e = .returned (.int .i64 p.chk) ∧ RowKit.Hid (Keep No W w2)) := fun W hW => rCheckP_any W S _ p (h0.agree procSh hW.agreeNo) hs
    have HSM : RowKit.Hid (∀ (W : World) (T : Nat → Prop) (cs : Array Value), Keep No w W → Rd procSh W T cs.toList p → Calls Tryz.prog 19 #[.agg cs, .agg #[.string p.name, .slice a1 p.kinds.length c1, .bool p.dep, .slice a2 p.reads.length c2, .slice a3 p.writes.length c3, .int .i64 p.pgm.args, .slice a4 p.pgm.consts.length c4, .slice a5 p.pgm.code.length c5]] W fun e w2 => e = .returned (.bool true) ∧ RowKit.Hid (Keep No W w2)) := fun W T cs hW hr => by
      have := rSameP_eq W T S cs.toList _ p hr (h0.agree procSh hW.agreeNo)
      rw [Array.toArray_toList] at this
      exact this
    clear h0 h1 h2 h3 h4 h5 K1 x1 h ht hlb hs
    generalize p.chk = ce at *
    go_enter Tryz.func3, Tryz.ntmps3
    go_upto_region 4 with (first | (go_at_call 13; refine hlg.mono ?_; clear hlg; rintro e w3 ⟨rfl, x3, HK3⟩; have q3 := blk_cell x3; clear q1) | (go_at_call 15; refine (HOW.out _ HK3.out).mono ?_; rintro e w4 ⟨b1, d1, b2, d2, b3, d3, b4, d4, b5, d5, rfl, H4⟩; have K4 := Lib.hid (HK3.out.trans H4.out.2); have X4 := Lib.hid (H4.out.2.blk x3 (fun x => x)); clear q3))
    have K5 := Lib.hid ((K4.out.alloc (.cells #[.string p.name, .slice b1 p.kinds.length d1, .bool p.dep, .slice b2 p.reads.length d2, .slice b3 p.writes.length d3, .int .i64 p.pgm.args, .slice b4 p.pgm.consts.length d4, .slice b5 p.pgm.code.length d5] 29)).drew)
    have x5 : ((w4.alloc (.cells #[.string p.name, .slice b1 p.kinds.length d1, .bool p.dep, .slice b2 p.reads.length d2, .slice b3 p.writes.length d3, .int .i64 p.pgm.args, .slice b4 p.pgm.consts.length d4, .slice b5 p.pgm.code.length d5] 29)).drew).heap[w.heap.size]? = some (.cells #[.string p.name, .slice a1 p.kinds.length c1, .bool p.dep, .slice a2 p.reads.length c2, .slice a3 p.writes.length c3, .int .i64 p.pgm.args, .slice a4 p.pgm.consts.length c4, .slice a5 p.pgm.code.length c5] 29 (0, 0)) := blk_alloc (o' := .cells #[.string p.name, .slice b1 p.kinds.length d1, .bool p.dep, .slice b2 p.reads.length d2, .slice b3 p.writes.length d3, .int .i64 p.pgm.args, .slice b4 p.pgm.consts.length d4, .slice b5 p.pgm.code.length d5] 29) X4.out
    have y5 : ((w4.alloc (.cells #[.string p.name, .slice b1 p.kinds.length d1, .bool p.dep, .slice b2 p.reads.length d2, .slice b3 p.writes.length d3, .int .i64 p.pgm.args, .slice b4 p.pgm.consts.length d4, .slice b5 p.pgm.code.length d5] 29)).drew).heap[w4.heap.size]? = some (.cells #[.string p.name, .slice b1 p.kinds.length d1, .bool p.dep, .slice b2 p.reads.length d2, .slice b3 p.writes.length d3, .int .i64 p.pgm.args, .slice b4 p.pgm.consts.length d4, .slice b5 p.pgm.code.length d5] 29 (0, 0)) := blk_new w4 _
    have hr5 := H4.out.1.agree procSh ((Keep.refl No w4).alloc (.cells #[.string p.name, .slice b1 p.kinds.length d1, .bool p.dep, .slice b2 p.reads.length d2, .slice b3 p.writes.length d3, .int .i64 p.pgm.args, .slice b4 p.pgm.consts.length d4, .slice b5 p.pgm.code.length d5] 29)).drew.agreeNo
    have q5 := blk_cell x5
    have r5 := blk_cell y5
    have HR5 := Lib.hid hr5
    have XY := Lib.hid (And.intro x5 y5)
    clear x3 hr5 x5 y5
    refine wp_region_canw [0, 3, 1, 2, 4, 5, 6, 7, 8, 9, 10, 11, 12, 13, 14] [1, 2, 4, 9, 12] [(3, 1), (3, 2)] (by kernel_rfl) (by kernel_rfl) (by kernel_rfl) (by kernel_rfl) (by intro c a d v w h; cases d <;> exact h) ?_
    generalize ((w4.alloc (.cells #[.string p.name, .slice b1 p.kinds.length d1, .bool p.dep, .slice b2 p.reads.length d2, .slice b3 p.writes.length d3, .int .i64 p.pgm.args, .slice b4 p.pgm.consts.length d4, .slice b5 p.pgm.code.length d5] 29)).drew) = w5 at *
    generalize w4.heap.size = Q at *
    iterate 2 (refine canw_sil rfl rfl (fun K hK => ?_); go_simp; refine hK _ ?_; clear hK K)
    refine canw_loud [3] rfl rfl rfl (fun K hK => ?_)
    go_wp2_with (go_at_call 17; refine (HLC.out _ _ _ HR5.out).mono ?_; rintro e w6 ⟨rfl, HK6⟩; have q6 := blk_cell (HK6.out.blk XY.out.1 (fun x => x)); have r6 := blk_cell (HK6.out.blk XY.out.2 (fun x => x)))
    refine Mid.normal (hK _ _ ?_ ?_)
    · simp only [List.forall_mem_cons]
      refine ⟨?_, stabs_nil⟩ <;> exact stab_of rfl (fun K hK => by go_simp; exact hK)
    clear hK K q5 r5
    refine canw_loud [3] rfl rfl rfl (fun K hK => ?_)
    go_wp2_with (go_at_call 16; refine (num8_eq _ _).mono ?_; rintro e w7 ⟨rfl, rfl⟩)
    refine Mid.normal (hK _ _ ?_ ?_)
    · simp only [List.forall_mem_cons]
      refine ⟨?_, stabs_nil⟩ <;> exact stab_of rfl (fun K hK => by go_simp; exact hK)
    clear hK K
    refine canw_loud [] rfl rfl rfl (fun K hK => ?_)
    go_wp2_with (go_at_call 18; refine (HRC.out _ (K5.out.trans HK6.out)).mono ?_; rintro e w8 ⟨rfl, HK8⟩; have q8 := blk_cell ((HK6.out.trans HK8.out).blk XY.out.1 (fun x => x)); have r8 := blk_cell ((HK6.out.trans HK8.out).blk XY.out.2 (fun x => x)))
    refine Mid.normal (hK _ _ stabs_nil ?_)
    clear hK K q6 r6
    iterate 4 (refine canw_sil rfl rfl (fun K hK => ?_); go_simp; refine hK _ ?_; clear hK K)
    refine canw_loud [] rfl rfl rfl (fun K hK => ?_)
    go_wp2_with (go_at_call 19; refine (HSM.out _ _ _ ((K5.out.trans HK6.out).trans HK8.out) (HR5.out.agree procSh (HK6.out.trans HK8.out).agreeNo)).mono ?_; rintro e w9 ⟨rfl, HK9⟩)
    refine Mid.normal (hK _ _ stabs_nil ?_)
    clear hK K q8 r8
    iterate 2 (refine canw_sil rfl rfl (fun K hK => ?_); go_simp; refine hK _ ?_; clear hK K)
    refine canw_loud [] rfl rfl rfl (fun K hK => ?_)
    go_wp2_with (go_at_call 14; refine (HLV.out _ (((K5.out.trans HK6.out).trans HK8.out).trans HK9.out)).mono ?_; rintro e w10 ⟨rfl, HK10⟩)
    refine Mid.normal (hK _ _ stabs_nil ?_)
    clear hK K
    iterate 2 (refine canw_sil rfl rfl (fun K hK => ?_); go_simp; refine hK _ ?_; clear hK K)
    refine canw_nil ?_
    go_wp2_with fail
    go_ret
    exact ⟨rfl, HK10.out⟩
theorem LibraryChecks_calls (w : World) (ht : Tab w ∧ Errs w ∧ KindsW w) (cs : List Value) (p : Prc) (h : Rd procSh w (Lt w.heap.size) cs p) (hb : procSh.bulk p ≤ 1048576) :
    Calls Tryz.prog 3 #[.agg cs.toArray] w fun e w' => e = .returned (.bool true) ∧ Keep No w w' :=
  LibraryChecks_main w ht _ cs p h (prc_small hb)
end Go.Proofs.YtfgdnakfikpmpaaGreatDoor
