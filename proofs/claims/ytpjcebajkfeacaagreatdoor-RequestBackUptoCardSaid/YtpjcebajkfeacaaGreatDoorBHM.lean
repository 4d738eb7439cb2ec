/-
  Parts of what is proved for this claim; each declaration is one of the seat's texts.
-/
import Derived.Test.YtpjcebajkfeacaaGreatDoorBGA
import Derived.Test.YtpjcebajkfeacaaGreatDoorBGB
import Derived.Test.YtpjcebajkfeacaaGreatDoorBGC
import Derived.Test.YtpjcebajkfeacaaGreatDoorBGK
import Derived.Test.YtpjcebajkfeacaaGreatDoorBHA
import Derived.Test.YtpjcebajkfeacaaGreatDoorBHB
import Derived.Test.YtpjcebajkfeacaaGreatDoorBHE
import Derived.Test.YtpjcebajkfeacaaGreatDoorBHL
import Derived.WalkKit
import Derived.WalkSpells
import Derived.WalkLawsBesides
import Derived.ProofKit
import Derived.Deep.Slices
import Derived.Deep.AppendSrc
import Derived.Lib.Hide
import Derived.Lib.ItoaNum
import Derived.Lib.Join
import Derived.Still
import Derived.StillTactics
import Derived.Recover
import Derived.Defers
import Derived.Deep.QuietTactic
import Derived.BigQuiet
import Derived.Handy
import Derived.Laws.Bits64b
import Derived.Lib.Zigzag
import Derived.OwnWalk
import Derived.Deep.DeepCutAuto
import Derived.Deep.LoopGhost
import Derived.Lib.Bytealg
import Derived.Laws.Externs
import Derived.Laws.CopyRow
import Derived.Laws.IdiomCopy
import Derived.Maps.OwnSet
import Derived.Maps.RangeWalk
import Derived.Shelf.SortM.Plain
import Derived.Shelf.SortM.SortNone
import Derived.Ground.SlgmProg
import Derived.Deep.WholeRow
import Derived.Maps.OwnOps
import Derived.Shelf.Strconv.Itoa4
import Derived.Shelf.Strings.BuilderK
import Derived.Shelf.Strings.OnBuilder
import Derived.Ground.NamesProg
import Derived.Lib.AppendIntMem
import Derived.Lib.UnsafeStr
import Derived.Maps.Views
set_option linter.unusedVariables false
set_option linter.unusedSimpArgs false
namespace Go.Proofs.YtpjcebajkfeacaaGreatDoor
open Go Go.RowKit Go.Deep
set_option maxRecDepth 10000 in
set_option maxHeartbeats 2000000 in
theorem rPut_lib (w : World) (S : Nat → Prop) (B : Nat) (a : Option Addr) (c : Nat) (L : List Prc) (h : RLib w S B a c L) (cs : List Value) (p : Prc) (hr : Rd procSh w S cs p) (hL : L.length ≤ 60) :
    Calls Tryz.prog 134 #[.pointer (some ⟨B, 0, none⟩), .agg cs.toArray] w fun e w' => e = .returned (.tuple #[]) ∧ RPuts w S B L p w' := by
  obtain ⟨a1, c1, a2, c2, a3, c3, a4, c4, a5, c5, rfl, -⟩ := proc_cells hr
  have K1 := (Keep.refl No w).alloc (.cells #[.string p.name, .slice a1 p.kinds.length c1, .bool p.dep, .slice a2 p.reads.length c2, .slice a3 p.writes.length c3, .int .i64 p.pgm.args, .slice a4 p.pgm.consts.length c4, .slice a5 p.pgm.code.length c5] 130)
  have x1 := blk_new w (.cells #[.string p.name, .slice a1 p.kinds.length c1, .bool p.dep, .slice a2 p.reads.length c2, .slice a3 p.writes.length c3, .int .i64 p.pgm.args, .slice a4 p.pgm.consts.length c4, .slice a5 p.pgm.code.length c5] 130)
  have h1 := h.keep K1 (fun _ _ x => x) (fun x => x)
  have HX := Lib.hid (And.intro K1 (And.intro x1 (And.intro h1 (hr.agree _ K1.agreeNo))))
  have HL := Lib.hid hL
  have HLT := Lib.hid (blk_lt h.blk)
  clear K1 x1 h h1 hr hL
  go_enter Tryz.func134, Tryz.ntmps134
  go_upto_region 1 with fail
  generalize w.alloc (.cells #[.string p.name, .slice a1 p.kinds.length c1, .bool p.dep, .slice a2 p.reads.length c2, .slice a3 p.writes.length c3, .int .i64 p.pgm.args, .slice a4 p.pgm.consts.length c4, .slice a5 p.pgm.code.length c5] 130) = wa at *
  go_wp2_with fail
  go_loopg [4] L.length (fun g i wr => ∃ k : Nat, k ≤ L.length ∧ g = L.length - k ∧ i = .int .i64 k ∧ RowKit.Hid (Keep No wa wr))
  case atStart => exact ⟨0, by omega, by omega, rfl, Keep.refl No wa⟩
  case round =>
    obtain ⟨k, hk, rfl, rfl, HK⟩ := hrel
    have HKL := Lib.hid hk
    have j0 : (0 : Int) ≤ k := by omega
    have j3 : (k : Int) ≤ 60 := by have := HL.out; omega
    clear hk
    go_upto_region 2 with fail
    go_cut [24] (fun v wx => ∃ bb : Bool, v = .bool bb ∧ RowKit.Hid ((bb = true → k < L.length) ∧ Keep No wa wx))
    case first =>
      have hl2 := HX.out.2.2.1.keep HK.out (fun _ _ x => x) (fun x => x)
      have x2 := HK.out.blk HX.out.2.1 (fun x => x)
      have q2 := blk_cell x2
      have q3 := blk_cell hl2.blk
      by_cases hlt : k < L.length
      · have j1 : (k : Int) < L.length := by omega
        obtain ⟨b, off, d1, e1, d2, e2, d3, e3, d4, e4, d5, e5, ea, r0, -⟩ := procs_get hl2.rd k hlt
        subst ea
        have HF := Lib.hid hlt
        generalize L[k].name = nk at *
        clear hl2 hlt x2
        go_quiet (fail)
        go_wp2_with fail
        go_meet
        case rel => exact ⟨_, rfl, fun _ => HF.out, HK.out.drewN _⟩
      · have j1 : ¬ (k : Int) < L.length := by omega
        clear hl2 hlt x2
        go_quiet (fail)
        go_wp2_with fail
        go_meet
        case rel => exact ⟨false, rfl, (fun h => by cases h), HK.out.drewN _⟩
    case rest =>
      obtain ⟨bb, rfl, HB⟩ := hcut
      cases bb with
      | true =>
        go_wp2_with fail
        go_roundg (L.length - (k + 1))
        case measure => have := HB.out.1 (by trivial); omega
        case rel => exact ⟨k + 1, HB.out.1 (by trivial), rfl, by simp, HB.out.2⟩
      | false =>
        have hl2 := HX.out.2.2.1.keep (HB.out.2.trans (Keep.refl No wc).drew) (fun _ _ x => x) (fun x => x)
        have x2 := (HB.out.2.trans (Keep.refl No wc).drew).blk HX.out.2.1 (fun x => x)
        have q2 := blk_cell x2
        have q3 := blk_cell hl2.blk
        have HW := Lib.hid (And.intro hl2 (And.intro x2 (HB.out.2.trans (Keep.refl No wc).drew)))
        have hkc : k ≤ c := Nat.le_trans HKL.out (by obtain ⟨a', c', e, h1, -⟩ := hl2.rd; simp only [List.cons.injEq, Value.slice.injEq, and_true, true_and] at e; rw [e.2]; exact h1)
        have hkl := HKL.out
        have hT2 := rd_restO HW.out.1.rd k HKL.out
        clear hl2 x2
        by_cases hck : c = k
        · subst hck
          rw [if_pos rfl, Nat.sub_self] at hT2
          have HT := Lib.hid (And.intro (rd_takeO HW.out.1.rd c HKL.out) (And.intro hT2 (HX.out.2.2.2.agree procSh HW.out.2.2.agreeNo)))
          clear hT2
          have hlt0 : (L.take c).length = c := by have := HKL.out; simp; omega
          have hltd : (L.drop c).length = L.length - c := by simp
          have HLL := Lib.hid (And.intro hlt0 hltd)
          clear hlt0 hltd
          go_upto_region 4 with fail
          refine wp_region_plan (.step 0 (.step 2 (.step 3 (.step 4 (.step 5 (.step 6 (.step 7 (.step 9 (.step 12 (.step 13 (.step 14 (.step 15 (.step 16 (.step 17 (.fork 1 10 (.fork 8 10 (.step 10 (.step 11 (.step 18 (.step 19 (.step 20 (.step 21 .done)))))) (.step 8 (.step 11 (.step 18 (.step 19 (.step 20 (.step 21 .done))))))) (.step 1 (.step 8 (.step 11 (.step 18 (.step 19 (.step 20 (.step 21 .done)))))))))))))))))))))) [1, 8, 10, 11, 18, 21] [(0, 1), (2, 1), (3, 1), (4, 1), (5, 1), (6, 1), (7, 1), (9, 1), (12, 1), (13, 1), (14, 1), (15, 1), (16, 1), (17, 1), (0, 8), (9, 8), (12, 8), (13, 8), (14, 8), (15, 8), (16, 8), (17, 8), (0, 10), (2, 10), (3, 10), (4, 10), (5, 10), (6, 10), (7, 10), (12, 10), (13, 10), (14, 10), (15, 10), (16, 10), (17, 10), (0, 11), (12, 11), (13, 11), (14, 11), (15, 11), (16, 11), (17, 11), (0, 18)] (by kernel_rfl) (by kernel_rfl) (by kernel_rfl) (by kernel_rfl) (by intro c a d v w h; cases d <;> exact h) ?_
          generalize wc.drew = w2 at *
          iterate 14 (refine plan_sil rfl rfl (fun K hK => ?_); go_simp; refine hK _ ?_; clear hK K)
          clear q2 q3
          have KE := Lib.hid ((Keep.refl No w2).alloc (.cells #[] 130))
          have KR := Lib.hid ((Keep.refl No w2).alloc (.cells #[.string p.name, .slice a1 p.kinds.length c1, .bool p.dep, .slice a2 p.reads.length c2, .slice a3 p.writes.length c3, .int .i64 p.pgm.args, .slice a4 p.pgm.consts.length c4, .slice a5 p.pgm.code.length c5] 130))
          refine ⟨?_, ?_⟩
          · refine plan_op [0, 2, 3, 4, 5, 6, 7, 9, 12, 13, 14, 15, 16, 17] rfl rfl (fun K hK => ?_)
            go_wp2_with fail
            have be := blk_cell ((KE.out).blk HW.out.1.blk (fun x => x))
            have pe := blk_cell ((KE.out).blk HW.out.2.1 (fun x => x))
            refine Mid.normal (hK _ _ ?_ ?_)
            · simp only [List.forall_mem_cons]
              refine ⟨fun _ => ?_, fun _ => ?_, fun _ => ?_, fun _ => ?_, fun _ => ?_, fun _ => ?_, fun _ => ?_, fun _ => ?_, fun _ => ?_, fun _ => ?_, fun _ => ?_, fun _ => ?_, fun _ => ?_, fun _ => ?_, fun _ h => (by cases h)⟩ <;> exact stab_of rfl (fun K hK => by go_simp; exact hK)
            clear hK K
            have hE := OwR.empty S KE.out (blk_new w2 (.cells #[] 130)) (Nat.le_refl _)
            refine ⟨?_, ?_⟩
            · obtain ⟨a6, e6, w6, hrun6, ho6, -⟩ := hE.list HT.out.1 (by have := HLL.out; have := HL.out; have := HKL.out; simp; omega)
              simp only [List.nil_append, HLL.out.1, List.length_nil, Nat.zero_add] at hrun6 ho6
              refine plan_op [0, 9, 12, 13, 14, 15, 16, 17] rfl rfl (fun K hK => ?_)
              refine wpList_app rfl (.tmp 28) (.tmp 34) 122 122 rfl rfl rfl hrun6 ?_
              go_wp2_with fail
              have b6 := blk_cell ((ho6.2).blk HW.out.1.blk (fun x => x))
              have p6 := blk_cell ((ho6.2).blk HW.out.2.1 (fun x => x))
              clear hrun6 be pe
              refine Mid.normal (hK _ _ ?_ ?_)
              · simp only [List.forall_mem_cons]
                refine ⟨fun _ => ?_, fun _ => ?_, fun _ => ?_, fun _ => ?_, fun _ => ?_, fun _ => ?_, fun _ => ?_, fun _ => ?_, fun _ h => (by cases h)⟩ <;> exact stab_of rfl (fun K hK => by go_simp; exact hK)
              clear hK K
              have KA := ho6.2.alloc (.cells #[.string p.name, .slice a1 p.kinds.length c1, .bool p.dep, .slice a2 p.reads.length c2, .slice a3 p.writes.length c3, .int .i64 p.pgm.args, .slice a4 p.pgm.consts.length c4, .slice a5 p.pgm.code.length c5] 130)
              refine plan_loud [0, 2, 3, 4, 5, 6, 7, 12, 13, 14, 15, 16, 17] rfl rfl rfl (fun K hK => ?_)
              go_wp2_with fail
              have b7 := blk_cell ((KA).blk HW.out.1.blk (fun x => x))
              have p7 := blk_cell ((KA).blk HW.out.2.1 (fun x => x))
              clear b6 p6
              refine Mid.normal (hK _ _ ?_ ?_)
              · simp only [List.forall_mem_cons]
                refine ⟨fun _ => ?_, fun _ => ?_, fun _ => ?_, fun _ => ?_, fun _ => ?_, fun _ => ?_, fun _ => ?_, fun _ => ?_, fun _ => ?_, fun _ => ?_, fun _ => ?_, fun _ => ?_, fun _ => ?_, fun _ h => (by cases h)⟩ <;> exact stab_of rfl (fun K hK => by go_simp; exact hK)
              clear hK K
              obtain ⟨a8, e8, w8, hrun8, ho8⟩ := (ho6.more ((Keep.refl No w6).alloc (.cells #[.string p.name, .slice a1 p.kinds.length c1, .bool p.dep, .slice a2 p.reads.length c2, .slice a3 p.writes.length c3, .int .i64 p.pgm.args, .slice a4 p.pgm.consts.length c4, .slice a5 p.pgm.code.length c5] 130))).one (blk_new w6 _) HT.out.2.2 (by have := HL.out; have := HKL.out; rw [HLL.out.1]; omega)
              simp only [HLL.out.1] at hrun8 ho8
              refine plan_loud [0, 12, 13, 14, 15, 16, 17] rfl rfl rfl (fun K hK => ?_)
              refine wpList_app rfl (.tmp 35) (.tmp 37) 122 122 rfl rfl rfl hrun8 ?_
              go_wp2_with fail
              have b8 := blk_cell ((ho8.2).blk HW.out.1.blk (fun x => x))
              have p8 := blk_cell ((ho8.2).blk HW.out.2.1 (fun x => x))
              clear hrun8 b7 p7
              refine Mid.normal (hK _ _ ?_ ?_)
              · simp only [List.forall_mem_cons]
                refine ⟨fun _ => ?_, fun _ => ?_, fun _ => ?_, fun _ => ?_, fun _ => ?_, fun _ => ?_, fun _ => ?_, fun _ h => (by cases h)⟩ <;> exact stab_of rfl (fun K hK => by go_simp; exact hK)
              clear hK K
              obtain ⟨a9, e9, w9, hrun9, ho9, -⟩ := ho8.list HT.out.2.1 (by have := HLL.out; have := HL.out; have := HKL.out; simp; omega)
              simp only [List.length_append, HLL.out.1, HLL.out.2, List.length_singleton] at hrun9 ho9
              refine plan_loud [0] rfl rfl rfl (fun K hK => ?_)
              refine wpList_app rfl (.tmp 38) (.tmp 44) 122 122 rfl rfl rfl hrun9 ?_
              go_wp2_with fail
              have b9 := blk_cell ((ho9.2).blk HW.out.1.blk (fun x => x))
              have p9 := blk_cell ((ho9.2).blk HW.out.2.1 (fun x => x))
              have f9 := blk_fro ((ho9.2).blk HW.out.1.blk (fun x => x))
              clear hrun9
              refine Mid.normal (hK _ _ ?_ ?_)
              · simp only [List.forall_mem_cons]
                refine ⟨fun _ => ?_, fun _ h => (by cases h)⟩ <;> exact stab_of rfl (fun K hK => by go_simp; exact hK)
              clear hK K
              iterate 2 (refine plan_sil rfl rfl (fun K hK => ?_); go_simp; refine hK _ ?_; clear hK K)
              refine plan_loud [] rfl rfl rfl (fun K hK => ?_)
              go_wp2_with fail
              refine Mid.normal (hK _ _ (fun _ h => (by cases h)) ?_)
              clear hK K
              refine plan_done ?_
              go_wp2_with fail
              refine bodyPost_end (results_none rfl _ _ _) rfl ?_
              exact ⟨rfl, RPuts.mk (HX.out.1.trans HW.out.2.2) HKL.out HW.out.1 HLT.out (ho9)⟩
            · have KB := KE.out.alloc (.cells #[.string p.name, .slice a1 p.kinds.length c1, .bool p.dep, .slice a2 p.reads.length c2, .slice a3 p.writes.length c3, .int .i64 p.pgm.args, .slice a4 p.pgm.consts.length c4, .slice a5 p.pgm.code.length c5] 130)
              refine plan_op [0, 2, 3, 4, 5, 6, 7, 12, 13, 14, 15, 16, 17] rfl rfl (fun K hK => ?_)
              go_wp2_with fail
              have b7 := blk_cell ((KB).blk HW.out.1.blk (fun x => x))
              have p7 := blk_cell ((KB).blk HW.out.2.1 (fun x => x))
              clear be pe
              refine Mid.normal (hK _ _ ?_ ?_)
              · simp only [List.forall_mem_cons]
                refine ⟨fun _ => ?_, fun _ => ?_, fun _ => ?_, fun _ => ?_, fun _ => ?_, fun _ => ?_, fun _ => ?_, fun _ => ?_, fun _ => ?_, fun _ => ?_, fun _ => ?_, fun _ => ?_, fun _ => ?_, fun _ h => (by cases h)⟩ <;> exact stab_of rfl (fun K hK => by go_simp; exact hK)
              clear hK K
              have hE2 := hE.more ((Keep.refl No (w2.alloc (.cells #[] 130))).alloc (.cells #[.string p.name, .slice a1 p.kinds.length c1, .bool p.dep, .slice a2 p.reads.length c2, .slice a3 p.writes.length c3, .int .i64 p.pgm.args, .slice a4 p.pgm.consts.length c4, .slice a5 p.pgm.code.length c5] 130))
              obtain ⟨a6, e6, w6, hrun6, ho6, hk6⟩ := hE2.list HT.out.1 (by have := HLL.out; have := HL.out; have := HKL.out; simp; omega)
              simp only [List.nil_append, HLL.out.1, List.length_nil, Nat.zero_add] at hrun6 ho6
              have y6 := (hk6 _ _ _ _ rfl).blk (blk_new (w2.alloc (.cells #[] 130)) (.cells #[.string p.name, .slice a1 p.kinds.length c1, .bool p.dep, .slice a2 p.reads.length c2, .slice a3 p.writes.length c3, .int .i64 p.pgm.args, .slice a4 p.pgm.consts.length c4, .slice a5 p.pgm.code.length c5] 130)) (fun e => by have e' : (w2.alloc (.cells #[] 130)).heap.size = w2.heap.size := e; simp only [World.size_alloc] at e'; omega)
              refine plan_loud [0, 9, 12, 13, 14, 15, 16, 17] rfl rfl rfl (fun K hK => ?_)
              refine wpList_app rfl (.tmp 28) (.tmp 34) 122 122 rfl rfl rfl hrun6 ?_
              go_wp2_with fail
              have b6 := blk_cell ((ho6.2).blk HW.out.1.blk (fun x => x))
              have p6 := blk_cell ((ho6.2).blk HW.out.2.1 (fun x => x))
              clear hrun6 b7 p7
              refine Mid.normal (hK _ _ ?_ ?_)
              · simp only [List.forall_mem_cons]
                refine ⟨fun _ => ?_, fun _ => ?_, fun _ => ?_, fun _ => ?_, fun _ => ?_, fun _ => ?_, fun _ => ?_, fun _ => ?_, fun _ h => (by cases h)⟩ <;> exact stab_of rfl (fun K hK => by go_simp; exact hK)
              clear hK K
              obtain ⟨a8, e8, w8, hrun8, ho8⟩ := ho6.one y6 HT.out.2.2 (by have := HL.out; have := HKL.out; rw [HLL.out.1]; omega)
              simp only [HLL.out.1, World.size_alloc] at hrun8 ho8
              refine plan_loud [0, 12, 13, 14, 15, 16, 17] rfl rfl rfl (fun K hK => ?_)
              refine wpList_app rfl (.tmp 35) (.tmp 37) 122 122 rfl rfl rfl hrun8 ?_
              go_wp2_with fail
              have b8 := blk_cell ((ho8.2).blk HW.out.1.blk (fun x => x))
              have p8 := blk_cell ((ho8.2).blk HW.out.2.1 (fun x => x))
              clear hrun8 b6 p6
              refine Mid.normal (hK _ _ ?_ ?_)
              · simp only [List.forall_mem_cons]
                refine ⟨fun _ => ?_, fun _ => ?_, fun _ => ?_, fun _ => ?_, fun _ => ?_, fun _ => ?_, fun _ => ?_, fun _ h => (by cases h)⟩ <;> exact stab_of rfl (fun K hK => by go_simp; exact hK)
              clear hK K
              obtain ⟨a9, e9, w9, hrun9, ho9, -⟩ := ho8.list HT.out.2.1 (by have := HLL.out; have := HL.out; have := HKL.out; simp; omega)
              simp only [List.length_append, HLL.out.1, HLL.out.2, List.length_singleton] at hrun9 ho9
              refine plan_loud [0] rfl rfl rfl (fun K hK => ?_)
              refine wpList_app rfl (.tmp 38) (.tmp 44) 122 122 rfl rfl rfl hrun9 ?_
              go_wp2_with fail
              have b9 := blk_cell ((ho9.2).blk HW.out.1.blk (fun x => x))
              have p9 := blk_cell ((ho9.2).blk HW.out.2.1 (fun x => x))
              have f9 := blk_fro ((ho9.2).blk HW.out.1.blk (fun x => x))
              clear hrun9
              refine Mid.normal (hK _ _ ?_ ?_)
              · simp only [List.forall_mem_cons]
                refine ⟨fun _ => ?_, fun _ h => (by cases h)⟩ <;> exact stab_of rfl (fun K hK => by go_simp; exact hK)
              clear hK K
              iterate 2 (refine plan_sil rfl rfl (fun K hK => ?_); go_simp; refine hK _ ?_; clear hK K)
              refine plan_loud [] rfl rfl rfl (fun K hK => ?_)
              go_wp2_with fail
              refine Mid.normal (hK _ _ (fun _ h => (by cases h)) ?_)
              clear hK K
              refine plan_done ?_
              go_wp2_with fail
              refine bodyPost_end (results_none rfl _ _ _) rfl ?_
              exact ⟨rfl, RPuts.mk (HX.out.1.trans HW.out.2.2) HKL.out HW.out.1 HLT.out (ho9)⟩
          · refine plan_op [0, 2, 3, 4, 5, 6, 7, 12, 13, 14, 15, 16, 17] rfl rfl (fun K hK => ?_)
            go_wp2_with fail
            have b7 := blk_cell ((KR.out).blk HW.out.1.blk (fun x => x))
            have p7 := blk_cell ((KR.out).blk HW.out.2.1 (fun x => x))
            refine Mid.normal (hK _ _ ?_ ?_)
            · simp only [List.forall_mem_cons]
              refine ⟨fun _ => ?_, fun _ => ?_, fun _ => ?_, fun _ => ?_, fun _ => ?_, fun _ => ?_, fun _ => ?_, fun _ => ?_, fun _ => ?_, fun _ => ?_, fun _ => ?_, fun _ => ?_, fun _ => ?_, fun _ h => (by cases h)⟩ <;> exact stab_of rfl (fun K hK => by go_simp; exact hK)
            clear hK K
            have KB := KR.out.alloc (.cells #[] 130)
            refine plan_loud [0, 2, 3, 4, 5, 6, 7, 9, 12, 13, 14, 15, 16, 17] rfl rfl rfl (fun K hK => ?_)
            go_wp2_with fail
            have be := blk_cell ((KB).blk HW.out.1.blk (fun x => x))
            have pe := blk_cell ((KB).blk HW.out.2.1 (fun x => x))
            clear b7 p7
            refine Mid.normal (hK _ _ ?_ ?_)
            · simp only [List.forall_mem_cons]
              refine ⟨fun _ => ?_, fun _ => ?_, fun _ => ?_, fun _ => ?_, fun _ => ?_, fun _ => ?_, fun _ => ?_, fun _ => ?_, fun _ => ?_, fun _ => ?_, fun _ => ?_, fun _ => ?_, fun _ => ?_, fun _ => ?_, fun _ h => (by cases h)⟩ <;> exact stab_of rfl (fun K hK => by go_simp; exact hK)
            clear hK K
            have hE := OwR.empty S KB (blk_new (w2.alloc (.cells #[.string p.name, .slice a1 p.kinds.length c1, .bool p.dep, .slice a2 p.reads.length c2, .slice a3 p.writes.length c3, .int .i64 p.pgm.args, .slice a4 p.pgm.consts.length c4, .slice a5 p.pgm.code.length c5] 130)) (.cells #[] 130)) (by simp)
            obtain ⟨a6, e6, w6, hrun6, ho6, hk6⟩ := hE.list HT.out.1 (by have := HLL.out; have := HL.out; have := HKL.out; simp; omega)
            simp only [List.nil_append, HLL.out.1, List.length_nil, Nat.zero_add] at hrun6 ho6
            have y6 := (hk6 _ _ _ _ rfl).blk (blk_alloc (o' := .cells #[] 130) (blk_new w2 (.cells #[.string p.name, .slice a1 p.kinds.length c1, .bool p.dep, .slice a2 p.reads.length c2, .slice a3 p.writes.length c3, .int .i64 p.pgm.args, .slice a4 p.pgm.consts.length c4, .slice a5 p.pgm.code.length c5] 130))) (fun e => by have e' : w2.heap.size = (w2.alloc (.cells #[.string p.name, .slice a1 p.kinds.length c1, .bool p.dep, .slice a2 p.reads.length c2, .slice a3 p.writes.length c3, .int .i64 p.pgm.args, .slice a4 p.pgm.consts.length c4, .slice a5 p.pgm.code.length c5] 130)).heap.size := e; simp only [World.size_alloc] at e'; omega)
            simp only [World.size_alloc] at hrun6
            refine plan_loud [0, 9, 12, 13, 14, 15, 16, 17] rfl rfl rfl (fun K hK => ?_)
            refine wpList_app rfl (.tmp 28) (.tmp 34) 122 122 rfl rfl rfl hrun6 ?_
            go_wp2_with fail
            have b6 := blk_cell ((ho6.2).blk HW.out.1.blk (fun x => x))
            have p6 := blk_cell ((ho6.2).blk HW.out.2.1 (fun x => x))
            clear hrun6 be pe
            refine Mid.normal (hK _ _ ?_ ?_)
            · simp only [List.forall_mem_cons]
              refine ⟨fun _ => ?_, fun _ => ?_, fun _ => ?_, fun _ => ?_, fun _ => ?_, fun _ => ?_, fun _ => ?_, fun _ => ?_, fun _ h => (by cases h)⟩ <;> exact stab_of rfl (fun K hK => by go_simp; exact hK)
            clear hK K
            obtain ⟨a8, e8, w8, hrun8, ho8⟩ := ho6.one y6 HT.out.2.2 (by have := HL.out; have := HKL.out; rw [HLL.out.1]; omega)
            simp only [HLL.out.1] at hrun8 ho8
            refine plan_loud [0, 12, 13, 14, 15, 16, 17] rfl rfl rfl (fun K hK => ?_)
            refine wpList_app rfl (.tmp 35) (.tmp 37) 122 122 rfl rfl rfl hrun8 ?_
            go_wp2_with fail
            have b8 := blk_cell ((ho8.2).blk HW.out.1.blk (fun x => x))
            have p8 := blk_cell ((ho8.2).blk HW.out.2.1 (fun x => x))
            clear hrun8 b6 p6
            refine Mid.normal (hK _ _ ?_ ?_)
            · simp only [List.forall_mem_cons]
              refine ⟨fun _ => ?_, fun _ => ?_, fun _ => ?_, fun _ => ?_, fun _ => ?_, fun _ => ?_, fun _ => ?_, fun _ h => (by cases h)⟩ <;> exact stab_of rfl (fun K hK => by go_simp; exact hK)
            clear hK K
            obtain ⟨a9, e9, w9, hrun9, ho9, -⟩ := ho8.list HT.out.2.1 (by have := HLL.out; have := HL.out; have := HKL.out; simp; omega)
            simp only [List.length_append, HLL.out.1, HLL.out.2, List.length_singleton] at hrun9 ho9
            refine plan_loud [0] rfl rfl rfl (fun K hK => ?_)
            refine wpList_app rfl (.tmp 38) (.tmp 44) 122 122 rfl rfl rfl hrun9 ?_
            go_wp2_with fail
            have b9 := blk_cell ((ho9.2).blk HW.out.1.blk (fun x => x))
            have p9 := blk_cell ((ho9.2).blk HW.out.2.1 (fun x => x))
            have f9 := blk_fro ((ho9.2).blk HW.out.1.blk (fun x => x))
            clear hrun9
            refine Mid.normal (hK _ _ ?_ ?_)
            · simp only [List.forall_mem_cons]
              refine ⟨fun _ => ?_, fun _ h => (by cases h)⟩ <;> exact stab_of rfl (fun K hK => by go_simp; exact hK)
            clear hK K
            iterate 2 (refine plan_sil rfl rfl (fun K hK => ?_); go_simp; refine hK _ ?_; clear hK K)
            refine plan_loud [] rfl rfl rfl (fun K hK => ?_)
            go_wp2_with fail
            refine Mid.normal (hK _ _ (fun _ h => (by cases h)) ?_)
            clear hK K
            refine plan_done ?_
            go_wp2_with fail
            refine bodyPost_end (results_none rfl _ _ _) rfl ?_
            exact ⟨rfl, RPuts.mk (HX.out.1.trans HW.out.2.2) HKL.out HW.out.1 HLT.out (ho9)⟩
        · rw [if_neg hck] at hT2
          have HT := Lib.hid (And.intro (rd_takeO HW.out.1.rd k HKL.out) (And.intro hT2 (HX.out.2.2.2.agree procSh HW.out.2.2.agreeNo)))
          clear hT2
          have hlt0 : (L.take k).length = k := by have := HKL.out; simp; omega
          have hltd : (L.drop k).length = L.length - k := by simp
          have HLL := Lib.hid (And.intro hlt0 hltd)
          clear hlt0 hltd
          go_upto_region 4 with fail
          refine wp_region_plan (.step 0 (.step 2 (.step 3 (.step 4 (.step 5 (.step 6 (.step 7 (.step 9 (.step 12 (.step 13 (.step 14 (.step 15 (.step 16 (.step 17 (.fork 1 10 (.fork 8 10 (.step 10 (.step 11 (.step 18 (.step 19 (.step 20 (.step 21 .done)))))) (.step 8 (.step 11 (.step 18 (.step 19 (.step 20 (.step 21 .done))))))) (.step 1 (.step 8 (.step 11 (.step 18 (.step 19 (.step 20 (.step 21 .done)))))))))))))))))))))) [1, 8, 10, 11, 18, 21] [(0, 1), (2, 1), (3, 1), (4, 1), (5, 1), (6, 1), (7, 1), (9, 1), (12, 1), (13, 1), (14, 1), (15, 1), (16, 1), (17, 1), (0, 8), (9, 8), (12, 8), (13, 8), (14, 8), (15, 8), (16, 8), (17, 8), (0, 10), (2, 10), (3, 10), (4, 10), (5, 10), (6, 10), (7, 10), (12, 10), (13, 10), (14, 10), (15, 10), (16, 10), (17, 10), (0, 11), (12, 11), (13, 11), (14, 11), (15, 11), (16, 11), (17, 11), (0, 18)] (by kernel_rfl) (by kernel_rfl) (by kernel_rfl) (by kernel_rfl) (by intro c a d v w h; cases d <;> exact h) ?_
          generalize wc.drew = w2 at *
          iterate 14 (refine plan_sil rfl rfl (fun K hK => ?_); go_simp; refine hK _ ?_; clear hK K)
          clear q2 q3
          have KE := Lib.hid ((Keep.refl No w2).alloc (.cells #[] 130))
          have KR := Lib.hid ((Keep.refl No w2).alloc (.cells #[.string p.name, .slice a1 p.kinds.length c1, .bool p.dep, .slice a2 p.reads.length c2, .slice a3 p.writes.length c3, .int .i64 p.pgm.args, .slice a4 p.pgm.consts.length c4, .slice a5 p.pgm.code.length c5] 130))
          refine ⟨?_, ?_⟩
          · refine plan_op [0, 2, 3, 4, 5, 6, 7, 9, 12, 13, 14, 15, 16, 17] rfl rfl (fun K hK => ?_)
            go_wp2_with fail
            have be := blk_cell ((KE.out).blk HW.out.1.blk (fun x => x))
            have pe := blk_cell ((KE.out).blk HW.out.2.1 (fun x => x))
            refine Mid.normal (hK _ _ ?_ ?_)
            · simp only [List.forall_mem_cons]
              refine ⟨fun _ => ?_, fun _ => ?_, fun _ => ?_, fun _ => ?_, fun _ => ?_, fun _ => ?_, fun _ => ?_, fun _ => ?_, fun _ => ?_, fun _ => ?_, fun _ => ?_, fun _ => ?_, fun _ => ?_, fun _ => ?_, fun _ h => (by cases h)⟩ <;> exact stab_of rfl (fun K hK => by go_simp; exact hK)
            clear hK K
            have hE := OwR.empty S KE.out (blk_new w2 (.cells #[] 130)) (Nat.le_refl _)
            refine ⟨?_, ?_⟩
            · obtain ⟨a6, e6, w6, hrun6, ho6, -⟩ := hE.list HT.out.1 (by have := HLL.out; have := HL.out; have := HKL.out; simp; omega)
              simp only [List.nil_append, HLL.out.1, List.length_nil, Nat.zero_add] at hrun6 ho6
              refine plan_op [0, 9, 12, 13, 14, 15, 16, 17] rfl rfl (fun K hK => ?_)
              refine wpList_app rfl (.tmp 28) (.tmp 34) 122 122 rfl rfl rfl hrun6 ?_
              go_wp2_with fail
              have b6 := blk_cell ((ho6.2).blk HW.out.1.blk (fun x => x))
              have p6 := blk_cell ((ho6.2).blk HW.out.2.1 (fun x => x))
              clear hrun6 be pe
              refine Mid.normal (hK _ _ ?_ ?_)
              · simp only [List.forall_mem_cons]
                refine ⟨fun _ => ?_, fun _ => ?_, fun _ => ?_, fun _ => ?_, fun _ => ?_, fun _ => ?_, fun _ => ?_, fun _ => ?_, fun _ h => (by cases h)⟩ <;> exact stab_of rfl (fun K hK => by go_simp; exact hK)
              clear hK K
              have KA := ho6.2.alloc (.cells #[.string p.name, .slice a1 p.kinds.length c1, .bool p.dep, .slice a2 p.reads.length c2, .slice a3 p.writes.length c3, .int .i64 p.pgm.args, .slice a4 p.pgm.consts.length c4, .slice a5 p.pgm.code.length c5] 130)
              refine plan_loud [0, 2, 3, 4, 5, 6, 7, 12, 13, 14, 15, 16, 17] rfl rfl rfl (fun K hK => ?_)
              go_wp2_with fail
              have b7 := blk_cell ((KA).blk HW.out.1.blk (fun x => x))
              have p7 := blk_cell ((KA).blk HW.out.2.1 (fun x => x))
              clear b6 p6
              refine Mid.normal (hK _ _ ?_ ?_)
              · simp only [List.forall_mem_cons]
                refine ⟨fun _ => ?_, fun _ => ?_, fun _ => ?_, fun _ => ?_, fun _ => ?_, fun _ => ?_, fun _ => ?_, fun _ => ?_, fun _ => ?_, fun _ => ?_, fun _ => ?_, fun _ => ?_, fun _ => ?_, fun _ h => (by cases h)⟩ <;> exact stab_of rfl (fun K hK => by go_simp; exact hK)
              clear hK K
              obtain ⟨a8, e8, w8, hrun8, ho8⟩ := (ho6.more ((Keep.refl No w6).alloc (.cells #[.string p.name, .slice a1 p.kinds.length c1, .bool p.dep, .slice a2 p.reads.length c2, .slice a3 p.writes.length c3, .int .i64 p.pgm.args, .slice a4 p.pgm.consts.length c4, .slice a5 p.pgm.code.length c5] 130))).one (blk_new w6 _) HT.out.2.2 (by have := HL.out; have := HKL.out; rw [HLL.out.1]; omega)
              simp only [HLL.out.1] at hrun8 ho8
              refine plan_loud [0, 12, 13, 14, 15, 16, 17] rfl rfl rfl (fun K hK => ?_)
              refine wpList_app rfl (.tmp 35) (.tmp 37) 122 122 rfl rfl rfl hrun8 ?_
              go_wp2_with fail
              have b8 := blk_cell ((ho8.2).blk HW.out.1.blk (fun x => x))
              have p8 := blk_cell ((ho8.2).blk HW.out.2.1 (fun x => x))
              clear hrun8 b7 p7
              refine Mid.normal (hK _ _ ?_ ?_)
              · simp only [List.forall_mem_cons]
                refine ⟨fun _ => ?_, fun _ => ?_, fun _ => ?_, fun _ => ?_, fun _ => ?_, fun _ => ?_, fun _ => ?_, fun _ h => (by cases h)⟩ <;> exact stab_of rfl (fun K hK => by go_simp; exact hK)
              clear hK K
              obtain ⟨a9, e9, w9, hrun9, ho9, -⟩ := ho8.list HT.out.2.1 (by have := HLL.out; have := HL.out; have := HKL.out; simp; omega)
              simp only [List.length_append, HLL.out.1, HLL.out.2, List.length_singleton] at hrun9 ho9
              refine plan_loud [0] rfl rfl rfl (fun K hK => ?_)
              refine wpList_app rfl (.tmp 38) (.tmp 44) 122 122 rfl rfl rfl hrun9 ?_
              go_wp2_with fail
              have b9 := blk_cell ((ho9.2).blk HW.out.1.blk (fun x => x))
              have p9 := blk_cell ((ho9.2).blk HW.out.2.1 (fun x => x))
              have f9 := blk_fro ((ho9.2).blk HW.out.1.blk (fun x => x))
              clear hrun9
              refine Mid.normal (hK _ _ ?_ ?_)
              · simp only [List.forall_mem_cons]
                refine ⟨fun _ => ?_, fun _ h => (by cases h)⟩ <;> exact stab_of rfl (fun K hK => by go_simp; exact hK)
              clear hK K
              iterate 2 (refine plan_sil rfl rfl (fun K hK => ?_); go_simp; refine hK _ ?_; clear hK K)
              refine plan_loud [] rfl rfl rfl (fun K hK => ?_)
              go_wp2_with fail
              refine Mid.normal (hK _ _ (fun _ h => (by cases h)) ?_)
              clear hK K
              refine plan_done ?_
              go_wp2_with fail
              refine bodyPost_end (results_none rfl _ _ _) rfl ?_
              exact ⟨rfl, RPuts.mk (HX.out.1.trans HW.out.2.2) HKL.out HW.out.1 HLT.out (ho9)⟩
            · have KB := KE.out.alloc (.cells #[.string p.name, .slice a1 p.kinds.length c1, .bool p.dep, .slice a2 p.reads.length c2, .slice a3 p.writes.length c3, .int .i64 p.pgm.args, .slice a4 p.pgm.consts.length c4, .slice a5 p.pgm.code.length c5] 130)
              refine plan_op [0, 2, 3, 4, 5, 6, 7, 12, 13, 14, 15, 16, 17] rfl rfl (fun K hK => ?_)
              go_wp2_with fail
              have b7 := blk_cell ((KB).blk HW.out.1.blk (fun x => x))
              have p7 := blk_cell ((KB).blk HW.out.2.1 (fun x => x))
              clear be pe
              refine Mid.normal (hK _ _ ?_ ?_)
              · simp only [List.forall_mem_cons]
                refine ⟨fun _ => ?_, fun _ => ?_, fun _ => ?_, fun _ => ?_, fun _ => ?_, fun _ => ?_, fun _ => ?_, fun _ => ?_, fun _ => ?_, fun _ => ?_, fun _ => ?_, fun _ => ?_, fun _ => ?_, fun _ h => (by cases h)⟩ <;> exact stab_of rfl (fun K hK => by go_simp; exact hK)
              clear hK K
              have hE2 := hE.more ((Keep.refl No (w2.alloc (.cells #[] 130))).alloc (.cells #[.string p.name, .slice a1 p.kinds.length c1, .bool p.dep, .slice a2 p.reads.length c2, .slice a3 p.writes.length c3, .int .i64 p.pgm.args, .slice a4 p.pgm.consts.length c4, .slice a5 p.pgm.code.length c5] 130))
              obtain ⟨a6, e6, w6, hrun6, ho6, hk6⟩ := hE2.list HT.out.1 (by have := HLL.out; have := HL.out; have := HKL.out; simp; omega)
              simp only [List.nil_append, HLL.out.1, List.length_nil, Nat.zero_add] at hrun6 ho6
              have y6 := (hk6 _ _ _ _ rfl).blk (blk_new (w2.alloc (.cells #[] 130)) (.cells #[.string p.name, .slice a1 p.kinds.length c1, .bool p.dep, .slice a2 p.reads.length c2, .slice a3 p.writes.length c3, .int .i64 p.pgm.args, .slice a4 p.pgm.consts.length c4, .slice a5 p.pgm.code.length c5] 130)) (fun e => by have e' : (w2.alloc (.cells #[] 130)).heap.size = w2.heap.size := e; simp only [World.size_alloc] at e'; omega)
              refine plan_loud [0, 9, 12, 13, 14, 15, 16, 17] rfl rfl rfl (fun K hK => ?_)
              refine wpList_app rfl (.tmp 28) (.tmp 34) 122 122 rfl rfl rfl hrun6 ?_
              go_wp2_with fail
              have b6 := blk_cell ((ho6.2).blk HW.out.1.blk (fun x => x))
              have p6 := blk_cell ((ho6.2).blk HW.out.2.1 (fun x => x))
              clear hrun6 b7 p7
              refine Mid.normal (hK _ _ ?_ ?_)
              · simp only [List.forall_mem_cons]
                refine ⟨fun _ => ?_, fun _ => ?_, fun _ => ?_, fun _ => ?_, fun _ => ?_, fun _ => ?_, fun _ => ?_, fun _ => ?_, fun _ h => (by cases h)⟩ <;> exact stab_of rfl (fun K hK => by go_simp; exact hK)
              clear hK K
              obtain ⟨a8, e8, w8, hrun8, ho8⟩ := ho6.one y6 HT.out.2.2 (by have := HL.out; have := HKL.out; rw [HLL.out.1]; omega)
              simp only [HLL.out.1, World.size_alloc] at hrun8 ho8
              refine plan_loud [0, 12, 13, 14, 15, 16, 17] rfl rfl rfl (fun K hK => ?_)
              refine wpList_app rfl (.tmp 35) (.tmp 37) 122 122 rfl rfl rfl hrun8 ?_
              go_wp2_with fail
              have b8 := blk_cell ((ho8.2).blk HW.out.1.blk (fun x => x))
              have p8 := blk_cell ((ho8.2).blk HW.out.2.1 (fun x => x))
              clear hrun8 b6 p6
              refine Mid.normal (hK _ _ ?_ ?_)
              · simp only [List.forall_mem_cons]
                refine ⟨fun _ => ?_, fun _ => ?_, fun _ => ?_, fun _ => ?_, fun _ => ?_, fun _ => ?_, fun _ => ?_, fun _ h => (by cases h)⟩ <;> exact stab_of rfl (fun K hK => by go_simp; exact hK)
              clear hK K
              obtain ⟨a9, e9, w9, hrun9, ho9, -⟩ := ho8.list HT.out.2.1 (by have := HLL.out; have := HL.out; have := HKL.out; simp; omega)
              simp only [List.length_append, HLL.out.1, HLL.out.2, List.length_singleton] at hrun9 ho9
              refine plan_loud [0] rfl rfl rfl (fun K hK => ?_)
              refine wpList_app rfl (.tmp 38) (.tmp 44) 122 122 rfl rfl rfl hrun9 ?_
              go_wp2_with fail
              have b9 := blk_cell ((ho9.2).blk HW.out.1.blk (fun x => x))
              have p9 := blk_cell ((ho9.2).blk HW.out.2.1 (fun x => x))
              have f9 := blk_fro ((ho9.2).blk HW.out.1.blk (fun x => x))
              clear hrun9
              refine Mid.normal (hK _ _ ?_ ?_)
              · simp only [List.forall_mem_cons]
                refine ⟨fun _ => ?_, fun _ h => (by cases h)⟩ <;> exact stab_of rfl (fun K hK => by go_simp; exact hK)
              clear hK K
              iterate 2 (refine plan_sil rfl rfl (fun K hK => ?_); go_simp; refine hK _ ?_; clear hK K)
              refine plan_loud [] rfl rfl rfl (fun K hK => ?_)
              go_wp2_with fail
              refine Mid.normal (hK _ _ (fun _ h => (by cases h)) ?_)
              clear hK K
              refine plan_done ?_
              go_wp2_with fail
              refine bodyPost_end (results_none rfl _ _ _) rfl ?_
              exact ⟨rfl, RPuts.mk (HX.out.1.trans HW.out.2.2) HKL.out HW.out.1 HLT.out (ho9)⟩
          · refine plan_op [0, 2, 3, 4, 5, 6, 7, 12, 13, 14, 15, 16, 17] rfl rfl (fun K hK => ?_)
            go_wp2_with fail
            have b7 := blk_cell ((KR.out).blk HW.out.1.blk (fun x => x))
            have p7 := blk_cell ((KR.out).blk HW.out.2.1 (fun x => x))
            refine Mid.normal (hK _ _ ?_ ?_)
            · simp only [List.forall_mem_cons]
              refine ⟨fun _ => ?_, fun _ => ?_, fun _ => ?_, fun _ => ?_, fun _ => ?_, fun _ => ?_, fun _ => ?_, fun _ => ?_, fun _ => ?_, fun _ => ?_, fun _ => ?_, fun _ => ?_, fun _ => ?_, fun _ h => (by cases h)⟩ <;> exact stab_of rfl (fun K hK => by go_simp; exact hK)
            clear hK K
            have KB := KR.out.alloc (.cells #[] 130)
            refine plan_loud [0, 2, 3, 4, 5, 6, 7, 9, 12, 13, 14, 15, 16, 17] rfl rfl rfl (fun K hK => ?_)
            go_wp2_with fail
            have be := blk_cell ((KB).blk HW.out.1.blk (fun x => x))
            have pe := blk_cell ((KB).blk HW.out.2.1 (fun x => x))
            clear b7 p7
            refine Mid.normal (hK _ _ ?_ ?_)
            · simp only [List.forall_mem_cons]
              refine ⟨fun _ => ?_, fun _ => ?_, fun _ => ?_, fun _ => ?_, fun _ => ?_, fun _ => ?_, fun _ => ?_, fun _ => ?_, fun _ => ?_, fun _ => ?_, fun _ => ?_, fun _ => ?_, fun _ => ?_, fun _ => ?_, fun _ h => (by cases h)⟩ <;> exact stab_of rfl (fun K hK => by go_simp; exact hK)
            clear hK K
            have hE := OwR.empty S KB (blk_new (w2.alloc (.cells #[.string p.name, .slice a1 p.kinds.length c1, .bool p.dep, .slice a2 p.reads.length c2, .slice a3 p.writes.length c3, .int .i64 p.pgm.args, .slice a4 p.pgm.consts.length c4, .slice a5 p.pgm.code.length c5] 130)) (.cells #[] 130)) (by simp)
            obtain ⟨a6, e6, w6, hrun6, ho6, hk6⟩ := hE.list HT.out.1 (by have := HLL.out; have := HL.out; have := HKL.out; simp; omega)
            simp only [List.nil_append, HLL.out.1, List.length_nil, Nat.zero_add] at hrun6 ho6
            have y6 := (hk6 _ _ _ _ rfl).blk (blk_alloc (o' := .cells #[] 130) (blk_new w2 (.cells #[.string p.name, .slice a1 p.kinds.length c1, .bool p.dep, .slice a2 p.reads.length c2, .slice a3 p.writes.length c3, .int .i64 p.pgm.args, .slice a4 p.pgm.consts.length c4, .slice a5 p.pgm.code.length c5] 130))) (fun e => by have e' : w2.heap.size = (w2.alloc (.cells #[.string p.name, .slice a1 p.kinds.length c1, .bool p.dep, .slice a2 p.reads.length c2, .slice a3 p.writes.length c3, .int .i64 p.pgm.args, .slice a4 p.pgm.consts.length c4, .slice a5 p.pgm.code.length c5] 130)).heap.size := e; simp only [World.size_alloc] at e'; omega)
            simp only [World.size_alloc] at hrun6
            refine plan_loud [0, 9, 12, 13, 14, 15, 16, 17] rfl rfl rfl (fun K hK => ?_)
            refine wpList_app rfl (.tmp 28) (.tmp 34) 122 122 rfl rfl rfl hrun6 ?_
            go_wp2_with fail
            have b6 := blk_cell ((ho6.2).blk HW.out.1.blk (fun x => x))
            have p6 := blk_cell ((ho6.2).blk HW.out.2.1 (fun x => x))
            clear hrun6 be pe
            refine Mid.normal (hK _ _ ?_ ?_)
            · simp only [List.forall_mem_cons]
              refine ⟨fun _ => ?_, fun _ => ?_, fun _ => ?_, fun _ => ?_, fun _ => ?_, fun _ => ?_, fun _ => ?_, fun _ => ?_, fun _ h => (by cases h)⟩ <;> exact stab_of rfl (fun K hK => by go_simp; exact hK)
            clear hK K
            obtain ⟨a8, e8, w8, hrun8, ho8⟩ := ho6.one y6 HT.out.2.2 (by have := HL.out; have := HKL.out; rw [HLL.out.1]; omega)
            simp only [HLL.out.1] at hrun8 ho8
            refine plan_loud [0, 12, 13, 14, 15, 16, 17] rfl rfl rfl (fun K hK => ?_)
            refine wpList_app rfl (.tmp 35) (.tmp 37) 122 122 rfl rfl rfl hrun8 ?_
            go_wp2_with fail
            have b8 := blk_cell ((ho8.2).blk HW.out.1.blk (fun x => x))
            have p8 := blk_cell ((ho8.2).blk HW.out.2.1 (fun x => x))
            clear hrun8 b6 p6
            refine Mid.normal (hK _ _ ?_ ?_)
            · simp only [List.forall_mem_cons]
              refine ⟨fun _ => ?_, fun _ => ?_, fun _ => ?_, fun _ => ?_, fun _ => ?_, fun _ => ?_, fun _ => ?_, fun _ h => (by cases h)⟩ <;> exact stab_of rfl (fun K hK => by go_simp; exact hK)
            clear hK K
            obtain ⟨a9, e9, w9, hrun9, ho9, -⟩ := ho8.list HT.out.2.1 (by have := HLL.out; have := HL.out; have := HKL.out; simp; omega)
            simp only [List.length_append, HLL.out.1, HLL.out.2, List.length_singleton] at hrun9 ho9
            refine plan_loud [0] rfl rfl rfl (fun K hK => ?_)
            refine wpList_app rfl (.tmp 38) (.tmp 44) 122 122 rfl rfl rfl hrun9 ?_
            go_wp2_with fail
            have b9 := blk_cell ((ho9.2).blk HW.out.1.blk (fun x => x))
            have p9 := blk_cell ((ho9.2).blk HW.out.2.1 (fun x => x))
            have f9 := blk_fro ((ho9.2).blk HW.out.1.blk (fun x => x))
            clear hrun9
            refine Mid.normal (hK _ _ ?_ ?_)
            · simp only [List.forall_mem_cons]
              refine ⟨fun _ => ?_, fun _ h => (by cases h)⟩ <;> exact stab_of rfl (fun K hK => by go_simp; exact hK)
            clear hK K
            iterate 2 (refine plan_sil rfl rfl (fun K hK => ?_); go_simp; refine hK _ ?_; clear hK K)
            refine plan_loud [] rfl rfl rfl (fun K hK => ?_)
            go_wp2_with fail
            refine Mid.normal (hK _ _ (fun _ h => (by cases h)) ?_)
            clear hK K
            refine plan_done ?_
            go_wp2_with fail
            refine bodyPost_end (results_none rfl _ _ _) rfl ?_
            exact ⟨rfl, RPuts.mk (HX.out.1.trans HW.out.2.2) HKL.out HW.out.1 HLT.out (ho9)⟩
end Go.Proofs.YtpjcebajkfeacaaGreatDoor
