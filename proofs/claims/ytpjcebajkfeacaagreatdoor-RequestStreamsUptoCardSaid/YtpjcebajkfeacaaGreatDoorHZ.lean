/-
  RequestStreams: what the law does.
  RequestStreams, whatever the input.
-/
import Derived.Test.YtpjcebajkfeacaaGreatDoorGA
import Derived.Test.YtpjcebajkfeacaaGreatDoorGC
import Derived.Test.YtpjcebajkfeacaaGreatDoorGF
import Derived.Test.YtpjcebajkfeacaaGreatDoorGI
import Derived.Test.YtpjcebajkfeacaaGreatDoorGJ
import Derived.Test.YtpjcebajkfeacaaGreatDoorGK
import Derived.Test.YtpjcebajkfeacaaGreatDoorGL
import Derived.Test.YtpjcebajkfeacaaGreatDoorGU
import Derived.Test.YtpjcebajkfeacaaGreatDoorGX
import Derived.Test.YtpjcebajkfeacaaGreatDoorHD
import Derived.Test.YtpjcebajkfeacaaGreatDoorHE
import Derived.Test.YtpjcebajkfeacaaGreatDoorHF
import Derived.Test.YtpjcebajkfeacaaGreatDoorHN
import Derived.Test.YtpjcebajkfeacaaGreatDoorHQ
import Derived.Test.YtpjcebajkfeacaaGreatDoorHR
import Derived.Test.YtpjcebajkfeacaaGreatDoorHT
import Derived.Test.YtpjcebajkfeacaaGreatDoorHU
import Derived.Test.YtpjcebajkfeacaaGreatDoorHW
import Derived.Test.YtpjcebajkfeacaaGreatDoorHY
import Derived.Still
import Derived.StillTactics
import Derived.WalkKit
import Derived.Recover
import Derived.Defers
import Derived.Deep.QuietTactic
import Derived.BigQuiet
import Derived.Handy
import Derived.Laws.Bits64b
import Derived.Lib.Zigzag
import Derived.WalkSpells
import Derived.WalkLawsBesides
import Derived.ProofKit
import Derived.Deep.Slices
import Derived.Deep.AppendSrc
import Derived.Lib.Hide
import Derived.Lib.EndianBits
import Derived.OpenShut
import Derived.Deep.LoopGhost
import Derived.Deep.DeepCutAuto
import Derived.OwnWalk
import Derived.Lib.Bytealg
import Derived.Laws.Externs
import Derived.Laws.CopyRow
import Derived.Laws.IdiomCopy
import Derived.Maps.OwnSet
import Derived.Maps.RangeWalk
import Derived.Shelf.SortM.Plain
import Derived.Shelf.SortM.SortNone
import Derived.Ground.SlgmProg
import Derived.Maps.OwnOps
import Derived.Lib.ItoaNum
import Derived.Lib.Join
import Derived.Deep.WholeRow
import Derived.Shelf.Strconv.Itoa4
import Derived.Shelf.Strings.BuilderK
import Derived.Shelf.Strings.OnBuilder
import Derived.Ground.NamesProg
import Derived.Lib.AppendIntMem
import Derived.Lib.UnsafeStr
import Derived.Maps.Views
import Derived.Lib.VarintBits
namespace Go.Proofs.YtpjcebajkfeacaaGreatDoor
set_option linter.unusedVariables false
set_option linter.unusedSimpArgs false
open Go Go.RowKit Go.Deep

set_option maxRecDepth 10000 in
set_option maxHeartbeats 4000000 in
theorem RequestStreams_main (w : World) (ht : Tab w) (a0 : Option Addr) (n0 c0 : Nat) (l : List Pc) (h0 : Rd (.slice pieceSh) w (Lt w.heap.size) [.slice a0 n0 c0] l) (hs : (l.map fun p => p.b.length).sum ≤ 1048576) (b0 : n0 ≤ 1048576)
    (q : Req) (a : Option Addr) (c : Nat) (hq : Rd requestSh w (Lt w.heap.size) [.int .i64 q.client, .int .u64 q.token, .string q.name, .slice a q.args.length c] q) (hb : q.Small) :
    Calls Tryz.prog 8 #[.slice a0 n0 c0, .agg #[.int .i64 q.client, .int .u64 q.token, .string q.name, .slice a q.args.length c]] w fun e w' => e = .returned (.bool true) ∧ Keep No w w' := by
  have hn0 := pieces_len h0
  have HH := Lib.hid (And.intro hq (And.intro hb ht))
  have HP := Lib.hid (And.intro h0 (And.intro hs (And.intro hn0 b0)))
  clear hq hb ht h0 hs hn0 b0
  go_enter Tryz.func8, Tryz.ntmps8
  go_upto_region 1 with fail
  have x1 := blk_new w (.cells #[.int .i64 q.client, .int .u64 q.token, .string q.name, .slice a q.args.length c] 29)
  have K1 := (Keep.refl No w).alloc (.cells #[.int .i64 q.client, .int .u64 q.token, .string q.name, .slice a q.args.length c] 29)
  generalize (w.alloc (.cells #[.int .i64 q.client, .int .u64 q.token, .string q.name, .slice a q.args.length c] 29)) = w1 at *
  obtain ⟨R0, hR0⟩ : ∃ R0, w.heap.size = R0 := ⟨_, rfl⟩
  rw [hR0] at x1 ⊢
  have HR0 := Lib.hid hR0
  clear hR0
  have hpc := (pieces_any w1 _ a0 n0 c0 l (HP.out.1.agree _ K1.agreeNo) HP.out.2.1).mono (R' := fun e w2 => ∃ b, e = .returned (.bool b) ∧ w1 = w2) (by
    rintro e w2 ⟨rfl, rfl⟩
    exact ⟨_, rfl, rfl⟩)
  have hlong := (long9_any w1 _ _ q (HH.out.1.agree _ K1.agreeNo) HH.out.2.1).mono (R' := fun e w2 => ∃ b, e = .returned (.bool b) ∧ RowKit.Hid (Keep No w w2 ∧ w2.heap[R0]? = some (.cells #[.int .i64 q.client, .int .u64 q.token, .string q.name, .slice a q.args.length c] 29 (0, 0)))) (by
    rintro e w2 ⟨b, rfl, hk⟩
    exact ⟨b, rfl, K1.trans hk, hk.blk x1 (fun x => x)⟩)
  have HI1 : RowKit.Hid (Keep No w w1 ∧ w1.heap[R0]? = some (.cells #[.int .i64 q.client, .int .u64 q.token, .string q.name, .slice a q.args.length c] 29 (0, 0))) := ⟨K1, x1⟩
  have q1 := blk_cell x1
  clear x1 K1
  go_cut [27] (fun t wx => ∃ bad, t = .bool bad ∧ RowKit.Hid (Keep No w wx ∧ wx.heap[R0]? = some (.cells #[.int .i64 q.client, .int .u64 q.token, .string q.name, .slice a q.args.length c] 29 (0, 0))))
  case first =>
    go_wp2_with (first | (go_at_call 29; refine hpc.mono ?_; clear hpc; rintro e w2 ⟨b, rfl, rfl⟩; cases b) | (go_at_call 14; refine hlong.mono ?_; clear hlong q1; rintro e w2 ⟨b, rfl, H2⟩))
    all_goals
      go_meet
      case rel => first | exact ⟨_, rfl, H2⟩ | exact ⟨_, rfl, HI1⟩
  case rest =>
    obtain ⟨bad, rfl, H2⟩ := hcut
    clear HI1 hpc hlong q1
    cases bad with
    | true =>
      have hl := (live9_any wc (HH.out.2.2.keep H2.out.1)).mono (R' := fun e w' => e = .returned (.bool true) ∧ RowKit.Hid (Keep No w w')) (by
        rintro e w' ⟨rfl, hk⟩
        exact ⟨rfl, H2.out.1.trans hk⟩)
      go_wp2_with (go_at_call 13; refine hl.mono ?_; clear hl; rintro e w3 ⟨rfl, H3⟩)
      go_ret
      exact ⟨rfl, H3.out⟩
    | false =>
      generalize wc = w2 at *
      have hnew := (newStream_any w2).mono (R' := fun e w3 => e = .returned (.pointer (some ⟨w2.heap.size, 0, none⟩)) ∧ w3 = w2.alloc (.cells #[.slice none 0 0, .int .i64 0] 144)) (by
        rintro e w3 ⟨rfl, rfl⟩
        exact ⟨rfl, rfl⟩)
      go_upto_region 5 with (go_at_call 30; refine hnew.mono ?_; clear hnew; rintro e w3 ⟨rfl, rfl⟩)
      have k4 := ((Keep.refl No w2).alloc (.cells #[.slice none 0 0, .int .i64 0] 144)).alloc (.cells #[.slice none 0 0, .int .i64 0] 78)
      have s4 := blk_alloc (o' := .cells #[.slice none 0 0, .int .i64 0] 78) (blk_new w2 (.cells #[.slice none 0 0, .int .i64 0] 144))
      have r4 := blk_new (w2.alloc (.cells #[.slice none 0 0, .int .i64 0] 144)) (.cells #[.slice none 0 0, .int .i64 0] 78)
      rw [World.size_alloc] at r4
      try rw [World.size_alloc]
      generalize ((w2.alloc (.cells #[.slice none 0 0, .int .i64 0] 144)).alloc (.cells #[.slice none 0 0, .int .i64 0] 78)) = w4 at *
      obtain ⟨s, hss⟩ : ∃ s, w2.heap.size = s := ⟨_, rfl⟩
      obtain ⟨r, hrr⟩ : ∃ r, s + 1 = r := ⟨_, rfl⟩
      rw [hss] at s4 r4 ⊢
      rw [hrr] at r4 ⊢
      have H4 : RowKit.Hid (StW w s r No No [] 0 [] 0 w4 ∧ w4.heap[R0]? = some (.cells #[.int .i64 q.client, .int .u64 q.token, .string q.name, .slice a q.args.length c] 29 (0, 0))) := by
        have hz := H2.out.1.size
        exact ⟨⟨H2.out.1.trans k4, ⟨none, 0, 0, s4, Own.nil _ _ _ _, fun x => x⟩, ⟨none, 0, 0, r4, rd_nil _ _ _, fun x => x⟩, fun _ x => x.elim, fun _ x => x.elim, fun _ x => x.elim, by omega, by omega, by omega⟩, k4.blk H2.out.2 (fun x => x)⟩
      clear k4 s4 r4 hss hrr H2
      have q4 := blk_cell H4.out.2
      have how := (own9_any w4 _ _ q (HH.out.1.agree _ H4.out.1.keep.agreeNo) HH.out.2.1.args).mono (R' := fun e w5 => ∃ ag cg, e = .returned (.agg #[.int .i64 q.client, .int .u64 q.token, .string q.name, .slice ag q.args.length cg]) ∧ RowKit.Hid ((∃ S, Rd requestSh w5 S [.int .i64 q.client, .int .u64 q.token, .string q.name, .slice ag q.args.length cg] q) ∧ Keep No w4 w5)) (by
        rintro e w5 ⟨ag, cg, rfl, h⟩
        exact ⟨ag, cg, rfl, ⟨_, h.out.1⟩, h.out.2⟩)
      go_wp2_with (go_at_call 15; refine how.mono ?_; clear how q4; rintro e w5 ⟨ag, cg, rfl, H5⟩)
      have hseal : Calls Tryz.prog 36 #[.agg #[.int .i64 q.client, .int .u64 q.token, .string q.name, .slice ag q.args.length cg]] w5 fun e w6 => ∃ a6 n6 c6, e = .returned (.tuple #[.slice a6 n6 c6, .int .i64 q.check]) ∧ RowKit.Hid (OwnB w5 w6 (.slice a6 n6 c6) q.sealed ∧ StW w s r No No [] 0 [] 0 w6 ∧ w6.heap[R0]? = some (.cells #[.int .i64 q.client, .int .u64 q.token, .string q.name, .slice a q.args.length c] 29 (0, 0))) := by
        obtain ⟨S, hr⟩ := H5.out.1
        refine (rqSeal_any w5 S _ q hr (by have := HH.out.2.1.name; omega)).mono ?_
        rintro e w6 ⟨a6, n6, c6, rfl, ho⟩
        have k := H5.out.2.trans ho.2
        exact ⟨a6, n6, c6, rfl, ho, H4.out.1.more k, k.blk H4.out.2 (fun x => x)⟩
      refine hseal.mono ?_
      clear hseal H4 H5
      rintro e w6 ⟨a6, n6, c6, rfl, H6⟩
      have q6 := blk_cell H6.out.2.2
      have hseal := (rrqSeal_any w6 _ _ q (HH.out.1.agree _ H6.out.2.1.keep.agreeNo) (by have := HH.out.2.1.name; omega)).mono (R' := fun e w7 => ∃ a7 n7 c7, e = .returned (.tuple #[.slice a7 n7 c7, .int .i64 q.check]) ∧ RowKit.Hid (OwnB w5 w7 (.slice a6 n6 c6) q.sealed ∧ OwnB w6 w7 (.slice a7 n7 c7) q.sealed ∧ StW w s r No No [] 0 [] 0 w7)) (by
        rintro e w7 ⟨a7, n7, c7, rfl, ho⟩
        exact ⟨a7, n7, c7, rfl, H6.out.1.more ho.2, ho, H6.out.2.1.more ho.2⟩)
      go_upto_region 7 with (go_at_call 37; refine hseal.mono ?_; clear hseal q6 H6; rintro e w7 ⟨a7, n7, c7, rfl, H7⟩)
      have e1 := run_string_back (P := Tryz.prog) 25 9 5 a6 c6 n6 Tryz.underlying25 Tryz.underlying5 Tryz.underlying9 H7.out.1.rd
      have e2 := run_string_back (P := Tryz.prog) 25 9 5 a7 c7 n7 Tryz.underlying25 Tryz.underlying5 Tryz.underlying9 H7.out.2.1.rd
      generalize textOf q.sealed = tX at *
      have HW := Lib.hid H7.out.2.2
      clear H7
      go_wp2_with (go_at_call 12; refine (num9_eq _ _).mono ?_; rintro e w20 ⟨rfl, rfl⟩)
      clear e1 e2
      go_loopg [11] n0 (fun g i wr => ∃ k : Nat, k ≤ n0 ∧ g = n0 - k ∧ i = .int .i64 k ∧ ∃ A A' cur n, RowKit.Hid (StW w s r A A' cur n cur n wr ∧ 0 ≤ n ∧ n + cur.length ≤ fedN l k))
      case atStart => exact ⟨0, by omega, by omega, rfl, No, No, [], 0, HW.out, by omega, by simp⟩
      case round =>
        obtain ⟨k, hk, rfl, rfl, A, A', cur, n, HI⟩ := hrel
        clear HW
        have j0 : (0 : Int) ≤ (k : Int) := by omega
        by_cases hlt : k < n0
        · have j1 : (k : Int) < (n0 : Int) := by omega
          have jk : (k : Int) ≤ 1048576 := by have := HP.out.2.2.2; omega
          have hkl : k < l.length := by have := HP.out.2.2.1; omega
          have hf := fedN_succ l k hkl
          have hle := fedN_le l (k + 1)
          have hs := HP.out.2.1
          have HA0 := HP.out.1.agree _ HI.out.1.keep.agreeNo
          obtain ⟨b, off, a1, c1, rfl, p0, p1, hB⟩ := pieces_get HA0 k hkl
          have HPG := Lib.hid (fun (W : World) (hK : Keep No w W) => (by
            obtain ⟨b', off', a1', c1', e, p0', p1', hB'⟩ := pieces_get (HP.out.1.agree _ hK.agreeNo) k hkl
            cases e
            exact ⟨a1', c1', p0', p1', hB'⟩ : ∃ a1 c1, W.cell? ⟨b, off + k * 2, none⟩ = some (.slice a1 l[k].b.length c1) ∧ W.cell? ⟨b, off + k * 2 + 1, none⟩ = some (.int .i64 l[k].ask) ∧ Rd bytesSh W (Lt w.heap.size) [.slice a1 l[k].b.length c1] l[k].b))
          obtain ⟨x, hx⟩ : ∃ x, l[k].b = x := ⟨_, rfl⟩
          obtain ⟨ask, hask⟩ : ∃ ask, l[k].ask = ask := ⟨_, rfl⟩
          obtain ⟨m, hm⟩ : ∃ m, x.length = m := ⟨_, rfl⟩
          rw [hx] at HPG hf p0 hB
          rw [hask] at HPG p1
          rw [hm] at HPG hf p0 hB
          have HF := Lib.hid (And.intro hlt (And.intro hf (And.intro (show fedN l (k + 1) ≤ 1048576 by omega) hm)))
          have hm6 : m ≤ 1048576 := by omega
          clear hx hask hlt hkl hf hle hs HA0 hk
          obtain ⟨a2, c2, w1, hrun2, ho2⟩ := clone_bytesApp wr _ _ x hB (by omega)
          obtain ⟨a3, c3, w2, hrun3, ho3⟩ := app_byte ho2 9 (by omega) (by omega) (by omega)
          rw [hm] at hrun2 hrun3 ho3
          have hcap : m ≤ c3 ∧ ∃ b3 o3, a3 = some ⟨b3, o3, none⟩ ∧ wr.heap.size ≤ b3 ∧ b3 < w2.heap.size ∧ Wr b3 o3 (m + 1) w2 := by
            obtain ⟨av, cv, hv, hle, hmax, hnil, hel⟩ := bytes_at ho3.rd
            simp only [Value.slice.injEq] at hv
            obtain ⟨rfl, h8, rfl⟩ := hv
            obtain ⟨b, off, h1, h2, h3, h4, h5⟩ := hel m (by simp; omega)
            refine ⟨by omega, b, off, h1, h2.1, h3, fun j hj => ?_⟩
            obtain ⟨b', off', h1', -, -, h4', h5'⟩ := hel j (by simp; omega)
            rw [h1] at h1'
            cases h1'
            exact ⟨⟨_, h4'⟩, h5'.1⟩
          obtain ⟨hmc, b3, o3, rfl, hb3, hb3', hwr⟩ := hcap
          have HB3 := Lib.hid (And.intro (show w.heap.size ≤ b3 from Nat.le_trans HI.out.1.keep.size hb3) (And.intro (show ¬ A b3 from fun e => by have := (HI.out.1.aA _ e).2.1; omega) (And.intro (show ¬ A' b3 from fun e => by have := (HI.out.1.aA' _ e).2.1; omega) (And.intro (show b3 ≠ s from fun e => by have := HI.out.1.st.lt; omega) (And.intro (show b3 ≠ r from fun e => by have := HI.out.1.rs.lt; omega) (And.intro hb3' (And.intro hwr ho3)))))))
          have H2 := Lib.hid (And.intro (HI.out.1.more ho3.2) HI.out.2)
          obtain ⟨a4, c4, y0, y1, hB2⟩ := HPG.out w2 H2.out.1.keep
          clear hb3 hb3' hwr ho2 ho3 hB HI p1
          have i0 : (m : Int) ≤ (c3 : Int) := by omega
          have i1 : (0 : Int) ≤ (m : Int) := by omega
          have hfeed := H2.out.1.feedS (rd_front HB3.out.2.2.2.2.2.2.2.rd HF.out.2.2.2) (by have := H2.out.2; have := HF.out; omega)
          have p0a : (wr.alloc (.cells #[] 5)).cell? ⟨b, off + k * 2, none⟩ = some (.slice a1 m c1) := (((Keep.refl No wr).alloc _).cell (World.block_lt_of_cell? _ _ p0) (fun x => x)).trans p0
          clear p0
          go_upto_region 13 with (at_builtin; first | (refine wpList_app rfl (.tmp 64) (.tmp 69) 25 25 rfl rfl rfl hrun2 ?_; clear hrun2) | (refine wpList_app rfl (.tmp 70) (.tmp 71) 25 25 rfl rfl rfl hrun3 ?_; clear hrun3))
          clear p0a
          go_upto_region 14 with (go_at_call 31; refine hfeed.mono ?_; clear hfeed y0 y1; rintro e w3 ⟨rfl, H3⟩)
          obtain ⟨A1, h3, hk3, hA1⟩ := H3.out
          have H3b : RowKit.Hid (StW w s r A1 A' (cur ++ x) n cur n w3 ∧ (¬ A1 b3) ∧ Wr b3 o3 (m + 1) w3 ∧ b3 < w3.heap.size) := by
            refine ⟨h3, fun e => (hA1 _ e).elim HB3.out.2.1 (fun h => by have := HB3.out.2.2.2.2.2.1; omega), HB3.out.2.2.2.2.2.2.1.keep hk3 (fun e => e.elim HB3.out.2.1 HB3.out.2.2.2.1) HB3.out.2.2.2.2.2.1, Nat.lt_of_lt_of_le HB3.out.2.2.2.2.2.1 hk3.size⟩
          clear h3 hk3 hA1 H3
          obtain ⟨a5, c5, y0, y1, hB5⟩ := HPG.out w3 H3b.out.1.keep
          have hfeed := H3b.out.1.feedR hB5 (by have := H2.out.2; have := HF.out; omega)
          clear hB2 hB5
          go_wp2_with (go_at_call 38; refine hfeed.mono ?_; clear hfeed y0 y1; rintro e w4 ⟨rfl, H4⟩)
          obtain ⟨A2, h4, hk4, hA2⟩ := H4.out
          have H4b : RowKit.Hid (StW w s r A1 A2 (cur ++ x) n (cur ++ x) n w4 ∧ (¬ A1 b3) ∧ (¬ A2 b3) ∧ Wr b3 o3 (m + 1) w4 ∧ 0 ≤ n ∧ n + (cur ++ x).length ≤ fedN l (k + 1)) := by
            have hb := HB3.out
            refine ⟨h4, H3b.out.2.1, fun e => by have := hA2 _ e; have := H3b.out.2.2.2; omega, H3b.out.2.2.1.keep hk4 (fun e => hb.2.2.2.2.1 e) H3b.out.2.2.2, H2.out.2.1, ?_⟩
            have := H2.out.2; have := HF.out; simp only [List.length_append]; omega
          clear h4 hk4 hA2 H4 H3b H2
          generalize cur ++ x = cx at *
          go_loopg [13] (m + 1) (fun g i wx => ∃ j : Nat, j ≤ m + 1 ∧ g = m + 1 - j ∧ i = .int .i64 j ∧ RowKit.Hid (StW w s r A1 A2 cx n cx n wx ∧ Wr b3 o3 (m + 1) wx))
          case atStart => exact ⟨0, by omega, by omega, rfl, H4b.out.1, H4b.out.2.2.2.1⟩
          case round =>
            obtain ⟨j, hj, rfl, rfl, HJ⟩ := hrel
            have j10 : (0 : Int) ≤ (j : Int) := by omega
            by_cases hjl : j < m + 1
            · obtain ⟨⟨v, hv⟩, hf⟩ := HJ.out.2 j hjl
              have j11 : (j : Int) < (m : Int) + 1 := by omega
              have j13 : (j : Int) ≤ 1048577 := by omega
              have hb := HB3.out
              have HS := Lib.hid (And.intro hjl (And.intro (HJ.out.1.set hb.1 H4b.out.2.1 H4b.out.2.2.1 hb.2.2.2.1 hb.2.2.2.2.1 (o3 + j) (.int .u8 238)) (HJ.out.2.set (o3 + j) (.int .u8 238))))
              clear HJ hj hjl hb
              go_wp2_with fail
              go_roundg (m + 1 - (j + 1))
              case measure => have := HS.out.1; omega
              case rel => exact ⟨j + 1, HS.out.1, rfl, by simp, HS.out.2⟩
            · have j11 : ¬ (j : Int) < (m : Int) + 1 := by omega
              have H5 : RowKit.Hid (StW w s r A1 A2 cx n cx n wr ∧ 0 ≤ n ∧ n + cx.length ≤ fedN l (k + 1)) := ⟨HJ.out.1, H4b.out.2.2.2.2.1, H4b.out.2.2.2.2.2⟩
              clear HJ H4b hj hjl
              go_wp2_with fail
              clear j11
              generalize wr = w5 at *
              go_loopg [14] 50 (fun g i wq => ∃ j : Nat, j ≤ 50 ∧ g = 50 - j ∧ i = .int .i64 j ∧ ∃ A A' cur n, RowKit.Hid (StW w s r A A' cur n cur n wq ∧ 0 ≤ n ∧ n + cur.length ≤ fedN l (k + 1)))
              case atStart => exact ⟨0, by omega, by omega, rfl, A1, A2, cx, n, H5.out⟩
              case round =>
                clear H5
                obtain ⟨j, hj, rfl, rfl, A, A', cur, n, HJ⟩ := hrel
                obtain ⟨a6', c6', -, p1, -⟩ := HPG.out wr HJ.out.1.keep
                have j20 : (0 : Int) ≤ (j : Int) := by omega
                by_cases hgo : (j : Int) < ask ∧ j < 50
                · have j21 : (j : Int) < ask := hgo.1
                  have j22 : (j : Int) < 50 := by omega
                  have HG := Lib.hid hgo
                  clear hgo hj
                  obtain ⟨z, ez, ok, cur', k', hnx⟩ : ∃ z ez ok cur' k', nextB cur = ((z, ez, ok), cur', k') := ⟨_, _, _, _, _, rfl⟩
                  have hnl := next_len cur
                  rw [hnx] at hnl
                  have hb1 : cur.length ≤ 1048576 := by have := HJ.out.2; have := HF.out; omega
                  have hb2 : n ≤ 1048576000000 := by have := HJ.out.2; have := HF.out; omega
                  have hns := HJ.out.1.nextS hb1 HJ.out.2.1 hb2 hnx
                  have HN := Lib.hid (And.intro hnx (And.intro (show n + (k' : Int) + cur'.length ≤ fedN l (k + 1) by have := HJ.out.2.2; simp only at hnl; omega) (And.intro (show 0 ≤ n + (k' : Int) by have := HJ.out.2.1; omega) (And.intro HJ.out.2.1 (And.intro hb1 hb2)))))
                  have HRL := Lib.hid HJ.out.1.rs.lt
                  clear hnx hnl hb1 hb2 HJ
                  go_upto_region 23 with (go_at_call 32; refine hns.mono ?_; clear hns p1; rintro e w6 ⟨az, cz, rfl, H6⟩)
                  have K7 := (Keep.refl No w6).alloc (.cells #[.int .i64 z.client, .int .u64 z.token, .string z.name, .slice az z.args.length cz] 29)
                  have z7 := blk_new w6 (.cells #[.int .i64 z.client, .int .u64 z.token, .string z.name, .slice az z.args.length cz] 29)
                  generalize (w6.alloc (.cells #[.int .i64 z.client, .int .u64 z.token, .string z.name, .slice az z.args.length cz] 29)) = w7 at *
                  generalize hZ : w6.heap.size = Z at *
                  obtain ⟨hr6, A3, h6⟩ := H6.out
                  have H7 : RowKit.Hid (StW w s r A3 A' cur' (n + k') cur n w7 ∧ Rd requestSh w7 (fun i => i ≠ r) [.int .i64 z.client, .int .u64 z.token, .string z.name, .slice az z.args.length cz] z ∧ Z ≠ r ∧ w7.heap[Z]? = some (.cells #[.int .i64 z.client, .int .u64 z.token, .string z.name, .slice az z.args.length cz] 29 (0, 0))) := by
                    refine ⟨h6.more K7, (hr6.agree _ K7.agreeNo).mono requestSh fun i _ hi e => by have := HRL.out; have := hi.1; omega, fun e => by have := h6.rs.lt; omega, z7⟩
                  clear hr6 h6 H6 K7 z7
                  have hnr := (H7.out.1.nextR HN.out.2.2.2.2.1 HN.out.2.2.2.1 HN.out.2.2.2.2.2 HN.out.1).mono (R' := fun e w8 => ∃ av cv, e = .returned (.tuple #[.agg #[.int .i64 z.client, .int .u64 z.token, .string z.name, .slice av z.args.length cv], .int .i64 ez, .bool ok]) ∧ RowKit.Hid ((∃ S, Rd requestSh w8 S [.int .i64 z.client, .int .u64 z.token, .string z.name, .slice av z.args.length cv] z) ∧ (∃ S, Rd requestSh w8 S [.int .i64 z.client, .int .u64 z.token, .string z.name, .slice az z.args.length cz] z) ∧ StW w s r A3 A' cur' (n + k') cur' (n + k') w8 ∧ w8.heap[Z]? = some (.cells #[.int .i64 z.client, .int .u64 z.token, .string z.name, .slice az z.args.length cz] 29 (0, 0)))) (by
                    rintro e w8 ⟨av, cv, rfl, h⟩
                    obtain ⟨h1, h2, h3⟩ := h.out
                    exact ⟨av, cv, rfl, ⟨_, h1⟩, ⟨_, H7.out.2.1.agree requestSh (h3.agree fun i _ hi e => hi e)⟩, h2, h3.blk H7.out.2.2.2 (fun e => H7.out.2.2.1 e)⟩)
                  clear hZ
                  go_upto_region 24 with (go_at_call 39; refine hnr.mono ?_; clear hnr H7; rintro e w8 ⟨av, cv, rfl, H8⟩)
                  have K9 := (Keep.refl No w8).alloc (.cells #[.int .i64 z.client, .int .u64 z.token, .string z.name, .slice av z.args.length cv] 29)
                  have v9 := blk_new w8 (.cells #[.int .i64 z.client, .int .u64 z.token, .string z.name, .slice av z.args.length cv] 29)
                  generalize (w8.alloc (.cells #[.int .i64 z.client, .int .u64 z.token, .string z.name, .slice av z.args.length cv] 29)) = w9 at *
                  generalize w8.heap.size = V at *
                  have heq : Calls Tryz.prog 20 #[.agg #[.int .i64 z.client, .int .u64 z.token, .string z.name, .slice az z.args.length cz], .agg #[.int .i64 z.client, .int .u64 z.token, .string z.name, .slice av z.args.length cv]] w9 fun e w10 => e = .returned (.bool true) ∧ RowKit.Hid (StW w s r A3 A' cur' (n + k') cur' (n + k') w10) := by
                    obtain ⟨⟨S1, h1⟩, ⟨S2, h2⟩, h3, -⟩ := H8.out
                    refine (rrqEqual_any w9 S2 S1 _ _ z z (h2.agree _ K9.agreeNo) (h1.agree _ K9.agreeNo)).mono ?_
                    rintro e w10 ⟨rfl, hk⟩
                    exact ⟨by rw [(Req.eqb_iff z z).2 rfl], h3.more (K9.trans hk)⟩
                  have qz := blk_cell (K9.blk H8.out.2.2.2 (fun x => x))
                  have qv := blk_cell v9
                  clear K9 v9 H8
                  go_wp2_with (first | (go_at_call 20; refine heq.mono ?_; clear heq qz qv; rintro e w10 ⟨rfl, H10⟩) | (go_at_call 12; refine (num9_eq _ _).mono ?_; rintro e w20 ⟨rfl, rfl⟩))
                  go_roundg (50 - (j + 1))
                  case measure => have := HG.out.2; omega
                  case rel => exact ⟨j + 1, by have := HG.out.2; omega, rfl, by simp, A3, A', cur', n + k', H10.out, HN.out.2.2.1, HN.out.2.1⟩
                · obtain ⟨ar, mr, cr, hrs⟩ := HJ.out.1.rs
                  have hmr := hrs.len
                  have qr := blk_cell hrs.blk
                  have hrest : ∀ i, Calls Tryz.prog 35 #[.pointer (some ⟨s, 0, none⟩)] (wr.drewN i) fun e w' => e = .returned (.int .i64 mr) ∧ w' = wr.drewN i := fun i => by
                    refine (rest_any (wr.drewN i) s A cur n (HJ.out.1.st.keep ((Keep.refl No wr).drewN i) (fun x => x) (fun _ _ x => x))).mono ?_
                    rintro e w' ⟨rfl, rfl⟩
                    exact ⟨by rw [hmr], rfl⟩
                  have hskip : ∀ i, Calls Tryz.prog 34 #[.pointer (some ⟨s, 0, none⟩)] (wr.drewN i) fun e w' => e = .returned (.int .i64 n) ∧ w' = wr.drewN i := fun i => by
                    refine (skipped_any (wr.drewN i) s A cur n (HJ.out.1.st.keep ((Keep.refl No wr).drewN i) (fun x => x) (fun _ _ x => x))).mono ?_
                    rintro e w' ⟨rfl, rfl⟩
                    exact ⟨rfl, rfl⟩
                  have HF2 := Lib.hid (show n0 - (k + 1) < n0 - k by have := HF.out.1; omega)
                  have HJ2 := Lib.hid (And.intro HJ.out HF.out.1)
                  clear hrs hmr HJ
                  by_cases hja : (j : Int) < ask
                  · have hj50 : ¬ (j : Int) < 50 := by omega
                    clear hgo hj
                    go_upto_region 26 with fail
                    go_quiet (first | (go_at_call 35; exact quiet_call (hrest _)) | (go_at_call 34; exact quiet_call (hskip _)))
                    clear hrest hskip qr
                    go_wp2_with fail
                    go_roundg (n0 - (k + 1))
                    case measure => exact HF2.out
                    case rel => exact ⟨k + 1, HJ2.out.2, rfl, by simp, A, A', cur, n, HJ2.out.1.1.more ((Keep.refl No wr).drewN nq), HJ2.out.1.2⟩
                  · clear hgo hj
                    go_upto_region 26 with fail
                    go_quiet (first | (go_at_call 35; exact quiet_call (hrest _)) | (go_at_call 34; exact quiet_call (hskip _)))
                    clear hrest hskip qr
                    go_wp2_with fail
                    go_roundg (n0 - (k + 1))
                    case measure => exact HF2.out
                    case rel => exact ⟨k + 1, HJ2.out.2, rfl, by simp, A, A', cur, n, HJ2.out.1.1.more ((Keep.refl No wr).drewN nq), HJ2.out.1.2⟩
        · have j1 : ¬ (k : Int) < (n0 : Int) := by omega
          have hl := (live9_any wr (HH.out.2.2.keep HI.out.1.keep)).mono (R' := fun e w' => e = .returned (.bool true) ∧ RowKit.Hid (Keep No w w')) (by
            rintro e w' ⟨rfl, hk⟩
            exact ⟨rfl, HI.out.1.keep.trans hk⟩)
          clear hk hlt
          go_wp2_with (go_at_call 13; refine hl.mono ?_; clear hl; rintro e w3 ⟨rfl, HL⟩)
          go_ret
          exact ⟨rfl, HL.out⟩
end Go.Proofs.YtpjcebajkfeacaaGreatDoor

namespace Go.Proofs.YtpjcebajkfeacaaGreatDoor
set_option linter.unusedVariables false
set_option linter.unusedSimpArgs false
open Go Go.RowKit Go.Deep

theorem bytes_bulk (l : Bytes) : bytesSh.bulk l = l.length + 1 := by
  have e : bytesSh.bulk l = (l.map (Sh.int .u8).bulk).sum + 1 := rfl
  have : ∀ l : Bytes, (l.map (Sh.int .u8).bulk).sum = l.length := fun l => by
    induction l with
    | nil => rfl
    | cons x l ih => simp only [List.map_cons, List.sum_cons, List.length_cons, ih]; show 1 + _ = _; omega
  rw [e, this]
theorem pieces_bulk : ∀ l : List Pc, (l.map fun p => p.b.length).sum + l.length ≤ (l.map pieceSh.bulk).sum
  | [] => Nat.le_refl _
  | p :: l => by
    have h := pieces_bulk l
    have e : pieceSh.bulk p = (bytesSh.bulk p.b + (1 + 0)) + 1 := rfl
    rw [bytes_bulk] at e
    simp only [List.map_cons, List.sum_cons, List.length_cons]
    omega
theorem RequestStreams_calls (w : World) (ht : Tab w) (v0 : Value) (x0 : List Pc) (h0 : Rd (.slice pieceSh) w (Lt w.heap.size) [v0] x0) (b0 : (Sh.slice pieceSh).bulk x0 ≤ 1048576) (cs : List Value) (q : Req) (hq : Rd requestSh w (Lt w.heap.size) cs q) (bq : requestSh.bulk q ≤ 1048576) :
    Calls Tryz.prog 8 #[v0, .agg cs.toArray] w fun e w' => e = .returned (.bool true) ∧ Keep No w w' := by
  have e0 : (Sh.slice pieceSh).bulk x0 = (x0.map pieceSh.bulk).sum + 1 := rfl
  have hb := pieces_bulk x0
  obtain ⟨a0, c0, e1, -⟩ := id h0
  obtain ⟨a, c, rfl, -⟩ := req_cells hq
  simp only [List.cons.injEq, and_true] at e1
  subst e1
  exact RequestStreams_main w ht a0 _ c0 x0 h0 (by omega) (by omega) q a c hq (req_small bq)
end Go.Proofs.YtpjcebajkfeacaaGreatDoor
