/-
  Parts of what is proved for this claim; each declaration is one of the seat's texts.
-/
import Derived.Test.YtfgdnakfikpmpaaGreatDoorUGA
import Derived.Test.YtfgdnakfikpmpaaGreatDoorUGC
import Derived.Test.YtfgdnakfikpmpaaGreatDoorUGD
import Derived.Test.YtfgdnakfikpmpaaGreatDoorUGF
import Derived.Test.YtfgdnakfikpmpaaGreatDoorUGK
import Derived.Test.YtfgdnakfikpmpaaGreatDoorUPA
import Derived.Test.YtfgdnakfikpmpaaGreatDoorUPB
import Derived.Test.YtfgdnakfikpmpaaGreatDoorUGP
import Derived.Test.YtfgdnakfikpmpaaGreatDoorUGQ
import Derived.Test.YtfgdnakfikpmpaaGreatDoorUPH
import Derived.Test.YtfgdnakfikpmpaaGreatDoorUPF
import Derived.Test.YtfgdnakfikpmpaaGreatDoorUPI
import Derived.Test.YtfgdnakfikpmpaaGreatDoorUPT
import Derived.Test.YtfgdnakfikpmpaaGreatDoorUKB
import Derived.Test.YtfgdnakfikpmpaaGreatDoorULF
import Derived.Test.YtfgdnakfikpmpaaGreatDoorULK
import Derived.Test.YtfgdnakfikpmpaaGreatDoorUMA
import Derived.WalkKit
import Derived.WalkSpells
import Derived.WalkLawsBesides
import Derived.ProofKit
import Derived.Deep.Slices
import Derived.Deep.AppendSrc
import Derived.Lib.Hide
import Derived.Lib.ItoaNum
import Derived.Lib.Join
import Derived.Still
import Derived.StillTactics
import Derived.Recover
import Derived.Defers
import Derived.Deep.QuietTactic
import Derived.BigQuiet
import Derived.Handy
import Derived.Laws.Bits64b
import Derived.Lib.Zigzag
import Derived.OwnWalk
import Derived.Deep.DeepCutAuto
import Derived.Deep.LoopGhost
import Derived.Lib.Bytealg
import Derived.Laws.Externs
import Derived.Laws.CopyRow
import Derived.Laws.IdiomCopy
import Derived.Maps.OwnSet
import Derived.Maps.RangeWalk
import Derived.Shelf.SortM.Plain
import Derived.Shelf.SortM.SortNone
import Derived.Ground.SlgmProg
import Derived.Maps.OwnOps
import Derived.Shelf.Strconv.Itoa4
import Derived.Shelf.Strings.BuilderK
import Derived.Shelf.Strings.OnBuilder
import Derived.Ground.NamesProg
import Derived.Lib.AppendIntMem
import Derived.Lib.UnsafeStr
import Derived.Deep.WholeRow
import Derived.Maps.Views
import Derived.Lib.ParseIntB
import Derived.Lib.Split
import Derived.Lib.SplitLaws
import Derived.Lib.IndexBytes
import Derived.Shelf.Pu.ParseUintPublic10
import Derived.Shelf.Strconv.ParseIntPublic10
import Derived.Shelf.Strings.Search2
import Derived.Shelf.Strings.Prefix
import Derived.Ground.MpProg
import Derived.Lib.ParseIntBCases
import Derived.Lib.ParseIntBTie
import Derived.Deep.CutBlock
import Derived.Shelf.Strings.SplitCore
import Derived.Shelf.Strings.Search3
import Derived.Shelf.Strings.Count
import Derived.Shelf.SlIter.Nil
import Derived.Ground.GgzProg
import Derived.Sort.KeysCollected
import Derived.Laws.OwnMore
set_option linter.unusedVariables false
set_option linter.unusedSimpArgs false
namespace Go.Proofs.YtfgdnakfikpmpaaGreatDoor
open Go Go.RowKit Go.Deep
theorem keysT_zero (args : List Val) : ∀ l : List ByteArray, (keysT args l).2 = 0 → ∀ t ∈ l, (keyT t args).2 = 0
  | [], _, t, ht => by cases ht
  | s :: l, h, t, ht => by
    unfold keysT at h
    by_cases h1 : (keyT s args).2 = 0
    · rw [if_neg (fun e => e h1)] at h
      by_cases h2 : (keysT args l).2 = 0
      · rcases List.mem_cons.1 ht with rfl | ht
        · exact h1
        · exact keysT_zero args l h2 t ht
      · rw [if_pos h2] at h; exact absurd h h2
    · rw [if_pos h1] at h; exact absurd h h1
structure FootIs (p : Prc) (args : List Val) (f : Fp) : Prop where
  given : ∀ v ∈ args, givenV v = true
  few : args.length ≤ 8
  reads : ∀ t ∈ p.reads, tmplOk t args.length = true ∧ (keyT t args).2 = 0
  writes : ∀ t ∈ p.writes, tmplOk t args.length = true ∧ (keyT t args).2 = 0
  rs : f.rs = setT (keysOf args p.reads)
  ws : f.ws = setT (keysOf args p.writes)
  nr : p.reads.length ≤ 32
  nw : p.writes.length ≤ 32
theorem foot_is {p : Prc} {args : List Val} {f : Fp} (h : p.footE args = (f, 0)) : FootIs p args f := by
  rcases footE_cases p args with h1 | h1 | h1 | ⟨hc, hd, hs, he⟩
  · rw [h1.2] at h; exact absurd (congrArg Prod.snd h) (show ¬ (80 : Int) = 0 by decide)
  · rw [h1.2.2] at h; exact absurd (congrArg Prod.snd h) (show ¬ (83 : Int) = 0 by decide)
  · rw [h1.2.2.2] at h; exact absurd (congrArg Prod.snd h) (show ¬ (82 : Int) = 0 by decide)
  have hh := chk_home hc
  have hg := suits_given hs
  rw [he] at h
  have hr : (keysT args p.reads).2 = 0 := Classical.byContradiction fun hn => by
    unfold Prc.foot at h
    rw [hd, if_neg (by simp), if_neg (by rw [hs]; simp), if_pos hn] at h
    exact hn (congrArg Prod.snd h)
  have hw : (keysT args p.writes).2 = 0 := Classical.byContradiction fun hn => by
    unfold Prc.foot at h
    rw [hd, if_neg (by simp), if_neg (by rw [hs]; simp), if_neg (fun e => e hr), if_pos hn] at h
    exact hn (congrArg Prod.snd h)
  have zr := keysT_zero args _ hr
  have zw := keysT_zero args _ hw
  have hf : p.foot args = (mkFp (keysOf args p.reads) (keysOf args p.writes)).norm := foot_ok hd hs ⟨fun j hj t ht => by
    have hcase : j = 0 ∨ j = 1 := by omega
    rcases hcase with rfl | rfl
    · exact zr t ht
    · exact zw t ht, fun t ht => by simp at ht⟩
  rw [hf] at h
  have hn := norm_cases (mkFp (keysOf args p.reads) (keysOf args p.writes))
  have hfin : f = mkFp (setT (keysOf args p.reads)) (setT (keysOf args p.writes)) := by
    by_cases h1 : ((mkFp (keysOf args p.reads) (keysOf args p.writes)).rs ++ (mkFp (keysOf args p.reads) (keysOf args p.writes)).ws).all keyOk = true
    · by_cases h2 : 64 < (setT ((mkFp (keysOf args p.reads) (keysOf args p.writes)).rs ++ (mkFp (keysOf args p.reads) (keysOf args p.writes)).ws)).length
      · rw [hn.2.1 h1 h2] at h; exact absurd (congrArg Prod.snd h) (show ¬ (6 : Int) = 0 by decide)
      · rw [hn.2.2 h1 h2] at h; exact (congrArg Prod.fst h).symm
    · rw [hn.1 (by simpa using h1)] at h; exact absurd (congrArg Prod.snd h) (show ¬ (30 : Int) = 0 by decide)
  subst hfin
  refine ⟨hg.2, by rw [hg.1]; exact hh.ok.kinds, fun t ht => ⟨?_, zr t ht⟩, fun t ht => ⟨?_, zw t ht⟩, rfl, rfl, hh.ok.nr, hh.ok.nw⟩
  · obtain ⟨i, hi, rfl⟩ := List.getElem_of_mem ht
    rw [hg.1]; exact hh.ok.reads i hi
  · obtain ⟨i, hi, rfl⟩ := List.getElem_of_mem ht
    rw [hg.1]; exact hh.ok.writes i hi
theorem large_no {p : Prc} (h : largeB p = false) : p.kinds.length ≤ 500 ∧ p.reads.length ≤ 500 ∧ p.writes.length ≤ 500 ∧ p.pgm.code.length ≤ 1000 ∧ p.pgm.consts.length ≤ 1000 := by
  unfold largeB at h
  simp only [Bool.or_eq_false_iff, decide_eq_false_iff_not] at h
  omega
set_option maxRecDepth 10000 in
set_option maxHeartbeats 4000000 in
theorem LibraryKeys_main (w : World) (S A : Nat → Prop) (cs : List Value) (p : Prc) (args : List Val) (a : Option Addr) (c : Nat) (h : Rd procSh w S cs p) (ha : Rd (.slice valueSh) w A [.slice a args.length c] args) (ht : Tab w ∧ Errs w ∧ KindsW w) :
    Calls Tryz.prog 6 #[.agg cs.toArray, .slice a args.length c] w fun e w' => e = .returned (.bool true) ∧ Keep No w w' := by
  have h0 := h
  obtain ⟨a1, c1, a2, c2, a3, c3, a4, c4, a5, c5, rfl, h1, h2, h3, h4, h5, w1, w2⟩ := proc_cells h
  have hnm : p.name.size ≤ 9223372036854775807 := by rw [maxLen_is] at w1; exact w1
  have K1 := (Keep.refl No w).alloc (.cells #[.string p.name, .slice a1 p.kinds.length c1, .bool p.dep, .slice a2 p.reads.length c2, .slice a3 p.writes.length c3, .int .i64 p.pgm.args, .slice a4 p.pgm.consts.length c4, .slice a5 p.pgm.code.length c5] 29)
  have x1 := blk_new w (.cells #[.string p.name, .slice a1 p.kinds.length c1, .bool p.dep, .slice a2 p.reads.length c2, .slice a3 p.writes.length c3, .int .i64 p.pgm.args, .slice a4 p.pgm.consts.length c4, .slice a5 p.pgm.code.length c5] 29)
  have q1 := blk_cell x1
  have HLV : RowKit.Hid (∀ W, Keep No w W → Calls Tryz.prog 14 #[] W fun e w' => e = .returned (.bool true) ∧ RowKit.Hid (Keep No w w')) := fun W hW => (live8_any W (ht.1.keep hW) (ht.2.1.keep hW) (ht.2.2.keep hW (fun x => x))).mono (by rintro e w' ⟨rfl, hk⟩; exact ⟨rfl, hW.trans hk.out⟩)
  have hlg := (large_any (w.alloc (.cells #[.string p.name, .slice a1 p.kinds.length c1, .bool p.dep, .slice a2 p.reads.length c2, .slice a3 p.writes.length c3, .int .i64 p.pgm.args, .slice a4 p.pgm.consts.length c4, .slice a5 p.pgm.code.length c5] 29)) a1 a2 a3 a4 a5 c1 c2 c3 c4 c5 p ⟨slice_len h1, slice_len h2, slice_len h3, slice_len h4, slice_len h5⟩).mono (R' := fun e w2 => e = .returned (.bool (largeB p)) ∧ w2.heap[w.heap.size]? = some (.cells #[.string p.name, .slice a1 p.kinds.length c1, .bool p.dep, .slice a2 p.reads.length c2, .slice a3 p.writes.length c3, .int .i64 p.pgm.args, .slice a4 p.pgm.consts.length c4, .slice a5 p.pgm.code.length c5] 29 (0, 0)) ∧ RowKit.Hid (Keep No w w2)) (by
    rintro e w2 ⟨rfl, hk⟩
    exact ⟨rfl, hk.out.blk x1 (fun x => x), K1.trans hk.out⟩)
  cases hB : largeB p with
  | true =>
    rw [hB] at hlg
    clear h0 h1 h2 h3 h4 h5 w1 w2 hnm K1 x1 h ha ht hB
    go_enter Tryz.func6, Tryz.ntmps6
    go_wp2_with (first | (go_at_call 13; refine hlg.mono ?_; clear hlg; rintro e w3 ⟨rfl, x3, HK3⟩) | (go_at_call 14; refine (HLV.out _ HK3.out).mono ?_; rintro e w4 ⟨rfl, HK4⟩))
    go_ret
    exact ⟨rfl, HK4.out⟩
  | false =>
    have hl := large_no hB
    rw [hB] at hlg
    have HOW : RowKit.Hid (∀ W, Keep No w W → Calls Tryz.prog 15 #[.agg #[.string p.name, .slice a1 p.kinds.length c1, .bool p.dep, .slice a2 p.reads.length c2, .slice a3 p.writes.length c3, .int .i64 p.pgm.args, .slice a4 p.pgm.consts.length c4, .slice a5 p.pgm.code.length c5]] W fun e w2 => ∃ b1 d1 b2 d2 b3 d3 b4 d4 b5 d5, e = .returned (.agg #[.string p.name, .slice b1 p.kinds.length d1, .bool p.dep, .slice b2 p.reads.length d2, .slice b3 p.writes.length d3, .int .i64 p.pgm.args, .slice b4 p.pgm.consts.length d4, .slice b5 p.pgm.code.length d5]) ∧ RowKit.Hid (Rd procSh w2 (Fr W.heap.size w2.heap.size) #[.string p.name, .slice b1 p.kinds.length d1, .bool p.dep, .slice b2 p.reads.length d2, .slice b3 p.writes.length d3, .int .i64 p.pgm.args, .slice b4 p.pgm.consts.length d4, .slice b5 p.pgm.code.length d5].toList p ∧ Keep No W w2)) := fun W hW => by
      refine (own8_any W S _ p (h0.agree procSh hW.agreeNo) (by omega) (by omega) (by omega) (by omega) (by omega)).mono ?_
      rintro e w2 ⟨cs, rfl, hr, hk⟩
      obtain ⟨b1, d1, b2, d2, b3, d3, b4, d4, b5, d5, hcs, -⟩ := proc_cells hr
      obtain rfl : cs = #[.string p.name, .slice b1 p.kinds.length d1, .bool p.dep, .slice b2 p.reads.length d2, .slice b3 p.writes.length d3, .int .i64 p.pgm.args, .slice b4 p.pgm.consts.length d4, .slice b5 p.pgm.code.length d5] := by
        cases cs; simp at hcs; rw [hcs]
      exact ⟨b1, d1, b2, d2, b3, d3, b4, d4, b5, d5, rfl, hr, hk⟩
    obtain ⟨fe, hfe⟩ : ∃ fe, p.footE args = fe := ⟨_, rfl⟩
    have HFO : RowKit.Hid (∀ (W : World) (T : Nat → Prop) (b1 b2 b3 b4 b5 : Option Addr) (d1 d2 d3 d4 d5 : Nat), Keep No w W → Rd procSh W T #[.string p.name, .slice b1 p.kinds.length d1, .bool p.dep, .slice b2 p.reads.length d2, .slice b3 p.writes.length d3, .int .i64 p.pgm.args, .slice b4 p.pgm.consts.length d4, .slice b5 p.pgm.code.length d5].toList p → Calls Tryz.prog 23 #[.agg #[.string p.name, .slice b1 p.kinds.length d1, .bool p.dep, .slice b2 p.reads.length d2, .slice b3 p.writes.length d3, .int .i64 p.pgm.args, .slice b4 p.pgm.consts.length d4, .slice b5 p.pgm.code.length d5], .slice a args.length c] W fun e w2 => ∃ r n m r' n' m', e = .returned (.tuple #[.agg #[.slice r n m, .slice r' n' m'], .int .i64 fe.2]) ∧ RowKit.Hid (OwnF W w2 (.slice r n m) (.slice r' n' m') fe.1 ∧ Keep No W w2)) := fun W T b1 b2 b3 b4 b5 d1 d2 d3 d4 d5 hW hr => by
      refine (libFootE_any W T A _ p hr hnm (by omega) args a c (ha.agree _ hW.agreeNo) (ht.1.keep hW)).mono ?_
      rintro e w2 ⟨r, n, m, r', n', m', rfl, ho, hk⟩
      rw [hfe] at ho ⊢
      exact ⟨r, n, m, r', n', m', rfl, ho, hk⟩
    obtain ⟨f, er⟩ := fe
    simp only at HFO
    by_cases he : er = 0
    · subst he
      have hI := foot_is hfe
      have HMR : RowKit.Hid (∀ (W : World) (u : Value) (T : Nat → Prop), Keep No w W → Rd (.slice .str) W T [u] f.rs → Calls Tryz.prog 30 #[u, .slice a2 p.reads.length c2, .slice a args.length c] W fun e w2 => e = .returned (.bool true) ∧ RowKit.Hid (Keep No W w2)) := fun W u T hW hu => by
        refine (means_any W T S A u _ a c f.rs p.reads args hu (h2.agree _ hW.agreeNo) (ha.agree _ hW.agreeNo) (ht.1.keep hW) hI.few hI.given hI.reads hI.rs hI.nr).mono ?_
        rintro e w2 ⟨rfl, hk⟩
        exact ⟨rfl, hk.out⟩
      have HMW : RowKit.Hid (∀ (W : World) (u : Value) (T : Nat → Prop), Keep No w W → Rd (.slice .str) W T [u] f.ws → Calls Tryz.prog 30 #[u, .slice a3 p.writes.length c3, .slice a args.length c] W fun e w2 => e = .returned (.bool true) ∧ RowKit.Hid (Keep No W w2)) := fun W u T hW hu => by
        refine (means_any W T S A u _ a c f.ws p.writes args hu (h3.agree _ hW.agreeNo) (ha.agree _ hW.agreeNo) (ht.1.keep hW) hI.few hI.given hI.writes hI.ws hI.nw).mono ?_
        rintro e w2 ⟨rfl, hk⟩
        exact ⟨rfl, hk.out⟩
      clear h0 h1 h2 h3 h4 h5 w1 w2 hnm K1 x1 h ha ht hB hl hfe hI
      go_enter Tryz.func6, Tryz.ntmps6
      go_upto_region 6 with (first | (go_at_call 13; refine hlg.mono ?_; clear hlg; rintro e w3 ⟨rfl, x3, HK3⟩; have q3 := blk_cell x3; clear q1) | (go_at_call 15; refine (HOW.out _ HK3.out).mono ?_; rintro e w4 ⟨b1, d1, b2, d2, b3, d3, b4, d4, b5, d5, rfl, H4⟩; have K4 := Lib.hid (HK3.out.trans H4.out.2); have X4 := Lib.hid (H4.out.2.blk x3 (fun x => x)); clear q3) | (go_at_call 23; refine (HFO.out _ _ _ _ _ _ _ _ _ _ _ _ K4.out H4.out.1).mono ?_; rintro e w5 ⟨r, n, m, r', n', m', rfl, H5⟩) | (go_at_call 16; refine (num8_any _ _).mono ?_; rintro e w6 ⟨rfl, rfl⟩))
      have K6 := Lib.hid ((K4.out.trans H5.out.2).alloc (.cells #[.slice r n m, .slice r' n' m'] 49))
      have x6 := blk_alloc (o' := .cells #[.slice r n m, .slice r' n' m'] 49) (H5.out.2.blk X4.out (fun x => x))
      have y6 := blk_new w5 (.cells #[.slice r n m, .slice r' n' m'] 49)
      have q6 := blk_cell x6
      have z6 := blk_cell y6
      have kk := (Keep.refl No w5).alloc (.cells #[.slice r n m, .slice r' n' m'] 49)
      have R6 := Lib.hid (And.intro (H5.out.1.1.rd.agree _ kk.agreeNo) (H5.out.1.2.rd.agree _ kk.agreeNo))
      have X6 := Lib.hid (And.intro x6 y6)
      clear kk x6 y6 x3
      go_wp2_with (first | (go_at_call 30; refine (HMR.out _ _ _ K6.out R6.out.1).mono ?_; clear HMR; rintro e w7 ⟨rfl, HK7⟩; have K7 := Lib.hid (K6.out.trans HK7.out); have q7 := blk_cell (HK7.out.blk X6.out.1 (fun x => x)); have z7 := blk_cell (HK7.out.blk X6.out.2 (fun x => x)); clear q6 z6) | (go_at_call 30; refine (HMW.out _ _ _ K7.out (R6.out.2.agree _ HK7.out.agreeNo)).mono ?_; clear HMW; rintro e w8 ⟨rfl, HK8⟩; have K8 := Lib.hid (K7.out.trans HK8.out)) | (go_at_call 14; refine (HLV.out _ K8.out).mono ?_; rintro e w9 ⟨rfl, HK9⟩))
      go_ret
      exact ⟨rfl, HK9.out⟩
    · have hb : (er != 0) = true := by simpa using he
      have HE := Lib.hid he
      clear h0 h1 h2 h3 h4 h5 w1 w2 hnm K1 x1 h ha ht hB hl hfe he
      go_enter Tryz.func6, Tryz.ntmps6
      go_wp2_with (first | (go_at_call 13; refine hlg.mono ?_; clear hlg; rintro e w3 ⟨rfl, x3, HK3⟩; have q3 := blk_cell x3; clear q1) | (go_at_call 15; refine (HOW.out _ HK3.out).mono ?_; rintro e w4 ⟨b1, d1, b2, d2, b3, d3, b4, d4, b5, d5, rfl, H4⟩; have K4 := Lib.hid (HK3.out.trans H4.out.2); have X4 := Lib.hid (H4.out.2.blk x3 (fun x => x)); clear q3) | (go_at_call 23; refine (HFO.out _ _ _ _ _ _ _ _ _ _ _ _ K4.out H4.out.1).mono ?_; rintro e w5 ⟨r, n, m, r', n', m', rfl, H5⟩; have K6 := Lib.hid ((K4.out.trans H5.out.2).alloc (.cells #[.slice r n m, .slice r' n' m'] 49))) | (go_at_call 16; refine (num8_any _ _).mono ?_; rintro e w6 ⟨rfl, rfl⟩) | (go_at_call 14; refine (HLV.out _ K6.out).mono ?_; rintro e w7 ⟨rfl, HK7⟩))
      go_ret
      exact ⟨rfl, HK7.out⟩
theorem LibraryKeys_calls (w : World) (ht : Tab w ∧ Errs w ∧ KindsW w) (cs : List Value) (p : Prc) (h : Rd procSh w (Lt w.heap.size) cs p) (v : Value) (x : List Val) (hv : Rd (.slice valueSh) w (Lt w.heap.size) [v] x) :
    Calls Tryz.prog 6 #[.agg cs.toArray, v] w fun e w' => e = .returned (.bool true) ∧ Keep No w w' := by
  obtain ⟨a, c, e, -⟩ := id hv
  simp only [List.cons.injEq, and_true] at e
  subst e
  exact LibraryKeys_main w _ _ cs p x a c h hv ht
end Go.Proofs.YtfgdnakfikpmpaaGreatDoor
