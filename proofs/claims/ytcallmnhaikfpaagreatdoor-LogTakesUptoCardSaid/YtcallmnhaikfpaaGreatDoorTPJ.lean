/-
  Parts of what is proved for this claim; each declaration is one of the seat's texts.
-/
import Derived.Test.YtcallmnhaikfpaaGreatDoorTGA
import Derived.Test.YtcallmnhaikfpaaGreatDoorTGB
import Derived.Test.YtcallmnhaikfpaaGreatDoorTGC
import Derived.Test.YtcallmnhaikfpaaGreatDoorTGD
import Derived.Test.YtcallmnhaikfpaaGreatDoorTGF
import Derived.Test.YtcallmnhaikfpaaGreatDoorTGK
import Derived.Test.YtcallmnhaikfpaaGreatDoorTGN
import Derived.Test.YtcallmnhaikfpaaGreatDoorTGO
import Derived.Test.YtcallmnhaikfpaaGreatDoorTGQ
import Derived.Test.YtcallmnhaikfpaaGreatDoorTGR
import Derived.Test.YtcallmnhaikfpaaGreatDoorTGU
import Derived.Test.YtcallmnhaikfpaaGreatDoorTGZ
import Derived.Test.YtcallmnhaikfpaaGreatDoorTHA
import Derived.Test.YtcallmnhaikfpaaGreatDoorTHE
import Derived.Test.YtcallmnhaikfpaaGreatDoorTHF
import Derived.Test.YtcallmnhaikfpaaGreatDoorTHG
import Derived.Test.YtcallmnhaikfpaaGreatDoorTPA
import Derived.Test.YtcallmnhaikfpaaGreatDoorTPB
import Derived.Test.YtcallmnhaikfpaaGreatDoorTPE
import Derived.Test.YtcallmnhaikfpaaGreatDoorTPF
import Derived.Test.YtcallmnhaikfpaaGreatDoorTPH
import Derived.Test.YtcallmnhaikfpaaGreatDoorTPI
import Derived.WalkKit
import Derived.WalkSpells
import Derived.WalkLawsBesides
import Derived.ProofKit
import Derived.Deep.Slices
import Derived.Deep.AppendSrc
import Derived.Lib.Hide
import Derived.Lib.ItoaNum
import Derived.Lib.Join
import Derived.Still
import Derived.StillTactics
import Derived.Recover
import Derived.Defers
import Derived.Deep.QuietTactic
import Derived.BigQuiet
import Derived.Handy
import Derived.Laws.Bits64b
import Derived.Lib.Zigzag
import Derived.OwnWalk
import Derived.Deep.DeepCutAuto
import Derived.Deep.LoopGhost
import Derived.Lib.Bytealg
import Derived.Laws.Externs
import Derived.Laws.CopyRow
import Derived.Laws.IdiomCopy
import Derived.Maps.OwnSet
import Derived.Maps.RangeWalk
import Derived.Shelf.SortM.Plain
import Derived.Shelf.SortM.SortNone
import Derived.Ground.SlgmProg
import Derived.Maps.OwnOps
import Derived.Shelf.Strconv.Itoa4
import Derived.Shelf.Strings.BuilderK
import Derived.Shelf.Strings.OnBuilder
import Derived.Ground.NamesProg
import Derived.Lib.AppendIntMem
import Derived.Lib.UnsafeStr
import Derived.Deep.WholeRow
import Derived.Maps.Views
import Derived.RangeFuncNested
import Derived.RangeFuncBound
import Derived.RangeFuncCalls
import Derived.RangeFuncLeaves
import Derived.Shelf.Abstract
import Derived.Shelf.RegionOpen
import Derived.OwnWalkIn
import Derived.TacticsInMore
import Derived.LoopNIn
import Derived.LoopIn
import Derived.Lib.ConvBytes
import Derived.OrdersIn
set_option linter.unusedVariables false
set_option linter.unusedSimpArgs false
namespace Go.Proofs.YtcallmnhaikfpaaGreatDoor
open Go Go.RowKit Go.Deep
set_option maxRecDepth 10000 in
theorem footSize_any (w : World) (S : Nat → Prop) (u v : Value) (f : Fp) (h : FpAt w S u v f) (hl : f.rs.length + f.ws.length ≤ 1000) :
    Calls Tryz.prog 25 #[.agg #[u, v]] w (GivesI w (setT (f.rs ++ f.ws)).length) := by
  have K1 := (Keep.refl No w).alloc (.cells #[u, v] 41)
  have i1 : u.oneCell' = true := by obtain ⟨a, c, e, -⟩ := Rd.sliceForm h.1; simp at e; subst e; rfl
  have i2 : v.oneCell' = true := by obtain ⟨a, c, e, -⟩ := Rd.sliceForm h.2; simp at e; subst e; rfl
  have hof := (of_any _ S u v f (h.keep K1) (by omega)).mono (R' := fun e w3 => ∃ D : DU, ∃ m : Nat, e = .returned (.map (some m)) ∧ RowKit.Hid (MapOf w3 m (f.rs.length + f.ws.length) D f ∧ Keep No w w3)) (by
    rintro e w3 ⟨D, rfl, hm, hk⟩
    exact ⟨D, _, rfl, hm, K1.trans hk⟩)
  clear h K1 hl
  generalize hn : (setT (f.rs ++ f.ws)).length = n at *
  have HN := Lib.hid hn
  clear hn
  go_enter Tryz.func25, Tryz.ntmps25
  go_wp2_with (first | (go_at_call 54; refine hof.mono ?_; clear hof; rintro e w3 ⟨D, m, rfl, H3⟩; have hown := H3.out.1.1) | (at_len; refine wpList_len_own _ rfl _ 128 rfl 9 5 Tryz.underlying128 _ m _ _ rfl hown ?_))
  go_ret
  exact ⟨by rw [H3.out.1.2.size, HN.out]; rfl, H3.out.2⟩
theorem blk_seven {w : World} {b : Nat} {x0 x1 x2 x3 x4 x5 x6 : Value} {t : TypeId} (h : w.heap[b]? = some (.cells #[x0, x1, x2, x3, x4, x5, x6] t (0, 0))) (y0 y1 y2 y3 y4 y5 y6 : Value) :
    (((((((w.setCell ⟨b, 0, none⟩ y0).setCell ⟨b, 1, none⟩ y1).setCell ⟨b, 2, none⟩ y2).setCell ⟨b, 3, none⟩ y3).setCell ⟨b, 4, none⟩ y4).setCell ⟨b, 5, none⟩ y5).setCell ⟨b, 6, none⟩ y6).heap[b]? = some (.cells #[y0, y1, y2, y3, y4, y5, y6] t (0, 0)) := by
  have := (blk_set (blk_set (blk_set (blk_set (blk_set (blk_set (blk_set h 0 y0) 1 y1) 2 y2) 3 y3) 4 y4) 5 y5) 6 y6)
  simpa using this
theorem keep_seven {M : Nat → Prop} {a w : World} (h : Keep M a w) {b : Nat} (hb : a.heap.size ≤ b) (y0 y1 y2 y3 y4 y5 y6 : Value) : Keep M a (((((((w.setCell ⟨b, 0, none⟩ y0).setCell ⟨b, 1, none⟩ y1).setCell ⟨b, 2, none⟩ y2).setCell ⟨b, 3, none⟩ y3).setCell ⟨b, 4, none⟩ y4).setCell ⟨b, 5, none⟩ y5).setCell ⟨b, 6, none⟩ y6) := by
  repeat (refine Keep.setNew ?_ (by exact hb) _)
  exact h
theorem agree_seven {S : Nat → Prop} {w : World} {b : Nat} (hb : ¬ S b) (y0 y1 y2 y3 y4 y5 y6 : Value) : Agree S w (((((((w.setCell ⟨b, 0, none⟩ y0).setCell ⟨b, 1, none⟩ y1).setCell ⟨b, 2, none⟩ y2).setCell ⟨b, 3, none⟩ y3).setCell ⟨b, 4, none⟩ y4).setCell ⟨b, 5, none⟩ y5).setCell ⟨b, 6, none⟩ y6) :=
  (((((((keep_set w b 0 y0).trans (keep_set _ b 1 y1)).trans (keep_set _ b 2 y2)).trans (keep_set _ b 3 y3)).trans (keep_set _ b 4 y4)).trans (keep_set _ b 5 y5)).trans (keep_set _ b 6 y6)).agree fun k _ hk e => hb (by have : k = b := e; rw [← this]; exact hk)
def GivesPl (w : World) (x : Plan × Int) (e : Ending) (w' : World) : Prop :=
  ∃ cs : Array Value, e = .returned (.tuple #[.agg cs, .int .i64 x.2]) ∧ Rd planSh w' (Fr w.heap.size w'.heap.size) cs.toList x.1 ∧ Keep No w w'
theorem zero_given {w w' : World} (hk : Keep No w w') (e : Int) : GivesPl w (plan0, e) (.returned (.tuple #[.agg #[.int .i64 0, .int .u64 0, .string ⟨#[]⟩, .slice none 0 0, .int .i64 0, .slice none 0 0, .slice none 0 0], .int .i64 e])) w' := by
  have hz : ∀ s : Sh, Rd (.slice s) w' (Fr w.heap.size w'.heap.size) [.slice none 0 0] [] := fun s => ⟨none, 0, rfl, Nat.le_refl _, by rw [maxLen_is]; omega, fun _ => ⟨rfl, rfl⟩, fun i hi => absurd hi (by simp)⟩
  exact ⟨_, rfl, plan_mk plan0 (hz _) (hz _) (hz _) (by decide) (by decide) (by rw [maxLen_is]; show (0 : Nat) ≤ _; omega) (by decide), hk⟩
theorem keysT_len (args : List Val) : ∀ l : List ByteArray, (keysT args l).1.length ≤ l.length
  | [] => Nat.le_refl _
  | t :: l => by
    have ih := keysT_len args l
    unfold keysT
    split
    · exact Nat.zero_le _
    · split
      · exact Nat.zero_le _
      · simp; exact ih
theorem norm_len (f : Fp) : f.norm.1.rs.length + f.norm.1.ws.length ≤ f.rs.length + f.ws.length := by
  unfold Fp.norm
  split
  · exact Nat.zero_le _
  · split
    · exact Nat.zero_le _
    · have h1 := setT_le f.rs
      have h2 := setT_le f.ws
      show (setT f.rs).length + (setT f.ws).length ≤ _
      omega
theorem foot_len (p : Prc) (args : List Val) (h1 : p.reads.length ≤ 32) (h2 : p.writes.length ≤ 32) : (p.foot args).1.rs.length + (p.foot args).1.ws.length ≤ 64 := by
  unfold Prc.foot
  split
  · exact Nat.zero_le _
  · split
    · exact Nat.zero_le _
    · split
      · exact Nat.zero_le _
      · split
        · exact Nat.zero_le _
        · have h3 := norm_len (mkFp (keysT args p.reads).1 (keysT args p.writes).1)
          have h4 := keysT_len args p.reads
          have h5 := keysT_len args p.writes
          have h6 : (mkFp (keysT args p.reads).1 (keysT args p.writes).1).rs.length + (mkFp (keysT args p.reads).1 (keysT args p.writes).1).ws.length = (keysT args p.reads).1.length + (keysT args p.writes).1.length := rfl
          omega
structure FindAt (w : World) (lv : Value) (L : List Prc) : Prop where
  find : ∀ W, Keep No w W → ∀ n : ByteArray, n.size ≤ 9223372036854775806 → Calls Tryz.prog 16 #[lv, .string n] W (Found W L n)
  home : ∀ p ∈ L, p.Home
theorem LibAt.finds {w : World} {S : Nat → Prop} {B m : Nat} {L : List Prc} (h : LibAt w S B m L) : FindAt w (.pointer (some ⟨B, 0, none⟩)) L := ⟨fun W hW n hn => find_lib W S B m L (h.keep hW (fun _ _ x => x)) n hn, h.home⟩
set_option maxRecDepth 10000 in
set_option maxHeartbeats 4000000 in
theorem judge_gen (w : World) (T : Nat → Prop) (lv : Value) (L : List Prc) (h : FindAt w lv L) (cs : List Value) (q : Req) (hq : Rd requestSh w T cs q) (hn : q.name.size ≤ 9223372036854775806) (most : Int) (ht : Tab w) :
    Calls Tryz.prog 8 #[lv, .agg cs.toArray, .int .i64 most] w (GivesPl w (judgeL L q most)) := by
  obtain ⟨a, c, rfl, h4, w1, w2, w3⟩ := req_cells hq
  have K0 := ((Keep.refl No w).alloc (.cells #[.int .i64 q.client, .int .u64 q.token, .string q.name, .slice a q.args.length c] 38)).alloc (.cells #[.int .i64 0, .int .u64 0, .string ⟨#[]⟩, .slice none 0 0, .int .i64 0, .slice none 0 0, .slice none 0 0] 43)
  have x0 := blk_alloc (o' := .cells #[.int .i64 0, .int .u64 0, .string ⟨#[]⟩, .slice none 0 0, .int .i64 0, .slice none 0 0, .slice none 0 0] 43) (blk_new w (.cells #[.int .i64 q.client, .int .u64 q.token, .string q.name, .slice a q.args.length c] 38))
  have y0 := blk_new (w.alloc (.cells #[.int .i64 q.client, .int .u64 q.token, .string q.name, .slice a q.args.length c] 38)) (.cells #[.int .i64 0, .int .u64 0, .string ⟨#[]⟩, .slice none 0 0, .int .i64 0, .slice none 0 0, .slice none 0 0] 43)
  simp only [World.size_alloc] at y0
  have q0 := blk_cell x0
  have hch := (check_any _ T _ q (hq.agree requestSh K0.agreeNo) hn).mono (R' := fun e w5 => e = .returned (.int .i64 q.check) ∧ w5.heap[w.heap.size]? = some (.cells #[.int .i64 q.client, .int .u64 q.token, .string q.name, .slice a q.args.length c] 38 (0, 0)) ∧ w5.heap[w.heap.size + 1]? = some (.cells #[.int .i64 0, .int .u64 0, .string ⟨#[]⟩, .slice none 0 0, .int .i64 0, .slice none 0 0, .slice none 0 0] 43 (0, 0)) ∧ RowKit.Hid (Keep No w w5)) (by
    rintro e w5 ⟨rfl, hk⟩
    exact ⟨rfl, hk.blk x0 (fun x => x), hk.blk y0 (fun x => x), K0.trans hk⟩)
  have HX := Lib.hid (And.intro h (And.intro h4 (And.intro ht (And.intro hn (And.intro w1 (And.intro w2 w3))))))
  clear h h4 w1 w2 w3 ht hn hq K0 x0 y0
  by_cases hc : q.check = 0
  · rw [hc] at hch
    have hd : q.args.length ≤ 8 := by
      unfold Req.check at hc
      split at hc
      · cases hc
      · split at hc
        · cases hc
        · split at hc
          · cases hc
          · omega
    have HC := Lib.hid (And.intro hc hd)
    clear hc hd
    have HFI : RowKit.Hid (∀ W, Keep No w W → Calls Tryz.prog 16 #[lv, .string q.name] W (Found W L q.name)) := fun W hW => HX.out.1.find W hW q.name HX.out.2.2.2.1
    cases hf : findP L q.name with
    | none =>
      have hj : judgeL L q most = (plan0, 92) := by unfold judgeL; rw [if_neg (by rw [HC.out.1]; simp), hf]
      rw [hj]
      have HFN : RowKit.Hid (∀ W, Keep No w W → Calls Tryz.prog 16 #[lv, .string q.name] W fun e w6 => ∃ b1 d1 b2 d2 b3 d3 b4 d4 b5 d5, e = .returned (.tuple #[.agg #[.string ⟨#[]⟩, .slice b1 0 d1, .bool false, .slice b2 0 d2, .slice b3 0 d3, .int .i64 0, .slice b4 0 d4, .slice b5 0 d5], .bool false]) ∧ RowKit.Hid (Keep No W w6)) := fun W hW => by
        refine (HFI.out W hW).mono ?_
        rintro e w6 ⟨cs6, rfl, hr6, hk6⟩
        rw [hf] at hr6 ⊢
        obtain ⟨b1, d1, b2, d2, b3, d3, b4, d4, b5, d5, hcs, -⟩ := proc_cells hr6
        obtain rfl : cs6 = #[.string prc0.name, .slice b1 prc0.kinds.length d1, .bool prc0.dep, .slice b2 prc0.reads.length d2, .slice b3 prc0.writes.length d3, .int .i64 prc0.pgm.args, .slice b4 prc0.pgm.consts.length d4, .slice b5 prc0.pgm.code.length d5] := by
          cases cs6; simp at hcs; rw [hcs]
        exact ⟨b1, d1, b2, d2, b3, d3, b4, d4, b5, d5, rfl, hk6⟩
      clear hf hj HFI
      go_enter Tryz.func8, Tryz.ntmps8
      go_wp2_with (first | (go_at_call 22; refine hch.mono ?_; clear hch; rintro e w5 ⟨rfl, X5, R5, HK5⟩; clear q0; have q5 := blk_cell X5) | (go_at_call 16; refine (HFN.out _ HK5.out).mono ?_; rintro e w6 ⟨b1, d1, b2, d2, b3, d3, b4, d4, b5, d5, rfl, HK6⟩; have R9 := blk_alloc (o' :=   .cells #[.string ⟨#[]⟩, .slice b1 0 d1, .bool false, .slice b2 0 d2, .slice b3 0 d3, .int .i64 0, .slice b4 0 d4, .slice b5 0 d5] 66) (HK6.out.blk R5 (fun x => x)); have K9 := (HK5.out.trans HK6.out).alloc (  .cells #[.string ⟨#[]⟩, .slice b1 0 d1, .bool false, .slice b2 0 d2, .slice b3 0 d3, .int .i64 0, .slice b4 0 d4, .slice b5 0 d5] 66); have c9 := blk_cell R9; have z9 := blk_fro R9))
      have y9 := blk_seven R9 (.int .i64 0) (.int .u64 0) (.string ⟨#[]⟩) (.slice none 0 0) (.int .i64 0) (.slice none 0 0) (.slice none 0 0)
      have k9 := keep_seven K9 (b := w.heap.size + 1) (Nat.le_succ _) (.int .i64 0) (.int .u64 0) (.string ⟨#[]⟩) (.slice none 0 0) (.int .i64 0) (.slice none 0 0) (.slice none 0 0)
      have s9 := blk_cell y9
      refine bodyPost_ret (v := .tuple #[.agg #[.int .i64 0, .int .u64 0, .string ⟨#[]⟩, .slice none 0 0, .int .i64 0, .slice none 0 0, .slice none 0 0], .int .i64 92]) (by simp [results, Tryz.results8, go_sem, s9]) rfl ?_

      exact zero_given k9 _
    | some p =>
      have hhome := HX.out.1.home p (findP_mem hf).1
      have HFN : RowKit.Hid (∀ W, Keep No w W → Calls Tryz.prog 16 #[lv, .string q.name] W fun e w6 => ∃ b1 d1 b2 d2 b3 d3 b4 d4 b5 d5, e = .returned (.tuple #[.agg #[.string p.name, .slice b1 p.kinds.length d1, .bool p.dep, .slice b2 p.reads.length d2, .slice b3 p.writes.length d3, .int .i64 p.pgm.args, .slice b4 p.pgm.consts.length d4, .slice b5 p.pgm.code.length d5], .bool true]) ∧ RowKit.Hid (Rd procSh w6 (Fr W.heap.size w6.heap.size) #[.string p.name, .slice b1 p.kinds.length d1, .bool p.dep, .slice b2 p.reads.length d2, .slice b3 p.writes.length d3, .int .i64 p.pgm.args, .slice b4 p.pgm.consts.length d4, .slice b5 p.pgm.code.length d5].toList p ∧ Keep No W w6)) := fun W hW => by
        refine (HFI.out W hW).mono ?_
        rintro e w6 ⟨cs6, rfl, hr6, hk6⟩
        rw [hf] at hr6 ⊢
        obtain ⟨b1, d1, b2, d2, b3, d3, b4, d4, b5, d5, hcs, -⟩ := proc_cells hr6
        simp only [Option.getD_some] at hcs hr6
        obtain rfl : cs6 = #[.string p.name, .slice b1 p.kinds.length d1, .bool p.dep, .slice b2 p.reads.length d2, .slice b3 p.writes.length d3, .int .i64 p.pgm.args, .slice b4 p.pgm.consts.length d4, .slice b5 p.pgm.code.length d5] := by
          cases cs6; simp at hcs; rw [hcs]
        exact ⟨b1, d1, b2, d2, b3, d3, b4, d4, b5, d5, rfl, hr6, hk6⟩
      have HSU : RowKit.Hid (∀ (W W6 W8 : World) b1 d1 b2 d2 b3 d3 b4 d4 b5 d5, Keep No w W6 → Keep No W6 W8 → Rd procSh W6 (Fr W.heap.size W6.heap.size) #[.string p.name, .slice b1 p.kinds.length d1, .bool p.dep, .slice b2 p.reads.length d2, .slice b3 p.writes.length d3, .int .i64 p.pgm.args, .slice b4 p.pgm.consts.length d4, .slice b5 p.pgm.code.length d5].toList p → Calls Tryz.prog 17 #[.agg #[.string p.name, .slice b1 p.kinds.length d1, .bool p.dep, .slice b2 p.reads.length d2, .slice b3 p.writes.length d3, .int .i64 p.pgm.args, .slice b4 p.pgm.consts.length d4, .slice b5 p.pgm.code.length d5], .slice a q.args.length c] W8 fun e w7 => e = .returned (.int .i64 (if suitsB p.kinds q.args then 0 else 82)) ∧ RowKit.Hid (Keep No W8 w7)) := fun W W6 W8 b1 d1 b2 d2 b3 d3 b4 d4 b5 d5 h6 h8 hr => by
        obtain ⟨e1, f1, e2, f2, e3, f3, e4, f4, e5, f5, hcs, r1, -⟩ := proc_cells hr
        simp only [Array.toList, List.cons.injEq, Value.slice.injEq, and_true, true_and] at hcs
        obtain ⟨⟨rfl, rfl⟩, -⟩ := hcs
        exact suits_any W8 _ T _ _ _ _ _ _ _ ⟨rfl, rfl, rfl, rfl, rfl, rfl, rfl⟩ _ a _ c p.kinds q.args (r1.agree _ h8.agreeNo) (HX.out.2.1.agree _ (h6.trans h8).agreeNo)
      have HF := Lib.hid (And.intro hhome hf)
      clear HFI
      cases hs : suitsB p.kinds q.args with
      | false =>
        have hj : judgeL L q most = (plan0, 82) := by unfold judgeL; rw [if_neg (by rw [HC.out.1]; simp), hf]; simp only; rw [if_pos hs]
        rw [hj]
        rw [hs] at HSU
        simp only [Bool.false_eq_true, if_false] at HSU
        clear hj hf hhome hs
        go_enter Tryz.func8, Tryz.ntmps8
        go_wp2_with (first | (go_at_call 22; refine hch.mono ?_; clear hch; rintro e w5 ⟨rfl, X5, R5, HK5⟩; clear q0; have q5 := blk_cell X5) | (go_at_call 16; refine (HFN.out _ HK5.out).mono ?_; rintro e w6 ⟨b1, d1, b2, d2, b3, d3, b4, d4, b5, d5, rfl, H6⟩; have X6 := H6.out.2.blk X5 (fun x => x); have R6 := H6.out.2.blk R5 (fun x => x); have q6 := blk_cell X6; have q6a := blk_cell (blk_alloc (o' := .cells #[.string p.name, .slice b1 p.kinds.length d1, .bool p.dep, .slice b2 p.reads.length d2, .slice b3 p.writes.length d3, .int .i64 p.pgm.args, .slice b4 p.pgm.consts.length d4, .slice b5 p.pgm.code.length d5] 66) X6)) | (go_at_call 17; refine (HSU.out w5 w6 _ b1 d1 b2 d2 b3 d3 b4 d4 b5 d5 (HK5.out.trans H6.out.2) ((Keep.refl No w6).alloc _) H6.out.1).mono ?_; rintro e w7 ⟨rfl, HK7⟩; have R9 := HK7.out.blk (blk_alloc (o' := .cells #[.string p.name, .slice b1 p.kinds.length d1, .bool p.dep, .slice b2 p.reads.length d2, .slice b3 p.writes.length d3, .int .i64 p.pgm.args, .slice b4 p.pgm.consts.length d4, .slice b5 p.pgm.code.length d5] 66) R6) (fun x => x); have K9 := ((HK5.out.trans H6.out.2).alloc (.cells #[.string p.name, .slice b1 p.kinds.length d1, .bool p.dep, .slice b2 p.reads.length d2, .slice b3 p.writes.length d3, .int .i64 p.pgm.args, .slice b4 p.pgm.consts.length d4, .slice b5 p.pgm.code.length d5] 66)).trans HK7.out; have c9 := blk_cell R9; have z9 := blk_fro R9))
        have y9 := blk_seven R9 (.int .i64 0) (.int .u64 0) (.string ⟨#[]⟩) (.slice none 0 0) (.int .i64 0) (.slice none 0 0) (.slice none 0 0)
        have k9 := keep_seven K9 (b := w.heap.size + 1) (Nat.le_succ _) (.int .i64 0) (.int .u64 0) (.string ⟨#[]⟩) (.slice none 0 0) (.int .i64 0) (.slice none 0 0) (.slice none 0 0)
        have s9 := blk_cell y9
        refine bodyPost_ret (v := .tuple #[.agg #[.int .i64 0, .int .u64 0, .string ⟨#[]⟩, .slice none 0 0, .int .i64 0, .slice none 0 0, .slice none 0 0], .int .i64 82]) (by simp [results, Tryz.results8, go_sem, s9]) rfl ?_
        exact zero_given k9 _
      | true =>
        rw [hs] at HSU
        simp only [if_true] at HSU
        have hj0 : judgeL L q most = if p.dep then (mkPlan q 0 (mkFp [] []), 0) else if (p.foot q.args).2 ≠ 0 then (plan0, (p.foot q.args).2) else if most < (setT ((p.foot q.args).1.rs ++ (p.foot q.args).1.ws)).length then (plan0, 93) else (mkPlan q 1 (p.foot q.args).1, 0) := by
          conv => lhs; unfold judgeL
          rw [if_neg (by rw [HC.out.1]; simp), hf]
          simp only
          rw [if_neg (by rw [hs]; simp)]
        obtain ⟨res, hres⟩ : ∃ res, res = judgeL L q most := ⟨_, rfl⟩
        rw [← hres]
        have HRES := Lib.hid (hres.trans hj0)
        clear hres
        have HS := Lib.hid hs
        have HCL : RowKit.Hid (∀ W, Keep No w W → Calls Tryz.prog 23 #[.slice a q.args.length c] W (Cloned valueSh 84 W q.args)) := fun W hW => clone_values W T _ q.args (HX.out.2.1.agree _ hW.agreeNo) (by have := HC.out.2; omega)
        clear hj0 hf hhome hs
        go_enter Tryz.func8, Tryz.ntmps8
        go_upto_region 11 with (first | (go_at_call 22; refine hch.mono ?_; clear hch; rintro e w5 ⟨rfl, X5, R5, HK5⟩; clear q0; have q5 := blk_cell X5) | (go_at_call 16; refine (HFN.out _ HK5.out).mono ?_; rintro e w6 ⟨b1, d1, b2, d2, b3, d3, b4, d4, b5, d5, rfl, H6⟩; have X6 := H6.out.2.blk X5 (fun x => x); have R6 := H6.out.2.blk R5 (fun x => x); have q6 := blk_cell X6; have q6a := blk_cell (blk_alloc (o' := .cells #[.string p.name, .slice b1 p.kinds.length d1, .bool p.dep, .slice b2 p.reads.length d2, .slice b3 p.writes.length d3, .int .i64 p.pgm.args, .slice b4 p.pgm.consts.length d4, .slice b5 p.pgm.code.length d5] 66) X6)) | (go_at_call 17; refine (HSU.out w5 w6 _ b1 d1 b2 d2 b3 d3 b4 d4 b5 d5 (HK5.out.trans H6.out.2) ((Keep.refl No w6).alloc _) H6.out.1).mono ?_; rintro e w7 ⟨rfl, HK7⟩; have K6 := (HK5.out.trans H6.out.2).alloc (.cells #[.string p.name, .slice b1 p.kinds.length d1, .bool p.dep, .slice b2 p.reads.length d2, .slice b3 p.writes.length d3, .int .i64 p.pgm.args, .slice b4 p.pgm.consts.length d4, .slice b5 p.pgm.code.length d5] 66); have HK7' := Lib.hid (K6.trans HK7.out); have X7 := HK7.out.blk (blk_alloc (o' := .cells #[.string p.name, .slice b1 p.kinds.length d1, .bool p.dep, .slice b2 p.reads.length d2, .slice b3 p.writes.length d3, .int .i64 p.pgm.args, .slice b4 p.pgm.consts.length d4, .slice b5 p.pgm.code.length d5] 66) X6) (fun x => x); have R7 := HK7.out.blk (blk_alloc (o' := .cells #[.string p.name, .slice b1 p.kinds.length d1, .bool p.dep, .slice b2 p.reads.length d2, .slice b3 p.writes.length d3, .int .i64 p.pgm.args, .slice b4 p.pgm.consts.length d4, .slice b5 p.pgm.code.length d5] 66) R6) (fun x => x); have P7 := HK7.out.blk (blk_new w6 (.cells #[.string p.name, .slice b1 p.kinds.length d1, .bool p.dep, .slice b2 p.reads.length d2, .slice b3 p.writes.length d3, .int .i64 p.pgm.args, .slice b4 p.pgm.consts.length d4, .slice b5 p.pgm.code.length d5] 66)) (fun x => x); have q7 := blk_cell X7; clear q6 q6a K6) | (go_at_call 23; refine (HCL.out _ HK7'.out).mono ?_; rintro e w8 ⟨a8, c8, rfl, o8, k8⟩; have X8 := k8.blk X7 (fun x => x); have q8 := blk_cell X8; have z8 := blk_fro X8; have H8 := Lib.hid (And.intro o8 k8); clear o8 k8 q7))
        have hlt5 : w.heap.size + 1 < w5.heap.size := blk_lt R5
        have hs56 := H6.out.2.size
        have K67 := ((Keep.refl No w6).alloc (.cells #[.string p.name, .slice b1 p.kinds.length d1, .bool p.dep, .slice b2 p.reads.length d2, .slice b3 p.writes.length d3, .int .i64 p.pgm.args, .slice b4 p.pgm.consts.length d4, .slice b5 p.pgm.code.length d5] 66)).trans HK7.out
        have hs67 := K67.size
        have hs78 := H8.out.2.size
        have X9 := blk_set X8 3 (.slice a8 q.args.length c8)
        have R8 := blk_other (a := ⟨w.heap.size, 3, none⟩) (H8.out.2.blk R7 (fun x => x)) (by show w.heap.size ≠ w.heap.size + 1; omega) (.slice a8 q.args.length c8)
        have P8 := blk_other (a := ⟨w.heap.size, 3, none⟩) (H8.out.2.blk P7 (fun x => x)) (by show w.heap.size ≠ w6.heap.size; omega) (.slice a8 q.args.length c8)
        have K9 := (HK7'.out.trans H8.out.2).setNew (p := ⟨w.heap.size, 3, none⟩) (Nat.le_refl _) (.slice a8 q.args.length c8)
        have O8 : Rd (.slice valueSh) (w8.setCell ⟨w.heap.size, 3, none⟩ (.slice a8 q.args.length c8)) (Fr w5.heap.size w8.heap.size) [.slice a8 q.args.length c8] q.args := ((H8.out.1.rd.mono (.slice valueSh) fun k _ hk => ⟨by have := hk.1; omega, hk.2⟩).agree (.slice valueSh) (agree_set (fun hh => by have := hh.1; omega) 3 _))
        have RP : Rd procSh (w8.setCell ⟨w.heap.size, 3, none⟩ (.slice a8 q.args.length c8)) (Fr w5.heap.size w6.heap.size) #[.string p.name, .slice b1 p.kinds.length d1, .bool p.dep, .slice b2 p.reads.length d2, .slice b3 p.writes.length d3, .int .i64 p.pgm.args, .slice b4 p.pgm.consts.length d4, .slice b5 p.pgm.code.length d5].toList p := (H6.out.1.agree procSh (K67.trans H8.out.2).agreeNo).agree procSh (agree_set (fun hh => by have := hh.1; omega) 3 _)
        simp at X9
        have hs9 : (w8.setCell ⟨w.heap.size, 3, none⟩ (.slice a8 q.args.length c8)).heap.size = w8.heap.size := by simp
        have h58 : w5.heap.size ≤ w8.heap.size := by omega
        have H9 := Lib.hid (And.intro X9 (And.intro R8 (And.intro P8 (And.intro K9 (And.intro O8 (And.intro RP (And.intro hlt5 (And.intro h58 hs9))))))))
        have p9 := blk_cell P8
        have x9 := blk_cell X9
        clear hlt5 hs56 K67 hs67 hs78 X9 R8 P8 K9 O8 RP hs9 h58 X8 R7 P7 X7 X6 R6 X5 R5 q8 z8 H8 H6 HK7 HK7' HK5 HCL HSU HFN
        generalize w8.setCell ⟨w.heap.size, 3, none⟩ (.slice a8 q.args.length c8) = w9 at *
        cases hdep : p.dep with
        | true =>
          have hre : res = (mkPlan q 0 (mkFp [] []), 0) := by rw [HRES.out, hdep, if_pos rfl]
          rw [hdep] at p9
          have HRE := Lib.hid hre
          clear hre HRES
          have R9 := H9.out.2.1
          have r9 := blk_cell R9
          have z9 := blk_fro R9
          have K9 := H9.out.2.2.2.1
          clear hdep
          go_wp2_with fail
          have O9 : Rd (.slice valueSh) _ (Fr w.heap.size w9.heap.size) [.slice a8 q.args.length c8] q.args := (H9.out.2.2.2.2.1.agree (.slice valueSh) (agree_seven (b := w.heap.size + 1) (fun hh => by have := hh.1; have := H9.out.2.2.2.2.2.2.1; omega) (.int .i64 q.client) (.int .u64 q.token) (.string q.name) (.slice a8 q.args.length c8) (.int .i64 0) (.slice none 0 0) (.slice none 0 0))).mono (.slice valueSh) fun k _ hk => ⟨by have := hk.1; have := H9.out.2.2.2.2.2.2.1; omega, by have := hk.2; have := H9.out.2.2.2.2.2.2.2.2; omega⟩
          have y9 := blk_seven R9 (.int .i64 q.client) (.int .u64 q.token) (.string q.name) (.slice a8 q.args.length c8) (.int .i64 0) (.slice none 0 0) (.slice none 0 0)
          have k9 := keep_seven K9 (b := w.heap.size + 1) (Nat.le_succ _) (.int .i64 q.client) (.int .u64 q.token) (.string q.name) (.slice a8 q.args.length c8) (.int .i64 0) (.slice none 0 0) (.slice none 0 0)
          have s9 := blk_cell y9
          refine bodyPost_ret (v := .tuple #[.agg #[.int .i64 q.client, .int .u64 q.token, .string q.name, .slice a8 q.args.length c8, .int .i64 0, .slice none 0 0, .slice none 0 0], .int .i64 0]) (by simp [results, Tryz.results8, go_sem, s9]) rfl ?_
          have hz : ∀ s : Sh, ∀ W S', Rd (.slice s) W S' [.slice none 0 0] [] := fun s W S' => ⟨none, 0, rfl, Nat.le_refl _, by rw [maxLen_is]; omega, fun _ => ⟨rfl, rfl⟩, fun i hi => absurd hi (by simp)⟩
          rw [HRE.out]
          refine ⟨_, rfl, plan_mk (mkPlan q 0 (mkFp [] [])) ?_ (hz _ _ _) (hz _ _ _) HX.out.2.2.2.2.1 HX.out.2.2.2.2.2.1 HX.out.2.2.2.2.2.2 (show (Lit.int .i64 0).wf = true by decide), k9⟩
          show Rd (.slice valueSh) _ _ _ q.args
          simpa using O9
        | false =>
          have hre : res = if (p.foot q.args).2 ≠ 0 then (plan0, (p.foot q.args).2) else if most < (setT ((p.foot q.args).1.rs ++ (p.foot q.args).1.ws)).length then (plan0, 93) else (mkPlan q 1 (p.foot q.args).1, 0) := by rw [HRES.out, hdep, if_neg (by simp)]
          rw [hdep] at p9
          clear HRES
          have hft := (libFoot_any w9 _ _ _ p H9.out.2.2.2.2.2.1 HF.out.1 hdep q.args a8 c8 H9.out.2.2.2.2.1 HS.out (HX.out.2.2.1.keep H9.out.2.2.2.1)).mono (R' := fun e w10 => ∃ f1 n1 g1 f2 n2 g2 qe, e = .returned (.tuple #[.agg #[.slice f1 n1 g1, .slice f2 n2 g2], .int .i64 qe]) ∧ w10.heap[w.heap.size]? = some (.cells #[.int .i64 q.client, .int .u64 q.token, .string q.name, .slice a8 q.args.length c8] 38 (0, 0)) ∧ w10.heap[w.heap.size + 1]? = some (.cells #[.int .i64 0, .int .u64 0, .string ⟨#[]⟩, .slice none 0 0, .int .i64 0, .slice none 0 0, .slice none 0 0] 43 (0, 0)) ∧ RowKit.Hid (qe = (p.foot q.args).2 ∧ OwnF w9 w10 (.slice f1 n1 g1) (.slice f2 n2 g2) (p.foot q.args).1 ∧ Keep No w w10 ∧ Keep No w9 w10)) (by
            rintro e w10 ⟨f1, n1, g1, f2, n2, g2, rfl, ho, hk⟩
            exact ⟨f1, n1, g1, f2, n2, g2, _, rfl, hk.blk H9.out.1 (fun x => x), hk.blk H9.out.2.1 (fun x => x), rfl, ho, H9.out.2.2.2.1.trans hk, hk⟩)
          have hfl := foot_len p q.args HF.out.1.ok.nr HF.out.1.ok.nw
          simp only [hdep] at hft
          have HFL := Lib.hid hfl
          clear hfl hdep
          by_cases he : (p.foot q.args).2 = 0
          · rw [if_neg (fun hh => hh he)] at hre
            have HE := Lib.hid he
            clear he
            by_cases hm : most < (setT ((p.foot q.args).1.rs ++ (p.foot q.args).1.ws)).length
            · rw [if_pos hm] at hre
              have HRE := Lib.hid hre
              clear hre
              have hm' : most < ((setT ((p.foot q.args).1.rs ++ (p.foot q.args).1.ws)).length : Int) := hm
              obtain ⟨nf, hnf⟩ : ∃ nf, nf = (setT ((p.foot q.args).1.rs ++ (p.foot q.args).1.ws)).length := ⟨_, rfl⟩
              rw [← hnf] at hm'
              have HNF := Lib.hid hnf
              clear hm hnf
              go_wp2_with (first | (go_at_call 24; refine hft.mono ?_; clear hft; rintro e w10 ⟨f1, n1, g1, f2, n2, g2, qe, rfl, X10, R10, H10⟩; obtain rfl : qe = 0 := by rw [H10.out.1, HE.out]) | (go_at_call 25; refine (footSize_any _ (Fr w9.heap.size w10.heap.size) _ _ _ (H10.out.2.1.at'.keep ((Keep.refl No w10).alloc _)) (by have := HFL.out; omega)).mono ?_; rintro e w11 ⟨rfl, hk11⟩; rw [← HNF.out]; have R9 := hk11.blk (blk_alloc (o' := .cells #[.slice f1 n1 g1, .slice f2 n2 g2] 41) R10) (fun x => x); have K9 := (H10.out.2.2.1.alloc (.cells #[.slice f1 n1 g1, .slice f2 n2 g2] 41)).trans hk11; have c9 := blk_cell R9; have z9 := blk_fro R9; clear hk11))
              have y9 := blk_seven R9 (.int .i64 0) (.int .u64 0) (.string ⟨#[]⟩) (.slice none 0 0) (.int .i64 0) (.slice none 0 0) (.slice none 0 0)
              have k9 := keep_seven K9 (b := w.heap.size + 1) (Nat.le_succ _) (.int .i64 0) (.int .u64 0) (.string ⟨#[]⟩) (.slice none 0 0) (.int .i64 0) (.slice none 0 0) (.slice none 0 0)
              have s9 := blk_cell y9
              refine bodyPost_ret (v := .tuple #[.agg #[.int .i64 0, .int .u64 0, .string ⟨#[]⟩, .slice none 0 0, .int .i64 0, .slice none 0 0, .slice none 0 0], .int .i64 93]) (by simp [results, Tryz.results8, go_sem, s9]) rfl ?_
              rw [HRE.out]
              exact zero_given k9 _
            · rw [if_neg hm] at hre
              have HRE := Lib.hid hre
              clear hre
              have hm' : ¬ most < ((setT ((p.foot q.args).1.rs ++ (p.foot q.args).1.ws)).length : Int) := hm
              obtain ⟨nf, hnf⟩ : ∃ nf, nf = (setT ((p.foot q.args).1.rs ++ (p.foot q.args).1.ws)).length := ⟨_, rfl⟩
              rw [← hnf] at hm'
              have HNF := Lib.hid hnf
              clear hm hnf
              go_wp2_with (first | (go_at_call 24; refine hft.mono ?_; clear hft; rintro e w10 ⟨f1, n1, g1, f2, n2, g2, qe, rfl, X10, R10, H10⟩; obtain rfl : qe = 0 := by rw [H10.out.1, HE.out]) | (go_at_call 25; refine (footSize_any _ (Fr w9.heap.size w10.heap.size) _ _ _ (H10.out.2.1.at'.keep ((Keep.refl No w10).alloc _)) (by have := HFL.out; omega)).mono ?_; rintro e w11 ⟨rfl, hk11⟩; rw [← HNF.out]; have R9 := hk11.blk (blk_alloc (o' := .cells #[.slice f1 n1 g1, .slice f2 n2 g2] 41) R10) (fun x => x); have X11 := hk11.blk (blk_alloc (o' := .cells #[.slice f1 n1 g1, .slice f2 n2 g2] 41) X10) (fun x => x); have Q11 := hk11.blk (blk_new w10 (.cells #[.slice f1 n1 g1, .slice f2 n2 g2] 41)) (fun x => x); have K9 := (H10.out.2.2.1.alloc (.cells #[.slice f1 n1 g1, .slice f2 n2 g2] 41)).trans hk11; have K11 := Lib.hid (((Keep.refl No w10).alloc (.cells #[.slice f1 n1 g1, .slice f2 n2 g2] 41)).trans hk11); have c9 := blk_cell R9; have z9 := blk_fro R9; have cx := blk_cell X11; have cq := blk_cell Q11; clear hk11))
              have y9 := blk_seven R9 (.int .i64 q.client) (.int .u64 q.token) (.string q.name) (.slice a8 q.args.length c8) (.int .i64 1) (.slice f1 n1 g1) (.slice f2 n2 g2)
              have k9 := keep_seven K9 (b := w.heap.size + 1) (Nat.le_succ _) (.int .i64 q.client) (.int .u64 q.token) (.string q.name) (.slice a8 q.args.length c8) (.int .i64 1) (.slice f1 n1 g1) (.slice f2 n2 g2)
              have s9 := blk_cell y9
              refine bodyPost_ret (v := .tuple #[.agg #[.int .i64 q.client, .int .u64 q.token, .string q.name, .slice a8 q.args.length c8, .int .i64 1, .slice f1 n1 g1, .slice f2 n2 g2], .int .i64 0]) (by simp [results, Tryz.results8, go_sem, s9]) rfl ?_
              have hs9 := H10.out.2.2.2.size
              have hs11 := K11.out.size
              have hlift : ∀ (sh : Sh) (lo : Nat) (y : Value) (l : List sh.T), w.heap.size + 1 < lo → Rd (.slice sh) w11 (Fr lo w11.heap.size) [y] l → Rd (.slice sh) (((((((w11.setCell ⟨w.heap.size + 1, 0, none⟩ (.int .i64 q.client)).setCell ⟨w.heap.size + 1, 1, none⟩ (.int .u64 q.token)).setCell ⟨w.heap.size + 1, 2, none⟩ (.string q.name)).setCell ⟨w.heap.size + 1, 3, none⟩ (.slice a8 q.args.length c8)).setCell ⟨w.heap.size + 1, 4, none⟩ (.int .i64 1)).setCell ⟨w.heap.size + 1, 5, none⟩ (.slice f1 n1 g1)).setCell ⟨w.heap.size + 1, 6, none⟩ (.slice f2 n2 g2)) (Fr w.heap.size w11.heap.size) [y] l := fun sh lo y l hlo hr =>
                (hr.agree (.slice sh) (agree_seven (b := w.heap.size + 1) (fun hh => by have := hh.1; omega) (.int .i64 q.client) (.int .u64 q.token) (.string q.name) (.slice a8 q.args.length c8) (.int .i64 1) (.slice f1 n1 g1) (.slice f2 n2 g2))).mono (.slice sh) fun k _ hk => ⟨by have := hk.1; omega, hk.2⟩
              have h59 := H9.out.2.2.2.2.2.2.2.1
              have hw5 := H9.out.2.2.2.2.2.2.1
              have hw9 := H9.out.2.2.2.2.2.2.2.2
              have O1 := hlift valueSh w5.heap.size _ _ hw5 ((((H9.out.2.2.2.2.1.agree (.slice valueSh) H10.out.2.2.2.agreeNo).agree (.slice valueSh) K11.out.agreeNo)).mono (.slice valueSh) fun k _ hk => ⟨hk.1, by have := hk.2; omega⟩)
              have O2 := hlift .str w9.heap.size _ _ (by omega) ((H10.out.2.1.1.1.rd.agree (.slice .str) K11.out.agreeNo).mono (.slice .str) fun k _ hk => ⟨hk.1, by have := hk.2; omega⟩)
              have O3 := hlift .str w9.heap.size _ _ (by omega) ((H10.out.2.1.2.1.rd.agree (.slice .str) K11.out.agreeNo).mono (.slice .str) fun k _ hk => ⟨hk.1, by have := hk.2; omega⟩)
              rw [HRE.out]
              refine ⟨_, rfl, plan_mk (mkPlan q 1 (p.foot q.args).1) ?_ ?_ ?_ HX.out.2.2.2.2.1 HX.out.2.2.2.2.2.1 HX.out.2.2.2.2.2.2 (show (Lit.int .i64 1).wf = true by decide), k9⟩
              · show Rd (.slice valueSh) _ _ _ q.args
                simpa using O1
              · show Rd (.slice .str) _ _ _ (p.foot q.args).1.rs
                simpa using O2
              · show Rd (.slice .str) _ _ _ (p.foot q.args).1.ws
                simpa using O3
          · rw [if_pos he] at hre
            have HRE := Lib.hid hre
            clear hre
            have HE := Lib.hid he
            obtain ⟨ee, hee⟩ : ∃ ee, ee = (p.foot q.args).2 := ⟨_, rfl⟩
            rw [← hee] at he
            have HEE := Lib.hid hee
            have he' : (ee == 0) = false := by simpa using he
            have he2 : (ee != 0) = true := by simpa using he
            clear he hee
            go_wp2_with (go_at_call 24; refine hft.mono ?_; clear hft; rintro e w10 ⟨f1, n1, g1, f2, n2, g2, qe, rfl, X10, R10, H10⟩; obtain rfl : qe = ee := H10.out.1.trans HEE.out.symm; have R9 := blk_alloc (o' := .cells #[.slice f1 n1 g1, .slice f2 n2 g2] 41) R10; have K9 := H10.out.2.2.1.alloc (.cells #[.slice f1 n1 g1, .slice f2 n2 g2] 41); have c9 := blk_cell R9; have z9 := blk_fro R9)
            have y9 := blk_seven R9 (.int .i64 0) (.int .u64 0) (.string ⟨#[]⟩) (.slice none 0 0) (.int .i64 0) (.slice none 0 0) (.slice none 0 0)
            have k9 := keep_seven K9 (b := w.heap.size + 1) (Nat.le_succ _) (.int .i64 0) (.int .u64 0) (.string ⟨#[]⟩) (.slice none 0 0) (.int .i64 0) (.slice none 0 0) (.slice none 0 0)
            have s9 := blk_cell y9
            refine bodyPost_ret (v := .tuple #[.agg #[.int .i64 0, .int .u64 0, .string ⟨#[]⟩, .slice none 0 0, .int .i64 0, .slice none 0 0, .slice none 0 0], .int .i64 qe]) (by simp [results, Tryz.results8, go_sem, s9]) rfl ?_
            rw [HRE.out, ← HEE.out]
            exact zero_given k9 _
  · have hj : judgeL L q most = (plan0, q.check) := by unfold judgeL; rw [if_pos hc]
    rw [hj]
    have hc' : (q.check != 0) = true := by simpa using hc
    clear hj hc
    generalize q.check = ec at *
    go_enter Tryz.func8, Tryz.ntmps8
    go_wp2_with (go_at_call 22; refine hch.mono ?_; clear hch; rintro e w5 ⟨rfl, X5, R9, HK5⟩; have c9 := blk_cell R9; have z9 := blk_fro R9; have K9 := HK5.out)
    have y9 := blk_seven R9 (.int .i64 0) (.int .u64 0) (.string ⟨#[]⟩) (.slice none 0 0) (.int .i64 0) (.slice none 0 0) (.slice none 0 0)
    have k9 := keep_seven K9 (b := w.heap.size + 1) (Nat.le_succ _) (.int .i64 0) (.int .u64 0) (.string ⟨#[]⟩) (.slice none 0 0) (.int .i64 0) (.slice none 0 0) (.slice none 0 0)
    have s9 := blk_cell y9
    refine bodyPost_ret (v := .tuple #[.agg #[.int .i64 0, .int .u64 0, .string ⟨#[]⟩, .slice none 0 0, .int .i64 0, .slice none 0 0, .slice none 0 0], .int .i64 ec]) (by simp [results, Tryz.results8, go_sem, s9]) rfl ?_

    exact zero_given k9 _
theorem judge_any (w : World) (S T : Nat → Prop) (B m : Nat) (L : List Prc) (h : LibAt w S B m L) (cs : List Value) (q : Req) (hq : Rd requestSh w T cs q) (hn : q.name.size ≤ 9223372036854775806) (most : Int) (ht : Tab w) :
    Calls Tryz.prog 8 #[.pointer (some ⟨B, 0, none⟩), .agg cs.toArray, .int .i64 most] w (GivesPl w (judgeL L q most)) := judge_gen w T _ L h.finds cs q hq hn most ht
end Go.Proofs.YtcallmnhaikfpaaGreatDoor
namespace Go.Proofs.YtcallmnhaikfpaaGreatDoor
open Go Go.RowKit Go.Deep
def TakenP (L : List Prc) (most : Int) (p : Plan) : Prop :=
  ∃ pl : Plan, judgeL L p.req most = (pl, 0) ∧ ((pl.how = 1 ∧ p.how = 1 ∧ pl.fp.rs = p.fp.rs ∧ pl.fp.ws = p.fp.ws) ∨ (pl.how = 0 ∧ p.how = 2 ∧ ((setT (p.fp.rs ++ p.fp.ws)).length : Int) ≤ most))
set_option maxRecDepth 10000 in
set_option maxHeartbeats 4000000 in
theorem entry_ok (w : World) (S T : Nat → Prop) (B m : Nat) (L : List Prc) (h : LibAt w S B m L) (cs : List Value) (x : Ent) (hx : Rd entrySh w T cs x) (most ahead batch : Int) (hT : TakenP L most x.plan) (hl : x.plan.fp.rs.length + x.plan.fp.ws.length ≤ 1000) (hn : x.plan.req.name.size ≤ 9223372036854775806) (hab : ahead < batch) (ht : Tab w) :
    Calls Tryz.prog 34 #[.pointer (some ⟨B, 0, none⟩), .agg cs.toArray, .int .i64 most, .int .i64 ahead, .int .i64 batch] w (GivesI w 0) := by
  obtain ⟨pl, hj, hcase⟩ := hT
  obtain ⟨ps, rfl, hp, -, -⟩ := ent_cells hx
  obtain ⟨a1, c1, a2, c2, a3, c3, rfl, hA, hR, hW, wc, wt, wn, wh⟩ := plan_cells hp
  have K1 := (Keep.refl No w).alloc (.cells #[.int .i64 x.seq, .int .i64 x.epoch, .int .i64 x.plan.client, .int .u64 x.plan.token, .string x.plan.name, .slice a1 x.plan.args.length c1, .int .i64 x.plan.how, .slice a2 x.plan.reads.length c2, .slice a3 x.plan.writes.length c3] 58)
  have x1 := blk_new w (.cells #[.int .i64 x.seq, .int .i64 x.epoch, .int .i64 x.plan.client, .int .u64 x.plan.token, .string x.plan.name, .slice a1 x.plan.args.length c1, .int .i64 x.plan.how, .slice a2 x.plan.reads.length c2, .slice a3 x.plan.writes.length c3] 58)
  have q1 := blk_cell x1
  have hq : Rd requestSh w T [.int .i64 x.plan.client, .int .u64 x.plan.token, .string x.plan.name, .slice a1 x.plan.args.length c1] x.plan.req := ⟨[.int .i64 x.plan.client], _, rfl, ⟨rfl, wc⟩, [.int .u64 x.plan.token], _, rfl, ⟨rfl, wt⟩, [.string x.plan.name], _, rfl, ⟨rfl, wn⟩, [.slice a1 x.plan.args.length c1], _, rfl, hA, rfl⟩
  have hjd := judge_any _ S T B m L (h.keep K1 (fun _ _ x => x)) _ x.plan.req (hq.agree requestSh K1.agreeNo) hn most (ht.keep K1)
  rw [hj] at hjd
  obtain ⟨ph, hph⟩ : ∃ ph, pl.how = ph := ⟨_, rfl⟩
  have hjd2 := hjd.mono (R' := fun e w2 => ∃ b1 d1 b2 d2 b3 d3, e = .returned (.tuple #[.agg #[.int .i64 pl.client, .int .u64 pl.token, .string pl.name, .slice b1 pl.args.length d1, .int .i64 ph, .slice b2 pl.reads.length d2, .slice b3 pl.writes.length d3], .int .i64 0]) ∧ w2.heap[w.heap.size]? = some (.cells #[.int .i64 x.seq, .int .i64 x.epoch, .int .i64 x.plan.client, .int .u64 x.plan.token, .string x.plan.name, .slice a1 x.plan.args.length c1, .int .i64 x.plan.how, .slice a2 x.plan.reads.length c2, .slice a3 x.plan.writes.length c3] 58 (0, 0)) ∧ RowKit.Hid (FpAt w2 (Fr w.heap.size w2.heap.size) (.slice b2 pl.reads.length d2) (.slice b3 pl.writes.length d3) pl.fp ∧ Keep No w w2)) (by
    rintro e w2 ⟨cs, rfl, hr, hk⟩
    obtain ⟨b1, d1, b2, d2, b3, d3, ecs, -, h6, h7, -⟩ := plan_cells hr
    obtain rfl : cs = #[.int .i64 pl.client, .int .u64 pl.token, .string pl.name, .slice b1 pl.args.length d1, .int .i64 pl.how, .slice b2 pl.reads.length d2, .slice b3 pl.writes.length d3] := by
      cases cs; simp at ecs; rw [ecs]
    refine ⟨b1, d1, b2, d2, b3, d3, by rw [hph], hk.blk x1 (fun x => x), ⟨h6.mono (.slice .str) fun k _ hk' => ⟨by have := hk'.1; simp at this; omega, hk'.2⟩, h7.mono (.slice .str) fun k _ hk' => ⟨by have := hk'.1; simp at this; omega, hk'.2⟩⟩, K1.trans hk⟩)
  have HX := Lib.hid (And.intro hl (show FpAt w T (.slice a2 x.plan.reads.length c2) (.slice a3 x.plan.writes.length c3) x.plan.fp from ⟨hR, hW⟩))
  have i1 : ¬ batch ≤ ahead := by omega
  obtain ⟨xh, hxh⟩ : ∃ xh, x.plan.how = xh := ⟨_, rfl⟩
  rw [hph, hxh] at hcase
  rw [hxh] at q1 ⊢
  clear K1 x1 hq hjd h hp hA hR hW wc wt wn wh hj hph hab hn ht hl
  rcases hcase with ⟨rfl, rfl, e1, e2⟩ | ⟨rfl, rfl, e3⟩
  · rw [hxh] at hjd2
    have HE := Lib.hid (And.intro e1 e2)
    clear e1 e2 hxh
    go_enter Tryz.func34, Tryz.ntmps34
    go_wp2_with (go_at_call 8; refine hjd2.mono ?_; clear hjd2; rintro e w2 ⟨b1, d1, b2, d2, b3, d3, rfl, y2, H2⟩; clear q1; have q2 := blk_cell y2; have y3 := blk_alloc (o' := (.cells #[.int .i64 pl.client, .int .u64 pl.token, .string pl.name, .slice b1 pl.args.length d1, .int .i64 1, .slice b2 pl.reads.length d2, .slice b3 pl.writes.length d3] 43)) y2; have z3 := blk_new w2 (.cells #[.int .i64 pl.client, .int .u64 pl.token, .string pl.name, .slice b1 pl.args.length d1, .int .i64 1, .slice b2 pl.reads.length d2, .slice b3 pl.writes.length d3] 43); have K3 := Lib.hid (H2.out.2.alloc (.cells #[.int .i64 pl.client, .int .u64 pl.token, .string pl.name, .slice b1 pl.args.length d1, .int .i64 1, .slice b2 pl.reads.length d2, .slice b3 pl.writes.length d3] 43)); have q3 := blk_cell y3; have p3 := blk_cell z3; have F3 := Lib.hid (H2.out.1.keep ((Keep.refl No w2).alloc (.cells #[.int .i64 pl.client, .int .u64 pl.token, .string pl.name, .slice b1 pl.args.length d1, .int .i64 1, .slice b2 pl.reads.length d2, .slice b3 pl.writes.length d3] 43))); have hc := (same_any _ _ T _ _ _ _ _ _ F3.out (HX.out.2.keep K3.out)).mono (R' := fun e w4 => e = .returned (.bool true) ∧ w4.heap[w.heap.size]? = some (.cells #[.int .i64 x.seq, .int .i64 x.epoch, .int .i64 x.plan.client, .int .u64 x.plan.token, .string x.plan.name, .slice a1 x.plan.args.length c1, .int .i64 1, .slice a2 x.plan.reads.length c2, .slice a3 x.plan.writes.length c3] 58 (0, 0)) ∧ w4.heap[w2.heap.size]? = some (.cells #[.int .i64 pl.client, .int .u64 pl.token, .string pl.name, .slice b1 pl.args.length d1, .int .i64 1, .slice b2 pl.reads.length d2, .slice b3 pl.writes.length d3] 43 (0, 0)) ∧ RowKit.Hid (Keep No w w4)) (by rintro e w4 ⟨rfl, hk⟩; exact ⟨by rw [HE.out.1, HE.out.2]; simp, hk.blk y3 (fun x => x), hk.blk z3 (fun x => x), K3.out.trans hk⟩))
    refine hc.mono ?_
    clear hc q2 y2 q3 p3
    rintro e w4 ⟨rfl, y4, z4, H4⟩
    have q4 := blk_cell y4
    have p4 := blk_cell z4
    go_wp2_with fail
    go_ret
    exact ⟨rfl, H4.out⟩
  · rw [hxh] at hjd2
    obtain ⟨sz, hsz⟩ : ∃ sz : Int, sz = ((setT (x.plan.fp.rs ++ x.plan.fp.ws)).length : Int) := ⟨_, rfl⟩
    rw [← hsz] at e3
    have i3 : ¬ most < sz := by omega
    have HE := Lib.hid (And.intro hsz trivial)
    clear hxh e3 hsz
    go_enter Tryz.func34, Tryz.ntmps34
    go_wp2_with (go_at_call 8; refine hjd2.mono ?_; clear hjd2; rintro e w2 ⟨b1, d1, b2, d2, b3, d3, rfl, y2, H2⟩; clear q1; have q2 := blk_cell y2; have y3 := blk_alloc (o' := (.cells #[.int .i64 pl.client, .int .u64 pl.token, .string pl.name, .slice b1 pl.args.length d1, .int .i64 0, .slice b2 pl.reads.length d2, .slice b3 pl.writes.length d3] 43)) y2; have z3 := blk_new w2 (.cells #[.int .i64 pl.client, .int .u64 pl.token, .string pl.name, .slice b1 pl.args.length d1, .int .i64 0, .slice b2 pl.reads.length d2, .slice b3 pl.writes.length d3] 43); have K3 := Lib.hid (H2.out.2.alloc (.cells #[.int .i64 pl.client, .int .u64 pl.token, .string pl.name, .slice b1 pl.args.length d1, .int .i64 0, .slice b2 pl.reads.length d2, .slice b3 pl.writes.length d3] 43)); have q3 := blk_cell y3; have p3 := blk_cell z3; have hc := (footSize_any _ T _ _ _ (HX.out.2.keep K3.out) HX.out.1).mono (R' := fun e w4 => e = .returned (.int .i64 sz) ∧ w4.heap[w.heap.size]? = some (.cells #[.int .i64 x.seq, .int .i64 x.epoch, .int .i64 x.plan.client, .int .u64 x.plan.token, .string x.plan.name, .slice a1 x.plan.args.length c1, .int .i64 2, .slice a2 x.plan.reads.length c2, .slice a3 x.plan.writes.length c3] 58 (0, 0)) ∧ w4.heap[w2.heap.size]? = some (.cells #[.int .i64 pl.client, .int .u64 pl.token, .string pl.name, .slice b1 pl.args.length d1, .int .i64 0, .slice b2 pl.reads.length d2, .slice b3 pl.writes.length d3] 43 (0, 0)) ∧ RowKit.Hid (Keep No w w4)) (by rintro e w4 ⟨rfl, hk⟩; exact ⟨by rw [← HE.out.1], hk.blk y3 (fun x => x), hk.blk z3 (fun x => x), K3.out.trans hk⟩))
    refine hc.mono ?_
    clear hc q2 y2 q3 p3
    rintro e w4 ⟨rfl, y4, z4, H4⟩
    have q4 := blk_cell y4
    have p4 := blk_cell z4
    go_wp2_with fail
    go_ret
    exact ⟨rfl, H4.out⟩
end Go.Proofs.YtcallmnhaikfpaaGreatDoor
namespace Go.Proofs.YtcallmnhaikfpaaGreatDoor
open Go Go.RowKit Go.Deep
attribute [local go_sem] Oper.semAt_some
def ahA (s : Int × Int) (e : Ent) : Int := if e.epoch = s.2 then s.1 else 0
def stepA (s : Int × Int) (e : Ent) : Int × Int := (ahA s e + 1, e.epoch)
def stA (l : List Ent) : Int × Int := l.foldl stepA (0, -1)
theorem stA_succ (l : List Ent) (k : Nat) (hk : k < l.length) : stA (l.take (k + 1)) = stepA (stA (l.take k)) l[k] := by
  unfold stA
  rw [List.take_succ_eq_append_getElem hk, List.foldl_append]
  rfl
theorem stA_bd (l : List Ent) : ∀ k, k ≤ l.length → 0 ≤ (stA (l.take k)).1 ∧ (stA (l.take k)).1 ≤ k := by
  intro k
  induction k with
  | zero => intro _; simp [stA]
  | succ k ih =>
    intro hk
    have := ih (by omega)
    rw [stA_succ l k (by omega)]
    simp only [stepA, ahA]
    split <;> omega
structure ChkI (w : World) (B : Nat) (most batch : Int) (pa D : Nat) (SO : Nat → Prop) (va : Value) (l : List Ent) (s : Int × Int) (W : World) : Prop where
  keep : Keep No w W
  b0 : W.heap[w.heap.size]? = some (.cells #[.pointer (some ⟨B, 0, none⟩)] 28 (0, 0))
  b1 : W.heap[w.heap.size + 1]? = some (.cells #[.int .i64 most] 3 (0, 0))
  b2 : W.heap[w.heap.size + 1 + 1]? = some (.cells #[.int .i64 batch] 3 (0, 0))
  b3 : W.heap[w.heap.size + 1 + 1 + 1]? = some (.cells #[.int .i64 0] 29 (0, 0))
  b4 : W.heap[w.heap.size + 1 + 1 + 1 + 1]? = some (.cells #[.int .i64 0] 2 (0, 0))
  ba : W.heap[pa]? = some (.cells #[.int .i64 s.1] 3 (0, 0))
  be : W.heap[pa + 1]? = some (.cells #[.int .i64 s.2] 2 (0, 0))
  lw : w.heap.size + 1 + 1 + 1 + 1 < pa
  rd : Rd (.slice entrySh) W SO [va] l
  so : ∀ k, SO k → k < pa
  hD : pa + 1 < D
  low : D + 2 ≤ W.heap.size
theorem ChkI.more {w : World} {B : Nat} {most batch : Int} {pa D : Nat} {SO : Nat → Prop} {va : Value} {l : List Ent} {s : Int × Int} {A C : World} (h : ChkI w B most batch pa D SO va l s A) (hk : Keep No A C) : ChkI w B most batch pa D SO va l s C :=
  ⟨h.keep.trans hk, hk.blk h.b0 (fun x => x), hk.blk h.b1 (fun x => x), hk.blk h.b2 (fun x => x), hk.blk h.b3 (fun x => x), hk.blk h.b4 (fun x => x), hk.blk h.ba (fun x => x), hk.blk h.be (fun x => x), h.lw, h.rd.agree _ hk.agreeNo, h.so, h.hD, Nat.le_trans h.low hk.size⟩
theorem ChkI.put {w : World} {B : Nat} {most batch : Int} {pa D : Nat} {SO : Nat → Prop} {va : Value} {l : List Ent} {s : Int × Int} {W : World} (h : ChkI w B most batch pa D SO va l s W) (o : Obj) : ChkI w B most batch pa D SO va l s (W.putObj (D + 1) o) := by
  have h1 := h.lw
  have h2 := h.hD
  exact ⟨keep_putNew h.keep (by omega) o, (World.putObj_heap_other (by omega)).trans h.b0, (World.putObj_heap_other (by omega)).trans h.b1, (World.putObj_heap_other (by omega)).trans h.b2, (World.putObj_heap_other (by omega)).trans h.b3, (World.putObj_heap_other (by omega)).trans h.b4, (World.putObj_heap_other (by omega)).trans h.ba, (World.putObj_heap_other (by omega)).trans h.be, h.lw, h.rd.agree _ (agree_put (fun hh => by have := h.so _ hh; omega) o), h.so, h.hD, by rw [size_put]; exact h.low⟩
theorem ChkI.setA {w : World} {B : Nat} {most batch : Int} {pa D : Nat} {SO : Nat → Prop} {va : Value} {l : List Ent} {s : Int × Int} {W : World} (h : ChkI w B most batch pa D SO va l s W) (a : Int) : ChkI w B most batch pa D SO va l (a, s.2) (W.setCell ⟨pa, 0, none⟩ (.int .i64 a)) := by
  have h1 := h.lw
  have h2 := h.hD
  have hk := keep_set W pa 0 (.int .i64 a)
  exact ⟨h.keep.setNew (by show w.heap.size ≤ pa; omega) _, hk.blk h.b0 (fun e => by have : w.heap.size = pa := e; omega), hk.blk h.b1 (fun e => by have : w.heap.size + 1 = pa := e; omega), hk.blk h.b2 (fun e => by have : w.heap.size + 1 + 1 = pa := e; omega), hk.blk h.b3 (fun e => by have : w.heap.size + 1 + 1 + 1 = pa := e; omega), hk.blk h.b4 (fun e => by have : w.heap.size + 1 + 1 + 1 + 1 = pa := e; omega),
    by simpa using blk_set h.ba 0 (.int .i64 a), hk.blk h.be (fun e => by have : pa + 1 = pa := e; omega), h.lw, h.rd.agree _ (hk.agree fun k _ hs e => by have := h.so k hs; have : k = pa := e; omega), h.so, h.hD, by simpa using h.low⟩
theorem ChkI.setE {w : World} {B : Nat} {most batch : Int} {pa D : Nat} {SO : Nat → Prop} {va : Value} {l : List Ent} {s : Int × Int} {W : World} (h : ChkI w B most batch pa D SO va l s W) (a : Int) : ChkI w B most batch pa D SO va l (s.1, a) (W.setCell ⟨pa + 1, 0, none⟩ (.int .i64 a)) := by
  have h1 := h.lw
  have h2 := h.hD
  have hk := keep_set W (pa + 1) 0 (.int .i64 a)
  exact ⟨h.keep.setNew (by show w.heap.size ≤ pa + 1; omega) _, hk.blk h.b0 (fun e => by have : w.heap.size = pa + 1 := e; omega), hk.blk h.b1 (fun e => by have : w.heap.size + 1 = pa + 1 := e; omega), hk.blk h.b2 (fun e => by have : w.heap.size + 1 + 1 = pa + 1 := e; omega), hk.blk h.b3 (fun e => by have : w.heap.size + 1 + 1 + 1 = pa + 1 := e; omega), hk.blk h.b4 (fun e => by have : w.heap.size + 1 + 1 + 1 + 1 = pa + 1 := e; omega),
    hk.blk h.ba (fun e => by have : pa = pa + 1 := e; omega), by simpa using blk_set h.be 0 (.int .i64 a), h.lw, h.rd.agree _ (hk.agree fun k _ hs e => by have := h.so k hs; have : k = pa + 1 := e; omega), h.so, h.hD, by simpa using h.low⟩
set_option maxRecDepth 10000 in
set_option maxHeartbeats 4000000 in
theorem logCheck_ok (w : World) (S T : Nat → Prop) (B m : Nat) (L : List Prc) (h : LibAt w S B m L) (v : Value) (b : Bytes) (hb : Rd bytesSh w T [v] b) (hl : b.length ≤ 140737488355328) (x : Lg) (hload : load b = (some x, 0, 0)) (hf : x.Few) (most batch : Int)
    (hall : ∀ e ∈ x.l, TakenP L most e.plan ∧ e.plan.fp.rs.length + e.plan.fp.ws.length ≤ 1000 ∧ e.plan.req.name.size ≤ 9223372036854775806) (hah : ∀ k (hk : k < x.l.length), ahA (stA (x.l.take k)) x.l[k] < batch) (ht : Tab w) :
    Calls Tryz.prog 13 #[.pointer (some ⟨B, 0, none⟩), v, .int .i64 most, .int .i64 batch] w fun e w' => e = .returned (.tuple #[.int .i64 0, .int .i64 0]) ∧ Keep No w w' := by
  have kA := (((((Keep.refl No w).alloc (.cells #[.pointer (some ⟨B, 0, none⟩)] 28)).alloc (.cells #[.int .i64 most] 3)).alloc (.cells #[.int .i64 batch] 3)).alloc (.cells #[.int .i64 0] 29)).alloc (.cells #[.int .i64 0] 2)
  have y0 := blk_alloc (o' := .cells #[.int .i64 0] 2) (blk_alloc (o' := .cells #[.int .i64 0] 29) (blk_alloc (o' := .cells #[.int .i64 batch] 3) (blk_alloc (o' := .cells #[.int .i64 most] 3) (blk_new w (.cells #[.pointer (some ⟨B, 0, none⟩)] 28)))))
  have y1 := blk_alloc (o' := .cells #[.int .i64 0] 2) (blk_alloc (o' := .cells #[.int .i64 0] 29) (blk_alloc (o' := .cells #[.int .i64 batch] 3) (blk_new (w.alloc (.cells #[.pointer (some ⟨B, 0, none⟩)] 28)) (.cells #[.int .i64 most] 3))))
  have y2 := blk_alloc (o' := .cells #[.int .i64 0] 2) (blk_alloc (o' := .cells #[.int .i64 0] 29) (blk_new ((w.alloc (.cells #[.pointer (some ⟨B, 0, none⟩)] 28)).alloc (.cells #[.int .i64 most] 3)) (.cells #[.int .i64 batch] 3)))
  have y3 := blk_alloc (o' := .cells #[.int .i64 0] 2) (blk_new (((w.alloc (.cells #[.pointer (some ⟨B, 0, none⟩)] 28)).alloc (.cells #[.int .i64 most] 3)).alloc (.cells #[.int .i64 batch] 3)) (.cells #[.int .i64 0] 29))
  have y4 := blk_new ((((w.alloc (.cells #[.pointer (some ⟨B, 0, none⟩)] 28)).alloc (.cells #[.int .i64 most] 3)).alloc (.cells #[.int .i64 batch] 3)).alloc (.cells #[.int .i64 0] 29)) (.cells #[.int .i64 0] 2)
  simp only [World.size_alloc] at y0 y1 y2 y3 y4
  have hld := logLoad_any _ T v b (hb.agree _ kA.agreeNo) hl
  rw [hload] at hld
  have hld2 := hld.mono (R' := fun e w5 => ∃ LB a1 d1, e = .returned (.tuple #[.pointer (some ⟨LB, 0, none⟩), .int .i64 0, .int .i64 0]) ∧ RowKit.Hid (∃ SO : Nat → Prop, w5.heap[LB]? = some (.cells #[.slice a1 x.l.length d1, .int .i64 x.epoch] 80 (0, 0)) ∧ Rd (.slice entrySh) w5 SO [.slice a1 x.l.length d1] x.l ∧ (∀ k, SO k → k < w5.heap.size) ∧ Keep No w w5 ∧
      w5.heap[w.heap.size]? = some (.cells #[.pointer (some ⟨B, 0, none⟩)] 28 (0, 0)) ∧ w5.heap[w.heap.size + 1]? = some (.cells #[.int .i64 most] 3 (0, 0)) ∧ w5.heap[w.heap.size + 1 + 1]? = some (.cells #[.int .i64 batch] 3 (0, 0)) ∧ w5.heap[w.heap.size + 1 + 1 + 1]? = some (.cells #[.int .i64 0] 29 (0, 0)) ∧ w5.heap[w.heap.size + 1 + 1 + 1 + 1]? = some (.cells #[.int .i64 0] 2 (0, 0)))) (by
    rintro e w5 ⟨LB, S5, rfl, ⟨ov, SO, h1, h2, h3, h4, h5, h6⟩, hS5, hk5⟩
    obtain ⟨a1, d1, rfl, -⟩ := h2.form
    exact ⟨LB, a1, d1, rfl, SO, h1, h2.rd, fun k hk => h6 k (h4 k hk).1, kA.trans hk5, hk5.blk y0 (fun x => x), hk5.blk y1 (fun x => x), hk5.blk y2 (fun x => x), hk5.blk y3 (fun x => x), hk5.blk y4 (fun x => x)⟩)
  have HH := Lib.hid (And.intro h (And.intro hf (And.intro hall (And.intro hah ht))))
  obtain ⟨av, nv, cv, rfl⟩ : ∃ a n c, v = .slice a n c := by obtain ⟨a, c, e, -⟩ := Rd.sliceForm hb; simp at e; exact ⟨_, _, _, e⟩
  clear h hb hl hload hf hall hah ht kA y0 y1 y2 y3 y4 hld
  refine (callsIn_wide (n := 4)).1 ?_
  refine callsIn_of_wp_marks Tryz.func13 rfl trivial ?_ rfl
  simp only [Tryz.ntmps13, List.size_toArray, List.length_cons, List.length_nil, Nat.reduceAdd, Nat.reduceSub, Array.replicate_succ, Array.replicate_zero, List.push_toArray, List.append_toArray, List.nil_append, List.cons_append]
  refine wpIn_wide.2 ?_
  go_upto_region 4 with (go_at_call 19; refine hld2.mono ?_; clear hld2; rintro e w5 ⟨LB, a1, d1, rfl, H5⟩)
  go_cut [13, 14] from 15 to 49 (fun p q wx => p = .pointer (some ⟨w5.heap.size, 0, none⟩) ∧ q = .pointer (some ⟨w5.heap.size + 1, 0, none⟩) ∧ wx = (w5.alloc (.cells #[.int .i64 0] 3)).alloc (.cells #[.int .i64 (-1)] 2))
  case first =>
    go_wp2_with fail
    go_meet
    case rel => exact ⟨rfl, rfl, rfl⟩
  case rest =>
    obtain ⟨rfl, rfl, rfl⟩ := hcut
    go_wp2_with (go_at_call 33; refine (logEach_any _ _).mono ?_; rintro e w6 ⟨rfl, rfl⟩)
    refine (wpIn_wide (n := 3)).1 ?_
    obtain ⟨SO, hLB, hrd, hso, hk5, z0, z1, z2, z3, z4⟩ := H5.out
    have kb := (((Keep.refl No w5).alloc (.cells #[.int .i64 0] 3)).alloc (.cells #[.int .i64 (-1)] 2)).alloc (.cells #[.pointer (some ⟨LB, 0, none⟩)] 33)
    have ya := blk_alloc (o' := .cells #[.pointer (some ⟨LB, 0, none⟩)] 33) (blk_alloc (o' := .cells #[.int .i64 (-1)] 2) (blk_new w5 (.cells #[.int .i64 0] 3)))
    have ye := blk_alloc (o' := .cells #[.pointer (some ⟨LB, 0, none⟩)] 33) (blk_new (w5.alloc (.cells #[.int .i64 0] 3)) (.cells #[.int .i64 (-1)] 2))
    have yb := blk_new ((w5.alloc (.cells #[.int .i64 0] 3)).alloc (.cells #[.int .i64 (-1)] 2)) (.cells #[.pointer (some ⟨LB, 0, none⟩)] 33)
    simp only [World.size_alloc] at ye yb
    have hs7 : (((w5.alloc (.cells #[.int .i64 0] 3)).alloc (.cells #[.int .i64 (-1)] 2)).alloc (.cells #[.pointer (some ⟨LB, 0, none⟩)] 33)).heap.size = w5.heap.size + 3 := by simp
    have hI0 : ∀ W, Keep No (((w5.alloc (.cells #[.int .i64 0] 3)).alloc (.cells #[.int .i64 (-1)] 2)).alloc (.cells #[.pointer (some ⟨LB, 0, none⟩)] 33)) W → W.heap.size = w5.heap.size + 3 + 2 → ChkI w B most batch w5.heap.size (w5.heap.size + 3) SO (.slice a1 x.l.length d1) x.l (stA (x.l.take 0)) W := fun W hk hs =>
      ⟨(hk5.trans kb).trans hk, (kb.trans hk).blk z0 (fun x => x), (kb.trans hk).blk z1 (fun x => x), (kb.trans hk).blk z2 (fun x => x), (kb.trans hk).blk z3 (fun x => x), (kb.trans hk).blk z4 (fun x => x), hk.blk ya (fun x => x), hk.blk ye (fun x => x), blk_lt z4, hrd.agree _ (kb.trans hk).agreeNo, hso, by omega, by omega⟩
    have hLB7 := kb.blk hLB (fun x => x)
    have HI := Lib.hid (And.intro hI0 (And.intro hs7 (And.intro yb hLB7)))
    clear hLB hrd hso hk5 z0 z1 z2 z3 z4 kb ya ye yb hs7 hI0 hLB7 H5
    generalize (((w5.alloc (.cells #[.int .i64 0] 3)).alloc (.cells #[.int .i64 (-1)] 2)).alloc (.cells #[.pointer (some ⟨LB, 0, none⟩)] 33)) = w7 at *
    refine wpIn_rangeT (gf := 60) (lb := #[.pointer (some ⟨w5.heap.size + 1 + 1, 0, none⟩)]) rfl (enters_of Tryz.func60 (by kernel_rfl) rfl) (by omega) x.l.length (EltAt x w7.heap.size) (fun k W => ChkI w B most batch w5.heap.size w7.heap.size SO (.slice a1 x.l.length d1) x.l (stA (x.l.take k)) W) (fun _ _ _ => False)
      (fun k cs W o _ h => h.put o) (fun k A C h hk => h.more hk) (fun k W o _ h => h.put o) (fun _ _ _ _ _ h => h) ?h0 ?hseq
      (fun (cs : Array Value) (a₁ : Act) (W : World) => ∃ E, w7.heap.size + 2 ≤ E ∧ a₁ = { tmps := #[Value.pointer (some ⟨B, 0, none⟩), Value.slice av nv cv, Value.int .i64 most, Value.int .i64 batch, Value.pointer (some ⟨w.heap.size, 0, none⟩), undef, Value.pointer (some ⟨w.heap.size + 1, 0, none⟩), Value.pointer (some ⟨w.heap.size + 1 + 1, 0, none⟩), Value.pointer (some ⟨w.heap.size + 1 + 1 + 1, 0, none⟩), Value.pointer (some ⟨w.heap.size + 1 + 1 + 1 + 1, 0, none⟩), Value.pointer (some ⟨LB, 0, none⟩), Value.int .i64 0, Value.int .i64 0, Value.pointer (some ⟨w5.heap.size, 0, none⟩), Value.pointer (some ⟨w5.heap.size + 1, 0, none⟩), Value.pointer (some ⟨E, 0, none⟩), u16, u17, u18, u19, u20, u21, u22, u23, u24, u25, u26, Value.pointer (some ⟨LB, 0, none⟩), Value.func (Fn.func 60) #[] #[Value.pointer (some ⟨w5.heap.size + 1 + 1, 0, none⟩)], Value.agg cs, u30, u31, u32, u33, u34, u35, u36, u37, u38, u39, u40, u41, u42, u43, u44, u45, u46, u47, u48], defers := [] } ∧ W.heap[E]? = some (Obj.cells cs 58 (0, 0))) ?assign (fun k cs A C h hk => h.keep hk) ?hA1 ?body ?done (fun _ _ _ _ h _ => h.elim)
    case h0 =>
      intro W hk hs
      have := HI.out.1 W hk (by have := HI.out.2.1; omega)
      rw [HI.out.2.1]
      exact this
    case hseq =>
      intro W1 J Jx hk hs hJI hJK hY hJ0
      exact each1_in 2 _ (w5.heap.size + 1 + 1) LB (fun _ => True) SO x (by omega) a1 d1 HH.out.2.1 J Jx W1 (fun k W' h => (hJI k W' h).rd) (fun k W' h => by have := (hJI k W' h).low; omega) hJK
        (fun k cs W' hk' hJ hR => hY k cs.toArray W' hk' hJ ⟨hk', by simpa using hR.mono _ (T := Up (w7.heap.size + 2)) fun i _ hi => by have := hi.1; rw [hs] at this; exact this⟩)
        (blk_cell (hk.blk HI.out.2.2.1 (fun x => x)) 0) (hk.blk HI.out.2.2.2 (fun x => x)) hJ0
    case assign =>
      intro k cs W K hI ⟨hkl, hx⟩ hW hK
      obtain ⟨b1, k1, b2, k2, b3, k3, ec⟩ := ent_array hx
      subst ec
      clear hx hI
      generalize x.l[k] = xk at *
      have hK2 := fun a h => hK a (W.alloc (.cells #[.int .i64 xk.seq, .int .i64 xk.epoch, .int .i64 xk.plan.client, .int .u64 xk.plan.token, .string xk.plan.name, .slice b1 xk.plan.args.length k1, .int .i64 xk.plan.how, .slice b2 xk.plan.reads.length k2, .slice b3 xk.plan.writes.length k3] 58)) ⟨W.heap.size, by omega, h, blk_new _ _⟩ ((Keep.refl No W).alloc _)
      clear hK
      gi_wp2
      rfl
    case hA1 =>
      rintro cs a₁ W o ⟨E, hE, ha, hb⟩ hlt
      exact ⟨E, hE, ha, (World.putObj_heap_other (by omega)).trans hb⟩
    case body =>
      rintro k cs a₁ W hk hI ⟨hkl, hx⟩ ⟨E, hE, rfl, hb⟩ hlt
      obtain ⟨hT1, hT2, hT3⟩ := HH.out.2.2.1 _ (List.getElem_mem hk)
      have hbat := HH.out.2.2.2.1 k hk
      have hst := stA_succ x.l k hk
      have hbd := stA_bd x.l k (by omega)
      have h65 := HH.out.2.1.l
      obtain ⟨xk, hxk⟩ : ∃ xk, x.l[k] = xk := ⟨_, rfl⟩
      rw [hxk] at hT1 hT2 hT3 hbat hst hx
      obtain ⟨s1, s2, hs⟩ : ∃ s1 s2, stA (x.l.take k) = (s1, s2) := ⟨_, _, rfl⟩
      rw [hs] at hI hbat hst hbd
      have hEp : E ≠ w5.heap.size := by have := hI.hD; omega
      have hEq : E ≠ w5.heap.size + 1 := by have := hI.hD; omega
      obtain ⟨b1, k1, b2, k2, b3, k3, ec⟩ := ent_array hx
      subst ec
      have hcall : RowKit.Hid (∀ (W' : World) (ah : Int), ah < batch → Keep No w W' → Rd entrySh W' (Up (w7.heap.size + 2)) [.int .i64 xk.seq, .int .i64 xk.epoch, .int .i64 xk.plan.client, .int .u64 xk.plan.token, .string xk.plan.name, .slice b1 xk.plan.args.length k1, .int .i64 xk.plan.how, .slice b2 xk.plan.reads.length k2, .slice b3 xk.plan.writes.length k3] xk → Calls Tryz.prog 34 #[.pointer (some ⟨B, 0, none⟩), .agg #[.int .i64 xk.seq, .int .i64 xk.epoch, .int .i64 xk.plan.client, .int .u64 xk.plan.token, .string xk.plan.name, .slice b1 xk.plan.args.length k1, .int .i64 xk.plan.how, .slice b2 xk.plan.reads.length k2, .slice b3 xk.plan.writes.length k3], .int .i64 most, .int .i64 ah, .int .i64 batch] W' fun e w' => e = .returned (.int .i64 0) ∧ RowKit.Hid (Keep No W' w')) := fun W' ah hah hk hx =>
        (entry_ok W' S _ B m L (HH.out.1.keep hk (fun _ _ x => x)) _ xk hx most ah batch hT1 hT2 hT3 hah (HH.out.2.2.2.2.keep hk)).mono (by
          rintro e w' ⟨rfl, hk⟩
          exact ⟨rfl, hk⟩)
      have HX := Lib.hid (And.intro hx (And.intro hbat (And.intro hst (And.intro hbd h65))))
      have HI2 := Lib.hid hI
      have HB := Lib.hid hb
      have e1 := blk_cell hb
      have e2 := blk_cell hI.be
      clear hT1 hT2 hT3 hbat hst hbd h65 hx hxk hs hI hb
      by_cases hep : xk.epoch = s2
      · have hb1 : (xk.epoch != s2) = false := by simpa using hep
        have hah : ahA (s1, s2) xk = s1 := if_pos hep
        have HA := Lib.hid (And.intro hep hah)
        clear hep hah
        obtain ⟨s3, hs3⟩ : ∃ s3 : Int, s3 = s1 + 1 := ⟨_, rfl⟩
        have wr1 : IntKind.i64.wrap (s1 + 1) = s3 := by rw [hs3]; have := HX.out.2.2.2; exact wrap_pc (by omega) (by omega)
        have HS3 := Lib.hid hs3
        clear hs3
        have c0 := blk_cell HI2.out.b0
        have c1 := blk_cell HI2.out.b1
        have c2 := blk_cell HI2.out.ba
        have c3 := blk_cell HI2.out.b2
        have hc := hcall.out W s1 (by have := HX.out.2.1; rw [HA.out.2] at this; exact this) HI2.out.keep HX.out.1
        clear hcall
        gi_wp2
        refine ⟨trivial, (CallsIn.inRound _ (callsIn_wide.2 hc)).mono ?_⟩
        clear hc c0 c1 c2 c3 e1 e2
        rintro e w8 ⟨rfl, H8⟩
        have I8 := Lib.hid (HI2.out.more H8.out)
        have c2 := blk_cell I8.out.ba
        have f2 := blk_fro I8.out.ba
        gi_wp2
        have I9 := I8.out.setA s3
        refine ⟨fun b hb => ?_, ?_⟩
        · have hD := HI2.out.hD
          have hlow := HI2.out.low
          rw [← H8.out.block b (by omega) (fun x => x)]
          exact (keep_set w8 w5.heap.size 0 (.int .i64 s3)).block b (by have := H8.out.size; omega) (fun e => by have : b = w5.heap.size := e; omega)
        · show ChkI _ _ _ _ _ _ _ _ _ (stA (x.l.take (k + 1))) _
          rw [HX.out.2.2.1, show stepA (s1, s2) xk = (s3, s2) from by unfold stepA; rw [HA.out.2, HA.out.1, HS3.out]]
          exact I9
      · have hb1 : (xk.epoch != s2) = true := by simpa using hep
        have hah : ahA (s1, s2) xk = 0 := if_neg hep
        have HA := Lib.hid (And.intro hep hah)
        clear hep hah
        have c2 := blk_cell HI2.out.ba
        have f2 := blk_fro HI2.out.ba
        have f3 := blk_fro HI2.out.be
        gi_wp2
        refine wpIn_region_can _ [0, 1, 2, 3] [2, 3] [(0, 2), (1, 2)] (by kernel_rfl) (by kernel_rfl) (by kernel_rfl) (by kernel_rfl) (by kernel_rfl) (by intro c a d v w h; cases d <;> exact h) (by rintro ⟨_, _, h⟩; exact h) ?_
        have HI4 := Lib.hid (HI2.out.more ((Keep.refl No W).drew))
        have HB4 := Lib.hid (show W.drew.heap[E]? = _ from HB.out)
        have KW4 := Lib.hid ((Keep.refl No W).drew)
        clear c2 f2 f3 e1 e2 HI2
        have e1 := blk_cell HB4.out
        have e2 := blk_cell HI4.out.be
        have c2 := blk_cell HI4.out.ba
        have f2 := blk_fro HI4.out.ba
        have f3 := blk_fro HI4.out.be
        generalize W.drew = W4 at *
        iterate 2 (refine can_sil rfl rfl (fun K hK => ?_); go_simp; refine hK _ ?_; clear hK K)
        refine can_loud [0, 1] rfl rfl rfl (fun K hK => ?_)
        go_wp2_with fail
        refine Mid.normal (hK _ _ ?_ ?_)
        · simp only [List.forall_mem_cons]
          refine ⟨?_, ?_, stabs_nil⟩ <;> exact stab_of rfl (fun K hK => by go_simp; exact hK)
        clear hK K
        refine can_loud [] rfl rfl rfl (fun K hK => ?_)
        have g2 := blk_fro (HI4.out.setA 0).be
        have g3 := blk_cell (HI4.out.setA 0).be
        go_wp2_with fail
        refine Mid.normal (hK _ _ stabs_nil ?_)
        clear hK K
        refine can_nil ?_
        have HI6 := Lib.hid ((HI4.out.setA 0).setE xk.epoch)
        have HB6 := Lib.hid (blk_other (a := ⟨w5.heap.size + 1, 0, none⟩) (blk_other (a := ⟨w5.heap.size, 0, none⟩) HB4.out (fun e => hEp e.symm) (.int .i64 0)) (fun e => hEq e.symm) (.int .i64 xk.epoch))
        have hks : Keep (Or2 (One w5.heap.size) (One (w5.heap.size + 1))) W ((W4.setCell ⟨w5.heap.size, 0, none⟩ (.int .i64 0)).setCell ⟨w5.heap.size + 1, 0, none⟩ (.int .i64 xk.epoch)) := ((KW4.out.mono fun _ _ h => h.elim).setCell (p := ⟨w5.heap.size, 0, none⟩) (fun _ => .inl rfl) _).setCell (p := ⟨w5.heap.size + 1, 0, none⟩) (fun _ => .inr rfl) _
        have hx6 := HX.out.1.agree entrySh (hks.agree fun i _ hi e => by
          have h1 : w7.heap.size + 2 ≤ i := hi
          have := HI4.out.hD
          rcases e with e | e
          · have : i = w5.heap.size := e; omega
          · have : i = w5.heap.size + 1 := e; omega)
        have HX6 := Lib.hid (And.intro hks hx6)
        clear hks hx6 e1 e2 c2 f2 f3 g2 g3 hEp hEq HB4 HI4 KW4
        generalize ((W4.setCell ⟨w5.heap.size, 0, none⟩ (.int .i64 0)).setCell ⟨w5.heap.size + 1, 0, none⟩ (.int .i64 xk.epoch)) = W6 at *
        have e1 := blk_cell HB6.out
        have e2 := blk_cell HI6.out.be
        have c0 := blk_cell HI6.out.b0
        have c1 := blk_cell HI6.out.b1
        have c2 := blk_cell HI6.out.ba
        have c3 := blk_cell HI6.out.b2
        have hc := hcall.out W6 0 (by have := HX.out.2.1; rw [HA.out.2] at this; exact this) HI6.out.keep HX6.out.2
        clear hcall
        gi_wp2
        refine ⟨trivial, (CallsIn.inRound _ (callsIn_wide.2 hc)).mono ?_⟩
        clear hc c0 c1 c2 c3 e1 e2
        rintro e w8 ⟨rfl, H8⟩
        have I8 := Lib.hid (HI6.out.more H8.out)
        have c2 := blk_cell I8.out.ba
        have f2 := blk_fro I8.out.ba
        gi_wp2
        have I9 := I8.out.setA 1
        refine ⟨fun b hb => ?_, ?_⟩
        · have hD := HI6.out.hD
          have hlow := HI6.out.low
          have hs6 := HX6.out.1.size
          have hs8 := H8.out.size
          refine ((keep_set w8 w5.heap.size 0 (.int .i64 1)).block b (by omega) (fun e => by have : b = w5.heap.size := e; omega)).trans ((H8.out.block b (by omega) (fun x => x)).trans (HX6.out.1.block b (by omega) fun e => ?_))
          rcases e with e | e
          · have : b = w5.heap.size := e; omega
          · have : b = w5.heap.size + 1 := e; omega
        · show ChkI _ _ _ _ _ _ _ _ _ (stA (x.l.take (k + 1))) _
          rw [HX.out.2.2.1, show stepA (s1, s2) xk = (1, xk.epoch) from by unfold stepA; rw [HA.out.2]; rfl]
          exact I9
    case done =>
      intro W hI hD
      rw [List.take_length] at hI
      have HB := Lib.hid hI
      have c3 := blk_cell hI.b3
      have c4 := blk_cell hI.b4
      have f3 := blk_fro hI.b3
      have f4 := blk_fro hI.b4
      clear hI
      go_wp2_with fail
      have hD0 := HB.out.hD
      have hlw := HB.out.lw
      have d1' : ((W.setCell ⟨w.heap.size + 1 + 1 + 1, 0, none⟩ (.int .i64 0)).setCell ⟨w.heap.size + 1 + 1 + 1 + 1, 0, none⟩ (.int .i64 0)).heap[w7.heap.size]? = some (.deferred (some [])) := blk_other (a := ⟨w.heap.size + 1 + 1 + 1 + 1, 0, none⟩) (blk_other (a := ⟨w.heap.size + 1 + 1 + 1, 0, none⟩) hD (by show w.heap.size + 1 + 1 + 1 ≠ w7.heap.size; omega) _) (by show w.heap.size + 1 + 1 + 1 + 1 ≠ w7.heap.size; omega) _
      have r3 := blk_other (a := ⟨w.heap.size + 1 + 1 + 1 + 1, 0, none⟩) (blk_set HB.out.b3 0 (.int .i64 0)) (by show w.heap.size + 1 + 1 + 1 + 1 ≠ w.heap.size + 1 + 1 + 1; omega) (.int .i64 0)
      have r4 := blk_set (blk_other (a := ⟨w.heap.size + 1 + 1 + 1, 0, none⟩) HB.out.b4 (by show w.heap.size + 1 + 1 + 1 ≠ w.heap.size + 1 + 1 + 1 + 1; omega) (.int .i64 0)) 0 (.int .i64 0)
      refine ⟨by simp, .inl ⟨_, _, rfl, run_takeDeferred d1', ?_⟩⟩
      have hk9 : Keep No w ((W.setCell ⟨w.heap.size + 1 + 1 + 1, 0, none⟩ (.int .i64 0)).setCell ⟨w.heap.size + 1 + 1 + 1 + 1, 0, none⟩ (.int .i64 0)) := (HB.out.keep.setNew (by show w.heap.size ≤ w.heap.size + 1 + 1 + 1; omega) _).setNew (by show w.heap.size ≤ w.heap.size + 1 + 1 + 1 + 1; omega) _
      have q3 := blk_cell ((World.putObj_heap_other (r := w7.heap.size) (o := .deferred none) (k := w.heap.size + 1 + 1 + 1) (by omega)).trans r3) 0
      have q4 := blk_cell ((World.putObj_heap_other (r := w7.heap.size) (o := .deferred none) (k := w.heap.size + 1 + 1 + 1 + 1) (by omega)).trans r4) 0
      refine ⟨.tuple #[.int .i64 0, .int .i64 0], ?_, rfl, keep_putNew hk9 (by omega) _⟩
      simp at q3 q4
      simp [results, Tryz.results13, go_sem, q3, q4]
end Go.Proofs.YtcallmnhaikfpaaGreatDoor
