/-
  Parts of what is proved for this claim; each declaration is one of the seat's texts.
-/
import Derived.Test.YtpjcebajkfeacaaGreatDoorJGA
import Derived.Test.YtpjcebajkfeacaaGreatDoorJGC
import Derived.Test.YtpjcebajkfeacaaGreatDoorJGF
import Derived.Test.YtpjcebajkfeacaaGreatDoorJGK
import Derived.Test.YtpjcebajkfeacaaGreatDoorJGN
import Derived.Test.YtpjcebajkfeacaaGreatDoorJGU
import Derived.Test.YtpjcebajkfeacaaGreatDoorJGX
import Derived.Test.YtpjcebajkfeacaaGreatDoorJHA
import Derived.Test.YtpjcebajkfeacaaGreatDoorJHB
import Derived.Test.YtpjcebajkfeacaaGreatDoorJHD
import Derived.Test.YtpjcebajkfeacaaGreatDoorJHI
import Derived.Test.YtpjcebajkfeacaaGreatDoorJHL
import Derived.Test.YtpjcebajkfeacaaGreatDoorJHN
import Derived.Test.YtpjcebajkfeacaaGreatDoorJHO
import Derived.Test.YtpjcebajkfeacaaGreatDoorJJA
import Derived.Test.YtpjcebajkfeacaaGreatDoorJJB
import Derived.Test.YtpjcebajkfeacaaGreatDoorJJC
import Derived.WalkKit
import Derived.WalkSpells
import Derived.WalkLawsBesides
import Derived.ProofKit
import Derived.Deep.Slices
import Derived.Deep.AppendSrc
import Derived.Lib.Hide
import Derived.Lib.ItoaNum
import Derived.Lib.Join
import Derived.Still
import Derived.StillTactics
import Derived.Recover
import Derived.Defers
import Derived.Deep.QuietTactic
import Derived.BigQuiet
import Derived.Handy
import Derived.Laws.Bits64b
import Derived.Lib.Zigzag
import Derived.OwnWalk
import Derived.Deep.DeepCutAuto
import Derived.Deep.LoopGhost
import Derived.Lib.Bytealg
import Derived.Laws.Externs
import Derived.Laws.CopyRow
import Derived.Laws.IdiomCopy
import Derived.Maps.OwnSet
import Derived.Maps.RangeWalk
import Derived.Shelf.SortM.Plain
import Derived.Shelf.SortM.SortNone
import Derived.Ground.SlgmProg
import Derived.Maps.OwnOps
import Derived.Shelf.Strconv.Itoa4
import Derived.Shelf.Strings.BuilderK
import Derived.Shelf.Strings.OnBuilder
import Derived.Ground.NamesProg
import Derived.Lib.AppendIntMem
import Derived.Lib.UnsafeStr
import Derived.Deep.WholeRow
import Derived.Maps.Views
set_option linter.unusedVariables false
set_option linter.unusedSimpArgs false
namespace Go.Proofs.YtpjcebajkfeacaaGreatDoor
open Go Go.RowKit Go.Deep
def GivesPlT (w : World) (T : Nat → Prop) (x : Plan × Int) (e : Ending) (w' : World) : Prop :=
  ∃ cs : Array Value, e = .returned (.tuple #[.agg cs, .int .i64 x.2]) ∧ Rd planSh w' (fun k => (T k ∧ k < w.heap.size) ∨ Fr w.heap.size w'.heap.size k) cs.toList x.1 ∧ Keep No w w'
theorem GivesPl.wide {w : World} {T : Nat → Prop} {x : Plan × Int} {e : Ending} {w' : World} (h : GivesPl w x e w') : GivesPlT w T x e w' := by
  obtain ⟨cs, h1, h2, h3⟩ := h
  exact ⟨cs, h1, h2.mono planSh fun k _ hk => .inr hk, h3⟩
theorem nil_slice (s : Sh) (W : World) (S : Nat → Prop) : Rd (.slice s) W S [.slice none 0 0] [] := ⟨none, 0, rfl, Nat.le_refl _, by rw [maxLen_is]; omega, fun _ => ⟨rfl, rfl⟩, fun i hi => absurd hi (by simp)⟩
theorem Rd.both {s : Sh} {w : World} {T : Nat → Prop} {cs : List Value} {x : s.T} (h : Rd s w T cs x) : Rd s w (fun k => T k ∧ k < w.heap.size) cs x := h.mono s fun k hk hT => ⟨hT, hk⟩
structure RFindAt (w : World) (T : Nat → Prop) (B : Nat) (L : List Prc) : Prop where
  find : ∀ W, Keep No w W → ∀ n : ByteArray, Calls Tryz.prog 79 #[.pointer (some ⟨B, 0, none⟩), .string n] W (RFound W T L n)
  home : ∀ p ∈ L, p.Home
theorem RLib.finds {w : World} {S : Nat → Prop} {B : Nat} {a : Option Addr} {c : Nat} {L : List Prc} (h : RLib w S B a c L) (hh : ∀ p ∈ L, p.Home) : RFindAt w S B L := ⟨fun W hW n => rFind_lib W S B a c L (h.keep hW (fun _ _ x => x) (fun x => x)) n, hh⟩
set_option maxRecDepth 10000 in
set_option maxHeartbeats 4000000 in
theorem rJudge_any (w : World) (S T : Nat → Prop) (B : Nat) (L : List Prc) (h : RFindAt w S B L) (cs : List Value) (q : Req) (hq : Rd requestSh w T cs q) (hn : q.name.size ≤ 9223372036854775806) (most : Int) :
    Calls Tryz.prog 24 #[.pointer (some ⟨B, 0, none⟩), .agg cs.toArray, .int .i64 most] w (GivesPlT w T (judgeL L q most)) := by
  obtain ⟨a, c, rfl, h4, w1, w2, w3⟩ := req_cells hq
  have K0 := ((Keep.refl No w).alloc (.cells #[.int .i64 q.client, .int .u64 q.token, .string q.name, .slice a q.args.length c] 29)).alloc (.cells #[.int .i64 0, .int .u64 0, .string ⟨#[]⟩, .slice none 0 0, .int .i64 0, .slice none 0 0, .slice none 0 0] 50)
  have x0 := blk_alloc (o' := .cells #[.int .i64 0, .int .u64 0, .string ⟨#[]⟩, .slice none 0 0, .int .i64 0, .slice none 0 0, .slice none 0 0] 50) (blk_new w (.cells #[.int .i64 q.client, .int .u64 q.token, .string q.name, .slice a q.args.length c] 29))
  have y0 := blk_new (w.alloc (.cells #[.int .i64 q.client, .int .u64 q.token, .string q.name, .slice a q.args.length c] 29)) (.cells #[.int .i64 0, .int .u64 0, .string ⟨#[]⟩, .slice none 0 0, .int .i64 0, .slice none 0 0, .slice none 0 0] 50)
  simp only [World.size_alloc] at y0
  have q0 := blk_cell x0
  have hch := (rCheck_any _ T _ q (hq.agree requestSh K0.agreeNo) hn).mono (R' := fun e w5 => e = .returned (.int .i64 q.check) ∧ w5.heap[w.heap.size]? = some (.cells #[.int .i64 q.client, .int .u64 q.token, .string q.name, .slice a q.args.length c] 29 (0, 0)) ∧ w5.heap[w.heap.size + 1]? = some (.cells #[.int .i64 0, .int .u64 0, .string ⟨#[]⟩, .slice none 0 0, .int .i64 0, .slice none 0 0, .slice none 0 0] 50 (0, 0)) ∧ RowKit.Hid (Keep No w w5)) (by
    rintro e w5 ⟨rfl, hk⟩
    exact ⟨rfl, hk.blk x0 (fun x => x), hk.blk y0 (fun x => x), K0.trans hk⟩)
  have HX := Lib.hid (And.intro h (And.intro (Rd.both (s := .slice valueSh) h4) (And.intro hn (And.intro w1 (And.intro w2 w3)))))
  clear h h4 w1 w2 w3 hn hq K0 x0 y0
  by_cases hc : q.check = 0
  · rw [hc] at hch
    have hd : q.args.length ≤ 8 := by
      unfold Req.check at hc
      split at hc
      · cases hc
      · split at hc
        · cases hc
        · split at hc
          · cases hc
          · omega
    have HC := Lib.hid (And.intro hc hd)
    clear hc hd
    cases hf : findP L q.name with
    | none =>
      have hj : judgeL L q most = (plan0, 92) := by unfold judgeL; rw [if_neg (by rw [HC.out.1]; simp), hf]
      rw [hj]
      have HFN : RowKit.Hid (∀ W, Keep No w W → Calls Tryz.prog 79 #[.pointer (some ⟨B, 0, none⟩), .string q.name] W fun e w6 => ∃ b1 d1 b2 d2 b3 d3 b4 d4 b5 d5, e = .returned (.tuple #[.agg #[.string ⟨#[]⟩, .slice b1 0 d1, .bool false, .slice b2 0 d2, .slice b3 0 d3, .int .i64 0, .slice b4 0 d4, .slice b5 0 d5], .bool false]) ∧ RowKit.Hid (Keep No W w6)) := fun W hW => by
        refine (HX.out.1.find W hW q.name).mono ?_
        rintro e w6 ⟨cs6, rfl, hr6, hk6⟩
        rw [hf] at hr6 ⊢
        obtain ⟨b1, d1, b2, d2, b3, d3, b4, d4, b5, d5, hcs, -⟩ := proc_cells hr6
        obtain rfl : cs6 = #[.string prc0.name, .slice b1 prc0.kinds.length d1, .bool prc0.dep, .slice b2 prc0.reads.length d2, .slice b3 prc0.writes.length d3, .int .i64 prc0.pgm.args, .slice b4 prc0.pgm.consts.length d4, .slice b5 prc0.pgm.code.length d5] := by
          cases cs6; simp at hcs; rw [hcs]
        exact ⟨b1, d1, b2, d2, b3, d3, b4, d4, b5, d5, rfl, hk6⟩
      clear hf hj
      go_enter Tryz.func24, Tryz.ntmps24
      go_wp2_with (first | (go_at_call 49; refine hch.mono ?_; clear hch; rintro e w5 ⟨rfl, X5, R5, HK5⟩; clear q0; have q5 := blk_cell X5) | (go_at_call 79; refine (HFN.out _ HK5.out).mono ?_; rintro e w6 ⟨b1, d1, b2, d2, b3, d3, b4, d4, b5, d5, rfl, HK6⟩; have R9 := blk_alloc (o' := .cells #[.string ⟨#[]⟩, .slice b1 0 d1, .bool false, .slice b2 0 d2, .slice b3 0 d3, .int .i64 0, .slice b4 0 d4, .slice b5 0 d5] 130) (HK6.out.blk R5 (fun x => x)); have K9 := (HK5.out.trans HK6.out).alloc (.cells #[.string ⟨#[]⟩, .slice b1 0 d1, .bool false, .slice b2 0 d2, .slice b3 0 d3, .int .i64 0, .slice b4 0 d4, .slice b5 0 d5] 130); have c9 := blk_cell R9; have z9 := blk_fro R9))
      have y9 := blk_seven R9 (.int .i64 0) (.int .u64 0) (.string ⟨#[]⟩) (.slice none 0 0) (.int .i64 0) (.slice none 0 0) (.slice none 0 0)
      have k9 := keep_seven K9 (b := w.heap.size + 1) (Nat.le_succ _) (.int .i64 0) (.int .u64 0) (.string ⟨#[]⟩) (.slice none 0 0) (.int .i64 0) (.slice none 0 0) (.slice none 0 0)
      have s9 := blk_cell y9
      refine bodyPost_ret (v := .tuple #[.agg #[.int .i64 0, .int .u64 0, .string ⟨#[]⟩, .slice none 0 0, .int .i64 0, .slice none 0 0, .slice none 0 0], .int .i64 92]) (by simp [results, Tryz.results24, go_sem, s9]) rfl ?_
      exact (zero_given k9 _).wide
    | some p =>
      have hhome := HX.out.1.home p (findP_mem hf).1
      have HFN : RowKit.Hid (∀ W, Keep No w W → Calls Tryz.prog 79 #[.pointer (some ⟨B, 0, none⟩), .string q.name] W fun e w6 => ∃ b1 d1 b2 d2 b3 d3 b4 d4 b5 d5, e = .returned (.tuple #[.agg #[.string p.name, .slice b1 p.kinds.length d1, .bool p.dep, .slice b2 p.reads.length d2, .slice b3 p.writes.length d3, .int .i64 p.pgm.args, .slice b4 p.pgm.consts.length d4, .slice b5 p.pgm.code.length d5], .bool true]) ∧ RowKit.Hid (Rd procSh w6 S #[.string p.name, .slice b1 p.kinds.length d1, .bool p.dep, .slice b2 p.reads.length d2, .slice b3 p.writes.length d3, .int .i64 p.pgm.args, .slice b4 p.pgm.consts.length d4, .slice b5 p.pgm.code.length d5].toList p ∧ Keep No W w6)) := fun W hW => by
        refine (HX.out.1.find W hW q.name).mono ?_
        rintro e w6 ⟨cs6, rfl, hr6, hk6⟩
        rw [hf] at hr6 ⊢
        obtain ⟨b1, d1, b2, d2, b3, d3, b4, d4, b5, d5, hcs, -⟩ := proc_cells hr6
        simp only [Option.getD_some] at hcs hr6
        obtain rfl : cs6 = #[.string p.name, .slice b1 p.kinds.length d1, .bool p.dep, .slice b2 p.reads.length d2, .slice b3 p.writes.length d3, .int .i64 p.pgm.args, .slice b4 p.pgm.consts.length d4, .slice b5 p.pgm.code.length d5] := by
          cases cs6; simp at hcs; rw [hcs]
        exact ⟨b1, d1, b2, d2, b3, d3, b4, d4, b5, d5, rfl, hr6, hk6⟩
      have HSU : RowKit.Hid (∀ (W6 W8 : World) b1 d1 b2 d2 b3 d3 b4 d4 b5 d5, Keep No w W6 → Keep No W6 W8 → Rd procSh W6 S #[.string p.name, .slice b1 p.kinds.length d1, .bool p.dep, .slice b2 p.reads.length d2, .slice b3 p.writes.length d3, .int .i64 p.pgm.args, .slice b4 p.pgm.consts.length d4, .slice b5 p.pgm.code.length d5].toList p → Calls Tryz.prog 80 #[.agg #[.string p.name, .slice b1 p.kinds.length d1, .bool p.dep, .slice b2 p.reads.length d2, .slice b3 p.writes.length d3, .int .i64 p.pgm.args, .slice b4 p.pgm.consts.length d4, .slice b5 p.pgm.code.length d5], .slice a q.args.length c] W8 fun e w7 => e = .returned (.int .i64 (if suitsB p.kinds q.args then 0 else 82)) ∧ RowKit.Hid (Keep No W8 w7)) := fun W6 W8 b1 d1 b2 d2 b3 d3 b4 d4 b5 d5 h6 h8 hr => by
        obtain ⟨e1, f1, e2, f2, e3, f3, e4, f4, e5, f5, hcs, r1, -⟩ := proc_cells hr
        simp only [Array.toList, List.cons.injEq, Value.slice.injEq, and_true, true_and] at hcs
        obtain ⟨⟨rfl, rfl⟩, -⟩ := hcs
        exact rSuits_any W8 _ _ _ _ _ _ _ _ _ ⟨rfl, rfl, rfl, rfl, rfl, rfl, rfl⟩ _ a _ c p.kinds q.args (r1.agree _ h8.agreeNo) (HX.out.2.1.agree _ (h6.trans h8).agreeNo)
      have HF := Lib.hid (And.intro hhome hf)
      cases hs : suitsB p.kinds q.args with
      | false =>
        have hj : judgeL L q most = (plan0, 82) := by unfold judgeL; rw [if_neg (by rw [HC.out.1]; simp), hf]; simp only; rw [if_pos hs]
        rw [hj]
        rw [hs] at HSU
        simp only [Bool.false_eq_true, if_false] at HSU
        clear hj hf hhome hs
        go_enter Tryz.func24, Tryz.ntmps24
        go_wp2_with (first | (go_at_call 49; refine hch.mono ?_; clear hch; rintro e w5 ⟨rfl, X5, R5, HK5⟩; clear q0; have q5 := blk_cell X5) | (go_at_call 79; refine (HFN.out _ HK5.out).mono ?_; rintro e w6 ⟨b1, d1, b2, d2, b3, d3, b4, d4, b5, d5, rfl, H6⟩; have X6 := H6.out.2.blk X5 (fun x => x); have R6 := H6.out.2.blk R5 (fun x => x); have q6 := blk_cell X6; have q6a := blk_cell (blk_alloc (o' := .cells #[.string p.name, .slice b1 p.kinds.length d1, .bool p.dep, .slice b2 p.reads.length d2, .slice b3 p.writes.length d3, .int .i64 p.pgm.args, .slice b4 p.pgm.consts.length d4, .slice b5 p.pgm.code.length d5] 130) X6)) | (go_at_call 80; refine (HSU.out w6 _ b1 d1 b2 d2 b3 d3 b4 d4 b5 d5 (HK5.out.trans H6.out.2) ((Keep.refl No w6).alloc _) H6.out.1).mono ?_; rintro e w7 ⟨rfl, HK7⟩; have R9 := HK7.out.blk (blk_alloc (o' := .cells #[.string p.name, .slice b1 p.kinds.length d1, .bool p.dep, .slice b2 p.reads.length d2, .slice b3 p.writes.length d3, .int .i64 p.pgm.args, .slice b4 p.pgm.consts.length d4, .slice b5 p.pgm.code.length d5] 130) R6) (fun x => x); have K9 := ((HK5.out.trans H6.out.2).alloc (.cells #[.string p.name, .slice b1 p.kinds.length d1, .bool p.dep, .slice b2 p.reads.length d2, .slice b3 p.writes.length d3, .int .i64 p.pgm.args, .slice b4 p.pgm.consts.length d4, .slice b5 p.pgm.code.length d5] 130)).trans HK7.out; have c9 := blk_cell R9; have z9 := blk_fro R9))
        have y9 := blk_seven R9 (.int .i64 0) (.int .u64 0) (.string ⟨#[]⟩) (.slice none 0 0) (.int .i64 0) (.slice none 0 0) (.slice none 0 0)
        have k9 := keep_seven K9 (b := w.heap.size + 1) (Nat.le_succ _) (.int .i64 0) (.int .u64 0) (.string ⟨#[]⟩) (.slice none 0 0) (.int .i64 0) (.slice none 0 0) (.slice none 0 0)
        have s9 := blk_cell y9
        refine bodyPost_ret (v := .tuple #[.agg #[.int .i64 0, .int .u64 0, .string ⟨#[]⟩, .slice none 0 0, .int .i64 0, .slice none 0 0, .slice none 0 0], .int .i64 82]) (by simp [results, Tryz.results24, go_sem, s9]) rfl ?_
        exact (zero_given k9 _).wide
      | true =>
        rw [hs] at HSU
        simp only [if_true] at HSU
        have hj0 : judgeL L q most = if p.dep then (mkPlan q 0 (mkFp [] []), 0) else if (p.foot q.args).2 ≠ 0 then (plan0, (p.foot q.args).2) else if most < (setT ((p.foot q.args).1.rs ++ (p.foot q.args).1.ws)).length then (plan0, 93) else (mkPlan q 1 (p.foot q.args).1, 0) := by
          conv => lhs; unfold judgeL
          rw [if_neg (by rw [HC.out.1]; simp), hf]
          simp only
          rw [if_neg (by rw [hs]; simp)]
        obtain ⟨res, hres⟩ : ∃ res, res = judgeL L q most := ⟨_, rfl⟩
        rw [← hres]
        have HRES := Lib.hid (hres.trans hj0)
        have HS := Lib.hid hs
        clear hj0 hf hhome hs hres
        go_enter Tryz.func24, Tryz.ntmps24
        go_upto_region 12 with (first | (go_at_call 49; refine hch.mono ?_; clear hch; rintro e w5 ⟨rfl, X5, R5, HK5⟩; clear q0; have q5 := blk_cell X5) | (go_at_call 79; refine (HFN.out _ HK5.out).mono ?_; rintro e w6 ⟨b1, d1, b2, d2, b3, d3, b4, d4, b5, d5, rfl, H6⟩; have X6 := H6.out.2.blk X5 (fun x => x); have R6 := H6.out.2.blk R5 (fun x => x); have q6 := blk_cell X6; have q6a := blk_cell (blk_alloc (o' := .cells #[.string p.name, .slice b1 p.kinds.length d1, .bool p.dep, .slice b2 p.reads.length d2, .slice b3 p.writes.length d3, .int .i64 p.pgm.args, .slice b4 p.pgm.consts.length d4, .slice b5 p.pgm.code.length d5] 130) X6)) | (go_at_call 80; refine (HSU.out w6 _ b1 d1 b2 d2 b3 d3 b4 d4 b5 d5 (HK5.out.trans H6.out.2) ((Keep.refl No w6).alloc _) H6.out.1).mono ?_; rintro e w7 ⟨rfl, HK7⟩))
        have kp := (HK5.out.trans H6.out.2).alloc (.cells #[.string p.name, .slice b1 p.kinds.length d1, .bool p.dep, .slice b2 p.reads.length d2, .slice b3 p.writes.length d3, .int .i64 p.pgm.args, .slice b4 p.pgm.consts.length d4, .slice b5 p.pgm.code.length d5] 130)
        have k7 := kp.trans HK7.out
        have X7 := HK7.out.blk (blk_alloc (o' := .cells #[.string p.name, .slice b1 p.kinds.length d1, .bool p.dep, .slice b2 p.reads.length d2, .slice b3 p.writes.length d3, .int .i64 p.pgm.args, .slice b4 p.pgm.consts.length d4, .slice b5 p.pgm.code.length d5] 130) X6) (fun x => x)
        have R7 := HK7.out.blk (blk_alloc (o' := .cells #[.string p.name, .slice b1 p.kinds.length d1, .bool p.dep, .slice b2 p.reads.length d2, .slice b3 p.writes.length d3, .int .i64 p.pgm.args, .slice b4 p.pgm.consts.length d4, .slice b5 p.pgm.code.length d5] 130) R6) (fun x => x)
        have P7 := HK7.out.blk (blk_new w6 (.cells #[.string p.name, .slice b1 p.kinds.length d1, .bool p.dep, .slice b2 p.reads.length d2, .slice b3 p.writes.length d3, .int .i64 p.pgm.args, .slice b4 p.pgm.consts.length d4, .slice b5 p.pgm.code.length d5] 130)) (fun x => x)
        have RP7 := (Rd.both H6.out.1).agree procSh (((Keep.refl No w6).alloc (.cells #[.string p.name, .slice b1 p.kinds.length d1, .bool p.dep, .slice b2 p.reads.length d2, .slice b3 p.writes.length d3, .int .i64 p.pgm.args, .slice b4 p.pgm.consts.length d4, .slice b5 p.pgm.code.length d5] 130)).trans HK7.out).agreeNo
        have hP : w.heap.size + 1 < w6.heap.size := blk_lt R6
        have x7 := blk_cell X7
        generalize w6.heap.size = PB at *
        have HP := Lib.hid hP
        have HRP := Lib.hid RP7
        have HR7 := Lib.hid R7
        have HP7 := Lib.hid P7
        have HX7 := Lib.hid X7
        have HK := Lib.hid k7
        clear kp k7 X7 R7 P7 RP7 X5 R5 X6 R6 q6 q6a HK7 HK5 H6 HSU HFN q5 hP
        go_upto_region 13 with fail
        have k8 := HK.out.alloc (.cells #[.int .i64 q.client, .int .u64 q.token, .string q.name, .slice a q.args.length c, .int .i64 0, .slice none 0 0, .slice none 0 0] 50)
        have b8 := blk_new w7 (.cells #[.int .i64 q.client, .int .u64 q.token, .string q.name, .slice a q.args.length c, .int .i64 0, .slice none 0 0, .slice none 0 0] 50)
        have R8 := blk_alloc (o' := .cells #[.int .i64 q.client, .int .u64 q.token, .string q.name, .slice a q.args.length c, .int .i64 0, .slice none 0 0, .slice none 0 0] 50) HR7.out
        have P8 := blk_alloc (o' := .cells #[.int .i64 q.client, .int .u64 q.token, .string q.name, .slice a q.args.length c, .int .i64 0, .slice none 0 0, .slice none 0 0] 50) HP7.out
        have X8 := blk_alloc (o' := .cells #[.int .i64 q.client, .int .u64 q.token, .string q.name, .slice a q.args.length c, .int .i64 0, .slice none 0 0, .slice none 0 0] 50) HX7.out
        have RP8 := HRP.out.agree procSh ((Keep.refl No w7).alloc (.cells #[.int .i64 q.client, .int .u64 q.token, .string q.name, .slice a q.args.length c, .int .i64 0, .slice none 0 0, .slice none 0 0] 50)).agreeNo
        have h8 : PB < w7.heap.size := blk_lt HP7.out
        clear x7
        generalize (w7.alloc (.cells #[.int .i64 q.client, .int .u64 q.token, .string q.name, .slice a q.args.length c, .int .i64 0, .slice none 0 0, .slice none 0 0] 50)) = w8 at *
        generalize w7.heap.size = XB at *
        have HB := Lib.hid (And.intro b8 (And.intro R8 (And.intro P8 (And.intro X8 (And.intro RP8 (And.intro h8 k8))))))
        have p8 := blk_cell P8
        clear b8 R8 X8 RP8 h8 k8 HR7 HP7 HX7 HRP HK
        cases hdep : p.dep with
        | true =>
          have hre : res = (mkPlan q 0 (mkFp [] []), 0) := by rw [HRES.out, hdep, if_pos rfl]
          rw [hdep] at p8
          have HRE := Lib.hid hre
          clear hre HRES hdep P8
          have b9 := blk_cell HB.out.1
          have R9 := HB.out.2.1
          have r9 := blk_cell R9
          have z9 := blk_fro R9
          have K9 := HB.out.2.2.2.2.2.2
          go_wp2_with fail
          have y9 := blk_seven R9 (.int .i64 q.client) (.int .u64 q.token) (.string q.name) (.slice a q.args.length c) (.int .i64 0) (.slice none 0 0) (.slice none 0 0)
          have k9 := keep_seven K9 (b := w.heap.size + 1) (Nat.le_succ _) (.int .i64 q.client) (.int .u64 q.token) (.string q.name) (.slice a q.args.length c) (.int .i64 0) (.slice none 0 0) (.slice none 0 0)
          have s9 := blk_cell y9
          refine bodyPost_ret (v := .tuple #[.agg #[.int .i64 q.client, .int .u64 q.token, .string q.name, .slice a q.args.length c, .int .i64 0, .slice none 0 0, .slice none 0 0], .int .i64 0]) (by simp [results, Tryz.results24, go_sem, s9]) rfl ?_
          have O9 : Rd (.slice valueSh) _ (fun k => (T k ∧ k < w.heap.size) ∨ Fr w.heap.size w8.heap.size k) [.slice a q.args.length c] q.args := ((HX.out.2.1.agree (.slice valueSh) HB.out.2.2.2.2.2.2.agreeNo).agree (.slice valueSh) (agree_seven (b := w.heap.size + 1) (fun hh => by have := hh.2; omega) (.int .i64 q.client) (.int .u64 q.token) (.string q.name) (.slice a q.args.length c) (.int .i64 0) (.slice none 0 0) (.slice none 0 0))).mono (.slice valueSh) fun k _ hk => .inl hk
          rw [HRE.out]
          refine ⟨_, rfl, plan_mk (mkPlan q 0 (mkFp [] [])) ?_ (nil_slice _ _ _) (nil_slice _ _ _) HX.out.2.2.2.1 HX.out.2.2.2.2.1 HX.out.2.2.2.2.2 (show (Lit.int .i64 0).wf = true by decide), k9⟩
          show Rd (.slice valueSh) _ _ _ q.args
          simpa using O9
        | false =>
          have hre : res = if (p.foot q.args).2 ≠ 0 then (plan0, (p.foot q.args).2) else if most < (setT ((p.foot q.args).1.rs ++ (p.foot q.args).1.ws)).length then (plan0, 93) else (mkPlan q 1 (p.foot q.args).1, 0) := by rw [HRES.out, hdep, if_neg (by simp)]
          have HRE0 := Lib.hid hre
          clear HRES hre
          have HD := Lib.hid hdep
          rw [hdep] at p8
          clear hdep
          have hsz8 : XB < w8.heap.size := blk_lt HB.out.1
          have b9 := blk_set HB.out.1 4 (.int .i64 1)
          have R9 := blk_other (a := ⟨XB, 4, none⟩) HB.out.2.1 (by have := HB.out.2.2.2.2.2.1; have := HP.out; show ¬ XB = _; omega) (.int .i64 1)
          have P9 := blk_other (a := ⟨XB, 4, none⟩) HB.out.2.2.1 (by have := HB.out.2.2.2.2.2.1; show ¬ XB = _; omega) (.int .i64 1)
          have X9 := blk_other (a := ⟨XB, 4, none⟩) HB.out.2.2.2.1 (by have := HB.out.2.2.2.2.2.1; have := HP.out; show ¬ XB = _; omega) (.int .i64 1)
          have K9 := HB.out.2.2.2.2.2.2.setNew (p := ⟨XB, 4, none⟩) (by have := HB.out.2.2.2.2.2.1; have := HP.out; show w.heap.size ≤ XB; omega) (.int .i64 1)
          have RP9 := HB.out.2.2.2.2.1.agree procSh (agree_set (b := XB) (fun hh => by have := hh.2; have := HB.out.2.2.2.2.2.1; omega) 4 (.int .i64 1))
          have q8 := blk_cell HB.out.1
          have f8 := blk_fro HB.out.1
          rw [HD.out] at P9
          go_upto_region 16 with fail
          clear q8 f8 p8 P8
          simp at b9
          generalize (w8.setCell ⟨XB, 4, none⟩ (.int .i64 1)) = w9 at *
          have hft := (rLibFoot_any w9 _ _ _ p RP9 HF.out.1 HD.out q.args a c (HX.out.2.1.agree (.slice valueSh) K9.agreeNo) HS.out).mono (R' := fun e w10 => ∃ f1 n1 g1 f2 n2 g2 qe, e = .returned (.tuple #[.agg #[.slice f1 n1 g1, .slice f2 n2 g2], .int .i64 qe]) ∧ w10.heap[XB]? = some (.cells #[.int .i64 q.client, .int .u64 q.token, .string q.name, .slice a q.args.length c, .int .i64 1, .slice none 0 0, .slice none 0 0] 50 (0, 0)) ∧ RowKit.Hid (qe = (p.foot q.args).2 ∧ OwnF w9 w10 (.slice f1 n1 g1) (.slice f2 n2 g2) (p.foot q.args).1 ∧ Keep No w w10 ∧ w10.heap[w.heap.size + 1]? = some (.cells #[.int .i64 0, .int .u64 0, .string ⟨#[]⟩, .slice none 0 0, .int .i64 0, .slice none 0 0, .slice none 0 0] 50 (0, 0)) ∧ XB < w9.heap.size)) (by
            rintro e w10 ⟨f1, n1, g1, f2, n2, g2, rfl, ho, hk⟩
            exact ⟨f1, n1, g1, f2, n2, g2, _, rfl, hk.blk b9 (fun x => x), rfl, ho, K9.trans hk, hk.blk R9 (fun x => x), blk_lt b9⟩)
          rw [HD.out] at hft
          have p9 := blk_cell P9
          have x9 := blk_cell X9
          have HXB := Lib.hid (show w.heap.size + 1 < XB by have := HB.out.2.2.2.2.2.1; have := HP.out; omega)
          clear b9 R9 P9 X9 K9 RP9 HB hsz8
          go_upto_region 17 with (go_at_call 81; refine hft.mono ?_; clear hft p9 x9; rintro e w10 ⟨f1, n1, g1, f2, n2, g2, qe, rfl, b10, H10⟩; have c10 := blk_cell b10; have z10 := blk_fro b10)
          have b11 := blk_set (blk_set b10 5 (.slice f1 n1 g1)) 6 (.slice f2 n2 g2)
          simp at b11
          have K11 : Keep No w ((w10.setCell ⟨XB, 5, none⟩ (.slice f1 n1 g1)).setCell ⟨XB, 6, none⟩ (.slice f2 n2 g2)) := (H10.out.2.2.1.setNew (p := ⟨XB, 5, none⟩) (by have := HXB.out; show w.heap.size ≤ XB; omega) _).setNew (p := ⟨XB, 6, none⟩) (by have := HXB.out; show w.heap.size ≤ XB; omega) _
          have R11 := blk_other (a := ⟨XB, 6, none⟩) (blk_other (a := ⟨XB, 5, none⟩) H10.out.2.2.2.1 (by have := HXB.out; show ¬ XB = _; omega) (.slice f1 n1 g1)) (by have := HXB.out; show ¬ XB = _; omega) (.slice f2 n2 g2)
          have A11 : ∀ (sh : Sh) (y : Value) (l : List sh.T), Rd (.slice sh) w10 (Fr w9.heap.size w10.heap.size) [y] l → Rd (.slice sh) ((w10.setCell ⟨XB, 5, none⟩ (.slice f1 n1 g1)).setCell ⟨XB, 6, none⟩ (.slice f2 n2 g2)) (Fr w9.heap.size w10.heap.size) [y] l := fun sh y l hr =>
            (hr.agree (.slice sh) (agree_set (fun hh => by have := hh.1; have := H10.out.2.2.2.2; omega) 5 _)).agree (.slice sh) (agree_set (fun hh => by have := hh.1; have := H10.out.2.2.2.2; omega) 6 _)
          have hA1 := A11 .str _ _ H10.out.2.1.1.1.rd
          have hA2 := A11 .str _ _ H10.out.2.1.2.1.rd
          have hs11 : ((w10.setCell ⟨XB, 5, none⟩ (.slice f1 n1 g1)).setCell ⟨XB, 6, none⟩ (.slice f2 n2 g2)).heap.size = w10.heap.size := by simp
          have hsw9 := H10.out.2.2.2.2
          have H11 := Lib.hid (And.intro b11 (And.intro K11 (And.intro R11 (And.intro hA1 (And.intro hA2 (And.intro hs11 hsw9))))))
          have HQE := Lib.hid H10.out.1
          have hfl := foot_len p q.args HF.out.1.ok.nr HF.out.1.ok.nw
          have HFL := Lib.hid hfl
          clear b10 c10 z10 b11 K11 R11 A11 hA1 hA2 hs11 hsw9 H10 hfl
          generalize ((w10.setCell ⟨XB, 5, none⟩ (.slice f1 n1 g1)).setCell ⟨XB, 6, none⟩ (.slice f2 n2 g2)) = w11 at *
          by_cases he : qe = 0
          · subst he
            have hre1 := HRE0.out
            rw [if_neg (fun hh => hh HQE.out.symm)] at hre1
            have HRE1 := Lib.hid hre1
            clear HRE0 hre1
            have c11 := blk_cell H11.out.1
            have hlk := (rLocks_any w11 (Fr w9.heap.size w10.heap.size) (.slice f1 n1 g1) (.slice f2 n2 g2) (p.foot q.args).1 ⟨H11.out.2.2.2.1, H11.out.2.2.2.2.1⟩ (by have := HFL.out; omega) (by have h1 := HFL.out; have h2 := setT_le ((p.foot q.args).1.rs ++ (p.foot q.args).1.ws); rw [List.length_append] at h2; omega)).mono (R' := fun e w12 => ∃ ak ck, e = .returned (.slice ak (setT ((p.foot q.args).1.rs ++ (p.foot q.args).1.ws)).length ck) ∧ w12.heap[XB]? = some (.cells #[.int .i64 q.client, .int .u64 q.token, .string q.name, .slice a q.args.length c, .int .i64 1, .slice f1 n1 g1, .slice f2 n2 g2] 50 (0, 0)) ∧ w12.heap[w.heap.size + 1]? = some (.cells #[.int .i64 0, .int .u64 0, .string ⟨#[]⟩, .slice none 0 0, .int .i64 0, .slice none 0 0, .slice none 0 0] 50 (0, 0)) ∧ RowKit.Hid (Keep No w w12 ∧ Keep No w11 w12)) (by
              rintro e w12 ⟨ak, nk, ck, rfl, hn, -, hk⟩
              have hn2 : nk = (setT ((p.foot q.args).1.rs ++ (p.foot q.args).1.ws)).length := by rw [hn]; unfold Fp.locks; rw [List.length_map]
              subst hn2
              exact ⟨ak, ck, rfl, hk.blk H11.out.1 (fun x => x), hk.blk H11.out.2.2.1 (fun x => x), H11.out.2.1.trans hk, hk⟩)
            generalize hnf : (setT ((p.foot q.args).1.rs ++ (p.foot q.args).1.ws)).length = nf at *
            clear hnf
            by_cases hm : most < (nf : Int)
            · have hre := HRE1.out
              rw [if_pos hm] at hre
              have HRE := Lib.hid hre
              clear HRE1 hre
              go_wp2_with (go_at_call 82; refine hlk.mono ?_; clear hlk c11; rintro e w12 ⟨ak, ck, rfl, b12, R9, H12⟩; have c9 := blk_cell R9; have z9 := blk_fro R9)
              have K9 := H12.out.1
              have y9 := blk_seven R9 (.int .i64 0) (.int .u64 0) (.string ⟨#[]⟩) (.slice none 0 0) (.int .i64 0) (.slice none 0 0) (.slice none 0 0)
              have k9 := keep_seven K9 (b := w.heap.size + 1) (Nat.le_succ _) (.int .i64 0) (.int .u64 0) (.string ⟨#[]⟩) (.slice none 0 0) (.int .i64 0) (.slice none 0 0) (.slice none 0 0)
              have s9 := blk_cell y9
              refine bodyPost_ret (v := .tuple #[.agg #[.int .i64 0, .int .u64 0, .string ⟨#[]⟩, .slice none 0 0, .int .i64 0, .slice none 0 0, .slice none 0 0], .int .i64 93]) (by simp [results, Tryz.results24, go_sem, s9]) rfl ?_
              rw [HRE.out]
              exact (zero_given k9 _).wide
            · have hre := HRE1.out
              rw [if_neg hm] at hre
              have HRE := Lib.hid hre
              clear HRE1 hre
              go_wp2_with (go_at_call 82; refine hlk.mono ?_; clear hlk c11; rintro e w12 ⟨ak, ck, rfl, b12, R9, H12⟩; have c9 := blk_cell R9; have z9 := blk_fro R9; have c12 := blk_cell b12)
              have K9 := H12.out.1
              have y9 := blk_seven R9 (.int .i64 q.client) (.int .u64 q.token) (.string q.name) (.slice a q.args.length c) (.int .i64 1) (.slice f1 n1 g1) (.slice f2 n2 g2)
              have k9 := keep_seven K9 (b := w.heap.size + 1) (Nat.le_succ _) (.int .i64 q.client) (.int .u64 q.token) (.string q.name) (.slice a q.args.length c) (.int .i64 1) (.slice f1 n1 g1) (.slice f2 n2 g2)
              have s9 := blk_cell y9
              refine bodyPost_ret (v := .tuple #[.agg #[.int .i64 q.client, .int .u64 q.token, .string q.name, .slice a q.args.length c, .int .i64 1, .slice f1 n1 g1, .slice f2 n2 g2], .int .i64 0]) (by simp [results, Tryz.results24, go_sem, s9]) rfl ?_
              have hs12 := H12.out.2.size
              have hs11 := H11.out.2.2.2.2.2.1
              have hs9 := H11.out.2.2.2.2.2.2
              have hXB := HXB.out
              have O1 : Rd (.slice valueSh) _ (fun k => (T k ∧ k < w.heap.size) ∨ Fr w.heap.size w12.heap.size k) [.slice a q.args.length c] q.args := ((HX.out.2.1.agree (.slice valueSh) K9.agreeNo).agree (.slice valueSh) (agree_seven (b := w.heap.size + 1) (fun hh => by have := hh.2; omega) (.int .i64 q.client) (.int .u64 q.token) (.string q.name) (.slice a q.args.length c) (.int .i64 1) (.slice f1 n1 g1) (.slice f2 n2 g2))).mono (.slice valueSh) fun k _ hk => .inl hk
              have hlift : ∀ (y : Value) (l : List ByteArray), Rd (.slice .str) w11 (Fr w9.heap.size w10.heap.size) [y] l → Rd (.slice .str) _ (fun k => (T k ∧ k < w.heap.size) ∨ Fr w.heap.size w12.heap.size k) [y] l := fun y l hr =>
                ((hr.agree (.slice .str) H12.out.2.agreeNo).agree (.slice .str) (agree_seven (b := w.heap.size + 1) (fun hh => by have := hh.1; omega) (.int .i64 q.client) (.int .u64 q.token) (.string q.name) (.slice a q.args.length c) (.int .i64 1) (.slice f1 n1 g1) (.slice f2 n2 g2))).mono (.slice .str) fun k _ hk => .inr ⟨by have := hk.1; omega, by have := hk.2; omega⟩
              have O2 := hlift _ _ H11.out.2.2.2.1
              have O3 := hlift _ _ H11.out.2.2.2.2.1
              rw [HRE.out]
              refine ⟨_, rfl, plan_mk (mkPlan q 1 (p.foot q.args).1) ?_ ?_ ?_ HX.out.2.2.2.1 HX.out.2.2.2.2.1 HX.out.2.2.2.2.2 (show (Lit.int .i64 1).wf = true by decide), k9⟩
              · show Rd (.slice valueSh) _ _ _ q.args
                simpa using O1
              · show Rd (.slice .str) _ _ _ (p.foot q.args).1.rs
                simpa using O2
              · show Rd (.slice .str) _ _ _ (p.foot q.args).1.ws
                simpa using O3
          · have hre := HRE0.out
            rw [← HQE.out, if_pos he] at hre
            have HRE := Lib.hid hre
            have he' : (qe != 0) = true := by simpa using he
            clear HRE0 hre he
            have R9 := H11.out.2.2.1
            have c9 := blk_cell R9
            have z9 := blk_fro R9
            have K9 := H11.out.2.1
            go_wp2_with fail
            have y9 := blk_seven R9 (.int .i64 0) (.int .u64 0) (.string ⟨#[]⟩) (.slice none 0 0) (.int .i64 0) (.slice none 0 0) (.slice none 0 0)
            have k9 := keep_seven K9 (b := w.heap.size + 1) (Nat.le_succ _) (.int .i64 0) (.int .u64 0) (.string ⟨#[]⟩) (.slice none 0 0) (.int .i64 0) (.slice none 0 0) (.slice none 0 0)
            have s9 := blk_cell y9
            refine bodyPost_ret (v := .tuple #[.agg #[.int .i64 0, .int .u64 0, .string ⟨#[]⟩, .slice none 0 0, .int .i64 0, .slice none 0 0, .slice none 0 0], .int .i64 qe]) (by simp [results, Tryz.results24, go_sem, s9]) rfl ?_
            rw [HRE.out]
            exact (zero_given k9 _).wide
  · have hj : judgeL L q most = (plan0, q.check) := by unfold judgeL; rw [if_pos hc]
    rw [hj]
    have hc' : (q.check != 0) = true := by simpa using hc
    clear hj hc
    generalize q.check = ec at *
    go_enter Tryz.func24, Tryz.ntmps24
    go_wp2_with (go_at_call 49; refine hch.mono ?_; clear hch; rintro e w5 ⟨rfl, X5, R9, HK5⟩; have c9 := blk_cell R9; have z9 := blk_fro R9; have K9 := HK5.out)
    have y9 := blk_seven R9 (.int .i64 0) (.int .u64 0) (.string ⟨#[]⟩) (.slice none 0 0) (.int .i64 0) (.slice none 0 0) (.slice none 0 0)
    have k9 := keep_seven K9 (b := w.heap.size + 1) (Nat.le_succ _) (.int .i64 0) (.int .u64 0) (.string ⟨#[]⟩) (.slice none 0 0) (.int .i64 0) (.slice none 0 0) (.slice none 0 0)
    have s9 := blk_cell y9
    refine bodyPost_ret (v := .tuple #[.agg #[.int .i64 0, .int .u64 0, .string ⟨#[]⟩, .slice none 0 0, .int .i64 0, .slice none 0 0, .slice none 0 0], .int .i64 ec]) (by simp [results, Tryz.results24, go_sem, s9]) rfl ?_
    exact (zero_given k9 _).wide
end Go.Proofs.YtpjcebajkfeacaaGreatDoor
