/-
  Parts of what is proved for this claim; each declaration is one of the seat's texts.
-/
import Derived.Test.YtpjcebajkfeacaaGreatDoorBGA
import Derived.Test.YtpjcebajkfeacaaGreatDoorBGC
import Derived.Test.YtpjcebajkfeacaaGreatDoorBGF
import Derived.Test.YtpjcebajkfeacaaGreatDoorBGK
import Derived.Test.YtpjcebajkfeacaaGreatDoorBGN
import Derived.Test.YtpjcebajkfeacaaGreatDoorBGO
import Derived.Test.YtpjcebajkfeacaaGreatDoorBGQ
import Derived.Test.YtpjcebajkfeacaaGreatDoorBGU
import Derived.Test.YtpjcebajkfeacaaGreatDoorBGV
import Derived.Test.YtpjcebajkfeacaaGreatDoorBGW
import Derived.Test.YtpjcebajkfeacaaGreatDoorBHA
import Derived.Test.YtpjcebajkfeacaaGreatDoorBHB
import Derived.Test.YtpjcebajkfeacaaGreatDoorBHC
import Derived.Test.YtpjcebajkfeacaaGreatDoorBHD
import Derived.Test.YtpjcebajkfeacaaGreatDoorBHF
import Derived.Test.YtpjcebajkfeacaaGreatDoorBHH
import Derived.WalkKit
import Derived.WalkSpells
import Derived.WalkLawsBesides
import Derived.ProofKit
import Derived.Deep.Slices
import Derived.Deep.AppendSrc
import Derived.Lib.Hide
import Derived.Lib.ItoaNum
import Derived.Lib.Join
import Derived.Still
import Derived.StillTactics
import Derived.Recover
import Derived.Defers
import Derived.Deep.QuietTactic
import Derived.BigQuiet
import Derived.Handy
import Derived.Laws.Bits64b
import Derived.Lib.Zigzag
import Derived.OwnWalk
import Derived.Deep.DeepCutAuto
import Derived.Deep.LoopGhost
import Derived.Lib.Bytealg
import Derived.Laws.Externs
import Derived.Laws.CopyRow
import Derived.Laws.IdiomCopy
import Derived.Maps.OwnSet
import Derived.Maps.RangeWalk
import Derived.Shelf.SortM.Plain
import Derived.Shelf.SortM.SortNone
import Derived.Ground.SlgmProg
import Derived.Maps.OwnOps
import Derived.Shelf.Strconv.Itoa4
import Derived.Shelf.Strings.BuilderK
import Derived.Shelf.Strings.OnBuilder
import Derived.Ground.NamesProg
import Derived.Lib.AppendIntMem
import Derived.Lib.UnsafeStr
import Derived.Deep.WholeRow
import Derived.Maps.Views
set_option linter.unusedVariables false
set_option linter.unusedSimpArgs false
namespace Go.Proofs.YtpjcebajkfeacaaGreatDoor
open Go Go.RowKit Go.Deep
set_option maxRecDepth 10000 in
theorem footSize_any (w : World) (S : Nat → Prop) (u v : Value) (f : Fp) (h : FpAt w S u v f) (hl : f.rs.length + f.ws.length ≤ 1000) :
    Calls Tryz.prog 78 #[.agg #[u, v]] w (GivesI w (setT (f.rs ++ f.ws)).length) := by
  have K1 := (Keep.refl No w).alloc (.cells #[u, v] 48)
  have i1 : u.oneCell' = true := by obtain ⟨a, c, e, -⟩ := Rd.sliceForm h.1; simp at e; subst e; rfl
  have i2 : v.oneCell' = true := by obtain ⟨a, c, e, -⟩ := Rd.sliceForm h.2; simp at e; subst e; rfl
  have hof := (of_any _ S u v f (h.keep K1) (by omega)).mono (R' := fun e w3 => ∃ D : DU, ∃ m : Nat, e = .returned (.map (some m)) ∧ RowKit.Hid (MapOf w3 m (f.rs.length + f.ws.length) D f ∧ Keep No w w3)) (by
    rintro e w3 ⟨D, rfl, hm, hk⟩
    exact ⟨D, _, rfl, hm, K1.trans hk⟩)
  clear h K1 hl
  generalize hn : (setT (f.rs ++ f.ws)).length = n at *
  have HN := Lib.hid hn
  clear hn
  go_enter Tryz.func78, Tryz.ntmps78
  go_wp2_with (first | (go_at_call 139; refine hof.mono ?_; clear hof; rintro e w3 ⟨D, m, rfl, H3⟩; have hown := H3.out.1.1) | (at_len; refine wpList_len_own _ rfl _ 209 rfl 9 5 Tryz.underlying209 _ m _ _ rfl hown ?_))
  go_ret
  exact ⟨by rw [H3.out.1.2.size, HN.out]; rfl, H3.out.2⟩
theorem blk_seven {w : World} {b : Nat} {x0 x1 x2 x3 x4 x5 x6 : Value} {t : TypeId} (h : w.heap[b]? = some (.cells #[x0, x1, x2, x3, x4, x5, x6] t (0, 0))) (y0 y1 y2 y3 y4 y5 y6 : Value) :
    (((((((w.setCell ⟨b, 0, none⟩ y0).setCell ⟨b, 1, none⟩ y1).setCell ⟨b, 2, none⟩ y2).setCell ⟨b, 3, none⟩ y3).setCell ⟨b, 4, none⟩ y4).setCell ⟨b, 5, none⟩ y5).setCell ⟨b, 6, none⟩ y6).heap[b]? = some (.cells #[y0, y1, y2, y3, y4, y5, y6] t (0, 0)) := by
  have := (blk_set (blk_set (blk_set (blk_set (blk_set (blk_set (blk_set h 0 y0) 1 y1) 2 y2) 3 y3) 4 y4) 5 y5) 6 y6)
  simpa using this
theorem keep_seven {M : Nat → Prop} {a w : World} (h : Keep M a w) {b : Nat} (hb : a.heap.size ≤ b) (y0 y1 y2 y3 y4 y5 y6 : Value) : Keep M a (((((((w.setCell ⟨b, 0, none⟩ y0).setCell ⟨b, 1, none⟩ y1).setCell ⟨b, 2, none⟩ y2).setCell ⟨b, 3, none⟩ y3).setCell ⟨b, 4, none⟩ y4).setCell ⟨b, 5, none⟩ y5).setCell ⟨b, 6, none⟩ y6) := by
  repeat (refine Keep.setNew ?_ (by exact hb) _)
  exact h
theorem agree_seven {S : Nat → Prop} {w : World} {b : Nat} (hb : ¬ S b) (y0 y1 y2 y3 y4 y5 y6 : Value) : Agree S w (((((((w.setCell ⟨b, 0, none⟩ y0).setCell ⟨b, 1, none⟩ y1).setCell ⟨b, 2, none⟩ y2).setCell ⟨b, 3, none⟩ y3).setCell ⟨b, 4, none⟩ y4).setCell ⟨b, 5, none⟩ y5).setCell ⟨b, 6, none⟩ y6) :=
  (((((((keep_set w b 0 y0).trans (keep_set _ b 1 y1)).trans (keep_set _ b 2 y2)).trans (keep_set _ b 3 y3)).trans (keep_set _ b 4 y4)).trans (keep_set _ b 5 y5)).trans (keep_set _ b 6 y6)).agree fun k _ hk e => hb (by have : k = b := e; rw [← this]; exact hk)
def GivesPl (w : World) (x : Plan × Int) (e : Ending) (w' : World) : Prop :=
  ∃ cs : Array Value, e = .returned (.tuple #[.agg cs, .int .i64 x.2]) ∧ Rd planSh w' (Fr w.heap.size w'.heap.size) cs.toList x.1 ∧ Keep No w w'
theorem zero_given {w w' : World} (hk : Keep No w w') (e : Int) : GivesPl w (plan0, e) (.returned (.tuple #[.agg #[.int .i64 0, .int .u64 0, .string ⟨#[]⟩, .slice none 0 0, .int .i64 0, .slice none 0 0, .slice none 0 0], .int .i64 e])) w' := by
  have hz : ∀ s : Sh, Rd (.slice s) w' (Fr w.heap.size w'.heap.size) [.slice none 0 0] [] := fun s => ⟨none, 0, rfl, Nat.le_refl _, by rw [maxLen_is]; omega, fun _ => ⟨rfl, rfl⟩, fun i hi => absurd hi (by simp)⟩
  exact ⟨_, rfl, plan_mk plan0 (hz _) (hz _) (hz _) (by decide) (by decide) (by rw [maxLen_is]; show (0 : Nat) ≤ _; omega) (by decide), hk⟩
theorem keysT_len (args : List Val) : ∀ l : List ByteArray, (keysT args l).1.length ≤ l.length
  | [] => Nat.le_refl _
  | t :: l => by
    have ih := keysT_len args l
    unfold keysT
    split
    · exact Nat.zero_le _
    · split
      · exact Nat.zero_le _
      · simp; exact ih
theorem norm_len (f : Fp) : f.norm.1.rs.length + f.norm.1.ws.length ≤ f.rs.length + f.ws.length := by
  unfold Fp.norm
  split
  · exact Nat.zero_le _
  · split
    · exact Nat.zero_le _
    · have h1 := setT_le f.rs
      have h2 := setT_le f.ws
      show (setT f.rs).length + (setT f.ws).length ≤ _
      omega
theorem foot_len (p : Prc) (args : List Val) (h1 : p.reads.length ≤ 32) (h2 : p.writes.length ≤ 32) : (p.foot args).1.rs.length + (p.foot args).1.ws.length ≤ 64 := by
  unfold Prc.foot
  split
  · exact Nat.zero_le _
  · split
    · exact Nat.zero_le _
    · split
      · exact Nat.zero_le _
      · split
        · exact Nat.zero_le _
        · have h3 := norm_len (mkFp (keysT args p.reads).1 (keysT args p.writes).1)
          have h4 := keysT_len args p.reads
          have h5 := keysT_len args p.writes
          have h6 : (mkFp (keysT args p.reads).1 (keysT args p.writes).1).rs.length + (mkFp (keysT args p.reads).1 (keysT args p.writes).1).ws.length = (keysT args p.reads).1.length + (keysT args p.writes).1.length := rfl
          omega
structure FindAt (w : World) (lv : Value) (L : List Prc) : Prop where
  find : ∀ W, Keep No w W → ∀ n : ByteArray, n.size ≤ 9223372036854775806 → Calls Tryz.prog 74 #[lv, .string n] W (Found W L n)
  home : ∀ p ∈ L, p.Home
theorem LibAt.finds {w : World} {S : Nat → Prop} {B m : Nat} {L : List Prc} (h : LibAt w S B m L) : FindAt w (.pointer (some ⟨B, 0, none⟩)) L := ⟨fun W hW n hn => find_lib W S B m L (h.keep hW (fun _ _ x => x)) n hn, h.home⟩
set_option maxRecDepth 10000 in
set_option maxHeartbeats 4000000 in
theorem judge_gen (w : World) (T : Nat → Prop) (lv : Value) (L : List Prc) (h : FindAt w lv L) (cs : List Value) (q : Req) (hq : Rd requestSh w T cs q) (hn : q.name.size ≤ 9223372036854775806) (most : Int) (ht : Tab w) :
    Calls Tryz.prog 23 #[lv, .agg cs.toArray, .int .i64 most] w (GivesPl w (judgeL L q most)) := by
  obtain ⟨a, c, rfl, h4, w1, w2, w3⟩ := req_cells hq
  have K0 := ((Keep.refl No w).alloc (.cells #[.int .i64 q.client, .int .u64 q.token, .string q.name, .slice a q.args.length c] 29)).alloc (.cells #[.int .i64 0, .int .u64 0, .string ⟨#[]⟩, .slice none 0 0, .int .i64 0, .slice none 0 0, .slice none 0 0] 50)
  have x0 := blk_alloc (o' := .cells #[.int .i64 0, .int .u64 0, .string ⟨#[]⟩, .slice none 0 0, .int .i64 0, .slice none 0 0, .slice none 0 0] 50) (blk_new w (.cells #[.int .i64 q.client, .int .u64 q.token, .string q.name, .slice a q.args.length c] 29))
  have y0 := blk_new (w.alloc (.cells #[.int .i64 q.client, .int .u64 q.token, .string q.name, .slice a q.args.length c] 29)) (.cells #[.int .i64 0, .int .u64 0, .string ⟨#[]⟩, .slice none 0 0, .int .i64 0, .slice none 0 0, .slice none 0 0] 50)
  simp only [World.size_alloc] at y0
  have q0 := blk_cell x0
  have hch := (check_any _ T _ q (hq.agree requestSh K0.agreeNo) hn).mono (R' := fun e w5 => e = .returned (.int .i64 q.check) ∧ w5.heap[w.heap.size]? = some (.cells #[.int .i64 q.client, .int .u64 q.token, .string q.name, .slice a q.args.length c] 29 (0, 0)) ∧ w5.heap[w.heap.size + 1]? = some (.cells #[.int .i64 0, .int .u64 0, .string ⟨#[]⟩, .slice none 0 0, .int .i64 0, .slice none 0 0, .slice none 0 0] 50 (0, 0)) ∧ RowKit.Hid (Keep No w w5)) (by
    rintro e w5 ⟨rfl, hk⟩
    exact ⟨rfl, hk.blk x0 (fun x => x), hk.blk y0 (fun x => x), K0.trans hk⟩)
  have HX := Lib.hid (And.intro h (And.intro h4 (And.intro ht (And.intro hn (And.intro w1 (And.intro w2 w3))))))
  clear h h4 w1 w2 w3 ht hn hq K0 x0 y0
  by_cases hc : q.check = 0
  · rw [hc] at hch
    have hd : q.args.length ≤ 8 := by
      unfold Req.check at hc
      split at hc
      · cases hc
      · split at hc
        · cases hc
        · split at hc
          · cases hc
          · omega
    have HC := Lib.hid (And.intro hc hd)
    clear hc hd
    have HFI : RowKit.Hid (∀ W, Keep No w W → Calls Tryz.prog 74 #[lv, .string q.name] W (Found W L q.name)) := fun W hW => HX.out.1.find W hW q.name HX.out.2.2.2.1
    cases hf : findP L q.name with
    | none =>
      have hj : judgeL L q most = (plan0, 92) := by unfold judgeL; rw [if_neg (by rw [HC.out.1]; simp), hf]
      rw [hj]
      have HFN : RowKit.Hid (∀ W, Keep No w W → Calls Tryz.prog 74 #[lv, .string q.name] W fun e w6 => ∃ b1 d1 b2 d2 b3 d3 b4 d4 b5 d5, e = .returned (.tuple #[.agg #[.string ⟨#[]⟩, .slice b1 0 d1, .bool false, .slice b2 0 d2, .slice b3 0 d3, .int .i64 0, .slice b4 0 d4, .slice b5 0 d5], .bool false]) ∧ RowKit.Hid (Keep No W w6)) := fun W hW => by
        refine (HFI.out W hW).mono ?_
        rintro e w6 ⟨cs6, rfl, hr6, hk6⟩
        rw [hf] at hr6 ⊢
        obtain ⟨b1, d1, b2, d2, b3, d3, b4, d4, b5, d5, hcs, -⟩ := proc_cells hr6
        obtain rfl : cs6 = #[.string prc0.name, .slice b1 prc0.kinds.length d1, .bool prc0.dep, .slice b2 prc0.reads.length d2, .slice b3 prc0.writes.length d3, .int .i64 prc0.pgm.args, .slice b4 prc0.pgm.consts.length d4, .slice b5 prc0.pgm.code.length d5] := by
          cases cs6; simp at hcs; rw [hcs]
        exact ⟨b1, d1, b2, d2, b3, d3, b4, d4, b5, d5, rfl, hk6⟩
      clear hf hj HFI
      go_enter Tryz.func23, Tryz.ntmps23
      go_wp2_with (first | (go_at_call 45; refine hch.mono ?_; clear hch; rintro e w5 ⟨rfl, X5, R5, HK5⟩; clear q0; have q5 := blk_cell X5) | (go_at_call 74; refine (HFN.out _ HK5.out).mono ?_; rintro e w6 ⟨b1, d1, b2, d2, b3, d3, b4, d4, b5, d5, rfl, HK6⟩; have R9 := blk_alloc (o' :=   .cells #[.string ⟨#[]⟩, .slice b1 0 d1, .bool false, .slice b2 0 d2, .slice b3 0 d3, .int .i64 0, .slice b4 0 d4, .slice b5 0 d5] 130) (HK6.out.blk R5 (fun x => x)); have K9 := (HK5.out.trans HK6.out).alloc (  .cells #[.string ⟨#[]⟩, .slice b1 0 d1, .bool false, .slice b2 0 d2, .slice b3 0 d3, .int .i64 0, .slice b4 0 d4, .slice b5 0 d5] 130); have c9 := blk_cell R9; have z9 := blk_fro R9))
      have y9 := blk_seven R9 (.int .i64 0) (.int .u64 0) (.string ⟨#[]⟩) (.slice none 0 0) (.int .i64 0) (.slice none 0 0) (.slice none 0 0)
      have k9 := keep_seven K9 (b := w.heap.size + 1) (Nat.le_succ _) (.int .i64 0) (.int .u64 0) (.string ⟨#[]⟩) (.slice none 0 0) (.int .i64 0) (.slice none 0 0) (.slice none 0 0)
      have s9 := blk_cell y9
      refine bodyPost_ret (v := .tuple #[.agg #[.int .i64 0, .int .u64 0, .string ⟨#[]⟩, .slice none 0 0, .int .i64 0, .slice none 0 0, .slice none 0 0], .int .i64 92]) (by simp [results, Tryz.results23, go_sem, s9]) rfl ?_

      exact zero_given k9 _
    | some p =>
      have hhome := HX.out.1.home p (findP_mem hf).1
      have HFN : RowKit.Hid (∀ W, Keep No w W → Calls Tryz.prog 74 #[lv, .string q.name] W fun e w6 => ∃ b1 d1 b2 d2 b3 d3 b4 d4 b5 d5, e = .returned (.tuple #[.agg #[.string p.name, .slice b1 p.kinds.length d1, .bool p.dep, .slice b2 p.reads.length d2, .slice b3 p.writes.length d3, .int .i64 p.pgm.args, .slice b4 p.pgm.consts.length d4, .slice b5 p.pgm.code.length d5], .bool true]) ∧ RowKit.Hid (Rd procSh w6 (Fr W.heap.size w6.heap.size) #[.string p.name, .slice b1 p.kinds.length d1, .bool p.dep, .slice b2 p.reads.length d2, .slice b3 p.writes.length d3, .int .i64 p.pgm.args, .slice b4 p.pgm.consts.length d4, .slice b5 p.pgm.code.length d5].toList p ∧ Keep No W w6)) := fun W hW => by
        refine (HFI.out W hW).mono ?_
        rintro e w6 ⟨cs6, rfl, hr6, hk6⟩
        rw [hf] at hr6 ⊢
        obtain ⟨b1, d1, b2, d2, b3, d3, b4, d4, b5, d5, hcs, -⟩ := proc_cells hr6
        simp only [Option.getD_some] at hcs hr6
        obtain rfl : cs6 = #[.string p.name, .slice b1 p.kinds.length d1, .bool p.dep, .slice b2 p.reads.length d2, .slice b3 p.writes.length d3, .int .i64 p.pgm.args, .slice b4 p.pgm.consts.length d4, .slice b5 p.pgm.code.length d5] := by
          cases cs6; simp at hcs; rw [hcs]
        exact ⟨b1, d1, b2, d2, b3, d3, b4, d4, b5, d5, rfl, hr6, hk6⟩
      have HSU : RowKit.Hid (∀ (W W6 W8 : World) b1 d1 b2 d2 b3 d3 b4 d4 b5 d5, Keep No w W6 → Keep No W6 W8 → Rd procSh W6 (Fr W.heap.size W6.heap.size) #[.string p.name, .slice b1 p.kinds.length d1, .bool p.dep, .slice b2 p.reads.length d2, .slice b3 p.writes.length d3, .int .i64 p.pgm.args, .slice b4 p.pgm.consts.length d4, .slice b5 p.pgm.code.length d5].toList p → Calls Tryz.prog 75 #[.agg #[.string p.name, .slice b1 p.kinds.length d1, .bool p.dep, .slice b2 p.reads.length d2, .slice b3 p.writes.length d3, .int .i64 p.pgm.args, .slice b4 p.pgm.consts.length d4, .slice b5 p.pgm.code.length d5], .slice a q.args.length c] W8 fun e w7 => e = .returned (.int .i64 (if suitsB p.kinds q.args then 0 else 82)) ∧ RowKit.Hid (Keep No W8 w7)) := fun W W6 W8 b1 d1 b2 d2 b3 d3 b4 d4 b5 d5 h6 h8 hr => by
        obtain ⟨e1, f1, e2, f2, e3, f3, e4, f4, e5, f5, hcs, r1, -⟩ := proc_cells hr
        simp only [Array.toList, List.cons.injEq, Value.slice.injEq, and_true, true_and] at hcs
        obtain ⟨⟨rfl, rfl⟩, -⟩ := hcs
        exact suits_any W8 _ T _ _ _ _ _ _ _ ⟨rfl, rfl, rfl, rfl, rfl, rfl, rfl⟩ _ a _ c p.kinds q.args (r1.agree _ h8.agreeNo) (HX.out.2.1.agree _ (h6.trans h8).agreeNo)
      have HF := Lib.hid (And.intro hhome hf)
      clear HFI
      cases hs : suitsB p.kinds q.args with
      | false =>
        have hj : judgeL L q most = (plan0, 82) := by unfold judgeL; rw [if_neg (by rw [HC.out.1]; simp), hf]; simp only; rw [if_pos hs]
        rw [hj]
        rw [hs] at HSU
        simp only [Bool.false_eq_true, if_false] at HSU
        clear hj hf hhome hs
        go_enter Tryz.func23, Tryz.ntmps23
        go_wp2_with (first | (go_at_call 45; refine hch.mono ?_; clear hch; rintro e w5 ⟨rfl, X5, R5, HK5⟩; clear q0; have q5 := blk_cell X5) | (go_at_call 74; refine (HFN.out _ HK5.out).mono ?_; rintro e w6 ⟨b1, d1, b2, d2, b3, d3, b4, d4, b5, d5, rfl, H6⟩; have X6 := H6.out.2.blk X5 (fun x => x); have R6 := H6.out.2.blk R5 (fun x => x); have q6 := blk_cell X6; have q6a := blk_cell (blk_alloc (o' := .cells #[.string p.name, .slice b1 p.kinds.length d1, .bool p.dep, .slice b2 p.reads.length d2, .slice b3 p.writes.length d3, .int .i64 p.pgm.args, .slice b4 p.pgm.consts.length d4, .slice b5 p.pgm.code.length d5] 130) X6)) | (go_at_call 75; refine (HSU.out w5 w6 _ b1 d1 b2 d2 b3 d3 b4 d4 b5 d5 (HK5.out.trans H6.out.2) ((Keep.refl No w6).alloc _) H6.out.1).mono ?_; rintro e w7 ⟨rfl, HK7⟩; have R9 := HK7.out.blk (blk_alloc (o' := .cells #[.string p.name, .slice b1 p.kinds.length d1, .bool p.dep, .slice b2 p.reads.length d2, .slice b3 p.writes.length d3, .int .i64 p.pgm.args, .slice b4 p.pgm.consts.length d4, .slice b5 p.pgm.code.length d5] 130) R6) (fun x => x); have K9 := ((HK5.out.trans H6.out.2).alloc (.cells #[.string p.name, .slice b1 p.kinds.length d1, .bool p.dep, .slice b2 p.reads.length d2, .slice b3 p.writes.length d3, .int .i64 p.pgm.args, .slice b4 p.pgm.consts.length d4, .slice b5 p.pgm.code.length d5] 130)).trans HK7.out; have c9 := blk_cell R9; have z9 := blk_fro R9))
        have y9 := blk_seven R9 (.int .i64 0) (.int .u64 0) (.string ⟨#[]⟩) (.slice none 0 0) (.int .i64 0) (.slice none 0 0) (.slice none 0 0)
        have k9 := keep_seven K9 (b := w.heap.size + 1) (Nat.le_succ _) (.int .i64 0) (.int .u64 0) (.string ⟨#[]⟩) (.slice none 0 0) (.int .i64 0) (.slice none 0 0) (.slice none 0 0)
        have s9 := blk_cell y9
        refine bodyPost_ret (v := .tuple #[.agg #[.int .i64 0, .int .u64 0, .string ⟨#[]⟩, .slice none 0 0, .int .i64 0, .slice none 0 0, .slice none 0 0], .int .i64 82]) (by simp [results, Tryz.results23, go_sem, s9]) rfl ?_
        exact zero_given k9 _
      | true =>
        rw [hs] at HSU
        simp only [if_true] at HSU
        have hj0 : judgeL L q most = if p.dep then (mkPlan q 0 (mkFp [] []), 0) else if (p.foot q.args).2 ≠ 0 then (plan0, (p.foot q.args).2) else if most < (setT ((p.foot q.args).1.rs ++ (p.foot q.args).1.ws)).length then (plan0, 93) else (mkPlan q 1 (p.foot q.args).1, 0) := by
          conv => lhs; unfold judgeL
          rw [if_neg (by rw [HC.out.1]; simp), hf]
          simp only
          rw [if_neg (by rw [hs]; simp)]
        obtain ⟨res, hres⟩ : ∃ res, res = judgeL L q most := ⟨_, rfl⟩
        rw [← hres]
        have HRES := Lib.hid (hres.trans hj0)
        clear hres
        have HS := Lib.hid hs
        have HCL : RowKit.Hid (∀ W, Keep No w W → Calls Tryz.prog 76 #[.slice a q.args.length c] W (Cloned valueSh 96 W q.args)) := fun W hW => clone_values W T _ q.args (HX.out.2.1.agree _ hW.agreeNo) (by have := HC.out.2; omega)
        clear hj0 hf hhome hs
        go_enter Tryz.func23, Tryz.ntmps23
        go_upto_region 11 with (first | (go_at_call 45; refine hch.mono ?_; clear hch; rintro e w5 ⟨rfl, X5, R5, HK5⟩; clear q0; have q5 := blk_cell X5) | (go_at_call 74; refine (HFN.out _ HK5.out).mono ?_; rintro e w6 ⟨b1, d1, b2, d2, b3, d3, b4, d4, b5, d5, rfl, H6⟩; have X6 := H6.out.2.blk X5 (fun x => x); have R6 := H6.out.2.blk R5 (fun x => x); have q6 := blk_cell X6; have q6a := blk_cell (blk_alloc (o' := .cells #[.string p.name, .slice b1 p.kinds.length d1, .bool p.dep, .slice b2 p.reads.length d2, .slice b3 p.writes.length d3, .int .i64 p.pgm.args, .slice b4 p.pgm.consts.length d4, .slice b5 p.pgm.code.length d5] 130) X6)) | (go_at_call 75; refine (HSU.out w5 w6 _ b1 d1 b2 d2 b3 d3 b4 d4 b5 d5 (HK5.out.trans H6.out.2) ((Keep.refl No w6).alloc _) H6.out.1).mono ?_; rintro e w7 ⟨rfl, HK7⟩; have K6 := (HK5.out.trans H6.out.2).alloc (.cells #[.string p.name, .slice b1 p.kinds.length d1, .bool p.dep, .slice b2 p.reads.length d2, .slice b3 p.writes.length d3, .int .i64 p.pgm.args, .slice b4 p.pgm.consts.length d4, .slice b5 p.pgm.code.length d5] 130); have HK7' := Lib.hid (K6.trans HK7.out); have X7 := HK7.out.blk (blk_alloc (o' := .cells #[.string p.name, .slice b1 p.kinds.length d1, .bool p.dep, .slice b2 p.reads.length d2, .slice b3 p.writes.length d3, .int .i64 p.pgm.args, .slice b4 p.pgm.consts.length d4, .slice b5 p.pgm.code.length d5] 130) X6) (fun x => x); have R7 := HK7.out.blk (blk_alloc (o' := .cells #[.string p.name, .slice b1 p.kinds.length d1, .bool p.dep, .slice b2 p.reads.length d2, .slice b3 p.writes.length d3, .int .i64 p.pgm.args, .slice b4 p.pgm.consts.length d4, .slice b5 p.pgm.code.length d5] 130) R6) (fun x => x); have P7 := HK7.out.blk (blk_new w6 (.cells #[.string p.name, .slice b1 p.kinds.length d1, .bool p.dep, .slice b2 p.reads.length d2, .slice b3 p.writes.length d3, .int .i64 p.pgm.args, .slice b4 p.pgm.consts.length d4, .slice b5 p.pgm.code.length d5] 130)) (fun x => x); have q7 := blk_cell X7; clear q6 q6a K6) | (go_at_call 76; refine (HCL.out _ HK7'.out).mono ?_; rintro e w8 ⟨a8, c8, rfl, o8, k8⟩; have X8 := k8.blk X7 (fun x => x); have q8 := blk_cell X8; have z8 := blk_fro X8; have H8 := Lib.hid (And.intro o8 k8); clear o8 k8 q7))
        have hlt5 : w.heap.size + 1 < w5.heap.size := blk_lt R5
        have hs56 := H6.out.2.size
        have K67 := ((Keep.refl No w6).alloc (.cells #[.string p.name, .slice b1 p.kinds.length d1, .bool p.dep, .slice b2 p.reads.length d2, .slice b3 p.writes.length d3, .int .i64 p.pgm.args, .slice b4 p.pgm.consts.length d4, .slice b5 p.pgm.code.length d5] 130)).trans HK7.out
        have hs67 := K67.size
        have hs78 := H8.out.2.size
        have X9 := blk_set X8 3 (.slice a8 q.args.length c8)
        have R8 := blk_other (a := ⟨w.heap.size, 3, none⟩) (H8.out.2.blk R7 (fun x => x)) (by show w.heap.size ≠ w.heap.size + 1; omega) (.slice a8 q.args.length c8)
        have P8 := blk_other (a := ⟨w.heap.size, 3, none⟩) (H8.out.2.blk P7 (fun x => x)) (by show w.heap.size ≠ w6.heap.size; omega) (.slice a8 q.args.length c8)
        have K9 := (HK7'.out.trans H8.out.2).setNew (p := ⟨w.heap.size, 3, none⟩) (Nat.le_refl _) (.slice a8 q.args.length c8)
        have O8 : Rd (.slice valueSh) (w8.setCell ⟨w.heap.size, 3, none⟩ (.slice a8 q.args.length c8)) (Fr w5.heap.size w8.heap.size) [.slice a8 q.args.length c8] q.args := ((H8.out.1.rd.mono (.slice valueSh) fun k _ hk => ⟨by have := hk.1; omega, hk.2⟩).agree (.slice valueSh) (agree_set (fun hh => by have := hh.1; omega) 3 _))
        have RP : Rd procSh (w8.setCell ⟨w.heap.size, 3, none⟩ (.slice a8 q.args.length c8)) (Fr w5.heap.size w6.heap.size) #[.string p.name, .slice b1 p.kinds.length d1, .bool p.dep, .slice b2 p.reads.length d2, .slice b3 p.writes.length d3, .int .i64 p.pgm.args, .slice b4 p.pgm.consts.length d4, .slice b5 p.pgm.code.length d5].toList p := (H6.out.1.agree procSh (K67.trans H8.out.2).agreeNo).agree procSh (agree_set (fun hh => by have := hh.1; omega) 3 _)
        simp at X9
        have hs9 : (w8.setCell ⟨w.heap.size, 3, none⟩ (.slice a8 q.args.length c8)).heap.size = w8.heap.size := by simp
        have h58 : w5.heap.size ≤ w8.heap.size := by omega
        have H9 := Lib.hid (And.intro X9 (And.intro R8 (And.intro P8 (And.intro K9 (And.intro O8 (And.intro RP (And.intro hlt5 (And.intro h58 hs9))))))))
        have p9 := blk_cell P8
        have x9 := blk_cell X9
        clear hlt5 hs56 K67 hs67 hs78 X9 R8 P8 K9 O8 RP hs9 h58 X8 R7 P7 X7 X6 R6 X5 R5 q8 z8 H8 H6 HK7 HK7' HK5 HCL HSU HFN
        generalize w8.setCell ⟨w.heap.size, 3, none⟩ (.slice a8 q.args.length c8) = w9 at *
        cases hdep : p.dep with
        | true =>
          have hre : res = (mkPlan q 0 (mkFp [] []), 0) := by rw [HRES.out, hdep, if_pos rfl]
          rw [hdep] at p9
          have HRE := Lib.hid hre
          clear hre HRES
          have R9 := H9.out.2.1
          have r9 := blk_cell R9
          have z9 := blk_fro R9
          have K9 := H9.out.2.2.2.1
          clear hdep
          go_wp2_with fail
          have O9 : Rd (.slice valueSh) _ (Fr w.heap.size w9.heap.size) [.slice a8 q.args.length c8] q.args := (H9.out.2.2.2.2.1.agree (.slice valueSh) (agree_seven (b := w.heap.size + 1) (fun hh => by have := hh.1; have := H9.out.2.2.2.2.2.2.1; omega) (.int .i64 q.client) (.int .u64 q.token) (.string q.name) (.slice a8 q.args.length c8) (.int .i64 0) (.slice none 0 0) (.slice none 0 0))).mono (.slice valueSh) fun k _ hk => ⟨by have := hk.1; have := H9.out.2.2.2.2.2.2.1; omega, by have := hk.2; have := H9.out.2.2.2.2.2.2.2.2; omega⟩
          have y9 := blk_seven R9 (.int .i64 q.client) (.int .u64 q.token) (.string q.name) (.slice a8 q.args.length c8) (.int .i64 0) (.slice none 0 0) (.slice none 0 0)
          have k9 := keep_seven K9 (b := w.heap.size + 1) (Nat.le_succ _) (.int .i64 q.client) (.int .u64 q.token) (.string q.name) (.slice a8 q.args.length c8) (.int .i64 0) (.slice none 0 0) (.slice none 0 0)
          have s9 := blk_cell y9
          refine bodyPost_ret (v := .tuple #[.agg #[.int .i64 q.client, .int .u64 q.token, .string q.name, .slice a8 q.args.length c8, .int .i64 0, .slice none 0 0, .slice none 0 0], .int .i64 0]) (by simp [results, Tryz.results23, go_sem, s9]) rfl ?_
          have hz : ∀ s : Sh, ∀ W S', Rd (.slice s) W S' [.slice none 0 0] [] := fun s W S' => ⟨none, 0, rfl, Nat.le_refl _, by rw [maxLen_is]; omega, fun _ => ⟨rfl, rfl⟩, fun i hi => absurd hi (by simp)⟩
          rw [HRE.out]
          refine ⟨_, rfl, plan_mk (mkPlan q 0 (mkFp [] [])) ?_ (hz _ _ _) (hz _ _ _) HX.out.2.2.2.2.1 HX.out.2.2.2.2.2.1 HX.out.2.2.2.2.2.2 (show (Lit.int .i64 0).wf = true by decide), k9⟩
          show Rd (.slice valueSh) _ _ _ q.args
          simpa using O9
        | false =>
          have hre : res = if (p.foot q.args).2 ≠ 0 then (plan0, (p.foot q.args).2) else if most < (setT ((p.foot q.args).1.rs ++ (p.foot q.args).1.ws)).length then (plan0, 93) else (mkPlan q 1 (p.foot q.args).1, 0) := by rw [HRES.out, hdep, if_neg (by simp)]
          rw [hdep] at p9
          clear HRES
          have hft := (libFoot_any w9 _ _ _ p H9.out.2.2.2.2.2.1 HF.out.1 hdep q.args a8 c8 H9.out.2.2.2.2.1 HS.out (HX.out.2.2.1.keep H9.out.2.2.2.1)).mono (R' := fun e w10 => ∃ f1 n1 g1 f2 n2 g2 qe, e = .returned (.tuple #[.agg #[.slice f1 n1 g1, .slice f2 n2 g2], .int .i64 qe]) ∧ w10.heap[w.heap.size]? = some (.cells #[.int .i64 q.client, .int .u64 q.token, .string q.name, .slice a8 q.args.length c8] 29 (0, 0)) ∧ w10.heap[w.heap.size + 1]? = some (.cells #[.int .i64 0, .int .u64 0, .string ⟨#[]⟩, .slice none 0 0, .int .i64 0, .slice none 0 0, .slice none 0 0] 50 (0, 0)) ∧ RowKit.Hid (qe = (p.foot q.args).2 ∧ OwnF w9 w10 (.slice f1 n1 g1) (.slice f2 n2 g2) (p.foot q.args).1 ∧ Keep No w w10 ∧ Keep No w9 w10)) (by
            rintro e w10 ⟨f1, n1, g1, f2, n2, g2, rfl, ho, hk⟩
            exact ⟨f1, n1, g1, f2, n2, g2, _, rfl, hk.blk H9.out.1 (fun x => x), hk.blk H9.out.2.1 (fun x => x), rfl, ho, H9.out.2.2.2.1.trans hk, hk⟩)
          have hfl := foot_len p q.args HF.out.1.ok.nr HF.out.1.ok.nw
          simp only [hdep] at hft
          have HFL := Lib.hid hfl
          clear hfl hdep
          by_cases he : (p.foot q.args).2 = 0
          · rw [if_neg (fun hh => hh he)] at hre
            have HE := Lib.hid he
            clear he
            by_cases hm : most < (setT ((p.foot q.args).1.rs ++ (p.foot q.args).1.ws)).length
            · rw [if_pos hm] at hre
              have HRE := Lib.hid hre
              clear hre
              have hm' : most < ((setT ((p.foot q.args).1.rs ++ (p.foot q.args).1.ws)).length : Int) := hm
              obtain ⟨nf, hnf⟩ : ∃ nf, nf = (setT ((p.foot q.args).1.rs ++ (p.foot q.args).1.ws)).length := ⟨_, rfl⟩
              rw [← hnf] at hm'
              have HNF := Lib.hid hnf
              clear hm hnf
              go_wp2_with (first | (go_at_call 77; refine hft.mono ?_; clear hft; rintro e w10 ⟨f1, n1, g1, f2, n2, g2, qe, rfl, X10, R10, H10⟩; obtain rfl : qe = 0 := by rw [H10.out.1, HE.out]) | (go_at_call 78; refine (footSize_any _ (Fr w9.heap.size w10.heap.size) _ _ _ (H10.out.2.1.at'.keep ((Keep.refl No w10).alloc _)) (by have := HFL.out; omega)).mono ?_; rintro e w11 ⟨rfl, hk11⟩; rw [← HNF.out]; have R9 := hk11.blk (blk_alloc (o' := .cells #[.slice f1 n1 g1, .slice f2 n2 g2] 48) R10) (fun x => x); have K9 := (H10.out.2.2.1.alloc (.cells #[.slice f1 n1 g1, .slice f2 n2 g2] 48)).trans hk11; have c9 := blk_cell R9; have z9 := blk_fro R9; clear hk11))
              have y9 := blk_seven R9 (.int .i64 0) (.int .u64 0) (.string ⟨#[]⟩) (.slice none 0 0) (.int .i64 0) (.slice none 0 0) (.slice none 0 0)
              have k9 := keep_seven K9 (b := w.heap.size + 1) (Nat.le_succ _) (.int .i64 0) (.int .u64 0) (.string ⟨#[]⟩) (.slice none 0 0) (.int .i64 0) (.slice none 0 0) (.slice none 0 0)
              have s9 := blk_cell y9
              refine bodyPost_ret (v := .tuple #[.agg #[.int .i64 0, .int .u64 0, .string ⟨#[]⟩, .slice none 0 0, .int .i64 0, .slice none 0 0, .slice none 0 0], .int .i64 93]) (by simp [results, Tryz.results23, go_sem, s9]) rfl ?_
              rw [HRE.out]
              exact zero_given k9 _
            · rw [if_neg hm] at hre
              have HRE := Lib.hid hre
              clear hre
              have hm' : ¬ most < ((setT ((p.foot q.args).1.rs ++ (p.foot q.args).1.ws)).length : Int) := hm
              obtain ⟨nf, hnf⟩ : ∃ nf, nf = (setT ((p.foot q.args).1.rs ++ (p.foot q.args).1.ws)).length := ⟨_, rfl⟩
              rw [← hnf] at hm'
              have HNF := Lib.hid hnf
              clear hm hnf
              go_wp2_with (first | (go_at_call 77; refine hft.mono ?_; clear hft; rintro e w10 ⟨f1, n1, g1, f2, n2, g2, qe, rfl, X10, R10, H10⟩; obtain rfl : qe = 0 := by rw [H10.out.1, HE.out]) | (go_at_call 78; refine (footSize_any _ (Fr w9.heap.size w10.heap.size) _ _ _ (H10.out.2.1.at'.keep ((Keep.refl No w10).alloc _)) (by have := HFL.out; omega)).mono ?_; rintro e w11 ⟨rfl, hk11⟩; rw [← HNF.out]; have R9 := hk11.blk (blk_alloc (o' := .cells #[.slice f1 n1 g1, .slice f2 n2 g2] 48) R10) (fun x => x); have X11 := hk11.blk (blk_alloc (o' := .cells #[.slice f1 n1 g1, .slice f2 n2 g2] 48) X10) (fun x => x); have Q11 := hk11.blk (blk_new w10 (.cells #[.slice f1 n1 g1, .slice f2 n2 g2] 48)) (fun x => x); have K9 := (H10.out.2.2.1.alloc (.cells #[.slice f1 n1 g1, .slice f2 n2 g2] 48)).trans hk11; have K11 := Lib.hid (((Keep.refl No w10).alloc (.cells #[.slice f1 n1 g1, .slice f2 n2 g2] 48)).trans hk11); have c9 := blk_cell R9; have z9 := blk_fro R9; have cx := blk_cell X11; have cq := blk_cell Q11; clear hk11))
              have y9 := blk_seven R9 (.int .i64 q.client) (.int .u64 q.token) (.string q.name) (.slice a8 q.args.length c8) (.int .i64 1) (.slice f1 n1 g1) (.slice f2 n2 g2)
              have k9 := keep_seven K9 (b := w.heap.size + 1) (Nat.le_succ _) (.int .i64 q.client) (.int .u64 q.token) (.string q.name) (.slice a8 q.args.length c8) (.int .i64 1) (.slice f1 n1 g1) (.slice f2 n2 g2)
              have s9 := blk_cell y9
              refine bodyPost_ret (v := .tuple #[.agg #[.int .i64 q.client, .int .u64 q.token, .string q.name, .slice a8 q.args.length c8, .int .i64 1, .slice f1 n1 g1, .slice f2 n2 g2], .int .i64 0]) (by simp [results, Tryz.results23, go_sem, s9]) rfl ?_
              have hs9 := H10.out.2.2.2.size
              have hs11 := K11.out.size
              have hlift : ∀ (sh : Sh) (lo : Nat) (y : Value) (l : List sh.T), w.heap.size + 1 < lo → Rd (.slice sh) w11 (Fr lo w11.heap.size) [y] l → Rd (.slice sh) (((((((w11.setCell ⟨w.heap.size + 1, 0, none⟩ (.int .i64 q.client)).setCell ⟨w.heap.size + 1, 1, none⟩ (.int .u64 q.token)).setCell ⟨w.heap.size + 1, 2, none⟩ (.string q.name)).setCell ⟨w.heap.size + 1, 3, none⟩ (.slice a8 q.args.length c8)).setCell ⟨w.heap.size + 1, 4, none⟩ (.int .i64 1)).setCell ⟨w.heap.size + 1, 5, none⟩ (.slice f1 n1 g1)).setCell ⟨w.heap.size + 1, 6, none⟩ (.slice f2 n2 g2)) (Fr w.heap.size w11.heap.size) [y] l := fun sh lo y l hlo hr =>
                (hr.agree (.slice sh) (agree_seven (b := w.heap.size + 1) (fun hh => by have := hh.1; omega) (.int .i64 q.client) (.int .u64 q.token) (.string q.name) (.slice a8 q.args.length c8) (.int .i64 1) (.slice f1 n1 g1) (.slice f2 n2 g2))).mono (.slice sh) fun k _ hk => ⟨by have := hk.1; omega, hk.2⟩
              have h59 := H9.out.2.2.2.2.2.2.2.1
              have hw5 := H9.out.2.2.2.2.2.2.1
              have hw9 := H9.out.2.2.2.2.2.2.2.2
              have O1 := hlift valueSh w5.heap.size _ _ hw5 ((((H9.out.2.2.2.2.1.agree (.slice valueSh) H10.out.2.2.2.agreeNo).agree (.slice valueSh) K11.out.agreeNo)).mono (.slice valueSh) fun k _ hk => ⟨hk.1, by have := hk.2; omega⟩)
              have O2 := hlift .str w9.heap.size _ _ (by omega) ((H10.out.2.1.1.1.rd.agree (.slice .str) K11.out.agreeNo).mono (.slice .str) fun k _ hk => ⟨hk.1, by have := hk.2; omega⟩)
              have O3 := hlift .str w9.heap.size _ _ (by omega) ((H10.out.2.1.2.1.rd.agree (.slice .str) K11.out.agreeNo).mono (.slice .str) fun k _ hk => ⟨hk.1, by have := hk.2; omega⟩)
              rw [HRE.out]
              refine ⟨_, rfl, plan_mk (mkPlan q 1 (p.foot q.args).1) ?_ ?_ ?_ HX.out.2.2.2.2.1 HX.out.2.2.2.2.2.1 HX.out.2.2.2.2.2.2 (show (Lit.int .i64 1).wf = true by decide), k9⟩
              · show Rd (.slice valueSh) _ _ _ q.args
                simpa using O1
              · show Rd (.slice .str) _ _ _ (p.foot q.args).1.rs
                simpa using O2
              · show Rd (.slice .str) _ _ _ (p.foot q.args).1.ws
                simpa using O3
          · rw [if_pos he] at hre
            have HRE := Lib.hid hre
            clear hre
            have HE := Lib.hid he
            obtain ⟨ee, hee⟩ : ∃ ee, ee = (p.foot q.args).2 := ⟨_, rfl⟩
            rw [← hee] at he
            have HEE := Lib.hid hee
            have he' : (ee == 0) = false := by simpa using he
            have he2 : (ee != 0) = true := by simpa using he
            clear he hee
            go_wp2_with (go_at_call 77; refine hft.mono ?_; clear hft; rintro e w10 ⟨f1, n1, g1, f2, n2, g2, qe, rfl, X10, R10, H10⟩; obtain rfl : qe = ee := H10.out.1.trans HEE.out.symm; have R9 := blk_alloc (o' := .cells #[.slice f1 n1 g1, .slice f2 n2 g2] 48) R10; have K9 := H10.out.2.2.1.alloc (.cells #[.slice f1 n1 g1, .slice f2 n2 g2] 48); have c9 := blk_cell R9; have z9 := blk_fro R9)
            have y9 := blk_seven R9 (.int .i64 0) (.int .u64 0) (.string ⟨#[]⟩) (.slice none 0 0) (.int .i64 0) (.slice none 0 0) (.slice none 0 0)
            have k9 := keep_seven K9 (b := w.heap.size + 1) (Nat.le_succ _) (.int .i64 0) (.int .u64 0) (.string ⟨#[]⟩) (.slice none 0 0) (.int .i64 0) (.slice none 0 0) (.slice none 0 0)
            have s9 := blk_cell y9
            refine bodyPost_ret (v := .tuple #[.agg #[.int .i64 0, .int .u64 0, .string ⟨#[]⟩, .slice none 0 0, .int .i64 0, .slice none 0 0, .slice none 0 0], .int .i64 qe]) (by simp [results, Tryz.results23, go_sem, s9]) rfl ?_
            rw [HRE.out, ← HEE.out]
            exact zero_given k9 _
  · have hj : judgeL L q most = (plan0, q.check) := by unfold judgeL; rw [if_pos hc]
    rw [hj]
    have hc' : (q.check != 0) = true := by simpa using hc
    clear hj hc
    generalize q.check = ec at *
    go_enter Tryz.func23, Tryz.ntmps23
    go_wp2_with (go_at_call 45; refine hch.mono ?_; clear hch; rintro e w5 ⟨rfl, X5, R9, HK5⟩; have c9 := blk_cell R9; have z9 := blk_fro R9; have K9 := HK5.out)
    have y9 := blk_seven R9 (.int .i64 0) (.int .u64 0) (.string ⟨#[]⟩) (.slice none 0 0) (.int .i64 0) (.slice none 0 0) (.slice none 0 0)
    have k9 := keep_seven K9 (b := w.heap.size + 1) (Nat.le_succ _) (.int .i64 0) (.int .u64 0) (.string ⟨#[]⟩) (.slice none 0 0) (.int .i64 0) (.slice none 0 0) (.slice none 0 0)
    have s9 := blk_cell y9
    refine bodyPost_ret (v := .tuple #[.agg #[.int .i64 0, .int .u64 0, .string ⟨#[]⟩, .slice none 0 0, .int .i64 0, .slice none 0 0, .slice none 0 0], .int .i64 ec]) (by simp [results, Tryz.results23, go_sem, s9]) rfl ?_

    exact zero_given k9 _
theorem judge_any (w : World) (S T : Nat → Prop) (B m : Nat) (L : List Prc) (h : LibAt w S B m L) (cs : List Value) (q : Req) (hq : Rd requestSh w T cs q) (hn : q.name.size ≤ 9223372036854775806) (most : Int) (ht : Tab w) :
    Calls Tryz.prog 23 #[.pointer (some ⟨B, 0, none⟩), .agg cs.toArray, .int .i64 most] w (GivesPl w (judgeL L q most)) := judge_gen w T _ L h.finds cs q hq hn most ht
end Go.Proofs.YtpjcebajkfeacaaGreatDoor
namespace Go.Proofs.YtpjcebajkfeacaaGreatDoor
open Go Go.RowKit Go.Deep
set_option maxRecDepth 10000 in
set_option maxHeartbeats 2000000 in
theorem accept_any (w : World) (S T : Nat → Prop) (B m : Nat) (L : List Prc) (h : LibAt w S B m L) (v : Value) (b : Bytes) (hb : Rd bytesSh w T [v] b) (hw : (Lit.int .i64 (reqGet b).1.client).wf = true ∧ (Lit.int .u64 (reqGet b).1.token).wf = true ∧ (reqGet b).1.name.size ≤ 9223372036854775806) (most : Int) (ht : Tab w) :
    Calls Tryz.prog 25 #[.pointer (some ⟨B, 0, none⟩), v, .int .i64 most] w (GivesPl w (if (reqGet b).2.1 ≠ 0 then (plan0, (reqGet b).2.1) else judgeL L (reqGet b).1 most)) := by
  obtain ⟨res, hres⟩ : ∃ res, res = (if (reqGet b).2.1 ≠ 0 then (plan0, (reqGet b).2.1) else judgeL L (reqGet b).1 most) := ⟨_, rfl⟩
  rw [← hres]
  have iv : v.oneCell' = true := by obtain ⟨a, c, e, -⟩ := Rd.sliceForm hb; simp at e; subst e; rfl
  have K0 := (Keep.refl No w).alloc (.cells #[.int .i64 0, .int .u64 0, .string ⟨#[]⟩, .slice none 0 0, .int .i64 0, .slice none 0 0, .slice none 0 0] 50)
  have y0 := blk_new w (.cells #[.int .i64 0, .int .u64 0, .string ⟨#[]⟩, .slice none 0 0, .int .i64 0, .slice none 0 0, .slice none 0 0] 50)
  have hg := (rqGet_any _ T v b (hb.agree _ K0.agreeNo)).mono (R' := fun e w3 => ∃ a n c, e = .returned (.tuple #[.agg #[.int .i64 (reqGet b).1.client, .int .u64 (reqGet b).1.token, .string (reqGet b).1.name, .slice a n c], .int .i64 (reqGet b).2.1, .int .i64 (reqGet b).2.2]) ∧ w3.heap[w.heap.size]? = some (.cells #[.int .i64 0, .int .u64 0, .string ⟨#[]⟩, .slice none 0 0, .int .i64 0, .slice none 0 0, .slice none 0 0] 50 (0, 0)) ∧ RowKit.Hid (Own valueSh 96 w3 (Fr (w.alloc (.cells #[.int .i64 0, .int .u64 0, .string ⟨#[]⟩, .slice none 0 0, .int .i64 0, .slice none 0 0, .slice none 0 0] 50)).heap.size w3.heap.size) (.slice a n c) (reqGet b).1.args ∧ Keep No w w3)) (by
    rintro e w3 ⟨a, n, c, rfl, ho, hk⟩
    exact ⟨a, n, c, rfl, hk.blk y0 (fun x => x), ho, K0.trans hk⟩)
  have HX := Lib.hid (And.intro h (And.intro ht (And.intro hw hres)))
  clear h ht hb K0 y0 hw
  generalize hrg : (reqGet b).2.2 = at' at *
  clear hrg
  by_cases he : (reqGet b).2.1 = 0
  · rw [if_neg (fun hh => hh he)] at hres
    rw [he] at hg
    have HJ : RowKit.Hid (∀ W3 W a n c, Keep No w W3 → Keep No W3 W → Own valueSh 96 W3 (Fr (w.alloc (.cells #[.int .i64 0, .int .u64 0, .string ⟨#[]⟩, .slice none 0 0, .int .i64 0, .slice none 0 0, .slice none 0 0] 50)).heap.size W3.heap.size) (.slice a n c) (reqGet b).1.args → Calls Tryz.prog 23 #[.pointer (some ⟨B, 0, none⟩), .agg #[.int .i64 (reqGet b).1.client, .int .u64 (reqGet b).1.token, .string (reqGet b).1.name, .slice a n c], .int .i64 most] W (GivesPl W res)) := fun W3 W a n c h3 h4 ho => by
      rw [hres]
      obtain ⟨a', c', ef, -⟩ := ho.form
      have hrd : Rd requestSh W (Fr (w.alloc (.cells #[.int .i64 0, .int .u64 0, .string ⟨#[]⟩, .slice none 0 0, .int .i64 0, .slice none 0 0, .slice none 0 0] 50)).heap.size W3.heap.size) [.int .i64 (reqGet b).1.client, .int .u64 (reqGet b).1.token, .string (reqGet b).1.name, .slice a n c] (reqGet b).1 :=
        ⟨[.int .i64 (reqGet b).1.client], _, rfl, ⟨rfl, HX.out.2.2.1.1⟩, [.int .u64 (reqGet b).1.token], _, rfl, ⟨rfl, HX.out.2.2.1.2.1⟩, [.string (reqGet b).1.name], _, rfl, ⟨rfl, by rw [maxLen_is]; exact Nat.le_succ_of_le HX.out.2.2.1.2.2⟩, [.slice a n c], _, rfl, (ho.agree h4.agreeNo).rd, rfl⟩
      exact judge_any W S _ B m L (HX.out.1.keep (h3.trans h4) (fun _ _ x => x)) _ (reqGet b).1 hrd HX.out.2.2.1.2.2 most (HX.out.2.1.keep (h3.trans h4))
    clear hres he
    generalize (reqGet b).1.client = qc at *
    generalize (reqGet b).1.token = qt at *
    generalize (reqGet b).1.name = qn at *
    go_enter Tryz.func25, Tryz.ntmps25
    go_wp2_with (go_at_call 18; refine hg.mono ?_; clear hg; rintro e w3 ⟨a, n, c, rfl, y3, H3⟩)
    refine (HJ.out w3 _ a n c H3.out.2 ((Keep.refl No w3).alloc (.cells #[.int .i64 qc, .int .u64 qt, .string qn, .slice a n c] 29)) H3.out.1).mono ?_
    rintro e w4 ⟨cs, rfl, hr4, hk4⟩
    generalize hpp : res.1 = p at *
    have HPP := Lib.hid hpp
    clear hpp
    obtain ⟨x1, z1, x2, z2, x3, z3, hcs, -⟩ := plan_cells hr4
    obtain rfl : cs = #[.int .i64 p.client, .int .u64 p.token, .string p.name, .slice x1 p.args.length z1, .int .i64 p.how, .slice x2 p.reads.length z2, .slice x3 p.writes.length z3] := by cases cs; simp at hcs; rw [hcs]
    have R9 := hk4.blk (blk_alloc (o' := .cells #[.int .i64 qc, .int .u64 qt, .string qn, .slice a n c] 29) y3) (fun x => x)
    have K9 := (H3.out.2.alloc (.cells #[.int .i64 qc, .int .u64 qt, .string qn, .slice a n c] 29)).trans hk4
    have c9 := blk_cell R9
    have z9 := blk_fro R9
    have HR4 := Lib.hid (And.intro hr4 (And.intro hk4.size (And.intro H3.out.2.size (blk_lt y3))))
    clear hr4 hk4 hcs y3 HX
    go_wp2_with fail
    have y9 := blk_seven R9 (.int .i64 p.client) (.int .u64 p.token) (.string p.name) (.slice x1 p.args.length z1) (.int .i64 p.how) (.slice x2 p.reads.length z2) (.slice x3 p.writes.length z3)
    have k9 := keep_seven K9 (b := w.heap.size) (Nat.le_refl _) (.int .i64 p.client) (.int .u64 p.token) (.string p.name) (.slice x1 p.args.length z1) (.int .i64 p.how) (.slice x2 p.reads.length z2) (.slice x3 p.writes.length z3)
    have s9 := blk_cell y9
    refine bodyPost_ret (v := .tuple #[.agg #[.int .i64 p.client, .int .u64 p.token, .string p.name, .slice x1 p.args.length z1, .int .i64 p.how, .slice x2 p.reads.length z2, .slice x3 p.writes.length z3], .int .i64 res.2]) (by simp [results, Tryz.results25, go_sem, s9]) rfl ?_
    obtain ⟨h1, h2, h3, h4⟩ := HR4.out
    simp only [World.size_alloc] at h1 h2
    have O9 := (h1.agree planSh (agree_seven (b := w.heap.size) (fun hh => by have := hh.1; omega) (.int .i64 p.client) (.int .u64 p.token) (.string p.name) (.slice x1 p.args.length z1) (.int .i64 p.how) (.slice x2 p.reads.length z2) (.slice x3 p.writes.length z3))).mono planSh (T := Fr w.heap.size w4.heap.size) fun k _ hk => ⟨by have := hk.1; omega, hk.2⟩
    refine ⟨_, rfl, ?_, k9⟩
    rw [HPP.out]
    simpa using O9
  · rw [if_pos he] at hres
    have he' : ((reqGet b).2.1 != 0) = true := by simpa using he
    have HRES := Lib.hid hres
    clear hres he
    generalize (reqGet b).1.client = qc at *
    generalize (reqGet b).1.token = qt at *
    generalize (reqGet b).1.name = qn at *
    generalize hec : (reqGet b).2.1 = ec at *
    clear hec
    go_enter Tryz.func25, Tryz.ntmps25
    go_wp2_with (go_at_call 18; refine hg.mono ?_; clear hg; rintro e w3 ⟨a, n, c, rfl, y3, H3⟩; have R9 := blk_alloc (o' := .cells #[.int .i64 qc, .int .u64 qt, .string qn, .slice a n c] 29) y3; have K9 := H3.out.2.alloc (.cells #[.int .i64 qc, .int .u64 qt, .string qn, .slice a n c] 29); have c9 := blk_cell R9; have z9 := blk_fro R9)
    have y9 := blk_seven R9 (.int .i64 0) (.int .u64 0) (.string ⟨#[]⟩) (.slice none 0 0) (.int .i64 0) (.slice none 0 0) (.slice none 0 0)
    have k9 := keep_seven K9 (b := w.heap.size) (Nat.le_refl _) (.int .i64 0) (.int .u64 0) (.string ⟨#[]⟩) (.slice none 0 0) (.int .i64 0) (.slice none 0 0) (.slice none 0 0)
    have s9 := blk_cell y9
    refine bodyPost_ret (v := .tuple #[.agg #[.int .i64 0, .int .u64 0, .string ⟨#[]⟩, .slice none 0 0, .int .i64 0, .slice none 0 0, .slice none 0 0], .int .i64 ec]) (by simp [results, Tryz.results25, go_sem, s9]) rfl ?_
    rw [HRES.out]
    exact zero_given k9 _
end Go.Proofs.YtpjcebajkfeacaaGreatDoor
