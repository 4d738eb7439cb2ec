/-
  RequestDeclared: Client and Token have no part in how, and in the footprint; what the law does.
  RequestDeclared, whatever the input.
-/
import Derived.Test.YtpjcebajkfeacaaGreatDoorGA
import Derived.Test.YtpjcebajkfeacaaGreatDoorGB
import Derived.Test.YtpjcebajkfeacaaGreatDoorGC
import Derived.Test.YtpjcebajkfeacaaGreatDoorGK
import Derived.Test.YtpjcebajkfeacaaGreatDoorGN
import Derived.Test.YtpjcebajkfeacaaGreatDoorGU
import Derived.Test.YtpjcebajkfeacaaGreatDoorGV
import Derived.Test.YtpjcebajkfeacaaGreatDoorHA
import Derived.Test.YtpjcebajkfeacaaGreatDoorHE
import Derived.Test.YtpjcebajkfeacaaGreatDoorHF
import Derived.Test.YtpjcebajkfeacaaGreatDoorHI
import Derived.Test.YtpjcebajkfeacaaGreatDoorHN
import Derived.Test.YtpjcebajkfeacaaGreatDoorHQ
import Derived.Test.YtpjcebajkfeacaaGreatDoorHR
import Derived.WalkKit
import Derived.WalkSpells
import Derived.WalkLawsBesides
import Derived.ProofKit
import Derived.Deep.Slices
import Derived.Deep.AppendSrc
import Derived.Lib.Hide
import Derived.Lib.ItoaNum
import Derived.Lib.Join
import Derived.Still
import Derived.StillTactics
import Derived.Recover
import Derived.Defers
import Derived.Deep.QuietTactic
import Derived.BigQuiet
import Derived.Handy
import Derived.Laws.Bits64b
import Derived.Lib.Zigzag
import Derived.OwnWalk
import Derived.Deep.DeepCutAuto
import Derived.Deep.LoopGhost
import Derived.Lib.Bytealg
import Derived.Laws.Externs
import Derived.Laws.CopyRow
import Derived.Laws.IdiomCopy
import Derived.Maps.OwnSet
import Derived.Maps.RangeWalk
import Derived.Shelf.SortM.Plain
import Derived.Shelf.SortM.SortNone
import Derived.Ground.SlgmProg
import Derived.Maps.OwnOps
import Derived.Shelf.Strconv.Itoa4
import Derived.Shelf.Strings.BuilderK
import Derived.Shelf.Strings.OnBuilder
import Derived.Ground.NamesProg
import Derived.Lib.AppendIntMem
import Derived.Lib.UnsafeStr
import Derived.Deep.WholeRow
import Derived.Maps.Views
namespace Go.Proofs.YtpjcebajkfeacaaGreatDoor
set_option linter.unusedVariables false
set_option linter.unusedSimpArgs false
open Go Go.RowKit Go.Deep

/-- a plan and a code are given back, cells by name -/
def GivesPV (w : World) (pl : Plan) (er : Int) (e : Ending) (w' : World) : Prop := ∃ a1 c1 a2 c2 a3 c3,
  e = .returned (.tuple #[.agg #[.int .i64 pl.client, .int .u64 pl.token, .string pl.name, .slice a1 pl.args.length c1, .int .i64 pl.how, .slice a2 pl.reads.length c2, .slice a3 pl.writes.length c3], .int .i64 er]) ∧
  RowKit.Hid (Rd planSh w' (Fr w.heap.size w'.heap.size) [.int .i64 pl.client, .int .u64 pl.token, .string pl.name, .slice a1 pl.args.length c1, .int .i64 pl.how, .slice a2 pl.reads.length c2, .slice a3 pl.writes.length c3] pl ∧ Keep No w w')
theorem givesPV {w : World} {x : Plan × Int} {e : Ending} {w' : World} (h : GivesPl w x e w') : GivesPV w x.1 x.2 e w' := by
  obtain ⟨⟨cs⟩, rfl, hr, hk⟩ := h
  have hr' := hr
  obtain ⟨a1, c1, a2, c2, a3, c3, e1, -⟩ := plan_cells hr
  simp only at e1
  subst e1
  exact ⟨a1, c1, a2, c2, a3, c3, rfl, hr', hk⟩

theorem num9_w (w : World) (e : Int) : Calls Tryz.prog 12 #[.int .i64 e] w fun en w' => en = .returned (.int .i64 e) ∧ w = w' :=
  (num9_any w e).mono (by rintro _ _ ⟨rfl, rfl⟩; exact ⟨rfl, rfl⟩)
/-- the law's request and the libraries -/
structure DcW (w : World) (q : Req) (R0 : Nat) (a : Option Addr) (c : Nat) (B m R : Nat) (la : Option Addr) (lc : Nat) (L : List Prc) (W : World) : Prop where
  keep : Keep No w W
  tab : Tab W
  r0 : W.heap[R0]? = some (.cells #[.int .i64 q.client, .int .u64 q.token, .string q.name, .slice a q.args.length c] 29 (0, 0))
  rr : Rd requestSh W (Lt w.heap.size) [.int .i64 q.client, .int .u64 q.token, .string q.name, .slice a q.args.length c] q
  libs : ∃ n, LibsW n W B m R la lc L
  hR : w.heap.size ≤ R0
theorem DcW.more {w : World} {q : Req} {R0 : Nat} {a : Option Addr} {c : Nat} {B m R : Nat} {la : Option Addr} {lc : Nat} {L : List Prc} {W W' : World} (h : DcW w q R0 a c B m R la lc L W) (k : Keep No W W') : DcW w q R0 a c B m R la lc L W' := by
  obtain ⟨n, hl⟩ := h.libs
  exact ⟨h.keep.trans k, h.tab.keep k, k.blk h.r0 (fun x => x), h.rr.agree _ k.agreeNo, ⟨n, hl.keep k⟩, h.hR⟩
/-- Judge of the program's library -/
theorem DcW.judge {w : World} {q : Req} {R0 : Nat} {a : Option Addr} {c : Nat} {B m R : Nat} {la : Option Addr} {lc : Nat} {L : List Prc} {W : World} (h : DcW w q R0 a c B m R la lc L W) {T : Nat → Prop} {cs : Array Value} {r : Req} (hr : Rd requestSh W T cs.toList r) (hn : r.name.size ≤ 1048576) (most : Int) :
    Calls Tryz.prog 23 #[.pointer (some ⟨B, 0, none⟩), .agg cs, .int .i64 most] W (GivesPV W (judgeL homeL r most).1 (judgeL homeL r most).2) := by
  obtain ⟨n, ⟨S, hS, -⟩, -⟩ := h.libs
  have := (judge_any W S T B m homeL hS cs.toList r hr (by omega) most h.tab).mono fun e w' hg => givesPV hg
  rwa [Array.toArray_toList] at this

/-- and a plan -/
structure DcP (w : World) (q : Req) (R0 : Nat) (a : Option Addr) (c : Nat) (B m R : Nat) (la : Option Addr) (lc : Nat) (L : List Prc) (pl : Plan) (P : Nat) (v1 : Value) (a2 : Option Addr) (c2 : Nat) (a3 : Option Addr) (c3 : Nat) (W : World) : Prop where
  d : DcW w q R0 a c B m R la lc L W
  p : W.heap[P]? = some (.cells #[.int .i64 pl.client, .int .u64 pl.token, .string pl.name, v1, .int .i64 pl.how, .slice a2 pl.reads.length c2, .slice a3 pl.writes.length c3] 50 (0, 0))
  rd : ∃ S, Rd planSh W S [.int .i64 pl.client, .int .u64 pl.token, .string pl.name, v1, .int .i64 pl.how, .slice a2 pl.reads.length c2, .slice a3 pl.writes.length c3] pl
theorem DcP.more {w : World} {q : Req} {R0 : Nat} {a : Option Addr} {c : Nat} {B m R : Nat} {la : Option Addr} {lc : Nat} {L : List Prc} {pl : Plan} {P : Nat} {v1 : Value} {a2 : Option Addr} {c2 : Nat} {a3 : Option Addr} {c3 : Nat} {W W' : World} (h : DcP w q R0 a c B m R la lc L pl P v1 a2 c2 a3 c3 W) (k : Keep No W W') : DcP w q R0 a c B m R la lc L pl P v1 a2 c2 a3 c3 W' := by
  obtain ⟨S, hr⟩ := h.rd
  exact ⟨h.d.more k, k.blk h.p (fun x => x), S, hr.agree _ k.agreeNo⟩
/-- a plan's footprint, by its two slices -/
theorem plan_foot {w : World} {S : Nat → Prop} {pl : Plan} {x0 x1 x2 v1 x4 v2 v3 : Value} (h : Rd planSh w S [x0, x1, x2, v1, x4, v2, v3] pl) : Rd (.slice .str) w S [v2] pl.reads ∧ Rd (.slice .str) w S [v3] pl.writes := by
  obtain ⟨a1, c1, a2, c2, a3, c3, e1, h1, h2, h3, -⟩ := plan_cells h
  simp only [List.cons.injEq, and_true] at e1
  obtain ⟨-, -, -, -, -, rfl, rfl⟩ := e1
  exact ⟨h2, h3⟩

theorem judge_same (L : List Prc) (q : Req) (cl tk most : Int) (h0 : 0 ≤ cl) (h1 : cl < 64) (hj : (judgeL L q most).2 = 0) :
    (judgeL L (mkReq cl tk q.name q.args) most).2 = 0 ∧ (judgeL L (mkReq cl tk q.name q.args) most).1.how = (judgeL L q most).1.how ∧ (judgeL L (mkReq cl tk q.name q.args) most).1.reads = (judgeL L q most).1.reads ∧ (judgeL L (mkReq cl tk q.name q.args) most).1.writes = (judgeL L q most).1.writes := by
  have hc : q.check = 0 := by
    by_cases h : q.check = 0
    · exact h
    · unfold judgeL at hj
      rw [if_pos h] at hj
      exact hj
  have hc' : (mkReq cl tk q.name q.args).check = 0 := by
    rw [Req.check_iff] at hc ⊢
    exact ⟨h0, h1, hc.2.2⟩
  unfold judgeL at hj ⊢
  rw [if_neg (by rw [hc]; decide)] at hj
  rw [if_neg (by rw [hc']; decide), if_neg (by rw [hc]; decide)]
  have e1 : (mkReq cl tk q.name q.args).name = q.name := rfl
  have e2 : (mkReq cl tk q.name q.args).args = q.args := rfl
  rw [e1, e2]
  cases hf : findP L q.name with
  | none => rw [hf] at hj; simp at hj
  | some p =>
    rw [hf] at hj
    simp only at hj ⊢
    split
    · rename_i hs; rw [if_pos hs] at hj; simp at hj
    · split
      · exact ⟨rfl, rfl, rfl, rfl⟩
      · split
        · rename_i h2 h3 h4
          rw [if_neg h2, if_neg h3, if_pos h4] at hj
          exact absurd hj h4
        · split
          · rename_i h2 h3 h4 h5
            rw [if_neg h2, if_neg h3, if_neg h4, if_pos h5] at hj
            simp at hj
          · exact ⟨rfl, rfl, rfl, rfl⟩
set_option maxRecDepth 10000 in
set_option maxHeartbeats 4000000 in
theorem RequestDeclared_main (w : World) (ht : Tab w) (q : Req) (a : Option Addr) (c : Nat) (hq : Rd requestSh w (Lt w.heap.size) [.int .i64 q.client, .int .u64 q.token, .string q.name, .slice a q.args.length c] q) (hb : q.Small) (cl tk most : Int) (wc : (Lit.int .i64 cl).wf = true) (wt : (Lit.int .u64 tk).wf = true) :
    Calls Tryz.prog 6 #[.agg #[.int .i64 q.client, .int .u64 q.token, .string q.name, .slice a q.args.length c], .int .i64 cl, .int .u64 tk, .int .i64 most] w fun e w' => e = .returned (.bool true) ∧ Keep No w w' := by
  have HH := Lib.hid (And.intro hq (And.intro hb (And.intro ht (And.intro wc wt))))
  clear hq hb ht wc wt
  go_enter Tryz.func6, Tryz.ntmps6
  go_upto_region 1 with fail
  have x1 := blk_new w (.cells #[.int .i64 q.client, .int .u64 q.token, .string q.name, .slice a q.args.length c] 29)
  have K1 := (Keep.refl No w).alloc (.cells #[.int .i64 q.client, .int .u64 q.token, .string q.name, .slice a q.args.length c] 29)
  generalize (w.alloc (.cells #[.int .i64 q.client, .int .u64 q.token, .string q.name, .slice a q.args.length c] 29)) = w1 at *
  obtain ⟨R0, hR0⟩ : ∃ R0, w.heap.size = R0 := ⟨_, rfl⟩
  rw [hR0] at x1 ⊢
  have HR0 := Lib.hid hR0
  clear hR0
  have hlong := (long9_any w1 _ _ q (HH.out.1.agree _ K1.agreeNo) HH.out.2.1).mono (R' := fun e w2 => ∃ b, e = .returned (.bool b) ∧ RowKit.Hid (Keep No w w2 ∧ w2.heap[R0]? = some (.cells #[.int .i64 q.client, .int .u64 q.token, .string q.name, .slice a q.args.length c] 29 (0, 0)))) (by
    rintro e w2 ⟨b, rfl, hk⟩
    exact ⟨b, rfl, K1.trans hk, hk.blk x1 (fun x => x)⟩)
  have q1 := blk_cell x1
  clear x1 K1
  go_cut [25] (fun t wx => ∃ bad, t = .bool bad ∧ RowKit.Hid (Keep No w wx ∧ wx.heap[R0]? = some (.cells #[.int .i64 q.client, .int .u64 q.token, .string q.name, .slice a q.args.length c] 29 (0, 0)) ∧ (bad = false → 0 ≤ cl ∧ cl < 64)))
  case first =>
    go_wp2_with (go_at_call 14; refine hlong.mono ?_; clear hlong q1; rintro e w2 ⟨b, rfl, H2⟩)
    all_goals
      go_meet
      case rel => exact ⟨_, rfl, H2.out.1, H2.out.2, fun hb => by simp at hb <;> omega⟩
  case rest =>
    obtain ⟨bad, rfl, H2⟩ := hcut
    cases bad with
    | true =>
      have hl := (live9_any wc (HH.out.2.2.1.keep H2.out.1)).mono (R' := fun e w' => e = .returned (.bool true) ∧ RowKit.Hid (Keep No w w')) (by
        rintro e w' ⟨rfl, hk⟩
        exact ⟨rfl, H2.out.1.trans hk⟩)
      go_wp2_with (go_at_call 13; refine hl.mono ?_; clear hl; rintro e w3 ⟨rfl, H3⟩)
      go_ret
      exact ⟨rfl, H3.out⟩
    | false =>
      have HCL := Lib.hid (H2.out.2.2 rfl)
      generalize wc = w2 at *
      have hlib := (libs_any w2).mono (R' := fun e w3 => ∃ B R, e = .returned (.tuple #[.pointer (some ⟨B, 0, none⟩), .pointer (some ⟨R, 0, none⟩)]) ∧ RowKit.Hid (∃ m la lc L, DcW w q R0 a c B m R la lc L w3)) (by
        rintro e w3 ⟨B, m, R, la, lc, L, rfl, h⟩
        have k := h.out.2
        have k2 := H2.out.1.trans k
        exact ⟨B, R, rfl, m, la, lc, L, k2, HH.out.2.2.1.keep k2, k.blk H2.out.2.1 (fun x => x), HH.out.1.agree _ k2.agreeNo, ⟨_, h.out.1⟩, by have := HR0.out; omega⟩)
      go_upto_region 6 with (go_at_call 22; refine hlib.mono ?_; clear hlib; rintro e w3 ⟨B, R, rfl, H3⟩)
      obtain ⟨m, la, lc, L, h3⟩ := H3.out
      have H3 := Lib.hid h3
      clear h3
      have q3 := blk_cell H3.out.r0
      have how := (own9_any w3 _ _ q H3.out.rr HH.out.2.1.args).mono (R' := fun e w4 => ∃ ag cg, e = .returned (.agg #[.int .i64 q.client, .int .u64 q.token, .string q.name, .slice ag q.args.length cg]) ∧ RowKit.Hid ((∃ S, Rd requestSh w4 S [.int .i64 q.client, .int .u64 q.token, .string q.name, .slice ag q.args.length cg] q) ∧ DcW w q R0 a c B m R la lc L w4)) (by
        rintro e w4 ⟨ag, cg, rfl, h⟩
        exact ⟨ag, cg, rfl, ⟨_, h.out.1⟩, H3.out.more h.out.2⟩)
      go_wp2_with (go_at_call 15; refine how.mono ?_; clear how q3; rintro e w4 ⟨ag, cg, rfl, H4⟩)
      obtain ⟨pl, hpl⟩ : ∃ pl, (judgeL homeL q most).1 = pl := ⟨_, rfl⟩
      obtain ⟨er, her⟩ : ∃ er, (judgeL homeL q most).2 = er := ⟨_, rfl⟩
      have hj : Calls Tryz.prog 23 #[.pointer (some ⟨B, 0, none⟩), .agg #[.int .i64 q.client, .int .u64 q.token, .string q.name, .slice ag q.args.length cg], .int .i64 most] w4 fun e w5 => ∃ a1 c1 a2 c2 a3 c3, e = .returned (.tuple #[.agg #[.int .i64 pl.client, .int .u64 pl.token, .string pl.name, .slice a1 pl.args.length c1, .int .i64 pl.how, .slice a2 pl.reads.length c2, .slice a3 pl.writes.length c3], .int .i64 er]) ∧
          RowKit.Hid ((∃ S, Rd planSh w5 S [.int .i64 pl.client, .int .u64 pl.token, .string pl.name, .slice a1 pl.args.length c1, .int .i64 pl.how, .slice a2 pl.reads.length c2, .slice a3 pl.writes.length c3] pl) ∧ DcW w q R0 a c B m R la lc L w5) := by
        obtain ⟨S, hr⟩ := H4.out.1
        refine (H4.out.2.judge (cs := #[.int .i64 q.client, .int .u64 q.token, .string q.name, .slice ag q.args.length cg]) hr HH.out.2.1.name most).mono ?_
        rw [hpl, her]
        rintro e w5 ⟨a1, c1, a2, c2, a3, c3, rfl, h⟩
        exact ⟨a1, c1, a2, c2, a3, c3, rfl, ⟨_, h.out.1⟩, H4.out.2.more h.out.2⟩
      have HJ := Lib.hid (And.intro hpl her)
      clear hpl her H3 H2
      refine hj.mono ?_
      clear hj H4
      rintro e w5 ⟨a1, c1, a2, c2, a3, c3, rfl, H5⟩
      go_upto_region 7 with fail
      have K6 := (Keep.refl No w5).alloc (.cells #[.int .i64 pl.client, .int .u64 pl.token, .string pl.name, .slice a1 pl.args.length c1, .int .i64 pl.how, .slice a2 pl.reads.length c2, .slice a3 pl.writes.length c3] 50)
      have p6 := blk_new w5 (.cells #[.int .i64 pl.client, .int .u64 pl.token, .string pl.name, .slice a1 pl.args.length c1, .int .i64 pl.how, .slice a2 pl.reads.length c2, .slice a3 pl.writes.length c3] 50)
      generalize (w5.alloc (.cells #[.int .i64 pl.client, .int .u64 pl.token, .string pl.name, .slice a1 pl.args.length c1, .int .i64 pl.how, .slice a2 pl.reads.length c2, .slice a3 pl.writes.length c3] 50)) = w6 at *
      generalize w5.heap.size = P at *
      have H6 : RowKit.Hid (DcP w q R0 a c B m R la lc L pl P (.slice a1 pl.args.length c1) a2 c2 a3 c3 w6) := by
        obtain ⟨S, hr⟩ := H5.out.1
        exact ⟨H5.out.2.more K6, p6, S, hr.agree _ K6.agreeNo⟩
      clear H5 K6 p6
      by_cases he : er = 0
      · subst he
        have q6 := blk_cell H6.out.d.r0
        have how := (own9_any w6 _ _ q H6.out.d.rr HH.out.2.1.args).mono (R' := fun e w7 => ∃ ag cg, e = .returned (.agg #[.int .i64 q.client, .int .u64 q.token, .string q.name, .slice ag q.args.length cg]) ∧ RowKit.Hid ((∃ S, Rd requestSh w7 S [.int .i64 q.client, .int .u64 q.token, .string q.name, .slice ag q.args.length cg] q) ∧ DcP w q R0 a c B m R la lc L pl P (.slice a1 pl.args.length c1) a2 c2 a3 c3 w7)) (by
          rintro e w7 ⟨ag, cg, rfl, h⟩
          exact ⟨ag, cg, rfl, ⟨_, h.out.1⟩, H6.out.more h.out.2⟩)
        go_upto_region 10 with (first | (go_at_call 12; refine (num9_any _ _).mono ?_; rintro e w20 ⟨rfl, rfl⟩) | (go_at_call 15; refine how.mono ?_; clear how q6; rintro e w7 ⟨ao, co, rfl, H7⟩))
        have o8 := blk_new w7 (.cells #[.int .i64 q.client, .int .u64 q.token, .string q.name, .slice ao q.args.length co] 29)
        have k8 := (Keep.refl No w7).alloc (.cells #[.int .i64 q.client, .int .u64 q.token, .string q.name, .slice ao q.args.length co] 29)
        generalize (w7.alloc (.cells #[.int .i64 q.client, .int .u64 q.token, .string q.name, .slice ao q.args.length co] 29)) = w8 at *
        obtain ⟨O, hO⟩ : ∃ O, w7.heap.size = O := ⟨_, rfl⟩
        rw [hO] at o8
        try rw [hO]
        have c8 := blk_cell o8
        have f8 := blk_fro o8
        have o9 := blk_set o8 0 (.int .i64 cl)
        have c9 := blk_cell o9
        have f9 := blk_fro o9
        have o10 := blk_set o9 1 (.int .u64 tk)
        have K10 : Keep No w7 ((w8.setCell ⟨O, 0, none⟩ (.int .i64 cl)).setCell ⟨O, 1, none⟩ (.int .u64 tk)) := (k8.setNew (p := ⟨O, 0, none⟩) (by show w7.heap.size ≤ O; omega) _).setNew (p := ⟨O, 1, none⟩) (by show w7.heap.size ≤ O; omega) _
        have HK := Lib.hid K10
        have HO := Lib.hid o10
        clear k8 K10 o8 o9 o10 hO H6
        go_upto_region 12 with fail
        clear c8 f8 c9 f9
        generalize ((w8.setCell ⟨O, 0, none⟩ (.int .i64 cl)).setCell ⟨O, 1, none⟩ (.int .u64 tk)) = w10 at *
        have o10 : w10.heap[O]? = some (.cells #[.int .i64 cl, .int .u64 tk, .string q.name, .slice ao q.args.length co] 29 (0, 0)) := by simpa using HO.out
        have H10 : RowKit.Hid ((∃ S, Rd requestSh w10 S [.int .i64 cl, .int .u64 tk, .string q.name, .slice ao q.args.length co] (mkReq cl tk q.name q.args)) ∧ DcP w q R0 a c B m R la lc L pl P (.slice a1 pl.args.length c1) a2 c2 a3 c3 w10) := by
          obtain ⟨S, hr⟩ := H7.out.1
          obtain ⟨a', c', e1, h4, -, -, w3'⟩ := req_cells (hr.agree _ HK.out.agreeNo)
          simp only [List.cons.injEq, Value.slice.injEq, and_true, true_and] at e1
          obtain ⟨rfl, rfl⟩ := e1
          exact ⟨⟨S, [.int .i64 cl], _, rfl, ⟨rfl, HH.out.2.2.2.1⟩, [.int .u64 tk], _, rfl, ⟨rfl, HH.out.2.2.2.2⟩, [.string q.name], _, rfl, ⟨rfl, w3'⟩, [.slice ao q.args.length co], [], rfl, h4, rfl⟩, H7.out.2.more HK.out⟩
        have q10 := blk_cell o10
        clear o10 HO HK H7
        have hsame : RowKit.Hid ((judgeL homeL (mkReq cl tk q.name q.args) most).2 = 0 ∧ (judgeL homeL (mkReq cl tk q.name q.args) most).1.how = pl.how ∧ (judgeL homeL (mkReq cl tk q.name q.args) most).1.reads = pl.reads ∧ (judgeL homeL (mkReq cl tk q.name q.args) most).1.writes = pl.writes) := by
          have := judge_same homeL q cl tk most HCL.out.1 HCL.out.2 HJ.out.2
          rw [HJ.out.1] at this
          exact this
        obtain ⟨p2, hp2⟩ : ∃ p2, (judgeL homeL (mkReq cl tk q.name q.args) most).1 = p2 := ⟨_, rfl⟩
        rw [hp2] at hsame
        have hj : Calls Tryz.prog 23 #[.pointer (some ⟨B, 0, none⟩), .agg #[.int .i64 cl, .int .u64 tk, .string q.name, .slice ao q.args.length co], .int .i64 most] w10 fun e w11 => ∃ d1 e1 d2 e2 d3 e3, e = .returned (.tuple #[.agg #[.int .i64 p2.client, .int .u64 p2.token, .string p2.name, .slice d1 p2.args.length e1, .int .i64 p2.how, .slice d2 p2.reads.length e2, .slice d3 p2.writes.length e3], .int .i64 0]) ∧
            RowKit.Hid ((∃ S, Rd planSh w11 S [.int .i64 p2.client, .int .u64 p2.token, .string p2.name, .slice d1 p2.args.length e1, .int .i64 p2.how, .slice d2 p2.reads.length e2, .slice d3 p2.writes.length e3] p2) ∧ DcP w q R0 a c B m R la lc L pl P (.slice a1 pl.args.length c1) a2 c2 a3 c3 w11) := by
          obtain ⟨S, hr⟩ := H10.out.1
          refine (H10.out.2.d.judge (cs := #[.int .i64 cl, .int .u64 tk, .string q.name, .slice ao q.args.length co]) hr HH.out.2.1.name most).mono ?_
          rw [hp2, hsame.out.1]
          rintro e w11 ⟨d1, e1, d2, e2, d3, e3, rfl, h⟩
          exact ⟨d1, e1, d2, e2, d3, e3, rfl, ⟨_, h.out.1⟩, H10.out.2.more h.out.2⟩
        have HS := Lib.hid hsame.out.2
        clear hsame hp2
        go_wp2_with fail
        refine hj.mono ?_
        clear hj H10 q10
        rintro e w11 ⟨d1, e1, d2, e2, d3, e3, rfl, H11⟩
        go_upto_region 13 with fail
        have K12 := (Keep.refl No w11).alloc (.cells #[.int .i64 p2.client, .int .u64 p2.token, .string p2.name, .slice d1 p2.args.length e1, .int .i64 p2.how, .slice d2 p2.reads.length e2, .slice d3 p2.writes.length e3] 50)
        have p12 := blk_new w11 (.cells #[.int .i64 p2.client, .int .u64 p2.token, .string p2.name, .slice d1 p2.args.length e1, .int .i64 p2.how, .slice d2 p2.reads.length e2, .slice d3 p2.writes.length e3] 50)
        generalize (w11.alloc (.cells #[.int .i64 p2.client, .int .u64 p2.token, .string p2.name, .slice d1 p2.args.length e1, .int .i64 p2.how, .slice d2 p2.reads.length e2, .slice d3 p2.writes.length e3] 50)) = w12 at *
        generalize w11.heap.size = P2 at *
        have H12 := Lib.hid (H11.out.2.more K12)
        have hs := (by
          obtain ⟨S, hr⟩ := H11.out.1
          obtain ⟨T, ht⟩ := H12.out.rd
          have f1 := plan_foot (hr.agree _ K12.agreeNo)
          have f2 := plan_foot ht
          exact (rSame_any w12 S T _ _ _ _ (mkFp p2.reads p2.writes) (mkFp pl.reads pl.writes) f1 f2).mono (R' := fun e w13 => e = .returned (.bool true) ∧ RowKit.Hid (DcP w q R0 a c B m R la lc L pl P (.slice a1 pl.args.length c1) a2 c2 a3 c3 w13)) (by
            rintro e w13 ⟨rfl, hk⟩
            refine ⟨?_, H12.out.more hk⟩
            have h1 : (mkFp p2.reads p2.writes).rs = (mkFp pl.reads pl.writes).rs := HS.out.2.1
            have h2 : (mkFp p2.reads p2.writes).ws = (mkFp pl.reads pl.writes).ws := HS.out.2.2
            rw [h1, h2]
            simp) : Calls Tryz.prog 28 #[.agg #[.slice d2 p2.reads.length e2, .slice d3 p2.writes.length e3], .agg #[.slice a2 pl.reads.length c2, .slice a3 pl.writes.length c3]] w12 fun e w13 => e = .returned (.bool true) ∧ RowKit.Hid (DcP w q R0 a c B m R la lc L pl P (.slice a1 pl.args.length c1) a2 c2 a3 c3 w13))
        have hh := HS.out.1
        rw [hh] at p12
        have c12 := blk_cell p12
        have e12 := blk_cell H12.out.p
        clear H11 K12 p12 hh
        go_wp2_with (first | (go_at_call 12; refine (num9_w _ _).mono ?_; rintro e w20 ⟨rfl, rfl⟩))
        refine hs.mono ?_
        clear hs c12 e12 H12
        rintro e w13 ⟨rfl, H13⟩
        have hl := (live9_any w13 H13.out.d.tab).mono (R' := fun e w' => e = .returned (.bool true) ∧ RowKit.Hid (Keep No w w')) (by
          rintro e w' ⟨rfl, hk⟩
          exact ⟨rfl, H13.out.d.keep.trans hk⟩)
        go_wp2_with (go_at_call 13; refine hl.mono ?_; clear hl; rintro e w14 ⟨rfl, HL⟩)
        go_ret
        exact ⟨rfl, HL.out⟩
      · have hl := (live9_any w6 H6.out.d.tab).mono (R' := fun e w' => e = .returned (.bool true) ∧ RowKit.Hid (Keep No w w')) (by
          rintro e w' ⟨rfl, hk⟩
          exact ⟨rfl, H6.out.d.keep.trans hk⟩)
        go_wp2_with (first | (go_at_call 12; refine (num9_w _ _).mono ?_; rintro e w20 ⟨rfl, rfl⟩) | (go_at_call 13; refine hl.mono ?_; clear hl; rintro e w14 ⟨rfl, HL⟩))
        go_ret
        exact ⟨rfl, HL.out⟩
end Go.Proofs.YtpjcebajkfeacaaGreatDoor

namespace Go.Proofs.YtpjcebajkfeacaaGreatDoor
set_option linter.unusedVariables false
set_option linter.unusedSimpArgs false
open Go Go.RowKit Go.Deep

theorem RequestDeclared_calls (w : World) (ht : Tab w) (cs : List Value) (q : Req) (hq : Rd requestSh w (Lt w.heap.size) cs q) (bq : requestSh.bulk q ≤ 1048576) (x1 : Int) (w1 : (Lit.int .i64 x1).wf = true) (x2 : Int) (w2 : (Lit.int .u64 x2).wf = true) (x3 : Int) (w3 : (Lit.int .i64 x3).wf = true) :
    Calls Tryz.prog 6 #[.agg cs.toArray, .int .i64 x1, .int .u64 x2, .int .i64 x3] w fun e w' => e = .returned (.bool true) ∧ Keep No w w' := by
  obtain ⟨a, c, rfl, -⟩ := req_cells hq
  exact RequestDeclared_main w ht q a c hq (req_small bq) x1 x2 x3 w1 w2
end Go.Proofs.YtpjcebajkfeacaaGreatDoor
