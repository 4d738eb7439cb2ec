/-
  Parts of what is proved for this claim; each declaration is one of the seat's texts.
-/
import Derived.Test.YtpjcebajkfeacaaGreatDoorBGA
import Derived.Test.YtpjcebajkfeacaaGreatDoorBGC
import Derived.Test.YtpjcebajkfeacaaGreatDoorBGJ
import Derived.Test.YtpjcebajkfeacaaGreatDoorBGK
import Derived.Test.YtpjcebajkfeacaaGreatDoorBGU
import Derived.Test.YtpjcebajkfeacaaGreatDoorBGV
import Derived.Test.YtpjcebajkfeacaaGreatDoorBHC
import Derived.Still
import Derived.StillTactics
import Derived.WalkKit
import Derived.Recover
import Derived.Defers
import Derived.Deep.QuietTactic
import Derived.BigQuiet
import Derived.Handy
import Derived.Laws.Bits64b
import Derived.Lib.Zigzag
import Derived.OwnWalk
import Derived.Deep.DeepCutAuto
import Derived.Lib.Bytealg
import Derived.Laws.Externs
import Derived.Deep.LoopGhost
import Derived.WalkSpells
import Derived.WalkLawsBesides
import Derived.ProofKit
import Derived.Deep.Slices
import Derived.Deep.AppendSrc
import Derived.Lib.Hide
import Derived.Lib.ItoaNum
import Derived.Lib.Join
import Derived.Laws.CopyRow
import Derived.Laws.IdiomCopy
import Derived.Maps.OwnSet
import Derived.Maps.RangeWalk
import Derived.Shelf.SortM.Plain
import Derived.Shelf.SortM.SortNone
import Derived.Ground.SlgmProg
import Derived.Maps.OwnOps
set_option linter.unusedVariables false
set_option linter.unusedSimpArgs false
namespace Go.Proofs.YtpjcebajkfeacaaGreatDoor
open Go Go.RowKit Go.Deep
structure Req.Small (q : Req) : Prop where
  name : q.name.size ≤ 1048576
  args : q.args.length ≤ 1048576
  text : ∀ i (h : i < q.args.length), q.args[i].text.size ≤ 1048576
def GivesB (w : World) (e : Ending) (w' : World) : Prop := ∃ b, e = .returned (.bool b) ∧ Keep No w w'
set_option maxRecDepth 10000 in
theorem long9_any (w : World) (S : Nat → Prop) (cs : List Value) (q : Req) (h : Rd requestSh w S cs q) (hb : q.Small) :
    Calls Tryz.prog 14 #[.agg cs.toArray] w (GivesB w) := by
  obtain ⟨a, c, rfl, h4, w1, w2, w3⟩ := req_cells h
  have K1 : Keep No w (w.alloc (.cells #[.int .i64 q.client, .int .u64 q.token, .string q.name, .slice a q.args.length c] 29)) := (Keep.refl No w).alloc _
  have x1 := blk_new w (.cells #[.int .i64 q.client, .int .u64 q.token, .string q.name, .slice a q.args.length c] 29)
  have h4' := h4.agree _ K1.agreeNo
  have HH := Lib.hid (And.intro h4' (And.intro K1 hb))
  have b1 : ((q.name.size : Nat) : Int) ≤ 1048576 := by have := hb.name; omega
  have b2 : ((q.args.length : Nat) : Int) ≤ 1048576 := by have := hb.args; omega
  have HB := Lib.hid (And.intro b1 b2)
  clear h h4 h4' hb w1 w2 w3 K1 b1 b2
  go_enter Tryz.func14, Tryz.ntmps14
  have q1 := blk_cell x1
  go_wp2_with fail
  have HQ := Lib.hid q1
  clear x1 q1
  generalize (w.alloc (.cells #[.int .i64 q.client, .int .u64 q.token, .string q.name, .slice a q.args.length c] 29)) = w0 at *
  generalize w.heap.size = P at *
  have q1 := HQ.out
  go_loopg [3, 4] q.args.length (fun g v i wr => ∃ (k : Nat) (m : Int), k ≤ q.args.length ∧ g = q.args.length - k ∧ v = .int .i64 m ∧ i = .int .i64 k ∧ wr = w0 ∧ RowKit.Hid (0 ≤ m ∧ m ≤ 1048576 * (k + 1) ∧ k ≤ 501))
  case atStart => exact ⟨0, q.name.size, by omega, by omega, rfl, rfl, rfl, by omega, by have := HB.out.1; omega, by omega⟩
  case round =>
    obtain ⟨k, m, hk, rfl, rfl, rfl, rfl, HR⟩ := hrel
    have j0 : (0 : Int) ≤ k := by omega
    have fin : ∀ (b : Bool), Keep No w wr := fun _ => HH.out.2.1
    by_cases hlt : k < q.args.length
    · have j1 : (k : Int) < q.args.length := by omega
      by_cases h5 : k ≤ 500
      · have j5 : (k : Int) ≤ 500 := by omega
        obtain ⟨b, off, rfl, -, -, -, -, p2, -, -⟩ := vals_get HH.out.1 k hlt
        have ht := HH.out.2.2.text k hlt
        generalize q.args[k].text = t at *
        have HT := Lib.hid (And.intro ht (And.intro hlt h5))
        have g1 : (0 : Int) ≤ m := HR.out.1
        have g2 : m ≤ 600000000 := by have := HR.out; omega
        have g3 : (t.size : Int) ≤ 1048576 := by omega
        clear ht h5 hk
        go_wp2_with fail
        go_roundg (q.args.length - (k + 1))
        case measure => have := HT.out.2.1; omega
        case rel => exact ⟨k + 1, m + t.size, HT.out.2.1, rfl, rfl, by simp, rfl, by have := HR.out; have := HT.out; omega, by have := HR.out; have := HT.out; omega, by have := HT.out; omega⟩
      · have j5 : ¬ (k : Int) ≤ 500 := by omega
        clear hk h5
        go_wp2_with fail
        all_goals
          go_ret
          exact ⟨_, rfl, fin true⟩
    · have j1 : ¬ (k : Int) < q.args.length := by omega
      clear hk
      go_wp2_with fail
      all_goals
        go_ret
        first | exact fin true | exact ⟨_, rfl, fin true⟩
def CopiedR (w : World) (q : Req) (e : Ending) (w' : World) : Prop :=
  ∃ a c, e = .returned (.agg #[.int .i64 q.client, .int .u64 q.token, .string q.name, .slice a q.args.length c]) ∧ RowKit.Hid (Rd requestSh w' (Fr w.heap.size w'.heap.size) [.int .i64 q.client, .int .u64 q.token, .string q.name, .slice a q.args.length c] q ∧ Keep No w w')
set_option maxRecDepth 10000 in
set_option maxHeartbeats 1000000 in
theorem own9_any (w : World) (S : Nat → Prop) (cs : List Value) (q : Req) (h : Rd requestSh w S cs q) (hl : q.args.length ≤ 1048576) :
    Calls Tryz.prog 15 #[.agg cs.toArray] w (CopiedR w q) := by
  obtain ⟨a, c, rfl, h4, w1, w2, w3⟩ := req_cells h
  have K1 : Keep No w ((w.alloc (.cells #[.int .i64 q.client, .int .u64 q.token, .string q.name, .slice a q.args.length c] 29)).alloc (.cells #[.int .i64 0, .int .u64 0, .string ⟨#[]⟩, .slice none 0 0] 29)) := ((Keep.refl No w).alloc _).alloc _
  have x1 := blk_alloc (o' := .cells #[.int .i64 0, .int .u64 0, .string ⟨#[]⟩, .slice none 0 0] 29) (blk_new w (.cells #[.int .i64 q.client, .int .u64 q.token, .string q.name, .slice a q.args.length c] 29))
  have y1 := blk_new (w.alloc (.cells #[.int .i64 q.client, .int .u64 q.token, .string q.name, .slice a q.args.length c] 29)) (.cells #[.int .i64 0, .int .u64 0, .string ⟨#[]⟩, .slice none 0 0] 29)
  simp only [World.size_alloc] at y1
  have HX := Lib.hid (And.intro (h4.agree _ K1.agreeNo) (And.intro K1 (And.intro w1 (And.intro w2 (And.intro w3 hl)))))
  clear h h4 w1 w2 w3 K1 hl
  go_enter Tryz.func15, Tryz.ntmps15
  go_upto_region 1 with fail
  obtain ⟨i0, hi, hz0, hz1, hz2⟩ := info_parts Tryz.infoClV
  generalize ((w.alloc (.cells #[.int .i64 q.client, .int .u64 q.token, .string q.name, .slice a q.args.length c] 29)).alloc (.cells #[.int .i64 0, .int .u64 0, .string ⟨#[]⟩, .slice none 0 0] 29)) = w0 at *
  obtain ⟨P, hP⟩ : ∃ P, w.heap.size = P := ⟨_, rfl⟩
  obtain ⟨a', c', w', hrun, ho, hk⟩ := clone_app HX.out.1 rfl 27 96 27 i0 _ 32 Tryz.underlying27 hi hz0 hz1 hz2 rfl HX.out.2.2.2.2.2 (by decide)
  have x2 := hk.blk x1 (fun x => x)
  have y2 := hk.blk y1 (fun x => x)
  have hlt := blk_lt y1
  have HO := Lib.hid (And.intro ho (And.intro hk (And.intro (show P + 1 < w0.heap.size by omega) (And.intro hP HX.out.2))))
  rw [hP] at x1 y1 x2 y2 ⊢
  have q1 := blk_cell (blk_alloc (o' := .cells #[] 96) x1)
  have q2 := blk_cell x2
  have f2 := blk_fro x2
  clear hP ho hk HX x1 y1 hi hz0 hz1 hz2 hlt
  go_upto_region 2 with (at_builtin; refine wpList_app rfl (.tmp 3) (.tmp 5) 27 27 rfl rfl rfl hrun ?_)
  have x3 := blk_set x2 3 (.slice a' q.args.length c')
  have y3 := blk_other y2 (a := ⟨P, 3, none⟩) (by show ¬ P = P + 1; omega) (.slice a' q.args.length c')
  have k3 := keep_set w' P 3 (.slice a' q.args.length c')
  have HA := Lib.hid (And.intro (HO.out.1.agree (agree_set (b := P) (Fr.not (by have := HO.out.2.2.1; omega)) 3 (.slice a' q.args.length c'))) (And.intro k3 HO.out.2))
  clear HO hrun x2 y2 k3 q1 q2 f2
  generalize w'.setCell ⟨P, 3, none⟩ (.slice a' q.args.length c') = w3 at *
  have x3 : w3.heap[P]? = some (.cells #[.int .i64 q.client, .int .u64 q.token, .string q.name, .slice a' q.args.length c'] 29 (0, 0)) := by simpa using x3
  have q3 := blk_cell x3
  have q4 := blk_cell y3
  have f4 := blk_fro y3
  go_wp2_with fail
  have y5 := blk_four y3 (.int .i64 q.client) (.int .u64 q.token) (.string q.name) (.slice a' q.args.length c')
  have k5 := keep_four w3 (P + 1) (.int .i64 q.client) (.int .u64 q.token) (.string q.name) (.slice a' q.args.length c')
  generalize ((((w3.setCell ⟨P + 1, 0, none⟩ (.int .i64 q.client)).setCell ⟨P + 1, 1, none⟩ (.int .u64 q.token)).setCell ⟨P + 1, 2, none⟩ (.string q.name)).setCell ⟨P + 1, 3, none⟩ (.slice a' q.args.length c')) = w5 at *
  have c5 := blk_cell y5
  refine bodyPost_ret (v := .agg #[.int .i64 q.client, .int .u64 q.token, .string q.name, .slice a' q.args.length c']) (by simp [results, Tryz.results15, go_sem, c5]) rfl ⟨a', c', rfl, ?_⟩
  obtain ⟨ho, k3, hk, hlt, hP, K0, w1, w2, w3', hl⟩ := HA.out
  have hs := k3.size
  have hs5 := k5.size
  refine ⟨⟨[.int .i64 q.client], _, rfl, ⟨rfl, w1⟩, [.int .u64 q.token], _, rfl, ⟨rfl, w2⟩, [.string q.name], _, rfl, ⟨rfl, w3'⟩, [.slice a' q.args.length c'], [], rfl, ?_, rfl⟩, ?_⟩
  · exact (((ho.agree (k5.agree fun k _ hk e => by have : k = P + 1 := e; have := hk.1; omega)).mono fun k hk => ⟨by have := hk.1; have := K0.size; omega, by have := hk.2; omega⟩) : Own valueSh 96 w5 (Fr w.heap.size w5.heap.size) (.slice a' q.args.length c') q.args).rd
  · exact (((K0.trans hk).then k3 fun i hi e => by have : i = P := e; omega).then k5 fun i hi e => by have : i = P + 1 := e; omega)
end Go.Proofs.YtpjcebajkfeacaaGreatDoor
namespace Go.Proofs.YtpjcebajkfeacaaGreatDoor
open Go Go.RowKit Go.Deep
theorem rd_front {w : World} {S : Nat → Prop} {a : Addr} {n k c : Nat} {l r : Bytes} (h : Rd bytesSh w S [.slice (some a) n c] (l ++ r)) (hk : l.length = k) : Rd bytesSh w S [.slice (some a) k c] l := by
  obtain ⟨a', c', hv, hle, hmax, hnil, hel⟩ := h
  simp only [List.cons.injEq, Value.slice.injEq, and_true] at hv
  obtain ⟨rfl, rfl, rfl⟩ := hv
  rw [List.length_append] at hle
  refine ⟨some a, c, by rw [hk], by omega, hmax, fun h => (by cases h), fun i hi => ?_⟩
  obtain ⟨b, off, row, h1, h2, h3, h4, h5, h6⟩ := hel i (by rw [List.length_append]; omega)
  refine ⟨b, off, row, h1, h2, h3, h4, h5, ?_⟩
  rw [List.getElem_append_left hi] at h6
  exact h6
end Go.Proofs.YtpjcebajkfeacaaGreatDoor
