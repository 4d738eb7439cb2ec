/-
  LogNil: what the law does.
-/
import Derived.Test.YtnknihmchmmenaaGreatGA
import Derived.Test.YtnknihmchmmenaaGreatGC
import Derived.Test.YtnknihmchmmenaaGreatHA
import Derived.Test.YtnknihmchmmenaaGreatHE
import Derived.Test.YtnknihmchmmenaaGreatHF
import Derived.Test.YtnknihmchmmenaaGreatHK
import Derived.RangeFuncNested
import Derived.RangeFuncBound
import Derived.RangeFuncCalls
import Derived.RangeFuncLeaves
import Derived.Shelf.Abstract
import Derived.Shelf.RegionOpen
import Derived.WalkKit
import Derived.OwnWalkIn
import Derived.TacticsInMore
import Derived.LoopNIn
import Derived.LoopIn
import Derived.WalkSpells
import Derived.WalkLawsBesides
import Derived.ProofKit
import Derived.Deep.Slices
import Derived.Deep.AppendSrc
import Derived.Lib.Hide
import Derived.Still
import Derived.StillTactics
import Derived.Recover
import Derived.Defers
import Derived.Deep.QuietTactic
import Derived.BigQuiet
import Derived.Handy
import Derived.Laws.Bits64b
import Derived.Lib.Zigzag
import Derived.OwnWalk
import Derived.Deep.DeepCutAuto
import Derived.Lib.Bytealg
import Derived.Laws.Externs
import Derived.Deep.LoopGhost
import Derived.Laws.CopyRow
import Derived.Laws.IdiomCopy
import Derived.Maps.OwnSet
import Derived.Maps.RangeWalk
import Derived.Shelf.SortM.Plain
import Derived.Shelf.SortM.SortNone
import Derived.Ground.SlgmProg
import Derived.Maps.OwnOps
import Derived.Lib.ConvBytes
import Derived.OrdersIn
namespace Go.Proofs.YtnknihmchmmenaaGreat
set_option linter.unusedVariables false
set_option linter.unusedSimpArgs false
open Go Go.RowKit Go.Deep

attribute [local go_sem] Oper.semAt_some

set_option maxRecDepth 10000 in
set_option maxHeartbeats 1000000 in
theorem logFrom_nil (w : World) : Calls Tryz.prog 36 #[.pointer none, .int .i64 0, .int .i64 9] w fun e w' => e = .returned (.slice none 0 0) ∧ w' = w := by
  go_enter Tryz.func36, Tryz.ntmps36
  go_wp2_with fail
  go_loopw [7, 8] (fun v i wr => v = .slice none 0 0 ∧ i = .int .i64 0 ∧ wr = w) (fun _ _ _ => 0)
  case atStart => exact ⟨rfl, by simp, rfl⟩
  case round =>
    obtain ⟨rfl, rfl, rfl⟩ := hrel
    go_wp2_with (go_at_call 41; refine (logLen_nil _).mono ?_; rintro e w20 ⟨rfl, rfl⟩)
    go_ret
    exact ⟨rfl, by first | rfl | trivial⟩

/-- what holds between the law's statements: the result's cell -/
structure NilAt (w : World) (W : World) : Prop where
  keep : Keep No w W
  blk : W.heap[w.heap.size]? = some (.cells #[.bool false] 4 (0, 0))
theorem NilAt.more {w W W' : World} (h : NilAt w W) (hk : Keep No W W') : NilAt w W' := ⟨h.keep.trans hk, hk.blk h.blk (fun x => x)⟩
theorem NilAt.put {w W : World} (h : NilAt w W) {L : Nat} (hL : w.heap.size < L) (o : Obj) : NilAt w (W.putObj L o) := ⟨keep_putNew h.keep (by omega) o, (World.putObj_heap_other (by omega)).trans h.blk⟩

set_option maxRecDepth 20000 in
theorem each_ne_nil (b : Nat) (w : World) : (binOp .eql 28 (.func (.func 59) #[] #[.pointer (some ⟨b, 0, none⟩)]) .nilFunc).run Tryz.prog w = .ok (.bool false) w := by first | rfl | go_simp | kernel_rfl

set_option maxRecDepth 10000 in
set_option maxHeartbeats 4000000 in
theorem LogNil_calls (w : World) : Calls Tryz.prog 10 #[] w fun e w' => e = .returned (.bool true) ∧ Keep No w w' := by
  refine (callsIn_wide (n := 4)).1 ?_
  refine callsIn_of_wp_marks Tryz.func10 rfl trivial ?_ rfl
  simp only [Tryz.ntmps10, List.size_toArray, List.length_cons, List.length_nil, Nat.reduceAdd, Nat.reduceSub, Array.replicate_succ, Array.replicate_zero, List.push_toArray, List.append_toArray, List.nil_append, List.cons_append]
  refine wpIn_wide.2 ?_
  go_wp2_with fail
  have H0 : RowKit.Hid (NilAt w (w.alloc (.cells #[.bool false] 4))) := ⟨(Keep.refl No w).alloc _, blk_new _ _⟩
  generalize (w.alloc (.cells #[.bool false] 4)) = w0 at *
  refine (lplan_any w0 1 rfl).mono ?_
  rintro e w1 ⟨b1, rfl, H1⟩
  go_wp2_with fail
  refine (logAppend_nil _ _ _).mono ?_
  rintro e w2 ⟨rfl, hk2⟩
  have H2 := Lib.hid (H0.out.more ((H1.out.2.alloc _).trans hk2))
  clear H0 H1 hk2
  go_wp2_with fail
  refine (logAt_nil w2 0).mono ?_
  rintro e w3 ⟨cs, rfl, hr3, hk3⟩
  obtain ⟨a1, c1, a2, c2, a3, c3, ec0⟩ := ent_array hr3
  obtain ⟨n1, n2, n3, n4, t5, m1, n7, m2, m3, ec⟩ : ∃ (n1 n2 n3 n4 : Int) (t5 : ByteArray) (m1 : Nat) (n7 : Int) (m2 m3 : Nat), cs = #[.int .i64 n1, .int .i64 n2, .int .i64 n3, .int .u64 n4, .string t5, .slice a1 m1 c1, .int .i64 n7, .slice a2 m2 c2, .slice a3 m3 c3] := ⟨_, _, _, _, _, _, _, _, _, ec0⟩
  clear ec0
  subst ec
  have H3 := Lib.hid (H2.out.more hk3)
  clear H2 hr3 hk3
  go_wp2_with fail
  refine (logEach_any _ _).mono ?_
  rintro e w4 ⟨rfl, rfl⟩
  have H4 := Lib.hid ((H3.out.more ((Keep.refl No w3).alloc (.cells #[.int .i64 n1, .int .i64 n2, .int .i64 n3, .int .u64 n4, .string t5, .slice a1 m1 c1, .int .i64 n7, .slice a2 m2 c2, .slice a3 m3 c3] 40))).more ((Keep.refl No _).alloc (.cells #[.pointer none] 23)))
  obtain ⟨bx, hbx⟩ : ∃ bx, (w3.alloc (.cells #[.int .i64 n1, .int .i64 n2, .int .i64 n3, .int .u64 n4, .string t5, .slice a1 m1 c1, .int .i64 n7, .slice a2 m2 c2, .slice a3 m3 c3] 40)).heap.size = bx := ⟨_, rfl⟩
  rw [hbx]
  generalize ((w3.alloc (.cells #[.int .i64 n1, .int .i64 n2, .int .i64 n3, .int .u64 n4, .string t5, .slice a1 m1 c1, .int .i64 n7, .slice a2 m2 c2, .slice a3 m3 c3] 40)).alloc (.cells #[.pointer none] 23)) = w4 at *
  clear H3 hbx
  have hfn := each_ne_nil
  go_wp2_with fail
  refine (logEach_any _ _).mono ?_
  rintro e w5 ⟨rfl, rfl⟩
  have H5 := Lib.hid (And.intro (H4.out.more ((Keep.refl No w4).alloc (.cells #[.pointer none] 23))) (blk_new w4 (.cells #[.pointer none] 23)))
  obtain ⟨by', hby⟩ : ∃ by', w4.heap.size = by' := ⟨_, rfl⟩
  rw [hby] at H5 ⊢
  generalize (w4.alloc (.cells #[.pointer none] 23)) = w5 at *
  clear H4 hby
  go_wp2_with fail
  refine (wpIn_wide (n := 4)).1 ?_
  refine wpIn_rangeT (gf := 59) (lb := #[.pointer (some ⟨by', 0, none⟩)]) rfl (enters_of Tryz.func59 (by kernel_rfl) rfl) (by omega) 0 (fun _ _ _ => False) (fun _ W => NilAt w W ∧ w5.heap.size + 2 ≤ W.heap.size ∧ w.heap.size < w5.heap.size) (fun _ _ _ => False)
    (fun _ _ _ _ _ h => h) (fun k A C h hk => ⟨h.1.more hk, Nat.le_trans h.2.1 hk.size, h.2.2⟩) (fun k W o _ h => ⟨h.1.put (by have := h.2.2; omega) o, by rw [size_put]; exact h.2.1, h.2.2⟩) (fun _ _ _ _ _ h => h) ?h0 ?hseq
    (fun _ _ _ => False) (fun _ _ _ _ _ h _ _ => h.elim) (fun _ _ _ _ h _ => h.elim) (fun _ _ _ _ h _ => h.elim) (fun _ _ _ _ h => absurd h (Nat.not_lt_zero _)) ?done (fun _ _ _ _ h _ => h.elim)
  case h0 =>
    intro W hk hs
    exact ⟨H5.out.1.more hk, by omega, blk_lt H5.out.1.blk⟩
  case hseq =>
    intro W1 J Jx hk hs hJI hJK hY hJ0
    exact (each1_nil 3 _ by' W1 (blk_cell (hk.blk H5.out.2 (fun x => x)) 0)).mono fun e W' h => ⟨h.1, .inl (by rw [h.2]; exact hJ0)⟩
  case done =>
    intro W hI hD
    have HI := Lib.hid hI
    have HD := Lib.hid hD
    clear hI hD H5 hfn
    generalize w5.heap.size = D at *
    go_wp2_with (first | (go_at_call 52; refine (ixEpoch_nil _ _).mono ?_; rintro e w20 ⟨rfl, rfl⟩) | (go_at_call 53; refine (ixFind_nil _ _ _).mono ?_; rintro e w20 ⟨rfl, rfl⟩) | (go_at_call 57; refine (ixLast_nil _ _ _).mono ?_; rintro e w20 ⟨rfl, rfl⟩))
    refine (ixAdd_nil _ _ _ _ _ _ _ _ _ _).mono ?_
    rintro e w21 ⟨rfl, hk21⟩
    have HN := Lib.hid (And.intro (HI.out.1.more hk21) (And.intro (hk21.blk HD.out (fun x => x)) HI.out.2.2))
    clear HI HD hk21
    go_wp2_with (first | (go_at_call 25; refine (lnum_any _ _).mono ?_; rintro e w30 ⟨rfl, rfl⟩) | (go_at_call 58; refine (ixLen_nil _).mono ?_; rintro e w30 ⟨rfl, rfl⟩) | (go_at_call 49; refine (ixClient_nil _ _).mono ?_; rintro e w30 ⟨rfl, rfl⟩) | (go_at_call 50; refine (ixName_nil _ _).mono ?_; rintro e w30 ⟨rfl, rfl⟩) | (go_at_call 46; refine (ixReaders_nil _ _).mono ?_; rintro e w30 ⟨rfl, rfl⟩) | (go_at_call 47; refine (ixWriters_nil _ _).mono ?_; rintro e w30 ⟨rfl, rfl⟩))
    refine (live_any _).mono ?_
    rintro e w40 ⟨rfl, hk40⟩
    have HM := Lib.hid (And.intro (HN.out.1.more hk40) (And.intro (hk40.blk HN.out.2.1 (fun x => x)) HN.out.2.2))
    clear HN hk40
    have c40 := blk_cell HM.out.1.blk
    have f40 := blk_fro HM.out.1.blk
    go_wp2_with (first | (go_at_call 25; refine (lnum_any _ _).mono ?_; rintro e w30 ⟨rfl, rfl⟩) | (go_at_call 41; refine (logLen_nil _).mono ?_; rintro e w30 ⟨rfl, rfl⟩) | (go_at_call 15; refine (logEpoch_nil _).mono ?_; rintro e w30 ⟨rfl, rfl⟩) | (go_at_call 36; refine (logFrom_nil _).mono ?_; rintro e w30 ⟨rfl, rfl⟩) | (go_at_call 42; refine (logBytes_nil _).mono ?_; rintro e w30 ⟨rfl, rfl⟩))
    have hDR : ¬ w.heap.size = D := by have := HM.out.2.2; omega
    have z := blk_set HM.out.1.blk 0 (.bool true)
    have ks := keep_set w30 w.heap.size 0 (.bool true)
    have hd := blk_other HM.out.2.1 (a := ⟨w.heap.size, 0, none⟩) hDR (.bool true)
    have K := (HM.out.1.keep).then ks fun i hi e => by have : i = w.heap.size := e; omega
    have hwd := HM.out.2.2
    generalize (w30.setCell ⟨w.heap.size, 0, none⟩ (.bool true)) = w50 at *
    have z2 : (w50.putObj D (.deferred none)).heap[w.heap.size]? = some (.cells #[.bool true] 4 (0, 0)) := (World.putObj_heap_other (by omega)).trans (by simpa using z)
    have c50 := blk_cell z2
    have K2 := keep_putNew K (L := D) (by omega) (.deferred none)
    refine ⟨by simp, .inl ⟨_, _, rfl, run_takeDeferred hd, ?_⟩⟩
    refine ⟨.bool true, ?_, rfl, K2⟩
    simp [results, Tryz.results10, go_sem, c50]
end Go.Proofs.YtnknihmchmmenaaGreat
