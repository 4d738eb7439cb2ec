/-
  Parts of what is proved for this claim; each declaration is one of the seat's texts.
-/
import Derived.Test.YtcallmnhaikfpaaGreatDoorTGA
import Derived.Test.YtcallmnhaikfpaaGreatDoorTGC
import Derived.Test.YtcallmnhaikfpaaGreatDoorTGF
import Derived.Test.YtcallmnhaikfpaaGreatDoorTGG
import Derived.Test.YtcallmnhaikfpaaGreatDoorTGH
import Derived.Test.YtcallmnhaikfpaaGreatDoorTGI
import Derived.Test.YtcallmnhaikfpaaGreatDoorTGJ
import Derived.Test.YtcallmnhaikfpaaGreatDoorTGK
import Derived.Still
import Derived.StillTactics
import Derived.WalkKit
import Derived.WalkSpells
import Derived.WalkLawsBesides
import Derived.ProofKit
import Derived.Deep.Slices
import Derived.Deep.AppendSrc
import Derived.Lib.Hide
import Derived.Recover
import Derived.Defers
import Derived.Deep.QuietTactic
import Derived.BigQuiet
import Derived.Handy
import Derived.Laws.Bits64b
import Derived.Lib.Zigzag
import Derived.OwnWalk
import Derived.Deep.DeepCutAuto
set_option linter.unusedVariables false
set_option linter.unusedSimpArgs false
namespace Go.Proofs.YtcallmnhaikfpaaGreatDoor
open Go Go.RowKit Go.Deep
theorem byte_range {r : Rs} (h : r.Ok) : 0 ≤ r.byte.1 ∧ r.byte.1 < 256 := by
  unfold Rs.byte
  split
  · exact ⟨by simp, by simp⟩
  · cases hr : r.rest with
    | nil => exact ⟨by simp, by simp⟩
    | cons c t => exact h.rest c (by rw [hr]; exact List.mem_cons_self)
theorem blk_val {w : World} {b : Nat} {x y z : Value} {t : TypeId} (h : w.heap[b]? = some (.cells #[x, y, z] t (0, 0))) (x' y' z' : Value) :
    (((w.setCell ⟨b, 0, none⟩ x').setCell ⟨b, 1, none⟩ y').setCell ⟨b, 2, none⟩ z').heap[b]? = some (.cells #[x', y', z'] t (0, 0)) := by
  have := blk_set (blk_set (blk_set h 0 x') 1 y') 2 z'
  simpa using this
theorem RdrAt.other3 {T : TypeId} {w : World} {B : Nat} {S : Nat → Prop} {v : Value} {r : Rs} (h : RdrAt T w B S v r) {b : Nat} (hb : ¬ b = B) (hS : ¬ S b) (x y z : Value) :
    RdrAt T (((w.setCell ⟨b, 0, none⟩ x).setCell ⟨b, 1, none⟩ y).setCell ⟨b, 2, none⟩ z) B S v r := ((h.other hb hS x).other hb hS y).other hb hS z
theorem Keep.setNew3 {M : Nat → Prop} {a w : World} (h : Keep M a w) {b : Nat} (hb : a.heap.size ≤ b) (x y z : Value) :
    Keep M a (((w.setCell ⟨b, 0, none⟩ x).setCell ⟨b, 1, none⟩ y).setCell ⟨b, 2, none⟩ z) := ((h.setNew (p := ⟨b, 0, none⟩) hb x).setNew (p := ⟨b, 1, none⟩) hb y).setNew (p := ⟨b, 2, none⟩) hb z
theorem blk_other3 {w : World} {b b' : Nat} {o : Obj} (h : w.heap[b]? = some o) (hn : ¬ b' = b) (x y z : Value) :
    (((w.setCell ⟨b', 0, none⟩ x).setCell ⟨b', 1, none⟩ y).setCell ⟨b', 2, none⟩ z).heap[b]? = some o := blk_other (blk_other (blk_other h (show (⟨b', 0, none⟩ : Addr).block ≠ b from hn) x) (show (⟨b', 1, none⟩ : Addr).block ≠ b from hn) y) (show (⟨b', 2, none⟩ : Addr).block ≠ b from hn) z
set_option maxRecDepth 10000 in
set_option maxHeartbeats 4000000 in
theorem Take_any (w : World) (B : Nat) (S : Nat → Prop) (v : Value) (r : Rs) (h : RdrAt 141 w B S v r) :
    Calls Tryz.prog 103 #[.pointer (some ⟨B, 0, none⟩)] w (Reads 141 w B S v (takeV r).1.agg (takeV r).2) := by
  have lB := h.lt
  have hnB := h.nB
  have k2 := (((Keep.refl (One B) w).alloc (.cells #[.int .i64 0, .int .i64 0, .string ⟨#[]⟩] 84)).alloc (.cells #[.int .i64 0, .int .i64 0, .string ⟨#[]⟩] 84))
  have h2 := h.live.agree (((Keep.refl No w).alloc (.cells #[.int .i64 0, .int .i64 0, .string ⟨#[]⟩] 84)).alloc (.cells #[.int .i64 0, .int .i64 0, .string ⟨#[]⟩] 84))
  have x2 := blk_alloc (o' := .cells #[.int .i64 0, .int .i64 0, .string ⟨#[]⟩] 84) (blk_new w (.cells #[.int .i64 0, .int .i64 0, .string ⟨#[]⟩] 84))
  have x3 := blk_new (w.alloc (.cells #[.int .i64 0, .int .i64 0, .string ⟨#[]⟩] 84)) (.cells #[.int .i64 0, .int .i64 0, .string ⟨#[]⟩] 84)
  simp only [World.size_alloc] at x3
  have hb := Byte_any _ B _ v r h2
  have hr := byte_range h.ok
  have hS2 : ¬ (S w.heap.size ∧ w.heap.size < w.heap.size) := fun hh => by omega
  have hS3 : ¬ (S (w.heap.size + 1) ∧ w.heap.size + 1 < w.heap.size) := fun hh => by omega
  have n2 : ¬ w.heap.size = B := by omega
  have n3 : ¬ w.heap.size + 1 = B := by omega
  have n4 : ¬ w.heap.size = w.heap.size + 1 := by omega
  have n5 : ¬ w.heap.size + 1 = w.heap.size := by omega
  have g3 : w.heap.size ≤ w.heap.size + 1 := by omega
  have HT : takeV r = takeV r := rfl
  conv at HT => rhs; unfold takeV
  generalize hc : r.byte.1 = c at hb hr HT
  generalize r.byte.2 = r1 at hb HT
  clear h h2 hc
  have hb' := hb.mono (R' := fun e w1 => e = .returned (.int .u8 c) ∧ w1.heap[w.heap.size]? = some (.cells #[.int .i64 0, .int .i64 0, .string ⟨#[]⟩] 84 (0, 0)) ∧ w1.heap[w.heap.size + 1]? = some (.cells #[.int .i64 0, .int .i64 0, .string ⟨#[]⟩] 84 (0, 0)) ∧ RdrAt 141 w1 B (fun k => S k ∧ k < w.heap.size) v r1 ∧ Keep (One B) w w1) (by
    rintro e w1 ⟨rfl, hr1, hk1⟩
    exact ⟨rfl, hk1.blk x2 (fun hh => n2 hh), hk1.blk x3 (fun hh => n3 hh), hr1, k2.trans hk1⟩)
  clear hb k2 x2 x3
  generalize hb2 : w.heap.size = b2 at *
  have HX := Lib.hid (And.intro hnB (And.intro hS2 (And.intro hS3 (And.intro hb2 g3))))
  clear hnB hS2 hS3 g3 lB
  by_cases c1 : c = 1
  · subst c1
    rw [if_pos rfl] at HT
    have HTT := Lib.hid HT
    clear HT hr
    go_enter Tryz.func103, Tryz.ntmps103
    go_wp2_with fail
    refine hb'.mono ?_
    clear hb'
    rintro e w1 ⟨rfl, x2, x3, hr1, hk1⟩
    go_wp2_with fail
    refine (Int_any w1 B _ v r1 hr1).mono ?_
    rintro e w2 ⟨rfl, hr2, hk2⟩
    replace x2 := hk2.blk x2 (fun hh => n2 hh)
    replace x3 := hk2.blk x3 (fun hh => n3 hh)
    replace hk1 := hk1.trans hk2
    clear hr1 hk2
    generalize r1.int.1 = n at *
    generalize r1.int.2 = r2 at *
    go_wp2_with fail
    refine (Of_any n w2).mono ?_
    rintro e w3 ⟨rfl, hk3⟩
    replace x2 := hk3.blk x2 (fun hh => hh)
    replace x3 := hk3.blk x3 (fun hh => hh)
    replace hk1 := hk1.thenNo hk3
    replace hr2 := hr2.agree hk3
    clear hk3
    have f3 := blk_cell x3
    have z3 := blk_fro x3
    go_wp2_with fail
    replace x2 := blk_other3 x2 (b' := b2 + 1) (fun hh => n5 hh) (.int .i64 (mkVal 1 n noText).kind) (.int .i64 (mkVal 1 n noText).num) (.string (mkVal 1 n noText).text)
    have hr4 := hr2.other3 (b := b2 + 1) (fun hh => n3 hh) HX.2.2.1 (.int .i64 (mkVal 1 n noText).kind) (.int .i64 (mkVal 1 n noText).num) (.string (mkVal 1 n noText).text)
    have hk4 := hk1.setNew3 (b := b2 + 1) (by omega) (.int .i64 (mkVal 1 n noText).kind) (.int .i64 (mkVal 1 n noText).num) (.string (mkVal 1 n noText).text)
    replace x3 := blk_val x3 (.int .i64 (mkVal 1 n noText).kind) (.int .i64 (mkVal 1 n noText).num) (.string (mkVal 1 n noText).text)
    clear hr2 hk1 f3 z3
    generalize (((w3.setCell ⟨b2 + 1, 0, none⟩ (.int .i64 (mkVal 1 n noText).kind)).setCell ⟨b2 + 1, 1, none⟩ (.int .i64 (mkVal 1 n noText).num)).setCell ⟨b2 + 1, 2, none⟩ (.string (mkVal 1 n noText).text)) = w4 at *
    have q2 := blk_cell x2
    have f2 := blk_fro x2
    have q3 := blk_cell x3
    clear x3
    refine (Why_any w4 B _ v r2 hr4).mono ?_
    rintro e w5 ⟨m, rfl, rfl⟩
    by_cases he : r2.err = 0
    · have e1 : orNone (mkVal 1 n noText) r2 = ((mkVal 1 n noText), r2) := by unfold orNone; rw [if_neg (by simpa using he)]
      rw [he]
      go_wp2
      have y2 := blk_val (w := w4.drewN m) x2 (.int .i64 ((mkVal 1 n noText)).kind) (.int .i64 ((mkVal 1 n noText)).num) (.string ((mkVal 1 n noText)).text)
      have s2 := blk_cell y2
      have s0 := s2 0
      have s1 := s2 1
      have s22 := s2 2
      simp at s0 s1 s22
      refine bodyPost_ret (v := ((mkVal 1 n noText)).agg) (by simp [results, Tryz.results103, go_sem, s0, s1, s22]) rfl ?_
      rw [show takeV r = _ from HTT, e1]
      exact ⟨rfl, (((hr4.drewN m).other3 (fun hh => n2 hh) HX.2.1 _ _ _)).mono (fun _ _ hs => hs.1) HX.1, (hk4.drewN m).setNew3 (by omega) _ _ _⟩
    · have e1 : orNone (mkVal 1 n noText) r2 = (val0, r2) := by unfold orNone; rw [if_pos he]
      have d1 : (r2.err != 0) = true := by simpa using he
      go_wp2
      have y2 := blk_val (w := w4.drewN m) x2 (.int .i64 0) (.int .i64 0) (.string ⟨#[]⟩)
      have s2 := blk_cell y2
      have s0 := s2 0
      have s1 := s2 1
      have s22 := s2 2
      simp at s0 s1 s22
      refine bodyPost_ret (v := .agg #[.int .i64 0, .int .i64 0, .string ⟨#[]⟩]) (by simp [results, Tryz.results103, go_sem, s0, s1, s22]) rfl ?_
      rw [show takeV r = _ from HTT, e1]
      exact ⟨rfl, (((hr4.drewN m).other3 (fun hh => n2 hh) HX.2.1 _ _ _)).mono (fun _ _ hs => hs.1) HX.1, (hk4.drewN m).setNew3 (by omega) _ _ _⟩
  · rw [if_neg c1] at HT
    have d1 : (c == 1) = false := by simpa using c1
    by_cases c2 : c = 2
    · subst c2
      rw [if_pos rfl] at HT
      have HTT := Lib.hid HT
      clear HT hr d1 c1
      go_enter Tryz.func103, Tryz.ntmps103
      go_wp2_with fail
      refine hb'.mono ?_
      clear hb'
      rintro e w1 ⟨rfl, x2, x3, hr1, hk1⟩
      go_wp2_with fail
      refine (Text_any w1 B _ v r1 hr1 64 (by omega) (by omega)).mono ?_
      rintro e w2 ⟨rfl, hr2, hk2⟩
      replace x2 := hk2.blk x2 (fun hh => n2 hh)
      replace x3 := hk2.blk x3 (fun hh => n3 hh)
      replace hk1 := hk1.trans hk2
      have hsz : (r1.text 64).1.size ≤ 9223372036854775807 := Nat.le_trans (text_le r1 64) (by omega)
      clear hr1 hk2
      generalize (r1.text 64).1 = s at *
      generalize (r1.text 64).2 = r2 at *
      go_wp2_with fail
      refine (Word_any s w2).mono ?_
      rintro e w3 ⟨rfl, hk3⟩
      replace x2 := hk3.blk x2 (fun hh => hh)
      replace x3 := hk3.blk x3 (fun hh => hh)
      replace hk1 := hk1.thenNo hk3
      replace hr2 := hr2.agree hk3
      clear hk3
      have f3 := blk_cell x3
      have z3 := blk_fro x3
      have HZ := Lib.hid hsz
      clear hsz
      go_wp2_with fail
      replace x2 := blk_other3 x2 (b' := b2 + 1) (fun hh => n5 hh) (.int .i64 (mkVal 2 0 s).kind) (.int .i64 (mkVal 2 0 s).num) (.string (mkVal 2 0 s).text)
      have hr4 := hr2.other3 (b := b2 + 1) (fun hh => n3 hh) HX.2.2.1 (.int .i64 (mkVal 2 0 s).kind) (.int .i64 (mkVal 2 0 s).num) (.string (mkVal 2 0 s).text)
      have hk4 := hk1.setNew3 (b := b2 + 1) (by omega) (.int .i64 (mkVal 2 0 s).kind) (.int .i64 (mkVal 2 0 s).num) (.string (mkVal 2 0 s).text)
      replace x3 := blk_val x3 (.int .i64 (mkVal 2 0 s).kind) (.int .i64 (mkVal 2 0 s).num) (.string (mkVal 2 0 s).text)
      clear hr2 hk1 f3 z3
      refine (printable_any s HZ _).mono ?_
      rintro e w4 ⟨rfl, rfl⟩
      generalize (((w3.setCell ⟨b2 + 1, 0, none⟩ (.int .i64 (mkVal 2 0 s).kind)).setCell ⟨b2 + 1, 1, none⟩ (.int .i64 (mkVal 2 0 s).num)).setCell ⟨b2 + 1, 2, none⟩ (.string (mkVal 2 0 s).text)) = w4 at *
      cases hp : plainB s with
      | true =>
        rw [hp] at HTT
        simp only [if_true] at HTT
        clear hp
        go_wp2_with fail
        have q2 := blk_cell x2
        have f2 := blk_fro x2
        have q3 := blk_cell x3
        clear x3
        refine (Why_any w4 B _ v r2 hr4).mono ?_
        rintro e w5 ⟨m, rfl, rfl⟩
        by_cases he : r2.err = 0
        · have e1 : orNone (mkVal 2 0 s) r2 = ((mkVal 2 0 s), r2) := by unfold orNone; rw [if_neg (by simpa using he)]
          rw [he]
          go_wp2
          have y2 := blk_val (w := w4.drewN m) x2 (.int .i64 (mkVal 2 0 s).kind) (.int .i64 (mkVal 2 0 s).num) (.string (mkVal 2 0 s).text)
          have s2 := blk_cell y2
          have s0 := s2 0
          have s1 := s2 1
          have s22 := s2 2
          simp at s0 s1 s22
          refine bodyPost_ret (v := .agg #[.int .i64 (mkVal 2 0 s).kind, .int .i64 (mkVal 2 0 s).num, .string (mkVal 2 0 s).text]) (by simp [results, Tryz.results103, go_sem, s0, s1, s22]) rfl ?_
          rw [show takeV r = _ from HTT, e1]
          exact ⟨rfl, (((hr4.drewN m).other3 (fun hh => n2 hh) HX.2.1 _ _ _)).mono (fun _ _ hs => hs.1) HX.1, (hk4.drewN m).setNew3 (by omega) _ _ _⟩
        · have e1 : orNone (mkVal 2 0 s) r2 = (val0, r2) := by unfold orNone; rw [if_pos he]
          have d1 : (r2.err != 0) = true := by simpa using he
          go_wp2
          have y2 := blk_val (w := w4.drewN m) x2 (.int .i64 0) (.int .i64 0) (.string ⟨#[]⟩)
          have s2 := blk_cell y2
          have s0 := s2 0
          have s1 := s2 1
          have s22 := s2 2
          simp at s0 s1 s22
          refine bodyPost_ret (v := .agg #[.int .i64 0, .int .i64 0, .string ⟨#[]⟩]) (by simp [results, Tryz.results103, go_sem, s0, s1, s22]) rfl ?_
          rw [show takeV r = _ from HTT, e1]
          exact ⟨rfl, (((hr4.drewN m).other3 (fun hh => n2 hh) HX.2.1 _ _ _)).mono (fun _ _ hs => hs.1) HX.1, (hk4.drewN m).setNew3 (by omega) _ _ _⟩
      | false =>
        rw [hp] at HTT
        simp only [Bool.false_eq_true, if_false] at HTT
        clear hp
        go_wp2_with fail
        refine (Fail_any w4 B _ v r2 hr4 20 (by omega) (by omega)).mono ?_
        rintro e w6 ⟨rfl, hr6, hk6⟩
        replace x2 := hk6.blk x2 (fun hh => n2 hh)
        replace x3 := hk6.blk x3 (fun hh => n3 hh)
        replace hk4 := hk4.trans hk6
        clear hr4 hk6
        go_wp2_with fail
        have q2 := blk_cell x2
        have f2 := blk_fro x2
        have q3 := blk_cell x3
        clear x3
        refine (Why_any w6 B _ v (r2.fail 20) hr6).mono ?_
        rintro e w5 ⟨m, rfl, rfl⟩
        by_cases he : (r2.fail 20).err = 0
        · have e1 : orNone (mkVal 2 0 s) (r2.fail 20) = ((mkVal 2 0 s), (r2.fail 20)) := by unfold orNone; rw [if_neg (by simpa using he)]
          rw [he]
          go_wp2
          have y2 := blk_val (w := w6.drewN m) x2 (.int .i64 (mkVal 2 0 s).kind) (.int .i64 (mkVal 2 0 s).num) (.string (mkVal 2 0 s).text)
          have s2 := blk_cell y2
          have s0 := s2 0
          have s1 := s2 1
          have s22 := s2 2
          simp at s0 s1 s22
          refine bodyPost_ret (v := .agg #[.int .i64 (mkVal 2 0 s).kind, .int .i64 (mkVal 2 0 s).num, .string (mkVal 2 0 s).text]) (by simp [results, Tryz.results103, go_sem, s0, s1, s22]) rfl ?_
          rw [show takeV r = _ from HTT, e1]
          exact ⟨rfl, (((hr6.drewN m).other3 (fun hh => n2 hh) HX.2.1 _ _ _)).mono (fun _ _ hs => hs.1) HX.1, (hk4.drewN m).setNew3 (by omega) _ _ _⟩
        · have e1 : orNone (mkVal 2 0 s) (r2.fail 20) = (val0, (r2.fail 20)) := by unfold orNone; rw [if_pos he]
          have d1 : ((r2.fail 20).err != 0) = true := by simpa using he
          go_wp2
          have y2 := blk_val (w := w6.drewN m) x2 (.int .i64 0) (.int .i64 0) (.string ⟨#[]⟩)
          have s2 := blk_cell y2
          have s0 := s2 0
          have s1 := s2 1
          have s22 := s2 2
          simp at s0 s1 s22
          refine bodyPost_ret (v := .agg #[.int .i64 0, .int .i64 0, .string ⟨#[]⟩]) (by simp [results, Tryz.results103, go_sem, s0, s1, s22]) rfl ?_
          rw [show takeV r = _ from HTT, e1]
          exact ⟨rfl, (((hr6.drewN m).other3 (fun hh => n2 hh) HX.2.1 _ _ _)).mono (fun _ _ hs => hs.1) HX.1, (hk4.drewN m).setNew3 (by omega) _ _ _⟩
    · rw [if_neg c2] at HT
      have d2 : (c == 2) = false := by simpa using c2
      by_cases c3 : c = 0
      · subst c3
        rw [if_pos rfl] at HT
        have HTT := Lib.hid HT
        clear HT hr d1 c1 c2 d2
        go_enter Tryz.func103, Tryz.ntmps103
        go_wp2_with fail
        refine hb'.mono ?_
        clear hb'
        rintro e w4 ⟨rfl, x2, x3, hr4, hk4⟩
        go_wp2_with fail
        have q2 := blk_cell x2
        have f2 := blk_fro x2
        have q3 := blk_cell x3
        clear x3
        refine (Why_any w4 B _ v r1 hr4).mono ?_
        rintro e w5 ⟨m, rfl, rfl⟩
        by_cases he : r1.err = 0
        · have e1 : orNone val0 r1 = (val0, r1) := by unfold orNone; rw [if_neg (by simpa using he)]
          rw [he]
          go_wp2
          have y2 := blk_val (w := w4.drewN m) x2 (.int .i64 0) (.int .i64 0) (.string ⟨#[]⟩)
          have s2 := blk_cell y2
          have s0 := s2 0
          have s1 := s2 1
          have s22 := s2 2
          simp at s0 s1 s22
          refine bodyPost_ret (v := .agg #[.int .i64 0, .int .i64 0, .string ⟨#[]⟩]) (by simp [results, Tryz.results103, go_sem, s0, s1, s22]) rfl ?_
          rw [show takeV r = _ from HTT, e1]
          exact ⟨rfl, (((hr4.drewN m).other3 (fun hh => n2 hh) HX.2.1 _ _ _)).mono (fun _ _ hs => hs.1) HX.1, (hk4.drewN m).setNew3 (by omega) _ _ _⟩
        · have e1 : orNone val0 r1 = (val0, r1) := by unfold orNone; rw [if_pos he]
          have d1 : (r1.err != 0) = true := by simpa using he
          go_wp2
          have y2 := blk_val (w := w4.drewN m) x2 (.int .i64 0) (.int .i64 0) (.string ⟨#[]⟩)
          have s2 := blk_cell y2
          have s0 := s2 0
          have s1 := s2 1
          have s22 := s2 2
          simp at s0 s1 s22
          refine bodyPost_ret (v := .agg #[.int .i64 0, .int .i64 0, .string ⟨#[]⟩]) (by simp [results, Tryz.results103, go_sem, s0, s1, s22]) rfl ?_
          rw [show takeV r = _ from HTT, e1]
          exact ⟨rfl, (((hr4.drewN m).other3 (fun hh => n2 hh) HX.2.1 _ _ _)).mono (fun _ _ hs => hs.1) HX.1, (hk4.drewN m).setNew3 (by omega) _ _ _⟩
      · rw [if_neg c3] at HT
        have HTT := Lib.hid HT
        have d3 : c > 2 := by omega
        clear HT hr c1 c2 c3
        go_enter Tryz.func103, Tryz.ntmps103
        go_wp2_with fail
        refine hb'.mono ?_
        clear hb'
        rintro e w1 ⟨rfl, x2, x3, hr1, hk1⟩
        go_wp2_with fail
        refine (Fail_any w1 B _ v r1 hr1 20 (by omega) (by omega)).mono ?_
        rintro e w4 ⟨rfl, hr4, hk6⟩
        replace x2 := hk6.blk x2 (fun hh => n2 hh)
        replace x3 := hk6.blk x3 (fun hh => n3 hh)
        have hk4 := hk1.trans hk6
        clear hr1 hk6 hk1
        go_wp2_with fail
        have q2 := blk_cell x2
        have f2 := blk_fro x2
        have q3 := blk_cell x3
        clear x3
        refine (Why_any w4 B _ v (r1.fail 20) hr4).mono ?_
        rintro e w5 ⟨m, rfl, rfl⟩
        by_cases he : (r1.fail 20).err = 0
        · have e1 : orNone val0 (r1.fail 20) = (val0, (r1.fail 20)) := by unfold orNone; rw [if_neg (by simpa using he)]
          rw [he]
          go_wp2
          have y2 := blk_val (w := w4.drewN m) x2 (.int .i64 0) (.int .i64 0) (.string ⟨#[]⟩)
          have s2 := blk_cell y2
          have s0 := s2 0
          have s1 := s2 1
          have s22 := s2 2
          simp at s0 s1 s22
          refine bodyPost_ret (v := .agg #[.int .i64 0, .int .i64 0, .string ⟨#[]⟩]) (by simp [results, Tryz.results103, go_sem, s0, s1, s22]) rfl ?_
          rw [show takeV r = _ from HTT, e1]
          exact ⟨rfl, (((hr4.drewN m).other3 (fun hh => n2 hh) HX.2.1 _ _ _)).mono (fun _ _ hs => hs.1) HX.1, (hk4.drewN m).setNew3 (by omega) _ _ _⟩
        · have e1 : orNone val0 (r1.fail 20) = (val0, (r1.fail 20)) := by unfold orNone; rw [if_pos he]
          have d1 : ((r1.fail 20).err != 0) = true := by simpa using he
          go_wp2
          have y2 := blk_val (w := w4.drewN m) x2 (.int .i64 0) (.int .i64 0) (.string ⟨#[]⟩)
          have s2 := blk_cell y2
          have s0 := s2 0
          have s1 := s2 1
          have s22 := s2 2
          simp at s0 s1 s22
          refine bodyPost_ret (v := .agg #[.int .i64 0, .int .i64 0, .string ⟨#[]⟩]) (by simp [results, Tryz.results103, go_sem, s0, s1, s22]) rfl ?_
          rw [show takeV r = _ from HTT, e1]
          exact ⟨rfl, (((hr4.drewN m).other3 (fun hh => n2 hh) HX.2.1 _ _ _)).mono (fun _ _ hs => hs.1) HX.1, (hk4.drewN m).setNew3 (by omega) _ _ _⟩
end Go.Proofs.YtcallmnhaikfpaaGreatDoor
