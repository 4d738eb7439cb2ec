/-
  Parts of what is proved for this claim; each declaration is one of the seat's texts.
-/
import Derived.Test.YtpjcebajkfeacaaGreatDoorBGA
import Derived.Test.YtpjcebajkfeacaaGreatDoorBGB
import Derived.Test.YtpjcebajkfeacaaGreatDoorBGC
import Derived.Test.YtpjcebajkfeacaaGreatDoorBGG
import Derived.Test.YtpjcebajkfeacaaGreatDoorBGK
import Derived.Test.YtpjcebajkfeacaaGreatDoorBGV
import Derived.Test.YtpjcebajkfeacaaGreatDoorBHA
import Derived.Test.YtpjcebajkfeacaaGreatDoorBHB
import Derived.WalkKit
import Derived.WalkSpells
import Derived.WalkLawsBesides
import Derived.ProofKit
import Derived.Deep.Slices
import Derived.Deep.AppendSrc
import Derived.Lib.Hide
import Derived.Lib.ItoaNum
import Derived.Lib.Join
import Derived.Still
import Derived.StillTactics
import Derived.Recover
import Derived.Defers
import Derived.Deep.QuietTactic
import Derived.BigQuiet
import Derived.Handy
import Derived.Laws.Bits64b
import Derived.Lib.Zigzag
import Derived.OwnWalk
import Derived.Deep.DeepCutAuto
import Derived.Deep.LoopGhost
import Derived.Lib.Bytealg
import Derived.Laws.Externs
import Derived.Laws.CopyRow
import Derived.Laws.IdiomCopy
import Derived.Maps.OwnSet
import Derived.Maps.RangeWalk
import Derived.Shelf.SortM.Plain
import Derived.Shelf.SortM.SortNone
import Derived.Ground.SlgmProg
import Derived.Deep.WholeRow
import Derived.Maps.OwnOps
set_option linter.unusedVariables false
set_option linter.unusedSimpArgs false
namespace Go.Proofs.YtpjcebajkfeacaaGreatDoor
open Go Go.RowKit Go.Deep
theorem Tryz.infoI : (Tryz.prog.info? 3).map (fun i => (i.zero, i.size, i.bytes)) = some (some (.int .i64 0), 1, 8) := by kernel_rfl
theorem find_idle (p q s : Addr) (w : World) :
    CallsD Tryz.prog 253 #[.pointer (some p), .pointer (some q), .pointer (some s)] .returning w fun e u' w' => e = .returned (.tuple #[]) ∧ u' = .returning ∧ w' = w := by
  refine callsD_of_wpS Tryz.func253 rfl fun c₀ cs hu => ?_
  apply wpS_seq
  apply wpS_region
  simp [wpOpsS, go_sem, recoverD, hu, Tryz.ntmps253, Exit.thenS]
  apply wpS_seq
  apply wpS_region
  simp [wpOpsS, go_sem, Exit.thenS]
  refine wpS_cond (t := false) (by simp [Act.eval, Array.replicate]) ?_
  simp only [Bool.false_eq_true, if_false]
  refine wpS_of_wp (wp_skip ?_)
  cases c₀
  simp_all [bodyPostS, results, Tryz.results253]
def CkAt (w : World) (b : Nat) (v : Value) (d : Int) (lk : Bool) : Prop :=
  ∃ cur : Array Value, w.heap[b]? = some (.cells cur 303 (0, 0)) ∧ cur.size = 515 ∧ cur[2]? = some v ∧ cur[3]? = some (.int .i64 d) ∧ cur[259]? = some (.bool lk)
theorem CkAt.keep {w w' : World} {b : Nat} {v : Value} {d : Int} {lk : Bool} (h : CkAt w b v d lk) (hk : Keep No w w') : CkAt w' b v d lk := by
  obtain ⟨cur, h1, h2⟩ := h
  exact ⟨cur, hk.blk h1 (fun x => x), h2⟩
theorem CkAt.lt {w : World} {b : Nat} {v : Value} {d : Int} {lk : Bool} (h : CkAt w b v d lk) : b < w.heap.size := by
  obtain ⟨cur, h1, h2⟩ := h
  exact blk_lt h1
theorem CkAt.cells {w : World} {b : Nat} {v : Value} {d : Int} {lk : Bool} (h : CkAt w b v d lk) : w.cell? ⟨b, 2, none⟩ = some v ∧ w.cell? ⟨b, 3, none⟩ = some (.int .i64 d) ∧ w.cell? ⟨b, 259, none⟩ = some (.bool lk) ∧ (∀ j, w.frozen? ⟨b, j, none⟩ = false) := by
  obtain ⟨cur, h1, h2, h3, h4, h5⟩ := h
  exact ⟨(blk_cell h1 2).trans h3, (blk_cell h1 3).trans h4, (blk_cell h1 259).trans h5, blk_fro h1⟩
theorem CkAt.mark {w : World} {b : Nat} {v : Value} {d : Int} {lk : Bool} (h : CkAt w b v d lk) : CkAt (w.setCell ⟨b, 259, none⟩ (.bool true)) b v d true := by
  obtain ⟨cur, h1, h2, h3, h4, h5⟩ := h
  exact ⟨_, blk_set h1 259 _, by simp [h2], by rw [Array.getElem?_setIfInBounds_ne (by omega)]; exact h3, by rw [Array.getElem?_setIfInBounds_ne (by omega)]; exact h4, by rw [Array.getElem?_setIfInBounds_self]; simp [h2]⟩
theorem CkAt.depth {w : World} {b : Nat} {v : Value} {d : Int} {lk : Bool} (h : CkAt w b v d lk) (d' : Int) : CkAt (w.setCell ⟨b, 3, none⟩ (.int .i64 d')) b v d' lk := by
  obtain ⟨cur, h1, h2, h3, h4, h5⟩ := h
  exact ⟨_, blk_set h1 3 _, by simp [h2], by rw [Array.getElem?_setIfInBounds_ne (by omega)]; exact h3, by rw [Array.getElem?_setIfInBounds_self]; simp [h2], by rw [Array.getElem?_setIfInBounds_ne (by omega)]; exact h5⟩
set_option maxRecDepth 10000 in
set_option maxHeartbeats 1000000 in
theorem next_any (w : World) (b b5 o5 c5 : Nat) (lk : Bool) (h : CkAt w b (.slice (some ⟨b5, o5, none⟩) 1 c5) 0 lk) :
    Calls Tryz.prog 254 #[.pointer (some ⟨b, 0, none⟩)] w fun e w' => e = .returned (.tuple #[.int .i64 0, .bool (!lk)]) ∧ w' = w := by
  obtain ⟨q2, q3, q4, -⟩ := h.cells
  clear h
  go_enter Tryz.func254, Tryz.ntmps254
  go_wp2_with fail
  go_loopg [11] 1 (fun g i wr => ∃ k : Nat, k ≤ 1 ∧ g = 1 - k ∧ i = .int .i64 k ∧ wr = w ∧ (k = 1 → lk = true))
  case atStart => exact ⟨0, by omega, by omega, rfl, rfl, fun h => by omega⟩
  case round =>
    obtain ⟨k, hk, rfl, rfl, rfl, hl⟩ := hrel
    by_cases hk0 : k = 0
    · subst hk0
      have e0 : ((0 : Nat) : Int) = 0 := rfl
      rw [e0]
      clear hl hk
      cases lk with
      | false =>
        go_wp2_with fail
        go_ret2
        exact ⟨rfl, by first | rfl | trivial⟩
      | true =>
        go_wp2_with fail
        go_roundg 0
        case measure => omega
        case rel => exact ⟨1, by omega, rfl, by simp, by first | rfl | trivial, by simp⟩
    · obtain rfl : k = 1 := by omega
      have e0 : ((1 : Nat) : Int) = 1 := rfl
      rw [e0]
      obtain rfl := hl rfl
      clear hl hk hk0
      go_wp2_with fail
      go_ret2
      exact ⟨rfl, by first | rfl | trivial⟩
set_option maxRecDepth 10000 in
set_option maxHeartbeats 1000000 in
theorem look_any (w : World) (b b5 o5 c5 : Nat) (h : CkAt w b (.slice (some ⟨b5, o5, none⟩) 1 c5) 0 false) (hb : b5 ≠ b) (r0 : w.cell? ⟨b5, o5, none⟩ = some (.int .i64 31)) (r1 : w.cell? ⟨b5, o5 + 1, none⟩ = some (.int .i64 0)) :
    Calls Tryz.prog 255 #[.pointer (some ⟨b, 0, none⟩), .int .i64 0] w fun e w' => e = .returned (.tuple #[]) ∧ CkAt w' b (.slice (some ⟨b5, o5, none⟩) 1 c5) 0 true ∧ Keep (One b) w w' := by
  have l5 : b5 < w.heap.size := World.block_lt_of_cell? _ _ r0
  have h2 := h.mark
  have k2 := keep_set w b 259 (.bool true)
  obtain ⟨p2, p3, p4, p5⟩ := h2.cells
  have r0' := (k2.cell l5 (o := o5) hb).trans r0
  have r1' := (k2.cell l5 (o := o5 + 1) hb).trans r1
  obtain ⟨q2, q3, q4, q5⟩ := h.cells
  have HX := Lib.hid (And.intro h2 (And.intro k2 h2.lt))
  clear h h2 k2 r0 r1
  go_enter Tryz.func255, Tryz.ntmps255
  go_upto_region 1 with fail
  clear q2 q3 q4 q5
  generalize w.setCell ⟨b, 259, none⟩ (.bool true) = w1 at *
  go_wp2_with (go_at_call 266; refine (takes_any _).mono ?_; rintro e w2 ⟨rfl, HK⟩; have k2 := Lib.hid (((Keep.refl No w1).alloc (.cells #[.int .i64 31, .int .i64 0] 197)).trans HK.out); obtain ⟨p2, p3, p4, p5⟩ := (HX.out.1.keep k2.out).cells; have z3 := blk_cell (HK.out.blk (blk_new w1 (.cells #[.int .i64 31, .int .i64 0] 197)) (fun x => x)))
  go_end0
  exact ⟨rfl, HX.out.1.keep k2.out, HX.out.2.1.thenNo k2.out⟩
theorem app_nil {P : Program} {w : World} {S : Nat → Prop} {v : Value} {s : Sh} {l : List s.T} (h : Rd (.slice s) w S [v] l) (t e ty : TypeId) (i : TypeInfo) (z : Value) (bytes : Nat)
    (ht : P.underlying t = some (.slice e)) (hi : P.info? e = some i) (hz : i.zero = some z) (hsz : i.size = s.size) (hby : i.bytes = bytes) (hzs : z.cells.size = s.size) (hl : l.length ≤ 1048576) (hb : bytes ≤ 4096) :
    ∃ a c w', (Builtin.append_ #[t, t] ty #[.slice none 0 0, v]).run P w = .ok (.slice a l.length c) w' ∧ Keep No w w' := by
  obtain ⟨rows, hrl, hr, hsrc⟩ := Rd.rows h
  obtain ⟨a, c, w', g', hrun, ho, hg', hk, hs⟩ := own_append (OwnRows.nil w e s.size) t t ty i z bytes ht hi hz hsz hby hzs (hsrc P t e ht _ (Agree.refl _ _)) (fun r hr' => by
    obtain ⟨j, hj, rfl⟩ := List.getElem_of_mem hr'
    exact (hr j hj (by omega)).length s) (by simp; omega) (by
      simp only [List.length_nil, Nat.zero_add, hrl]
      exact Nat.le_trans (Nat.mul_le_mul hl hb) (by decide))
  simp only [List.length_nil, Nat.zero_add, hrl, List.nil_append] at hrun ho
  exact ⟨a, c, w', hrun, hk.mono fun k _ hh => by cases hh⟩
def CkW (w : World) (b : Nat) (v : Value) : Prop :=
  ∃ cur : Array Value, w.heap[b]? = some (.cells cur 303 (0, 0)) ∧ cur.size = 515 ∧ cur[2]? = some v ∧ cur[259]? = some (.bool false)
theorem CkW.set {w : World} {b : Nat} {v : Value} (h : CkW w b v) (k : Nat) (hk : k < 256) (x : Value) : CkW (w.setCell ⟨b, 3 + k, none⟩ x) b v := by
  obtain ⟨cur, h1, h2, h3, h4⟩ := h
  exact ⟨_, blk_set h1 (3 + k) _, by simp [h2], by rw [Array.getElem?_setIfInBounds_ne (by omega)]; exact h3, by rw [Array.getElem?_setIfInBounds_ne (by omega)]; exact h4⟩
theorem CkW.cell {w : World} {b : Nat} {v : Value} (h : CkW w b v) (k : Nat) (hk : k < 256) : (∃ x, w.cell? ⟨b, 3 + k, none⟩ = some x) ∧ w.frozen? ⟨b, 3 + k, none⟩ = false := by
  obtain ⟨cur, h1, h2, h3, h4⟩ := h
  exact ⟨⟨cur[3 + k]'(by omega), (blk_cell h1 (3 + k)).trans (Array.getElem?_eq_getElem _)⟩, blk_fro h1 _⟩
theorem CkW.depth {w : World} {b : Nat} {v : Value} (h : CkW w b v) (d' : Int) : CkAt (w.setCell ⟨b, 3, none⟩ (.int .i64 d')) b v d' false := by
  obtain ⟨cur, h1, h2, h3, h5⟩ := h
  exact ⟨_, blk_set h1 3 _, by simp [h2], by rw [Array.getElem?_setIfInBounds_ne (by omega)]; exact h3, by rw [Array.getElem?_setIfInBounds_self]; simp [h2], by rw [Array.getElem?_setIfInBounds_ne (by omega)]; exact h5⟩
def NoPc (Q : Exit → Act → World → Prop) : Exit → Act → World → Prop
  | .normal, a, w => Q .normal a w
  | _, _, _ => False
theorem wp_nopc {P : Program} {c : Code} {Q : Exit → Act → World → Prop} {a : Act} {w : World} (h : c.wp P (NoPc Q) a w) : c.wp P Q a w :=
  wp_mono h fun e a w h => by cases e <;> first | exact h | exact False.elim h
theorem NoPc.normal {Q : Exit → Act → World → Prop} {a : Act} {w : World} (h : Q .normal a w) : NoPc Q .normal a w := h
theorem three_done {w : World} {d1 d2 d3 : Nat} {s0 s1 s2 x0 x1 x2 : Value} {t0 t1 t2 : TypeId} (h0 : w.heap[d1]? = some (.cells #[s0] t0 (0, 0))) (h1 : w.heap[d2]? = some (.cells #[s1] t1 (0, 0))) (h2 : w.heap[d3]? = some (.cells #[s2] t2 (0, 0))) (n1 : d1 ≠ d2) (n2 : d1 ≠ d3) (n3 : d2 ≠ d3) :
    (((w.setCell ⟨d1, 0, none⟩ x0).setCell ⟨d2, 0, none⟩ x1).setCell ⟨d3, 0, none⟩ x2).cell? ⟨d1, 0, none⟩ = some x0 ∧ (((w.setCell ⟨d1, 0, none⟩ x0).setCell ⟨d2, 0, none⟩ x1).setCell ⟨d3, 0, none⟩ x2).cell? ⟨d2, 0, none⟩ = some x1 ∧ (((w.setCell ⟨d1, 0, none⟩ x0).setCell ⟨d2, 0, none⟩ x1).setCell ⟨d3, 0, none⟩ x2).cell? ⟨d3, 0, none⟩ = some x2 := by
  refine ⟨?_, ?_, ?_⟩
  · exact (blk_cell (blk_other (a := ⟨d3, 0, none⟩) (blk_other (a := ⟨d2, 0, none⟩) (blk_set h0 0 x0) (fun e => n1 e.symm) x1) (fun e => n2 e.symm) x2) 0).trans (by simp)
  · exact (blk_cell (blk_other (a := ⟨d3, 0, none⟩) (blk_set (blk_other (a := ⟨d1, 0, none⟩) h1 (fun e => n1 e) x0) 0 x1) (fun e => n3 e.symm) x2) 0).trans (by simp)
  · exact (blk_cell (blk_set (blk_other (a := ⟨d2, 0, none⟩) (blk_other (a := ⟨d1, 0, none⟩) h2 (fun e => n2 e) x0) (fun e => n3 e) x1) 0 x2) 0).trans (by simp)
structure Look0 (w : World) (b : Nat) (n : Int) (v4 v5 : Value) (W : World) : Prop where
  keep : Keep No w W
  p : W.heap[w.heap.size]? = some (.cells #[.int .i64 n, v4, v5] 128 (0, 0))
  d : W.heap[w.heap.size + 1]? = some (.cells #[.slice none 0 0] 66 (0, 0))
  e : W.heap[w.heap.size + 1 + 1]? = some (.cells #[.int .i64 0] 23 (0, 0))
  a : W.heap[w.heap.size + 1 + 1 + 1]? = some (.cells #[.int .i64 0] 3 (0, 0))
  lt : w.heap.size + 1 + 1 + 1 < b
theorem Look0.more {w : World} {b : Nat} {n : Int} {v4 v5 : Value} {W W' : World} (h : Look0 w b n v4 v5 W) (hk : Keep (One b) W W') : Look0 w b n v4 v5 W' :=
  ⟨h.keep.then hk fun i hi e => by have : i = b := e; have := h.lt; omega, hk.blk h.p (fun e => by have : w.heap.size = b := e; have := h.lt; omega), hk.blk h.d (fun e => by have : w.heap.size + 1 = b := e; have := h.lt; omega),
    hk.blk h.e (fun e => by have : w.heap.size + 1 + 1 = b := e; have := h.lt; omega), hk.blk h.a (fun e => by have : w.heap.size + 1 + 1 + 1 = b := e; have := h.lt; omega), h.lt⟩
set_option maxRecDepth 20000 in
set_option maxHeartbeats 4000000 in
theorem find_any (w : World) (n : Int) (h0 : 0 ≤ n) (h8 : n ≤ 8) (a4 : Option Addr) (c4 b5 o5 c5 : Nat) (r0 : w.cell? ⟨b5, o5, none⟩ = some (.int .i64 31)) (r1 : w.cell? ⟨b5, o5 + 1, none⟩ = some (.int .i64 0)) :
    Calls Tryz.prog 229 #[.agg #[.int .i64 n, .slice a4 0 c4, .slice (some ⟨b5, o5, none⟩) 1 c5]] w fun e w' => (∃ v, e = .returned (.tuple #[v, .int .i64 0, .int .i64 0])) ∧ Keep No w w' := by
  have K1 := (Keep.refl No w).alloc (.cells #[.int .i64 n, .slice a4 0 c4, .slice (some ⟨b5, o5, none⟩) 1 c5] 128)
  have x1 := blk_new w (.cells #[.int .i64 n, .slice a4 0 c4, .slice (some ⟨b5, o5, none⟩) 1 c5] 128)
  have l5 : b5 < w.heap.size := World.block_lt_of_cell? _ _ r0
  have q1 := blk_cell x1
  have HX := Lib.hid (And.intro K1 (And.intro x1 (And.intro l5 (And.intro r0 r1))))
  have hmf : ∀ (fn : Fn) (first cap : Array Value) (w : World), (Instr.makeFunc fn first cap).run Tryz.prog w = .ok (.func fn first cap) w := fun _ _ _ _ => rfl
  have HF : RowKit.Hid (∀ W, Keep No w W → Calls Tryz.prog 252 #[.agg #[.int .i64 n, .slice a4 0 c4, .slice (some ⟨b5, o5, none⟩) 1 c5]] W fun e w' => e = .returned (.tuple #[.int .i64 0, .int .i64 0]) ∧ RowKit.Hid (Keep No W w')) := fun W hW =>
    form_any W n h0 h8 a4 c4 b5 o5 c5 ((hW.cell l5 (o := o5) (fun x => x)).trans r0) ((hW.cell l5 (o := o5 + 1) (fun x => x)).trans r1)
  clear K1 x1 l5 r0 r1 h0 h8
  go_enter_defers Tryz.func229, Tryz.ntmps229
  go_wp2_with fail
  refine (HF.out _ (((HX.out.1.alloc _).alloc _).alloc _)).mono ?_
  rintro e w5 ⟨rfl, HK5⟩
  have hL : Look0 w w5.heap.size n (.slice a4 0 c4) (.slice (some ⟨b5, o5, none⟩) 1 c5) w5 := by
    have hs := HK5.out.size
    simp only [World.size_alloc] at hs
    refine ⟨(((HX.out.1.alloc _).alloc _).alloc _).trans HK5.out, HK5.out.blk (blk_alloc (blk_alloc (blk_alloc HX.out.2.1))) (fun x => x), HK5.out.blk (blk_alloc (blk_alloc ?_)) (fun x => x), HK5.out.blk (blk_alloc ?_) (fun x => x), HK5.out.blk ?_ (fun x => x), by omega⟩
    · simpa using blk_new (w.alloc (.cells #[.int .i64 n, .slice a4 0 c4, .slice (some ⟨b5, o5, none⟩) 1 c5] 128)) (.cells #[.slice none 0 0] 66)
    · simpa using blk_new ((w.alloc (.cells #[.int .i64 n, .slice a4 0 c4, .slice (some ⟨b5, o5, none⟩) 1 c5] 128)).alloc (.cells #[.slice none 0 0] 66)) (.cells #[.int .i64 0] 23)
    · simpa using blk_new (((w.alloc (.cells #[.int .i64 n, .slice a4 0 c4, .slice (some ⟨b5, o5, none⟩) 1 c5] 128)).alloc (.cells #[.slice none 0 0] 66)).alloc (.cells #[.int .i64 0] 23)) (.cells #[.int .i64 0] 3)
  have q5 := blk_cell hL.p
  have HL5 := Lib.hid hL
  clear q1 hL
  go_wp2_with fail
  obtain ⟨C, hC⟩ : ∃ C : Array Value, C = (((Tryz.zeroCells303.setIfInBounds 0 (Value.int IntKind.i64 n)).setIfInBounds 1 (Value.slice a4 0 c4)).setIfInBounds 2 (Value.slice (some { block := b5, off := o5 }) 1 c5)) := ⟨_, rfl⟩
  rw [← hC]
  have hW : CkW (w5.alloc (.cells C 303)) w5.heap.size (.slice (some ⟨b5, o5, none⟩) 1 c5) := by
    refine ⟨C, blk_new _ _, ?_, ?_, ?_⟩ <;> rw [hC]
    · simp only [Array.size_setIfInBounds]; kernel_rfl
    · rw [Array.getElem?_setIfInBounds_self]
      rw [if_pos (by simp only [Array.size_setIfInBounds]; rw [show Tryz.zeroCells303.size = 515 by kernel_rfl]; omega)]
    · rw [Array.getElem?_setIfInBounds_ne (by omega), Array.getElem?_setIfInBounds_ne (by omega), Array.getElem?_setIfInBounds_ne (by omega)]
      kernel_rfl
  have hL6 := HL5.out.more ((Keep.refl (One w5.heap.size) w5).alloc (.cells C 303))
  have HC := Lib.hid (And.intro hW hL6)
  clear hC hW hL6 q5
  generalize w5.alloc (.cells C 303) = w6 at *
  generalize w5.heap.size = b at *
  go_loopg [23] 256 (fun g i wr => ∃ k : Nat, k ≤ 256 ∧ g = 256 - k ∧ i = .int .i64 k ∧ RowKit.Hid (CkW wr b (.slice (some ⟨b5, o5, none⟩) 1 c5) ∧ Look0 w b n (.slice a4 0 c4) (.slice (some ⟨b5, o5, none⟩) 1 c5) wr))
  case atStart => exact ⟨0, by omega, by omega, rfl, HC.out⟩
  case round =>
    obtain ⟨k, hk, rfl, rfl, HR⟩ := hrel
    by_cases hlt : k < 256
    · have j1 : (k : Int) < 256 := by omega
      have j0 : (0 : Int) ≤ k := by omega
      obtain ⟨⟨x, q0⟩, z0⟩ := HR.out.1.cell k hlt
      have HS := Lib.hid (And.intro hk hlt)
      clear hk hlt
      go_wp2_with fail
      go_roundg (256 - (k + 1))
      case measure => have := HS.out.2; omega
      case rel => exact ⟨k + 1, by have := HS.out.2; omega, rfl, by simp, HR.out.1.set k HS.out.2 _, HR.out.2.more (keep_set _ _ _ _)⟩
    · obtain rfl : k = 256 := by omega
      have j1 : ((256 : Nat) : Int) = 256 := rfl
      rw [j1]
      obtain ⟨⟨x, q0⟩, z0⟩ := HR.out.1.cell 0 (by omega)
      clear hk hlt
      go_upto_region 12 with fail
      have hD : CkAt (wr.setCell ⟨b, 3, none⟩ (.int .i64 0)) b (.slice (some ⟨b5, o5, none⟩) 1 c5) 0 false := HR.out.1.depth 0
      have hL : Look0 w b n (.slice a4 0 c4) (.slice (some ⟨b5, o5, none⟩) 1 c5) (wr.setCell ⟨b, 3, none⟩ (.int .i64 0)) := HR.out.2.more (keep_set _ _ _ _)
      have HD := Lib.hid (And.intro hD hL)
      clear hD hL q0 z0
      generalize wr.setCell ⟨b, 3, none⟩ (.int .i64 0) = w7 at *
      go_loopg [] 1 (fun g wq => ∃ lk : Bool, g = (if lk then 0 else 1) ∧ RowKit.Hid (CkAt wq b (.slice (some ⟨b5, o5, none⟩) 1 c5) 0 lk ∧ Look0 w b n (.slice a4 0 c4) (.slice (some ⟨b5, o5, none⟩) 1 c5) wq))
      case atStart => exact ⟨false, rfl, HD.out⟩
      case round =>
        obtain ⟨lk, rfl, HQ⟩ := hrel
        cases lk with
        | false =>
          have hk := HQ.out.2.keep
          have hlook := look_any wr b b5 o5 c5 HQ.out.1 (by have := HX.out.2.2.1; have := HQ.out.2.lt; omega) ((hk.cell HX.out.2.2.1 (o := o5) (fun x => x)).trans HX.out.2.2.2.1) ((hk.cell HX.out.2.2.1 (o := o5 + 1) (fun x => x)).trans HX.out.2.2.2.2)
          clear hk
          go_wp2_with fail
          refine (next_any wr b b5 o5 c5 false HQ.out.1).mono ?_
          rintro e w8 ⟨rfl, rfl⟩
          go_wp2_with (go_at_call 255; refine hlook.mono ?_; clear hlook; rintro e w9 ⟨rfl, hc9, hk9⟩)
          have H9 := Lib.hid (And.intro hc9 (HQ.out.2.more hk9))
          clear hc9 hk9
          go_roundg 0
          case measure => simp
          case rel => exact ⟨true, rfl, H9.out⟩
        | true =>
          go_wp2_with fail
          refine (next_any wr b b5 o5 c5 true HQ.out.1).mono ?_
          rintro e w8 ⟨rfl, rfl⟩
          go_upto_region 14 with fail
          have L1 := HQ.out.2.lt
          have p1 := blk_cell HQ.out.2.p
          have p2 := blk_cell HQ.out.2.d
          have p3 := blk_cell HQ.out.2.e
          have p4 := blk_cell HQ.out.2.a
          have f2 := blk_fro HQ.out.2.d
          have f3 := blk_fro HQ.out.2.e
          have f4 := blk_fro HQ.out.2.a
          have hr0 : Rd (.slice (.int .i64)) w8 (One b) [.slice (some ⟨b, 3, none⟩) 1 256] [(0 : Int)] := by
            obtain ⟨t2, t3, t4, t5⟩ := HQ.out.1.cells
            refine ⟨some ⟨b, 3, none⟩, 256, rfl, by simp, by decide, (fun h => by cases h), fun i hi => ?_⟩
            have : i = 0 := by simp at hi; omega
            subst this
            refine ⟨b, 3, [.int .i64 0], rfl, HQ.out.1.lt, rfl, rfl, fun j hj => ?_, rfl, show (Lit.int .i64 0).wf = true by decide⟩
            have : j = 0 := by simp at hj; omega
            subst this
            exact ⟨t3, t5 3⟩
          obtain ⟨i0, hi0, hz0, hz1, hz2⟩ := info_parts Tryz.infoI
          obtain ⟨a9, c9, w9, hrun, hk9⟩ := app_nil (hr0.agree (.slice (.int .i64)) ((Keep.refl No w8).drew).agreeNo) 66 3 66 i0 _ 8 Tryz.underlying66 hi0 hz0 hz1 hz2 rfl (by decide) (by decide)
          have H9 := Lib.hid (HQ.out.2.more (((Keep.refl (One b) w8).drew).thenNo hk9))
          have g2 := blk_cell H9.out.d
          have g3 := blk_cell H9.out.e
          have g4 := blk_cell H9.out.a
          have e2 := blk_fro H9.out.d
          have e3 := blk_fro H9.out.e
          have e4 := blk_fro H9.out.a
          clear hr0 hk9
          refine wp_nopc ?_
          refine wp_region_canw [0, 1, 2, 3, 4, 5, 6, 7, 8, 9, 10, 11] [8, 9, 10, 11] [] (by kernel_rfl) (by kernel_rfl) (by kernel_rfl) (by kernel_rfl) (by intro c a d v w h; exact h) ?_
          iterate 8 (refine canw_sil rfl rfl (fun K hK => ?_); go_simp; refine hK _ ?_; clear hK K)
          refine canw_loud [] rfl rfl rfl (fun K hK => ?_)
          refine wpList_app rfl (.tmp 44) (.tmp 51) 66 66 rfl rfl rfl hrun ?_
          go_wp2_with fail
          refine Mid.normal (hK _ _ stabs_nil ?_)
          clear hK K
          refine canw_loud [] rfl rfl rfl (fun K hK => ?_)
          go_wp2_with fail
          refine Mid.normal (hK _ _ stabs_nil ?_)
          clear hK K
          refine canw_loud [] rfl rfl rfl (fun K hK => ?_)
          go_wp2_with fail
          refine Mid.normal (hK _ _ stabs_nil ?_)
          clear hK K
          refine canw_loud [] rfl rfl rfl (fun K hK => ?_)
          go_wp2_with fail
          refine Mid.normal (hK _ _ stabs_nil ?_)
          clear hK K
          refine canw_nil ?_
          refine NoPc.normal ?_
          obtain ⟨y1, y2, y3⟩ := three_done (x0 := .slice a9 1 c9) (x1 := .int .i64 0) (x2 := .int .i64 0) H9.out.d H9.out.e H9.out.a (by omega) (by omega) (by omega)
          have hfin : Keep No w (((w9.setCell ⟨w.heap.size + 1, 0, none⟩ (.slice a9 1 c9)).setCell ⟨w.heap.size + 1 + 1, 0, none⟩ (.int .i64 0)).setCell ⟨w.heap.size + 1 + 1 + 1, 0, none⟩ (.int .i64 0)) := by
            have := H9.out.keep
            exact ((this.setNew (by show w.heap.size ≤ w.heap.size + 1; omega) _).setNew (by show w.heap.size ≤ w.heap.size + 1 + 1; omega) _).setNew (by show w.heap.size ≤ w.heap.size + 1 + 1 + 1; omega) _
          have HE := Lib.hid hfin
          clear hfin g2 g3 g4 e2 e3 e4 p1 p2 p3 p4 f2 f3 f4 hrun
          generalize (((w9.setCell ⟨w.heap.size + 1, 0, none⟩ (.slice a9 1 c9)).setCell ⟨w.heap.size + 1 + 1, 0, none⟩ (.int .i64 0)).setCell ⟨w.heap.size + 1 + 1 + 1, 0, none⟩ (.int .i64 0)) = w10 at *
          go_wp2_with fail
          refine leaves_cons (f := 253) (args := #[.pointer (some ⟨w.heap.size + 1, 0, none⟩), .pointer (some ⟨w.heap.size + 1 + 1, 0, none⟩), .pointer (some ⟨w.heap.size + 1 + 1 + 1, 0, none⟩)]) (by simp) (by simp [go_sem]) ?_
          refine (find_idle _ _ _ _).mono ?_
          rintro e u' w'' ⟨rfl, rfl, rfl⟩
          exact ⟨.tuple #[.slice a9 1 c9, .int .i64 0, .int .i64 0], by simp [results, Tryz.results229, go_sem, y1, y2, y3], ⟨_, rfl⟩, HE.out⟩
set_option maxRecDepth 10000 in
theorem pgCheck_any (w : World) (n : Int) (h0 : 0 ≤ n) (h8 : n ≤ 8) (a4 : Option Addr) (c4 b5 o5 c5 : Nat) (r0 : w.cell? ⟨b5, o5, none⟩ = some (.int .i64 31)) (r1 : w.cell? ⟨b5, o5 + 1, none⟩ = some (.int .i64 0)) :
    PgOk w (.int .i64 n) (.slice a4 0 c4) (.slice (some ⟨b5, o5, none⟩) 1 c5) := fun W hW => by
  have l5 : b5 < w.heap.size := World.block_lt_of_cell? _ _ r0
  have K1 := (Keep.refl No W).alloc (.cells #[.int .i64 n, .slice a4 0 c4, .slice (some ⟨b5, o5, none⟩) 1 c5] 128)
  have hW' := hW.trans K1
  have hc := (find_any _ n h0 h8 a4 c4 b5 o5 c5 ((hW'.cell l5 (o := o5) (fun x => x)).trans r0) ((hW'.cell l5 (o := o5 + 1) (fun x => x)).trans r1)).mono (R' := fun e w2 => ∃ v, e = .returned (.tuple #[v, .int .i64 0, .int .i64 0]) ∧ RowKit.Hid (Keep No W w2)) (by
    rintro e w2 ⟨⟨v, rfl⟩, hk⟩
    exact ⟨v, rfl, K1.trans hk⟩)
  clear K1 hW hW' r0 r1 l5
  go_enter Tryz.func193, Tryz.ntmps193
  go_wp2_with (go_at_call 229; refine hc.mono ?_; clear hc; rintro e w2 ⟨v, rfl, HK⟩)
  go_ret2
  exact ⟨rfl, HK.out⟩
end Go.Proofs.YtpjcebajkfeacaaGreatDoor
namespace Go.Proofs.YtpjcebajkfeacaaGreatDoor
open Go Go.RowKit Go.Deep
theorem Tryz.infoClV : (Tryz.prog.info? 96).map (fun i => (i.zero, i.size, i.bytes)) = some (some (.agg #[.int .i64 0, .int .i64 0, .string ⟨#[]⟩]), 3, 32) := by kernel_rfl
set_option maxHeartbeats 400000 in
theorem clone_values (w : World) (S : Nat → Prop) (v : Value) (l : List Val) (h : Rd (.slice valueSh) w S [v] l) (hl : l.length ≤ 1048576) :
    Calls Tryz.prog 76 #[v] w (Cloned valueSh 96 w l) := by
  obtain ⟨i0, hi, hz0, hz1, hz2⟩ := info_parts Tryz.infoClV
  obtain ⟨a, c, hv, hc, hn⟩ := Rd.sliceForm h
  obtain rfl : v = .slice a l.length c := by simpa using hv
  clear hv
  have hq := fun (a : Option Addr) (n c : Nat) (w : World) => Lib.run_eql_slice_nil (P := Tryz.prog) w 27 96 a n c 0 0 Tryz.underlying27
  cases a with
  | none =>
    obtain ⟨rfl, rfl⟩ := hn rfl
    go_enter Tryz.func76, Tryz.ntmps76
    go_wp2
    go_ret
    exact ⟨none, 0, rfl, Own.nil _ _ _ _, Keep.refl _ _⟩
  | some a =>
    obtain ⟨a', c', w', hrun, ho, hk⟩ := clone_app h rfl 27 96 27 i0 _ 32 Tryz.underlying27 hi hz0 hz1 hz2 rfl hl (by decide)
    clear h hn
    go_enter Tryz.func76, Tryz.ntmps76
    go_wp2_with (at_builtin; refine wpList_app rfl (.tmp 5) (.tmp 6) 27 27 rfl rfl rfl hrun ?_)
    go_ret
    exact ⟨_, _, rfl, ho, hk⟩
theorem Tryz.infoClS : (Tryz.prog.info? 9).map (fun i => (i.zero, i.size, i.bytes)) = some (some (.string ⟨#[]⟩), 1, 16) := by kernel_rfl
set_option maxHeartbeats 400000 in
theorem clone_strings (w : World) (S : Nat → Prop) (v : Value) (l : List ByteArray) (h : Rd (.slice .str) w S [v] l) (hl : l.length ≤ 1048576) :
    Calls Tryz.prog 185 #[v] w (Cloned .str 9 w l) := by
  obtain ⟨i0, hi, hz0, hz1, hz2⟩ := info_parts Tryz.infoClS
  obtain ⟨a, c, hv, hc, hn⟩ := Rd.sliceForm h
  obtain rfl : v = .slice a l.length c := by simpa using hv
  clear hv
  have hq := fun (a : Option Addr) (n c : Nat) (w : World) => Lib.run_eql_slice_nil (P := Tryz.prog) w 46 9 a n c 0 0 Tryz.underlying46
  cases a with
  | none =>
    obtain ⟨rfl, rfl⟩ := hn rfl
    go_enter Tryz.func185, Tryz.ntmps185
    go_wp2
    go_ret
    exact ⟨none, 0, rfl, Own.nil _ _ _ _, Keep.refl _ _⟩
  | some a =>
    obtain ⟨a', c', w', hrun, ho, hk⟩ := clone_app h rfl 46 9 46 i0 _ 16 Tryz.underlying46 hi hz0 hz1 hz2 rfl hl (by decide)
    clear h hn
    go_enter Tryz.func185, Tryz.ntmps185
    go_wp2_with (at_builtin; refine wpList_app rfl (.tmp 5) (.tmp 6) 46 46 rfl rfl rfl hrun ?_)
    go_ret
    exact ⟨_, _, rfl, ho, hk⟩
theorem Tryz.infoClI : (Tryz.prog.info? 3).map (fun i => (i.zero, i.size, i.bytes)) = some (some (.int .i64 0), 1, 8) := by kernel_rfl
set_option maxHeartbeats 400000 in
theorem clone_ints (w : World) (S : Nat → Prop) (v : Value) (l : List Int) (h : Rd (.slice (.int .i64)) w S [v] l) (hl : l.length ≤ 1048576) :
    Calls Tryz.prog 184 #[v] w (Cloned (.int .i64) 3 w l) := by
  obtain ⟨i0, hi, hz0, hz1, hz2⟩ := info_parts Tryz.infoClI
  obtain ⟨a, c, hv, hc, hn⟩ := Rd.sliceForm h
  obtain rfl : v = .slice a l.length c := by simpa using hv
  clear hv
  have hq := fun (a : Option Addr) (n c : Nat) (w : World) => Lib.run_eql_slice_nil (P := Tryz.prog) w 66 3 a n c 0 0 Tryz.underlying66
  cases a with
  | none =>
    obtain ⟨rfl, rfl⟩ := hn rfl
    go_enter Tryz.func184, Tryz.ntmps184
    go_wp2
    go_ret
    exact ⟨none, 0, rfl, Own.nil _ _ _ _, Keep.refl _ _⟩
  | some a =>
    obtain ⟨a', c', w', hrun, ho, hk⟩ := clone_app h rfl 66 3 66 i0 _ 8 Tryz.underlying66 hi hz0 hz1 hz2 rfl hl (by decide)
    clear h hn
    go_enter Tryz.func184, Tryz.ntmps184
    go_wp2_with (at_builtin; refine wpList_app rfl (.tmp 5) (.tmp 6) 66 66 rfl rfl rfl hrun ?_)
    go_ret
    exact ⟨_, _, rfl, ho, hk⟩
theorem Tryz.infoClN : (Tryz.prog.info? 197).map (fun i => (i.zero, i.size, i.bytes)) = some (some (.agg #[.int .i64 0, .int .i64 0]), 2, 16) := by kernel_rfl
set_option maxHeartbeats 400000 in
theorem clone_instrs (w : World) (S : Nat → Prop) (v : Value) (l : List Ins) (h : Rd (.slice instrSh) w S [v] l) (hl : l.length ≤ 1048576) :
    Calls Tryz.prog 186 #[v] w (Cloned instrSh 197 w l) := by
  obtain ⟨i0, hi, hz0, hz1, hz2⟩ := info_parts Tryz.infoClN
  obtain ⟨a, c, hv, hc, hn⟩ := Rd.sliceForm h
  obtain rfl : v = .slice a l.length c := by simpa using hv
  clear hv
  have hq := fun (a : Option Addr) (n c : Nat) (w : World) => Lib.run_eql_slice_nil (P := Tryz.prog) w 126 197 a n c 0 0 Tryz.underlying126
  cases a with
  | none =>
    obtain ⟨rfl, rfl⟩ := hn rfl
    go_enter Tryz.func186, Tryz.ntmps186
    go_wp2
    go_ret
    exact ⟨none, 0, rfl, Own.nil _ _ _ _, Keep.refl _ _⟩
  | some a =>
    obtain ⟨a', c', w', hrun, ho, hk⟩ := clone_app h rfl 126 197 126 i0 _ 16 Tryz.underlying126 hi hz0 hz1 hz2 rfl hl (by decide)
    clear h hn
    go_enter Tryz.func186, Tryz.ntmps186
    go_wp2_with (at_builtin; refine wpList_app rfl (.tmp 5) (.tmp 6) 126 126 rfl rfl rfl hrun ?_)
    go_ret
    exact ⟨_, _, rfl, ho, hk⟩
def CopiedP (w : World) (p : Prc) (e : Ending) (w' : World) : Prop :=
  ∃ cs : Array Value, e = .returned (.agg cs) ∧ Rd procSh w' (Fr w.heap.size w'.heap.size) cs.toList p ∧ Keep No w w'
set_option maxHeartbeats 1000000 in
set_option maxRecDepth 10000 in
theorem ownPrc_any (w : World) (S : Nat → Prop) (cs : List Value) (p : Prc) (h : Rd procSh w S cs p) (l1 : p.kinds.length ≤ 1048576) (l2 : p.reads.length ≤ 1048576) (l3 : p.writes.length ≤ 1048576) (l4 : p.pgm.consts.length ≤ 1048576) (l5 : p.pgm.code.length ≤ 1048576) :
    Calls Tryz.prog 135 #[.agg cs.toArray] w (CopiedP w p) := by
  obtain ⟨a1, c1, a2, c2, a3, c3, a4, c4, a5, c5, rfl, h1, h2, h3, h4, h5, w1, w2⟩ := proc_cells h
  clear h
  go_enter Tryz.func135, Tryz.ntmps135
  go_wp2_with fail
  refine (clone_ints _ S _ _ (Rd.agree _ h1 (by exact (((Keep.refl No w).alloc _).alloc _).agreeNo)) l1).mono ?_
  rintro e u1 ⟨x1, y1, rfl, o1, k1⟩
  have b0 := k1.blk (blk_alloc (blk_new w _)) (fun x => x)
  have b1 := k1.blk (blk_new _ _) (fun x => x)
  have kk := (((Keep.refl No w).alloc _).alloc _).thenNo k1
  have hk1 := k1.size
  simp only [World.size_alloc] at b1 o1 hk1
  clear k1
  have c0 := blk_cell b0
  have f0 := blk_fro b0
  go_wp2_with fail
  refine (clone_strings _ S _ _ (Rd.agree _ h2 (by exact (kk.setCell (by simp) _).agreeNo)) l2).mono ?_
  rintro e u2 ⟨x2, y2, rfl, o2, k2⟩
  replace o1 := (o1.agree (agree_set (Fr.not (by omega)) _ _)).agree k2.agreeNo
  replace b0 := k2.blk (blk_set b0 1 _) (fun x => x)
  replace b1 := k2.blk (blk_other b1 (by simp) _) (fun x => x)
  replace kk := (kk.setCell (by simp) _).thenNo k2
  have hk2 := k2.size
  simp only [World.size_setCell] at o2 hk2
  clear k2 c0 f0
  simp at b0
  have c0 := blk_cell b0
  have f0 := blk_fro b0
  go_wp2_with fail
  refine (clone_strings _ S _ _ (Rd.agree _ h3 (by exact (kk.setCell (by simp) _).agreeNo)) l3).mono ?_
  rintro e u3 ⟨x3, y3, rfl, o3, k3⟩
  replace o1 := (o1.agree (agree_set (Fr.not (by omega)) _ _)).agree k3.agreeNo
  replace o2 := (o2.agree (agree_set (Fr.not (by omega)) _ _)).agree k3.agreeNo
  replace b0 := k3.blk (blk_set b0 3 _) (fun x => x)
  replace b1 := k3.blk (blk_other b1 (by simp) _) (fun x => x)
  replace kk := (kk.setCell (by simp) _).thenNo k3
  have hk3 := k3.size
  simp only [World.size_setCell] at o3 hk3
  clear k3 c0 f0
  simp at b0
  have c0 := blk_cell b0
  have f0 := blk_fro b0
  go_wp2_with fail
  refine (clone_values _ S _ _ (Rd.agree _ h4 (by exact (kk.setCell (by simp) _).agreeNo)) l4).mono ?_
  rintro e u4 ⟨x4, y4, rfl, o4, k4⟩
  replace o1 := (o1.agree (agree_set (Fr.not (by omega)) _ _)).agree k4.agreeNo
  replace o2 := (o2.agree (agree_set (Fr.not (by omega)) _ _)).agree k4.agreeNo
  replace o3 := (o3.agree (agree_set (Fr.not (by omega)) _ _)).agree k4.agreeNo
  replace b0 := k4.blk (blk_set b0 4 _) (fun x => x)
  replace b1 := k4.blk (blk_other b1 (by simp) _) (fun x => x)
  replace kk := (kk.setCell (by simp) _).thenNo k4
  have hk4 := k4.size
  simp only [World.size_setCell] at o4 hk4
  clear k4 c0 f0
  simp at b0
  have c0 := blk_cell b0
  have f0 := blk_fro b0
  go_wp2_with fail
  refine (clone_instrs _ S _ _ (Rd.agree _ h5 (by exact (kk.setCell (by simp) _).agreeNo)) l5).mono ?_
  rintro e u5 ⟨x5, y5, rfl, o5, k5⟩
  replace o1 := (o1.agree (agree_set (Fr.not (by omega)) _ _)).agree k5.agreeNo
  replace o2 := (o2.agree (agree_set (Fr.not (by omega)) _ _)).agree k5.agreeNo
  replace o3 := (o3.agree (agree_set (Fr.not (by omega)) _ _)).agree k5.agreeNo
  replace o4 := (o4.agree (agree_set (Fr.not (by omega)) _ _)).agree k5.agreeNo
  replace b0 := k5.blk (blk_set b0 6 _) (fun x => x)
  replace b1 := k5.blk (blk_other b1 (by simp) _) (fun x => x)
  replace kk := (kk.setCell (by simp) _).thenNo k5
  have hk5 := k5.size
  simp only [World.size_setCell] at o5 hk5
  clear k5 c0 f0
  simp at b0
  have c0 := blk_cell b0
  have f0 := blk_fro b0
  have c1 := blk_cell b1
  have f1 := blk_fro b1
  go_wp2_with fail
  refine bodyPost_ret (v := .agg #[.string p.name, .slice x1 p.kinds.length y1, .bool p.dep, .slice x2 p.reads.length y2, .slice x3 p.writes.length y3, .int .i64 p.pgm.args, .slice x4 p.pgm.consts.length y4, .slice x5 p.pgm.code.length y5]) (by simp [results, Tryz.results135, go_sem, c1]) rfl ⟨_, rfl, ?_, ?_⟩
  · have kf : ∀ W, Keep (fun k => k < w.heap.size + 2) u5 W → Rd procSh W (Fr w.heap.size W.heap.size) [.string p.name, .slice x1 p.kinds.length y1, .bool p.dep, .slice x2 p.reads.length y2, .slice x3 p.writes.length y3, .int .i64 p.pgm.args, .slice x4 p.pgm.consts.length y4, .slice x5 p.pgm.code.length y5] p := by
      intro W kW
      have := kW.size
      refine proc_mk p (Own.rd (Own.mono (o1.agree (kW.agree fun k _ hk hm => ?_)) fun k hk => ?_)) (Own.rd (Own.mono (o2.agree (kW.agree fun k _ hk hm => ?_)) fun k hk => ?_)) (Own.rd (Own.mono (o3.agree (kW.agree fun k _ hk hm => ?_)) fun k hk => ?_)) (Own.rd (Own.mono (o4.agree (kW.agree fun k _ hk hm => ?_)) fun k hk => ?_)) (Own.rd (Own.mono (o5.agree (kW.agree fun k _ hk hm => ?_)) fun k hk => ?_)) w1 w2 <;> have h1 := hk.1 <;> have h2 := hk.2 <;> first | omega | exact ⟨by omega, by omega⟩
    refine kf _ ?_
    repeat (refine Keep.setCell ?_ (fun _ => by simp) _)
    exact Keep.refl _ _
  · repeat (refine Keep.setNew ?_ (by simp) _)
    exact kk
end Go.Proofs.YtpjcebajkfeacaaGreatDoor
