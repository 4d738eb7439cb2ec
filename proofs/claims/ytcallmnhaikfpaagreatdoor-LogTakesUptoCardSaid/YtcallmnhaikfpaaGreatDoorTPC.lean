/-
  Parts of what is proved for this claim; each declaration is one of the seat's texts.
-/
import Derived.Test.YtcallmnhaikfpaaGreatDoorTGA
import Derived.Test.YtcallmnhaikfpaaGreatDoorTGB
import Derived.Test.YtcallmnhaikfpaaGreatDoorTGC
import Derived.Test.YtcallmnhaikfpaaGreatDoorTGK
import Derived.Test.YtcallmnhaikfpaaGreatDoorTGU
import Derived.Test.YtcallmnhaikfpaaGreatDoorTGV
import Derived.Test.YtcallmnhaikfpaaGreatDoorTPA
import Derived.Test.YtcallmnhaikfpaaGreatDoorTPB
import Derived.WalkKit
import Derived.WalkSpells
import Derived.WalkLawsBesides
import Derived.ProofKit
import Derived.Deep.Slices
import Derived.Deep.AppendSrc
import Derived.Lib.Hide
import Derived.Lib.ItoaNum
import Derived.Lib.Join
import Derived.Still
import Derived.StillTactics
import Derived.Recover
import Derived.Defers
import Derived.Deep.QuietTactic
import Derived.BigQuiet
import Derived.Handy
import Derived.Laws.Bits64b
import Derived.Lib.Zigzag
import Derived.OwnWalk
import Derived.Deep.DeepCutAuto
import Derived.Deep.LoopGhost
import Derived.Lib.Bytealg
import Derived.Laws.Externs
import Derived.Laws.CopyRow
import Derived.Laws.IdiomCopy
import Derived.Maps.OwnSet
import Derived.Maps.RangeWalk
import Derived.Shelf.SortM.Plain
import Derived.Shelf.SortM.SortNone
import Derived.Ground.SlgmProg
import Derived.Deep.WholeRow
import Derived.Maps.OwnOps
set_option linter.unusedVariables false
set_option linter.unusedSimpArgs false
namespace Go.Proofs.YtcallmnhaikfpaaGreatDoor
open Go Go.RowKit Go.Deep
theorem Tryz.infoI : (Tryz.prog.info? 3).map (fun i => (i.zero, i.size, i.bytes)) = some (some (.int .i64 0), 1, 8) := by kernel_rfl
theorem find_idle (p q s : Addr) (w : World) :
    CallsD Tryz.prog 121 #[.pointer (some p), .pointer (some q), .pointer (some s)] .returning w fun e u' w' => e = .returned (.tuple #[]) ∧ u' = .returning ∧ w' = w := by
  refine callsD_of_wpS Tryz.func121 rfl fun c₀ cs hu => ?_
  apply wpS_seq
  apply wpS_region
  simp [wpOpsS, go_sem, recoverD, hu, Tryz.ntmps121, Exit.thenS]
  apply wpS_seq
  apply wpS_region
  simp [wpOpsS, go_sem, Exit.thenS]
  refine wpS_cond (t := false) (by simp [Act.eval, Array.replicate]) ?_
  simp only [Bool.false_eq_true, if_false]
  refine wpS_of_wp (wp_skip ?_)
  cases c₀
  simp_all [bodyPostS, results, Tryz.results121]
theorem app_nil {P : Program} {w : World} {S : Nat → Prop} {v : Value} {s : Sh} {l : List s.T} (h : Rd (.slice s) w S [v] l) (t e ty : TypeId) (i : TypeInfo) (z : Value) (bytes : Nat)
    (ht : P.underlying t = some (.slice e)) (hi : P.info? e = some i) (hz : i.zero = some z) (hsz : i.size = s.size) (hby : i.bytes = bytes) (hzs : z.cells.size = s.size) (hl : l.length ≤ 1048576) (hb : bytes ≤ 4096) :
    ∃ a c w', (Builtin.append_ #[t, t] ty #[.slice none 0 0, v]).run P w = .ok (.slice a l.length c) w' ∧ Keep No w w' := by
  obtain ⟨rows, hrl, hr, hsrc⟩ := Rd.rows h
  obtain ⟨a, c, w', g', hrun, ho, hg', hk, hs⟩ := own_append (OwnRows.nil w e s.size) t t ty i z bytes ht hi hz hsz hby hzs (hsrc P t e ht _ (Agree.refl _ _)) (fun r hr' => by
    obtain ⟨j, hj, rfl⟩ := List.getElem_of_mem hr'
    exact (hr j hj (by omega)).length s) (by simp; omega) (by
      simp only [List.length_nil, Nat.zero_add, hrl]
      exact Nat.le_trans (Nat.mul_le_mul hl hb) (by decide))
  simp only [List.length_nil, Nat.zero_add, hrl, List.nil_append] at hrun ho
  exact ⟨a, c, w', hrun, hk.mono fun k _ hh => by cases hh⟩
def NoPc (Q : Exit → Act → World → Prop) : Exit → Act → World → Prop
  | .normal, a, w => Q .normal a w
  | _, _, _ => False
theorem wp_nopc {P : Program} {c : Code} {Q : Exit → Act → World → Prop} {a : Act} {w : World} (h : c.wp P (NoPc Q) a w) : c.wp P Q a w :=
  wp_mono h fun e a w h => by cases e <;> first | exact h | exact False.elim h
theorem NoPc.normal {Q : Exit → Act → World → Prop} {a : Act} {w : World} (h : Q .normal a w) : NoPc Q .normal a w := h
theorem three_done {w : World} {d1 d2 d3 : Nat} {s0 s1 s2 x0 x1 x2 : Value} {t0 t1 t2 : TypeId} (h0 : w.heap[d1]? = some (.cells #[s0] t0 (0, 0))) (h1 : w.heap[d2]? = some (.cells #[s1] t1 (0, 0))) (h2 : w.heap[d3]? = some (.cells #[s2] t2 (0, 0))) (n1 : d1 ≠ d2) (n2 : d1 ≠ d3) (n3 : d2 ≠ d3) :
    (((w.setCell ⟨d1, 0, none⟩ x0).setCell ⟨d2, 0, none⟩ x1).setCell ⟨d3, 0, none⟩ x2).cell? ⟨d1, 0, none⟩ = some x0 ∧ (((w.setCell ⟨d1, 0, none⟩ x0).setCell ⟨d2, 0, none⟩ x1).setCell ⟨d3, 0, none⟩ x2).cell? ⟨d2, 0, none⟩ = some x1 ∧ (((w.setCell ⟨d1, 0, none⟩ x0).setCell ⟨d2, 0, none⟩ x1).setCell ⟨d3, 0, none⟩ x2).cell? ⟨d3, 0, none⟩ = some x2 := by
  refine ⟨?_, ?_, ?_⟩
  · exact (blk_cell (blk_other (a := ⟨d3, 0, none⟩) (blk_other (a := ⟨d2, 0, none⟩) (blk_set h0 0 x0) (fun e => n1 e.symm) x1) (fun e => n2 e.symm) x2) 0).trans (by simp)
  · exact (blk_cell (blk_other (a := ⟨d3, 0, none⟩) (blk_set (blk_other (a := ⟨d1, 0, none⟩) h1 (fun e => n1 e) x0) 0 x1) (fun e => n3 e.symm) x2) 0).trans (by simp)
  · exact (blk_cell (blk_set (blk_other (a := ⟨d2, 0, none⟩) (blk_other (a := ⟨d1, 0, none⟩) h2 (fun e => n2 e) x0) (fun e => n3 e) x1) 0 x2) 0).trans (by simp)
structure Look0 (w : World) (b : Nat) (n : Int) (v4 v5 : Value) (W : World) : Prop where
  keep : Keep No w W
  p : W.heap[w.heap.size]? = some (.cells #[.int .i64 n, v4, v5] 64 (0, 0))
  d : W.heap[w.heap.size + 1]? = some (.cells #[.slice none 0 0] 61 (0, 0))
  e : W.heap[w.heap.size + 1 + 1]? = some (.cells #[.int .i64 0] 29 (0, 0))
  a : W.heap[w.heap.size + 1 + 1 + 1]? = some (.cells #[.int .i64 0] 3 (0, 0))
  lt : w.heap.size + 1 + 1 + 1 < b
theorem Look0.more {w : World} {b : Nat} {n : Int} {v4 v5 : Value} {W W' : World} (h : Look0 w b n v4 v5 W) (hk : Keep (One b) W W') : Look0 w b n v4 v5 W' :=
  ⟨h.keep.then hk fun i hi e => by have : i = b := e; have := h.lt; omega, hk.blk h.p (fun e => by have : w.heap.size = b := e; have := h.lt; omega), hk.blk h.d (fun e => by have : w.heap.size + 1 = b := e; have := h.lt; omega),
    hk.blk h.e (fun e => by have : w.heap.size + 1 + 1 = b := e; have := h.lt; omega), hk.blk h.a (fun e => by have : w.heap.size + 1 + 1 + 1 = b := e; have := h.lt; omega), h.lt⟩
end Go.Proofs.YtcallmnhaikfpaaGreatDoor
namespace Go.Proofs.YtcallmnhaikfpaaGreatDoor
open Go Go.RowKit Go.Deep
theorem Tryz.infoClI : (Tryz.prog.info? 3).map (fun i => (i.zero, i.size, i.bytes)) = some (some (.int .i64 0), 1, 8) := by kernel_rfl
set_option maxHeartbeats 400000 in
theorem clone_ints (w : World) (S : Nat → Prop) (v : Value) (l : List Int) (h : Rd (.slice (.int .i64)) w S [v] l) (hl : l.length ≤ 1048576) :
    Calls Tryz.prog 64 #[v] w (Cloned (.int .i64) 3 w l) := by
  obtain ⟨i0, hi, hz0, hz1, hz2⟩ := info_parts Tryz.infoClI
  obtain ⟨a, c, hv, hc, hn⟩ := Rd.sliceForm h
  obtain rfl : v = .slice a l.length c := by simpa using hv
  clear hv
  have hq := fun (a : Option Addr) (n c : Nat) (w : World) => Lib.run_eql_slice_nil (P := Tryz.prog) w 61 3 a n c 0 0 Tryz.underlying61
  cases a with
  | none =>
    obtain ⟨rfl, rfl⟩ := hn rfl
    go_enter Tryz.func64, Tryz.ntmps64
    go_wp2
    go_ret
    exact ⟨none, 0, rfl, Own.nil _ _ _ _, Keep.refl _ _⟩
  | some a =>
    obtain ⟨a', c', w', hrun, ho, hk⟩ := clone_app h rfl 61 3 61 i0 _ 8 Tryz.underlying61 hi hz0 hz1 hz2 rfl hl (by decide)
    clear h hn
    go_enter Tryz.func64, Tryz.ntmps64
    go_wp2_with (at_builtin; refine wpList_app rfl (.tmp 5) (.tmp 6) 61 61 rfl rfl rfl hrun ?_)
    go_ret
    exact ⟨_, _, rfl, ho, hk⟩
theorem Tryz.infoClN : (Tryz.prog.info? 139).map (fun i => (i.zero, i.size, i.bytes)) = some (some (.agg #[.int .i64 0, .int .i64 0]), 2, 16) := by kernel_rfl
set_option maxHeartbeats 400000 in
theorem clone_instrs (w : World) (S : Nat → Prop) (v : Value) (l : List Ins) (h : Rd (.slice instrSh) w S [v] l) (hl : l.length ≤ 1048576) :
    Calls Tryz.prog 65 #[v] w (Cloned instrSh 139 w l) := by
  obtain ⟨i0, hi, hz0, hz1, hz2⟩ := info_parts Tryz.infoClN
  obtain ⟨a, c, hv, hc, hn⟩ := Rd.sliceForm h
  obtain rfl : v = .slice a l.length c := by simpa using hv
  clear hv
  have hq := fun (a : Option Addr) (n c : Nat) (w : World) => Lib.run_eql_slice_nil (P := Tryz.prog) w 62 139 a n c 0 0 Tryz.underlying62
  cases a with
  | none =>
    obtain ⟨rfl, rfl⟩ := hn rfl
    go_enter Tryz.func65, Tryz.ntmps65
    go_wp2
    go_ret
    exact ⟨none, 0, rfl, Own.nil _ _ _ _, Keep.refl _ _⟩
  | some a =>
    obtain ⟨a', c', w', hrun, ho, hk⟩ := clone_app h rfl 62 139 62 i0 _ 16 Tryz.underlying62 hi hz0 hz1 hz2 rfl hl (by decide)
    clear h hn
    go_enter Tryz.func65, Tryz.ntmps65
    go_wp2_with (at_builtin; refine wpList_app rfl (.tmp 5) (.tmp 6) 62 62 rfl rfl rfl hrun ?_)
    go_ret
    exact ⟨_, _, rfl, ho, hk⟩
def CopiedP (w : World) (p : Prc) (e : Ending) (w' : World) : Prop :=
  ∃ cs : Array Value, e = .returned (.agg cs) ∧ Rd procSh w' (Fr w.heap.size w'.heap.size) cs.toList p ∧ Keep No w w'
set_option maxHeartbeats 1000000 in
set_option maxRecDepth 10000 in
theorem ownPrc_any (w : World) (S : Nat → Prop) (cs : List Value) (p : Prc) (h : Rd procSh w S cs p) (l1 : p.kinds.length ≤ 1048576) (l2 : p.reads.length ≤ 1048576) (l3 : p.writes.length ≤ 1048576) (l4 : p.pgm.consts.length ≤ 1048576) (l5 : p.pgm.code.length ≤ 1048576) :
    Calls Tryz.prog 39 #[.agg cs.toArray] w (CopiedP w p) := by
  obtain ⟨a1, c1, a2, c2, a3, c3, a4, c4, a5, c5, rfl, h1, h2, h3, h4, h5, w1, w2⟩ := proc_cells h
  clear h
  go_enter Tryz.func39, Tryz.ntmps39
  go_wp2_with fail
  refine (clone_ints _ S _ _ (Rd.agree _ h1 (by exact (((Keep.refl No w).alloc _).alloc _).agreeNo)) l1).mono ?_
  rintro e u1 ⟨x1, y1, rfl, o1, k1⟩
  have b0 := k1.blk (blk_alloc (blk_new w _)) (fun x => x)
  have b1 := k1.blk (blk_new _ _) (fun x => x)
  have kk := (((Keep.refl No w).alloc _).alloc _).thenNo k1
  have hk1 := k1.size
  simp only [World.size_alloc] at b1 o1 hk1
  clear k1
  have c0 := blk_cell b0
  have f0 := blk_fro b0
  go_wp2_with fail
  refine (clone_strings _ S _ _ (Rd.agree _ h2 (by exact (kk.setCell (by simp) _).agreeNo)) l2).mono ?_
  rintro e u2 ⟨x2, y2, rfl, o2, k2⟩
  replace o1 := (o1.agree (agree_set (Fr.not (by omega)) _ _)).agree k2.agreeNo
  replace b0 := k2.blk (blk_set b0 1 _) (fun x => x)
  replace b1 := k2.blk (blk_other b1 (by simp) _) (fun x => x)
  replace kk := (kk.setCell (by simp) _).thenNo k2
  have hk2 := k2.size
  simp only [World.size_setCell] at o2 hk2
  clear k2 c0 f0
  simp at b0
  have c0 := blk_cell b0
  have f0 := blk_fro b0
  go_wp2_with fail
  refine (clone_strings _ S _ _ (Rd.agree _ h3 (by exact (kk.setCell (by simp) _).agreeNo)) l3).mono ?_
  rintro e u3 ⟨x3, y3, rfl, o3, k3⟩
  replace o1 := (o1.agree (agree_set (Fr.not (by omega)) _ _)).agree k3.agreeNo
  replace o2 := (o2.agree (agree_set (Fr.not (by omega)) _ _)).agree k3.agreeNo
  replace b0 := k3.blk (blk_set b0 3 _) (fun x => x)
  replace b1 := k3.blk (blk_other b1 (by simp) _) (fun x => x)
  replace kk := (kk.setCell (by simp) _).thenNo k3
  have hk3 := k3.size
  simp only [World.size_setCell] at o3 hk3
  clear k3 c0 f0
  simp at b0
  have c0 := blk_cell b0
  have f0 := blk_fro b0
  go_wp2_with fail
  refine (clone_values _ S _ _ (Rd.agree _ h4 (by exact (kk.setCell (by simp) _).agreeNo)) l4).mono ?_
  rintro e u4 ⟨x4, y4, rfl, o4, k4⟩
  replace o1 := (o1.agree (agree_set (Fr.not (by omega)) _ _)).agree k4.agreeNo
  replace o2 := (o2.agree (agree_set (Fr.not (by omega)) _ _)).agree k4.agreeNo
  replace o3 := (o3.agree (agree_set (Fr.not (by omega)) _ _)).agree k4.agreeNo
  replace b0 := k4.blk (blk_set b0 4 _) (fun x => x)
  replace b1 := k4.blk (blk_other b1 (by simp) _) (fun x => x)
  replace kk := (kk.setCell (by simp) _).thenNo k4
  have hk4 := k4.size
  simp only [World.size_setCell] at o4 hk4
  clear k4 c0 f0
  simp at b0
  have c0 := blk_cell b0
  have f0 := blk_fro b0
  go_wp2_with fail
  refine (clone_instrs _ S _ _ (Rd.agree _ h5 (by exact (kk.setCell (by simp) _).agreeNo)) l5).mono ?_
  rintro e u5 ⟨x5, y5, rfl, o5, k5⟩
  replace o1 := (o1.agree (agree_set (Fr.not (by omega)) _ _)).agree k5.agreeNo
  replace o2 := (o2.agree (agree_set (Fr.not (by omega)) _ _)).agree k5.agreeNo
  replace o3 := (o3.agree (agree_set (Fr.not (by omega)) _ _)).agree k5.agreeNo
  replace o4 := (o4.agree (agree_set (Fr.not (by omega)) _ _)).agree k5.agreeNo
  replace b0 := k5.blk (blk_set b0 6 _) (fun x => x)
  replace b1 := k5.blk (blk_other b1 (by simp) _) (fun x => x)
  replace kk := (kk.setCell (by simp) _).thenNo k5
  have hk5 := k5.size
  simp only [World.size_setCell] at o5 hk5
  clear k5 c0 f0
  simp at b0
  have c0 := blk_cell b0
  have f0 := blk_fro b0
  have c1 := blk_cell b1
  have f1 := blk_fro b1
  go_wp2_with fail
  refine bodyPost_ret (v := .agg #[.string p.name, .slice x1 p.kinds.length y1, .bool p.dep, .slice x2 p.reads.length y2, .slice x3 p.writes.length y3, .int .i64 p.pgm.args, .slice x4 p.pgm.consts.length y4, .slice x5 p.pgm.code.length y5]) (by simp [results, Tryz.results39, go_sem, c1]) rfl ⟨_, rfl, ?_, ?_⟩
  · have kf : ∀ W, Keep (fun k => k < w.heap.size + 2) u5 W → Rd procSh W (Fr w.heap.size W.heap.size) [.string p.name, .slice x1 p.kinds.length y1, .bool p.dep, .slice x2 p.reads.length y2, .slice x3 p.writes.length y3, .int .i64 p.pgm.args, .slice x4 p.pgm.consts.length y4, .slice x5 p.pgm.code.length y5] p := by
      intro W kW
      have := kW.size
      refine proc_mk p (Own.rd (Own.mono (o1.agree (kW.agree fun k _ hk hm => ?_)) fun k hk => ?_)) (Own.rd (Own.mono (o2.agree (kW.agree fun k _ hk hm => ?_)) fun k hk => ?_)) (Own.rd (Own.mono (o3.agree (kW.agree fun k _ hk hm => ?_)) fun k hk => ?_)) (Own.rd (Own.mono (o4.agree (kW.agree fun k _ hk hm => ?_)) fun k hk => ?_)) (Own.rd (Own.mono (o5.agree (kW.agree fun k _ hk hm => ?_)) fun k hk => ?_)) w1 w2 <;> have h1 := hk.1 <;> have h2 := hk.2 <;> first | omega | exact ⟨by omega, by omega⟩
    refine kf _ ?_
    repeat (refine Keep.setCell ?_ (fun _ => by simp) _)
    exact Keep.refl _ _
  · repeat (refine Keep.setNew ?_ (by simp) _)
    exact kk
end Go.Proofs.YtcallmnhaikfpaaGreatDoor
