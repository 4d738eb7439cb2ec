/-
  Parts of what is proved for this claim; each declaration is one of the seat's texts.
-/
import Derived.Test.YtfgdnakfikpmpaaGreatDoorFMQ
import Derived.Test.YtfgdnakfikpmpaaGreatDoorFMM
set_option linter.unusedVariables false
set_option linter.unusedSimpArgs false
namespace Go.Proofs.YtfgdnakfikpmpaaGreatDoor
open Go Go.RowKit Go.Deep
theorem rd_take8 {s : Sh} {w : World} {S : Nat → Prop} {a : Option Addr} {n c : Nat} {l : List s.T} (h : Rd (.slice s) w S [.slice a n c] l) (k : Nat) (hk : k ≤ l.length) (hne : a ≠ none ∨ k = 0) : Rd (.slice s) w S [.slice a k c] (l.take k) := by
  obtain ⟨a', c', e, h1, h2, h3, h4⟩ := h
  simp only [List.cons.injEq, Value.slice.injEq, and_true] at e
  obtain ⟨rfl, rfl, rfl⟩ := e
  have hl : (l.take k).length = k := by rw [List.length_take]; omega
  refine ⟨a, c, by rw [hl], by omega, h2, fun ha => ?_, fun i hi => ?_⟩
  · have := h3 ha
    refine ⟨?_, this.2⟩
    rw [this.1]; simp
  · have hik : i < k := by omega
    obtain ⟨b, off, row, e1, e2, e3, e4, e5⟩ := h4 i (by omega)
    exact ⟨b, off, row, e1, e2, e3, e4, by rw [List.getElem_take]; exact e5⟩
def v9 : Val := mkVal 9 0 noText
theorem given_step {w : World} {A : Nat → Prop} {a : Option Addr} {c : Nat} {args : List Val} (h : Rd (.slice valueSh) w A [.slice a args.length c] args) (hn : args.length ≤ 1048576) :
    ∃ a1 c1 w1, (Builtin.append_ #[24, 24] 24 #[.slice (some ⟨w.heap.size, 0, none⟩) 0 0, .slice a args.length c]).run Tryz.prog (w.alloc (.cells #[] 47)) = .ok (.slice a1 args.length c1) w1 ∧
      ∃ b o c2 w2, (Builtin.append_ #[24, 24] 24 #[.slice a1 args.length c1, .slice (some ⟨w1.heap.size, 0, none⟩) 1 1]).run Tryz.prog (w1.alloc (.cells #[.int .i64 9, .int .i64 0, .string ⟨#[]⟩] 47)) = .ok (.slice (some ⟨b, o, none⟩) (args.length + 1) c2) w2 ∧ args.length + 1 ≤ c2 ∧
        RowKit.Hid (Rd (.slice valueSh) w2 (Up w.heap.size) [.slice (some ⟨b, o, none⟩) args.length c2] args ∧ Keep No w w2 ∧ Keep No w w1) := by
  obtain ⟨i0, hi, hz0, hz1, hz2⟩ := info_parts Tryz.infoValue
  obtain ⟨a1, c1, w1, hrun, ho, hk⟩ := clone_app h rfl 24 47 24 i0 _ 32 Tryz.underlying24 hi hz0 hz1 hz2 rfl hn (by decide)
  have ho2 := ho.agree ((Keep.refl No w1).alloc (.cells #[.int .i64 9, .int .i64 0, .string ⟨#[]⟩] 47)).agreeNo
  obtain ⟨a2, c2, w2, hrun2, ho3, hk2, -⟩ := Own.append (P := Tryz.prog) (T := No) ho2 24 24 i0 _ 32 Tryz.underlying24 hi hz0 hz1 hz2 rfl (blk_new w1 (.cells #[.int .i64 9, .int .i64 0, .string ⟨#[]⟩] 47)) (x := v9) (val_row (v := v9) (by exact ⟨by decide, by decide, by decide, by decide⟩) (by decide)) (fun k _ x => x) (by omega) (by omega) 1
  obtain ⟨a', c', e, hc⟩ := ho3.form
  simp only [Value.slice.injEq] at e
  obtain ⟨rfl, -, rfl⟩ := e
  have hlen : (args ++ [v9]).length = args.length + 1 := by simp
  rw [hlen] at hc
  have hrd := ho3.rd
  cases a2 with
  | none =>
    exfalso
    obtain ⟨_, _, e, -, -, h3, -⟩ := hrd
    simp only [List.cons.injEq, Value.slice.injEq, and_true] at e
    have := (h3 e.1.symm).1
    simp at this
  | some ad =>
    have h0 := hrd
    obtain ⟨a9, c9, e, -, -, -, h4⟩ := h0
    simp only [List.cons.injEq, Value.slice.injEq, and_true] at e
    obtain ⟨b, o, row, e1, -⟩ := h4 0 (by simp)
    rw [← e.1] at e1
    simp only [Option.some.injEq] at e1
    subst e1
    have h5 := rd_take8 hrd args.length (by simp) (.inl (by simp))
    rw [List.take_left] at h5
    have hs := hk.size
    refine ⟨a1, c1, w1, hrun, b, o, c2, w2, hrun2, hc, h5.mono (.slice valueSh) fun k _ hx => ?_, (hk.alloc _).then hk2 fun i hi hx => ?_, hk⟩
    · rcases hx with hx | hx | hx
      · exact hx.1
      · exact hx.elim
      · simp only [World.size_alloc] at hx
        show w.heap.size ≤ k
        omega
    · have := hx.1; omega
set_option maxRecDepth 10000 in
set_option maxHeartbeats 8000000 in
theorem LibraryFeet_main (w : World) (ht : Tab w ∧ Errs w ∧ KindsW w) (S A : Nat → Prop) (cs : List Value) (p : Prc) (h : Rd procSh w S cs p) (hs : p.Small) (args : List Val) (a : Option Addr) (c : Nat) (ha : Rd (.slice valueSh) w A [.slice a args.length c] args) (hn : args.length ≤ 1048576) (t : ByteArray) (hts : t.size ≤ 1048576) :
    Calls Tryz.prog 5 #[.agg cs.toArray, .slice a args.length c, .string t] w fun e w' => e = .returned (.bool true) ∧ Keep No w w' := by
  have h0 := h
  obtain ⟨a1, c1, a2, c2, a3, c3, a4, c4, a5, c5, rfl, h1, h2, h3, h4, h5, -⟩ := proc_cells h
  have K1 := (Keep.refl No w).alloc (.cells #[.string p.name, .slice a1 p.kinds.length c1, .bool p.dep, .slice a2 p.reads.length c2, .slice a3 p.writes.length c3, .int .i64 p.pgm.args, .slice a4 p.pgm.consts.length c4, .slice a5 p.pgm.code.length c5] 29)
  have x1 := blk_new w (.cells #[.string p.name, .slice a1 p.kinds.length c1, .bool p.dep, .slice a2 p.reads.length c2, .slice a3 p.writes.length c3, .int .i64 p.pgm.args, .slice a4 p.pgm.consts.length c4, .slice a5 p.pgm.code.length c5] 29)
  have q1 := blk_cell x1
  have HLV : RowKit.Hid (∀ W, Keep No w W → Calls Tryz.prog 14 #[] W fun e w' => e = .returned (.bool true) ∧ RowKit.Hid (Keep No W w')) := fun W hW => (live8_any W (ht.1.keep hW) (ht.2.1.keep hW) (ht.2.2.keep hW (fun x => x))).mono (by rintro e w' ⟨rfl, hk⟩; exact ⟨rfl, hk⟩)
  obtain ⟨lb, hlb⟩ : ∃ lb, largeB p = lb := ⟨_, rfl⟩
  have hlg := (large_any (w.alloc (.cells #[.string p.name, .slice a1 p.kinds.length c1, .bool p.dep, .slice a2 p.reads.length c2, .slice a3 p.writes.length c3, .int .i64 p.pgm.args, .slice a4 p.pgm.consts.length c4, .slice a5 p.pgm.code.length c5] 29)) a1 a2 a3 a4 a5 c1 c2 c3 c4 c5 p ⟨slice_len h1, slice_len h2, slice_len h3, slice_len h4, slice_len h5⟩).mono (R' := fun e w2 => e = .returned (.bool lb) ∧ w2.heap[w.heap.size]? = some (.cells #[.string p.name, .slice a1 p.kinds.length c1, .bool p.dep, .slice a2 p.reads.length c2, .slice a3 p.writes.length c3, .int .i64 p.pgm.args, .slice a4 p.pgm.consts.length c4, .slice a5 p.pgm.code.length c5] 29 (0, 0)) ∧ RowKit.Hid (Keep No w w2)) (by
    rintro e w2 ⟨rfl, hk⟩
    exact ⟨by rw [hlb], hk.out.blk x1 (fun x => x), K1.trans hk.out⟩)
  cases lb with
  | true =>
    clear h0 h1 h2 h3 h4 h5 K1 x1 h ht hlb ha
    go_enter Tryz.func5, Tryz.ntmps5
    go_wp2_with (first | (go_at_call 13; refine hlg.mono ?_; clear hlg; rintro e w3 ⟨rfl, x3, HK3⟩) | (go_at_call 14; refine (HLV.out _ HK3.out).mono ?_; rintro e w4 ⟨rfl, HK4⟩))
    go_ret
    exact ⟨rfl, HK3.out.trans HK4.out⟩
  | false =>
    have HOW : RowKit.Hid (∀ W, Keep No w W → Calls Tryz.prog 15 #[.agg #[.string p.name, .slice a1 p.kinds.length c1, .bool p.dep, .slice a2 p.reads.length c2, .slice a3 p.writes.length c3, .int .i64 p.pgm.args, .slice a4 p.pgm.consts.length c4, .slice a5 p.pgm.code.length c5]] W fun e w2 => ∃ b1 d1 b2 d2 b3 d3 b4 d4 b5 d5, e = .returned (.agg #[.string p.name, .slice b1 p.kinds.length d1, .bool p.dep, .slice b2 p.reads.length d2, .slice b3 p.writes.length d3, .int .i64 p.pgm.args, .slice b4 p.pgm.consts.length d4, .slice b5 p.pgm.code.length d5]) ∧ RowKit.Hid (Rd procSh w2 (Fr W.heap.size w2.heap.size) #[.string p.name, .slice b1 p.kinds.length d1, .bool p.dep, .slice b2 p.reads.length d2, .slice b3 p.writes.length d3, .int .i64 p.pgm.args, .slice b4 p.pgm.consts.length d4, .slice b5 p.pgm.code.length d5].toList p ∧ Keep No W w2)) := fun W hW => own8_cells W S #[.string p.name, .slice a1 p.kinds.length c1, .bool p.dep, .slice a2 p.reads.length c2, .slice a3 p.writes.length c3, .int .i64 p.pgm.args, .slice a4 p.pgm.consts.length c4, .slice a5 p.pgm.code.length c5] p (h0.agree procSh hW.agreeNo) hs.lens
    obtain ⟨fe, hfe⟩ : ∃ fe, p.footE args = fe := ⟨_, rfl⟩
    obtain ⟨ky, hky⟩ : ∃ ky, keyT t args = ky := ⟨_, rfl⟩
    obtain ⟨sv, hsv⟩ : ∃ sv : Int, (if suitsB p.kinds args then 0 else 82) = sv := ⟨_, rfl⟩
    have HLF : RowKit.Hid (∀ (W : World) (T T2 : Nat → Prop) (cs : Array Value) (a : Option Addr) (c : Nat), Keep No w W → Rd procSh W T cs.toList p → Rd (.slice valueSh) W T2 [.slice a args.length c] args → Calls Tryz.prog 23 #[.agg cs, .slice a args.length c] W fun e w2 => ∃ r n m r' n' m', e = .returned (.tuple #[.agg #[.slice r n m, .slice r' n' m'], .int .i64 fe.2]) ∧ RowKit.Hid (OwnF W w2 (.slice r n m) (.slice r' n' m') fe.1 ∧ Keep No W w2)) := fun W T T2 cs a c hW hr hr2 => by
      have := libFootE_any W T T2 cs.toList p hr (by have := hs.lens.name; omega) (by have := hs.lens.reads; have := hs.lens.writes; omega) args a c hr2 (ht.1.keep hW)
      rw [Array.toArray_toList, hfe] at this
      exact this
    have HRF : RowKit.Hid (∀ W, Keep No w W → Calls Tryz.prog 24 #[.agg #[.string p.name, .slice a1 p.kinds.length c1, .bool p.dep, .slice a2 p.reads.length c2, .slice a3 p.writes.length c3, .int .i64 p.pgm.args, .slice a4 p.pgm.consts.length c4, .slice a5 p.pgm.code.length c5], .slice a args.length c] W fun e w2 => ∃ r n m r' n' m', e = .returned (.tuple #[.agg #[.slice r n m, .slice r' n' m'], .int .i64 fe.2]) ∧ RowKit.Hid (OwnF W w2 (.slice r n m) (.slice r' n' m') fe.1 ∧ Keep No W w2)) := fun W hW => by
      have := rLibFootE_any W S A _ p (h0.agree procSh hW.agreeNo) hs args a c (ha.agree _ hW.agreeNo)
      rw [hfe] at this
      exact this
    have HLK : RowKit.Hid (∀ (W : World) (T2 : Nat → Prop) (a : Option Addr) (c : Nat), Keep No w W → Rd (.slice valueSh) W T2 [.slice a args.length c] args → Calls Tryz.prog 25 #[.string t, .slice a args.length c] W fun e w2 => e = .returned (.tuple #[.string ky.1, .int .i64 ky.2]) ∧ RowKit.Hid (Keep No W w2)) := fun W T2 a c hW hr2 => by
      have := keyE_any t args W T2 a c hr2 (ht.1.keep hW)
      rw [hky] at this
      exact this
    have HRK : RowKit.Hid (∀ W, Keep No w W → Calls Tryz.prog 26 #[.string t, .slice a args.length c] W fun e w2 => e = .returned (.tuple #[.string ky.1, .int .i64 ky.2]) ∧ RowKit.Hid (Keep No W w2)) := fun W hW => by
      have := rKeyE_any t hts args W A a c (ha.agree _ hW.agreeNo)
      rw [hky] at this
      exact this
    have HSU : RowKit.Hid (∀ (W : World) (T T2 : Nat → Prop) (b1 b2 b3 b4 b5 : Option Addr) (d1 d2 d3 d4 d5 : Nat) (a : Option Addr) (c : Nat), Rd procSh W T #[.string p.name, .slice b1 p.kinds.length d1, .bool p.dep, .slice b2 p.reads.length d2, .slice b3 p.writes.length d3, .int .i64 p.pgm.args, .slice b4 p.pgm.consts.length d4, .slice b5 p.pgm.code.length d5].toList p → Rd (.slice valueSh) W T2 [.slice a args.length c] args → Calls Tryz.prog 28 #[.agg #[.string p.name, .slice b1 p.kinds.length d1, .bool p.dep, .slice b2 p.reads.length d2, .slice b3 p.writes.length d3, .int .i64 p.pgm.args, .slice b4 p.pgm.consts.length d4, .slice b5 p.pgm.code.length d5], .slice a args.length c] W fun e w2 => e = .returned (.int .i64 sv) ∧ RowKit.Hid (Keep No W w2)) := fun W T T2 b1 b2 b3 b4 b5 d1 d2 d3 d4 d5 a c hr hr2 => by
      obtain ⟨_, _, _, _, _, _, _, _, _, _, e, g1, -⟩ := proc_cells (show Rd procSh W T [.string p.name, .slice b1 p.kinds.length d1, .bool p.dep, .slice b2 p.reads.length d2, .slice b3 p.writes.length d3, .int .i64 p.pgm.args, .slice b4 p.pgm.consts.length d4, .slice b5 p.pgm.code.length d5] p from hr)
      simp only [List.cons.injEq, Value.slice.injEq, true_and, and_true] at e
      obtain ⟨⟨rfl, rfl⟩, -⟩ := e
      have := suits_any W T T2 (.string p.name) (.bool p.dep) (.slice b2 p.reads.length d2) (.slice b3 p.writes.length d3) (.int .i64 p.pgm.args) (.slice b4 p.pgm.consts.length d4) (.slice b5 p.pgm.code.length d5) ⟨rfl, rfl, rfl, rfl, rfl, rfl, rfl⟩ b1 a d1 c p.kinds args g1 hr2
      rw [hsv] at this
      exact this
    have HRS : RowKit.Hid (∀ W, Keep No w W → Calls Tryz.prog 29 #[.agg #[.string p.name, .slice a1 p.kinds.length c1, .bool p.dep, .slice a2 p.reads.length c2, .slice a3 p.writes.length c3, .int .i64 p.pgm.args, .slice a4 p.pgm.consts.length c4, .slice a5 p.pgm.code.length c5], .slice a args.length c] W fun e w2 => e = .returned (.int .i64 sv) ∧ RowKit.Hid (Keep No W w2)) := fun W hW => by
      have := rSuits_any W S A (.string p.name) (.bool p.dep) (.slice a2 p.reads.length c2) (.slice a3 p.writes.length c3) (.int .i64 p.pgm.args) (.slice a4 p.pgm.consts.length c4) (.slice a5 p.pgm.code.length c5) ⟨rfl, rfl, rfl, rfl, rfl, rfl, rfl⟩ a1 a c1 c p.kinds args (h1.agree _ hW.agreeNo) (ha.agree _ hW.agreeNo)
      rw [hsv] at this
      exact this
    have HSM : RowKit.Hid (∀ (W : World) (T : Nat → Prop) (cs : Array Value), Keep No w W → Rd procSh W T cs.toList p → Calls Tryz.prog 19 #[.agg cs, .agg #[.string p.name, .slice a1 p.kinds.length c1, .bool p.dep, .slice a2 p.reads.length c2, .slice a3 p.writes.length c3, .int .i64 p.pgm.args, .slice a4 p.pgm.consts.length c4, .slice a5 p.pgm.code.length c5]] W fun e w2 => e = .returned (.bool true) ∧ RowKit.Hid (Keep No W w2)) := fun W T cs hW hr => by
      have := rSameP_eq W T S cs.toList _ p hr (h0.agree procSh hW.agreeNo)
      rw [Array.toArray_toList] at this
      exact this
    have HFS : RowKit.Hid (∀ (W : World) (T T2 : Nat → Prop) (u v u' v' : Value), FpAt W T u v fe.1 → FpAt W T2 u' v' fe.1 → Calls Tryz.prog 27 #[.agg #[u, v], .agg #[u', v']] W fun e w2 => e = .returned (.bool true) ∧ RowKit.Hid (Keep No W w2)) := fun W T T2 u v u' v' g1 g2 => by
      refine (rSame_any W T T2 u v u' v' fe.1 fe.1 g1 g2).mono ?_
      rintro e w2 ⟨rfl, hk⟩
      exact ⟨by simp, hk⟩
    have HAR := Lib.hid (And.intro ha hn)
    clear h0 h1 h2 h3 h4 h5 K1 x1 h ht hlb hs ha hfe hky hsv hts
    obtain ⟨fp, fer⟩ := fe
    obtain ⟨kt, ker⟩ := ky
    simp only at HLF HRF HLK HRK HFS
    have i20 : (args.length : Int) ≤ 1048576 := by omega
    clear hn
    go_enter Tryz.func5, Tryz.ntmps5
    go_upto_region 4 with (first | (go_at_call 13; refine hlg.mono ?_; clear hlg; rintro e w3 ⟨rfl, x3, HK3⟩; have q3 := blk_cell x3; clear q1) | (go_at_call 15; refine (HOW.out _ HK3.out).mono ?_; rintro e w4 ⟨b1, d1, b2, d2, b3, d3, b4, d4, b5, d5, rfl, H4⟩; have K4 := Lib.hid (HK3.out.trans H4.out.2); have X4 := Lib.hid (H4.out.2.blk x3 (fun x => x)); clear q3))
    have K5 := Lib.hid (K4.out.alloc (.cells #[.string p.name, .slice b1 p.kinds.length d1, .bool p.dep, .slice b2 p.reads.length d2, .slice b3 p.writes.length d3, .int .i64 p.pgm.args, .slice b4 p.pgm.consts.length d4, .slice b5 p.pgm.code.length d5] 29))
    have X5 := Lib.hid (And.intro (blk_alloc (o' := .cells #[.string p.name, .slice b1 p.kinds.length d1, .bool p.dep, .slice b2 p.reads.length d2, .slice b3 p.writes.length d3, .int .i64 p.pgm.args, .slice b4 p.pgm.consts.length d4, .slice b5 p.pgm.code.length d5] 29) X4.out) (blk_new w4 (.cells #[.string p.name, .slice b1 p.kinds.length d1, .bool p.dep, .slice b2 p.reads.length d2, .slice b3 p.writes.length d3, .int .i64 p.pgm.args, .slice b4 p.pgm.consts.length d4, .slice b5 p.pgm.code.length d5] 29)))
    have HR5 := Lib.hid (H4.out.1.agree procSh ((Keep.refl No w4).alloc (.cells #[.string p.name, .slice b1 p.kinds.length d1, .bool p.dep, .slice b2 p.reads.length d2, .slice b3 p.writes.length d3, .int .i64 p.pgm.args, .slice b4 p.pgm.consts.length d4, .slice b5 p.pgm.code.length d5] 29)).agreeNo)
    clear x3 H4 X4 K4 HOW
    generalize w4.alloc (.cells #[.string p.name, .slice b1 p.kinds.length d1, .bool p.dep, .slice b2 p.reads.length d2, .slice b3 p.writes.length d3, .int .i64 p.pgm.args, .slice b4 p.pgm.consts.length d4, .slice b5 p.pgm.code.length d5] 29) = w5 at *
    generalize w4.heap.size = Q at *
    obtain ⟨g1, gc1, w6, hrun1, gb, go, gc2, w7, hrun2, hgc, H7⟩ := given_step (HAR.out.1.agree _ K5.out.agreeNo) HAR.out.2
    have i21 : (args.length : Int) ≤ gc2 := by omega
    have i22 : (0 : Int) ≤ args.length := by omega
    have i23 : (args.length : Int) ≤ (args.length : Int) + 1 := by omega
    clear hgc
    go_upto_region 5 with (first | (at_builtin; refine wpList_app rfl (.tmp 23) (.tmp 24) 24 24 rfl rfl rfl hrun1 ?_) | (at_builtin; refine wpList_app rfl (.tmp 25) (.tmp 27) 24 24 rfl rfl rfl hrun2 ?_))
    have K7 := Lib.hid (K5.out.trans H7.out.2.1)
    have X7 := Lib.hid (And.intro (H7.out.2.1.blk X5.out.1 (fun x => x)) (H7.out.2.1.blk X5.out.2 (fun x => x)))
    have HR7 := Lib.hid (HR5.out.agree procSh H7.out.2.1.agreeNo)
    have G7 := Lib.hid H7.out.1
    have q7 := blk_cell X7.out.1
    have r7 := blk_cell X7.out.2
    clear hrun1 hrun2 K5 X5 HR5 H7
    generalize Up w5.heap.size = GS at *
    go_upto_region 6 with (go_at_call 23; refine (HLF.out _ _ _ _ _ _ K7.out HR7.out G7.out).mono ?_; clear HLF; rintro e w8 ⟨y1, yn1, ym1, y2, yn2, ym2, rfl, H8⟩)
    have k8 := H8.out.2.alloc (.cells #[.slice y1 yn1 ym1, .slice y2 yn2 ym2] 49)
    have K8 := Lib.hid (K7.out.trans k8)
    have X8 := Lib.hid (And.intro (k8.blk X7.out.1 (fun x => x)) (k8.blk X7.out.2 (fun x => x)))
    have HR8 := Lib.hid (HR7.out.agree procSh k8.agreeNo)
    have G8 := Lib.hid (G7.out.agree _ k8.agreeNo)
    have F8 := Lib.hid (blk_new w8 (.cells #[.slice y1 yn1 ym1, .slice y2 yn2 ym2] 49))
    have kf := (Keep.refl No w8).alloc (.cells #[.slice y1 yn1 ym1, .slice y2 yn2 ym2] 49)
    have P8 := Lib.hid (And.intro (H8.out.1.1.rd.agree _ kf.agreeNo) (H8.out.1.2.rd.agree _ kf.agreeNo))
    have q8 := blk_cell X8.out.1
    have r8 := blk_cell X8.out.2
    clear q7 r7 k8 kf K7 X7 HR7 G7 H8
    generalize Fr w7.heap.size w8.heap.size = FS at *
    generalize (w8.alloc (.cells #[.slice y1 yn1 ym1, .slice y2 yn2 ym2] 49)) = u8 at *
    generalize w8.heap.size = F1 at *
    go_upto_region 7 with (go_at_call 24; refine (HRF.out _ K8.out).mono ?_; clear HRF; rintro e w9 ⟨z1, zn1, zm1, z2, zn2, zm2, rfl, H9⟩)
    have k9 := H9.out.2.alloc (.cells #[.slice z1 zn1 zm1, .slice z2 zn2 zm2] 49)
    have K9 := Lib.hid (K8.out.trans k9)
    have X9 := Lib.hid (And.intro (k9.blk X8.out.1 (fun x => x)) (k9.blk X8.out.2 (fun x => x)))
    have HR9 := Lib.hid (HR8.out.agree procSh k9.agreeNo)
    have G9 := Lib.hid (G8.out.agree _ k9.agreeNo)
    have F9 := Lib.hid (And.intro (k9.blk F8.out (fun x => x)) (blk_new w9 (.cells #[.slice z1 zn1 zm1, .slice z2 zn2 zm2] 49)))
    have kf := (Keep.refl No w9).alloc (.cells #[.slice z1 zn1 zm1, .slice z2 zn2 zm2] 49)
    have P9 := Lib.hid (And.intro (And.intro (P8.out.1.agree _ k9.agreeNo) (P8.out.2.agree _ k9.agreeNo)) (And.intro (H9.out.1.1.rd.agree _ kf.agreeNo) (H9.out.1.2.rd.agree _ kf.agreeNo)))
    clear q8 r8 k9 kf K8 X8 HR8 G8 H9 F8 P8
    generalize Fr u8.heap.size w9.heap.size = ZS at *
    generalize (w9.alloc (.cells #[.slice z1 zn1 zm1, .slice z2 zn2 zm2] 49)) = u9 at *
    generalize w9.heap.size = F2 at *
    go_upto_region 9 with (first | (go_at_call 25; refine (HLK.out _ _ _ _ K9.out G9.out).mono ?_; clear HLK; rintro e w10 ⟨rfl, H10⟩) | (go_at_call 26; refine (HRK.out _ (K9.out.trans H10.out)).mono ?_; clear HRK; rintro e w11 ⟨rfl, H11⟩))
    have k11 := (H10.out.trans H11.out).drew
    have K11 := Lib.hid (K9.out.trans k11)
    have X11 := Lib.hid (And.intro (k11.blk X9.out.1 (fun x => x)) (k11.blk X9.out.2 (fun x => x)))
    have HR11 := Lib.hid (HR9.out.agree procSh k11.agreeNo)
    have G11 := Lib.hid (G9.out.agree _ k11.agreeNo)
    have F11 := Lib.hid (And.intro (k11.blk F9.out.1 (fun x => x)) (k11.blk F9.out.2 (fun x => x)))
    have P11 := Lib.hid (And.intro (And.intro (P9.out.1.1.agree _ k11.agreeNo) (P9.out.1.2.agree _ k11.agreeNo)) (And.intro (P9.out.2.1.agree _ k11.agreeNo) (P9.out.2.2.agree _ k11.agreeNo)))
    have q1 := blk_cell F11.out.1
    have q2 := blk_cell F11.out.2
    clear k11 K9 X9 HR9 G9 F9 P9 H10 H11
    refine wp_region_canw [0, 1, 2, 3, 4, 5, 7, 6, 8, 9, 10, 11, 12, 13, 14, 15, 16, 18, 17, 19, 20, 21, 22, 23, 26, 27, 24, 25, 28, 29, 30, 31, 32, 33, 34, 35, 36, 37, 38, 39, 40] [2, 6, 17, 24, 25, 28, 34, 38] [(7, 6), (18, 17), (26, 24), (27, 24), (26, 25), (27, 25)] (by kernel_rfl) (by kernel_rfl) (by kernel_rfl) (by kernel_rfl) (by intro c a d v w h; cases d <;> exact h) ?_
    generalize w11.drew = v1 at *
    iterate 2 (refine canw_sil rfl rfl (fun K hK => ?_); go_simp; refine hK _ ?_; clear hK K)
    refine canw_loud [] rfl rfl rfl (fun K hK => ?_)
    go_wp2_with (go_at_call 27; refine (HFS.out _ _ _ _ _ _ _ P11.out.1 P11.out.2).mono ?_; rintro e v2 ⟨rfl, HK2⟩)
    refine Mid.normal (hK _ _ stabs_nil ?_)
    clear hK K q1 q2
    iterate 4 (refine canw_sil rfl rfl (fun K hK => ?_); go_simp; refine hK _ ?_; clear hK K)
    refine canw_loud [7] rfl rfl rfl (fun K hK => ?_)
    go_wp2_with (go_at_call 16; refine (num8_eq _ _).mono ?_; rintro e w12 ⟨rfl, rfl⟩)
    refine Mid.normal (hK _ _ ?_ ?_)
    · simp only [List.forall_mem_cons]
      refine ⟨?_, stabs_nil⟩ <;> exact stab_of rfl (fun K hK => by go_simp; exact hK)
    clear hK K
    iterate 10 (refine canw_sil rfl rfl (fun K hK => ?_); go_simp; refine hK _ ?_; clear hK K)
    refine canw_loud [18] rfl rfl rfl (fun K hK => ?_)
    go_wp2_with (go_at_call 16; refine (num8_eq _ _).mono ?_; rintro e w12 ⟨rfl, rfl⟩)
    refine Mid.normal (hK _ _ ?_ ?_)
    · simp only [List.forall_mem_cons]
      refine ⟨?_, stabs_nil⟩ <;> exact stab_of rfl (fun K hK => by go_simp; exact hK)
    clear hK K
    have q2 := blk_cell (HK2.out.blk X11.out.1 (fun x => x))
    have r2 := blk_cell (HK2.out.blk X11.out.2 (fun x => x))
    iterate 7 (refine canw_sil rfl rfl (fun K hK => ?_); go_simp; refine hK _ ?_; clear hK K)
    refine canw_loud [26, 27] rfl rfl rfl (fun K hK => ?_)
    go_wp2_with (go_at_call 28; refine (HSU.out _ _ _ _ _ _ _ _ _ _ _ _ _ _ _ (HR11.out.agree procSh HK2.out.agreeNo) (G11.out.agree _ HK2.out.agreeNo)).mono ?_; rintro e v3 ⟨rfl, HK3⟩; have q3 := blk_cell ((HK2.out.trans HK3.out).blk X11.out.1 (fun x => x)); have r3 := blk_cell ((HK2.out.trans HK3.out).blk X11.out.2 (fun x => x)))
    refine Mid.normal (hK _ _ ?_ ?_)
    · simp only [List.forall_mem_cons]
      refine ⟨?_, ?_, stabs_nil⟩ <;> exact stab_of rfl (fun K hK => by go_simp; exact hK)
    clear hK K q2 r2
    refine canw_loud [26, 27] rfl rfl rfl (fun K hK => ?_)
    go_wp2_with (go_at_call 16; refine (num8_eq _ _).mono ?_; rintro e w12 ⟨rfl, rfl⟩)
    refine Mid.normal (hK _ _ ?_ ?_)
    · simp only [List.forall_mem_cons]
      refine ⟨?_, ?_, stabs_nil⟩ <;> exact stab_of rfl (fun K hK => by go_simp; exact hK)
    clear hK K
    refine canw_loud [] rfl rfl rfl (fun K hK => ?_)
    go_wp2_with (go_at_call 29; refine (HRS.out _ ((K11.out.trans HK2.out).trans HK3.out)).mono ?_; rintro e v4 ⟨rfl, HK4⟩; have q4 := blk_cell (((HK2.out.trans HK3.out).trans HK4.out).blk X11.out.1 (fun x => x)); have r4 := blk_cell (((HK2.out.trans HK3.out).trans HK4.out).blk X11.out.2 (fun x => x)))
    refine Mid.normal (hK _ _ stabs_nil ?_)
    clear hK K q3 r3
    have K4 := Lib.hid ((HK2.out.trans HK3.out).trans HK4.out)
    iterate 5 (refine canw_sil rfl rfl (fun K hK => ?_); go_simp; refine hK _ ?_; clear hK K)
    refine canw_loud [] rfl rfl rfl (fun K hK => ?_)
    go_wp2_with (go_at_call 19; refine (HSM.out _ _ _ (K11.out.trans K4.out) (HR11.out.agree procSh K4.out.agreeNo)).mono ?_; rintro e v5 ⟨rfl, HK5⟩)
    refine Mid.normal (hK _ _ stabs_nil ?_)
    clear hK K q4 r4
    iterate 3 (refine canw_sil rfl rfl (fun K hK => ?_); go_simp; refine hK _ ?_; clear hK K)
    refine canw_loud [] rfl rfl rfl (fun K hK => ?_)
    go_wp2_with (go_at_call 14; refine (HLV.out _ ((K11.out.trans K4.out).trans HK5.out)).mono ?_; rintro e v6 ⟨rfl, HK6⟩)
    refine Mid.normal (hK _ _ stabs_nil ?_)
    clear hK K
    iterate 2 (refine canw_sil rfl rfl (fun K hK => ?_); go_simp; refine hK _ ?_; clear hK K)
    refine canw_nil ?_
    have KF := Lib.hid ((K4.out.trans HK5.out).trans HK6.out)
    have HGF := Lib.hid (And.intro (G11.out.agree _ KF.out.agreeNo) (HAR.out.1.agree _ (K11.out.trans KF.out).agreeNo))
    go_wp2_with fail
    go_loopg [17] args.length (fun g i wr => ∃ k m : Nat, k ≤ args.length ∧ g = args.length - k ∧ i = .int .i64 k ∧ wr = v6.drewN m)
    case atStart => exact ⟨0, 0, by omega, by omega, rfl, rfl⟩
    case round =>
      obtain ⟨k, m, hk, rfl, rfl, rfl⟩ := hrel
      by_cases hlt : k < args.length
      · have j1 : (k : Int) < args.length := by omega
        have j0 : (0 : Int) ≤ k := by omega
        have j3 : (k : Int) ≤ 1048576 := by omega
        obtain ⟨bx, ox, e1, -, -, p0, p1, p2, -⟩ := vals_get HGF.out.1 k hlt
        simp only [Option.some.injEq, Addr.mk.injEq, and_true] at e1
        obtain ⟨rfl, rfl⟩ := e1
        obtain ⟨by', oy, rfl, -, -, s0, s1, s2, -⟩ := vals_get HGF.out.2 k hlt
        have hq := fun w => neq_value_eq w args[k]
        have HXL := Lib.hid hlt
        generalize args[k].kind = v1' at *
        generalize args[k].num = v2' at *
        generalize args[k].text = v3' at *
        clear hlt hk
        go_wp2_with fail
        go_quiet (fail)
        go_wp2_with fail
        go_roundg (args.length - (k + 1))
        case measure => have := HXL.out; omega
        case rel => exact ⟨k + 1, _, HXL.out, rfl, by simp, rfl⟩
      · have j1 : ¬ (k : Int) < args.length := by omega
        have HFN := Lib.hid ((K11.out.trans KF.out).drewN m)
        clear hlt hk
        go_wp2_with fail
        go_ret
        exact ⟨rfl, HFN.out⟩
theorem LibraryFeet_calls (w : World) (ht : Tab w ∧ Errs w ∧ KindsW w) (cs : List Value) (p : Prc) (h : Rd procSh w (Lt w.heap.size) cs p) (hb : procSh.bulk p ≤ 1048576) (v : Value) (x : List Val) (hv : Rd (.slice valueSh) w (Lt w.heap.size) [v] x) (hbx : (Sh.slice valueSh).bulk x ≤ 1048576) (t : ByteArray) (wt : t.size ≤ maxLen) (bt : t.size ≤ 1048576) :
    Calls Tryz.prog 5 #[.agg cs.toArray, v, .string t] w fun e w' => e = .returned (.bool true) ∧ Keep No w w' := by
  obtain ⟨a, c, e, -⟩ := id hv
  simp only [List.cons.injEq, and_true] at e
  subst e
  have h1 := sum_len valueSh.bulk (fun x => Nat.le_add_left 1 _) x
  have e : (Sh.slice valueSh).bulk x = (x.map valueSh.bulk).sum + 1 := rfl
  exact LibraryFeet_main w ht _ _ cs p h (prc_small hb) x a c hv (by omega) t bt
end Go.Proofs.YtfgdnakfikpmpaaGreatDoor
