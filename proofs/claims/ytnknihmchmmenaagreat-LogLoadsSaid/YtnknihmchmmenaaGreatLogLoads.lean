/-
  LogLoads, whatever the input; LogLoads holds: at every input the call returns true, and what was there reads as it did.
-/
import Derived.Test.YtnknihmchmmenaaGreatHK
import Derived.Test.YtnknihmchmmenaaGreatStB
import Derived.Test.YtnknihmchmmenaaGreatRnR
import Derived.Test.YtnknihmchmmenaaGreatTaA
import Derived.Test.YtnknihmchmmenaaGreatGJ
import Derived.JoinedCond
namespace Go.Proofs.YtnknihmchmmenaaGreat
open Go Go.RowKit Go.Deep
set_option linter.unusedVariables false
set_option linter.unusedSimpArgs false

theorem lnum_at (w : World) (e : Int) : Calls Tryz.prog 25 #[.int .i64 e] w fun en w' => en = .returned (.int .i64 e) ∧ w = w' :=
  (lnum_any w e).mono (by rintro _ _ ⟨rfl, rfl⟩; exact ⟨rfl, rfl⟩)
theorem kin_bytes {U S : Nat → Prop} {w w' : World} (h : Kin U w w') {a : Option Addr} {n c : Nat} {l : Bytes} (hr : Rd bytesSh w S [.slice a n c] l) (i : Nat) (hi : i < n) :
    ∃ b off x0, a = some ⟨b, off, none⟩ ∧ S b ∧ RowAt w' b (off + i) [.int .u8 x0] := by
  obtain ⟨l', hl, hr'⟩ := h.slice (s := .int .u8) hr
  obtain ⟨b, off, row, ha, -, hb, hS, -, hrow, hx⟩ := Rd.elem' (s := .int .u8) hr' i (by omega)
  obtain ⟨rfl, -⟩ := hx
  simp only [Sh.size, Nat.mul_one] at hrow
  exact ⟨b, off, _, ha, hS, hrow⟩

/-- once the bytes' copy is there, and both have read -/
structure Two (w w1 w3 : World) (a0 a1 : Option Addr) (n c0 c1 : Nat) (b : Bytes) : Prop where
  k1 : Keep No w w1
  k3 : Keep No w1 w3
  mine : Rd bytesSh w3 (Lt w.heap.size) [.slice a0 n c0] b
  own : Rd bytesSh w3 (Fr w.heap.size w1.heap.size) [.slice a1 n c1] b
theorem Two.more {w w1 w3 w4 : World} {a0 a1 : Option Addr} {n c0 c1 : Nat} {b : Bytes} (h : Two w w1 w3 a0 a1 n c0 c1 b) (k : Keep No w3 w4) : Two w w1 w4 a0 a1 n c0 c1 b :=
  ⟨h.k1, h.k3.trans k, h.mine.agree _ k.agreeNo, h.own.agree _ k.agreeNo⟩

set_option maxRecDepth 10000 in
set_option maxHeartbeats 4000000 in
theorem LogLoads_none (w : World) (a0 : Option Addr) (n c0 : Nat) (b : Bytes) (hn : b.length = n) (h : Rd bytesSh w (Lt w.heap.size) [.slice a0 n c0] b) (hl : n ≤ 200000) (e0 : Int) (m0 : Nat) (hx : load b = (none, e0, m0)) :
    Calls Tryz.prog 6 #[.slice a0 n c0] w fun e w' => e = .returned (.bool true) ∧ Keep No w w' := by
  obtain ⟨a1, c1, w1, hrun, ho⟩ := clone_bytesApp w _ _ b h (by omega)
  rw [hn] at hrun ho
  have HT1 : RowKit.Hid (Two w w1 w1 a0 a1 n c0 c1 b) := ⟨ho.2, Keep.refl No _, h.agree _ ho.2.agreeNo, ho.1.rd⟩
  have hL := (logLoad_any w1 _ _ b HT1.out.own (by omega)).mono (R' := fun e w2 => e = .returned (.tuple #[.pointer none, .int .i64 e0, .int .i64 m0]) ∧ RowKit.Hid (Two w w1 w2 a0 a1 n c0 c1 b)) (by
    intro e w2 hg
    rw [hx] at hg
    exact ⟨hg.1, HT1.out.more hg.2⟩)
  have hR : ∀ w2, Two w w1 w2 a0 a1 n c0 c1 b → Calls Tryz.prog 40 #[.slice a0 n c0] w2 (fun e w3 => e = .returned (.tuple #[.pointer none, .int .i64 e0, .int .i64 m0]) ∧ RowKit.Hid (Two w w1 w3 a0 a1 n c0 c1 b)) := fun w2 ht => (rlogLoad_any w2 _ _ b ht.mine (by omega)).mono (by
    intro e w3 hg
    rw [loadR_eq (by omega), hx] at hg
    exact ⟨hg.1, ht.more hg.2⟩)
  have HR := Lib.hid hR
  have hrl : decide ((200000 : Int) < (n : Int)) = false := by simp; omega
  have HN : RowKit.Hid (n ≤ 200000) := hl
  clear h ho hR hn HT1 hl hx
  go_enter Tryz.func6, Tryz.ntmps6
  go_wp2_with (first | (at_builtin; refine wpList_app rfl (.tmp 15) (.tmp 16) 53 53 rfl rfl rfl hrun ?_; clear hrun) | (go_at_call 39; refine hL.mono ?_; clear hL; rintro e w2 ⟨rfl, HT2⟩) | (go_at_call 40; refine (HR.out _ HT2.out).mono ?_; clear HR; rintro e w3 ⟨rfl, HT3⟩) | (go_at_call 25; refine (lnum_at _ _).mono ?_; rintro e w20 ⟨rfl, rfl⟩) | (go_at_call 24; refine (same_eq_bytes _ _ _ _ _ _ _ _ _ b HT3.out.own HT3.out.mine).mono ?_; rintro e w17 ⟨rfl, hw17⟩; subst hw17) | (go_at_call 17; refine (live_any _).mono ?_; rintro e w4 ⟨rfl, hk4⟩; have HT4 := Lib.hid (HT3.out.more hk4); clear hk4))
  go_loopw [10] (fun i wr => ∃ k : Nat, i = .int .i64 k ∧ k ≤ n ∧ RowKit.Hid (Kin (Fr w.heap.size w1.heap.size) w4 wr)) (fun i _ => n - (intOf i).toNat)
  case atStart => exact ⟨0, rfl, Nat.zero_le _, Kin.refl _ _⟩
  case round =>
    obtain ⟨k, rfl, hk, HI⟩ := hrel
    by_cases hlt : k < n
    · obtain ⟨b', off', z0, rfl, hbS', hrw⟩ := kin_bytes HI.out HT4.out.own k hlt
      have i0 : (0 : Int) ≤ (k : Int) := by omega
      have i1 : (k : Int) < (n : Int) := by omega
      have i3 : (k : Int) ≤ 9223372036854775806 := by have := HN.out; omega
      obtain ⟨p0, f0⟩ := hrw 0 (by simp)
      simp only [List.getElem?_cons_zero, Nat.add_zero] at p0 f0
      have hnew := HI.out.trans (Kin.all hbS' (LikeL.cons (Like.int .u8 z0 238 rfl) .nil) hrw)
      have HNW := Lib.hid hnew
      have HLT : RowKit.Hid (k < n) := hlt
      clear hnew hrw hlt hk
      go_wp2_with fail
      go_roundw
      case rel => exact ⟨k + 1, by simp, HLT.out, HNW⟩
      case measure => simp [intOf]; have := HLT.out; omega
    · obtain rfl : n = k := by omega
      clear hlt hk
      go_wp2_with fail
      go_ret
      exact ⟨by simp, (HT4.out.k1.trans HT4.out.k3).then HI.out.keep fun i hi hf => by have := hf.1; omega⟩

set_option maxRecDepth 10000 in
set_option maxHeartbeats 4000000 in
theorem LogLoads_some (w : World) (a0 : Option Addr) (n c0 : Nat) (b : Bytes) (hn : b.length = n) (h : Rd bytesSh w (Lt w.heap.size) [.slice a0 n c0] b) (hl : n ≤ 200000) (y : Lg) (hg : y.Good) (hx : load b = (some y, 0, 0)) :
    Calls Tryz.prog 6 #[.slice a0 n c0] w fun e w' => e = .returned (.bool true) ∧ Keep No w w' := by
  obtain ⟨a1, c1, w1, hrun, ho⟩ := clone_bytesApp w _ _ b h (by omega)
  rw [hn] at hrun ho
  have HT1 : RowKit.Hid (Two w w1 w1 a0 a1 n c0 c1 b) := ⟨ho.2, Keep.refl No _, h.agree _ ho.2.agreeNo, ho.1.rd⟩
  have hL := (logLoad_any w1 _ _ b HT1.out.own (by omega)).mono (R' := fun e w2 => ∃ LB S, e = .returned (.tuple #[.pointer (some ⟨LB, 0, none⟩), .int .i64 0, .int .i64 0]) ∧ RowKit.Hid (Two w w1 w2 a0 a1 n c0 c1 b ∧ LogAt 117 w2 LB S y ∧ ∀ i, S i → w1.heap.size ≤ i)) (by
    intro e w2 hg
    rw [hx] at hg
    obtain ⟨LB, S, e1, e2, e3, e4⟩ := hg
    exact ⟨LB, S, e1, HT1.out.more e4, e2, e3⟩)
  have hR : ∀ w2, Two w w1 w2 a0 a1 n c0 c1 b → Calls Tryz.prog 40 #[.slice a0 n c0] w2 (fun e w3 => ∃ WB T, e = .returned (.tuple #[.pointer (some ⟨WB, 0, none⟩), .int .i64 0, .int .i64 0]) ∧ RowKit.Hid (Two w w1 w3 a0 a1 n c0 c1 b ∧ LogAt 43 w3 WB T y ∧ (∀ i, T i → w1.heap.size ≤ i) ∧ Keep No w2 w3)) := fun w2 ht => (rlogLoad_any w2 _ _ b ht.mine (by omega)).mono (by
    intro e w3 hg
    rw [loadR_eq (by omega), hx] at hg
    obtain ⟨LB, S, e1, e2, e3, e4⟩ := hg
    exact ⟨LB, S, e1, ht.more e4, e2, fun i hi => Nat.le_trans ht.k3.size (e3 i hi), e4⟩)
  have HR := Lib.hid hR
  have hrl : decide ((200000 : Int) < (n : Int)) = false := by simp; omega
  have HN : RowKit.Hid (n ≤ 200000) := hl
  clear h ho hR hn HT1 hl hx
  go_enter Tryz.func6, Tryz.ntmps6
  go_wp2_with (first | (at_builtin; refine wpList_app rfl (.tmp 15) (.tmp 16) 53 53 rfl rfl rfl hrun ?_; clear hrun) | (go_at_call 39; refine hL.mono ?_; clear hL; rintro e w2 ⟨LB, SL, rfl, HT2⟩) | (go_at_call 40; refine (HR.out _ HT2.out.1).mono ?_; clear HR; rintro e w3 ⟨WB, SW, rfl, HT3⟩) | (go_at_call 25; refine (lnum_at _ _).mono ?_; rintro e w20 ⟨rfl, rfl⟩) | (go_at_call 24; refine (same_eq_bytes _ _ _ _ _ _ _ _ _ b HT3.out.1.own HT3.out.1.mine).mono ?_; rintro e w17 ⟨rfl, hw17⟩; subst hw17) | (go_at_call 17; refine (live_any _).mono ?_; rintro e w4 ⟨rfl, hk4⟩; have HT4 := Lib.hid (And.intro (HT3.out.1.more hk4) hk4); clear hk4))
  go_loopw [10] (fun i wr => ∃ k : Nat, i = .int .i64 k ∧ k ≤ n ∧ RowKit.Hid (Kin (Fr w.heap.size w1.heap.size) w4 wr)) (fun i _ => n - (intOf i).toNat)
  case atStart => exact ⟨0, rfl, Nat.zero_le _, Kin.refl _ _⟩
  case round =>
    obtain ⟨k, rfl, hk, HI⟩ := hrel
    by_cases hlt : k < n
    · obtain ⟨b', off', z0, rfl, hbS', hrw⟩ := kin_bytes HI.out HT4.out.1.own k hlt
      have i0 : (0 : Int) ≤ (k : Int) := by omega
      have i1 : (k : Int) < (n : Int) := by omega
      have i3 : (k : Int) ≤ 9223372036854775806 := by have := HN.out; omega
      obtain ⟨p0, f0⟩ := hrw 0 (by simp)
      simp only [List.getElem?_cons_zero, Nat.add_zero] at p0 f0
      have hnew := HI.out.trans (Kin.all hbS' (LikeL.cons (Like.int .u8 z0 238 rfl) .nil) hrw)
      have HNW := Lib.hid hnew
      have HLT : RowKit.Hid (k < n) := hlt
      clear hnew hrw hlt hk
      go_wp2_with fail
      go_roundw
      case rel => exact ⟨k + 1, by simp, HLT.out, HNW⟩
      case measure => simp [intOf]; have := HLT.out; omega
    · obtain rfl : n = k := by omega
      clear hlt hk
      have k3r : Keep (Fr w.heap.size w1.heap.size) w17 wr := (HT4.out.2.mono fun _ _ x => x.elim).trans HI.out.keep
      have k2r : Keep (Fr w.heap.size w1.heap.size) w2 wr := (HT3.out.2.2.2.mono fun _ _ x => x.elim).trans k3r
      have hA := HT2.out.2.1.agree (k2r.agree fun i _ hi hf => by have := hf.2; have := HT2.out.2.2 i hi; omega) k2r.size
      have hB := HT3.out.2.1.agree (k3r.agree fun i _ hi hf => by have := hf.2; have := HT3.out.2.2.1 i hi; omega) k3r.size
      have hst := stands_any wr LB WB SL SW y hA hB hg
      have HKR := Lib.hid ((HT4.out.1.k1.trans HT4.out.1.k3).then HI.out.keep fun i hi hf => by have := hf.1; omega)
      clear hA hB k3r k2r
      go_wp2_with (go_at_call 38; refine hst.mono ?_; clear hst; rintro e w9 ⟨rfl, HK9⟩)
      go_ret
      exact ⟨by simp, HKR.out.trans HK9⟩

theorem LogLoads_calls (w : World) (v : Value) (b : Bytes) (h : Rd bytesSh w (Lt w.heap.size) [v] b) :
    Calls Tryz.prog 6 #[v] w fun e w' => e = .returned (.bool true) ∧ Keep No w w' := by
  have hA := bytes_all h
  obtain ⟨a0, c0, rfl, -⟩ := bytes_at h
  by_cases hraw : b.length ≤ 200000
  · rcases hx : load b with ⟨_ | y, e0, m0⟩
    · exact LogLoads_none w a0 _ c0 b rfl h hraw e0 m0 hx
    · obtain ⟨hg, -, hc⟩ := loadL_ok (most := fun n => n) (m := b.length) hA (by omega) (c := (e0, m0)) hx
      cases hc
      exact LogLoads_some w a0 _ c0 b rfl h hraw y hg hx
  · have d1 : decide ((200000 : Int) < (b.length : Int)) = true := by simp; omega
    clear h hA hraw
    generalize b.length = n at *
    go_enter Tryz.func6, Tryz.ntmps6
    go_wp2_with (go_at_call 17; refine (live_any _).mono ?_; rintro e w3 ⟨rfl, hk3⟩)
    go_ret
    exact ⟨by simp, hk3⟩
end Go.Proofs.YtnknihmchmmenaaGreat
namespace Go.Proofs.YtnknihmchmmenaaGreat.logLoads
open Go Go.RowKit Go.Deep Go.ChangeShapes Go.WideShapes Go.ChangeAt
set_option linter.unusedVariables false

theorem own : ownKnob Tryz.prog.godebug = none := by kernel_rfl
theorem laidOut : laidOutB Tryz.prog = true := by kernel_rfl
set_option maxRecDepth 100000 in
theorem contract (H : Type) (enc : TypeId × Value → H) (W : World) (base : Nat) (args : Array Value) (ds gs : List (DataW H)) (before : List MemPlace)
    (hval : ∀ (j : Nat) t v, Tryz.f6.params[j]? = some t → args[j]? = some v → Value.okWide Tryz.prog W .any base t v)
    (hW : DataW.Whole enc Tryz.prog Tryz.f6.params.toList Rows.logLoadsSpec.vars false W args.toList ds gs before) :
    Calls Tryz.prog 6 args W fun e W' => ∃ v, e = .returned v ∧ Rows.logLoadsSpec.post enc Tryz.prog Tryz.f6 false true false false W args v W' := by
  have hW' := hW
  obtain ⟨p, q, hA0, hV, rfl, hfz, hnd⟩ := hW
  have hA : DataW.TrodAll enc Tryz.prog W 0 (fun _ => true) true Tryz.f6.params.toList args.toList ds p := hA0
  rw [Tryz.params6] at hA hval
  obtain ⟨rfl, rfl⟩ := trodVars_none hV
  obtain ⟨v0, vs0, d0, ds0, p0, q0, hargs, rfl, rfl, h0, r0⟩ := trodAll_cons hA
  obtain ⟨rfl, rfl, rfl⟩ := trodAll_nil r0
  obtain rfl : args = #[v0] := by cases args; simp_all
  have z0 := noneFrozen_left (noneFrozen_left hfz)
  obtain ⟨x0, w0, b0⟩ := arg_slice (.int .u8) (by kernel_rfl) (hval 0 53 v0 rfl rfl) h0 z0
  refine (LogLoads_calls W v0 x0 w0).mono fun e W' he => ?_
  obtain ⟨rfl, hg⟩ := he
  exact ⟨_, rfl, law_post laidOut hW' rfl rfl Tryz.underlying4 (by kernel_rfl) rfl hg⟩

set_option maxRecDepth 100000 in
theorem lifted (os : Os) (started : os.Started) (H : Type) (enc : TypeId × Value → H) :
    ReturnsInHanded {} Tryz.checked os 6 .any (Rows.logLoadsSpec.pre6 enc Tryz.prog Tryz.f6 Rows.logLoadsRow.domain false) (Rows.logLoadsSpec.post enc Tryz.prog Tryz.f6 false true false false) := by
  refine returnsInHanded_of_change (C := Tryz.checked) own started (by kernel_rfl) Tryz.func6
    (ChangeSpec.witness6 (enc := enc) (C := Tryz.checked) false ⟨#[], #[.slice none 0 0], []⟩ 8 (by kernel_rfl) (by kernel_rfl) (by kernel_rfl) (by kernel_rfl)) ?_
  intro W base args ds gs before hval hW _ _
  exact contract H enc W base args ds gs before hval hW

theorem proved : Rows.LogLoadsSaid :=
  OpenClaim.holds_of_wide 6 Tryz.f6 rfl rfl rfl rfl rfl rfl rfl ⟨rfl, rfl, rfl, rfl, rfl⟩ rfl rfl rfl rfl rfl (by kernel_rfl) Tryz.func6 (by kernel_rfl)
    (of_decide_eq_true (by kernel_rfl)) (by unfold Func.isWrapper; first | (rw [if_pos (by decide +kernel)]; kernel_rfl) | (rw [if_neg (by decide +kernel)]; exact ⟨rfl, rfl⟩))
    (fun os started H enc _ => lifted os started H enc)

end Go.Proofs.YtnknihmchmmenaaGreat.logLoads
