/-
  The walk of EpochPlays.
-/
import Derived.Test.YtjillekahongeaaEpM
namespace Go.Proofs.Ytjillekahongeaa
open Go Go.RowKit Go.Deep
set_option linter.unusedVariables false

theorem cost_mem {l : List Act'} {k : Nat} (h : k < l.length) : cost l[k] ≤ (l.map cost).sum := by
  have h1 := sum_take_succ l k h
  have h2 := sum_take_le l (k + 1)
  omega
theorem small_mem {l : List Act'} {k : Nat} (h : k < l.length) (hb : (l.map cost).sum ≤ 1048576) : l[k].plan.Small := by
  have := cost_mem h
  have e : cost l[k] = 1 + l[k].plan.args.length + l[k].plan.reads.length + l[k].plan.writes.length := rfl
  rw [e] at this
  exact ⟨by omega, by omega, by omega⟩
theorem length_le_cost (l : List Act') : l.length ≤ (l.map cost).sum := by
  induction l with
  | nil => simp
  | cons x l ih => have : 1 ≤ cost x := by { unfold cost; omega }
                   simp; omega

theorem pair_new {w w1 w2 : World} {most age : Int} (h1 : CutAt w1 w.heap.size (Fr w.heap.size (w.heap.size + 1)) (CutSt.new most age)) (k1 : Keep No w w1) (s1 : w1.heap.size = w.heap.size + 1) (h2 : RefAt w2 w1.heap.size (Fr w1.heap.size (w1.heap.size + 1)) (CutSt.new most age)) (k2 : Keep No w1 w2) :
    Pair w w2 w.heap.size w1.heap.size (CutSt.new most age) 0 :=
  ⟨_, _, h1.agree k2.agreeNo k2.size, h2, fun k h => h.1, fun k h => by have := h.1; omega, fun k h g => by have := h.2; have := g.1; omega, k1.thenNo k2, new_ok most age, ⟨fun _ h => (by cases h), fun _ h => (by cases h)⟩⟩

set_option maxHeartbeats 400000 in
theorem EpochPlays_calls (w : World) (most : Int) (wm : (Lit.int .i64 most).wf = true) (age : Int) (wa : (Lit.int .i64 age).wf = true) (v : Value) (l : List Act') (h : Rd (.slice actSh) w (Lt w.heap.size) [v] l) (hb : (Sh.slice actSh).bulk l ≤ 1048576) :
    Calls Try.prog 5 #[.int .i64 most, .int .i64 age, v] w (LawTrue w) := by
  have hb1 : (l.map cost).sum ≤ 1048576 := by
    have h1 := costs_le l
    have h2 : (l.map actSh.bulk).sum ≤ (Sh.slice actSh).bulk l := Nat.le_succ _
    omega
  have hlen := length_le_cost l
  obtain ⟨a, c, hv, hc⟩ := h.sliceForm
  obtain rfl : v = .slice a l.length c := by simpa using hv
  clear hv
  have hlong := long_any w (Lt w.heap.size) a c l h hb1 (by omega)
  have hL := fun W => live_any W
  by_cases hg : longB l = true
  · rw [hg] at hlong
    have HG := Lib.hid hlong
    clear hlong hL
    go_enter Try.func5, Try.ntmps5
    go_wp2_with fail
    refine HG.out.mono ?_
    rintro e w1 ⟨n, rfl, rfl⟩
    go_wp2_with fail
    go_ret
    exact ⟨rfl, (Keep.refl _ _).drewN n⟩
  · have hl2 : l.length ≤ 2000 := by
      simp only [longB, Bool.or_eq_true, decide_eq_true_eq, not_or] at hg
      omega
    rw [Bool.eq_false_iff.2 hg] at hlong
    have HG := Lib.hid hlong
    have HL := Lib.hid hL
    clear hlong hL hg
    by_cases hbad : most < 1 ∨ 256 < most ∨ age < 1 ∨ 1000000 < age
    · have HB := Lib.hid hbad
      clear hbad
      go_enter Try.func5, Try.ntmps5
      go_wp2_with fail
      refine HG.out.mono ?_
      rintro e w1 ⟨n, rfl, rfl⟩
      go_wp2_with fail
      refine (new_bad most age _ HB.out).mono ?_
      rintro e w1 ⟨rfl, rfl⟩
      go_wp2_with fail
      refine (ref_new_bad most age _ HB.out).mono ?_
      rintro e w1 ⟨rfl, rfl⟩
      go_wp2_with (first | (go_at_call 10; refine (num_any _ _).mono ?_; rintro e w1 ⟨rfl, rfl⟩) | (go_at_call 8; refine (HL.out _).mono ?_; rintro e w1 ⟨rfl, k1⟩))
      go_ret
      exact ⟨rfl, ((Keep.refl _ _).drewN n).trans k1⟩
    · have b1 : 1 ≤ most := by omega
      have b2 : most ≤ 256 := by omega
      have b3 : 1 ≤ age := by omega
      have b4 : age ≤ 1000000 := by omega
      clear hbad
      go_enter Try.func5, Try.ntmps5
      go_wp2_with fail
      refine HG.out.mono ?_
      rintro e w1 ⟨n, rfl, rfl⟩
      have kn : Keep No w (w.drewN n) := (Keep.refl _ _).drewN n
      go_wp2_with fail
      refine (new_good most age _ b1 b2 b3 b4).mono ?_
      rintro e w1 ⟨rfl, hC1, hk1, hs1⟩
      go_wp2_with fail
      refine (ref_new_good most age _ b1 b2 b3 b4).mono ?_
      rintro e w2 ⟨rfl, hC2, hk2, hs2⟩
      have p0' := pair_new (w := w) hC1 (kn.thenNo hk1) hs1 hC2 hk2
      have hs1' : w1.heap.size = w.heap.size + 1 := hs1
      rw [hs1'] at p0'
      clear hs1'
      clear hC1 hC2 hk1 hk2 hs2
      go_wp2_with (go_at_call 10; refine (num_any _ _).mono ?_; rintro e w3 ⟨rfl, rfl⟩)
      go_loopw [11] (fun i wr => ∃ k j : Nat, k ≤ l.length ∧ j = k ∧ i = .int .i64 k ∧ ∃ st, Pair w wr w.heap.size (w.heap.size + 1) st j) (fun i _ => l.length - (intOf i).toNat)
      case atStart => exact ⟨0, 0, Nat.zero_le _, rfl, rfl, _, p0'⟩
      case round =>
        obtain ⟨k, j, hk, hj, rfl, st, pr⟩ := hrel
        have kw : Keep No w wr := by obtain ⟨_, _, _, _, _, _, _, k, _⟩ := pr; exact k
        by_cases hlt : k < l.length
        · obtain ⟨eb, eo, er, rfl, -, hb1', -, -, hrow, hx⟩ := h.elem k hlt
          have hx' := hx.agree _ kw.agreeNo
          have hd := does_any w wr w.heap.size (w.heap.size + 1) j st pr (by omega) (Lt w.heap.size) (fun _ h => h) er l[k] hx' (small_mem hlt hb1)
          obtain ⟨ps, rfl, hp, -⟩ := act_cells hx
          obtain ⟨y1, x1, y2, x2, y3, x3, rfl, -⟩ := plan_cells hp
          replace hrow := hrow.agree (kw.block eb hb1' (fun x => x))
          have p0 := (hrow 0 (by simp)).1
          have p1 := (hrow 1 (by simp)).1
          have p2 := (hrow 2 (by simp)).1
          have p3 := (hrow 3 (by simp)).1
          have p4 := (hrow 4 (by simp)).1
          have p5 := (hrow 5 (by simp)).1
          have p6 := (hrow 6 (by simp)).1
          have p7 := (hrow 7 (by simp)).1
          simp [Sh.size] at p0 p1 p2 p3 p4 p5 p6 p7
          have j0 : (0 : Int) ≤ (k : Int) := by omega
          have j1 : (k : Int) < (l.length : Int) := by omega
          have HD := Lib.hid hd
          have HJ := Lib.hid hj
          clear hrow hx hx' hp h pr hd hj p0' hb hb1 hlen hc hs1
          go_wp2_with (go_at_call 16; first | (refine HD.out.mono ?_; clear HD p0 p1 p2 p3 p4 p5 p6 p7; rintro e w3 ⟨rfl, st1, pr1⟩) | (refine (does_ask w w3 w.heap.size (w.heap.size + 1) (j + 1) st1 pr1 (by have := HJ.out; omega) 0 (by decide) (by decide) (by decide) (by decide) none none none 0 0 0 ⟨#[]⟩ 0 0 0 0 0 0).mono ?_; rintro e w4 ⟨rfl, st2, pr2⟩))
          go_roundw
          case rel => exact ⟨k + 1, j + 1, by omega, by rw [HJ.out], by go_num, st2, pr2⟩
          case measure => simp [intOf]; omega
        · go_wp2_with (go_at_call 8; refine (HL.out _).mono ?_; rintro e w3 ⟨rfl, k3⟩)
          go_ret
          exact ⟨rfl, kw.thenNo k3⟩
end Go.Proofs.Ytjillekahongeaa
