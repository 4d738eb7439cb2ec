/-
  How long a story is.
-/
import Derived.Test.YtjillekahongeaaEpG
namespace Go.Proofs.Ytjillekahongeaa
open Go Go.RowKit Go.Deep
set_option linter.unusedVariables false

@[reducible] def actSh : Sh := .struct (.cons (.int .i64) (.cons planSh .nil))
abbrev Act' := actSh.T
abbrev Act'.kind (a : Act') : Int := a.1
abbrev Act'.plan (a : Act') : Plan := a.2.1

theorem act_cells {w : World} {S : Nat → Prop} {cs : List Value} {x : Act'} (h : Rd actSh w S cs x) : ∃ ps, cs = .int .i64 x.kind :: ps ∧ Rd planSh w S ps x.plan ∧ (Lit.int .i64 x.kind).wf = true := by
  obtain ⟨_, _, rfl, ⟨rfl, w1⟩, ps, _, rfl, h2, rfl⟩ := h
  exact ⟨ps, by simp, h2, w1⟩

def cost (x : Act') : Nat := 1 + x.plan.args.length + x.plan.reads.length + x.plan.writes.length

theorem length_le_bulk (s : Sh) (l : List s.T) (h : ∀ x, 1 ≤ s.bulk x) : l.length ≤ (l.map s.bulk).sum := by
  induction l with
  | nil => simp
  | cons x l ih => have := h x; simp; omega
theorem cost_le (x : Act') : cost x ≤ actSh.bulk x := by
  have h1 := length_le_bulk valueSh x.plan.args (fun y => by simp [Sh.bulk])
  have h2 := length_le_bulk .str x.plan.reads (fun y => by simp [Sh.bulk])
  have h3 := length_le_bulk .str x.plan.writes (fun y => by simp [Sh.bulk])
  have e : actSh.bulk x = 1 + ((1 + (1 + ((x.plan.name.size + 1) + (((x.plan.args.map valueSh.bulk).sum + 1) + 0))) + 1) + (1 + ((((x.plan.reads.map Sh.str.bulk).sum + 1) + (((x.plan.writes.map Sh.str.bulk).sum + 1) + 0)) + 1 + 0)) + 1 + 0) + 1 := rfl
  rw [e]
  unfold cost
  omega
theorem costs_le (l : List Act') : (l.map cost).sum ≤ (l.map actSh.bulk).sum := by
  induction l with
  | nil => simp
  | cons x l ih => have := cost_le x; simp; omega
theorem sum_take_le (l : List Act') (k : Nat) : ((l.take k).map cost).sum ≤ (l.map cost).sum := by
  conv => rhs; rw [← List.take_append_drop k l]
  rw [List.map_append, List.sum_append]
  omega
theorem sum_take_succ (l : List Act') (k : Nat) (h : k < l.length) : ((l.take (k + 1)).map cost).sum = ((l.take k).map cost).sum + cost l[k] := by
  rw [List.take_succ_eq_append_getElem h, List.map_append, List.sum_append]; simp

def longB (l : List Act') : Bool := decide (20000 < (l.map cost).sum) || decide (2000 < l.length)

/-- a Bool, and nothing but draws -/
def QuietBool (w : World) (b : Bool) (e : Ending) (w' : World) : Prop := ∃ n, e = .returned (.bool b) ∧ w' = w.drewN n

set_option maxHeartbeats 2000000 in
theorem long_any (w : World) (S : Nat → Prop) (a : Option Addr) (c : Nat) (l : List Act') (h : Rd (.slice actSh) w S [.slice a l.length c] l) (hb : (l.map cost).sum ≤ 1048576) (hl : l.length ≤ 1048576) :
    Calls Try.prog 14 #[.slice a l.length c] w (QuietBool w (longB l)) := by
  go_enter Try.func14, Try.ntmps14
  go_wp2_with fail
  go_loopw [3, 4] (fun s i wr => ∃ k n : Nat, k ≤ l.length ∧ i = .int .i64 k ∧ s = .int .i64 (((l.take k).map cost).sum : Nat) ∧ wr = w.drewN n) (fun _ i _ => l.length - (intOf i).toNat)
  case atStart => exact ⟨0, 0, Nat.zero_le _, rfl, rfl, rfl⟩
  case round =>
    obtain ⟨k, n, hk, rfl, rfl, rfl⟩ := hrel
    by_cases hlt : k < l.length
    · obtain ⟨b1, o1, r1, rfl, -, hb1, -, hr1, hrow1, hx1⟩ := h.elem k hlt
      obtain ⟨ps, rfl, hp, -⟩ := act_cells hx1
      obtain ⟨y1, x1, y2, x2, y3, x3, rfl, -⟩ := plan_cells hp
      have p4 := (hrow1 4 (by simp)).1
      have p6 := (hrow1 6 (by simp)).1
      have p7 := (hrow1 7 (by simp)).1
      simp [Sh.size] at p4 p6 p7
      have j0 : (0 : Int) ≤ (k : Int) := by omega
      have j1 : (k : Int) < (l.length : Int) := by omega
      have hs := sum_take_succ l k hlt
      have hle := sum_take_le l (k + 1)
      have hc : cost l[k] = 1 + l[k].plan.args.length + l[k].plan.reads.length + l[k].plan.writes.length := rfl
      rw [hc] at hs
      generalize hS1 : ((l.take (k + 1)).map cost).sum = s1 at *
      generalize ((l.take k).map cost).sum = s0 at *
      clear hrow1 hx1 hp h hc
      have HS := Lib.hid hs
      have e1 : (s0 : Int) + 1 + l[k].plan.args.length + l[k].plan.reads.length + l[k].plan.writes.length ≤ 1048576 := by omega
      have HS1 := Lib.hid hS1
      clear hs hle hS1
      go_wp2_with fail
      refine wp_region_can [0, 1, 2, 3, 4, 5, 6, 7, 8, 9, 10, 11, 12, 13, 14, 15, 16, 17, 18, 19, 20, 21, 22, 23, 24, 25, 26, 27, 28, 29] [] [] (by kernel_rfl) (by kernel_rfl) (by kernel_rfl) (by kernel_rfl) (by intro c a d v w h; cases d <;> exact h) ?_
      repeat (refine can_sil rfl rfl (fun K hK => ?_); go_simp; (try go_bits); refine hK _ ?_; clear hK K)
      refine can_nil ?_
      go_wp2_with fail
      go_roundw
      case rel => exact ⟨k + 1, n + 1, by omega, by go_num, by rw [HS1.out]; congr 1; have := HS.out; omega, rfl⟩
      case measure => simp [intOf]; omega
    · obtain rfl : k = l.length := by omega
      rw [List.take_length]
      generalize hT : (l.map cost).sum = s at *
      have HT := Lib.hid hT
      clear hT
      have e1 : (20000 < (s : Int)) ∨ ¬ (20000 < (s : Int)) := Classical.em _
      rcases e1 with e1 | e1
      · go_wp2_with fail
        go_ret
        have : longB l = true := by simp only [longB, HT.out]; simp; omega
        rw [this]
        exact ⟨n, rfl, rfl⟩
      · have e2 : (2000 < (l.length : Int)) ∨ ¬ (2000 < (l.length : Int)) := Classical.em _
        rcases e2 with e2 | e2
        · go_wp2_with fail
          go_ret
          have : longB l = true := by simp only [longB, HT.out]; simp; omega
          rw [this]
          exact ⟨n, rfl, rfl⟩
        · go_wp2_with fail
          go_ret
          have : longB l = false := by simp only [longB, HT.out]; simp; omega
          rw [this]
          exact ⟨n, rfl, rfl⟩

end Go.Proofs.Ytjillekahongeaa
