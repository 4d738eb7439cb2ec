/-
  live: an epoch that is full.
-/
import Derived.Test.YtjillekahongeaaEpH
namespace Go.Proofs.Ytjillekahongeaa
open Go Go.RowKit Go.Deep
set_option linter.unusedVariables false

/-- the plan with nothing but How -/
def howPlan (x : Int) : Plan := ((0, 0, ⟨#[]⟩, [], ()), x, ([], [], ()), ())
theorem rd_nil {s : Sh} {w : World} {S : Nat → Prop} : Rd (.slice s) w S [.slice none 0 0] [] := ⟨none, 0, rfl, Nat.le_refl _, Nat.zero_le _, fun _ => ⟨rfl, rfl⟩, fun i hi => absurd hi (Nat.not_lt_zero _)⟩
theorem rd_howPlan (w : World) (S : Nat → Prop) (x : Int) (hx : (Lit.int .i64 x).wf = true) : Rd planSh w S [.int .i64 0, .int .u64 0, .string ⟨#[]⟩, .slice none 0 0, .int .i64 x, .slice none 0 0, .slice none 0 0] (howPlan x) :=
  plan_mk (howPlan x) rd_nil rd_nil rd_nil (by rfl) (by rfl) (Nat.zero_le _) hx
theorem howPlan_small (x : Int) : (howPlan x).Small := ⟨Nat.zero_le _, Nat.zero_le _, Nat.zero_le _⟩

theorem st1 : (CutSt.new 1 5).add (howPlan 7) = ⟨1, 5, 1, 0, [], [(0, [howPlan 7])]⟩ := rfl

set_option maxHeartbeats 2000000 in
theorem live_any (w : World) : Calls Try.prog 8 #[] w fun e w' => e = .returned (.bool true) ∧ Keep No w w' := by
  go_enter Try.func8, Try.ntmps8
  go_wp2_with fail
  refine (new_good 1 5 w (by decide) (by decide) (by decide) (by decide)).mono ?_
  rintro e w1 ⟨rfl, hC1, hk1, hs1⟩
  go_wp2_with fail
  refine (num_any 0 w1).mono ?_
  rintro e w1 ⟨rfl, rfl⟩
  go_wp2_with fail
  refine (add_any w1 w.heap.size (Fr w.heap.size (w.heap.size + 1)) No (CutSt.new 1 5) 0 _ (howPlan 7) hC1 ⟨by decide, by decide, by decide, by decide, by decide, by decide⟩ (by decide) (rd_howPlan _ _ 7 (by decide)) (by decide) (by decide) (by decide)).mono ?_
  rintro e w2 ⟨rfl, S2, hC2, hS2, hk2⟩
  rw [st1] at hC2
  have K2 : Keep No w w2 := hk1.then hk2 fun k hk h => by have := h.1; omega
  go_wp2_with fail
  refine (waiting_any w2 w.heap.size S2 _ hC2).mono ?_
  rintro e w2 ⟨rfl, rfl⟩
  go_wp2_with fail
  refine (take_some w2 w.heap.size S2 _ (0, [howPlan 7]) [] hC2 rfl).mono ?_
  rintro e w3 ⟨v, F, S3, rfl, hp, hC3, hF, hS3, hk3⟩
  obtain ⟨a, c, rfl, hc⟩ := hp.form
  have hr := hp.rd
  simp only [List.length_singleton] at hr hp
  obtain ⟨b, off, x1, y1, x2, y2, x3, y3, rfl, -, hb, -, hrow, -⟩ := hr.planAt 0 (by decide)
  have p4 := (hrow 4 (by simp)).1
  simp at p4
  have p4' : w3.cell? ⟨b, off + 4, none⟩ = some (.int .i64 7) := p4
  have K3 : Keep No w w3 := K2.then hk3 fun k hk h => by
    rcases hS2 k h with h | h
    · have := h.1; omega
    · omega
  clear hrow p4 hr hp
  go_wp2_with fail
  refine (now_any _ w.heap.size S3 _ (CutAt.agree hC3 (by exact ((Keep.refl No w3).alloc _).agreeNo) (by simp))).mono ?_
  rintro e w4 ⟨rfl, rfl⟩
  go_wp2_with fail
  refine (cut_any _ w.heap.size S3 _ 1 (CutAt.agree hC3 (by exact ((Keep.refl No w3).alloc _).agreeNo) (by simp)) ⟨by decide, by decide, by decide, by decide, by decide, by decide⟩ (by decide)).mono ?_
  rintro e w4 ⟨rfl, S4, hC4, hS4, hk4⟩
  go_wp2_with fail
  go_ret
  refine ⟨rfl, (K3.alloc _).then hk4 fun k hk h => ?_⟩
  rcases hS2 k (hS3 k h) with h | h
  · have := h.1; omega
  · omega

end Go.Proofs.Ytjillekahongeaa
