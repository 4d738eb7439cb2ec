/-
  LogIndexed, whatever the input.
-/
import Derived.Test.YtnknihmchmmenaaGreatIxJ
namespace Go.Proofs.YtnknihmchmmenaaGreat
open Go Go.RowKit Go.Deep
set_option linter.unusedVariables false
set_option linter.unusedSimpArgs false

set_option maxRecDepth 10000 in
set_option maxHeartbeats 2000000 in
theorem LogIndexed_calls (w : World) (v : Value) (l : List Act') (h : Rd (.slice actSh) w (Lt w.heap.size) [v] l) (hb : (Sh.slice actSh).bulk l ≤ 1048576) (key : ByteArray) (wkey : key.size ≤ maxLen) (hk : key.size + 1 ≤ 1048576) :
    Calls Tryz.prog 8 #[v, .string key] w fun e w' => e = .returned (.bool true) ∧ Keep No w w' := by
  obtain ⟨a, c, hv, -⟩ := id h
  simp only [List.cons.injEq, and_true] at hv
  subst hv
  have hb' : (l.map actSh.bulk).sum ≤ 1048576 := by have : (l.map actSh.bulk).sum + 1 ≤ 1048576 := hb; omega
  cases hlong : longB l with
  | false => exact LogIndexed_main w a c l h hb' key (by omega) hlong
  | true =>
    have hab := acts_bulk l
    have hl := (long_any w _ a c l h (by omega) (by omega)).mono (R' := fun e w1 => e = .returned (.bool true) ∧ RowKit.Hid (Keep No w w1)) (by rintro e w1 ⟨rfl, hk⟩; rw [hlong]; exact ⟨rfl, hk⟩)
    clear h hb hb' hab hlong wkey hk
    go_enter Tryz.func8, Tryz.ntmps8
    go_wp2_with (first | (go_at_call 29; refine hl.mono ?_; clear hl; rintro e w1 ⟨rfl, HK1⟩) | (go_at_call 43; refine (index_any _).mono ?_; rintro e w3 ⟨rfl, hk3⟩; have HP3 := Lib.hid (HK1.out.trans hk3); clear hk3))
    go_ret
    exact ⟨by simp, HP3.out⟩
end Go.Proofs.YtnknihmchmmenaaGreat
