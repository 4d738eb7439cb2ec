/-
  LogBack, whatever the input.
-/
import Derived.Test.YtnknihmchmmenaaGreatLbE
namespace Go.Proofs.YtnknihmchmmenaaGreat
open Go Go.RowKit Go.Deep
set_option linter.unusedVariables false
set_option linter.unusedSimpArgs false

set_option maxRecDepth 10000 in
set_option maxHeartbeats 2000000 in
theorem LogBack_calls (w : World) (v : Value) (l : List Act') (h : Rd (.slice actSh) w (Lt w.heap.size) [v] l) (hb : (Sh.slice actSh).bulk l ≤ 1048576) (v1 : Value) (raw : Bytes) (hr : Rd bytesSh w (Lt w.heap.size) [v1] raw) (hb1 : bytesSh.bulk raw ≤ 1048576) :
    Calls Tryz.prog 7 #[v, v1] w fun e w' => e = .returned (.bool true) ∧ Keep No w w' := by
  obtain ⟨a, c, hv, -⟩ := id h
  simp only [List.cons.injEq, and_true] at hv
  subst hv
  have hb' : (l.map actSh.bulk).sum ≤ 1048576 := by have : (l.map actSh.bulk).sum + 1 ≤ 1048576 := hb; omega
  have hab := acts_bulk l
  obtain ⟨a1, c1, rfl, -⟩ := bytes_at hr
  cases hlong : longB l with
  | true =>
    have hl := (long_any w _ a c l h (by omega) (by omega)).mono (R' := fun e w1 => e = .returned (.bool true) ∧ RowKit.Hid (Keep No w w1)) (by rintro e w1 ⟨rfl, hk⟩; rw [hlong]; exact ⟨rfl, hk⟩)
    clear h hb hb' hab hlong hr hb1
    generalize raw.length = rn at *
    go_enter Tryz.func7, Tryz.ntmps7
    go_wp2_with (first | (go_at_call 29; refine hl.mono ?_; clear hl; rintro e w1 ⟨rfl, HK1⟩) | (go_at_call 17; refine (live_any _).mono ?_; rintro e w3 ⟨rfl, hk3⟩; have HP3 := Lib.hid (HK1.out.trans hk3); clear hk3))
    go_ret
    exact ⟨by simp, HP3.out⟩
  | false =>
    by_cases hraw : raw.length ≤ 200000
    · exact LogBack_main w a c l h hb' _ raw hr hraw hlong
    · have hl := (long_any w _ a c l h (by omega) (by omega)).mono (R' := fun e w1 => e = .returned (.bool false) ∧ RowKit.Hid (Keep No w w1)) (by rintro e w1 ⟨rfl, hk⟩; rw [hlong]; exact ⟨rfl, hk⟩)
      have d1 : decide ((200000 : Int) < (raw.length : Int)) = true := by simp; omega
      have HD := Lib.hid d1
      clear h hb hb' hab hlong hr hb1 hraw
      generalize raw.length = rn at *
      go_enter Tryz.func7, Tryz.ntmps7
      go_wp2_with (first | (go_at_call 29; refine hl.mono ?_; clear hl; rintro e w1 ⟨rfl, HK1⟩) | (go_at_call 17; refine (live_any _).mono ?_; rintro e w3 ⟨rfl, hk3⟩; have HP3 := Lib.hid (HK1.out.trans hk3); clear hk3))
      go_ret
      exact ⟨by simp, HP3.out⟩
end Go.Proofs.YtnknihmchmmenaaGreat
