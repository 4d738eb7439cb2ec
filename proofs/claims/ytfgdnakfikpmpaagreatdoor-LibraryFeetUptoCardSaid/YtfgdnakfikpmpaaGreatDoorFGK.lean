/-
  Parts of what is proved for this claim; each declaration is one of the seat's texts.
-/
import Derived.Test.YtfgdnakfikpmpaaGreatDoorFGF
set_option linter.unusedVariables false
set_option linter.unusedSimpArgs false
namespace Go.Proofs.YtfgdnakfikpmpaaGreatDoor
open Go Go.RowKit Go.Deep
def Says (w : World) (b : Bool) (e : Ending) (w' : World) : Prop := e = .returned (.bool b) ∧ Keep No w w'
theorem empty_iff (t : ByteArray) : (t.toList.isEmpty) = decide (t.size = 0) := by
  rw [toList_is]
  cases t with
  | mk d => show d.toList.isEmpty = decide (d.size = 0); cases d with
    | mk l => cases l <;> simp
theorem size0_iff (t : ByteArray) : t = ByteArray.empty ↔ t.size = 0 := ⟨fun h => by rw [h]; rfl, fun h => size0 h⟩
set_option maxHeartbeats 2000000 in
theorem Valid_any (k n : Int) (t : ByteArray) (ht : t.size ≤ 9223372036854775807) (w : World) : Calls Tryz.prog 72 #[.agg #[.int .i64 k, .int .i64 n, .string t]] w (Says w (mkVal k n t).ok) := by
  have hE := empty_iff t
  have hp := printable_any t ht (w.alloc (.cells #[.int .i64 k, .int .i64 n, .string t] 47))
  by_cases h0 : k = 0
  · subst h0
    by_cases h1 : n = 0
    · subst h1
      by_cases h2 : t.size = 0
      · obtain rfl := size0 h2
        clear hp
        go_enter Tryz.func72, Tryz.ntmps72
        go_wp2
        go_ret
        exact ⟨congrArg (fun b => Ending.returned (Value.bool b)) (by simp [Val.ok, mkVal, Val.kind, Val.num, Val.text, noText_size]), (Keep.refl _ _).alloc _⟩

      · have e2 : t.toList.isEmpty = false := by rw [hE]; simpa using h2
        clear hp
        go_enter Tryz.func72, Tryz.ntmps72
        go_wp2
        go_ret
        exact ⟨congrArg (fun b => Ending.returned (Value.bool b)) (by simp [Val.ok, mkVal, Val.kind, Val.num, Val.text, h2, size0_iff]), (Keep.refl _ _).alloc _⟩

    · have e1 : (n == 0) = false := by simpa using h1
      clear hp
      go_enter Tryz.func72, Tryz.ntmps72
      go_wp2
      go_ret
      exact ⟨congrArg (fun b => Ending.returned (Value.bool b)) (by simp [Val.ok, mkVal, Val.kind, Val.num, Val.text, h1]), (Keep.refl _ _).alloc _⟩

  · by_cases h1 : k = 1
    · subst h1
      by_cases h2 : t.size = 0
      · obtain rfl := size0 h2
        clear hp
        go_enter Tryz.func72, Tryz.ntmps72
        go_wp2
        go_ret
        exact ⟨congrArg (fun b => Ending.returned (Value.bool b)) (by simp [Val.ok, mkVal, Val.kind, Val.num, Val.text, noText_size]), (Keep.refl _ _).alloc _⟩

      · have e2 : t.toList.isEmpty = false := by rw [hE]; simpa using h2
        clear hp
        go_enter Tryz.func72, Tryz.ntmps72
        go_wp2
        go_ret
        exact ⟨congrArg (fun b => Ending.returned (Value.bool b)) (by simp [Val.ok, mkVal, Val.kind, Val.num, Val.text, h2, size0_iff]), (Keep.refl _ _).alloc _⟩

    · by_cases h2 : k = 2
      · subst h2
        by_cases h3 : n = 0
        · subst h3
          by_cases h4 : t.size ≤ 64
          · have h4' : (t.size : Int) ≤ 64 := by omega
            generalize hpb : plainB t = pb at hp
            have HPB := Lib.hid hpb
            clear hpb
            clear hE ht
            go_enter Tryz.func72, Tryz.ntmps72
            go_wp2_with (go_at_call 116; refine hp.mono ?_; clear hp; rintro e w' ⟨rfl, rfl⟩)
            go_ret
            have hpb : plainB t = pb := HPB
            exact ⟨congrArg (fun b => Ending.returned (Value.bool b)) (by simp [Val.ok, mkVal, Val.kind, Val.num, Val.text, h4, hpb]), (Keep.refl _ _).alloc _⟩

          · have h4' : ¬ (t.size : Int) ≤ 64 := by omega
            clear hE ht hp
            go_enter Tryz.func72, Tryz.ntmps72
            go_wp2
            go_ret
            exact ⟨congrArg (fun b => Ending.returned (Value.bool b)) (by simp [Val.ok, mkVal, Val.kind, Val.num, Val.text, h4]), (Keep.refl _ _).alloc _⟩

        · have e1 : (n == 0) = false := by simpa using h3
          clear hp
          go_enter Tryz.func72, Tryz.ntmps72
          go_wp2
          go_ret
          exact ⟨congrArg (fun b => Ending.returned (Value.bool b)) (by simp [Val.ok, mkVal, Val.kind, Val.num, Val.text, h3]), (Keep.refl _ _).alloc _⟩

      · have e0 : (k == 0) = false := by simpa using h0
        have e1 : (k == 1) = false := by simpa using h1
        have e2 : (k == 2) = false := by simpa using h2
        clear hp
        go_enter Tryz.func72, Tryz.ntmps72
        go_wp2
        go_ret
        exact ⟨congrArg (fun b => Ending.returned (Value.bool b)) (by simp [Val.ok, mkVal, Val.kind, Val.num, Val.text, h0, h1, h2]), (Keep.refl _ _).alloc _⟩
end Go.Proofs.YtfgdnakfikpmpaaGreatDoor
namespace Go.Proofs.YtfgdnakfikpmpaaGreatDoor
open Go Go.RowKit Go.Deep
theorem rmay_any (c : Int) (w : World) : Calls Tryz.prog 119 #[.int .u8 c] w fun e w' => e = .returned (.bool (plainC c)) ∧ w' = w := by
  unfold plainC
  by_cases h1 : 32 ≤ c
  · by_cases h2 : c ≤ 126
    · go_enter Tryz.func119, Tryz.ntmps119
      go_wp2
      go_ret
      simp [h1, h2]
    · go_enter Tryz.func119, Tryz.ntmps119
      go_wp2
      go_ret
      simp [h1, h2]
  · go_enter Tryz.func119, Tryz.ntmps119
    go_wp2
    go_ret
    simp; omega
set_option maxHeartbeats 2000000 in
theorem rValid_any (k n : Int) (t : ByteArray) (ht : t.size ≤ 9223372036854775807) (w : World) : Calls Tryz.prog 77 #[.agg #[.int .i64 k, .int .i64 n, .string t]] w (Says w (mkVal k n t).ok) := by
  have hE := empty_iff t
  have hp := trivial
  by_cases h0 : k = 0
  · subst h0
    by_cases h1 : n = 0
    · subst h1
      by_cases h2 : t.size = 0
      · obtain rfl := size0 h2
        clear hp
        go_enter Tryz.func77, Tryz.ntmps77
        go_wp2
        go_ret
        exact ⟨congrArg (fun b => Ending.returned (Value.bool b)) (by simp [Val.ok, mkVal, Val.kind, Val.num, Val.text, noText_size]), (Keep.refl _ _).alloc _⟩

      · have e2 : t.toList.isEmpty = false := by rw [hE]; simpa using h2
        clear hp
        go_enter Tryz.func77, Tryz.ntmps77
        go_wp2
        go_ret
        exact ⟨congrArg (fun b => Ending.returned (Value.bool b)) (by simp [Val.ok, mkVal, Val.kind, Val.num, Val.text, h2, size0_iff]), (Keep.refl _ _).alloc _⟩

    · have e1 : (n == 0) = false := by simpa using h1
      clear hp
      go_enter Tryz.func77, Tryz.ntmps77
      go_wp2
      go_ret
      exact ⟨congrArg (fun b => Ending.returned (Value.bool b)) (by simp [Val.ok, mkVal, Val.kind, Val.num, Val.text, h1]), (Keep.refl _ _).alloc _⟩

  · by_cases h1 : k = 1
    · subst h1
      by_cases h2 : t.size = 0
      · obtain rfl := size0 h2
        clear hp
        go_enter Tryz.func77, Tryz.ntmps77
        go_wp2
        go_ret
        exact ⟨congrArg (fun b => Ending.returned (Value.bool b)) (by simp [Val.ok, mkVal, Val.kind, Val.num, Val.text, noText_size]), (Keep.refl _ _).alloc _⟩

      · have e2 : t.toList.isEmpty = false := by rw [hE]; simpa using h2
        clear hp
        go_enter Tryz.func77, Tryz.ntmps77
        go_wp2
        go_ret
        exact ⟨congrArg (fun b => Ending.returned (Value.bool b)) (by simp [Val.ok, mkVal, Val.kind, Val.num, Val.text, h2, size0_iff]), (Keep.refl _ _).alloc _⟩

    · by_cases h2 : k = 2
      · subst h2
        clear hp hE
        go_enter Tryz.func77, Tryz.ntmps77
        go_wp2_with fail
        go_loopw [3] (fun i wr => ∃ j : Nat, j ≤ t.size ∧ i = .int .i64 j ∧ wr = w.alloc (.cells #[.int .i64 2, .int .i64 n, .string t] 47) ∧ ((bytesOf t).take j).all plainC = true) (fun i _ => t.size - (intOf i).toNat)
        case atStart => exact ⟨0, by omega, rfl, rfl, by simp⟩
        case round =>
          obtain ⟨j, hj, rfl, rfl, ha⟩ := hrel
          by_cases hlt : j < t.size
          · have j1 : (j : Int) < t.size := by omega
            have j0 : (0 : Int) ≤ j := by omega
            have hl : j < (bytesOf t).length := by rw [bytesOf_length]; exact hlt
            have hg := bytesOf_get t j hl hlt
            have hc := rmay_any (t[j].toNat : Int) (w.alloc (.cells #[.int .i64 2, .int .i64 n, .string t] 47))
            rw [← hg] at hc
            cases hp : plainC (bytesOf t)[j] with
            | true =>
              have hn := all_take _ _ j hl ha
              rw [hp] at hn hc
              rw [hg] at hc
              have HA := Lib.hid hn
              clear hn hp hg ha
              go_wp2_with (go_at_call 119; refine hc.mono ?_; clear hc; rintro e w' ⟨rfl, rfl⟩)
              go_roundw
              case rel => exact ⟨j + 1, by omega, by simp, by first | rfl | trivial, HA⟩
              case measure => simp [intOf]; omega
            | false =>
              have hn := all_false _ _ j hl hp
              rw [hp] at hc
              rw [hg] at hc
              have HA := Lib.hid hn
              clear hn hp hg ha
              go_wp2_with (go_at_call 119; refine hc.mono ?_; clear hc; rintro e w' ⟨rfl, rfl⟩)
              go_ret
              have hpb : plainB t = false := HA
              exact ⟨congrArg (fun b => Ending.returned (Value.bool b)) (by simp [Val.ok, mkVal, Val.kind, Val.num, Val.text, hpb]), (Keep.refl _ _).alloc _⟩
          · have j1 : ¬ (j : Int) < t.size := by omega
            have hk2 : j = (bytesOf t).length := by rw [bytesOf_length]; omega
            rw [hk2, List.take_length] at ha
            have HA := Lib.hid ha
            clear ha hk2 hj hlt ht
            by_cases h3 : n = 0
            · subst h3
              by_cases h4 : t.size ≤ 64
              · have h4' : (t.size : Int) ≤ 64 := by omega
                go_wp2_with fail
                go_ret
                have hpb : plainB t = true := HA
                exact ⟨congrArg (fun b => Ending.returned (Value.bool b)) (by simp [Val.ok, mkVal, Val.kind, Val.num, Val.text, hpb, h4]), (Keep.refl _ _).alloc _⟩
              · have h4' : ¬ (t.size : Int) ≤ 64 := by omega
                go_wp2_with fail
                go_ret
                exact ⟨congrArg (fun b => Ending.returned (Value.bool b)) (by simp [Val.ok, mkVal, Val.kind, Val.num, Val.text, h4]), (Keep.refl _ _).alloc _⟩
            · have e1 : (n == 0) = false := by simpa using h3
              go_wp2_with fail
              go_ret
              exact ⟨congrArg (fun b => Ending.returned (Value.bool b)) (by simp [Val.ok, mkVal, Val.kind, Val.num, Val.text, h3]), (Keep.refl _ _).alloc _⟩
      · have e0 : (k == 0) = false := by simpa using h0
        have e1 : (k == 1) = false := by simpa using h1
        have e2 : (k == 2) = false := by simpa using h2
        clear hp
        go_enter Tryz.func77, Tryz.ntmps77
        go_wp2
        go_ret
        exact ⟨congrArg (fun b => Ending.returned (Value.bool b)) (by simp [Val.ok, mkVal, Val.kind, Val.num, Val.text, h0, h1, h2]), (Keep.refl _ _).alloc _⟩
end Go.Proofs.YtfgdnakfikpmpaaGreatDoor
