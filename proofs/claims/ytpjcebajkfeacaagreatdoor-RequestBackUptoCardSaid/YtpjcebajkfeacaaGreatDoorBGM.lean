/-
  Parts of what is proved for this claim; each declaration is one of the seat's texts.
-/
import Derived.Test.YtpjcebajkfeacaaGreatDoorBGA
import Derived.Test.YtpjcebajkfeacaaGreatDoorBGC
import Derived.Test.YtpjcebajkfeacaaGreatDoorBGD
import Derived.Test.YtpjcebajkfeacaaGreatDoorBGF
import Derived.Test.YtpjcebajkfeacaaGreatDoorBGI
import Derived.Test.YtpjcebajkfeacaaGreatDoorBGK
import Derived.Still
import Derived.StillTactics
import Derived.WalkKit
import Derived.Recover
import Derived.Defers
import Derived.Deep.QuietTactic
import Derived.BigQuiet
import Derived.Handy
import Derived.Laws.Bits64b
import Derived.Lib.Zigzag
import Derived.OwnWalk
import Derived.Deep.DeepCutAuto
import Derived.Lib.Bytealg
import Derived.Laws.Externs
import Derived.Laws.CopyRow
import Derived.Laws.IdiomCopy
set_option linter.unusedVariables false
set_option linter.unusedSimpArgs false
namespace Go.Proofs.YtpjcebajkfeacaaGreatDoor
open Go Go.RowKit Go.Deep
theorem keyC_no {c : Int} (h1 : ¬ (97 ≤ c ∧ c ≤ 122)) (h2 : ¬ (48 ≤ c ∧ c ≤ 57)) (h3 : c ≠ 47) (h4 : c ≠ 58) (h5 : c ≠ 46) (h6 : c ≠ 95) (h7 : c ≠ 45) : keyC c = false := by
  unfold keyC
  by_cases a : 97 ≤ c <;> by_cases b : c ≤ 122 <;> by_cases d : 48 ≤ c <;> by_cases e : c ≤ 57 <;> simp [a, b, d, e, h3, h4, h5, h6, h7] <;> omega
theorem keyC_low {c : Int} (h1 : 97 ≤ c) (h2 : c ≤ 122) : keyC c = true := by simp [keyC, h1, h2]
theorem keyC_num {c : Int} (h1 : 48 ≤ c) (h2 : c ≤ 57) : keyC c = true := by simp [keyC, h1, h2]
set_option maxRecDepth 10000 in
set_option maxHeartbeats 8000000 in
theorem rKeyOk_any (s : ByteArray) (hs : s.size ≤ 9223372036854775807) (w : World) : Calls Tryz.prog 198 #[.string s] w fun e w' => e = .returned (.bool (keyOk s)) ∧ w' = w := by
  go_enter Tryz.func198, Tryz.ntmps198
  go_wp2_with fail
  go_loopw [3] (fun i wr => ∃ k : Nat, k ≤ s.size ∧ i = .int .i64 k ∧ wr = w ∧ ((bytesOf s).take k).all keyC = true) (fun i _ => s.size - (intOf i).toNat)
  case atStart => exact ⟨0, by omega, rfl, rfl, by simp⟩
  case round =>
    obtain ⟨k, hk, rfl, rfl, ha⟩ := hrel
    by_cases hlt : k < s.size
    · have j1 : (k : Int) < s.size := by omega
      have j0 : (0 : Int) ≤ k := by omega
      have j3 : (k : Int) ≤ 9223372036854775806 := by omega
      have hl : k < (bytesOf s).length := by rw [bytesOf_length]; exact hlt
      have hg := bytesOf_get s k hl hlt
      have hr := bytesOf_allB s _ (List.getElem_mem hl)
      have hyes := fun (h : keyC (bytesOf s)[k] = true) => (all_take _ keyC k hl ha).trans h
      have hno := fun (h : keyC (bytesOf s)[k] = false) => all_false _ keyC k hl h
      rw [hg] at hr hyes hno
      generalize hc : (s[k].toNat : Int) = c at hr hyes hno
      have HS := Lib.hid (And.intro hk hlt)
      clear hg ha hl hs
      by_cases a : 97 ≤ c ∧ c ≤ 122
      · obtain ⟨a1, a2⟩ := a
        have hkc := keyC_low a1 a2
        have HA := Lib.hid (hyes hkc)
        clear hyes hno hkc hr
        go_wp2_with fail
        go_roundw
        case rel => exact ⟨k + 1, by omega, by simp, by first | rfl | trivial, HA⟩
        case measure => simp [intOf]; omega
      · by_cases b : 48 ≤ c ∧ c ≤ 57
        · obtain ⟨b1, b2⟩ := b
          have hkc := keyC_num b1 b2
          have a1 : ¬ 97 ≤ c := by omega
          clear a
          have HA := Lib.hid (hyes hkc)
          clear hyes hno hkc hr
          go_wp2_with fail
          go_roundw
          case rel => exact ⟨k + 1, by omega, by simp, by first | rfl | trivial, HA⟩
          case measure => simp [intOf]; omega
        · by_cases e47 : c = 47
          · have hkc : keyC c = true := by rw [e47]; decide
            clear a b
            have q47 : (c == 47) = true := by simpa using e47
            have f58 : (c == 58) = false := by simp; omega
            have f46 : (c == 46) = false := by simp; omega
            have f95 : (c == 95) = false := by simp; omega
            have f45 : (c == 45) = false := by simp; omega
            have a1 : ¬ 97 ≤ c := by omega
            have b1 : ¬ 48 ≤ c := by omega
            clear e47
            have HA := Lib.hid (hyes hkc)
            clear hyes hno hkc hr
            go_wp2_with fail
            go_roundw
            case rel => exact ⟨k + 1, by omega, by simp, by first | rfl | trivial, HA⟩
            case measure => simp [intOf]; omega
          · by_cases e58 : c = 58
            · have hkc : keyC c = true := by rw [e58]; decide
              clear a b
              have q58 : (c == 58) = true := by simpa using e58
              have f47 : (c == 47) = false := by simp; omega
              have f46 : (c == 46) = false := by simp; omega
              have f95 : (c == 95) = false := by simp; omega
              have f45 : (c == 45) = false := by simp; omega
              have a1 : ¬ 97 ≤ c := by omega
              have b1 : 48 ≤ c := by omega
              have b2 : ¬ c ≤ 57 := by omega
              clear e58
              have HA := Lib.hid (hyes hkc)
              clear hyes hno hkc hr
              go_wp2_with fail
              go_roundw
              case rel => exact ⟨k + 1, by omega, by simp, by first | rfl | trivial, HA⟩
              case measure => simp [intOf]; omega
            · by_cases e46 : c = 46
              · have hkc : keyC c = true := by rw [e46]; decide
                clear a b
                have q46 : (c == 46) = true := by simpa using e46
                have f47 : (c == 47) = false := by simp; omega
                have f58 : (c == 58) = false := by simp; omega
                have f95 : (c == 95) = false := by simp; omega
                have f45 : (c == 45) = false := by simp; omega
                have a1 : ¬ 97 ≤ c := by omega
                have b1 : ¬ 48 ≤ c := by omega
                clear e46
                have HA := Lib.hid (hyes hkc)
                clear hyes hno hkc hr
                go_wp2_with fail
                go_roundw
                case rel => exact ⟨k + 1, by omega, by simp, by first | rfl | trivial, HA⟩
                case measure => simp [intOf]; omega
              · by_cases e95 : c = 95
                · have hkc : keyC c = true := by rw [e95]; decide
                  clear a b
                  have q95 : (c == 95) = true := by simpa using e95
                  have f47 : (c == 47) = false := by simp; omega
                  have f58 : (c == 58) = false := by simp; omega
                  have f46 : (c == 46) = false := by simp; omega
                  have f45 : (c == 45) = false := by simp; omega
                  have a1 : ¬ 97 ≤ c := by omega
                  have b1 : 48 ≤ c := by omega
                  have b2 : ¬ c ≤ 57 := by omega
                  clear e95
                  have HA := Lib.hid (hyes hkc)
                  clear hyes hno hkc hr
                  go_wp2_with fail
                  go_roundw
                  case rel => exact ⟨k + 1, by omega, by simp, by first | rfl | trivial, HA⟩
                  case measure => simp [intOf]; omega
                · by_cases e45 : c = 45
                  · have hkc : keyC c = true := by rw [e45]; decide
                    clear a b
                    have q45 : (c == 45) = true := by simpa using e45
                    have f47 : (c == 47) = false := by simp; omega
                    have f58 : (c == 58) = false := by simp; omega
                    have f46 : (c == 46) = false := by simp; omega
                    have f95 : (c == 95) = false := by simp; omega
                    have a1 : ¬ 97 ≤ c := by omega
                    have b1 : ¬ 48 ≤ c := by omega
                    clear e45
                    have HA := Lib.hid (hyes hkc)
                    clear hyes hno hkc hr
                    go_wp2_with fail
                    go_roundw
                    case rel => exact ⟨k + 1, by omega, by simp, by first | rfl | trivial, HA⟩
                    case measure => simp [intOf]; omega
                  · have hkc := keyC_no a b e47 e58 e46 e95 e45
                    have f47 : (c == 47) = false := by simpa using e47
                    have f58 : (c == 58) = false := by simpa using e58
                    have f46 : (c == 46) = false := by simpa using e46
                    have f95 : (c == 95) = false := by simpa using e95
                    have f45 : (c == 45) = false := by simpa using e45
                    by_cases a1 : 97 ≤ c
                    · have a2 : ¬ c ≤ 122 := by omega
                      have b1 : 48 ≤ c := by omega
                      have b2 : ¬ c ≤ 57 := by omega
                      clear a b e47 e58 e46 e95 e45
                      have HA := Lib.hid (hno hkc)
                      clear hyes hno hkc hr
                      go_wp2_with fail
                      go_ret
                      unfold keyOk
                      rw [show (bytesOf s).all keyC = false from HA]
                      exact ⟨rfl, by first | rfl | trivial⟩
                    · by_cases b1 : 48 ≤ c
                      · have b2 : ¬ c ≤ 57 := by omega
                        clear a b e47 e58 e46 e95 e45
                        have HA := Lib.hid (hno hkc)
                        clear hyes hno hkc hr
                        go_wp2_with fail
                        go_ret
                        unfold keyOk
                        rw [show (bytesOf s).all keyC = false from HA]
                        exact ⟨rfl, by first | rfl | trivial⟩
                      · clear a b e47 e58 e46 e95 e45
                        have HA := Lib.hid (hno hkc)
                        clear hyes hno hkc hr
                        go_wp2_with fail
                        go_ret
                        unfold keyOk
                        rw [show (bytesOf s).all keyC = false from HA]
                        exact ⟨rfl, by first | rfl | trivial⟩
    · have j1 : ¬ (k : Int) < s.size := by omega
      have hk2 : k = (bytesOf s).length := by rw [bytesOf_length]; omega
      rw [hk2, List.take_length] at ha
      have HA := Lib.hid ha
      clear ha hk2 hk hlt hs
      by_cases l1 : 1 ≤ s.size
      · by_cases l2 : s.size ≤ 32
        · have m1 : (1 : Int) ≤ s.size := by omega
          have m2 : (s.size : Int) ≤ 32 := by omega
          go_wp2_with fail
          go_ret
          unfold keyOk
          rw [show (bytesOf s).all keyC = true from HA]
          exact ⟨by simp [l1, l2], by first | rfl | trivial⟩
        · have m1 : (1 : Int) ≤ s.size := by omega
          have m2 : ¬ (s.size : Int) ≤ 32 := by omega
          go_wp2_with fail
          go_ret
          unfold keyOk
          exact ⟨by simp [l2], by first | rfl | trivial⟩
      · have m1 : ¬ (1 : Int) ≤ s.size := by omega
        go_wp2_with fail
        go_ret
        unfold keyOk
        exact ⟨by simp [l1], by first | rfl | trivial⟩
end Go.Proofs.YtpjcebajkfeacaaGreatDoor
namespace Go.Proofs.YtpjcebajkfeacaaGreatDoor
open Go Go.RowKit Go.Deep
def keyLit : ByteArray := ⟨#[97,98,99,100,101,102,103,104,105,106,107,108,109,110,111,112,113,114,115,116,117,118,119,120,121,122,48,49,50,51,52,53,54,55,56,57,47,58,46,95,45]⟩
theorem keyLit_all : ∀ c : Fin 256, decide (Go.Lib.indexByte keyLit.data.toList (((c.val : Nat) : Int).toNat.toUInt8) < 0) = !keyC ((c.val : Nat) : Int) := by decide +kernel
theorem keyLit_is (c : Nat) (h : c < 256) : decide (Go.Lib.indexByte keyLit.data.toList ((c : Int).toNat.toUInt8) < 0) = !keyC (c : Int) := keyLit_all ⟨c, h⟩
set_option maxHeartbeats 1000000 in
theorem slIndexByte_any (s : ByteArray) (c : Int) (w : World) : Calls Tryz.prog 239 #[.string s, .int .u8 c] w fun e w' => e = .returned (.int .i64 (Go.Lib.indexByte s.data.toList c.toNat.toUInt8)) ∧ w' = w := by
  have he : (callFunc 260 #[.string s, .int .u8 c]).run Tryz.prog w = .ok (.value (.int .i64 (Go.Lib.indexByte s.data.toList c.toNat.toUInt8))) w := by
    rw [run_callFunc_extern Tryz.func260 (by kernel_rfl) (by kernel_rfl) (by kernel_rfl) (e := Extern.BytealgIndexByte.indexByte) (by kernel_rfl), Go.Lib.run_indexByteString]
    rfl
  go_enter Tryz.func239, Tryz.ntmps239
  go_wp2
  go_ret
  exact ⟨rfl, rfl⟩
set_option maxHeartbeats 1000000 in
theorem IndexByte_any (s : ByteArray) (c : Int) (w : World) : Calls Tryz.prog 230 #[.string s, .int .u8 c] w fun e w' => e = .returned (.int .i64 (Go.Lib.indexByte s.data.toList c.toNat.toUInt8)) ∧ w' = w := by
  go_enter Tryz.func230, Tryz.ntmps230
  go_wp2_with (go_at_call 239; refine (slIndexByte_any _ _ _).mono ?_; rintro e w' ⟨rfl, rfl⟩)
  go_ret
  exact ⟨rfl, rfl⟩
set_option maxRecDepth 10000 in
set_option maxHeartbeats 8000000 in
theorem keyOk_any (s : ByteArray) (hs : s.size ≤ 9223372036854775807) (w : World) : Calls Tryz.prog 195 #[.string s] w fun e w' => e = .returned (.bool (keyOk s)) ∧ w' = w := by
  go_enter Tryz.func195, Tryz.ntmps195
  go_wp2_with fail
  go_loopw [6] (fun i wr => ∃ k : Nat, k ≤ s.size ∧ i = .int .i64 k ∧ wr = w ∧ ((bytesOf s).take k).all keyC = true) (fun i _ => s.size - (intOf i).toNat)
  case atStart => exact ⟨0, by omega, rfl, rfl, by simp⟩
  case round =>
    obtain ⟨k, hk, rfl, rfl, ha⟩ := hrel
    by_cases hlt : k < s.size
    · have j1 : (k : Int) < s.size := by omega
      have j0 : (0 : Int) ≤ k := by omega
      have j3 : (k : Int) ≤ 9223372036854775806 := by omega
      have hl : k < (bytesOf s).length := by rw [bytesOf_length]; exact hlt
      have hg := bytesOf_get s k hl hlt
      have hi := IndexByte_any keyLit (s[k].toNat : Int) wr
      have hlit := keyLit_is s[k].toNat (by have := s[k].toNat_lt; omega)
      have HS := Lib.hid (And.intro hk hlt)
      cases hkc : keyC (bytesOf s)[k] with
      | true =>
        have hn := all_take _ keyC k hl ha
        rw [hkc] at hn
        rw [hg] at hkc
        rw [hkc] at hlit
        have HA := Lib.hid hn
        have hge : ¬ (Go.Lib.indexByte keyLit.data.toList ((s[k].toNat : Int).toNat.toUInt8) < 0) := of_decide_eq_false hlit
        clear hn hkc hg ha hl hs hlit
        generalize Go.Lib.indexByte keyLit.data.toList ((s[k].toNat : Int).toNat.toUInt8) = ix at hi hge
        go_wp2_with (go_at_call 230; refine hi.mono ?_; clear hi; rintro e w' ⟨rfl, rfl⟩)
        go_roundw
        case rel => exact ⟨k + 1, by omega, by simp, by first | rfl | trivial, HA⟩
        case measure => simp [intOf]; omega
      | false =>
        have hn := all_false _ keyC k hl hkc
        rw [hg] at hkc
        rw [hkc] at hlit
        have HA := Lib.hid hn
        have hge : Go.Lib.indexByte keyLit.data.toList ((s[k].toNat : Int).toNat.toUInt8) < 0 := of_decide_eq_true hlit
        clear hn hkc hg ha hl hs hlit
        generalize Go.Lib.indexByte keyLit.data.toList ((s[k].toNat : Int).toNat.toUInt8) = ix at hi hge
        go_wp2_with (go_at_call 230; refine hi.mono ?_; clear hi; rintro e w' ⟨rfl, rfl⟩)
        go_ret
        unfold keyOk
        rw [show (bytesOf s).all keyC = false from HA]
        exact ⟨rfl, by first | rfl | trivial⟩
    · have j1 : ¬ (k : Int) < s.size := by omega
      have hk2 : k = (bytesOf s).length := by rw [bytesOf_length]; omega
      rw [hk2, List.take_length] at ha
      have HA := Lib.hid ha
      clear ha hk2 hk hlt hs
      by_cases l1 : 1 ≤ s.size
      · by_cases l2 : s.size ≤ 32
        · have m1 : (1 : Int) ≤ s.size := by omega
          have m2 : (s.size : Int) ≤ 32 := by omega
          go_wp2_with fail
          go_ret
          unfold keyOk
          rw [show (bytesOf s).all keyC = true from HA]
          exact ⟨by simp [l1, l2], by first | rfl | trivial⟩
        · have m1 : (1 : Int) ≤ s.size := by omega
          have m2 : ¬ (s.size : Int) ≤ 32 := by omega
          go_wp2_with fail
          go_ret
          unfold keyOk
          exact ⟨by simp [l2], by first | rfl | trivial⟩
      · have m1 : ¬ (1 : Int) ≤ s.size := by omega
        go_wp2_with fail
        go_ret
        unfold keyOk
        exact ⟨by simp [l1], by first | rfl | trivial⟩
end Go.Proofs.YtpjcebajkfeacaaGreatDoor
namespace Go.Proofs.YtpjcebajkfeacaaGreatDoor
open Go Go.RowKit Go.Deep
theorem strs_at {w : World} {S : Nat → Prop} {v : Value} {l : List ByteArray} (h : Rd (.slice .str) w S [v] l) :
    ∃ a c, v = .slice a l.length c ∧ l.length ≤ c ∧ c ≤ maxLen ∧ (a = none → l = [] ∧ c = 0) ∧ ∀ i (hi : i < l.length), ∃ b off, a = some ⟨b, off, none⟩ ∧ S b ∧ b < w.heap.size ∧ w.cell? ⟨b, off + i, none⟩ = some (.string l[i]) ∧ w.frozen? ⟨b, off + i, none⟩ = false ∧ l[i].size ≤ maxLen := by
  obtain ⟨a, c, e, h1, h2, h3, h4⟩ := h
  simp only [List.cons.injEq, and_true] at e
  refine ⟨a, c, e, h1, h2, h3, fun i hi => ?_⟩
  obtain ⟨b, off, row, ha, hb, hS, hl, hr, hx, hw⟩ := h4 i hi
  subst hx
  have := hr 0 (by simp)
  simp [Sh.size] at this
  exact ⟨b, off, ha, hS, hb, this.1, this.2, hw⟩
theorem strs_len {w : World} {S : Nat → Prop} {v : Value} {l : List ByteArray} (h : Rd (.slice .str) w S [v] l) : l.length ≤ 9223372036854775807 := by
  obtain ⟨a, c, -, h1, h2, -⟩ := strs_at h
  rw [maxLen_is] at h2; omega
theorem text_beq (a b : ByteArray) : (a.toList == b.toList) = decide (a = b) := by
  rw [toList_is, toList_is]
  by_cases h : a = b
  · subst h; simp
  · have : a.data.toList ≠ b.data.toList := fun hh => h (text_ext hh)
    rw [decide_eq_false h]; exact beq_false_of_ne this
set_option maxRecDepth 10000 in
set_option maxHeartbeats 2000000 in
theorem rTexts_any (w : World) (S T : Nat → Prop) (u v : Value) (l m : List ByteArray) (h : Rd (.slice .str) w S [u] l) (h' : Rd (.slice .str) w T [v] m) :
    Calls Tryz.prog 44 #[u, v] w (Looks w (.bool (decide (l = m)))) := by
  have h63 := strs_len h
  have g63 := strs_len h'
  obtain ⟨a, c, rfl, -, -, -, h4⟩ := strs_at h
  obtain ⟨a', c', rfl, -, -, -, g4⟩ := strs_at h'
  clear h h'
  by_cases hlen : l.length = m.length
  · have e0 : ((l.length : Int) != (m.length : Int)) = false := by simp; exact_mod_cast hlen
    go_enter Tryz.func44, Tryz.ntmps44
    go_wp2_with fail
    go_loopw [5] (fun i wr => ∃ k n : Nat, k ≤ l.length ∧ i = .int .i64 k ∧ wr = w.drewN n ∧ l.take k = m.take k) (fun i _ => l.length - (intOf i).toNat)
    case atStart => exact ⟨0, 0, by omega, rfl, rfl, by simp⟩
    case round =>
      obtain ⟨k, n, hk, rfl, rfl, ha⟩ := hrel
      by_cases hlt : k < l.length
      · have j1 : (k : Int) < l.length := by omega
        have j2 : (k : Int) < m.length := by omega
        have j0 : (0 : Int) ≤ k := by omega
        have j3 : (k : Int) ≤ 9223372036854775806 := by omega
        obtain ⟨b, off, rfl, -, -, hc, -, -⟩ := h4 k hlt
        obtain ⟨b', off', rfl, -, -, hc', -, -⟩ := g4 k (by omega)
        have hb := text_beq l[k] m[k]
        generalize hx : l[k] = x at hc hb
        generalize hy : m[k] = y at hc' hb
        by_cases he : x = y
        · rw [decide_eq_true he] at hb
          have hn : l.take (k + 1) = m.take (k + 1) := by
            rw [List.take_succ_eq_append_getElem hlt, List.take_succ_eq_append_getElem (by omega : k < m.length), ha, hx, hy, he]
          have HA := Lib.hid (And.intro hn hlt)
          clear hn ha h4 g4 he hk hx hy hlt h63 g63 hlen
          go_wp2_with fail
          go_quiet (fail)
          go_wp2_with fail
          go_roundw
          case rel => exact ⟨k + 1, _, by have := HA.2; omega, by simp, by first | rfl | trivial, HA.1⟩
          case measure => simp [intOf]; have := HA.2; omega
        · rw [decide_eq_false he] at hb
          have hne : ¬ l = m := fun hh => he (by rw [← hx, ← hy]; subst hh; rfl)
          have HA := Lib.hid hne
          clear ha h4 g4 he hk hx hy hlt h63 g63 hlen hne
          go_wp2_with fail
          go_quiet (fail)
          go_wp2_with fail
          go_ret
          rw [decide_eq_false (show ¬ l = m from HA)]
          exact ⟨n + _, rfl, by first | rfl | (simp; rfl) | simp⟩
      · have j1 : ¬ (k : Int) < l.length := by omega
        have hk2 : k = l.length := by omega
        rw [hk2, List.take_length, hlen, List.take_length] at ha
        have HA := Lib.hid ha
        clear ha hk2 hk hlt h4 g4 h63 g63 hlen
        go_wp2_with fail
        go_ret
        rw [decide_eq_true (show l = m from HA)]
        exact ⟨_, rfl, rfl⟩
  · have e0 : ((l.length : Int) != (m.length : Int)) = true := by simp; exact_mod_cast hlen
    have hne : ¬ l = m := fun hh => hlen (by rw [hh])
    rw [decide_eq_false hne]
    clear h4 g4 hne h63 g63 hlen
    go_enter Tryz.func44, Tryz.ntmps44
    go_wp2_with fail
    go_ret
    exact ⟨0, rfl, rfl⟩
end Go.Proofs.YtpjcebajkfeacaaGreatDoor
namespace Go.Proofs.YtpjcebajkfeacaaGreatDoor
open Go Go.RowKit Go.Deep
theorem Tryz.infoText : (Tryz.prog.info? 9).map (fun i => (i.zero, i.size, i.bytes)) = some (some (.string ⟨#[]⟩), 1, 16) := by kernel_rfl
def AllT (l : List ByteArray) : Prop := ∀ x ∈ l, x.size ≤ maxLen
theorem texts_all {w : World} {S : Nat → Prop} {v : Value} {l : List ByteArray} (h : Rd (.slice .str) w S [v] l) : AllT l := fun x hx => by
  obtain ⟨i, hi, rfl⟩ := List.getElem_of_mem hx
  obtain ⟨a, c, -, -, -, -, h4⟩ := strs_at h
  obtain ⟨b, off, -, -, -, -, -, h5⟩ := h4 i hi
  exact h5
def OwnT (w0 w : World) (v : Value) (l : List ByteArray) : Prop := Own .str 9 w (Fr w0.heap.size w.heap.size) v l ∧ Keep No w0 w
theorem flatT_rows {w : World} {T : Nat → Prop} (l : List ByteArray) (h : AllT l) (i : Nat) (hi : i < (l.map fun x => [Value.string x]).length) (hi' : i < l.length) : Rd .str w T (l.map fun x => [Value.string x])[i] l[i] := by
  exact ⟨by simp, h l[i] (List.getElem_mem hi')⟩
theorem flatT_flatten (l : List ByteArray) : (l.map fun x => [Value.string x]).flatten = l.map (Value.string) := by
  induction l with
  | nil => rfl
  | cons x l ih => simp [ih]
theorem appT_src {w0 w w1 : World} {v : Value} {l : List ByteArray} (h : OwnT w0 w v l) (hk : Keep No w w1) {u : TypeId} {x : Value} {xs : List ByteArray} (hs : Src Tryz.prog 1 u x xs.length (xs.map (Value.string)) w1) (hx : AllT xs) (hl : (l.length + xs.length) * 16 ≤ 140737488355328) :
    ∃ a c w', (Builtin.append_ #[46, u] 46 #[v, x]).run Tryz.prog w1 = .ok (.slice a (l.length + xs.length) c) w' ∧ OwnT w0 w' (.slice a (l.length + xs.length) c) (l ++ xs) := by
  obtain ⟨i0, hi, hz0, hz1, hz2⟩ := info_parts Tryz.infoText
  obtain ⟨ho, hk0⟩ := h
  have ho := ho.agree (k := hk.agreeNo)
  obtain ⟨g, rows, T, h1, h2, h3, h4, h5⟩ := ho
  have hxr := flatT_flatten xs
  have hk1 : Keep No w0 w1 := hk0.trans hk
  obtain ⟨a, c, w', g', hr, ho', hg', hk', hsz⟩ := own_append h1 46 u 46 i0 _ 16 Tryz.underlying46 hi hz0 hz1 hz2 rfl (x := x) (news := xs.map fun x => [Value.string x]) (by
    rw [List.length_map, hxr]; exact hs) (fun r hr => by obtain ⟨y, -, rfl⟩ := List.mem_map.1 hr; rfl) (by rw [List.length_map, h2]; omega) (by rw [List.length_map, h2]; omega)
  rw [List.length_map, h2] at hr ho'
  have hge := hk1.size
  have hge' := hk.size
  refine ⟨a, c, w', hr, ⟨g', rows ++ xs.map (fun x => [Value.string x]), No, ho', by simp [h2], fun i hi hi' => ?_, fun b hb => ⟨?_, fun x => x⟩, fun _ x => x.elim⟩, hk1.then hk' fun i hi hg => ?_⟩
  · by_cases hlt : i < rows.length
    · rw [List.getElem_append_left hlt, List.getElem_append_left (by omega)]
      exact Rd.ofFlat _ rfl (h3 i hlt (by omega))
    · simp only [List.length_append, List.length_map] at hi hi'
      have e1 : (rows ++ xs.map fun x => [Value.string x])[i]'(by simp; omega) = (xs.map fun x => [Value.string x])[i - rows.length]'(by simp; omega) := List.getElem_append_right (by omega)
      have e2 : (l ++ xs)[i]'(by simp; omega) = xs[i - l.length]'(by omega) := List.getElem_append_right (by omega)
      rw [e1, e2]
      have e3 : xs[i - l.length]'(by omega) = xs[i - rows.length]'(by omega) := by simp only [h2]
      rw [e3]
      exact flatT_rows xs hx _ _ _
  · have hlt := ho'.lt hb
    rcases hg' with rfl | rfl
    · exact ⟨(h4 b hb).1.1, hlt⟩
    · cases hb; exact ⟨hge, hlt⟩
  · have := (h4 i hg).1.1
    omega
theorem appT_one {w0 w : World} {v : Value} {l : List ByteArray} (h : OwnT w0 w v l) (x : ByteArray) (h0 : x.size ≤ maxLen) (hl : (l.length + 1) * 16 ≤ 140737488355328) :
    ∃ a c w', (Builtin.append_ #[46, 46] 46 #[v, .slice (some ⟨w.heap.size, 0, none⟩) 1 1]).run Tryz.prog (w.alloc (.cells #[.string x] 9)) = .ok (.slice a (l.length + 1) c) w' ∧ OwnT w0 w' (.slice a (l.length + 1) c) (l ++ [x]) :=
  appT_src h ((Keep.refl No w).alloc _) (xs := [x]) (Src.ofBlock Tryz.underlying46 w.heap.size 1 1 #[.string x] 9 _ (blk_new w _) rfl (fun u hu => by simp at hu; subst hu; rfl)) (fun y hy => by simp at hy; subst hy; exact h0) hl
theorem OwnT.more {w0 w w' : World} {v : Value} {x : List ByteArray} (h : OwnT w0 w v x) (hk : Keep No w w') : OwnT w0 w' v x :=
  ⟨(h.1.agree (k := hk.agreeNo)).mono fun k hk' => ⟨hk'.1, Nat.lt_of_lt_of_le hk'.2 hk.size⟩, h.2.trans hk⟩
theorem OwnT.rd {w0 w : World} {v : Value} {x : List ByteArray} (h : OwnT w0 w v x) : Rd (.slice .str) w (Fr w0.heap.size w.heap.size) [v] x := Own.rd h.1
theorem OwnT.len {w0 w : World} {a : Option Addr} {n c : Nat} {x : List ByteArray} (h : OwnT w0 w (.slice a n c) x) : n = x.length := by
  obtain ⟨a', c', e, -⟩ := h.1.form
  simp only [Value.slice.injEq] at e
  exact e.2.1
def GivesT (w : World) (x : List ByteArray) (e : Ending) (w' : World) : Prop := ∃ a n c, e = .returned (.slice a n c) ∧ OwnT w w' (.slice a n c) x
end Go.Proofs.YtpjcebajkfeacaaGreatDoor
