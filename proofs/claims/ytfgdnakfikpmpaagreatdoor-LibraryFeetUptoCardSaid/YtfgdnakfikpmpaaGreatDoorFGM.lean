/-
  Parts of what is proved for this claim; each declaration is one of the seat's texts.
-/
import Derived.Test.YtfgdnakfikpmpaaGreatDoorFGK
import Derived.Lib.Bytealg
set_option linter.unusedVariables false
set_option linter.unusedSimpArgs false
namespace Go.Proofs.YtfgdnakfikpmpaaGreatDoor
open Go Go.RowKit Go.Deep
theorem keyC_no {c : Int} (h1 : ¬ (97 ≤ c ∧ c ≤ 122)) (h2 : ¬ (48 ≤ c ∧ c ≤ 57)) (h3 : c ≠ 47) (h4 : c ≠ 58) (h5 : c ≠ 46) (h6 : c ≠ 95) (h7 : c ≠ 45) : keyC c = false := by
  unfold keyC
  by_cases a : 97 ≤ c <;> by_cases b : c ≤ 122 <;> by_cases d : 48 ≤ c <;> by_cases e : c ≤ 57 <;> simp [a, b, d, e, h3, h4, h5, h6, h7] <;> omega
theorem keyC_low {c : Int} (h1 : 97 ≤ c) (h2 : c ≤ 122) : keyC c = true := by simp [keyC, h1, h2]
theorem keyC_num {c : Int} (h1 : 48 ≤ c) (h2 : c ≤ 57) : keyC c = true := by simp [keyC, h1, h2]
set_option maxRecDepth 10000 in
set_option maxHeartbeats 8000000 in
theorem rKeyOk_any (s : ByteArray) (hs : s.size ≤ 9223372036854775807) (w : World) : Calls Tryz.prog 79 #[.string s] w fun e w' => e = .returned (.bool (keyOk s)) ∧ w' = w := by
  go_enter Tryz.func79, Tryz.ntmps79
  go_wp2_with fail
  go_loopw [3] (fun i wr => ∃ k : Nat, k ≤ s.size ∧ i = .int .i64 k ∧ wr = w ∧ ((bytesOf s).take k).all keyC = true) (fun i _ => s.size - (intOf i).toNat)
  case atStart => exact ⟨0, by omega, rfl, rfl, by simp⟩
  case round =>
    obtain ⟨k, hk, rfl, rfl, ha⟩ := hrel
    by_cases hlt : k < s.size
    · have j1 : (k : Int) < s.size := by omega
      have j0 : (0 : Int) ≤ k := by omega
      have j3 : (k : Int) ≤ 9223372036854775806 := by omega
      have hl : k < (bytesOf s).length := by rw [bytesOf_length]; exact hlt
      have hg := bytesOf_get s k hl hlt
      have hr := bytesOf_allB s _ (List.getElem_mem hl)
      have hyes := fun (h : keyC (bytesOf s)[k] = true) => (all_take _ keyC k hl ha).trans h
      have hno := fun (h : keyC (bytesOf s)[k] = false) => all_false _ keyC k hl h
      rw [hg] at hr hyes hno
      generalize hc : (s[k].toNat : Int) = c at hr hyes hno
      have HS := Lib.hid (And.intro hk hlt)
      clear hg ha hl hs
      by_cases a : 97 ≤ c ∧ c ≤ 122
      · obtain ⟨a1, a2⟩ := a
        have hkc := keyC_low a1 a2
        have HA := Lib.hid (hyes hkc)
        clear hyes hno hkc hr
        go_wp2_with fail
        go_roundw
        case rel => exact ⟨k + 1, by omega, by simp, by first | rfl | trivial, HA⟩
        case measure => simp [intOf]; omega
      · by_cases b : 48 ≤ c ∧ c ≤ 57
        · obtain ⟨b1, b2⟩ := b
          have hkc := keyC_num b1 b2
          have a1 : ¬ 97 ≤ c := by omega
          clear a
          have HA := Lib.hid (hyes hkc)
          clear hyes hno hkc hr
          go_wp2_with fail
          go_roundw
          case rel => exact ⟨k + 1, by omega, by simp, by first | rfl | trivial, HA⟩
          case measure => simp [intOf]; omega
        · by_cases e47 : c = 47
          · have hkc : keyC c = true := by rw [e47]; decide
            clear a b
            have q47 : (c == 47) = true := by simpa using e47
            have f58 : (c == 58) = false := by simp; omega
            have f46 : (c == 46) = false := by simp; omega
            have f95 : (c == 95) = false := by simp; omega
            have f45 : (c == 45) = false := by simp; omega
            have a1 : ¬ 97 ≤ c := by omega
            have b1 : ¬ 48 ≤ c := by omega
            clear e47
            have HA := Lib.hid (hyes hkc)
            clear hyes hno hkc hr
            go_wp2_with fail
            go_roundw
            case rel => exact ⟨k + 1, by omega, by simp, by first | rfl | trivial, HA⟩
            case measure => simp [intOf]; omega
          · by_cases e58 : c = 58
            · have hkc : keyC c = true := by rw [e58]; decide
              clear a b
              have q58 : (c == 58) = true := by simpa using e58
              have f47 : (c == 47) = false := by simp; omega
              have f46 : (c == 46) = false := by simp; omega
              have f95 : (c == 95) = false := by simp; omega
              have f45 : (c == 45) = false := by simp; omega
              have a1 : ¬ 97 ≤ c := by omega
              have b1 : 48 ≤ c := by omega
              have b2 : ¬ c ≤ 57 := by omega
              clear e58
              have HA := Lib.hid (hyes hkc)
              clear hyes hno hkc hr
              go_wp2_with fail
              go_roundw
              case rel => exact ⟨k + 1, by omega, by simp, by first | rfl | trivial, HA⟩
              case measure => simp [intOf]; omega
            · by_cases e46 : c = 46
              · have hkc : keyC c = true := by rw [e46]; decide
                clear a b
                have q46 : (c == 46) = true := by simpa using e46
                have f47 : (c == 47) = false := by simp; omega
                have f58 : (c == 58) = false := by simp; omega
                have f95 : (c == 95) = false := by simp; omega
                have f45 : (c == 45) = false := by simp; omega
                have a1 : ¬ 97 ≤ c := by omega
                have b1 : ¬ 48 ≤ c := by omega
                clear e46
                have HA := Lib.hid (hyes hkc)
                clear hyes hno hkc hr
                go_wp2_with fail
                go_roundw
                case rel => exact ⟨k + 1, by omega, by simp, by first | rfl | trivial, HA⟩
                case measure => simp [intOf]; omega
              · by_cases e95 : c = 95
                · have hkc : keyC c = true := by rw [e95]; decide
                  clear a b
                  have q95 : (c == 95) = true := by simpa using e95
                  have f47 : (c == 47) = false := by simp; omega
                  have f58 : (c == 58) = false := by simp; omega
                  have f46 : (c == 46) = false := by simp; omega
                  have f45 : (c == 45) = false := by simp; omega
                  have a1 : ¬ 97 ≤ c := by omega
                  have b1 : 48 ≤ c := by omega
                  have b2 : ¬ c ≤ 57 := by omega
                  clear e95
                  have HA := Lib.hid (hyes hkc)
                  clear hyes hno hkc hr
                  go_wp2_with fail
                  go_roundw
                  case rel => exact ⟨k + 1, by omega, by simp, by first | rfl | trivial, HA⟩
                  case measure => simp [intOf]; omega
                · by_cases e45 : c = 45
                  · have hkc : keyC c = true := by rw [e45]; decide
                    clear a b
                    have q45 : (c == 45) = true := by simpa using e45
                    have f47 : (c == 47) = false := by simp; omega
                    have f58 : (c == 58) = false := by simp; omega
                    have f46 : (c == 46) = false := by simp; omega
                    have f95 : (c == 95) = false := by simp; omega
                    have a1 : ¬ 97 ≤ c := by omega
                    have b1 : ¬ 48 ≤ c := by omega
                    clear e45
                    have HA := Lib.hid (hyes hkc)
                    clear hyes hno hkc hr
                    go_wp2_with fail
                    go_roundw
                    case rel => exact ⟨k + 1, by omega, by simp, by first | rfl | trivial, HA⟩
                    case measure => simp [intOf]; omega
                  · have hkc := keyC_no a b e47 e58 e46 e95 e45
                    have f47 : (c == 47) = false := by simpa using e47
                    have f58 : (c == 58) = false := by simpa using e58
                    have f46 : (c == 46) = false := by simpa using e46
                    have f95 : (c == 95) = false := by simpa using e95
                    have f45 : (c == 45) = false := by simpa using e45
                    by_cases a1 : 97 ≤ c
                    · have a2 : ¬ c ≤ 122 := by omega
                      have b1 : 48 ≤ c := by omega
                      have b2 : ¬ c ≤ 57 := by omega
                      clear a b e47 e58 e46 e95 e45
                      have HA := Lib.hid (hno hkc)
                      clear hyes hno hkc hr
                      go_wp2_with fail
                      go_ret
                      unfold keyOk
                      rw [show (bytesOf s).all keyC = false from HA]
                      exact ⟨rfl, by first | rfl | trivial⟩
                    · by_cases b1 : 48 ≤ c
                      · have b2 : ¬ c ≤ 57 := by omega
                        clear a b e47 e58 e46 e95 e45
                        have HA := Lib.hid (hno hkc)
                        clear hyes hno hkc hr
                        go_wp2_with fail
                        go_ret
                        unfold keyOk
                        rw [show (bytesOf s).all keyC = false from HA]
                        exact ⟨rfl, by first | rfl | trivial⟩
                      · clear a b e47 e58 e46 e95 e45
                        have HA := Lib.hid (hno hkc)
                        clear hyes hno hkc hr
                        go_wp2_with fail
                        go_ret
                        unfold keyOk
                        rw [show (bytesOf s).all keyC = false from HA]
                        exact ⟨rfl, by first | rfl | trivial⟩
    · have j1 : ¬ (k : Int) < s.size := by omega
      have hk2 : k = (bytesOf s).length := by rw [bytesOf_length]; omega
      rw [hk2, List.take_length] at ha
      have HA := Lib.hid ha
      clear ha hk2 hk hlt hs
      by_cases l1 : 1 ≤ s.size
      · by_cases l2 : s.size ≤ 32
        · have m1 : (1 : Int) ≤ s.size := by omega
          have m2 : (s.size : Int) ≤ 32 := by omega
          go_wp2_with fail
          go_ret
          unfold keyOk
          rw [show (bytesOf s).all keyC = true from HA]
          exact ⟨by simp [l1, l2], by first | rfl | trivial⟩
        · have m1 : (1 : Int) ≤ s.size := by omega
          have m2 : ¬ (s.size : Int) ≤ 32 := by omega
          go_wp2_with fail
          go_ret
          unfold keyOk
          exact ⟨by simp [l2], by first | rfl | trivial⟩
      · have m1 : ¬ (1 : Int) ≤ s.size := by omega
        go_wp2_with fail
        go_ret
        unfold keyOk
        exact ⟨by simp [l1], by first | rfl | trivial⟩
end Go.Proofs.YtfgdnakfikpmpaaGreatDoor
namespace Go.Proofs.YtfgdnakfikpmpaaGreatDoor
open Go Go.RowKit Go.Deep
def keyLit : ByteArray := ⟨#[97,98,99,100,101,102,103,104,105,106,107,108,109,110,111,112,113,114,115,116,117,118,119,120,121,122,48,49,50,51,52,53,54,55,56,57,47,58,46,95,45]⟩
theorem keyLit_all : ∀ c : Fin 256, decide (Go.Lib.indexByte keyLit.data.toList (((c.val : Nat) : Int).toNat.toUInt8) < 0) = !keyC ((c.val : Nat) : Int) := by decide +kernel
theorem keyLit_is (c : Nat) (h : c < 256) : decide (Go.Lib.indexByte keyLit.data.toList ((c : Int).toNat.toUInt8) < 0) = !keyC (c : Int) := keyLit_all ⟨c, h⟩
set_option maxHeartbeats 1000000 in
theorem slIndexByte_any (s : ByteArray) (c : Int) (w : World) : Calls Tryz.prog 162 #[.string s, .int .u8 c] w fun e w' => e = .returned (.int .i64 (Go.Lib.indexByte s.data.toList c.toNat.toUInt8)) ∧ w' = w := by
  have he : (callFunc 204 #[.string s, .int .u8 c]).run Tryz.prog w = .ok (.value (.int .i64 (Go.Lib.indexByte s.data.toList c.toNat.toUInt8))) w := by
    rw [run_callFunc_extern Tryz.func204 (by kernel_rfl) (by kernel_rfl) (by kernel_rfl) (e := Extern.BytealgIndexByte.indexByte) (by kernel_rfl), Go.Lib.run_indexByteString]
    rfl
  go_enter Tryz.func162, Tryz.ntmps162
  go_wp2
  go_ret
  exact ⟨rfl, rfl⟩
set_option maxHeartbeats 1000000 in
theorem IndexByte_any (s : ByteArray) (c : Int) (w : World) : Calls Tryz.prog 118 #[.string s, .int .u8 c] w fun e w' => e = .returned (.int .i64 (Go.Lib.indexByte s.data.toList c.toNat.toUInt8)) ∧ w' = w := by
  go_enter Tryz.func118, Tryz.ntmps118
  go_wp2_with (go_at_call 162; refine (slIndexByte_any _ _ _).mono ?_; rintro e w' ⟨rfl, rfl⟩)
  go_ret
  exact ⟨rfl, rfl⟩
set_option maxRecDepth 10000 in
set_option maxHeartbeats 8000000 in
theorem keyOk_any (s : ByteArray) (hs : s.size ≤ 9223372036854775807) (w : World) : Calls Tryz.prog 74 #[.string s] w fun e w' => e = .returned (.bool (keyOk s)) ∧ w' = w := by
  go_enter Tryz.func74, Tryz.ntmps74
  go_wp2_with fail
  go_loopw [6] (fun i wr => ∃ k : Nat, k ≤ s.size ∧ i = .int .i64 k ∧ wr = w ∧ ((bytesOf s).take k).all keyC = true) (fun i _ => s.size - (intOf i).toNat)
  case atStart => exact ⟨0, by omega, rfl, rfl, by simp⟩
  case round =>
    obtain ⟨k, hk, rfl, rfl, ha⟩ := hrel
    by_cases hlt : k < s.size
    · have j1 : (k : Int) < s.size := by omega
      have j0 : (0 : Int) ≤ k := by omega
      have j3 : (k : Int) ≤ 9223372036854775806 := by omega
      have hl : k < (bytesOf s).length := by rw [bytesOf_length]; exact hlt
      have hg := bytesOf_get s k hl hlt
      have hi := IndexByte_any keyLit (s[k].toNat : Int) wr
      have hlit := keyLit_is s[k].toNat (by have := s[k].toNat_lt; omega)
      have HS := Lib.hid (And.intro hk hlt)
      cases hkc : keyC (bytesOf s)[k] with
      | true =>
        have hn := all_take _ keyC k hl ha
        rw [hkc] at hn
        rw [hg] at hkc
        rw [hkc] at hlit
        have HA := Lib.hid hn
        have hge : ¬ (Go.Lib.indexByte keyLit.data.toList ((s[k].toNat : Int).toNat.toUInt8) < 0) := of_decide_eq_false hlit
        clear hn hkc hg ha hl hs hlit
        generalize Go.Lib.indexByte keyLit.data.toList ((s[k].toNat : Int).toNat.toUInt8) = ix at hi hge
        go_wp2_with (go_at_call 118; refine hi.mono ?_; clear hi; rintro e w' ⟨rfl, rfl⟩)
        go_roundw
        case rel => exact ⟨k + 1, by omega, by simp, by first | rfl | trivial, HA⟩
        case measure => simp [intOf]; omega
      | false =>
        have hn := all_false _ keyC k hl hkc
        rw [hg] at hkc
        rw [hkc] at hlit
        have HA := Lib.hid hn
        have hge : Go.Lib.indexByte keyLit.data.toList ((s[k].toNat : Int).toNat.toUInt8) < 0 := of_decide_eq_true hlit
        clear hn hkc hg ha hl hs hlit
        generalize Go.Lib.indexByte keyLit.data.toList ((s[k].toNat : Int).toNat.toUInt8) = ix at hi hge
        go_wp2_with (go_at_call 118; refine hi.mono ?_; clear hi; rintro e w' ⟨rfl, rfl⟩)
        go_ret
        unfold keyOk
        rw [show (bytesOf s).all keyC = false from HA]
        exact ⟨rfl, by first | rfl | trivial⟩
    · have j1 : ¬ (k : Int) < s.size := by omega
      have hk2 : k = (bytesOf s).length := by rw [bytesOf_length]; omega
      rw [hk2, List.take_length] at ha
      have HA := Lib.hid ha
      clear ha hk2 hk hlt hs
      by_cases l1 : 1 ≤ s.size
      · by_cases l2 : s.size ≤ 32
        · have m1 : (1 : Int) ≤ s.size := by omega
          have m2 : (s.size : Int) ≤ 32 := by omega
          go_wp2_with fail
          go_ret
          unfold keyOk
          rw [show (bytesOf s).all keyC = true from HA]
          exact ⟨by simp [l1, l2], by first | rfl | trivial⟩
        · have m1 : (1 : Int) ≤ s.size := by omega
          have m2 : ¬ (s.size : Int) ≤ 32 := by omega
          go_wp2_with fail
          go_ret
          unfold keyOk
          exact ⟨by simp [l2], by first | rfl | trivial⟩
      · have m1 : ¬ (1 : Int) ≤ s.size := by omega
        go_wp2_with fail
        go_ret
        unfold keyOk
        exact ⟨by simp [l1], by first | rfl | trivial⟩
end Go.Proofs.YtfgdnakfikpmpaaGreatDoor
namespace Go.Proofs.YtfgdnakfikpmpaaGreatDoor
open Go Go.RowKit Go.Deep
theorem Rd.elem' {s : Sh} {w : World} {S : Nat → Prop} {a : Option Addr} {n c : Nat} {l : List s.T} (h : Rd (.slice s) w S [.slice a n c] l) (i : Nat) (hi : i < l.length) :
    ∃ b off row, a = some ⟨b, off, none⟩ ∧ n = l.length ∧ b < w.heap.size ∧ S b ∧ row.length = s.size ∧ RowAt w b (off + i * s.size) row ∧ Rd s w S row l[i] := by
  obtain ⟨a', c', hv, _, _, _, hx⟩ := h
  simp only [List.cons.injEq, Value.slice.injEq, and_true] at hv
  obtain ⟨rfl, rfl, rfl⟩ := hv
  obtain ⟨b, off, row, h1, h2, h3, h4, h5, h6⟩ := hx i hi
  exact ⟨b, off, row, h1, rfl, h2, h3, h4, h5, h6⟩
theorem val_cells {w : World} {S : Nat → Prop} {cs : List Value} {x : Val} (h : Rd valueSh w S cs x) : cs = [.int .i64 x.kind, .int .i64 x.num, .string x.text] ∧ x.In ∧ x.text.size ≤ 9223372036854775807 := by
  obtain ⟨_, _, rfl, ⟨rfl, w1⟩, _, _, rfl, ⟨rfl, w2⟩, _, _, rfl, ⟨rfl, w3⟩, rfl⟩ := h
  rw [maxLen_is] at w3
  simp [Lit.wf, IntKind.min, IntKind.max, IntKind.signed, IntKind.bits] at w1 w2
  exact ⟨rfl, ⟨w1.1, by have h1 := w1.2; exact (by omega : x.1 ≤ 9223372036854775807), w2.1, by have h2 := w2.2; exact (by omega : x.2.1 ≤ 9223372036854775807)⟩, w3⟩
theorem vals_get {w : World} {S : Nat → Prop} {a : Option Addr} {n c : Nat} {l : List Val} (h : Rd (.slice valueSh) w S [.slice a n c] l) (i : Nat) (hi : i < l.length) :
    ∃ b off, a = some ⟨b, off, none⟩ ∧ b < w.heap.size ∧ S b ∧ w.cell? ⟨b, off + i * 3, none⟩ = some (.int .i64 l[i].kind) ∧ w.cell? ⟨b, off + i * 3 + 1, none⟩ = some (.int .i64 l[i].num) ∧ w.cell? ⟨b, off + i * 3 + 2, none⟩ = some (.string l[i].text) ∧ l[i].In ∧ l[i].text.size ≤ 9223372036854775807 := by
  obtain ⟨b, off, row, ha, -, hb, hS, -, hrow, hx⟩ := h.elem' i hi
  obtain ⟨rfl, hI, hs⟩ := val_cells hx
  have p0 := (hrow 0 (by simp)).1
  have p1 := (hrow 1 (by simp)).1
  have p2 := (hrow 2 (by simp)).1
  simp [Sh.size] at p0 p1 p2
  exact ⟨b, off, ha, hb, hS, p0, p1, p2, hI, hs⟩
end Go.Proofs.YtfgdnakfikpmpaaGreatDoor
namespace Go.Proofs.YtfgdnakfikpmpaaGreatDoor
open Go Go.RowKit Go.Deep
def GivesI (w : World) (x : Int) (e : Ending) (w' : World) : Prop := e = .returned (.int .i64 x) ∧ Keep No w w'
end Go.Proofs.YtfgdnakfikpmpaaGreatDoor
namespace Go.Proofs.YtfgdnakfikpmpaaGreatDoor
open Go Go.RowKit Go.Deep
theorem strs_at {w : World} {S : Nat → Prop} {v : Value} {l : List ByteArray} (h : Rd (.slice .str) w S [v] l) :
    ∃ a c, v = .slice a l.length c ∧ l.length ≤ c ∧ c ≤ maxLen ∧ (a = none → l = [] ∧ c = 0) ∧ ∀ i (hi : i < l.length), ∃ b off, a = some ⟨b, off, none⟩ ∧ S b ∧ b < w.heap.size ∧ w.cell? ⟨b, off + i, none⟩ = some (.string l[i]) ∧ w.frozen? ⟨b, off + i, none⟩ = false ∧ l[i].size ≤ maxLen := by
  obtain ⟨a, c, e, h1, h2, h3, h4⟩ := h
  simp only [List.cons.injEq, and_true] at e
  refine ⟨a, c, e, h1, h2, h3, fun i hi => ?_⟩
  obtain ⟨b, off, row, ha, hb, hS, hl, hr, hx, hw⟩ := h4 i hi
  subst hx
  have := hr 0 (by simp)
  simp [Sh.size] at this
  exact ⟨b, off, ha, hS, hb, this.1, this.2, hw⟩
theorem strs_len {w : World} {S : Nat → Prop} {v : Value} {l : List ByteArray} (h : Rd (.slice .str) w S [v] l) : l.length ≤ 9223372036854775807 := by
  obtain ⟨a, c, -, h1, h2, -⟩ := strs_at h
  rw [maxLen_is] at h2; omega
theorem text_beq (a b : ByteArray) : (a.toList == b.toList) = decide (a = b) := by
  rw [toList_is, toList_is]
  by_cases h : a = b
  · subst h; simp
  · have : a.data.toList ≠ b.data.toList := fun hh => h (text_ext hh)
    rw [decide_eq_false h]; exact beq_false_of_ne this
set_option maxRecDepth 10000 in
set_option maxHeartbeats 2000000 in
theorem rTexts_any (w : World) (S T : Nat → Prop) (u v : Value) (l m : List ByteArray) (h : Rd (.slice .str) w S [u] l) (h' : Rd (.slice .str) w T [v] m) :
    Calls Tryz.prog 38 #[u, v] w (Looks w (.bool (decide (l = m)))) := by
  have h63 := strs_len h
  have g63 := strs_len h'
  obtain ⟨a, c, rfl, -, -, -, h4⟩ := strs_at h
  obtain ⟨a', c', rfl, -, -, -, g4⟩ := strs_at h'
  clear h h'
  by_cases hlen : l.length = m.length
  · have e0 : ((l.length : Int) != (m.length : Int)) = false := by simp; exact_mod_cast hlen
    go_enter Tryz.func38, Tryz.ntmps38
    go_wp2_with fail
    go_loopw [5] (fun i wr => ∃ k n : Nat, k ≤ l.length ∧ i = .int .i64 k ∧ wr = w.drewN n ∧ l.take k = m.take k) (fun i _ => l.length - (intOf i).toNat)
    case atStart => exact ⟨0, 0, by omega, rfl, rfl, by simp⟩
    case round =>
      obtain ⟨k, n, hk, rfl, rfl, ha⟩ := hrel
      by_cases hlt : k < l.length
      · have j1 : (k : Int) < l.length := by omega
        have j2 : (k : Int) < m.length := by omega
        have j0 : (0 : Int) ≤ k := by omega
        have j3 : (k : Int) ≤ 9223372036854775806 := by omega
        obtain ⟨b, off, rfl, -, -, hc, -, -⟩ := h4 k hlt
        obtain ⟨b', off', rfl, -, -, hc', -, -⟩ := g4 k (by omega)
        have hb := text_beq l[k] m[k]
        generalize hx : l[k] = x at hc hb
        generalize hy : m[k] = y at hc' hb
        by_cases he : x = y
        · rw [decide_eq_true he] at hb
          have hn : l.take (k + 1) = m.take (k + 1) := by
            rw [List.take_succ_eq_append_getElem hlt, List.take_succ_eq_append_getElem (by omega : k < m.length), ha, hx, hy, he]
          have HA := Lib.hid (And.intro hn hlt)
          clear hn ha h4 g4 he hk hx hy hlt h63 g63 hlen
          go_wp2_with fail
          go_quiet (fail)
          go_wp2_with fail
          go_roundw
          case rel => exact ⟨k + 1, _, by have := HA.2; omega, by simp, by first | rfl | trivial, HA.1⟩
          case measure => simp [intOf]; have := HA.2; omega
        · rw [decide_eq_false he] at hb
          have hne : ¬ l = m := fun hh => he (by rw [← hx, ← hy]; subst hh; rfl)
          have HA := Lib.hid hne
          clear ha h4 g4 he hk hx hy hlt h63 g63 hlen hne
          go_wp2_with fail
          go_quiet (fail)
          go_wp2_with fail
          go_ret
          rw [decide_eq_false (show ¬ l = m from HA)]
          exact ⟨n + _, rfl, by first | rfl | (simp; rfl) | simp⟩
      · have j1 : ¬ (k : Int) < l.length := by omega
        have hk2 : k = l.length := by omega
        rw [hk2, List.take_length, hlen, List.take_length] at ha
        have HA := Lib.hid ha
        clear ha hk2 hk hlt h4 g4 h63 g63 hlen
        go_wp2_with fail
        go_ret
        rw [decide_eq_true (show l = m from HA)]
        exact ⟨_, rfl, rfl⟩
  · have e0 : ((l.length : Int) != (m.length : Int)) = true := by simp; exact_mod_cast hlen
    have hne : ¬ l = m := fun hh => hlen (by rw [hh])
    rw [decide_eq_false hne]
    clear h4 g4 hne h63 g63 hlen
    go_enter Tryz.func38, Tryz.ntmps38
    go_wp2_with fail
    go_ret
    exact ⟨0, rfl, rfl⟩
end Go.Proofs.YtfgdnakfikpmpaaGreatDoor
namespace Go.Proofs.YtfgdnakfikpmpaaGreatDoor
open Go Go.RowKit Go.Deep
theorem bytes_ne {a b : ByteArray} (h : a ≠ b) : (a.toList == b.toList) = false := by
  rw [← beq_toListBytes]
  have : (a == b) = (a.data == b.data) := rfl
  rw [this]
  simp
  intro h2
  exact h (by cases a; cases b; simp_all)
theorem run_neq_value (w : World) (x y : valueSh.T) : (binOp .neq 47 (.agg #[.int .i64 x.1, .int .i64 x.2.1, .string x.2.2.1]) (.agg #[.int .i64 y.1, .int .i64 y.2.1, .string y.2.2.1])).run Tryz.prog w = .ok (.bool (decide (x ≠ y))) w := by
  obtain ⟨x1, x2, x3, ⟨⟩⟩ := x
  obtain ⟨y1, y2, y3, ⟨⟩⟩ := y
  by_cases h1 : x1 = y1
  · subst h1
    by_cases h2 : x2 = y2
    · subst h2
      by_cases h3 : x3 = y3
      · subst h3
        go_simp
      · have e := bytes_ne h3
        go_simp
    · have e : (x2 == y2) = false := by simpa using h2
      go_simp
  · have e : (x1 == y1) = false := by simpa using h1
    go_simp
end Go.Proofs.YtfgdnakfikpmpaaGreatDoor
