/-
  Package value: what is a value.
  The document's values: what may stand in a text; what is a value.
  A value's bytes laid behind others: the program's way.
  The next value of a reader: the program's way.
  The next value of a reader: the document's way.
-/
import Derived.Test.YtfgdnakfikpmpaaGreatDoorGA
import Derived.Test.YtfgdnakfikpmpaaGreatDoorGC
import Derived.Test.YtfgdnakfikpmpaaGreatDoorGD
import Derived.Test.YtfgdnakfikpmpaaGreatDoorGF
import Derived.Still
import Derived.StillTactics
import Derived.WalkKit
import Derived.WalkSpells
import Derived.WalkLawsBesides
import Derived.ProofKit
import Derived.Deep.Slices
import Derived.Deep.AppendSrc
import Derived.Lib.Hide
import Derived.Recover
import Derived.Defers
import Derived.Deep.QuietTactic
import Derived.BigQuiet
import Derived.Handy
import Derived.Laws.Bits64b
import Derived.Lib.Zigzag
import Derived.OwnWalk
import Derived.Deep.DeepCutAuto
namespace Go.Proofs.YtfgdnakfikpmpaaGreatDoor
set_option linter.unusedVariables false
set_option linter.unusedSimpArgs false
open Go Go.RowKit Go.Deep

/-- a Bool is given back; only new blocks -/
def Says (w : World) (b : Bool) (e : Ending) (w' : World) : Prop := e = .returned (.bool b) ∧ Keep No w w'
abbrev Val.agg (v : Val) : Value := .agg #[.int .i64 v.kind, .int .i64 v.num, .string v.text]

theorem empty_iff (t : ByteArray) : (t.toList.isEmpty) = decide (t.size = 0) := by
  rw [toList_is]
  cases t with
  | mk d => show d.toList.isEmpty = decide (d.size = 0); cases d with
    | mk l => cases l <;> simp

theorem size0_iff (t : ByteArray) : t = ByteArray.empty ↔ t.size = 0 := ⟨fun h => by rw [h]; rfl, fun h => size0 h⟩
set_option maxHeartbeats 2000000 in
theorem Valid_any (k n : Int) (t : ByteArray) (ht : t.size ≤ 9223372036854775807) (w : World) : Calls Tryz.prog 72 #[.agg #[.int .i64 k, .int .i64 n, .string t]] w (Says w (mkVal k n t).ok) := by
  have hE := empty_iff t
  have hp := printable_any t ht (w.alloc (.cells #[.int .i64 k, .int .i64 n, .string t] 47))
  by_cases h0 : k = 0
  · subst h0
    by_cases h1 : n = 0
    · subst h1
      by_cases h2 : t.size = 0
      · obtain rfl := size0 h2
        clear hp
        go_enter Tryz.func72, Tryz.ntmps72
        go_wp2
        go_ret
        exact ⟨congrArg (fun b => Ending.returned (Value.bool b)) (by simp [Val.ok, mkVal, Val.kind, Val.num, Val.text, noText_size]), (Keep.refl _ _).alloc _⟩

      · have e2 : t.toList.isEmpty = false := by rw [hE]; simpa using h2
        clear hp
        go_enter Tryz.func72, Tryz.ntmps72
        go_wp2
        go_ret
        exact ⟨congrArg (fun b => Ending.returned (Value.bool b)) (by simp [Val.ok, mkVal, Val.kind, Val.num, Val.text, h2, size0_iff]), (Keep.refl _ _).alloc _⟩

    · have e1 : (n == 0) = false := by simpa using h1
      clear hp
      go_enter Tryz.func72, Tryz.ntmps72
      go_wp2
      go_ret
      exact ⟨congrArg (fun b => Ending.returned (Value.bool b)) (by simp [Val.ok, mkVal, Val.kind, Val.num, Val.text, h1]), (Keep.refl _ _).alloc _⟩

  · by_cases h1 : k = 1
    · subst h1
      by_cases h2 : t.size = 0
      · obtain rfl := size0 h2
        clear hp
        go_enter Tryz.func72, Tryz.ntmps72
        go_wp2
        go_ret
        exact ⟨congrArg (fun b => Ending.returned (Value.bool b)) (by simp [Val.ok, mkVal, Val.kind, Val.num, Val.text, noText_size]), (Keep.refl _ _).alloc _⟩

      · have e2 : t.toList.isEmpty = false := by rw [hE]; simpa using h2
        clear hp
        go_enter Tryz.func72, Tryz.ntmps72
        go_wp2
        go_ret
        exact ⟨congrArg (fun b => Ending.returned (Value.bool b)) (by simp [Val.ok, mkVal, Val.kind, Val.num, Val.text, h2, size0_iff]), (Keep.refl _ _).alloc _⟩

    · by_cases h2 : k = 2
      · subst h2
        by_cases h3 : n = 0
        · subst h3
          by_cases h4 : t.size ≤ 64
          · have h4' : (t.size : Int) ≤ 64 := by omega
            generalize hpb : plainB t = pb at hp
            have HPB := Lib.hid hpb
            clear hpb
            clear hE ht
            go_enter Tryz.func72, Tryz.ntmps72
            go_wp2_with (go_at_call 116; refine hp.mono ?_; clear hp; rintro e w' ⟨rfl, rfl⟩)
            go_ret
            have hpb : plainB t = pb := HPB
            exact ⟨congrArg (fun b => Ending.returned (Value.bool b)) (by simp [Val.ok, mkVal, Val.kind, Val.num, Val.text, h4, hpb]), (Keep.refl _ _).alloc _⟩

          · have h4' : ¬ (t.size : Int) ≤ 64 := by omega
            clear hE ht hp
            go_enter Tryz.func72, Tryz.ntmps72
            go_wp2
            go_ret
            exact ⟨congrArg (fun b => Ending.returned (Value.bool b)) (by simp [Val.ok, mkVal, Val.kind, Val.num, Val.text, h4]), (Keep.refl _ _).alloc _⟩

        · have e1 : (n == 0) = false := by simpa using h3
          clear hp
          go_enter Tryz.func72, Tryz.ntmps72
          go_wp2
          go_ret
          exact ⟨congrArg (fun b => Ending.returned (Value.bool b)) (by simp [Val.ok, mkVal, Val.kind, Val.num, Val.text, h3]), (Keep.refl _ _).alloc _⟩

      · have e0 : (k == 0) = false := by simpa using h0
        have e1 : (k == 1) = false := by simpa using h1
        have e2 : (k == 2) = false := by simpa using h2
        clear hp
        go_enter Tryz.func72, Tryz.ntmps72
        go_wp2
        go_ret
        exact ⟨congrArg (fun b => Ending.returned (Value.bool b)) (by simp [Val.ok, mkVal, Val.kind, Val.num, Val.text, h0, h1, h2]), (Keep.refl _ _).alloc _⟩

end Go.Proofs.YtfgdnakfikpmpaaGreatDoor

namespace Go.Proofs.YtfgdnakfikpmpaaGreatDoor
set_option linter.unusedVariables false
set_option linter.unusedSimpArgs false
open Go Go.RowKit Go.Deep

theorem rmay_any (c : Int) (w : World) : Calls Tryz.prog 119 #[.int .u8 c] w fun e w' => e = .returned (.bool (plainC c)) ∧ w' = w := by
  unfold plainC
  by_cases h1 : 32 ≤ c
  · by_cases h2 : c ≤ 126
    · go_enter Tryz.func119, Tryz.ntmps119
      go_wp2
      go_ret
      simp [h1, h2]
    · go_enter Tryz.func119, Tryz.ntmps119
      go_wp2
      go_ret
      simp [h1, h2]
  · go_enter Tryz.func119, Tryz.ntmps119
    go_wp2
    go_ret
    simp; omega

theorem rOf_any (n : Int) (w : World) : Calls Tryz.prog 289 #[.int .i64 n] w (GivesV w (mkVal 1 n noText)) := by
  go_enter Tryz.func289, Tryz.ntmps289
  go_wp2
  refine bodyPost_ret (v := .agg #[.int .i64 1, .int .i64 n, .string noText]) (by simp [results, Tryz.results289, go_sem]; rfl) rfl ⟨rfl, ?_⟩
  exact (Keep.refl _ _).alloc _
theorem rWord_any (s : ByteArray) (w : World) : Calls Tryz.prog 287 #[.string s] w (GivesV w (mkVal 2 0 s)) := by
  go_enter Tryz.func287, Tryz.ntmps287
  go_wp2
  refine bodyPost_ret (v := .agg #[.int .i64 2, .int .i64 0, .string s]) (by simp [results, Tryz.results287, go_sem]) rfl ⟨rfl, ?_⟩
  exact (Keep.refl _ _).alloc _
set_option maxHeartbeats 2000000 in
theorem rValid_any (k n : Int) (t : ByteArray) (ht : t.size ≤ 9223372036854775807) (w : World) : Calls Tryz.prog 77 #[.agg #[.int .i64 k, .int .i64 n, .string t]] w (Says w (mkVal k n t).ok) := by
  have hE := empty_iff t
  have hp := trivial
  by_cases h0 : k = 0
  · subst h0
    by_cases h1 : n = 0
    · subst h1
      by_cases h2 : t.size = 0
      · obtain rfl := size0 h2
        clear hp
        go_enter Tryz.func77, Tryz.ntmps77
        go_wp2
        go_ret
        exact ⟨congrArg (fun b => Ending.returned (Value.bool b)) (by simp [Val.ok, mkVal, Val.kind, Val.num, Val.text, noText_size]), (Keep.refl _ _).alloc _⟩

      · have e2 : t.toList.isEmpty = false := by rw [hE]; simpa using h2
        clear hp
        go_enter Tryz.func77, Tryz.ntmps77
        go_wp2
        go_ret
        exact ⟨congrArg (fun b => Ending.returned (Value.bool b)) (by simp [Val.ok, mkVal, Val.kind, Val.num, Val.text, h2, size0_iff]), (Keep.refl _ _).alloc _⟩

    · have e1 : (n == 0) = false := by simpa using h1
      clear hp
      go_enter Tryz.func77, Tryz.ntmps77
      go_wp2
      go_ret
      exact ⟨congrArg (fun b => Ending.returned (Value.bool b)) (by simp [Val.ok, mkVal, Val.kind, Val.num, Val.text, h1]), (Keep.refl _ _).alloc _⟩

  · by_cases h1 : k = 1
    · subst h1
      by_cases h2 : t.size = 0
      · obtain rfl := size0 h2
        clear hp
        go_enter Tryz.func77, Tryz.ntmps77
        go_wp2
        go_ret
        exact ⟨congrArg (fun b => Ending.returned (Value.bool b)) (by simp [Val.ok, mkVal, Val.kind, Val.num, Val.text, noText_size]), (Keep.refl _ _).alloc _⟩

      · have e2 : t.toList.isEmpty = false := by rw [hE]; simpa using h2
        clear hp
        go_enter Tryz.func77, Tryz.ntmps77
        go_wp2
        go_ret
        exact ⟨congrArg (fun b => Ending.returned (Value.bool b)) (by simp [Val.ok, mkVal, Val.kind, Val.num, Val.text, h2, size0_iff]), (Keep.refl _ _).alloc _⟩

    · by_cases h2 : k = 2
      · subst h2
        clear hp hE
        go_enter Tryz.func77, Tryz.ntmps77
        go_wp2_with fail
        go_loopw [3] (fun i wr => ∃ j : Nat, j ≤ t.size ∧ i = .int .i64 j ∧ wr = w.alloc (.cells #[.int .i64 2, .int .i64 n, .string t] 47) ∧ ((bytesOf t).take j).all plainC = true) (fun i _ => t.size - (intOf i).toNat)
        case atStart => exact ⟨0, by omega, rfl, rfl, by simp⟩
        case round =>
          obtain ⟨j, hj, rfl, rfl, ha⟩ := hrel
          by_cases hlt : j < t.size
          · have j1 : (j : Int) < t.size := by omega
            have j0 : (0 : Int) ≤ j := by omega
            have hl : j < (bytesOf t).length := by rw [bytesOf_length]; exact hlt
            have hg := bytesOf_get t j hl hlt
            have hc := rmay_any (t[j].toNat : Int) (w.alloc (.cells #[.int .i64 2, .int .i64 n, .string t] 47))
            rw [← hg] at hc
            cases hp : plainC (bytesOf t)[j] with
            | true =>
              have hn := all_take _ _ j hl ha
              rw [hp] at hn hc
              rw [hg] at hc
              have HA := Lib.hid hn
              clear hn hp hg ha
              go_wp2_with (go_at_call 119; refine hc.mono ?_; clear hc; rintro e w' ⟨rfl, rfl⟩)
              go_roundw
              case rel => exact ⟨j + 1, by omega, by simp, by first | rfl | trivial, HA⟩
              case measure => simp [intOf]; omega
            | false =>
              have hn := all_false _ _ j hl hp
              rw [hp] at hc
              rw [hg] at hc
              have HA := Lib.hid hn
              clear hn hp hg ha
              go_wp2_with (go_at_call 119; refine hc.mono ?_; clear hc; rintro e w' ⟨rfl, rfl⟩)
              go_ret
              have hpb : plainB t = false := HA
              exact ⟨congrArg (fun b => Ending.returned (Value.bool b)) (by simp [Val.ok, mkVal, Val.kind, Val.num, Val.text, hpb]), (Keep.refl _ _).alloc _⟩
          · have j1 : ¬ (j : Int) < t.size := by omega
            have hk2 : j = (bytesOf t).length := by rw [bytesOf_length]; omega
            rw [hk2, List.take_length] at ha
            have HA := Lib.hid ha
            clear ha hk2 hj hlt ht
            by_cases h3 : n = 0
            · subst h3
              by_cases h4 : t.size ≤ 64
              · have h4' : (t.size : Int) ≤ 64 := by omega
                go_wp2_with fail
                go_ret
                have hpb : plainB t = true := HA
                exact ⟨congrArg (fun b => Ending.returned (Value.bool b)) (by simp [Val.ok, mkVal, Val.kind, Val.num, Val.text, hpb, h4]), (Keep.refl _ _).alloc _⟩
              · have h4' : ¬ (t.size : Int) ≤ 64 := by omega
                go_wp2_with fail
                go_ret
                exact ⟨congrArg (fun b => Ending.returned (Value.bool b)) (by simp [Val.ok, mkVal, Val.kind, Val.num, Val.text, h4]), (Keep.refl _ _).alloc _⟩
            · have e1 : (n == 0) = false := by simpa using h3
              go_wp2_with fail
              go_ret
              exact ⟨congrArg (fun b => Ending.returned (Value.bool b)) (by simp [Val.ok, mkVal, Val.kind, Val.num, Val.text, h3]), (Keep.refl _ _).alloc _⟩
      · have e0 : (k == 0) = false := by simpa using h0
        have e1 : (k == 1) = false := by simpa using h1
        have e2 : (k == 2) = false := by simpa using h2
        clear hp
        go_enter Tryz.func77, Tryz.ntmps77
        go_wp2
        go_ret
        exact ⟨congrArg (fun b => Ending.returned (Value.bool b)) (by simp [Val.ok, mkVal, Val.kind, Val.num, Val.text, h0, h1, h2]), (Keep.refl _ _).alloc _⟩

end Go.Proofs.YtfgdnakfikpmpaaGreatDoor

namespace Go.Proofs.YtfgdnakfikpmpaaGreatDoor
set_option linter.unusedVariables false
set_option linter.unusedSimpArgs false
open Go Go.RowKit Go.Deep

theorem OwnB.more {w0 w w' : World} {v : Value} {x : Bytes} (h : OwnB w0 w v x) (hk : Keep No w w') : OwnB w0 w' v x :=
  ⟨(h.1.agree (k := hk.agreeNo)).mono fun k hk' => ⟨hk'.1, Nat.lt_of_lt_of_le hk'.2 hk.size⟩, h.2.trans hk⟩
/-- a single byte, in a region that draws -/
theorem app_byteD {w0 w : World} {v : Value} {l : Bytes} (h : OwnB w0 w v l) (x : Int) (h0 : 0 ≤ x) (h1 : x < 256) (hl : l.length + 1 ≤ 140737488355328) :
    ∃ a c w', (Builtin.append_ #[123, 123] 123 #[v, .slice (some ⟨w.heap.size, 0, none⟩) 1 1]).run Tryz.prog ((w.alloc (.cells #[.int .u8 x] 5)).drew) = .ok (.slice a (l.length + 1) c) w' ∧ OwnB w0 w' (.slice a (l.length + 1) c) (l ++ [x]) :=
  app_src h ((Keep.refl No w).alloc _).drew (xs := [x]) (Src.ofBlock Tryz.underlying123 w.heap.size 1 1 #[.int .u8 x] 5 _ (blk_new w _) rfl (fun u hu => by simp at hu; subst hu; rfl)) (AllB.cons h0 h1 .nil) hl
theorem Keep.back0 {w0 w w1 : World} (h : Keep No w w1) (hk : Keep No w0 w) : Keep No w0 w1 := hk.trans h
theorem OwnB.back {w0 w w1 : World} {v : Value} {x : Bytes} (h : OwnB w0 w1 v x) (hk : Keep No w w0) : OwnB w w1 v x := h.then hk

end Go.Proofs.YtfgdnakfikpmpaaGreatDoor

namespace Go.Proofs.YtfgdnakfikpmpaaGreatDoor
set_option linter.unusedVariables false
set_option linter.unusedSimpArgs false
open Go Go.RowKit Go.Deep

theorem byte_range {r : Rs} (h : r.Ok) : 0 ≤ r.byte.1 ∧ r.byte.1 < 256 := by
  unfold Rs.byte
  split
  · exact ⟨by simp, by simp⟩
  · cases hr : r.rest with
    | nil => exact ⟨by simp, by simp⟩
    | cons c t => exact h.rest c (by rw [hr]; exact List.mem_cons_self)
/-- three cells of a value's block are laid anew -/
theorem blk_val {w : World} {b : Nat} {x y z : Value} {t : TypeId} (h : w.heap[b]? = some (.cells #[x, y, z] t (0, 0))) (x' y' z' : Value) :
    (((w.setCell ⟨b, 0, none⟩ x').setCell ⟨b, 1, none⟩ y').setCell ⟨b, 2, none⟩ z').heap[b]? = some (.cells #[x', y', z'] t (0, 0)) := by
  have := blk_set (blk_set (blk_set h 0 x') 1 y') 2 z'
  simpa using this

theorem RdrAt.other3 {T : TypeId} {w : World} {B : Nat} {S : Nat → Prop} {v : Value} {r : Rs} (h : RdrAt T w B S v r) {b : Nat} (hb : ¬ b = B) (hS : ¬ S b) (x y z : Value) :
    RdrAt T (((w.setCell ⟨b, 0, none⟩ x).setCell ⟨b, 1, none⟩ y).setCell ⟨b, 2, none⟩ z) B S v r := ((h.other hb hS x).other hb hS y).other hb hS z
theorem Keep.setNew3 {M : Nat → Prop} {a w : World} (h : Keep M a w) {b : Nat} (hb : a.heap.size ≤ b) (x y z : Value) :
    Keep M a (((w.setCell ⟨b, 0, none⟩ x).setCell ⟨b, 1, none⟩ y).setCell ⟨b, 2, none⟩ z) := ((h.setNew (p := ⟨b, 0, none⟩) hb x).setNew (p := ⟨b, 1, none⟩) hb y).setNew (p := ⟨b, 2, none⟩) hb z
theorem blk_other3 {w : World} {b b' : Nat} {o : Obj} (h : w.heap[b]? = some o) (hn : ¬ b' = b) (x y z : Value) :
    (((w.setCell ⟨b', 0, none⟩ x).setCell ⟨b', 1, none⟩ y).setCell ⟨b', 2, none⟩ z).heap[b]? = some o := blk_other (blk_other (blk_other h (show (⟨b', 0, none⟩ : Addr).block ≠ b from hn) x) (show (⟨b', 1, none⟩ : Addr).block ≠ b from hn) y) (show (⟨b', 2, none⟩ : Addr).block ≠ b from hn) z

end Go.Proofs.YtfgdnakfikpmpaaGreatDoor

namespace Go.Proofs.YtfgdnakfikpmpaaGreatDoor
set_option linter.unusedVariables false
set_option linter.unusedSimpArgs false
open Go Go.RowKit Go.Deep

theorem ok_word (s : ByteArray) (h : s.size ≤ 64) : (mkVal 2 0 s).ok = plainB s := by simp [Val.ok, mkVal, Val.kind, Val.num, Val.text, h]

end Go.Proofs.YtfgdnakfikpmpaaGreatDoor
