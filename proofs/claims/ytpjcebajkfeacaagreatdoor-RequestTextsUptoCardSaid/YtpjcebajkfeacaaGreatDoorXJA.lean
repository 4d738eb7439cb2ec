/-
  Parts of what is proved for this claim; each declaration is one of the seat's texts.
-/
import Derived.Test.YtpjcebajkfeacaaGreatDoorXGA
import Derived.Test.YtpjcebajkfeacaaGreatDoorXGB
import Derived.Test.YtpjcebajkfeacaaGreatDoorXGC
import Derived.Test.YtpjcebajkfeacaaGreatDoorXGK
import Derived.Test.YtpjcebajkfeacaaGreatDoorXGU
import Derived.Test.YtpjcebajkfeacaaGreatDoorXGV
import Derived.Test.YtpjcebajkfeacaaGreatDoorXHA
import Derived.Test.YtpjcebajkfeacaaGreatDoorXHB
import Derived.Test.YtpjcebajkfeacaaGreatDoorXHF
import Derived.Test.YtpjcebajkfeacaaGreatDoorXHJ
import Derived.Test.YtpjcebajkfeacaaGreatDoorXHL
import Derived.WalkKit
import Derived.WalkSpells
import Derived.WalkLawsBesides
import Derived.ProofKit
import Derived.Deep.Slices
import Derived.Deep.AppendSrc
import Derived.Lib.Hide
import Derived.Lib.ItoaNum
import Derived.Lib.Join
import Derived.Still
import Derived.StillTactics
import Derived.Recover
import Derived.Defers
import Derived.Deep.QuietTactic
import Derived.BigQuiet
import Derived.Handy
import Derived.Laws.Bits64b
import Derived.Lib.Zigzag
import Derived.OwnWalk
import Derived.Deep.DeepCutAuto
import Derived.Deep.LoopGhost
import Derived.Lib.Bytealg
import Derived.Laws.Externs
import Derived.Laws.CopyRow
import Derived.Laws.IdiomCopy
import Derived.Maps.OwnSet
import Derived.Maps.RangeWalk
import Derived.Shelf.SortM.Plain
import Derived.Shelf.SortM.SortNone
import Derived.Ground.SlgmProg
import Derived.Maps.OwnOps
import Derived.Shelf.Strconv.Itoa4
import Derived.Shelf.Strings.BuilderK
import Derived.Shelf.Strings.OnBuilder
import Derived.Ground.NamesProg
import Derived.Lib.AppendIntMem
import Derived.Lib.UnsafeStr
import Derived.Deep.WholeRow
import Derived.Maps.Views
set_option linter.unusedVariables false
set_option linter.unusedSimpArgs false
namespace Go.Proofs.YtpjcebajkfeacaaGreatDoor
open Go Go.RowKit Go.Deep
def frontD (n : Nat) : List UInt8 := if n < 10 then [] else Lib.decDigits (n / 10)
def lastD (n : Nat) : UInt8 := UInt8.ofNat (48 + n % 10)
theorem dec_front (n : Nat) : Lib.decDigits n = frontD n ++ [lastD n] := by
  rw [Lib.decDigits]
  unfold frontD lastD
  split
  · rename_i h; rw [Nat.mod_eq_of_lt h]; rfl
  · rfl
theorem front_next {n : Nat} (h : 10 ≤ n) : frontD n = frontD (n / 10) ++ [lastD (n / 10)] := by
  rw [← dec_front, frontD, if_neg (by omega)]
theorem enc_digit (d : Nat) (h : d < 10) : Utf8.encode (48 + (d : Int)) = ⟨#[UInt8.ofNat (48 + d)]⟩ := by
  have : ∀ d : Fin 10, Utf8.encode (48 + (d.val : Int)) = ⟨#[UInt8.ofNat (48 + d.val)]⟩ := by decide +kernel
  exact this ⟨d, h⟩
theorem wrap_quo {m : Nat} (h : m < 18446744073709551616) : IntKind.u64.wrap ((m : Int) / 10) = ((m / 10 : Nat) : Int) := by
  unfold IntKind.wrap
  simp only [IntKind.signed, IntKind.bits, Bool.false_and, Bool.false_eq_true, if_false]
  omega
theorem enc_last (m : Nat) : Utf8.encode (wrap32 (wrap64 (48 + wrap64 ((m : Int).tmod 10)))) = ⟨#[lastD m]⟩ := by
  have e : (m : Int).tmod 10 = ((m % 10 : Nat) : Int) := by rw [Int.tmod_eq_emod_of_nonneg (by omega)]; omega
  have e2 : wrap32 (wrap64 (48 + wrap64 ((m % 10 : Nat) : Int))) = 48 + ((m % 10 : Nat) : Int) := by simp only [wrap32, wrap64]; omega
  rw [e, e2, enc_digit _ (by omega)]
  rfl
theorem str_app (x : UInt8) (l : List UInt8) : (⟨#[x]⟩ : ByteArray) ++ ⟨l.toArray⟩ = ⟨(x :: l).toArray⟩ := by
  apply ByteArray.ext
  simp
set_option maxRecDepth 10000 in
theorem rdigits_any (n : Nat) (hn : n < 18446744073709551616) (w : World) : Calls Tryz.prog 207 #[.int .u64 n] w fun e w' => e = .returned (.string ⟨(Lib.decDigits n).toArray⟩) ∧ w' = w := by
  have HN := Lib.hid hn
  clear hn
  go_enter Tryz.func207, Tryz.ntmps207
  go_wp2_with fail
  go_loopg [0, 3] n (fun g x y wr => ∃ (m : Nat) (l : List UInt8), x = .int .u64 m ∧ y = .string ⟨l.toArray⟩ ∧ g = m ∧ wr = w ∧ RowKit.Hid (Lib.decDigits n = frontD m ++ l ∧ m < 18446744073709551616))
  case atStart =>
    refine ⟨n, [lastD n], rfl, ?_, rfl, rfl, dec_front n, HN.out⟩
    have e : ((n : Int) % 10) = ((n % 10 : Nat) : Int) := by omega
    rw [e, enc_digit _ (by omega)]
    rfl
  case round =>
    obtain ⟨m, l, rfl, rfl, hm, rfl, HR⟩ := hrel
    by_cases h : 10 ≤ m
    · have j1 : (10 : Int) ≤ m := by omega
      have HH := Lib.hid (And.intro h hm)
      clear h hm
      go_wp2_with fail
      · rename_i hh
        exfalso
        rw [wrap_quo HR.out.2, enc_last] at hh
        have h1 := congrArg List.length HR.out.1
        have h2 := dec_len n HN.out
        have h3 : (⟨#[lastD (m / 10)]⟩ : ByteArray).size = 1 := rfl
        rw [List.length_append] at h1
        omega
      go_roundg (m / 10)
      case measure => have := HH.out; omega
      case rel =>
        rw [wrap_quo HR.out.2, enc_last, str_app]
        refine ⟨m / 10, lastD (m / 10) :: l, rfl, rfl, rfl, rfl, ?_, ?_⟩
        · rw [HR.out.1, front_next HH.out.1]; simp
        · have := HR.out.2; omega
    · have j1 : ¬ (10 : Int) ≤ m := by omega
      have HH := Lib.hid h
      clear h hm
      go_wp2_with fail
      go_ret
      refine ⟨?_, rfl⟩
      have := HR.out.1
      rw [frontD, if_pos (by have := HH.out; omega)] at this
      rw [this]
      rfl
theorem rdigits_at (x : Int) (n : Nat) (e : x = n) (hn : n < 18446744073709551616) (w : World) : Calls Tryz.prog 207 #[.int .u64 x] w fun e w' => e = .returned (.string ⟨(Lib.decDigits n).toArray⟩) ∧ w' = w := by
  subst e; exact rdigits_any n hn w
set_option maxRecDepth 10000 in
theorem rDigits_any (n : Int) (h0 : -9223372036854775808 ≤ n) (h1 : n ≤ 9223372036854775807) (w : World) : Calls Tryz.prog 158 #[.int .i64 n] w fun e w' => e = .returned (.string ⟨(Lib.itoa n).toArray⟩) ∧ w' = w := by
  have HN := Lib.hid (And.intro h0 h1)
  clear h0 h1
  by_cases h : 0 ≤ n
  · have e : Lib.itoa n = Lib.decDigits n.toNat := by unfold Lib.itoa; rw [if_neg (by omega)]
    rw [e]
    have e3 : IntKind.u64.wrap n = (n.toNat : Int) := by
      unfold IntKind.wrap
      simp only [IntKind.signed, IntKind.bits, Bool.false_and, Bool.false_eq_true, if_false]
      have := HN.out
      omega
    have hd := rdigits_at (IntKind.u64.wrap n) n.toNat e3 (by have := HN.out; omega) w
    clear e3 e
    go_enter Tryz.func158, Tryz.ntmps158
    go_wp2_with (go_at_call 207; refine hd.mono ?_; rintro e w2 ⟨rfl, rfl⟩)
    go_ret
    exact ⟨rfl, rfl⟩
  · have e : Lib.itoa n = 45 :: Lib.decDigits n.natAbs := by unfold Lib.itoa; rw [if_pos (by omega)]
    rw [e, ← str_app]
    have hc : ¬ 9223372036854775807 < 1 + (Lib.decDigits n.natAbs).length := by have := dec_len n.natAbs (by have := HN.out; omega); omega
    have e3 : IntKind.u64.wrap (IntKind.u64.wrap (wrap64 (-wrap64 (n + 1))) + 1) = (n.natAbs : Int) := by
      have h9 : wrap64 (-wrap64 (n + 1)) = -(n + 1) := by have := HN.out; simp only [wrap64]; omega
      rw [h9]
      unfold IntKind.wrap
      simp only [IntKind.signed, IntKind.bits, Bool.false_and, Bool.false_eq_true, if_false]
      have := HN.out
      omega
    have hd := rdigits_at _ n.natAbs e3 (by have := HN.out; omega) w
    have h' : n < 0 := by omega
    clear e3 e h
    go_enter Tryz.func158, Tryz.ntmps158
    go_wp2_with (go_at_call 207; refine hd.mono ?_; rintro e w2 ⟨rfl, rfl⟩)
    go_ret
    exact ⟨rfl, rfl⟩
end Go.Proofs.YtpjcebajkfeacaaGreatDoor
