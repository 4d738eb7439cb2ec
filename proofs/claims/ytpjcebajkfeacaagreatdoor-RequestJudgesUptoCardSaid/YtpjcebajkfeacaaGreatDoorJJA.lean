/-
  Parts of what is proved for this claim; each declaration is one of the seat's texts.
-/
import Derived.Test.YtpjcebajkfeacaaGreatDoorJGA
import Derived.Test.YtpjcebajkfeacaaGreatDoorJGB
import Derived.Test.YtpjcebajkfeacaaGreatDoorJGC
import Derived.Test.YtpjcebajkfeacaaGreatDoorJGK
import Derived.Test.YtpjcebajkfeacaaGreatDoorJGU
import Derived.Test.YtpjcebajkfeacaaGreatDoorJGV
import Derived.Test.YtpjcebajkfeacaaGreatDoorJHA
import Derived.Test.YtpjcebajkfeacaaGreatDoorJHB
import Derived.Test.YtpjcebajkfeacaaGreatDoorJHF
import Derived.Test.YtpjcebajkfeacaaGreatDoorJHJ
import Derived.Test.YtpjcebajkfeacaaGreatDoorJHL
import Derived.WalkKit
import Derived.WalkSpells
import Derived.WalkLawsBesides
import Derived.ProofKit
import Derived.Deep.Slices
import Derived.Deep.AppendSrc
import Derived.Lib.Hide
import Derived.Lib.ItoaNum
import Derived.Lib.Join
import Derived.Still
import Derived.StillTactics
import Derived.Recover
import Derived.Defers
import Derived.Deep.QuietTactic
import Derived.BigQuiet
import Derived.Handy
import Derived.Laws.Bits64b
import Derived.Lib.Zigzag
import Derived.OwnWalk
import Derived.Deep.DeepCutAuto
import Derived.Deep.LoopGhost
import Derived.Lib.Bytealg
import Derived.Laws.Externs
import Derived.Laws.CopyRow
import Derived.Laws.IdiomCopy
import Derived.Maps.OwnSet
import Derived.Maps.RangeWalk
import Derived.Shelf.SortM.Plain
import Derived.Shelf.SortM.SortNone
import Derived.Ground.SlgmProg
import Derived.Maps.OwnOps
import Derived.Shelf.Strconv.Itoa4
import Derived.Shelf.Strings.BuilderK
import Derived.Shelf.Strings.OnBuilder
import Derived.Ground.NamesProg
import Derived.Lib.AppendIntMem
import Derived.Lib.UnsafeStr
import Derived.Deep.WholeRow
import Derived.Maps.Views
set_option linter.unusedVariables false
set_option linter.unusedSimpArgs false
namespace Go.Proofs.YtpjcebajkfeacaaGreatDoor
open Go Go.RowKit Go.Deep
def frontD (n : Nat) : List UInt8 := if n < 10 then [] else Lib.decDigits (n / 10)
def lastD (n : Nat) : UInt8 := UInt8.ofNat (48 + n % 10)
theorem dec_front (n : Nat) : Lib.decDigits n = frontD n ++ [lastD n] := by
  rw [Lib.decDigits]
  unfold frontD lastD
  split
  · rename_i h; rw [Nat.mod_eq_of_lt h]; rfl
  · rfl
theorem front_next {n : Nat} (h : 10 ≤ n) : frontD n = frontD (n / 10) ++ [lastD (n / 10)] := by
  rw [← dec_front, frontD, if_neg (by omega)]
theorem enc_digit (d : Nat) (h : d < 10) : Utf8.encode (48 + (d : Int)) = ⟨#[UInt8.ofNat (48 + d)]⟩ := by
  have : ∀ d : Fin 10, Utf8.encode (48 + (d.val : Int)) = ⟨#[UInt8.ofNat (48 + d.val)]⟩ := by decide +kernel
  exact this ⟨d, h⟩
theorem wrap_quo {m : Nat} (h : m < 18446744073709551616) : IntKind.u64.wrap ((m : Int) / 10) = ((m / 10 : Nat) : Int) := by
  unfold IntKind.wrap
  simp only [IntKind.signed, IntKind.bits, Bool.false_and, Bool.false_eq_true, if_false]
  omega
theorem enc_last (m : Nat) : Utf8.encode (wrap32 (wrap64 (48 + wrap64 ((m : Int).tmod 10)))) = ⟨#[lastD m]⟩ := by
  have e : (m : Int).tmod 10 = ((m % 10 : Nat) : Int) := by rw [Int.tmod_eq_emod_of_nonneg (by omega)]; omega
  have e2 : wrap32 (wrap64 (48 + wrap64 ((m % 10 : Nat) : Int))) = 48 + ((m % 10 : Nat) : Int) := by simp only [wrap32, wrap64]; omega
  rw [e, e2, enc_digit _ (by omega)]
  rfl
theorem str_app (x : UInt8) (l : List UInt8) : (⟨#[x]⟩ : ByteArray) ++ ⟨l.toArray⟩ = ⟨(x :: l).toArray⟩ := by
  apply ByteArray.ext
  simp
set_option maxRecDepth 10000 in
theorem rdigits_any (n : Nat) (hn : n < 18446744073709551616) (w : World) : Calls Tryz.prog 207 #[.int .u64 n] w fun e w' => e = .returned (.string ⟨(Lib.decDigits n).toArray⟩) ∧ w' = w := by
  have HN := Lib.hid hn
  clear hn
  go_enter Tryz.func207, Tryz.ntmps207
  go_wp2_with fail
  go_loopg [0, 3] n (fun g x y wr => ∃ (m : Nat) (l : List UInt8), x = .int .u64 m ∧ y = .string ⟨l.toArray⟩ ∧ g = m ∧ wr = w ∧ RowKit.Hid (Lib.decDigits n = frontD m ++ l ∧ m < 18446744073709551616))
  case atStart =>
    refine ⟨n, [lastD n], rfl, ?_, rfl, rfl, dec_front n, HN.out⟩
    have e : ((n : Int) % 10) = ((n % 10 : Nat) : Int) := by omega
    rw [e, enc_digit _ (by omega)]
    rfl
  case round =>
    obtain ⟨m, l, rfl, rfl, hm, rfl, HR⟩ := hrel
    by_cases h : 10 ≤ m
    · have j1 : (10 : Int) ≤ m := by omega
      have HH := Lib.hid (And.intro h hm)
      clear h hm
      go_wp2_with fail
      · rename_i hh
        exfalso
        rw [wrap_quo HR.out.2, enc_last] at hh
        have h1 := congrArg List.length HR.out.1
        have h2 := dec_len n HN.out
        have h3 : (⟨#[lastD (m / 10)]⟩ : ByteArray).size = 1 := rfl
        rw [List.length_append] at h1
        omega
      go_roundg (m / 10)
      case measure => have := HH.out; omega
      case rel =>
        rw [wrap_quo HR.out.2, enc_last, str_app]
        refine ⟨m / 10, lastD (m / 10) :: l, rfl, rfl, rfl, rfl, ?_, ?_⟩
        · rw [HR.out.1, front_next HH.out.1]; simp
        · have := HR.out.2; omega
    · have j1 : ¬ (10 : Int) ≤ m := by omega
      have HH := Lib.hid h
      clear h hm
      go_wp2_with fail
      go_ret
      refine ⟨?_, rfl⟩
      have := HR.out.1
      rw [frontD, if_pos (by have := HH.out; omega)] at this
      rw [this]
      rfl
theorem rdigits_at (x : Int) (n : Nat) (e : x = n) (hn : n < 18446744073709551616) (w : World) : Calls Tryz.prog 207 #[.int .u64 x] w fun e w' => e = .returned (.string ⟨(Lib.decDigits n).toArray⟩) ∧ w' = w := by
  subst e; exact rdigits_any n hn w
set_option maxRecDepth 10000 in
theorem rDigits_any (n : Int) (h0 : -9223372036854775808 ≤ n) (h1 : n ≤ 9223372036854775807) (w : World) : Calls Tryz.prog 158 #[.int .i64 n] w fun e w' => e = .returned (.string ⟨(Lib.itoa n).toArray⟩) ∧ w' = w := by
  have HN := Lib.hid (And.intro h0 h1)
  clear h0 h1
  by_cases h : 0 ≤ n
  · have e : Lib.itoa n = Lib.decDigits n.toNat := by unfold Lib.itoa; rw [if_neg (by omega)]
    rw [e]
    have e3 : IntKind.u64.wrap n = (n.toNat : Int) := by
      unfold IntKind.wrap
      simp only [IntKind.signed, IntKind.bits, Bool.false_and, Bool.false_eq_true, if_false]
      have := HN.out
      omega
    have hd := rdigits_at (IntKind.u64.wrap n) n.toNat e3 (by have := HN.out; omega) w
    clear e3 e
    go_enter Tryz.func158, Tryz.ntmps158
    go_wp2_with (go_at_call 207; refine hd.mono ?_; rintro e w2 ⟨rfl, rfl⟩)
    go_ret
    exact ⟨rfl, rfl⟩
  · have e : Lib.itoa n = 45 :: Lib.decDigits n.natAbs := by unfold Lib.itoa; rw [if_pos (by omega)]
    rw [e, ← str_app]
    have hc : ¬ 9223372036854775807 < 1 + (Lib.decDigits n.natAbs).length := by have := dec_len n.natAbs (by have := HN.out; omega); omega
    have e3 : IntKind.u64.wrap (IntKind.u64.wrap (wrap64 (-wrap64 (n + 1))) + 1) = (n.natAbs : Int) := by
      have h9 : wrap64 (-wrap64 (n + 1)) = -(n + 1) := by have := HN.out; simp only [wrap64]; omega
      rw [h9]
      unfold IntKind.wrap
      simp only [IntKind.signed, IntKind.bits, Bool.false_and, Bool.false_eq_true, if_false]
      have := HN.out
      omega
    have hd := rdigits_at _ n.natAbs e3 (by have := HN.out; omega) w
    have h' : n < 0 := by omega
    clear e3 e h
    go_enter Tryz.func158, Tryz.ntmps158
    go_wp2_with (go_at_call 207; refine hd.mono ?_; rintro e w2 ⟨rfl, rfl⟩)
    go_ret
    exact ⟨rfl, rfl⟩
end Go.Proofs.YtpjcebajkfeacaaGreatDoor
namespace Go.Proofs.YtpjcebajkfeacaaGreatDoor
open Go Go.RowKit Go.Deep
theorem suit_bad (g1 : Bool) (y0 y1 : Int) (bad : Bool) (hb : bad = (!g1 || decide (y1 = 0) || (decide (y0 ≠ 3) && decide (y0 ≠ y1)))) : (bad = false → g1 = true ∧ y1 ≠ 0 ∧ (y0 = y1 ∨ y0 = 3)) ∧ (bad = true → (g1 && decide (y1 ≠ 0) && (decide (y0 = y1) || decide (y0 = 3))) = false) := by
  subst hb
  cases g1 <;> by_cases e1 : y1 = 0 <;> by_cases e2 : y0 = 3 <;> by_cases e3 : y0 = y1 <;> simp_all
set_option maxRecDepth 10000 in
set_option maxHeartbeats 4000000 in
theorem rSuits_any (w : World) (S T : Nat → Prop) (m0 m2 m3 m4 m5 m6 m7 : Value) (o : m0.oneCell' = true ∧ m2.oneCell' = true ∧ m3.oneCell' = true ∧ m4.oneCell' = true ∧ m5.oneCell' = true ∧ m6.oneCell' = true ∧ m7.oneCell' = true) (a1 a2 : Option Addr) (c1 c2 : Nat) (ks : List Int) (args : List Val) (h1 : Rd (.slice (.int .i64)) w S [.slice a1 ks.length c1] ks) (h2 : Rd (.slice valueSh) w T [.slice a2 args.length c2] args) :
    Calls Tryz.prog 80 #[.agg #[m0, .slice a1 ks.length c1, m2, m3, m4, m5, m6, m7], .slice a2 args.length c2] w (GivesI w (if suitsB ks args then 0 else 82)) := by
  obtain ⟨o0, o2, o3, o4, o5, o6, o7⟩ := o
  obtain ⟨res, hres⟩ : ∃ res : Int, res = (if suitsB ks args then 0 else 82) := ⟨_, rfl⟩
  rw [← hres]
  have HRES := Lib.hid hres
  clear hres
  have hl63 := slice_len h2
  have K1 := (Keep.refl No w).alloc (.cells #[m0, .slice a1 ks.length c1, m2, m3, m4, m5, m6, m7] 130)
  have x1 := blk_new w (.cells #[m0, .slice a1 ks.length c1, m2, m3, m4, m5, m6, m7] 130)
  have q1 := blk_cell x1
  by_cases hl : args.length = ks.length
  · have e0 : ((args.length : Int) != (ks.length : Int)) = false := by simp; exact_mod_cast hl
    have HX := Lib.hid (And.intro K1 (And.intro x1 (And.intro hl (And.intro h1 h2))))
    clear K1 x1 hl h1 h2
    go_enter Tryz.func80, Tryz.ntmps80
    go_upto_region 3 with fail
    generalize (w.alloc (.cells #[m0, .slice a1 ks.length c1, m2, m3, m4, m5, m6, m7] 130)) = wa at *
    clear q1
    go_wp2_with fail
    go_loopg [5] args.length (fun g i wr => ∃ k : Nat, k ≤ args.length ∧ g = args.length - k ∧ i = .int .i64 k ∧ RowKit.Hid (Keep No wa wr ∧ suitTo ks args k))
    case atStart => exact ⟨0, by omega, by omega, rfl, Keep.refl No _, fun i _ _ h => absurd h (Nat.not_lt_zero _)⟩
    case round =>
      obtain ⟨k, hk, rfl, rfl, HR⟩ := hrel
      by_cases hlt : k < args.length
      · have hlk : k < ks.length := by rw [← HX.out.2.2.1]; exact hlt
        have j1 : (k : Int) < args.length := by omega
        have j2 : (k : Int) < ks.length := by omega
        have j0 : (0 : Int) ≤ k := by omega
        have j3 : (k : Int) ≤ 9223372036854775806 := by omega
        have kw := (HX.out.1.trans HR.out.1).drew
        obtain ⟨b2, f2, rfl, hb2, -, s0, s1, s2, hI, hs⟩ := vals_get (HX.out.2.2.2.2.agree _ kw.agreeNo) k hlt
        obtain ⟨b1, f1, rfl, hb1, -, r0, -⟩ := ints_get (HX.out.2.2.2.1.agree _ kw.agreeNo) k hlk
        have x2 := HR.out.1.drew.blk HX.out.2.1 (fun x => x)
        have hv : RowKit.Hid (∀ W, Keep No wr.drew W → Calls Tryz.prog 110 #[.agg #[.int .i64 args[k].kind, .int .i64 args[k].num, .string args[k].text]] W fun e w3 => e = .returned (.bool args[k].ok) ∧ w3.cell? ⟨b2, f2 + k * 3, none⟩ = some (.int .i64 args[k].kind) ∧ w3.cell? ⟨b1, f1 + k, none⟩ = some (.int .i64 ks[k]) ∧ w3.heap[w.heap.size]? = some (.cells #[m0, .slice (some ⟨b1, f1, none⟩) ks.length c1, m2, m3, m4, m5, m6, m7] 130 (0, 0)) ∧ RowKit.Hid (Keep No wr w3)) := fun W hW => by
          refine (rValid_any args[k].kind args[k].num args[k].text hs W).mono ?_
          rintro e w3 ⟨rfl, hk3⟩
          have k3 := hW.trans hk3
          exact ⟨rfl, (k3.cell hb2 (o := f2 + k * 3) (fun x => x)).trans s0, (k3.cell hb1 (o := f1 + k) (fun x => x)).trans r0, k3.blk x2 (fun x => x), (Keep.refl No wr).drew.trans k3⟩
        have hsb : suitB ks[k] args[k] = (args[k].ok && decide (args[k].kind ≠ 0) && (decide (ks[k] = args[k].kind) || decide (ks[k] = 3))) := rfl
        have hyes : suitB ks[k] args[k] = true → suitTo ks args (k + 1) := fun h i h1 h2 hi => by
          by_cases e : i = k
          · subst e; exact h
          · exact HR.out.2 i h1 h2 (by omega)
        have hno : suitB ks[k] args[k] = false → suitsB ks args = false := fun h => suits_no hlk hlt h
        rw [hsb] at hyes hno
        have HS := Lib.hid (And.intro hlt (And.intro hyes hno))
        clear x2 kw hI hyes hno hb1 hb2 hsb hs r0
        generalize args[k].ok = g1 at *
        generalize args[k].kind = y1 at *
        generalize args[k].num = y2 at *
        generalize args[k].text = y3 at *
        generalize ks[k] = y0 at *
        clear hlt hlk hk hl63
        obtain ⟨bad, hbad⟩ : ∃ bad, bad = (!g1 || decide (y1 = 0) || (decide (y0 ≠ 3) && decide (y0 ≠ y1))) := ⟨_, rfl⟩
        have HK := Lib.hid (suit_bad g1 y0 y1 bad hbad)
        have HB := Lib.hid hbad
        clear hbad
        go_upto_region 6 with fail
        go_cut [52] (fun c wx => c = .bool bad ∧ RowKit.Hid (Keep No wr wx))
        case first =>
          cases g1 with
          | false =>
            refine wp_region_canw [0, 1, 2, 3, 4, 5, 6, 7, 8, 9, 10, 11, 12, 13, 14, 15, 16, 17, 18, 19, 20, 21, 22, 23, 24, 25, 26, 27, 28, 29, 30, 31, 32, 33, 34] [4] [] (by kernel_rfl) (by kernel_rfl) (by kernel_rfl) (by kernel_rfl) (by intro c a d v w h; cases d <;> exact h) ?_
            have hv5 := hv.out _ (Keep.refl No wr.drew)
            generalize wr.drew = w5 at *
            iterate 4 (refine canw_sil rfl rfl (fun K hK => ?_); go_simp; refine hK _ ?_; clear hK K)
            refine canw_loud [] rfl rfl rfl (fun K hK => ?_)
            go_wp2_with (go_at_call 110; refine hv5.mono ?_; clear hv5; rintro e w7 ⟨rfl, t1, t2, t3, HK7⟩; have t4 := blk_cell t3)
            refine Mid.normal (hK _ _ stabs_nil ?_)
            clear hK K s0 s1 s2
            iterate 30 (refine canw_sil rfl rfl (fun K hK => ?_); go_simp; refine hK _ ?_; clear hK K)
            refine canw_nil ?_
            go_wp2_with fail
            go_meet
            case rel => exact ⟨by rw [HB.out]; simp , HK7⟩
          | true =>
            by_cases hz : y1 = 0
            · subst hz
              refine wp_region_canw [0, 1, 2, 3, 4, 5, 6, 7, 8, 9, 10, 11, 12, 13, 14, 15, 16, 17, 18, 19, 20, 21, 22, 23, 24, 25, 26, 27, 28, 29, 30, 31, 32, 33, 34] [4] [] (by kernel_rfl) (by kernel_rfl) (by kernel_rfl) (by kernel_rfl) (by intro c a d v w h; cases d <;> exact h) ?_
              have hv5 := hv.out _ (Keep.refl No wr.drew)
              generalize wr.drew = w5 at *
              iterate 4 (refine canw_sil rfl rfl (fun K hK => ?_); go_simp; refine hK _ ?_; clear hK K)
              refine canw_loud [] rfl rfl rfl (fun K hK => ?_)
              go_wp2_with (go_at_call 110; refine hv5.mono ?_; clear hv5; rintro e w7 ⟨rfl, t1, t2, t3, HK7⟩; have t4 := blk_cell t3)
              refine Mid.normal (hK _ _ stabs_nil ?_)
              clear hK K s0 s1 s2
              iterate 30 (refine canw_sil rfl rfl (fun K hK => ?_); go_simp; refine hK _ ?_; clear hK K)
              refine canw_nil ?_
              go_wp2_with fail
              go_meet
              case rel => exact ⟨by rw [HB.out]; simp , HK7⟩
            · have hz' : (y1 == 0) = false := by simpa using hz
              have HZ := Lib.hid hz
              clear hz
              by_cases h3 : y0 = 3
              · subst h3
                refine wp_region_canw [0, 1, 2, 3, 4, 5, 6, 7, 8, 9, 10, 11, 12, 13, 14, 15, 16, 17, 18, 19, 20, 21, 22, 23, 24, 25, 26, 27, 28, 29, 30, 31, 32, 33, 34] [4] [] (by kernel_rfl) (by kernel_rfl) (by kernel_rfl) (by kernel_rfl) (by intro c a d v w h; cases d <;> exact h) ?_
                have hv5 := hv.out _ (Keep.refl No wr.drew)
                generalize wr.drew = w5 at *
                iterate 4 (refine canw_sil rfl rfl (fun K hK => ?_); go_simp; refine hK _ ?_; clear hK K)
                refine canw_loud [] rfl rfl rfl (fun K hK => ?_)
                go_wp2_with (go_at_call 110; refine hv5.mono ?_; clear hv5; rintro e w7 ⟨rfl, t1, t2, t3, HK7⟩; have t4 := blk_cell t3)
                refine Mid.normal (hK _ _ stabs_nil ?_)
                clear hK K s0 s1 s2
                iterate 30 (refine canw_sil rfl rfl (fun K hK => ?_); go_simp; refine hK _ ?_; clear hK K)
                refine canw_nil ?_
                go_wp2_with fail
                go_meet
                case rel => exact ⟨by rw [HB.out]; simp [HZ.out], HK7⟩
              · have h3' : (y0 != 3) = true := by simpa using h3
                have H3 := Lib.hid h3
                clear h3
                refine wp_region_canw [0, 1, 2, 3, 4, 5, 6, 7, 8, 9, 10, 11, 12, 13, 14, 15, 16, 17, 18, 19, 20, 21, 22, 23, 24, 25, 26, 27, 28, 29, 30, 31, 32, 33, 34] [4] [] (by kernel_rfl) (by kernel_rfl) (by kernel_rfl) (by kernel_rfl) (by intro c a d v w h; cases d <;> exact h) ?_
                have hv5 := hv.out _ (Keep.refl No wr.drew)
                generalize wr.drew = w5 at *
                iterate 4 (refine canw_sil rfl rfl (fun K hK => ?_); go_simp; refine hK _ ?_; clear hK K)
                refine canw_loud [] rfl rfl rfl (fun K hK => ?_)
                go_wp2_with (go_at_call 110; refine hv5.mono ?_; clear hv5; rintro e w7 ⟨rfl, t1, t2, t3, HK7⟩; have t4 := blk_cell t3)
                refine Mid.normal (hK _ _ stabs_nil ?_)
                clear hK K s0 s1 s2
                iterate 30 (refine canw_sil rfl rfl (fun K hK => ?_); go_simp; refine hK _ ?_; clear hK K)
                refine canw_nil ?_
                go_wp2_with fail
                go_meet
                case rel => exact ⟨by rw [HB.out]; simp [HZ.out, H3.out]; by_cases e : y0 = y1 <;> simp [e], HK7⟩
        case rest =>
          obtain ⟨rfl, HC⟩ := hcut
          cases bad with
          | true =>
            go_wp2_with fail
            go_ret
            exact ⟨by rw [HRES.out, HS.out.2.2 (HK.out.2 trivial)]; rfl, HX.out.1.trans (HR.out.1.trans HC.out)⟩
          | false =>
            go_wp2_with fail
            go_roundg (args.length - (k + 1))
            case measure => have := HS.out.1; omega
            case rel => exact ⟨k + 1, by have := HS.out.1; omega, rfl, by simp, HR.out.1.trans HC.out, HS.out.2.1 (by obtain ⟨e1, e2, e3⟩ := HK.out.1 trivial; simp [e1, e2, e3])⟩
      · obtain rfl : k = args.length := by omega
        have hy := suits_yes HX.out.2.2.1 HR.out.2
        have j1 : ¬ (args.length : Int) < args.length := by omega
        have HY := Lib.hid hy
        clear hy hlt hk
        go_wp2_with fail
        go_ret
        exact ⟨by rw [HRES.out, HY.out]; rfl, HX.out.1.trans HR.out.1⟩
  · have e0 : ((args.length : Int) != (ks.length : Int)) = true := by simp; exact_mod_cast hl
    have hno : suitsB ks args = false := by unfold suitsB; rw [decide_eq_false hl, Bool.false_and]
    have HX := Lib.hid (And.intro K1 hno)
    clear K1 x1 hl h1 h2 hno
    go_enter Tryz.func80, Tryz.ntmps80
    go_wp2_with fail
    go_ret
    exact ⟨by rw [HRES.out, HX.out.2]; rfl, HX.out.1⟩
end Go.Proofs.YtpjcebajkfeacaaGreatDoor
