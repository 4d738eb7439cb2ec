/-
  The document's Sum, of, four.
  The document's Seal, Open.
  A request's frame: the program's and the document's Seal.
-/
import Derived.Test.YtpjcebajkfeacaaGreatDoorGA
import Derived.Test.YtpjcebajkfeacaaGreatDoorGB
import Derived.Test.YtpjcebajkfeacaaGreatDoorGC
import Derived.Test.YtpjcebajkfeacaaGreatDoorGF
import Derived.Test.YtpjcebajkfeacaaGreatDoorGI
import Derived.Test.YtpjcebajkfeacaaGreatDoorGJ
import Derived.Test.YtpjcebajkfeacaaGreatDoorGK
import Derived.Test.YtpjcebajkfeacaaGreatDoorGQ
import Derived.Test.YtpjcebajkfeacaaGreatDoorGU
import Derived.Test.YtpjcebajkfeacaaGreatDoorGV
import Derived.Test.YtpjcebajkfeacaaGreatDoorHE
import Derived.Test.YtpjcebajkfeacaaGreatDoorHL
import Derived.Test.YtpjcebajkfeacaaGreatDoorHO
import Derived.Test.YtpjcebajkfeacaaGreatDoorHT
import Derived.Still
import Derived.StillTactics
import Derived.WalkKit
import Derived.Recover
import Derived.Defers
import Derived.Deep.QuietTactic
import Derived.BigQuiet
import Derived.Handy
import Derived.Laws.Bits64b
import Derived.Lib.Zigzag
import Derived.WalkSpells
import Derived.WalkLawsBesides
import Derived.ProofKit
import Derived.Deep.Slices
import Derived.Deep.AppendSrc
import Derived.Lib.Hide
import Derived.Lib.EndianBits
import Derived.OpenShut
import Derived.Deep.LoopGhost
import Derived.Deep.DeepCutAuto
import Derived.Lib.VarintBits
import Derived.OwnWalk
import Derived.Lib.Bytealg
import Derived.Laws.Externs
import Derived.Laws.CopyRow
import Derived.Laws.IdiomCopy
import Derived.Maps.OwnSet
import Derived.Maps.RangeWalk
import Derived.Shelf.SortM.Plain
import Derived.Shelf.SortM.SortNone
import Derived.Ground.SlgmProg
import Derived.Maps.OwnOps
import Derived.Lib.ItoaNum
import Derived.Lib.Join
import Derived.Deep.WholeRow
import Derived.Shelf.Strconv.Itoa4
import Derived.Shelf.Strings.BuilderK
import Derived.Shelf.Strings.OnBuilder
import Derived.Ground.NamesProg
import Derived.Lib.AppendIntMem
import Derived.Lib.UnsafeStr
import Derived.Maps.Views
namespace Go.Proofs.YtpjcebajkfeacaaGreatDoor
set_option linter.unusedVariables false
set_option linter.unusedSimpArgs false
open Go Go.RowKit Go.Deep

theorem and1_u32 (x : Int) (h0 : 0 ≤ x) (h1 : x < 4294967296) : bits BinOp.and IntKind.u32 x 1 = x % 2 := bits_mask .u32 32 (by decide) wraps_u32 1 (by decide) x h0 h1
theorem itC_range : ∀ (j : Nat) (x : Int), 0 ≤ x → x < 4294967296 → 0 ≤ itC j x ∧ itC j x < 4294967296
  | 0, x, h0, h1 => ⟨h0, h1⟩
  | j + 1, x, h0, h1 => by
    have h := itC_range j x h0 h1
    have e : itC (j + 1) x = stepC (itC j x) := rfl
    rw [e]
    generalize itC j x = z at *
    unfold stepC
    split
    · exact u32_range (Go.wf_bits _ _ _ _)
    · omega
theorem step_rem (z : Int) (h0 : 0 ≤ z) (h1 : z < 4294967296) : stepC z = if z.tmod 2 = 1 then bits BinOp.xor IntKind.u32 (z / 2) 3988292384 else z / 2 := by
  unfold stepC
  rw [and1_u32 z h0 h1, Int.tmod_eq_emod_of_nonneg h0]
set_option maxRecDepth 10000 in
set_option maxHeartbeats 1000000 in
theorem rSum_any (w : World) (S : Nat → Prop) (a : Option Addr) (n c : Nat) (l : Bytes) (h : Rd bytesSh w S [.slice a n c] l) : Calls Tryz.prog 150 #[.slice a n c] w fun e w' => e = .returned (.int .u32 (sumB l)) ∧ w' = w := by
  have HH := Lib.hid h
  clear h
  go_enter Tryz.func150, Tryz.ntmps150
  go_wp2_with fail
  go_loopg [3, 4] n (fun g s i wr => ∃ (k : Nat) (x : Int), k ≤ n ∧ g = n - k ∧ s = .int .u32 x ∧ i = .int .i64 k ∧ wr = w ∧ RowKit.Hid (x = sumC (l.take k)))
  case atStart => exact ⟨0, _, by omega, by omega, rfl, rfl, rfl, rfl⟩
  case round =>
    obtain ⟨k, x, hk, rfl, rfl, rfl, rfl, HX⟩ := hrel
    obtain ⟨a', c', hv, hle, hmax, hnil, hel⟩ := bytes_at HH.out
    simp only [Value.slice.injEq] at hv
    obtain ⟨rfl, hn, rfl⟩ := hv
    by_cases hlt : k < n
    · have j1 : (k : Int) < n := by omega
      have j0 : (0 : Int) ≤ k := by omega
      rw [maxLen_is] at hmax
      have j3 : (k : Int) ≤ 9223372036854775806 := by omega
      obtain ⟨b, off, h1, h2, h3, h4, h5, h6, h7⟩ := hel k (by omega)
      have hy := sumC_snoc l k (by omega)
      generalize l[k] = y at *
      have HS := Lib.hid (And.intro hlt hy)
      subst h1
      clear hel hnil hmax hle hy hlt hn h2 h3 h5
      go_wp2_with fail
      go_loopg [3, 5] 8 (fun g s i wq => ∃ (j : Nat) (z : Int), j ≤ 8 ∧ g = 8 - j ∧ s = .int .u32 z ∧ i = .int .i64 j ∧ wq = wr ∧ RowKit.Hid (z = itC j (bits BinOp.xor IntKind.u32 x y)))
      case atStart => exact ⟨0, _, by omega, by omega, rfl, rfl, rfl, rfl⟩
      case round =>
        obtain ⟨j, z, hj, rfl, rfl, rfl, rfl, HZ⟩ := hrel
        by_cases hjl : j < 8
        · have e1 : (j : Int) < 8 := by omega
          have e0 : (0 : Int) ≤ j := by omega
          have HJ := Lib.hid hjl
          clear hjl hj
          have hzr := itC_range j _ (u32_range (Go.wf_bits BinOp.xor IntKind.u32 x y)).1 (u32_range (Go.wf_bits BinOp.xor IntKind.u32 x y)).2
          rw [← HZ.out] at hzr
          have HR := Lib.hid hzr
          clear hzr
          by_cases hb : z.tmod 2 = 1
          · have hb' : (z.tmod 2 == 1) = true := by simpa using hb
            have HB := Lib.hid hb
            clear hb
            go_wp2_with fail
            go_roundg (8 - (j + 1))
            case measure => have := HJ.out; omega
            case rel => exact ⟨j + 1, _, by have := HJ.out; omega, rfl, rfl, by simp, rfl, by
              show _ = stepC (itC j _)
              rw [← HZ.out, step_rem z HR.out.1 HR.out.2, if_pos HB.out]⟩
          · have hb' : (z.tmod 2 == 1) = false := by simpa using hb
            have HB := Lib.hid hb
            clear hb
            go_wp2_with fail
            go_roundg (8 - (j + 1))
            case measure => have := HJ.out; omega
            case rel => exact ⟨j + 1, _, by have := HJ.out; omega, rfl, rfl, by simp, rfl, by
              show _ = stepC (itC j _)
              rw [← HZ.out, step_rem z HR.out.1 HR.out.2, if_neg HB.out]⟩
        · have e1 : ¬ (j : Int) < 8 := by omega
          obtain rfl : j = 8 := by omega
          clear hjl hj
          go_wp2_with fail
          go_roundg (n - (k + 1))
          case measure => have := HS.out.1; omega
          case rel => exact ⟨k + 1, _, HS.out.1, rfl, rfl, by simp, rfl, by rw [HS.out.2, ← HX.out]; exact HZ.out⟩
    · have j1 : ¬ (k : Int) < n := by omega
      have hkn : k = n := by omega
      have HK := Lib.hid (And.intro hkn hn)
      clear hkn hn hk hlt hel hnil hmax hle
      go_wp2_with fail
      go_ret
      refine ⟨?_, rfl⟩
      have := HX.out
      rw [HK.out.1, HK.out.2, List.take_length] at this
      rw [this]
      rfl
set_option maxRecDepth 10000 in
set_option maxHeartbeats 1000000 in
theorem rof_any (w : World) (S : Nat → Prop) (a : Option Addr) (n c : Nat) (l : Bytes) (h : Rd bytesSh w S [.slice a n c] l) (h4 : 4 ≤ n) : Calls Tryz.prog 151 #[.slice a n c] w (Looks w (.int .u32 (get4B l))) := by
  obtain ⟨a', c', hv, hle, hmax, hnil, hel⟩ := bytes_at h
  simp only [Value.slice.injEq] at hv
  obtain ⟨rfl, hn, rfl⟩ := hv
  obtain ⟨b, off, h1, -, -, q0, -, r0, r0'⟩ := hel 0 (by omega)
  obtain ⟨b1, off1, h11, -, -, q1, -, r1, r1'⟩ := hel 1 (by omega)
  obtain ⟨b2, off2, h12, -, -, q2, -, r2, r2'⟩ := hel 2 (by omega)
  obtain ⟨b3, off3, h13, -, -, q3, -, r3, r3'⟩ := hel 3 (by omega)
  rw [h1] at h11 h12 h13
  cases h11; cases h12; cases h13
  have hg : get4B l = l[0] + l[1] * 256 + l[2] * 65536 + l[3] * 16777216 := by
    unfold get4B
    simp [List.getD_eq_getElem?_getD, List.getElem?_eq_getElem, show 0 < l.length by omega, show 1 < l.length by omega, show 2 < l.length by omega, show 3 < l.length by omega]
  generalize l[0] = y0 at *
  generalize l[1] = y1 at *
  generalize l[2] = y2 at *
  generalize l[3] = y3 at *
  have HG := Lib.hid hg
  rw [Nat.add_zero] at q0
  subst h1
  have j0 : (0 : Int) < n := by omega
  have j1 : (1 : Int) < n := by omega
  have j2 : (2 : Int) < n := by omega
  have j3 : (3 : Int) < n := by omega
  clear hg hel hnil hmax hle hn h h4
  go_enter Tryz.func151, Tryz.ntmps151
  go_wp2
  go_quiet (fail)
  go_wp2
  go_ret
  refine ⟨nq, ?_, rfl⟩
  rw [HG.out, u32_or8 (y := y0) (x := y1 * 256) r0 r0' (by omega) (by omega) (by omega), u32_or16 (y := y0 + y1 * 256) (x := y2 * 65536) (by omega) (by omega) (by omega) (by omega) (by omega),
    u32_or24 (y := y0 + y1 * 256 + y2 * 65536) (x := y3 * 16777216) (by omega) (by omega) (by omega) (by omega) (by omega)]
  rfl

set_option maxRecDepth 10000 in
set_option maxHeartbeats 1000000 in
theorem rfour_any (w0 w : World) (v : Value) (l : Bytes) (h : OwnB w0 w v l) (hl : l.length + 4 ≤ 140737488355328) (n : Int) (h0 : 0 ≤ n) (h1 : n < 4294967296) : Calls Tryz.prog 149 #[v, .int .u32 n] w fun e w' => ∃ a c, e = .returned (.slice a (l.length + 4) c) ∧ RowKit.Hid (OwnB w0 w' (.slice a (l.length + 4) c) (l ++ put4B n)) := by
  obtain ⟨a0, c0, rfl, -⟩ := Own.form h.1
  obtain ⟨a, c, w', hrun, ho⟩ := app_four h n h0 h1 hl
  have HO := Lib.hid ho
  clear ho h
  go_enter Tryz.func149, Tryz.ntmps149
  go_wp2_with (at_builtin; refine wpList_app rfl (.tmp 5) (.tmp 17) 25 25 rfl rfl rfl hrun ?_)
  go_ret
  exact ⟨a, c, rfl, HO.out⟩
end Go.Proofs.YtpjcebajkfeacaaGreatDoor

namespace Go.Proofs.YtpjcebajkfeacaaGreatDoor
set_option linter.unusedVariables false
set_option linter.unusedSimpArgs false
open Go Go.RowKit Go.Deep

set_option maxRecDepth 10000 in
set_option maxHeartbeats 1000000 in
theorem rSeal_any (w : World) (S : Nat → Prop) (a : Option Addr) (n c : Nat) (l : Bytes) (h : Rd bytesSh w S [.slice a n c] l) (hn : l.length = n) :
    Calls Tryz.prog 88 #[.slice a n c] w (PutsC w (if 65536 < l.length then [] else sealB l) (if 65536 < l.length then 1 else 0)) := by
  by_cases hlt : 65536 < n
  · have j1 : (65536 : Int) < (n : Int) := by omega
    rw [if_pos (by omega), if_pos (by omega)]
    clear h hn hlt
    go_enter Tryz.func88, Tryz.ntmps88
    go_wp2_with fail
    go_ret2
    exact ⟨none, 0, 0, rfl, Own.nil _ _ _ _, Keep.refl _ _⟩
  · have j1 : (n : Int) ≤ 65536 := by omega
    have j0 : (0 : Int) ≤ (n : Int) := by omega
    rw [if_neg (by omega), if_neg (by omega)]
    have hp := (rfour_any w w (.slice none 0 0) [] ⟨Own.nil _ _ _ _, Keep.refl _ _⟩ (by simp) (n : Int) (by omega) (by omega)).mono (R' := fun e w2 => ∃ a1 c1, e = .returned (.slice a1 4 c1) ∧ ∃ a2 c2 w3, (Builtin.append_ #[25, 25] 25 #[.slice a1 4 c1, .slice a n c]).run Tryz.prog w2 = .ok (.slice a2 (4 + n) c2) w3 ∧ RowKit.Hid (OwnB w w3 (.slice a2 (4 + n) c2) (headB l))) (by
      rintro e w2 ⟨a1, c1, rfl, ho⟩
      obtain ⟨a2, c2, w3, hrun, ho3⟩ := app_slice ho.out (h.agree _ ho.out.2.agreeNo) (by simp [put4_length]; omega)
      simp only [List.nil_append, put4_length, hn] at hrun ho3
      refine ⟨a1, c1, rfl, a2, c2, w3, hrun, ?_⟩
      unfold headB
      rw [hn]
      exact ho3)
    have HN := Lib.hid (And.intro hn hlt)
    clear h hn hlt
    go_enter Tryz.func88, Tryz.ntmps88
    go_wp2_with (first | (go_at_call 149; refine hp.mono ?_; clear hp; rintro e w2 ⟨a1, c1, rfl, a2, c2, w3, hrun, HO⟩) | (at_builtin; refine wpList_app rfl (.tmp 11) (.tmp 12) 25 25 rfl rfl rfl hrun ?_))
    have hs := rSum_any w3 _ a2 (4 + n) c2 (headB l) HO.out.rd
    have hr := sumB_range (headB l)
    have hp := (rfour_any w w3 (.slice a2 (4 + n) c2) (headB l) HO.out (by have := HO.out.len; have := HN.out; omega) (sumB (headB l)) hr.1 hr.2).mono (R' := fun e w4 => ∃ a3 m3 c3, e = .returned (.slice a3 m3 c3) ∧ RowKit.Hid (OwnB w w4 (.slice a3 m3 c3) (sealB l))) (by
      rintro e w4 ⟨a3, c3, rfl, ho⟩
      exact ⟨a3, _, c3, rfl, ho.out⟩)
    have HP := Lib.hid hp
    clear hp hr hrun
    generalize sumB (headB l) = sm at *
    refine hs.mono ?_
    clear hs
    rintro e w20 ⟨rfl, rfl⟩
    have hp := HP.out
    go_wp2_with fail
    refine hp.mono ?_
    clear hp HP HO
    rintro e w4 ⟨a3, m3, c3, rfl, HO4⟩
    go_wp2_with fail
    go_ret2
    exact ⟨a3, m3, c3, rfl, HO4.out⟩
set_option maxRecDepth 10000 in
set_option maxHeartbeats 2000000 in
theorem rOpen_any (w : World) (S : Nat → Prop) (a : Option Addr) (n c : Nat) (l : Bytes) (h : Rd bytesSh w S [.slice a n c] l) (hn : l.length = n) :
    Calls Tryz.prog 90 #[.slice a n c] w (GivesOp w (openB l)) := by
  by_cases h4 : n < 4
  · have j1 : (n : Int) < 4 := by omega
    have e : openB l = ([], 0, 3) := by unfold openB; rw [if_pos (by omega)]
    rw [e]
    clear h hn h4 e
    go_enter Tryz.func90, Tryz.ntmps90
    go_wp2_with fail
    go_ret3
    exact ⟨none, 0, 0, rfl, ownB_nil (Keep.refl _ _)⟩
  · have j1 : ¬ (n : Int) < 4 := by omega
    have hg := rof_any w S a n c l h (by omega)
    have hgr := get4_range (bytes_all h)
    have hA := bytes_all h
    obtain ⟨g, hgg⟩ : ∃ g, get4B l = g := ⟨_, rfl⟩
    rw [hgg] at hg hgr
    by_cases h6 : 65536 < g
    · have e : openB l = ([], 0, 1) := by unfold openB; rw [if_neg (by omega), hgg, if_pos h6]
      rw [e]
      clear h hn h4 e hgg hA hgr
      go_enter Tryz.func90, Tryz.ntmps90
      go_wp2_with (go_at_call 151; refine hg.mono ?_; clear hg; rintro e w1 ⟨nq, rfl, rfl⟩)
      go_ret3
      exact ⟨none, 0, 0, rfl, ownB_nil ((Keep.refl _ _).drewN nq)⟩
    · obtain ⟨m, rfl⟩ : ∃ m : Nat, g = m := ⟨g.toNat, by omega⟩
      have j6 : ¬ (65536 : Int) < (m : Int) := h6
      have j7 : (m : Int) ≤ 65536 := by omega
      have j8 : (0 : Int) ≤ (m : Int) := by omega
      by_cases h8 : n < 4 + m + 4
      · have e : openB l = ([], 0, 3) := by unfold openB; rw [if_neg (by omega), hgg, if_neg h6, Int.toNat_natCast, if_pos (by omega)]
        rw [e]
        have j9 : (n : Int) < 4 + (m : Int) + 4 := by omega
        clear h hn h4 e hgg hA hgr h6 h8
        go_enter Tryz.func90, Tryz.ntmps90
        go_wp2_with (go_at_call 151; refine hg.mono ?_; clear hg; rintro e w1 ⟨nq, rfl, rfl⟩)
        go_ret3
        exact ⟨none, 0, 0, rfl, ownB_nil ((Keep.refl _ _).drewN nq)⟩
      · have j9 : ¬ (n : Int) < 4 + (m : Int) + 4 := by omega
        have hx : openB l = if sumB (l.take (4 + m)) ≠ get4B (l.drop (4 + m)) then ([], 0, 12) else ((l.take (4 + m)).drop 4, 4 + m + 4, 0) := by
          unfold openB; rw [if_neg (by omega), hgg, if_neg h6, Int.toNat_natCast, if_neg (by omega)]
        obtain ⟨a', c', hv, hle, hmax, hnil, hel⟩ := bytes_at h
        simp only [Value.slice.injEq] at hv
        obtain ⟨rfl, -, rfl⟩ := hv
        obtain ⟨b, off, rfl, -⟩ := hel 0 (by omega)
        have j10 : (n : Int) ≤ (c : Int) := by omega
        rw [maxLen_is] at hmax
        obtain ⟨e, he⟩ : ∃ e : Nat, 4 + m = e := ⟨_, rfl⟩
        have he' : (4 : Int) + (m : Int) = (e : Int) := by omega
        rw [he] at hx
        have HR := Lib.hid (And.intro h (And.intro hn (And.intro hx (And.intro (show e + 4 ≤ n by omega) (show 4 ≤ e by omega)))))
        have HC := Lib.hid (And.intro hle hmax)
        have HE := Lib.hid he'
        have k1 : (0 : Int) ≤ (e : Int) := by omega
        have k2 : (e : Int) ≤ (c : Int) := by omega
        have k3 : (e : Int) ≤ (n : Int) := by omega
        have k4 : (4 : Int) ≤ (e : Int) := by omega
        have k5 : (e : Int) ≤ 65540 := by omega
        have k6 : ¬ c = e := by omega
        have k7 : ¬ c = 4 := by omega
        clear h hn h4 hx hgg hA hgr h6 h8 hle hmax hnil hel he he' j10
        go_enter Tryz.func90, Tryz.ntmps90
        go_upto_region 9 with (go_at_call 151; refine hg.mono ?_; clear hg; rintro e w1 ⟨nq, rfl, rfl⟩)
        rw [HE.out]
        clear j1 j6 j7 j8 j9
        refine wp_region_canw [0, 1, 2, 4, 5, 6, 3, 7, 8] [3, 7] [(4, 3), (5, 3), (6, 3)] (by kernel_rfl) (by kernel_rfl) (by kernel_rfl) (by kernel_rfl) (by intro c a d v w h; cases d <;> exact h) ?_
        generalize hw9 : (w.drewN nq).drew = w9 at *
        have K9 : Keep No w w9 := by rw [← hw9]; exact ((Keep.refl No w).drewN nq).drew
        have HK9 := Lib.hid K9
        clear hw9 K9
        have hs := rSum_any w9 _ _ e c (l.take e) (rd_take (HR.out.1.agree _ HK9.out.agreeNo) e (by have := HR.out; omega))
        have hg2 := rof_any w9 _ _ (n - e) (c - e) (l.drop e) (rdb_drop (HR.out.1.agree _ HK9.out.agreeNo) e (by have := HR.out; omega)) (by have := HR.out.2.2.2.1; omega)
        obtain ⟨sm, hsm⟩ : ∃ sm, sumB (l.take e) = sm := ⟨_, rfl⟩
        obtain ⟨g2, hg2'⟩ : ∃ g2, get4B (l.drop e) = g2 := ⟨_, rfl⟩
        have hx := HR.out.2.2.1
        rw [hsm] at hs hx
        rw [hg2'] at hg2 hx
        have HX := Lib.hid hx
        clear hsm hg2' hx
        iterate 6 (refine canw_sil rfl rfl (fun K hK => ?_); go_simp; refine hK _ ?_; clear hK K)
        refine canw_loud [4, 5, 6] rfl rfl rfl (fun K hK => ?_)
        go_wp2_with (go_at_call 150; refine (hs.mono (R' := fun e1 w1 => e1 = .returned (.int .u32 sm) ∧ w9 = w1) (by rintro _ _ ⟨rfl, rfl⟩; exact ⟨rfl, rfl⟩)).mono ?_; clear hs; rintro e1 w10 ⟨rfl, rfl⟩)
        refine Mid.normal (hK _ _ ?_ ?_)
        · simp only [List.forall_mem_cons]
          refine ⟨?_, ?_, ?_, stabs_nil⟩ <;> exact stab_of rfl (fun K hK => by go_simp; exact hK)
        clear hK K
        refine canw_loud [] rfl rfl rfl (fun K hK => ?_)
        go_wp2_with (go_at_call 151; refine hg2.mono ?_; clear hg2; rintro e1 w10 ⟨nr, rfl, rfl⟩)
        refine Mid.normal (hK _ _ stabs_nil ?_)
        clear hK K
        have K10 := Lib.hid (HK9.out.drewN nr)
        generalize w9.drewN nr = w10 at *
        by_cases hq : sm = g2
        · have hq' : (sm != g2) = false := by simp [hq]
          obtain ⟨a1, c1, w11, hrun, ho⟩ := clone_bytesApp w10 _ _ ((l.take e).drop 4) (rdb_drop (rd_take (HR.out.1.agree _ K10.out.agreeNo) e (by have := HR.out; omega)) 4 (by have := HR.out; simp; omega)) (by have := HC.out; have := HR.out; simp; omega)
          have HO := Lib.hid (OwnB.then ho K10.out)
          clear ho
          obtain ⟨n1, hn1⟩ : ∃ n1, ((l.take e).drop 4).length = n1 := ⟨_, rfl⟩
          rw [hn1] at hrun HO
          clear hn1
          have HQ := Lib.hid hq
          clear hq
          iterate 1 (refine canw_sil rfl rfl (fun K hK => ?_); go_simp; refine hK _ ?_; clear hK K)
          refine canw_nil ?_
          go_wp2_with (at_builtin; refine wpList_app rfl (.tmp 31) (.tmp 34) 25 25 rfl rfl rfl hrun ?_)
          go_ret3
          rw [HX.out, if_neg (by simp [HQ.out])]
          refine ⟨a1, n1, c1, ?_, HO.out⟩
          simp
        · have hq' : (sm != g2) = true := by simp [hq]
          have HQ := Lib.hid hq
          clear hq
          iterate 1 (refine canw_sil rfl rfl (fun K hK => ?_); go_simp; refine hK _ ?_; clear hK K)
          refine canw_nil ?_
          go_wp2_with fail
          go_ret3
          rw [HX.out, if_pos HQ.out]
          exact ⟨none, 0, 0, rfl, ownB_nil K10.out⟩
end Go.Proofs.YtpjcebajkfeacaaGreatDoor

namespace Go.Proofs.YtpjcebajkfeacaaGreatDoor
set_option linter.unusedVariables false
set_option linter.unusedSimpArgs false
open Go Go.RowKit Go.Deep

/-- a request's frame, if it is right -/
def Req.sealed (q : Req) : Bytes := if q.check = 0 then sealB q.bytes else []

set_option maxRecDepth 10000 in
set_option maxHeartbeats 1000000 in
theorem rqSeal_any (w : World) (S : Nat → Prop) (cs : List Value) (q : Req) (h : Rd requestSh w S cs q) (hn : q.name.size ≤ 9223372036854775806) :
    Calls Tryz.prog 36 #[.agg cs.toArray] w (PutsC w q.sealed q.check) := by
  obtain ⟨aa, ca, rfl, h4, w1, w2, w3⟩ := req_cells h
  have K1 : Keep No w (w.alloc (.cells #[.int .i64 q.client, .int .u64 q.token, .string q.name, .slice aa q.args.length ca] 29)) := (Keep.refl No w).alloc _
  have hp := (rqPut_any _ S No (.slice none 0 0) [] (rd_nil _ _ _) (by simp) _ q (h.agree _ K1.agreeNo) hn).mono (R' := fun e w3 => ∃ a n c, e = .returned (.tuple #[.slice a n c, .int .i64 q.check]) ∧ RowKit.Hid (OwnB w w3 (.slice a n c) (if q.check = 0 then q.bytes else []))) (by
    rintro e w3 ⟨a, n, c, rfl, ho⟩
    rw [List.nil_append] at ho
    exact ⟨a, n, c, rfl, ho.then K1⟩)
  clear h h4 w1 w2 w3 K1
  by_cases hc : q.check = 0
  · have hl := Req.bytes_length hc
    rw [hc, if_pos rfl] at hp
    have e : q.sealed = sealB q.bytes := by unfold Req.sealed; rw [if_pos hc]
    rw [e, hc]
    have HL := Lib.hid hl
    clear hc hl e
    go_enter Tryz.func36, Tryz.ntmps36
    go_wp2_with fail
    refine hp.mono ?_
    clear hp
    rintro e w3 ⟨a, n, c, rfl, HO⟩
    have hs := (Seal_any w3 _ a n c q.bytes HO.out.rd HO.out.len.symm).mono (R' := fun e w4 => ∃ a4 n4 c4, e = .returned (.tuple #[.slice a4 n4 c4, .int .i64 0]) ∧ RowKit.Hid (OwnB w w4 (.slice a4 n4 c4) (sealB q.bytes))) (by
      rw [if_neg (by have := HL.out; omega), if_neg (by have := HL.out; omega)]
      rintro e w4 ⟨a4, n4, c4, rfl, ho⟩
      exact ⟨a4, n4, c4, rfl, ho.then HO.out.2⟩)
    go_wp2_with fail
    refine hs.mono ?_
    clear hs HO
    rintro e w4 ⟨a4, n4, c4, rfl, HO4⟩
    go_wp2_with fail
    go_ret2
    exact ⟨a4, n4, c4, rfl, HO4.out⟩
  · have e : q.sealed = [] := by unfold Req.sealed; rw [if_neg hc]
    rw [e]
    rw [if_neg hc] at hp
    generalize q.check = ch at *
    have hc' : (ch != 0) = true := by simpa using hc
    clear hc e
    go_enter Tryz.func36, Tryz.ntmps36
    go_wp2_with fail
    refine hp.mono ?_
    clear hp
    rintro e w3 ⟨a, n, c, rfl, HO⟩
    go_wp2_with fail
    go_ret2
    exact ⟨none, 0, 0, rfl, ownB_nil HO.out.2⟩
set_option maxRecDepth 10000 in
set_option maxHeartbeats 1000000 in
theorem rrqSeal_any (w : World) (S : Nat → Prop) (cs : List Value) (q : Req) (h : Rd requestSh w S cs q) (hn : q.name.size ≤ 9223372036854775806) :
    Calls Tryz.prog 37 #[.agg cs.toArray] w (PutsC w q.sealed q.check) := by
  obtain ⟨aa, ca, rfl, h4, w1, w2, w3⟩ := req_cells h
  have K1 : Keep No w (w.alloc (.cells #[.int .i64 q.client, .int .u64 q.token, .string q.name, .slice aa q.args.length ca] 29)) := (Keep.refl No w).alloc _
  have hp := (rrqPut_any _ S No (.slice none 0 0) [] (rd_nil _ _ _) (by simp) _ q (h.agree _ K1.agreeNo) hn).mono (R' := fun e w3 => ∃ a n c, e = .returned (.tuple #[.slice a n c, .int .i64 q.check]) ∧ RowKit.Hid (OwnB w w3 (.slice a n c) (if q.check = 0 then q.bytes else []))) (by
    rintro e w3 ⟨a, n, c, rfl, ho⟩
    rw [List.nil_append] at ho
    exact ⟨a, n, c, rfl, ho.then K1⟩)
  clear h h4 w1 w2 w3 K1
  by_cases hc : q.check = 0
  · have hl := Req.bytes_length hc
    rw [hc, if_pos rfl] at hp
    have e : q.sealed = sealB q.bytes := by unfold Req.sealed; rw [if_pos hc]
    rw [e, hc]
    have HL := Lib.hid hl
    clear hc hl e
    go_enter Tryz.func37, Tryz.ntmps37
    go_wp2_with fail
    refine hp.mono ?_
    clear hp
    rintro e w3 ⟨a, n, c, rfl, HO⟩
    have hs := (rSeal_any w3 _ a n c q.bytes HO.out.rd HO.out.len.symm).mono (R' := fun e w4 => ∃ a4 n4 c4, e = .returned (.tuple #[.slice a4 n4 c4, .int .i64 0]) ∧ RowKit.Hid (OwnB w w4 (.slice a4 n4 c4) (sealB q.bytes))) (by
      rw [if_neg (by have := HL.out; omega), if_neg (by have := HL.out; omega)]
      rintro e w4 ⟨a4, n4, c4, rfl, ho⟩
      exact ⟨a4, n4, c4, rfl, ho.then HO.out.2⟩)
    go_wp2_with fail
    refine hs.mono ?_
    clear hs HO
    rintro e w4 ⟨a4, n4, c4, rfl, HO4⟩
    go_wp2_with fail
    go_ret2
    exact ⟨a4, n4, c4, rfl, HO4.out⟩
  · have e : q.sealed = [] := by unfold Req.sealed; rw [if_neg hc]
    rw [e]
    rw [if_neg hc] at hp
    generalize q.check = ch at *
    have hc' : (ch != 0) = true := by simpa using hc
    clear hc e
    go_enter Tryz.func37, Tryz.ntmps37
    go_wp2_with fail
    refine hp.mono ?_
    clear hp
    rintro e w3 ⟨a, n, c, rfl, HO⟩
    go_wp2_with fail
    go_ret2
    exact ⟨none, 0, 0, rfl, ownB_nil HO.out.2⟩
end Go.Proofs.YtpjcebajkfeacaaGreatDoor
