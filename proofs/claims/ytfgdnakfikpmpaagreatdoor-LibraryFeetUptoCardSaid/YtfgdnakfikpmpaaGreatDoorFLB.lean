/-
  Parts of what is proved for this claim; each declaration is one of the seat's texts.
-/
import Derived.Test.YtfgdnakfikpmpaaGreatDoorFPH
import Derived.Test.YtfgdnakfikpmpaaGreatDoorFKC
import Derived.Test.YtfgdnakfikpmpaaGreatDoorFLA
import Derived.Deep.CutBlock
set_option linter.unusedVariables false
set_option linter.unusedSimpArgs false
namespace Go.Proofs.YtfgdnakfikpmpaaGreatDoor
open Go Go.RowKit Go.Deep
def blankB (c : Int) : Bool := decide (c = 32) || decide (c = 9)
theorem asBlank_any (c : Int) (w : World) : Calls Tryz.prog 228 #[.int .u8 c] w fun e w' => e = .returned (.bool (blankB c)) ∧ w' = w := by
  unfold blankB
  by_cases h1 : c = 32
  · subst h1
    go_enter Tryz.func228, Tryz.ntmps228
    go_wp2
    go_ret
    exact ⟨rfl, rfl⟩
  · have b1 : (c == 32) = false := by simpa using h1
    by_cases h2 : c = 9
    · subst h2
      go_enter Tryz.func228, Tryz.ntmps228
      go_wp2
      go_ret
      exact ⟨rfl, rfl⟩
    · have b2 : (c == 9) = false := by simpa using h2
      go_enter Tryz.func228, Tryz.ntmps228
      go_wp2
      go_ret
      simp [h1, h2]
set_option maxRecDepth 10000 in
set_option maxHeartbeats 4000000 in
theorem asQuoted_any (s : ByteArray) (at' : Nat) (h : at' < s.size) (hs : s.size ≤ 1048576) (w : World) : Calls Tryz.prog 229 #[.string s, .int .i64 at'] w fun e w' => e = .returned (.int .i64 (quoE s at')) ∧ w' = w := by
  have i20 : (s.size : Int) ≤ 1048576 := by omega
  have HS := Lib.hid (And.intro h hs)
  have hq : quoE s at' = quoF s (s.size - (at' + 1)) (at' + 1) 0 := rfl
  rw [hq]
  have a0 : (0 : Int) ≤ at' := by omega
  have a1 : (at' : Int) < 1048576 := by omega
  clear hq h hs
  go_enter Tryz.func229, Tryz.ntmps229
  go_wp2_with fail
  go_loopg [5, 6] (s.size - (at' + 1)) (fun g v i wr => ∃ k n : Nat, k ≤ s.size ∧ n ≤ k ∧ g = s.size - k ∧ v = .int .i64 n ∧ i = .int .i64 k ∧ wr = w ∧ RowKit.Hid (quoF s (s.size - (at' + 1)) (at' + 1) 0 = quoF s (s.size - k) k n))
  case atStart => exact ⟨at' + 1, 0, by have := HS.out; omega, by omega, rfl, rfl, by simp, rfl, rfl⟩
  case round =>
    obtain ⟨k, n, hk, hn, rfl, rfl, rfl, rfl, HQ⟩ := hrel
    by_cases hlt : k < s.size
    · have j1 : (k : Int) < s.size := by omega
      have j0 : (0 : Int) ≤ k := by omega
      have n0 : (0 : Int) ≤ n := by omega
      have n1 : (n : Int) ≤ 1048576 := by omega
      have hst := quoF_step (n := n) hlt
      rw [byA_get hlt] at hst
      have HK := Lib.hid (And.intro hk (And.intro hn hlt))
      by_cases hc : ((s[k]'hlt).toNat : Int) = 34
      · have b1 : (((s[k]'hlt).toNat : Int) == 34) = true := by simpa using hc
        have b3 : (((s[k]'hlt).toNat : Int) == 92) = false := by rw [hc]; rfl
        by_cases hm : n % 2 = 0
        · have b2 : (n : Int).tmod 2 = 0 := by rw [Int.tmod_eq_emod_of_nonneg n0]; omega
          rw [if_pos ⟨hc, hm⟩] at hst
          have HT := Lib.hid (HQ.out.trans hst)
          clear hst hc hm hk hn HQ
          go_wp2_with fail
          go_ret
          rw [HT.out]
          exact ⟨by simp, rfl⟩
        · have b2 : (n : Int).tmod 2 = 1 := by rw [Int.tmod_eq_emod_of_nonneg n0]; omega
          rw [if_neg (fun h => hm h.2), if_neg (by rw [hc]; decide)] at hst
          have HT := Lib.hid hst
          clear hst hc hm hk hn
          go_wp2_with fail
          go_roundg (s.size - (k + 1))
          case measure => have := HK.out; omega
          case rel => exact ⟨k + 1, 0, by have := HK.out; omega, by omega, rfl, rfl, by simp, rfl, HQ.out.trans HT.out⟩
      · have b1 : (((s[k]'hlt).toNat : Int) == 34) = false := by simpa using hc
        rw [if_neg (fun h => hc h.1)] at hst
        by_cases h9 : ((s[k]'hlt).toNat : Int) = 92
        · have b3 : (((s[k]'hlt).toNat : Int) == 92) = true := by simpa using h9
          rw [if_pos h9] at hst
          have HT := Lib.hid hst
          clear hst hc h9 hk hn
          go_wp2_with fail
          go_roundg (s.size - (k + 1))
          case measure => have := HK.out; omega
          case rel => exact ⟨k + 1, n + 1, by have := HK.out; omega, by have := HK.out; omega, rfl, by simp, by simp, rfl, HQ.out.trans HT.out⟩
        · have b3 : (((s[k]'hlt).toNat : Int) == 92) = false := by simpa using h9
          rw [if_neg h9] at hst
          have HT := Lib.hid hst
          clear hst hc h9 hk hn
          go_wp2_with fail
          go_roundg (s.size - (k + 1))
          case measure => have := HK.out; omega
          case rel => exact ⟨k + 1, 0, by have := HK.out; omega, by omega, rfl, rfl, by simp, rfl, HQ.out.trans HT.out⟩
    · obtain rfl : k = s.size := by omega
      have j1 : ¬ (s.size : Int) < s.size := by omega
      have HT := Lib.hid (HQ.out.trans (quoF_end (Nat.le_refl _)))
      go_wp2_with fail
      go_ret
      rw [HT.out]
      exact ⟨rfl, rfl⟩
theorem cleanB_get {s : ByteArray} (h : cleanB s = true) (k : Nat) (hk : k < s.size) : (s[k].toNat : Int) = 9 ∨ 32 ≤ (s[k].toNat : Int) ∧ (s[k].toNat : Int) ≤ 126 := by
  unfold cleanB at h
  rw [List.all_eq_true] at h
  have hl : k < (bytesOf s).length := by rw [bytesOf_length]; exact hk
  have := h _ (List.getElem_mem hl)
  rw [bytesOf_get s k hl hk] at this
  simpa using this
theorem cleanB_of {s : ByteArray} (h : ∀ k (hk : k < s.size), (s[k].toNat : Int) = 9 ∨ 32 ≤ (s[k].toNat : Int) ∧ (s[k].toNat : Int) ≤ 126) : cleanB s = true := by
  unfold cleanB
  rw [List.all_eq_true]
  intro c hc
  obtain ⟨k, hk, rfl⟩ := List.getElem_of_mem hc
  have hl : k < s.size := by rw [bytesOf_length] at hk; exact hk
  have := h k hl
  rw [bytesOf_get s k hk hl]
  simpa using this
set_option maxRecDepth 10000 in
set_option maxHeartbeats 4000000 in
theorem asClean_any (s : ByteArray) (hs : s.size ≤ 1048576) (w : World) : Calls Tryz.prog 189 #[.string s] w fun e w' => e = .returned (.bool (cleanB s)) ∧ w' = w := by
  have i20 : (s.size : Int) ≤ 1048576 := by omega
  clear hs
  go_enter Tryz.func189, Tryz.ntmps189
  go_wp2_with fail
  go_loopg [6] s.size (fun g i wr => ∃ k : Nat, k ≤ s.size ∧ g = s.size - k ∧ i = .int .i64 k ∧ wr = w ∧ RowKit.Hid (∀ j (hj : j < s.size), j < k → (s[j].toNat : Int) = 9 ∨ 32 ≤ (s[j].toNat : Int) ∧ (s[j].toNat : Int) ≤ 126))
  case atStart => exact ⟨0, by omega, by omega, rfl, rfl, fun _ _ h => absurd h (Nat.not_lt_zero _)⟩
  case round =>
    obtain ⟨k, hk, rfl, rfl, rfl, HN⟩ := hrel
    by_cases hlt : k < s.size
    · have j1 : (k : Int) < s.size := by omega
      have j0 : (0 : Int) ≤ k := by omega
      have HK := Lib.hid hk
      have hbad := fun h : ¬ ((s[k].toNat : Int) = 9 ∨ 32 ≤ (s[k].toNat : Int) ∧ (s[k].toNat : Int) ≤ 126) => Bool.eq_false_iff.2 (fun e => h (cleanB_get e k hlt))
      have hgood := fun h : ((s[k].toNat : Int) = 9 ∨ 32 ≤ (s[k].toNat : Int) ∧ (s[k].toNat : Int) ≤ 126) => show ∀ j (hj : j < s.size), j < k + 1 → (s[j].toNat : Int) = 9 ∨ 32 ≤ (s[j].toNat : Int) ∧ (s[j].toNat : Int) ≤ 126 from fun j hj h1 => by
        by_cases h2 : j < k
        · exact HN.out j hj h2
        · obtain rfl : j = k := by omega
          exact h
      by_cases h9 : (s[k].toNat : Int) = 9
      · have b1 : ((s[k].toNat : Int) != 9) = false := by simpa using h9
        have HG := Lib.hid (hgood (.inl h9))
        clear hbad hgood h9 hk
        go_wp2_with fail
        go_roundg (s.size - (k + 1))
        case measure => omega
        case rel => exact ⟨k + 1, by omega, rfl, by simp, rfl, HG.out⟩
      · have b1 : ((s[k].toNat : Int) != 9) = true := by simpa using h9
        by_cases h32 : (s[k].toNat : Int) < 32
        · have HF := Lib.hid (hbad (by omega))
          clear hbad hgood h9 hk
          go_wp2_with fail
          go_ret
          rw [HF.out]
          exact ⟨rfl, rfl⟩
        · by_cases h126 : (126 : Int) < (s[k].toNat : Int)
          · have HF := Lib.hid (hbad (by omega))
            clear hbad hgood h9 hk
            go_wp2_with fail
            go_ret
            rw [HF.out]
            exact ⟨rfl, rfl⟩
          · have HG := Lib.hid (hgood (by omega))
            clear hbad hgood h9 hk
            go_wp2_with fail
            go_roundg (s.size - (k + 1))
            case measure => omega
            case rel => exact ⟨k + 1, by omega, rfl, by simp, rfl, HG.out⟩
    · obtain rfl : k = s.size := by omega
      have j1 : ¬ (s.size : Int) < s.size := by omega
      have HG := Lib.hid (cleanB_of (fun j hj => HN.out j hj hj))
      go_wp2_with fail
      go_ret
      rw [HG.out]
      exact ⟨rfl, rfl⟩
set_option maxRecDepth 10000 in
set_option maxHeartbeats 4000000 in
theorem asName_any (s : ByteArray) (hs : s.size ≤ 9223372036854775806) (w : World) : Calls Tryz.prog 231 #[.string s] w fun e w' => e = .returned (.bool (nameOk s)) ∧ w' = w := by
  have hbl := bytesOf_length s
  go_enter Tryz.func231, Tryz.ntmps231
  go_wp2_with fail
  go_loopg [7] s.size (fun g i wr => ∃ k : Nat, k ≤ s.size ∧ g = s.size - k ∧ i = .int .i64 k ∧ wr = w ∧ RowKit.Hid (nameTo s k))
  case atStart => exact ⟨0, by omega, by omega, rfl, rfl, fun _ _ h => absurd h (Nat.not_lt_zero _)⟩
  case round =>
    obtain ⟨k, hk, rfl, rfl, rfl, HN⟩ := hrel
    by_cases hlt : k < s.size
    · have j1 : (k : Int) < s.size := by omega
      have j0 : (0 : Int) ≤ k := by omega
      have j3 : (k : Int) ≤ 9223372036854775805 := by omega
      have hl : k < (bytesOf s).length := by omega
      have hg := bytesOf_get s k hl hlt
      have hr := bytesOf_allB s _ (List.getElem_mem hl)
      have hyes := fun h => nameTo_succ HN.out hl h
      have hno := fun h => nameOk_bad s k hl h
      rw [hg] at hr hyes hno
      generalize hc : (s[k].toNat : Int) = c at hr hyes hno
      have HS := Lib.hid (And.intro hk (And.intro hlt (And.intro hyes hno)))
      have HC := Lib.hid hc
      clear hg hl hs hyes hno hbl hk
      obtain ⟨bad, hbad⟩ : ∃ bad : Bool, bad = nameBad k c := ⟨_, rfl⟩
      have HBD := Lib.hid hbad
      clear hbad
      go_upto_region 5 with fail
      go_cut [35] (fun c wx => c = .bool bad ∧ wx = wr)
      case first =>
        by_cases hz : k = 0
        · subst hz
          have e0 : ((0 : Nat) : Int) = 0 := rfl
          rw [e0]
          go_wp2_with fail
          all_goals
            go_meet
            case rel => exact ⟨by rw [HBD.out]; congr 1; rw [Bool.eq_iff_iff]; simp [nameBad] <;> omega, rfl⟩
        · have hz' : (0 : Int) < k := by omega
          have HZ := Lib.hid hz
          clear hz
          by_cases h95 : c = 95
          · subst h95
            go_wp2_with fail
            all_goals
              go_meet
              case rel => exact ⟨by rw [HBD.out]; have := HZ.out; congr 1; rw [Bool.eq_iff_iff]; simp [nameBad] <;> omega, rfl⟩
          · have h95' : (c == 95) = false := by simpa using h95
            have H95 := Lib.hid h95
            clear h95
            go_wp2_with fail
            all_goals
              go_meet
              case rel => exact ⟨by rw [HBD.out]; have := HZ.out; have := H95.out; congr 1; rw [Bool.eq_iff_iff]; simp [nameBad] <;> omega, rfl⟩
      case rest =>
        obtain ⟨rfl, rfl⟩ := hcut
        cases bad with
        | true =>
          go_wp2_with fail
          go_ret
          have := HS.out.2.2.2 HBD.out.symm
          rw [this]
          exact ⟨rfl, by first | rfl | trivial⟩
        | false =>
          go_wp2_with fail
          go_roundg (s.size - (k + 1))
          case measure => have := HS.out.2.1; omega
          case rel => exact ⟨k + 1, by have := HS.out.2.1; omega, rfl, by simp, by first | rfl | trivial, HS.out.2.2.1 HBD.out.symm⟩
    · have hke : k = s.size := by omega
      have j1 : ¬ (k : Int) < s.size := by omega
      have hres := nameOk_good s (by rw [hbl, ← hke]; exact HN.out)
      by_cases h1 : 1 ≤ s.size
      · by_cases h16 : s.size ≤ 16
        · have e : nameOk s = true := by rw [hres, decide_eq_true h1, decide_eq_true h16]; rfl
          have HE := Lib.hid e
          have i1 : (1 : Int) ≤ s.size := by omega
          have i2 : (s.size : Int) ≤ 16 := by omega
          clear e hres hbl hlt hk hke h1 h16
          go_wp2_with fail
          go_ret
          rw [HE.out]
          exact ⟨rfl, by first | rfl | trivial⟩
        · have e : nameOk s = false := by rw [hres, decide_eq_false h16, Bool.and_false]
          have HE := Lib.hid e
          have i1 : (1 : Int) ≤ s.size := by omega
          have i2 : ¬ (s.size : Int) ≤ 16 := by omega
          clear e hres hbl hlt hk hke h1 h16
          go_wp2_with fail
          go_ret
          rw [HE.out]
          exact ⟨rfl, by first | rfl | trivial⟩
      · have e : nameOk s = false := by rw [hres, decide_eq_false h1, Bool.false_and]
        have HE := Lib.hid e
        have i1 : ¬ (1 : Int) ≤ s.size := by omega
        clear e hres hbl hlt hk hke h1
        go_wp2_with fail
        go_ret
        rw [HE.out]
        exact ⟨rfl, by first | rfl | trivial⟩
end Go.Proofs.YtfgdnakfikpmpaaGreatDoor
namespace Go.Proofs.YtfgdnakfikpmpaaGreatDoor
open Go Go.RowKit Go.Deep
def GivesL (w : World) (l : List ByteArray) (e : Ending) (w' : World) : Prop := ∃ a c, e = .returned (.slice a l.length c) ∧ OwnL w.heap.size w' (.slice a l.length c) l ∧ Keep No w w'
set_option maxRecDepth 10000 in
set_option maxHeartbeats 4000000 in
theorem asTokens_any (s : ByteArray) (hs : s.size ≤ 1048576) (w : World) : Calls Tryz.prog 190 #[.string s] w (GivesL w (toks s)) := by
  have i20 : (s.size : Int) ≤ 1048576 := by omega
  have HS := Lib.hid hs
  clear hs
  go_enter Tryz.func190, Tryz.ntmps190
  go_wp2_with fail
  go_loopg [3, 4] s.size (fun g sv i wr => ∃ (k : Nat) (v : Value) (out : List ByteArray), k ≤ s.size ∧ g = s.size - k ∧ sv = v ∧ i = .int .i64 k ∧ RowKit.Hid (toks s = out ++ toksA s k ∧ out.length ≤ k ∧ OwnL w.heap.size wr v out ∧ Keep No w wr))
  case atStart => exact ⟨0, _, [], by omega, by omega, rfl, rfl, rfl, Nat.le_refl _, Own.nil _ _ _ _, Keep.refl No w⟩
  case round =>
    obtain ⟨k, v, out, hk, rfl, rfl, rfl, HR⟩ := hrel
    obtain ⟨av, cv, hv, -⟩ := Own.form HR.out.2.2.1
    subst hv
    by_cases hlt : k < s.size
    · have j1 : (k : Int) < s.size := by omega
      have j0 : (0 : Int) ≤ k := by omega
      have hb := byA_get hlt
      by_cases h59 : ((s[k]'hlt).toNat : Int) = 59
      · have b1 : (((s[k]'hlt).toNat : Int) != 59) = false := by rw [h59]; rfl
        have HT := Lib.hid (show toks s = out by
          have := HR.out.1
          rwa [toksA_end (.inr (hb.trans h59)), List.append_nil] at this)
        clear hb h59
        go_wp2_with fail
        go_ret
        rw [HT.out]
        exact ⟨_, _, rfl, HR.out.2.2⟩
      · have b1 : (((s[k]'hlt).toNat : Int) != 59) = true := by simpa using h59
        have hbl := asBlank_any ((s[k]'hlt).toNat : Int) wr
        by_cases hbk : ((s[k]'hlt).toNat : Int) = 32 ∨ ((s[k]'hlt).toNat : Int) = 9
        · have e : blankB ((s[k]'hlt).toNat : Int) = true := by unfold blankB; simp; exact hbk
          rw [e] at hbl
          have HT := Lib.hid (show toks s = out ++ toksA s (k + 1) by
            have := HR.out.1
            rwa [toksA_blank hlt (by rw [hb]; exact hbk)] at this)
          have HK := Lib.hid hlt
          clear hb h59 hbk e hk
          go_wp2_with (go_at_call 228; refine hbl.mono ?_; clear hbl; rintro e w8 ⟨rfl, rfl⟩)
          go_roundg (s.size - (k + 1))
          case measure => have := HK.out; omega
          case rel => exact ⟨k + 1, _, out, by have := HK.out; omega, rfl, rfl, by simp, HT.out, by have := HR.out.2.1; omega, HR.out.2.2⟩
        · have e : blankB ((s[k]'hlt).toNat : Int) = false := by unfold blankB; simp; omega
          rw [e] at hbl
          have hnb : ¬ (byA s k = 32 ∨ byA s k = 9 ∨ byA s k = 59) := by rw [hb]; omega
          have hbd := tokE_bd hlt hnb
          have HT := Lib.hid (show toks s = (out ++ [s.extract k (tokE s k)]) ++ toksA s (tokE s k) by
            have := HR.out.1
            rw [toksA_tok hlt hnb] at this
            rw [this]; simp)
          have HB := Lib.hid (And.intro hbd (And.intro hnb hlt))
          have htk : tokE s k = if ((s[k]'hlt).toNat : Int) = 34 then quoE s k else wrdE s k := by unfold tokE; rw [hb]
          have HTK := Lib.hid htk
          clear h59 hbk e hk hb hnb hbd htk
          obtain ⟨bq, hbq⟩ : ∃ bq, (((s[k]'hlt).toNat : Int) == 34) = bq := ⟨_, rfl⟩
          go_upto_if 26 with (go_at_call 228; refine hbl.mono ?_; clear hbl; rintro e w8 ⟨rfl, rfl⟩)
          go_cut [5] (fun t wx => t = .int .i64 (tokE s k) ∧ wx = w8)
          case first =>
            cases bq with
            | true =>
              have h34 : ((s[k]'hlt).toNat : Int) = 34 := by simpa using hbq
              have e := HTK.out
              rw [if_pos h34] at e
              have hq := asQuoted_any s k hlt HS.out w8
              rw [← e] at hq
              clear e h34
              go_wp2_with (go_at_call 229; refine hq.mono ?_; clear hq; rintro e w9 ⟨rfl, rfl⟩)
              go_meet
              case rel => exact ⟨rfl, rfl⟩
            | false =>
              have h34 : ¬ ((s[k]'hlt).toNat : Int) = 34 := by simpa using hbq
              have e := HTK.out
              rw [if_neg h34] at e
              have HE := Lib.hid e
              clear e h34
              go_wp2_with fail
              go_loopg [5] (s.size - k) (fun g i wi => ∃ j : Nat, k ≤ j ∧ j ≤ s.size ∧ g = s.size - j ∧ i = .int .i64 j ∧ wi = w8 ∧ RowKit.Hid (wrdE s k = wrdE s j))
              case atStart => exact ⟨k, by omega, by omega, rfl, rfl, rfl, rfl⟩
              case round =>
                obtain ⟨j, hkj, hj, rfl, rfl, hw, HW⟩ := hrel
                subst hw
                by_cases hl2 : j < s.size
                · have j3 : (j : Int) < s.size := by omega
                  have j4 : (0 : Int) ≤ j := by omega
                  have hb2 := byA_get hl2
                  have hst := wrdE_step hl2
                  rw [hb2] at hst
                  have hbl2 := fun W => asBlank_any ((s[j]'hl2).toNat : Int) W
                  by_cases hbk : ((s[j]'hl2).toNat : Int) = 32 ∨ ((s[j]'hl2).toNat : Int) = 9
                  · have e : blankB ((s[j]'hl2).toNat : Int) = true := by unfold blankB; simp; exact hbk
                    rw [e] at hbl2
                    have HF := Lib.hid (show tokE s k = j by rw [HE.out, HW.out, hst, if_pos (by omega)])
                    clear hst hb2 hbk e
                    go_wp2_with (go_at_call 228; refine (hbl2 _).mono ?_; clear hbl2; rintro e w9 ⟨rfl, rfl⟩)
                    go_meet
                    case rel => exact ⟨by rw [HF.out], rfl⟩
                  · have e : blankB ((s[j]'hl2).toNat : Int) = false := by unfold blankB; simp; omega
                    rw [e] at hbl2
                    by_cases h59 : ((s[j]'hl2).toNat : Int) = 59
                    · have b3 : (((s[j]'hl2).toNat : Int) != 59) = false := by rw [h59]; rfl
                      have HF := Lib.hid (show tokE s k = j by rw [HE.out, HW.out, hst, if_pos (by omega)])
                      clear hst hb2 hbk e h59
                      go_wp2_with (go_at_call 228; refine (hbl2 _).mono ?_; clear hbl2; rintro e w9 ⟨rfl, rfl⟩)
                      go_meet
                      case rel => exact ⟨by rw [HF.out], rfl⟩
                    · have b3 : (((s[j]'hl2).toNat : Int) != 59) = true := by simpa using h59
                      have HF := Lib.hid (show wrdE s k = wrdE s (j + 1) by rw [HW.out, hst, if_neg (by omega)])
                      clear hst hb2 hbk e h59
                      go_wp2_with (go_at_call 228; refine (hbl2 _).mono ?_; clear hbl2; rintro e w9 ⟨rfl, rfl⟩)
                      go_roundg (s.size - (j + 1))
                      case measure => omega
                      case rel => exact ⟨j + 1, by omega, by omega, rfl, by simp, rfl, HF.out⟩
                · obtain rfl : j = s.size := by omega
                  have j3 : ¬ (s.size : Int) < s.size := by omega
                  have HF := Lib.hid (show tokE s k = s.size by rw [HE.out, HW.out, wrdE_end (Nat.le_refl _)])
                  go_wp2_with fail
                  go_meet
                  case rel => exact ⟨by rw [HF.out], rfl⟩
          case rest =>
            obtain ⟨rfl, hw⟩ := hcut
            subst hw
            clear HTK
            obtain ⟨E, hE⟩ : ∃ E, tokE s k = E := ⟨_, rfl⟩
            rw [hE] at HB HT ⊢
            have e1 : (k : Int) ≤ E := by have := HB.out; omega
            have e2 : (E : Int) ≤ s.size := by have := HB.out; omega
            have e3 : (0 : Int) ≤ E := by omega
            obtain ⟨a3, c3, w2, hrun, ho2, hk2⟩ := HR.out.2.2.1.app HR.out.2.2.2.size (s.extract k E) (by rw [ByteArray.size_extract, maxLen_is]; have := HS.out; omega) (by have := HR.out.2.1; have := HS.out; omega)
            have HO := Lib.hid (And.intro ho2 (HR.out.2.2.2.thenOwn hk2))
            clear ho2 hk2 hE
            generalize hm : out.length = m at *
            have HM := Lib.hid hm
            clear hm
            go_wp2_with (at_builtin; refine wpList_app rfl (.tmp 49) (.tmp 54) 23 23 rfl rfl rfl hrun ?_)
            go_roundg (s.size - E)
            case measure => have := HB.out; omega
            case rel => exact ⟨E, _, _, by have := HB.out; omega, rfl, rfl, rfl, HT.out, by rw [List.length_append, HM.out]; have := HB.out; have := HR.out.2.1; simp; omega, HO.out.1, HO.out.2⟩
    · obtain rfl : k = s.size := by omega
      have j1 : ¬ (s.size : Int) < s.size := by omega
      have HT := Lib.hid (show toks s = out by
        have := HR.out.1
        rwa [toksA_end (.inl (Nat.le_refl _)), List.append_nil] at this)
      go_wp2_with fail
      go_ret
      rw [HT.out]
      exact ⟨_, _, rfl, HR.out.2.2⟩
end Go.Proofs.YtfgdnakfikpmpaaGreatDoor
namespace Go.Proofs.YtfgdnakfikpmpaaGreatDoor
open Go Go.RowKit Go.Deep
theorem valOf_of {s : ByteArray} {v : Val} {er : Int} (hI : v.In) (hc : VpC s.data.toList v er) (hs : VpS s.data.toList v er) : valOf s = if er = 0 then some v else none := by
  unfold valOf
  by_cases h : ∃ v : Val, v.ok = true ∧ v.In ∧ s.data.toList = v.print
  · rw [dif_pos h]
    obtain ⟨h1, h2, h3⟩ := h.choose_spec
    obtain ⟨rfl, e⟩ := hc _ h1 h2 h3
    rw [if_pos rfl, e]
  · rw [dif_neg h]
    by_cases he : er = 0
    · exact absurd ⟨v, (hs he).1, hI, (hs he).2⟩ h
    · rw [if_neg he]
def GivesNum (s : ByteArray) (w : World) (e : Ending) (w' : World) : Prop := ∃ (n : Int) (b : Bool), e = .returned (.tuple #[.int .i64 n, .bool b]) ∧ RowKit.Hid (-9223372036854775808 ≤ n ∧ n ≤ 9223372036854775807 ∧ numOf s = (if b = true then some n else none) ∧ Keep No w w')
set_option maxRecDepth 10000 in
set_option maxHeartbeats 4000000 in
theorem asNumber_any (s : ByteArray) (hs : s.size ≤ 1048576) (w : World) (he : Errs w) : Calls Tryz.prog 233 #[.string s] w (GivesNum s w) := by
  have hp := vParse_any s hs w he
  clear hs he
  go_enter Tryz.func233, Tryz.ntmps233
  go_wp2_with (go_at_call 260; refine hp.mono ?_; clear hp; rintro e w8 ⟨v, er, at', rfl, H8⟩)
  have x0 := blk_new w8 (.cells #[.int .i64 v.kind, .int .i64 v.num, .string v.text] 47)
  have hv : valOf s = if er = 0 then some v else none := valOf_of H8.out.1 H8.out.2.2.1.1 H8.out.2.2.1.2
  have K9 := H8.out.2.2.2.alloc (.cells #[.int .i64 v.kind, .int .i64 v.num, .string v.text] 47)
  have HN := Lib.hid (show numOf s = if (decide (er = 0) && decide (v.kind = 1)) = true then some v.num else none by
    unfold numOf
    rw [hv]
    by_cases h1 : er = 0
    · rw [if_pos h1]
      by_cases h2 : v.kind = 1
      · simp [h1, h2]
      · simp [h2]
    · rw [if_neg h1]; simp [h1])
  have HI := Lib.hid H8.out.1
  have HK := Lib.hid K9.drew
  clear hv K9
  generalize (w8.alloc (.cells #[.int .i64 v.kind, .int .i64 v.num, .string v.text] 47)) = w9 at *
  generalize w8.heap.size = b0 at *
  refine wp_region_canw [0, 1, 2, 3, 4, 5, 6, 7, 8, 9, 10] [] [] (by kernel_rfl) (by kernel_rfl) (by kernel_rfl) (by kernel_rfl) (by intro c a d v w h; cases d <;> exact h) ?_
  have c9 := blk_cell (w := w9.drew) x0
  by_cases h1 : er = 0
  · subst h1
    iterate 11 (refine canw_sil rfl rfl (fun K hK => ?_); go_simp; refine hK _ ?_; clear hK K)
    refine canw_nil ?_
    go_wp2_with fail
    go_ret2
    exact ⟨_, _, rfl, HI.out.n0, HI.out.n1, by have := HN.out; simpa using this, HK.out⟩
  · have b1 : (er == 0) = false := by simpa using h1
    have HN2 := Lib.hid (show numOf s = none by rw [HN.out]; simp [h1])
    clear h1
    iterate 11 (refine canw_sil rfl rfl (fun K hK => ?_); go_simp; refine hK _ ?_; clear hK K)
    refine canw_nil ?_
    go_wp2_with fail
    go_ret2
    exact ⟨_, _, rfl, HI.out.n0, HI.out.n1, by rw [HN2.out]; rfl, HK.out⟩
set_option maxRecDepth 10000 in
theorem operand_g (op : Int) (w : World) : Calls Tryz.prog 128 #[.int .i64 op] w fun e w' => e = .returned (.int .i64 (opAt op).2.1) ∧ RowKit.Hid (Keep No w w') := by
  have hc := opOf_g op w
  unfold OpG at hc
  generalize opAt op = X at *
  obtain ⟨X1, X2, X3, X4⟩ := X
  have hf : ∀ W, (Instr.field 258 (.agg #[.string X1, .int .i64 X2, .int .i64 X3, .int .i64 X4]) 1).run Tryz.prog W = .ok (.int .i64 X2) W := fun W => by
    simp [Instr.field, run_underlying Tryz.underlying258, part, asAgg, go_sem]
  go_enter Tryz.func128, Tryz.ntmps128
  go_wp2_with (go_at_call 166; refine hc.mono ?_; clear hc; rintro e w2 ⟨rfl, HK⟩)
  go_ret
  exact ⟨rfl, HK⟩
def wrdAt (k : Nat) : ByteArray := (opsL.getD k (⟨#[]⟩, 0, 0, 0)).1
theorem opsL_len : opsL.length = 32 := rfl
theorem opOf_hit {w : ByteArray} {k : Nat} (h1 : 1 ≤ k) (h2 : k < 32) (h : wrdAt k = w) (hn : ∀ j, 1 ≤ j → j < k → wrdAt j ≠ w) : opOf w = k := by
  unfold opOf
  have : (opsL.drop 1).findIdx? (fun x => decide (x.1 = w)) = some (k - 1) := by
    rw [List.findIdx?_eq_some_iff_getElem]
    refine ⟨by rw [List.length_drop, opsL_len]; omega, ?_, fun j hj => ?_⟩
    · rw [List.getElem_drop]
      unfold wrdAt at h
      rw [List.getD_eq_getElem?_getD, List.getElem?_eq_getElem (by rw [opsL_len]; omega), Option.getD_some] at h
      simp only [decide_eq_true_eq]
      rw [← h]
      congr 2
      omega
    · rw [List.getElem_drop]
      have := hn (1 + j) (by omega) (by omega)
      unfold wrdAt at this
      rw [List.getD_eq_getElem?_getD, List.getElem?_eq_getElem (by rw [opsL_len]; omega), Option.getD_some] at this
      simpa using this
  rw [this]
  show ((k - 1 : Nat) : Int) + 1 = k
  omega
theorem opOf_miss {w : ByteArray} (hn : ∀ j, 1 ≤ j → j < 32 → wrdAt j ≠ w) : opOf w = 0 := by
  unfold opOf
  have : (opsL.drop 1).findIdx? (fun x => decide (x.1 = w)) = none := by
    rw [List.findIdx?_eq_none_iff]
    intro x hx
    obtain ⟨j, hj, rfl⟩ := List.getElem_of_mem hx
    rw [List.length_drop, opsL_len] at hj
    rw [List.getElem_drop]
    have := hn (1 + j) (by omega) (by omega)
    unfold wrdAt at this
    rw [List.getD_eq_getElem?_getD, List.getElem?_eq_getElem (by rw [opsL_len]; omega), Option.getD_some] at this
    simpa using this
  rw [this]
set_option maxRecDepth 10000 in
set_option maxHeartbeats 4000000 in
theorem op_any (s : ByteArray) (w : World) : Calls Tryz.prog 234 #[.string s] w fun e w' => e = .returned (.int .i64 (opOf s)) ∧ RowKit.Hid (Keep No w w') := by
  have hc := operations_g w
  have HI := Lib.hid (fun k hk W => idx_g k hk W)
  generalize opsC = C at *
  go_enter Tryz.func234, Tryz.ntmps234
  go_wp2_with (go_at_call 216; refine hc.mono ?_; clear hc; rintro e w2 ⟨rfl, HK⟩)
  go_loopg [6] 32 (fun g i wr => ∃ k : Nat, k ≤ 32 ∧ g = 32 - k ∧ i = .int .i64 k ∧ RowKit.Hid ((∀ j, 1 ≤ j → j < k → wrdAt j ≠ s) ∧ Keep No w wr))
  case atStart => exact ⟨0, by omega, by omega, rfl, fun j h1 h2 => absurd h2 (Nat.not_lt_zero _), HK.out⟩
  case round =>
    obtain ⟨k, hk, rfl, rfl, HR⟩ := hrel
    by_cases hlt : k < 32
    · have j1 : (k : Int) < 32 := by omega
      have j0 : (0 : Int) ≤ k := by omega
      have hi := HI.out k hlt
      have hw : wrdAt k = (opsL.getD k (⟨#[]⟩, 0, 0, 0)).1 := rfl
      have HG := Lib.hid (And.intro (fun (h1 : 1 ≤ k) (h : wrdAt k = s) => opOf_hit h1 hlt h HR.out.1) (fun (h : k = 0 ∨ wrdAt k ≠ s) => show ∀ j, 1 ≤ j → j < k + 1 → wrdAt j ≠ s from fun j h1 h2 => by
        by_cases h3 : j < k
        · exact HR.out.1 j h1 h3
        · obtain rfl : j = k := by omega
          exact h.elim (fun e => by omega) id))
      rw [oprow_eq] at hi
      rw [hw] at HG
      generalize opsL.getD k (⟨#[]⟩, 0, 0, 0) = X at *
      obtain ⟨X1, X2, X3, X4⟩ := X
      have y2 := blk_new wr (.cells #[.string X1, .int .i64 X2, .int .i64 X3, .int .i64 X4] 258)
      have s2 := blk_cell y2
      have K2 := Lib.hid (HR.out.2.alloc (.cells #[.string X1, .int .i64 X2, .int .i64 X3, .int .i64 X4] 258))
      clear y2 hw hk HI
      by_cases h0 : k = 0
      · subst h0
        have e0 : ((0 : Nat) : Int) = 0 := rfl
        rw [e0] at hi ⊢
        go_wp2_with fail
        go_roundg 31
        case measure => omega
        case rel => exact ⟨1, by omega, by omega, by simp, HG.out.2 (.inl trivial), K2.out⟩
      · have h1 : (0 : Int) < k := by omega
        by_cases he : X1 = s
        · subst he
          have HE := Lib.hid (HG.out.1 (by omega) rfl)
          clear h0
          go_wp2_with fail
          go_ret
          exact ⟨by first | (rw [HE.out]; done) | (rw [HE.out]; rfl), K2.out⟩
        · have b1 : (X1.toList == s.toList) = false := by rw [text_beq]; exact decide_eq_false he
          have HE := Lib.hid (HG.out.2 (.inr he))
          clear h0
          go_wp2_with fail
          go_roundg (32 - (k + 1))
          case measure => omega
          case rel => exact ⟨k + 1, by omega, by omega, by simp, HE.out, K2.out⟩
    · obtain rfl : k = 32 := by omega
      have j1 : ¬ ((32 : Nat) : Int) < 32 := by omega
      have HE := Lib.hid (opOf_miss HR.out.1)
      clear hlt hk
      go_wp2_with fail
      go_ret
      exact ⟨by first | (rw [HE.out]; done) | (rw [HE.out]; rfl), HR.out.2⟩
end Go.Proofs.YtfgdnakfikpmpaaGreatDoor
namespace Go.Proofs.YtfgdnakfikpmpaaGreatDoor
open Go Go.RowKit Go.Deep
def IntMap (w : World) (m : Nat) (L : List (ByteArray × Nat)) : Prop :=
  ∃ D : DVp, w.ownsMap Tryz.prog 9 heldP m L.length D ∧ m < w.heap.size ∧ Maps.size D = L.length ∧
    ∀ n : ByteArray, match labAt L n with
      | some k => Maps.has D (keyN n) = true ∧ D.atKey (keyN n) (.held (.int .i64 0)) = .held (.int .i64 k)
      | none => Maps.has D (keyN n) = false ∧ D.atKey (keyN n) (.held (.int .i64 0)) = .held (.int .i64 0)
theorem IntMap.keep {w w' : World} {m : Nat} {L : List (ByteArray × Nat)} (h : IntMap w m L) {M : Nat → Prop} (hk : Keep M w w') (hM : ¬ M m) : IntMap w' m L := by
  obtain ⟨D, ⟨es, clock, h1, h1'⟩, h3, hsz, h4⟩ := h
  exact ⟨D, ⟨es, clock, (hk.block m (blk_lt h1) hM).trans h1, h1'⟩, Nat.lt_of_lt_of_le h3 hk.size, hsz, h4⟩
theorem IntMap.new (w : World) : IntMap (w.alloc (.map #[] 0)) w.heap.size [] := by
  refine ⟨.map [], World.ownsMap_made _ _ _ _, by simp, rfl, fun n => ?_⟩
  simp only [labAt, List.find?_nil]
  exact ⟨rfl, rfl⟩
theorem Tryz.zeroInt (w : World) : (zeroValue 3).run Tryz.prog w = .ok (.int .i64 0) w := by kernel_rfl
theorem look_int {w : World} {m : Nat} {L : List (ByteArray × Nat)} (h : IntMap w m L) (n : ByteArray) (hn : n.size ≤ 9223372036854775807) :
    ∀ W, Keep No w W → (Instr.lookup 188 (.map (some m)) (.string n) true).run Tryz.prog W = .ok (.tuple #[.int .i64 ((labAt L n).getD 0 : Nat), .bool (labAt L n).isSome]) W := by
  obtain ⟨D, hown, hm, hsz, hall⟩ := h
  have hall := hall n
  intro W hW
  have key : ∃ v ps, (Instr.lookup 188 (.map (some m)) (.string n) true).run Tryz.prog W = .ok (.tuple #[v, .bool (Maps.has D (keyN n))]) W ∧ heldP v = some (D.atKey (keyN n) (.held (.int .i64 0)), ps) := by
    obtain ⟨es, clock, h1, h1'⟩ := hown
    exact World.ownsMap.look_ok (R := heldP) ⟨es, clock, (hW.block m (blk_lt h1) (fun x => x)).trans h1, h1'⟩ (Maps.string_keyed Tryz.underlying9) Tryz.underlying188 (Tryz.zeroInt W) (zd := .held (.int .i64 0)) rfl (WideMaps.keyOf_string_mk Tryz.underlying9 (by rw [maxLen_is]; omega))
  obtain ⟨v, ps, hrun, hv⟩ := key
  cases hf : labAt L n with
  | none =>
    rw [hf] at hall
    rw [hall.2] at hv
    simp only [heldP, Option.some.injEq, Prod.mk.injEq, DataW.held.injEq] at hv
    rw [hall.1, hv.1] at hrun
    exact hrun
  | some p =>
    rw [hf] at hall
    rw [hall.2] at hv
    simp only [heldP, Option.some.injEq, Prod.mk.injEq, DataW.held.injEq] at hv
    rw [hall.1, hv.1] at hrun
    exact hrun
theorem len_int {w : World} {m : Nat} {L : List (ByteArray × Nat)} (h : IntMap w m L) : ∀ W ty, Keep No w W → (Builtin.len_ #[188] ty #[.map (some m)]).run Tryz.prog W = .ok (.int .i64 L.length) W := by
  obtain ⟨D, hown, hm, hsz, hall⟩ := h
  intro W ty hW
  obtain ⟨es, clock, h1, h1'⟩ := hown
  have := World.ownsMap.len (P := Tryz.prog) (k := 9) (R := heldP) (w := W) (n := L.length) (D := D) ⟨es, clock, (hW.block m (blk_lt h1) (fun x => x)).trans h1, h1'⟩ Tryz.underlying188 ty
  rw [hsz] at this
  exact this
theorem labAt_snoc (L : List (ByteArray × Nat)) (a : ByteArray) (k : Nat) (n : ByteArray) (hp : labAt L a = none) : labAt (L ++ [(a, k)]) n = if a = n then some k else labAt L n := by
  unfold labAt at *
  rw [List.find?_append]
  by_cases e : a = n
  · subst e
    rw [if_pos rfl]
    have : L.find? (fun x => decide (x.1 = a)) = none := by simpa using hp
    rw [this]
    simp
  · rw [if_neg e]
    simp [e]
theorem put_int {w : World} {m : Nat} {L : List (ByteArray × Nat)} (h : IntMap w m L) (hL : L.length ≤ 1048576) (a : ByteArray) (k : Nat) (hp : labAt L a = none) (hn : a.size ≤ 9223372036854775807) :
    ∀ W, Keep No w W → ∃ w', (Instr.mapUpdate 188 (.map (some m)) (.string a) (.int .i64 k)).run Tryz.prog W = .ok () w' ∧ IntMap w' m (L ++ [(a, k)]) ∧ Keep (One m) W w' := by
  obtain ⟨D, hown, hm, hsz, hall⟩ := h
  have hmk : ∀ W, Keep No w W → W.ownsMap Tryz.prog 9 heldP m L.length D := fun W hW => by
    obtain ⟨es, clock, h1, h1'⟩ := hown
    exact ⟨es, clock, (hW.block m (blk_lt h1) (fun x => x)).trans h1, h1'⟩
  intro W hW
  have hkey : keyOf Tryz.prog 9 (.string a) = some (keyN a) := WideMaps.keyOf_string_mk Tryz.underlying9 (by rw [maxLen_is]; omega)
  have K := Maps.string_keyed Tryz.underlying9
  obtain ⟨w', hrun, ho, ht⟩ := (hmk W hW).store K Tryz.underlying188 (by rw [maxLen_is]; omega) (val := .int .i64 k) (d := .held (.int .i64 k)) hkey rfl
  have k2 : Keep (One m) W w' := (Keep.grown ht.grown).mono fun i _ hi => Option.some.inj hi
  have hno : Maps.has D (keyN a) = false := by
    have := hall a
    rw [hp] at this
    exact this.1
  have hsz2 : Maps.size (D.put (keyN a) (.held (.int .i64 k))) = (L ++ [(a, k)]).length := by
    rw [Maps.size_put ((hmk W hW).tidy K), hno, hsz]
    simp
  refine ⟨w', hrun, ⟨D.put (keyN a) (.held (.int .i64 k)), by simpa using ho, Nat.lt_of_lt_of_le hm (Nat.le_trans hW.size k2.size), hsz2, fun n => ?_⟩, k2⟩
  rw [labAt_snoc L a k n hp]
  by_cases e : a = n
  · subst e
    simp only [if_true]
    exact ⟨Maps.has_put_same (hmk W hW).isMap (K.key hkey) _, by rw [Maps.atKey_put_same (hmk W hW).isMap (K.key hkey)]⟩
  · have hne : keyN n ≠ keyN a := fun h => e (keyN_inj h).symm
    have := hall n
    rw [if_neg e]
    cases hf : labAt L n with
    | none =>
      rw [hf] at this
      exact ⟨by rw [Maps.has_put_other hne]; exact this.1, by rw [Maps.atKey_put_other hne]; exact this.2⟩
    | some q =>
      rw [hf] at this
      exact ⟨by rw [Maps.has_put_other hne]; exact this.1, by rw [Maps.atKey_put_other hne]; exact this.2⟩
structure SrcAt (w : World) (lab : Nat → Nat) (B m : Nat) (x : AsmS) (v1 v2 v4 v5 : Value) : Prop where
  blk : w.heap[B]? = some (.cells #[.int .i64 x.args, v1, v2, .map (some m), v4, v5, .bool x.given] 190 (0, 0))
  lB : lab B = 1
  lm : lab m = 2
  lt : ∀ k, lab k ≠ 0 → k < w.heap.size
  cs : Own valueSh 47 w (fun k => lab k = 3) v1 x.consts
  cd : Own instrSh 144 w (fun k => lab k = 4) v2 x.code
  us : Own .str 9 w (fun k => lab k = 5) v4 x.uses
  wh : Own (.int .i64) 3 w (fun k => lab k = 6) v5 x.wher
  mp : IntMap w m x.labs
theorem SrcAt.keep {w w' : World} {lab : Nat → Nat} {B m : Nat} {x : AsmS} {v1 v2 v4 v5 : Value} (h : SrcAt w lab B m x v1 v2 v4 v5) {M : Nat → Prop} (hk : Keep M w w') (hM : ∀ k, lab k ≠ 0 → ¬ M k) : SrcAt w' lab B m x v1 v2 v4 v5 := by
  have hb := h.lB
  have hm := h.lm
  refine ⟨hk.blk h.blk (hM B (by omega)), hb, hm, fun k h1 => Nat.lt_of_lt_of_le (h.lt k h1) hk.size, Own.agree h.cs (hk.agree fun k _ h1 => hM k (by omega)), Own.agree h.cd (hk.agree fun k _ h1 => hM k (by omega)), Own.agree h.us (hk.agree fun k _ h1 => hM k (by omega)), Own.agree h.wh (hk.agree fun k _ h1 => hM k (by omega)), h.mp.keep hk (hM m (by omega))⟩
def lab1 (lab : Nat → Nat) (b c : Nat) : Nat → Nat := fun k => if k = b then c else lab k
theorem lab1_old {lab : Nat → Nat} {b c k : Nat} (h : k ≠ b) : lab1 lab b c k = lab k := if_neg h
theorem lab1_new {lab : Nat → Nat} {b c : Nat} : lab1 lab b c b = c := if_pos rfl
theorem lab1_of {lab : Nat → Nat} {b c i k : Nat} (h0 : lab b = 0) (hi : i ≠ 0) (h : lab k = i) : lab1 lab b c k = i := by
  have : k ≠ b := fun e => by subst e; omega
  rw [lab1_old this, h]
theorem lab1_ne {lab : Nat → Nat} {b c k : Nat} (h : lab1 lab b c k ≠ 0) : lab k ≠ 0 ∨ k = b := by
  by_cases e : k = b
  · exact .inr e
  · rw [lab1_old e] at h; exact .inl h
theorem ins_row {w : World} {S : Nat → Prop} {a b : Int} {u : Unit} (ha : (Lit.int .i64 a).wf = true) (hb : (Lit.int .i64 b).wf = true) : Rd instrSh w S [.int .i64 a, .int .i64 b] (a, b, u) :=
  ⟨[.int .i64 a], _, rfl, ⟨rfl, ha⟩, [.int .i64 b], _, rfl, ⟨rfl, hb⟩, rfl⟩
theorem SrcAt.addCs {w : World} {lab : Nat → Nat} {B m : Nat} {x : AsmS} {v1 v2 v4 v5 : Value} (h : SrcAt w lab B m x v1 v2 v4 v5) (e : Val) (he : e.In ∧ e.text.size ≤ 9223372036854775807) (hl : x.consts.length ≤ 1048576) :
    ∃ a c w' lab', (Builtin.append_ #[24, 24] 24 #[v1, .slice (some ⟨w.heap.size, 0, none⟩) 1 1]).run Tryz.prog (w.alloc (.cells #[.int .i64 e.kind, .int .i64 e.num, .string e.text] 47)) = .ok (.slice a (x.consts.length + 1) c) w' ∧
      w'.heap[B]? = some (.cells #[.int .i64 x.args, v1, v2, .map (some m), v4, v5, .bool x.given] 190 (0, 0)) ∧
      SrcAt (w'.setCell ⟨B, 1, none⟩ (.slice a (x.consts.length + 1) c)) lab' B m { x with consts := x.consts ++ [e] } (.slice a (x.consts.length + 1) c) v2 v4 v5 ∧ (∀ k, k < w.heap.size → lab' k = lab k) ∧ Keep (fun k => lab k ≠ 0) w (w'.setCell ⟨B, 1, none⟩ (.slice a (x.consts.length + 1) c)) := by
  obtain ⟨i0, hi, hz0, hz1, hz2⟩ := info_parts Tryz.infoVal
  have hB := h.lB
  have hm := h.lm
  have h0 : lab (w.heap.size + 1) = 0 := Classical.byContradiction fun hh => by have := h.lt _ hh; omega
  have h1 := h.keep ((Keep.refl No w).alloc (.cells #[.int .i64 e.kind, .int .i64 e.num, .string e.text] 47)) (fun _ _ x => x)
  obtain ⟨a, c, w', hr, ho, hk, hs⟩ := Own.append (P := Tryz.prog) (T := No) h1.cs 24 24 i0 _ 32 Tryz.underlying24 hi hz0 hz1 hz2 rfl (blk_new w _) (x := e) (show Rd valueSh _ _ #[.int .i64 e.kind, .int .i64 e.num, .string e.text].toList e from val_row he.1 he.2) (fun k _ x => x) (by omega) (by omega) 1
  simp only [World.size_alloc] at ho hs
  have hb := hk.blk h1.blk (by omega)
  have k2 : Keep (fun k => k = B) w' (w'.setCell ⟨B, 1, none⟩ (.slice a (x.consts.length + 1) c)) := keep_set _ _ _ _
  have hB1 : B ≠ w.heap.size + 1 := fun e => by rw [e] at hB; omega
  have hm1 : m ≠ w.heap.size + 1 := fun e => by rw [e] at hm; omega
  have hsz := hk.size
  have hsz2 := k2.size
  refine ⟨a, c, w', lab1 lab (w.heap.size + 1) (if w.heap.size + 1 < w'.heap.size then 3 else 0), hr, hb, ⟨by simpa using blk_set hb 1 (.slice a (x.consts.length + 1) c), by rw [lab1_old hB1]; exact hB, by rw [lab1_old hm1]; exact hm, fun k hk' => ?_, ?_, ?_, ?_, ?_, (h1.mp.keep hk (by omega)).keep k2 (fun e => by rw [e] at hm; omega)⟩, fun k hk' => lab1_old (by omega), ?_⟩
  · rcases lab1_ne hk' with h9 | h9
    · have := h.lt k h9; simp only [World.size_alloc] at hsz; omega
    · subst h9
      by_cases hh : w.heap.size + 1 < w'.heap.size
      · omega
      · rw [lab1_new, if_neg hh] at hk'; exact absurd rfl hk'
  · exact Own.mono (Own.agree ho.live (k2.agree fun k _ h8 e => by subst e; obtain ⟨h8, -⟩ := h8; rcases h8 with h8 | h8 | h8 <;> first | omega | exact h8)) fun k h8 => by
      obtain ⟨h8, h9⟩ := h8
      rcases h8 with h8 | h8 | h8
      · exact lab1_of h0 (by decide) h8
      · exact h8.elim
      · subst h8; rw [lab1_new, if_pos h9]
  · exact Own.mono (Own.agree (Own.agree h1.cd (hk.agree fun k _ h8 e => by omega)) (k2.agree fun k _ h8 e => by subst e; omega)) fun k h8 => lab1_of h0 (by decide) h8
  · exact Own.mono (Own.agree (Own.agree h1.us (hk.agree fun k _ h8 e => by omega)) (k2.agree fun k _ h8 e => by subst e; omega)) fun k h8 => lab1_of h0 (by decide) h8
  · exact Own.mono (Own.agree (Own.agree h1.wh (hk.agree fun k _ h8 e => by omega)) (k2.agree fun k _ h8 e => by subst e; omega)) fun k h8 => lab1_of h0 (by decide) h8
  · exact (((Keep.refl _ w).alloc _).then hk fun i _ hi => by omega).then k2 fun i _ hi => by subst hi; omega
theorem SrcAt.addCd {w : World} {lab : Nat → Nat} {B m : Nat} {x : AsmS} {v1 v2 v4 v5 : Value} (h : SrcAt w lab B m x v1 v2 v4 v5) (e : Ins) (he : (Lit.int .i64 e.1).wf = true ∧ (Lit.int .i64 e.2.1).wf = true) (hl : x.code.length ≤ 1048576) :
    ∃ a c w' lab', (Builtin.append_ #[25, 25] 25 #[v2, .slice (some ⟨w.heap.size, 0, none⟩) 1 1]).run Tryz.prog (w.alloc (.cells #[.int .i64 e.1, .int .i64 e.2.1] 144)) = .ok (.slice a (x.code.length + 1) c) w' ∧
      w'.heap[B]? = some (.cells #[.int .i64 x.args, v1, v2, .map (some m), v4, v5, .bool x.given] 190 (0, 0)) ∧
      SrcAt (w'.setCell ⟨B, 2, none⟩ (.slice a (x.code.length + 1) c)) lab' B m { x with code := x.code ++ [e] } v1 (.slice a (x.code.length + 1) c) v4 v5 ∧ (∀ k, k < w.heap.size → lab' k = lab k) ∧ Keep (fun k => lab k ≠ 0) w (w'.setCell ⟨B, 2, none⟩ (.slice a (x.code.length + 1) c)) := by
  obtain ⟨i0, hi, hz0, hz1, hz2⟩ := info_parts Tryz.infoClN
  have hB := h.lB
  have hm := h.lm
  have h0 : lab (w.heap.size + 1) = 0 := Classical.byContradiction fun hh => by have := h.lt _ hh; omega
  have h1 := h.keep ((Keep.refl No w).alloc (.cells #[.int .i64 e.1, .int .i64 e.2.1] 144)) (fun _ _ x => x)
  obtain ⟨a, c, w', hr, ho, hk, hs⟩ := Own.append (P := Tryz.prog) (T := No) h1.cd 25 25 i0 _ 16 Tryz.underlying25 hi hz0 hz1 hz2 rfl (blk_new w _) (x := e) (show Rd instrSh _ _ #[.int .i64 e.1, .int .i64 e.2.1].toList e from ins_row he.1 he.2) (fun k _ x => x) (by omega) (by omega) 1
  simp only [World.size_alloc] at ho hs
  have hb := hk.blk h1.blk (by omega)
  have k2 : Keep (fun k => k = B) w' (w'.setCell ⟨B, 2, none⟩ (.slice a (x.code.length + 1) c)) := keep_set _ _ _ _
  have hB1 : B ≠ w.heap.size + 1 := fun e => by rw [e] at hB; omega
  have hm1 : m ≠ w.heap.size + 1 := fun e => by rw [e] at hm; omega
  have hsz := hk.size
  have hsz2 := k2.size
  refine ⟨a, c, w', lab1 lab (w.heap.size + 1) (if w.heap.size + 1 < w'.heap.size then 4 else 0), hr, hb, ⟨by simpa using blk_set hb 2 (.slice a (x.code.length + 1) c), by rw [lab1_old hB1]; exact hB, by rw [lab1_old hm1]; exact hm, fun k hk' => ?_, ?_, ?_, ?_, ?_, (h1.mp.keep hk (by omega)).keep k2 (fun e => by rw [e] at hm; omega)⟩, fun k hk' => lab1_old (by omega), ?_⟩
  · rcases lab1_ne hk' with h9 | h9
    · have := h.lt k h9; simp only [World.size_alloc] at hsz; omega
    · subst h9
      by_cases hh : w.heap.size + 1 < w'.heap.size
      · omega
      · rw [lab1_new, if_neg hh] at hk'; exact absurd rfl hk'
  · exact Own.mono (Own.agree (Own.agree h1.cs (hk.agree fun k _ h8 e => by omega)) (k2.agree fun k _ h8 e => by subst e; omega)) fun k h8 => lab1_of h0 (by decide) h8
  · exact Own.mono (Own.agree ho.live (k2.agree fun k _ h8 e => by subst e; obtain ⟨h8, -⟩ := h8; rcases h8 with h8 | h8 | h8 <;> first | omega | exact h8)) fun k h8 => by
      obtain ⟨h8, h9⟩ := h8
      rcases h8 with h8 | h8 | h8
      · exact lab1_of h0 (by decide) h8
      · exact h8.elim
      · subst h8; rw [lab1_new, if_pos h9]
  · exact Own.mono (Own.agree (Own.agree h1.us (hk.agree fun k _ h8 e => by omega)) (k2.agree fun k _ h8 e => by subst e; omega)) fun k h8 => lab1_of h0 (by decide) h8
  · exact Own.mono (Own.agree (Own.agree h1.wh (hk.agree fun k _ h8 e => by omega)) (k2.agree fun k _ h8 e => by subst e; omega)) fun k h8 => lab1_of h0 (by decide) h8
  · exact (((Keep.refl _ w).alloc _).then hk fun i _ hi => by omega).then k2 fun i _ hi => by subst hi; omega
theorem SrcAt.addUs {w : World} {lab : Nat → Nat} {B m : Nat} {x : AsmS} {v1 v2 v4 v5 : Value} (h : SrcAt w lab B m x v1 v2 v4 v5) (e : ByteArray) (he : e.size ≤ 9223372036854775807) (hl : x.uses.length ≤ 1048576) :
    ∃ a c w' lab', (Builtin.append_ #[23, 23] 23 #[v4, .slice (some ⟨w.heap.size, 0, none⟩) 1 1]).run Tryz.prog (w.alloc (.cells #[.string e] 9)) = .ok (.slice a (x.uses.length + 1) c) w' ∧
      w'.heap[B]? = some (.cells #[.int .i64 x.args, v1, v2, .map (some m), v4, v5, .bool x.given] 190 (0, 0)) ∧
      SrcAt (w'.setCell ⟨B, 4, none⟩ (.slice a (x.uses.length + 1) c)) lab' B m { x with uses := x.uses ++ [e] } v1 v2 (.slice a (x.uses.length + 1) c) v5 ∧ (∀ k, k < w.heap.size → lab' k = lab k) ∧ Keep (fun k => lab k ≠ 0) w (w'.setCell ⟨B, 4, none⟩ (.slice a (x.uses.length + 1) c)) := by
  obtain ⟨i0, hi, hz0, hz1, hz2⟩ := info_parts Tryz.infoText
  have hB := h.lB
  have hm := h.lm
  have h0 : lab (w.heap.size + 1) = 0 := Classical.byContradiction fun hh => by have := h.lt _ hh; omega
  have h1 := h.keep ((Keep.refl No w).alloc (.cells #[.string e] 9)) (fun _ _ x => x)
  obtain ⟨a, c, w', hr, ho, hk, hs⟩ := Own.append (P := Tryz.prog) (T := No) h1.us 23 23 i0 _ 16 Tryz.underlying23 hi hz0 hz1 hz2 rfl (blk_new w _) (x := e) (show Rd .str _ _ #[.string e].toList e from ⟨rfl, by rw [maxLen_is]; exact he⟩) (fun k _ x => x) (by omega) (by omega) 1
  simp only [World.size_alloc] at ho hs
  have hb := hk.blk h1.blk (by omega)
  have k2 : Keep (fun k => k = B) w' (w'.setCell ⟨B, 4, none⟩ (.slice a (x.uses.length + 1) c)) := keep_set _ _ _ _
  have hB1 : B ≠ w.heap.size + 1 := fun e => by rw [e] at hB; omega
  have hm1 : m ≠ w.heap.size + 1 := fun e => by rw [e] at hm; omega
  have hsz := hk.size
  have hsz2 := k2.size
  refine ⟨a, c, w', lab1 lab (w.heap.size + 1) (if w.heap.size + 1 < w'.heap.size then 5 else 0), hr, hb, ⟨by simpa using blk_set hb 4 (.slice a (x.uses.length + 1) c), by rw [lab1_old hB1]; exact hB, by rw [lab1_old hm1]; exact hm, fun k hk' => ?_, ?_, ?_, ?_, ?_, (h1.mp.keep hk (by omega)).keep k2 (fun e => by rw [e] at hm; omega)⟩, fun k hk' => lab1_old (by omega), ?_⟩
  · rcases lab1_ne hk' with h9 | h9
    · have := h.lt k h9; simp only [World.size_alloc] at hsz; omega
    · subst h9
      by_cases hh : w.heap.size + 1 < w'.heap.size
      · omega
      · rw [lab1_new, if_neg hh] at hk'; exact absurd rfl hk'
  · exact Own.mono (Own.agree (Own.agree h1.cs (hk.agree fun k _ h8 e => by omega)) (k2.agree fun k _ h8 e => by subst e; omega)) fun k h8 => lab1_of h0 (by decide) h8
  · exact Own.mono (Own.agree (Own.agree h1.cd (hk.agree fun k _ h8 e => by omega)) (k2.agree fun k _ h8 e => by subst e; omega)) fun k h8 => lab1_of h0 (by decide) h8
  · exact Own.mono (Own.agree ho.live (k2.agree fun k _ h8 e => by subst e; obtain ⟨h8, -⟩ := h8; rcases h8 with h8 | h8 | h8 <;> first | omega | exact h8)) fun k h8 => by
      obtain ⟨h8, h9⟩ := h8
      rcases h8 with h8 | h8 | h8
      · exact lab1_of h0 (by decide) h8
      · exact h8.elim
      · subst h8; rw [lab1_new, if_pos h9]
  · exact Own.mono (Own.agree (Own.agree h1.wh (hk.agree fun k _ h8 e => by omega)) (k2.agree fun k _ h8 e => by subst e; omega)) fun k h8 => lab1_of h0 (by decide) h8
  · exact (((Keep.refl _ w).alloc _).then hk fun i _ hi => by omega).then k2 fun i _ hi => by subst hi; omega
theorem SrcAt.addWh {w : World} {lab : Nat → Nat} {B m : Nat} {x : AsmS} {v1 v2 v4 v5 : Value} (h : SrcAt w lab B m x v1 v2 v4 v5) (e : Int) (he : (Lit.int .i64 e).wf = true) (hl : x.wher.length ≤ 1048576) :
    ∃ a c w' lab', (Builtin.append_ #[22, 22] 22 #[v5, .slice (some ⟨w.heap.size, 0, none⟩) 1 1]).run Tryz.prog (w.alloc (.cells #[.int .i64 e] 3)) = .ok (.slice a (x.wher.length + 1) c) w' ∧
      w'.heap[B]? = some (.cells #[.int .i64 x.args, v1, v2, .map (some m), v4, v5, .bool x.given] 190 (0, 0)) ∧
      SrcAt (w'.setCell ⟨B, 5, none⟩ (.slice a (x.wher.length + 1) c)) lab' B m { x with wher := x.wher ++ [e] } v1 v2 v4 (.slice a (x.wher.length + 1) c) ∧ (∀ k, k < w.heap.size → lab' k = lab k) ∧ Keep (fun k => lab k ≠ 0) w (w'.setCell ⟨B, 5, none⟩ (.slice a (x.wher.length + 1) c)) := by
  obtain ⟨i0, hi, hz0, hz1, hz2⟩ := info_parts Tryz.infoClI
  have hB := h.lB
  have hm := h.lm
  have h0 : lab (w.heap.size + 1) = 0 := Classical.byContradiction fun hh => by have := h.lt _ hh; omega
  have h1 := h.keep ((Keep.refl No w).alloc (.cells #[.int .i64 e] 3)) (fun _ _ x => x)
  obtain ⟨a, c, w', hr, ho, hk, hs⟩ := Own.append (P := Tryz.prog) (T := No) h1.wh 22 22 i0 _ 8 Tryz.underlying22 hi hz0 hz1 hz2 rfl (blk_new w _) (x := e) (show Rd (.int .i64) _ _ #[.int .i64 e].toList e from ⟨rfl, he⟩) (fun k _ x => x) (by omega) (by omega) 1
  simp only [World.size_alloc] at ho hs
  have hb := hk.blk h1.blk (by omega)
  have k2 : Keep (fun k => k = B) w' (w'.setCell ⟨B, 5, none⟩ (.slice a (x.wher.length + 1) c)) := keep_set _ _ _ _
  have hB1 : B ≠ w.heap.size + 1 := fun e => by rw [e] at hB; omega
  have hm1 : m ≠ w.heap.size + 1 := fun e => by rw [e] at hm; omega
  have hsz := hk.size
  have hsz2 := k2.size
  refine ⟨a, c, w', lab1 lab (w.heap.size + 1) (if w.heap.size + 1 < w'.heap.size then 6 else 0), hr, hb, ⟨by simpa using blk_set hb 5 (.slice a (x.wher.length + 1) c), by rw [lab1_old hB1]; exact hB, by rw [lab1_old hm1]; exact hm, fun k hk' => ?_, ?_, ?_, ?_, ?_, (h1.mp.keep hk (by omega)).keep k2 (fun e => by rw [e] at hm; omega)⟩, fun k hk' => lab1_old (by omega), ?_⟩
  · rcases lab1_ne hk' with h9 | h9
    · have := h.lt k h9; simp only [World.size_alloc] at hsz; omega
    · subst h9
      by_cases hh : w.heap.size + 1 < w'.heap.size
      · omega
      · rw [lab1_new, if_neg hh] at hk'; exact absurd rfl hk'
  · exact Own.mono (Own.agree (Own.agree h1.cs (hk.agree fun k _ h8 e => by omega)) (k2.agree fun k _ h8 e => by subst e; omega)) fun k h8 => lab1_of h0 (by decide) h8
  · exact Own.mono (Own.agree (Own.agree h1.cd (hk.agree fun k _ h8 e => by omega)) (k2.agree fun k _ h8 e => by subst e; omega)) fun k h8 => lab1_of h0 (by decide) h8
  · exact Own.mono (Own.agree (Own.agree h1.us (hk.agree fun k _ h8 e => by omega)) (k2.agree fun k _ h8 e => by subst e; omega)) fun k h8 => lab1_of h0 (by decide) h8
  · exact Own.mono (Own.agree ho.live (k2.agree fun k _ h8 e => by subst e; obtain ⟨h8, -⟩ := h8; rcases h8 with h8 | h8 | h8 <;> first | omega | exact h8)) fun k h8 => by
      obtain ⟨h8, h9⟩ := h8
      rcases h8 with h8 | h8 | h8
      · exact lab1_of h0 (by decide) h8
      · exact h8.elim
      · subst h8; rw [lab1_new, if_pos h9]
  · exact (((Keep.refl _ w).alloc _).then hk fun i _ hi => by omega).then k2 fun i _ hi => by subst hi; omega
end Go.Proofs.YtfgdnakfikpmpaaGreatDoor
namespace Go.Proofs.YtfgdnakfikpmpaaGreatDoor
open Go Go.RowKit Go.Deep
theorem val_ext {a b : Val} (h1 : a.kind = b.kind) (h2 : a.num = b.num) (h3 : a.text = b.text) : a = b := by
  obtain ⟨a1, a2, a3, _⟩ := a
  obtain ⟨b1, b2, b3, _⟩ := b
  cases h1; cases h2; cases h3; rfl
theorem val_if {α : Type} (v y : Val) (A B : α) : (if v.kind = y.kind then if v.num = y.num then if v.text.toList = y.text.toList then A else B else B else B) = if y = v then A else B := by
  by_cases e : y = v
  · subst e; simp
  · rw [if_neg e]
    by_cases h1 : v.kind = y.kind
    · by_cases h2 : v.num = y.num
      · by_cases h3 : v.text.toList = y.text.toList
        · exact absurd (val_ext h1.symm h2.symm (ByteArray.ext (Array.toList_inj.1 (by simpa [ByteArray.toList_eq] using h3.symm)))) e
        · rw [if_pos h1, if_pos h2, if_neg h3]
      · rw [if_pos h1, if_neg h2]
    · rw [if_neg h1]
def idxV (l : List Val) (v : Val) : Int := match l.findIdx? fun c => decide (c = v) with
  | some i => i
  | none => -1
theorem idxV_hit {l : List Val} {v : Val} {k : Nat} (hk : k < l.length) (h : l[k] = v) (hn : ∀ j (hj : j < l.length), j < k → l[j] ≠ v) : l.findIdx? (fun c => decide (c = v)) = some k := by
  rw [List.findIdx?_eq_some_iff_getElem]
  exact ⟨hk, by simpa using h, fun j hj => by simpa using hn j (by omega) hj⟩
theorem idxV_miss {l : List Val} {v : Val} (hn : ∀ j (hj : j < l.length), l[j] ≠ v) : l.findIdx? (fun c => decide (c = v)) = none := by
  rw [List.findIdx?_eq_none_iff]
  intro x hx
  obtain ⟨j, hj, rfl⟩ := List.getElem_of_mem hx
  simpa using hn j hj
set_option maxRecDepth 10000 in
set_option maxHeartbeats 4000000 in
theorem indexV_any (w : World) (S : Nat → Prop) (a : Option Addr) (c : Nat) (l : List Val) (v : Val) (h : Rd (.slice valueSh) w S [.slice a l.length c] l) (hl : l.length ≤ 1048576) :
    Calls Tryz.prog 261 #[.slice a l.length c, .agg #[.int .i64 v.kind, .int .i64 v.num, .string v.text]] w fun e w' => e = .returned (.int .i64 (idxV l v)) ∧ RowKit.Hid (Keep No w w') := by
  have K1 := (Keep.refl No w).alloc (.cells #[.int .i64 v.kind, .int .i64 v.num, .string v.text] 47)
  have x1 := blk_new w (.cells #[.int .i64 v.kind, .int .i64 v.num, .string v.text] 47)
  have i20 : (l.length : Int) ≤ 1048576 := by omega
  have HX := Lib.hid (And.intro h (And.intro K1 (And.intro x1 hl)))
  clear h hl K1 x1
  go_enter Tryz.func261, Tryz.ntmps261
  go_wp2_with fail
  go_loopg [8] l.length (fun g i wr => ∃ k : Nat, k ≤ l.length ∧ g = l.length - k ∧ i = .int .i64 k ∧ RowKit.Hid ((∀ j (hj : j < l.length), j < k → l[j] ≠ v) ∧ Keep No w wr ∧ wr.heap[w.heap.size]? = some (.cells #[.int .i64 v.kind, .int .i64 v.num, .string v.text] 47 (0, 0))))
  case atStart => exact ⟨0, by omega, by omega, rfl, fun j hj h => absurd h (Nat.not_lt_zero _), HX.out.2.1, HX.out.2.2.1⟩
  case round =>
    obtain ⟨k, hk, rfl, rfl, HR⟩ := hrel
    by_cases hlt : k < l.length
    · have j1 : (k : Int) < l.length := by omega
      have j0 : (0 : Int) ≤ k := by omega
      have K9 := HR.out.2.1.drew
      have x9 := (Keep.refl No wr).drew.blk HR.out.2.2 (fun x => x)
      have q9 := blk_cell x9
      have z9 := blk_fro x9
      obtain ⟨b, off, ha, hb, -, p0, p1, p2, hI, hs⟩ := vals_get (HX.out.1.agree _ K9.agreeNo) k hlt
      have HN := Lib.hid (And.intro (fun h : l[k] = v => idxV_hit hlt h HR.out.1) (fun h : l[k] ≠ v => show ∀ j (hj : j < l.length), j < k + 1 → l[j] ≠ v from fun j hj h1 => by
        by_cases h3 : j < k
        · exact HR.out.1 j hj h3
        · obtain rfl : j = k := by omega
          exact h))
      subst ha
      clear hb hI hs
      have HK := Lib.hid (And.intro K9 x9)
      clear K9 x9
      generalize l[k] = y at *
      go_upto_region 4 with fail
      refine wp_region_canw [0, 1, 2, 3, 4, 5] [] [] (by kernel_rfl) (by kernel_rfl) (by kernel_rfl) (by kernel_rfl) (by intro c a d v w h; cases d <;> exact h) ?_
      generalize wr.drew = w5 at *
      iterate 5 (refine canw_sil rfl rfl (fun K hK => ?_); go_simp; refine hK _ ?_; clear hK K)
      refine canw_sil rfl rfl (fun K hK => ?_)
      go_simp
      rw [val_if]
      by_cases he : y = v
      · have HE := Lib.hid (HN.out.1 he)
        rw [if_pos he]
        refine ⟨rfl, hK _ ?_⟩
        clear hK K he HN
        refine canw_nil ?_
        go_wp2_with fail
        go_ret
        unfold idxV
        rw [HE.out]
        exact ⟨rfl, HK.out.1⟩
      · have HE := Lib.hid (HN.out.2 he)
        rw [if_neg he]
        refine ⟨rfl, hK _ ?_⟩
        clear hK K he HN
        refine canw_nil ?_
        go_wp2_with fail
        go_roundg (l.length - (k + 1))
        case measure => omega
        case rel => exact ⟨k + 1, by omega, rfl, by simp, HE.out, HK.out.1, HK.out.2⟩
    · obtain rfl : k = l.length := by omega
      have j1 : ¬ (l.length : Int) < l.length := by omega
      have HE := Lib.hid (idxV_miss fun j hj => HR.out.1 j hj hj)
      clear hk hlt
      go_wp2_with fail
      go_ret
      unfold idxV
      rw [HE.out]
      exact ⟨rfl, HR.out.2.1⟩
end Go.Proofs.YtfgdnakfikpmpaaGreatDoor
namespace Go.Proofs.YtfgdnakfikpmpaaGreatDoor
open Go Go.RowKit Go.Deep
def SrcTo (w : World) (lab : Nat → Nat) (B m : Nat) (x : AsmS) (w' : World) : Prop :=
  ∃ lab' v1 v2 v4 v5, SrcAt w' lab' B m x v1 v2 v4 v5 ∧ (∀ k, k < w.heap.size → lab' k = lab k) ∧ Keep (fun k => lab k ≠ 0) w w'
theorem SrcTo.same {w w' : World} {lab : Nat → Nat} {B m : Nat} {x : AsmS} {v1 v2 v4 v5 : Value} (h : SrcAt w lab B m x v1 v2 v4 v5) (hk : Keep No w w') : SrcTo w lab B m x w' :=
  ⟨lab, v1, v2, v4, v5, h.keep hk (fun _ _ x => x), fun _ _ => rfl, hk.mono fun _ _ x => x.elim⟩
def GivesC (w : World) (lab : Nat → Nat) (B m : Nat) (y : AsmS × Int × Int) (e : Ending) (w' : World) : Prop :=
  e = .returned (.tuple #[.int .i64 y.2.1, .int .i64 y.2.2]) ∧ RowKit.Hid (SrcTo w lab B m y.1 w')
theorem constS_none {x : AsmS} {s : ByteArray} (h : valOf s = none) : constS x s = (x, 0, 62) := by unfold constS; rw [h]
theorem constS_zero {x : AsmS} {s : ByteArray} {v : Val} (h : valOf s = some v) (hk : v.kind = 0) : constS x s = (x, 0, 62) := by unfold constS; rw [h]; exact if_pos hk
theorem constS_old {x : AsmS} {s : ByteArray} {v : Val} {i : Nat} (h : valOf s = some v) (hk : ¬ v.kind = 0) (hi : x.consts.findIdx? (fun c => decide (c = v)) = some i) : constS x s = (x, (i : Int), 0) := by
  unfold constS; rw [h]; simp only [if_neg hk]; rw [hi]
theorem constS_full {x : AsmS} {s : ByteArray} {v : Val} (h : valOf s = some v) (hk : ¬ v.kind = 0) (hi : x.consts.findIdx? (fun c => decide (c = v)) = none) (hl : x.consts.length = 32) : constS x s = (x, 0, 6) := by
  unfold constS; rw [h]; simp only [if_neg hk]; rw [hi]; exact if_pos hl
theorem constS_new {x : AsmS} {s : ByteArray} {v : Val} (h : valOf s = some v) (hk : ¬ v.kind = 0) (hi : x.consts.findIdx? (fun c => decide (c = v)) = none) (hl : ¬ x.consts.length = 32) : constS x s = ({ x with consts := x.consts ++ [v] }, (x.consts.length : Int), 0) := by
  unfold constS; rw [h]; simp only [if_neg hk]; rw [hi]; exact if_neg hl
set_option maxRecDepth 10000 in
set_option maxHeartbeats 4000000 in
theorem constant_any (w : World) (lab : Nat → Nat) (B m : Nat) (x : AsmS) (v1 v2 v4 v5 : Value) (h : SrcAt w lab B m x v1 v2 v4 v5) (s : ByteArray) (hs : s.size ≤ 1048576) (he : Errs w) (hc : x.consts.length ≤ 32) :
    Calls Tryz.prog 235 #[.pointer (some ⟨B, 0, none⟩), .string s] w (GivesC w lab B m (constS x s)) := by
  have hp := vParse_any s hs w he
  obtain ⟨a1, c1, rfl, -⟩ := Own.form h.cs
  have i32 : (x.consts.length : Int) ≤ 32 := by omega
  have hidx : ∀ (v : Val) W, Keep No w W → Calls Tryz.prog 261 #[.slice a1 x.consts.length c1, .agg #[.int .i64 v.kind, .int .i64 v.num, .string v.text]] W fun e w' => e = .returned (.int .i64 (idxV x.consts v)) ∧ RowKit.Hid (Keep No W w') := fun v W hW => indexV_any W _ a1 c1 x.consts v (Own.rd (h.keep hW (fun _ _ x => x)).cs) (by omega)
  have HH := Lib.hid (And.intro h (And.intro hidx hc))
  clear hs he h hidx hc
  obtain ⟨y, hy⟩ : ∃ y, constS x s = y := ⟨_, rfl⟩
  rw [hy]
  go_enter Tryz.func235, Tryz.ntmps235
  go_upto_region 2 with (go_at_call 260; refine hp.mono ?_; clear hp; rintro e w8 ⟨v, er, at', rfl, H8⟩)
  have hv : valOf s = if er = 0 then some v else none := valOf_of H8.out.1 H8.out.2.2.1.1 H8.out.2.2.1.2
  have K9 := H8.out.2.2.2.alloc (.cells #[.int .i64 v.kind, .int .i64 v.num, .string v.text] 47)
  have x9 := blk_new w8 (.cells #[.int .i64 v.kind, .int .i64 v.num, .string v.text] 47)
  have q9 := blk_cell x9
  have r9 := blk_cell (K9.blk HH.out.1.blk (fun x => x))
  by_cases h1 : er = 0
  · subst h1
    rw [if_pos rfl] at hv
    by_cases h2 : v.kind = 0
    · have b2 : (v.kind == 0) = true := by simpa using h2
      rw [constS_zero hv h2] at hy
      subst hy
      have HS := Lib.hid (SrcTo.same HH.out.1 K9)
      clear h2 hv K9 x9
      go_wp2_with fail
      go_ret2
      exact ⟨rfl, HS⟩
    · have b2 : (v.kind == 0) = false := by simpa using h2
      have HX := Lib.hid (And.intro K9 (And.intro x9 (And.intro H8.out.1 (And.intro H8.out.2.1 (And.intro hv h2)))))
      have HI := Lib.hid (HH.out.2.1 v _ K9.drew)
      clear h2 hv K9 x9 H8
      go_upto_region 4 with fail
      generalize w8.heap.size = b0 at *
      generalize (w8.alloc (.cells #[.int .i64 v.kind, .int .i64 v.num, .string v.text] 47)) = w9 at *
      have qd := blk_cell (w := w9.drew) HX.out.2.1
      have rd := blk_cell (w := w9.drew) (HX.out.1.blk HH.out.1.blk (fun x => x))
      refine wp_region_canw [0, 1, 2, 3, 4, 5, 6, 7] [6] [] (by kernel_rfl) (by kernel_rfl) (by kernel_rfl) (by kernel_rfl) (by intro c a d v w h; cases d <;> exact h) ?_
      iterate 6 (refine canw_sil rfl rfl (fun K hK => ?_); go_simp; refine hK _ ?_; clear hK K)
      refine canw_loud [] rfl rfl rfl (fun K hK => ?_)
      go_wp2_with (go_at_call 261; refine HI.out.mono ?_; clear HI; rintro e w10 ⟨rfl, HK⟩)
      refine Mid.normal (hK _ _ stabs_nil ?_)
      clear hK K
      have K10 := HX.out.1.drew.trans HK.out
      have x10 : w10.heap[b0]? = _ := HK.out.blk (w := w9.drew) HX.out.2.1 (fun x => x)
      have q10 := blk_cell x10
      have r10 := blk_cell (K10.blk HH.out.1.blk (fun x => x))
      clear q9 r9 qd rd
      cases hf : x.consts.findIdx? (fun c => decide (c = v)) with
      | some i =>
        have hix : idxV x.consts v = i := by unfold idxV; rw [hf]
        rw [constS_old HX.out.2.2.2.2.1 HX.out.2.2.2.2.2 hf] at hy
        subst hy
        have g0 : (0 : Int) ≤ i := by omega
        have HS := Lib.hid (SrcTo.same HH.out.1 K10)
        rw [hix]
        clear hf hix K10 x10
        iterate 1 (refine canw_sil rfl rfl (fun K hK => ?_); go_simp; refine hK _ ?_; clear hK K)
        refine canw_nil ?_
        go_wp2_with fail
        go_ret2
        exact ⟨rfl, HS⟩
      | none =>
        have hix : idxV x.consts v = -1 := by unfold idxV; rw [hf]
        rw [hix]
        clear hix
        iterate 1 (refine canw_sil rfl rfl (fun K hK => ?_); go_simp; refine hK _ ?_; clear hK K)
        refine canw_nil ?_
        by_cases hl : x.consts.length = 32
        · have b3 : ((x.consts.length : Int) == 32) = true := by simp; omega
          rw [constS_full HX.out.2.2.2.2.1 HX.out.2.2.2.2.2 hf hl] at hy
          subst hy
          have HS := Lib.hid (SrcTo.same HH.out.1 K10)
          clear hf hl K10 x10
          go_wp2_with fail
          go_ret2
          exact ⟨rfl, HS⟩
        · have b3 : ((x.consts.length : Int) == 32) = false := by simp; omega
          rw [constS_new HX.out.2.2.2.2.1 HX.out.2.2.2.2.2 hf hl] at hy
          subst hy
          have HS := HH.out.1.keep K10.drew (fun _ _ x => x)
          obtain ⟨a, c, w11, lab', hap, hb11, hsrc, hlab, hk11⟩ := HS.addCs v ⟨HX.out.2.2.1, by have := HX.out.2.2.2.1; omega⟩ (by have := HH.out.2.2; omega)
          have qe := blk_cell (w := w10.drew) x10
          have re := blk_cell HS.blk
          have rf := blk_cell (blk_alloc (o' := .cells #[.int .i64 v.kind, .int .i64 v.num, .string v.text] 47) HS.blk)
          have rg := blk_cell hb11
          have zg := blk_fro hb11
          have rh := blk_cell hsrc.blk
          have HF := Lib.hid (show SrcTo w lab B m { x with consts := x.consts ++ [v] } (w11.setCell ⟨B, 1, none⟩ (.slice a (x.consts.length + 1) c)) from ⟨lab', _, _, _, _, hsrc, fun k hk => hlab k (Nat.lt_of_lt_of_le hk K10.drew.size), (K10.drew.mono fun _ _ x => x.elim).trans hk11⟩)
          have HL := Lib.hid (And.intro hf hl)
          clear hf hl K10 x10 HS hb11 hsrc hlab hk11
          go_upto_region 9 with fail
          generalize hwx : w10.drew = wx at *
          refine wp_region_canw [0, 1, 2, 3, 4, 5, 6, 7, 8, 9, 10, 11, 12] [7, 8, 12] [(0, 7), (1, 7), (2, 7), (3, 7), (4, 7), (5, 7), (0, 8)] (by kernel_rfl) (by kernel_rfl) (by kernel_rfl) (by kernel_rfl) (by intro c a d v w h; cases d <;> exact h) ?_
          iterate 7 (refine canw_sil rfl rfl (fun K hK => ?_); go_simp; refine hK _ ?_; clear hK K)
          refine canw_loud [0, 1, 2, 3, 4, 5] rfl rfl rfl (fun K hK => ?_)
          go_wp2_with fail
          refine Mid.normal (hK _ _ ?_ ?_)
          · simp only [List.forall_mem_cons]
            refine ⟨?_, ?_, ?_, ?_, ?_, ?_, stabs_nil⟩ <;> exact stab_of rfl (fun K hK => by go_simp; exact hK)
          clear hK K
          refine canw_loud [0] rfl rfl rfl (fun K hK => ?_)
          refine wpList_app rfl (.tmp 45) (.tmp 47) 24 24 rfl rfl rfl hap ?_
          go_wp2_with fail
          refine Mid.normal (hK _ _ ?_ ?_)
          · simp only [List.forall_mem_cons]
            refine ⟨?_, stabs_nil⟩ <;> exact stab_of rfl (fun K hK => by go_simp; exact hK)
          clear hK K
          iterate 3 (refine canw_sil rfl rfl (fun K hK => ?_); go_simp; refine hK _ ?_; clear hK K)
          refine canw_loud [] rfl rfl rfl (fun K hK => ?_)
          go_wp2_with fail
          refine Mid.normal (hK _ _ stabs_nil ?_)
          clear hK K
          refine canw_nil ?_
          generalize (w11.setCell ⟨B, 1, none⟩ (.slice a (x.consts.length + 1) c)) = w12 at *
          clear hap re rf rg zg qe
          go_wp2_with fail
          go_ret2
          exact ⟨by simp, HF⟩
  · have b1 : (er != 0) = true := by simpa using h1
    rw [if_neg h1] at hv
    rw [constS_none hv] at hy
    subst hy
    have HS := Lib.hid (SrcTo.same HH.out.1 K9)
    clear h1 hv K9 x9
    go_wp2_with fail
    go_ret2
    exact ⟨rfl, HS⟩
end Go.Proofs.YtfgdnakfikpmpaaGreatDoor
namespace Go.Proofs.YtfgdnakfikpmpaaGreatDoor
open Go Go.RowKit Go.Deep
def GivesS (w : World) (lab : Nat → Nat) (B m : Nat) (y : AsmS × Int) (e : Ending) (w' : World) : Prop :=
  e = .returned (.int .i64 y.2) ∧ RowKit.Hid (SrcTo w lab B m y.1 w')
theorem SrcAt.putL {w w' : World} {lab : Nat → Nat} {B m : Nat} {x : AsmS} {v1 v2 v4 v5 : Value} (h : SrcAt w lab B m x v1 v2 v4 v5) {L : List (ByteArray × Nat)} (hp : IntMap w' m L) (hk : Keep (One m) w w') : SrcAt w' lab B m { x with labs := L } v1 v2 v4 v5 := by
  have hb := h.lB
  have hm := h.lm
  refine ⟨hk.blk h.blk (fun e => by have : B = m := e; subst this; omega), hb, hm, fun k h1 => Nat.lt_of_lt_of_le (h.lt k h1) hk.size, Own.agree h.cs (hk.agree fun k _ h1 e => ?_), Own.agree h.cd (hk.agree fun k _ h1 e => ?_), Own.agree h.us (hk.agree fun k _ h1 e => ?_), Own.agree h.wh (hk.agree fun k _ h1 e => ?_), hp⟩ <;> (have : k = m := e; subst this; omega)
set_option maxRecDepth 10000 in
set_option maxHeartbeats 4000000 in
theorem label_any (w : World) (lab : Nat → Nat) (B m : Nat) (x : AsmS) (v1 v2 v4 v5 : Value) (h : SrcAt w lab B m x v1 v2 v4 v5) (s : ByteArray) (hs : s.size ≤ 1048576) (hl : x.labs.length ≤ 1048576) :
    Calls Tryz.prog 192 #[.pointer (some ⟨B, 0, none⟩), .string s] w (GivesS w lab B m (labelS x s)) := by
  have hn := asName_any s (by omega) w
  have hlk := look_int h.mp s (by omega) w (Keep.refl No w)
  obtain ⟨a2, c2, rfl, -⟩ := Own.form h.cd
  have r0 := blk_cell h.blk
  have HH := Lib.hid (And.intro h (And.intro hs hl))
  clear hs h hl
  obtain ⟨y, hy⟩ : ∃ y, labelS x s = y := ⟨_, rfl⟩
  rw [hy]
  unfold labelS at hy
  cases hnm : nameOk s with
  | false =>
    rw [if_pos hnm] at hy
    rw [hnm] at hn
    subst hy
    have HS := Lib.hid (SrcTo.same HH.out.1 (Keep.refl No w))
    clear hlk hnm
    go_enter Tryz.func192, Tryz.ntmps192
    go_wp2_with (go_at_call 231; refine hn.mono ?_; clear hn; rintro e w8 ⟨rfl, rfl⟩)
    go_ret
    exact ⟨rfl, HS⟩
  | true =>
    rw [if_neg (by rw [hnm]; decide)] at hy
    rw [hnm] at hn
    cases hla : labAt x.labs s with
    | some k =>
      rw [hla] at hlk hy
      subst hy
      have HS := Lib.hid (SrcTo.same HH.out.1 (Keep.refl No w))
      clear hnm hla
      go_enter Tryz.func192, Tryz.ntmps192
      go_wp2_with (go_at_call 231; refine hn.mono ?_; clear hn; rintro e w8 ⟨rfl, rfl⟩)
      go_ret
      exact ⟨rfl, HS⟩
    | none =>
      rw [hla] at hlk hy
      subst hy
      obtain ⟨w', hput, hmp, hk⟩ := put_int HH.out.1.mp HH.out.2.2 s x.code.length hla (by have := HH.out.2.1; omega) w.drew (Keep.refl No w).drew
      have HS := Lib.hid (show SrcTo w lab B m { x with labs := x.labs ++ [(s, x.code.length)] } w' from ⟨lab, _, _, _, _, (HH.out.1.keep (Keep.refl No w).drew (fun _ _ x => x)).putL hmp hk, fun _ _ => rfl, ((Keep.refl (fun k => lab k ≠ 0) w).drew).trans (hk.mono fun k _ e => by have e1 : k = m := e; subst e1; rw [HH.out.1.lm]; decide)⟩)
      have rd := blk_cell (w := w.drew) HH.out.1.blk
      clear hnm hla hmp hk
      go_enter Tryz.func192, Tryz.ntmps192
      go_upto_region 6 with (go_at_call 231; refine hn.mono ?_; clear hn; rintro e w8 ⟨rfl, rfl⟩)
      refine wp_region_canw [0, 1, 2, 3, 4, 5, 6, 7, 8, 9, 10, 11] [11] [] (by kernel_rfl) (by kernel_rfl) (by kernel_rfl) (by kernel_rfl) (by intro c a d v w h; cases d <;> exact h) ?_
      iterate 11 (refine canw_sil rfl rfl (fun K hK => ?_); go_simp; refine hK _ ?_; clear hK K)
      refine canw_loud [] rfl rfl rfl (fun K hK => ?_)
      go_wp2_with fail
      refine Mid.normal (hK _ _ stabs_nil ?_)
      clear hK K
      refine canw_nil ?_
      clear hput r0 rd
      go_wp2_with fail
      go_ret
      exact ⟨rfl, HS⟩
set_option maxRecDepth 10000 in
set_option maxHeartbeats 4000000 in
theorem args_any (w : World) (lab : Nat → Nat) (B m : Nat) (x : AsmS) (v1 v2 v4 v5 : Value) (h : SrcAt w lab B m x v1 v2 v4 v5) (he : Errs w) (a : Option Addr) (c : Nat) (l : List ByteArray) (S : Nat → Prop) (hr : Rd (.slice .str) w S [.slice a l.length c] l) (hs : ∀ t ∈ l, t.size ≤ 1048576) (hl : x.labs.length ≤ 1048576) :
    Calls Tryz.prog 194 #[.pointer (some ⟨B, 0, none⟩), .slice a l.length c] w (GivesS w lab B m (argsS x l)) := by
  have hln := len_int h.mp w
  obtain ⟨a2, c2, rfl, -⟩ := Own.form h.cd
  have r0 := blk_cell h.blk
  have z0 := blk_fro h.blk
  obtain ⟨y, hy⟩ : ∃ y, argsS x l = y := ⟨_, rfl⟩
  rw [hy]
  unfold argsS at hy
  have HH := Lib.hid (And.intro h (And.intro he (And.intro hs (And.intro hl hr))))
  have HLN := Lib.hid (fun ty => hln ty (Keep.refl No w))
  clear h he hs hl hr hln
  have hln := HLN.out
  obtain ⟨nl, hnl⟩ : ∃ nl, x.labs.length = nl := ⟨_, rfl⟩
  obtain ⟨nc, hnc⟩ : ∃ nc, x.code.length = nc := ⟨_, rfl⟩
  rw [hnl] at hln hy
  rw [hnc] at r0 hy
  by_cases h1 : x.given = true ∨ 0 < nl ∨ 0 < nc
  · rw [if_pos h1] at hy
    subst hy
    have HS := Lib.hid (SrcTo.same HH.out.1 (Keep.refl No w))
    obtain ⟨gv, hgv⟩ : ∃ gv, x.given = gv := ⟨_, rfl⟩
    rw [hgv] at r0 h1
    cases gv with
    | true =>
      clear h1 hgv
      go_enter Tryz.func194, Tryz.ntmps194
      go_wp2_with fail
      go_ret
      exact ⟨rfl, HS⟩
    | false =>
      by_cases h2 : 0 < nl
      · have j2 : (0 : Int) < nl := by omega
        clear h1 hgv hnl hnc
        go_enter Tryz.func194, Tryz.ntmps194
        go_wp2_with fail
        go_ret
        exact ⟨rfl, HS⟩
      · obtain rfl : nl = 0 := by omega
        have j3 : 0 < nc := by
          rcases h1 with h | h | h
          · cases h
          · omega
          · omega
        have j4 : (0 : Int) < nc := by omega
        clear h1 hgv h2 hnl hnc
        go_enter Tryz.func194, Tryz.ntmps194
        go_wp2_with fail
        go_ret
        exact ⟨rfl, HS⟩
  · rw [if_neg h1] at hy
    have hgv : x.given = false := by cases hg : x.given with | true => exact absurd (.inl hg) h1 | false => rfl
    obtain rfl : nl = 0 := by omega
    obtain rfl : nc = 0 := by omega
    have HNL := Lib.hid (And.intro hnl hnc)
    clear hnl hnc
    rw [hgv] at r0
    by_cases h4 : l.length = 1
    · obtain ⟨t, rfl⟩ : ∃ t, l = [t] := by
        match l, h4 with
        | [t], _ => exact ⟨t, rfl⟩
      have j4 : (([t].length : Nat) : Int) = 1 := rfl
      obtain ⟨b, off, ha, hcell, -⟩ := strs_get HH.out.2.2.2.2 0 (by simp)
      subst ha
      have hnum := asNumber_any t (HH.out.2.2.1 t (by simp)) w HH.out.2.1
      simp only at hy
      simp only [Nat.add_zero, List.getElem_cons_zero] at hcell
      have HLk := Lib.hid (And.intro hgv h1)
      clear h4 hgv h1
      go_enter Tryz.func194, Tryz.ntmps194
      go_upto_region 6 with (go_at_call 233; refine hnum.mono ?_; clear hnum; rintro e w8 ⟨n, ok, rfl, H8⟩)
      have r8 := blk_cell (H8.out.2.2.2.blk HH.out.1.blk (fun x => x))
      have z8 := blk_fro (H8.out.2.2.2.blk HH.out.1.blk (fun x => x))
      rw [H8.out.2.2.1] at hy
      clear r0 z0 hcell hln
      cases ok with
      | false =>
        rw [if_neg (by decide)] at hy
        subst hy
        have HS := Lib.hid (SrcTo.same HH.out.1 H8.out.2.2.2)
        go_wp2_with fail
        go_ret
        exact ⟨rfl, HS⟩
      | true =>
        rw [if_pos rfl] at hy
        simp only at hy
        by_cases h5 : n < 0
        · rw [if_pos (.inl h5)] at hy
          subst hy
          have HS := Lib.hid (SrcTo.same HH.out.1 H8.out.2.2.2)
          go_wp2_with fail
          go_ret
          exact ⟨rfl, HS⟩
        · by_cases h6 : 8 < n
          · rw [if_pos (.inr h6)] at hy
            subst hy
            have HS := Lib.hid (SrcTo.same HH.out.1 H8.out.2.2.2)
            go_wp2_with fail
            go_ret
            exact ⟨rfl, HS⟩
          · rw [if_neg (by omega)] at hy
            subst hy
            have hb := H8.out.2.2.2.blk HH.out.1.blk (fun x => x)
            have k1 : Keep (fun k => k = B) w8 ((w8.setCell ⟨B, 6, none⟩ (.bool true)).setCell ⟨B, 0, none⟩ (.int .i64 n)) := (keep_set _ _ _ _).trans (keep_set _ _ _ _)
            have h8 := HH.out.1.keep H8.out.2.2.2 (fun _ _ x => x)
            have HS := Lib.hid (show SrcTo w lab B m { x with given := true, args := n } ((w8.setCell ⟨B, 6, none⟩ (.bool true)).setCell ⟨B, 0, none⟩ (.int .i64 n)) from by
              have hB := h8.lB
              have hM := h8.lm
              refine ⟨lab, _, _, _, _, ⟨by simpa using blk_set (blk_set hb 6 (.bool true)) 0 (.int .i64 n), hB, hM, fun k h1 => Nat.lt_of_lt_of_le (h8.lt k h1) k1.size, Own.agree h8.cs (k1.agree fun k _ h1 e => ?_), Own.agree h8.cd (k1.agree fun k _ h1 e => ?_), Own.agree h8.us (k1.agree fun k _ h1 e => ?_), Own.agree h8.wh (k1.agree fun k _ h1 e => ?_), h8.mp.keep k1 (fun e => by rw [e] at hM; omega)⟩, fun _ _ => rfl, (H8.out.2.2.2.mono fun _ _ x => x.elim).trans (k1.mono fun k _ e => by subst e; omega)⟩ <;> (subst e; omega))
            clear hb k1 h8
            go_wp2_with fail
            go_ret
            exact ⟨rfl, HS⟩
    · have j4 : ((l.length : Int) != 1) = true := by simp; omega
      have hy2 : (x, (62 : Int)) = y := by
        rw [← hy]
        match l, h4 with
        | [], _ => rfl
        | [t], h => exact absurd rfl h
        | _ :: _ :: _, _ => rfl
      subst hy2
      have HS := Lib.hid (SrcTo.same HH.out.1 (Keep.refl No w))
      clear h1 hgv h4 hy
      go_enter Tryz.func194, Tryz.ntmps194
      go_wp2_with fail
      go_ret
      exact ⟨rfl, HS⟩
end Go.Proofs.YtfgdnakfikpmpaaGreatDoor
namespace Go.Proofs.YtfgdnakfikpmpaaGreatDoor
open Go Go.RowKit Go.Deep
theorem opKind (op : Int) : (opAt op).2.1 = 0 ∨ (opAt op).2.1 = 1 ∨ (opAt op).2.1 = 2 ∨ (opAt op).2.1 = 3 := by
  unfold opAt
  split
  · rename_i h
    obtain ⟨k, rfl⟩ : ∃ k : Nat, op = k := ⟨op.toNat, by omega⟩
    have hk : k < 32 := by omega
    rw [Int.toNat_natCast]
    have hall : ∀ k : Fin 32, (opsL.getD k.val (⟨#[]⟩, 0, 0, 0)).2.1 = 0 ∨ (opsL.getD k.val (⟨#[]⟩, 0, 0, 0)).2.1 = 1 ∨ (opsL.getD k.val (⟨#[]⟩, 0, 0, 0)).2.1 = 2 ∨ (opsL.getD k.val (⟨#[]⟩, 0, 0, 0)).2.1 = 3 := by decide
    exact hall ⟨k, hk⟩
  · exact .inl rfl
theorem opOf_wf (t : ByteArray) : (Lit.int .i64 (opOf t)).wf = true := by
  have : 0 ≤ opOf t ∧ opOf t ≤ 31 := by
    unfold opOf
    cases hf : (opsL.drop 1).findIdx? (fun x => decide (x.1 = t)) with
    | none => exact ⟨Int.le_refl 0, show (0 : Int) ≤ 31 by decide⟩
    | some k =>
      have := (List.findIdx?_eq_some_iff_getElem.1 hf).1
      rw [List.length_drop, opsL_len] at this
      simp only
      omega
  exact wf_i64q (by omega) (by omega)
structure AsmS.Fit (x : AsmS) (n : Nat) : Prop where
  cs : x.consts.length ≤ 32
  cd : x.code.length ≤ 256
  us : x.uses.length = x.code.length
  wh : x.wher.length = x.code.length
  lb : x.labs.length ≤ n
  a0 : 0 ≤ x.args
  a8 : x.args ≤ 8
theorem constS_fit {x : AsmS} {n : Nat} (h : x.Fit n) (s : ByteArray) : (constS x s).1.Fit n := by
  unfold constS
  cases valOf s with
  | none => exact h
  | some v =>
    simp only
    split
    · exact h
    · cases hf : x.consts.findIdx? (fun c => decide (c = v)) with
      | some i => exact h
      | none =>
        simp only
        split
        · exact h
        · exact ⟨by simp; have := h.cs; omega, h.cd, h.us, h.wh, h.lb, h.a0, h.a8⟩
theorem constS_err {x : AsmS} {s : ByteArray} (h : (constS x s).2.2 ≠ 0) : (constS x s).1 = x := by
  cases hv : valOf s with
  | none => rw [constS_none hv]
  | some v =>
    by_cases hk : v.kind = 0
    · rw [constS_zero hv hk]
    · cases hf : x.consts.findIdx? (fun c => decide (c = v)) with
      | some i => rw [constS_old hv hk hf]
      | none =>
        by_cases hl : x.consts.length = 32
        · rw [constS_full hv hk hf hl]
        · rw [constS_new hv hk hf hl] at h; exact absurd rfl h
theorem constS_num {x : AsmS} {n : Nat} (h : x.Fit n) (s : ByteArray) : 0 ≤ (constS x s).2.1 ∧ (constS x s).2.1 ≤ 32 := by
  have h1 := h.cs
  unfold constS
  cases valOf s with
  | none => exact ⟨Int.le_refl 0, show (0 : Int) ≤ 32 by decide⟩
  | some v =>
    simp only
    split
    · exact ⟨Int.le_refl 0, show (0 : Int) ≤ 32 by decide⟩
    · cases hf : x.consts.findIdx? (fun c => decide (c = v)) with
      | some i =>
        have := (List.findIdx?_eq_some_iff_getElem.1 hf).1
        simp only
        omega
      | none =>
        simp only
        split
        · exact ⟨Int.le_refl 0, show (0 : Int) ≤ 32 by decide⟩
        · simp only; omega
theorem SrcTo.from' {w w4 w' : World} {lab : Nat → Nat} {B m : Nat} {x : AsmS} (hk : Keep No w w4) (h : SrcTo w4 lab B m x w') : SrcTo w lab B m x w' := by
  obtain ⟨lab', v1, v2, v4, v5, h1, h2, h3⟩ := h
  exact ⟨lab', v1, v2, v4, v5, h1, fun k hk' => h2 k (Nat.lt_of_lt_of_le hk' hk.size), (hk.mono fun _ _ x => x.elim).trans h3⟩
theorem SrcTo.step {w w1 w2 : World} {lab lab1 : Nat → Nat} {B m : Nat} {y : AsmS} (hl : ∀ k, k < w.heap.size → lab1 k = lab k) (hk : Keep (fun k => lab k ≠ 0) w w1) (h : SrcTo w1 lab1 B m y w2) : SrcTo w lab B m y w2 := by
  obtain ⟨lab', v1, v2, v4, v5, h1, h2, h3⟩ := h
  exact ⟨lab', v1, v2, v4, v5, h1, fun k hk' => (h2 k (Nat.lt_of_lt_of_le hk' hk.size)).trans (hl k hk'), hk.then h3 fun i hi h => by rw [← hl i hi]; exact h⟩
theorem SrcTo.setF {w w4 w5 : World} {lab : Nat → Nat} {B m : Nat} {x : AsmS} (hk : Keep No w w4) (h : SrcTo w4 lab B m x w5) {b0 : Nat} (h0 : w.heap.size ≤ b0) (h1 : b0 < w4.heap.size) (hl : lab b0 = 0) (j : Nat) (v : Value) : SrcTo w lab B m x (w5.setCell ⟨b0, j, none⟩ v) := by
  obtain ⟨lab', v1, v2, v4, v5, h1', h2, h3⟩ := h
  have k1 : Keep (fun k => k = b0) w5 (w5.setCell ⟨b0, j, none⟩ v) := keep_set _ _ _ _
  exact ⟨lab', _, _, _, _, h1'.keep k1 (fun k hk e => by subst e; rw [h2 _ h1, hl] at hk; exact hk rfl), fun k hk' => h2 k (Nat.lt_of_lt_of_le hk' hk.size), ((hk.mono fun _ _ x => x.elim).trans h3).then k1 fun i hi e => by subst e; omega⟩
def MidI (x : AsmS) (l : List ByteArray) (at' op : Int) (x1 : AsmS) (N : Int) (tw : ByteArray) (er : Int) : Prop :=
  instrS x l at' = (if er ≠ 0 then (x1, er) else pushS x1 op N tw at') ∧ (Lit.int .i64 N).wf = true ∧ tw.size ≤ 1048576 ∧ x1.code = x.code ∧ x1.uses = x.uses ∧ x1.wher = x.wher
theorem instrS_ok {x : AsmS} {l : List ByteArray} {at' op kind : Int} (h0 : opOf (l.getD 0 noText) = op) (hz : ¬ op = 0) (hk : (opAt op).2.1 = kind) (hl : (l.length : Int) - 1 = min kind 1) :
    instrS x l at' = (if kind = 1 then (let c := constS x (l.getD 1 noText); if c.2.2 ≠ 0 then (x, c.2.2) else pushS c.1 op c.2.1 noText at')
      else if kind = 2 then (match numOf (l.getD 1 noText) with
        | some n => if n < 0 ∨ x.args ≤ n then (x, 62) else pushS x op n noText at'
        | none => (x, 62))
      else if kind = 3 then (if nameOk (l.getD 1 noText) = false then (x, 63) else pushS x op 0 (l.getD 1 noText) at')
      else pushS x op 0 noText at') := by
  unfold instrS
  rw [h0]
  simp only [hk]
  rw [if_neg hz, if_neg (fun h => h hl)]
  rfl
theorem wf_small {n : Int} (h0 : -9223372036854775808 ≤ n) (h1 : n ≤ 9223372036854775807) : (Lit.int .i64 n).wf = true := wf_i64q h0 h1
theorem mid_0 {x : AsmS} {l : List ByteArray} {at' op : Int} (h0 : opOf (l.getD 0 noText) = op) (hz : ¬ op = 0) (hk : (opAt op).2.1 = 0) (hl : (l.length : Int) - 1 = min 0 1) : MidI x l at' op x 0 noText 0 := by
  refine ⟨?_, by decide, by decide, rfl, rfl, rfl⟩
  rw [instrS_ok h0 hz hk hl]
  rfl
theorem mid_1 {x : AsmS} {l : List ByteArray} {at' op : Int} {n : Nat} (hf : x.Fit n) (h0 : opOf (l.getD 0 noText) = op) (hz : ¬ op = 0) (hk : (opAt op).2.1 = 1) (hl : (l.length : Int) - 1 = min 1 1) :
    MidI x l at' op (constS x (l.getD 1 noText)).1 (constS x (l.getD 1 noText)).2.1 noText (constS x (l.getD 1 noText)).2.2 := by
  have hn := constS_num hf (l.getD 1 noText)
  refine ⟨?_, wf_small (by omega) (by omega), by decide, ?_⟩
  · rw [instrS_ok h0 hz hk hl, if_pos rfl]
    simp only
    by_cases h : (constS x (l.getD 1 noText)).2.2 = 0
    · rw [if_neg (fun e => e h), if_neg (fun e => e h)]
    · rw [if_pos h, if_pos h, constS_err h]
  · cases hv : valOf (l.getD 1 noText) with
    | none => rw [constS_none hv]; exact ⟨rfl, rfl, rfl⟩
    | some v =>
      by_cases hk : v.kind = 0
      · rw [constS_zero hv hk]; exact ⟨rfl, rfl, rfl⟩
      · cases hf : x.consts.findIdx? (fun c => decide (c = v)) with
        | some i => rw [constS_old hv hk hf]; exact ⟨rfl, rfl, rfl⟩
        | none =>
          by_cases hl : x.consts.length = 32
          · rw [constS_full hv hk hf hl]; exact ⟨rfl, rfl, rfl⟩
          · rw [constS_new hv hk hf hl]; exact ⟨rfl, rfl, rfl⟩
theorem mid_2 {x : AsmS} {l : List ByteArray} {at' op N : Int} {ok : Bool} (h0 : opOf (l.getD 0 noText) = op) (hz : ¬ op = 0) (hk : (opAt op).2.1 = 2) (hl : (l.length : Int) - 1 = min 2 1) (hw : (Lit.int .i64 N).wf = true) (hn : numOf (l.getD 1 noText) = if ok = true then some N else none) :
    MidI x l at' op x N noText (if (!ok || decide (N < 0) || decide (x.args ≤ N)) = true then 62 else 0) := by
  refine ⟨?_, hw, by decide, rfl, rfl, rfl⟩
  rw [instrS_ok h0 hz hk hl, if_neg (by decide), if_pos rfl, hn]
  cases ok with
  | false => rfl
  | true =>
    simp only [if_true]
    by_cases h : N < 0 ∨ x.args ≤ N
    · rw [if_pos h]
      have : (!true || decide (N < 0) || decide (x.args ≤ N)) = true := by simpa using h
      rw [if_pos this]
      rfl
    · rw [if_neg h]
      have : ¬ (!true || decide (N < 0) || decide (x.args ≤ N)) = true := by simpa using h
      rw [if_neg this]
      rfl
theorem mid_3 {x : AsmS} {l : List ByteArray} {at' op : Int} (h0 : opOf (l.getD 0 noText) = op) (hz : ¬ op = 0) (hk : (opAt op).2.1 = 3) (hl : (l.length : Int) - 1 = min 3 1) (hs : (l.getD 1 noText).size ≤ 1048576) :
    MidI x l at' op x 0 (l.getD 1 noText) (if nameOk (l.getD 1 noText) = true then 0 else 63) := by
  refine ⟨?_, by decide, hs, rfl, rfl, rfl⟩
  rw [instrS_ok h0 hz hk hl, if_neg (by decide), if_neg (by decide), if_pos rfl]
  cases nameOk (l.getD 1 noText) <;> rfl
set_option maxRecDepth 10000 in
set_option maxHeartbeats 4000000 in
theorem instr_any (w : World) (lab : Nat → Nat) (B m : Nat) (x : AsmS) (v1 v2 v4 v5 : Value) (h : SrcAt w lab B m x v1 v2 v4 v5) (n : Nat) (hf : x.Fit n) (hn : n ≤ 1048576) (he : Errs w) (a : Option Addr) (c : Nat) (l : List ByteArray) (S : Nat → Prop) (hr : Rd (.slice .str) w S [.slice a l.length c] l) (hs : ∀ t ∈ l, t.size ≤ 1048576) (hne : 0 < l.length) (hll : l.length ≤ 1048576) (at' : Int) (ha : 0 ≤ at' ∧ at' ≤ 1048576) :
    Calls Tryz.prog 195 #[.pointer (some ⟨B, 0, none⟩), .slice a l.length c, .int .i64 at'] w (GivesS w lab B m (instrS x l at')) := by
  obtain ⟨b, off, rfl, hc0, -⟩ := strs_get hr 0 hne
  have hg0 : l.getD 0 noText = l[0] := by rw [List.getD_eq_getElem?_getD, List.getElem?_eq_getElem hne, Option.getD_some]
  rw [Nat.add_zero] at hc0
  have hop := op_any l[0] w
  obtain ⟨op, hopE⟩ : ∃ op, opOf l[0] = op := ⟨_, rfl⟩
  rw [hopE] at hop
  have i20 : (l.length : Int) ≤ 1048576 := by omega
  have hc1 : 1 < l.length → ∀ W, Keep No w W → W.cell? ⟨b, off + 1, none⟩ = some (.string (l.getD 1 noText)) := fun h1 W hW => by
    obtain ⟨b', off', e, hc, -⟩ := strs_get (hr.agree _ hW.agreeNo) 1 h1
    simp only [Option.some.injEq, Addr.mk.injEq, and_true] at e
    obtain ⟨rfl, rfl⟩ := e
    rw [hc, List.getD_eq_getElem?_getD, List.getElem?_eq_getElem h1, Option.getD_some]
  have hs1 : (l.getD 1 noText).size ≤ 1048576 := by
    rw [List.getD_eq_getElem?_getD]
    by_cases h1 : 1 < l.length
    · rw [List.getElem?_eq_getElem h1, Option.getD_some]; exact hs _ (List.getElem_mem _)
    · rw [List.getElem?_eq_none (by omega), Option.getD_none]; decide
  have hB0 : ∀ k, w.heap.size ≤ k → lab k = 0 := fun k hk => Classical.byContradiction fun hh => by have := h.lt k hh; omega
  have HC1 := Lib.hid (And.intro hc1 (And.intro hs1 hB0))
  have HH := Lib.hid (And.intro h (And.intro hf (And.intro hn (And.intro he (And.intro hr (And.intro hs (And.intro hne ha)))))))
  have HO := Lib.hid (And.intro hg0 hopE)
  clear h hf hn he hr hs ha hg0 hopE hc1 hs1 hB0 hll
  obtain ⟨y, hy⟩ : ∃ y, instrS x l at' = y := ⟨_, rfl⟩
  rw [hy]
  by_cases h0 : op = 0
  · subst h0
    have HS := Lib.hid (show y = (x, 61) by
      rw [← hy]
      unfold instrS
      rw [HO.out.1, HO.out.2]
      exact if_pos rfl)
    clear hy
    go_enter Tryz.func195, Tryz.ntmps195
    go_wp2_with (go_at_call 234; refine hop.mono ?_; clear hop; rintro e w2 ⟨rfl, HK⟩)
    go_ret
    rw [HS.out]
    exact ⟨rfl, SrcTo.same HH.out.1 HK.out⟩
  · have b0 : (op == 0) = false := by simpa using h0
    have hpd := fun W => operand_g op W
    obtain ⟨kind, hk⟩ : ∃ kind, (opAt op).2.1 = kind := ⟨_, rfl⟩
    have hkk := opKind op
    rw [hk] at hpd hkk
    have HK := Lib.hid (And.intro hy (And.intro h0 (And.intro hk hkk)))
    clear hy h0 hk hkk
    go_enter Tryz.func195, Tryz.ntmps195
    go_upto_region 5 with (go_at_call 234; refine hop.mono ?_; clear hop; rintro e w2 ⟨rfl, HK2⟩)
    have x3 := blk_new w2 (.cells #[.int .i64 op, .int .i64 0] 144)
    have K3 := HK2.out.alloc (.cells #[.int .i64 op, .int .i64 0] 144)
    have HX := Lib.hid (And.intro x3 (And.intro K3 HK2.out.size))
    clear x3 K3 HK2
    generalize w2.heap.size = b0 at *
    generalize (w2.alloc (.cells #[.int .i64 op, .int .i64 0] 144)) = w3 at *
    go_upto_if 29 with (go_at_call 128; refine (hpd _).mono ?_; clear hpd; rintro e w4 ⟨rfl, HK4⟩)
    have x4 := HK4.out.blk HX.out.1 (fun x => x)
    have K4 := HX.out.2.1.trans HK4.out
    have HX4 := Lib.hid (And.intro x4 (And.intro K4 HX.out.2.2))
    clear x4 K4 HX
    by_cases hlen : (l.length : Int) - 1 = min kind 1
    · have b1 : ((l.length : Int) - 1 != min kind 1) = false := by simpa using hlen
      have HL := Lib.hid hlen
      clear hlen
      go_upto_block 0 with fail
      go_cut [9, 11] (fun t u wx => ∃ (x1 : AsmS) (N : Int) (tw : ByteArray) (er : Int), t = .string tw ∧ u = .int .i64 er ∧ RowKit.Hid (MidI x l at' op x1 N tw er ∧ SrcTo w lab B m x1 wx ∧ wx.heap[b0]? = some (.cells #[.int .i64 op, .int .i64 N] 144 (0, 0))))
      case first =>
        have h0 : opOf (l.getD 0 noText) = op := HO.out.1 ▸ HO.out.2
        have HO2 := Lib.hid h0
        clear h0
        have hk4 := HK.out.2.2.2
        rcases hk4 with e | e | e | e
        · subst e
          have HM := Lib.hid (mid_0 (x := x) (at' := at') HO2.out HK.out.2.1 HK.out.2.2.1 HL.out)
          go_wp2_with fail
          go_meet
          case rel => exact ⟨x, 0, noText, 0, rfl, rfl, HM.out, SrcTo.same HH.out.1 HX4.out.2.1, HX4.out.1⟩
        · subst e
          have hl1 : 1 < l.length := by have := HL.out; omega
          have hc1 := HC1.out.1 hl1 w4 HX4.out.2.1
          have HM := Lib.hid (mid_1 (x := x) (at' := at') HH.out.2.1 HO2.out HK.out.2.1 HK.out.2.2.1 HL.out)
          have hcst := (constant_any w4 lab B m x v1 v2 v4 v5 (HH.out.1.keep HX4.out.2.1 (fun _ _ x => x)) (l.getD 1 noText) HC1.out.2.1 (HH.out.2.2.2.1.keep HX4.out.2.1) HH.out.2.1.cs).mono (R' := fun e w5 => e = .returned (.tuple #[.int .i64 (constS x (l.getD 1 noText)).2.1, .int .i64 (constS x (l.getD 1 noText)).2.2]) ∧ w5.heap[b0]? = some (.cells #[.int .i64 op, .int .i64 0] 144 (0, 0)) ∧ RowKit.Hid (SrcTo w4 lab B m (constS x (l.getD 1 noText)).1 w5)) (by
            rintro e w5 ⟨rfl, h5⟩
            obtain ⟨lab', _, _, _, _, h6, h7, h8⟩ := h5.out
            exact ⟨rfl, h8.blk HX4.out.1 (fun h => h (HC1.out.2.2 b0 HX4.out.2.2)), h5.out⟩)
          generalize constS x (l.getD 1 noText) = C at *
          obtain ⟨x1, N, er⟩ := C
          have j1 : (1 : Int) < l.length := by omega
          clear hl1
          go_wp2_with (go_at_call 235; refine hcst.mono ?_; clear hcst; rintro e w5 ⟨rfl, x5, H5⟩; have q5 := blk_cell x5; have z5 := blk_fro x5)
          go_meet
          case rel => exact ⟨x1, N, noText, er, rfl, rfl, HM.out, SrcTo.setF HX4.out.2.1 H5.out HX4.out.2.2 (blk_lt HX4.out.1) (HC1.out.2.2 b0 HX4.out.2.2) 1 _, by simpa using blk_set x5 1 (.int .i64 N)⟩
        · subst e
          have hl1 : 1 < l.length := by have := HL.out; omega
          have hc1 := HC1.out.1 hl1 w4 HX4.out.2.1
          have hnum := asNumber_any (l.getD 1 noText) HC1.out.2.1 w4 (HH.out.2.2.2.1.keep HX4.out.2.1)
          have j1 : (1 : Int) < l.length := by omega
          clear hl1
          go_upto_region 14 with (go_at_call 233; refine hnum.mono ?_; clear hnum; rintro e w5 ⟨N, ok, rfl, H5⟩)
          have x5 := H5.out.2.2.2.blk HX4.out.1 (fun x => x)
          have q5 := blk_cell x5
          have z5 := blk_fro x5
          have r5 := blk_cell ((HX4.out.2.1.trans H5.out.2.2.2).blk HH.out.1.blk (fun x => x))
          have HM := Lib.hid (mid_2 (x := x) (at' := at') HO2.out HK.out.2.1 HK.out.2.2.1 HL.out (wf_small H5.out.1 H5.out.2.1) H5.out.2.2.1)
          have HZ := Lib.hid (And.intro (show SrcTo w lab B m x (w5.setCell ⟨b0, 1, none⟩ (.int .i64 N)) from SrcTo.setF HX4.out.2.1 (SrcTo.same (HH.out.1.keep HX4.out.2.1 (fun _ _ x => x)) H5.out.2.2.2) HX4.out.2.2 (blk_lt HX4.out.1) (HC1.out.2.2 b0 HX4.out.2.2) 1 _) (show (w5.setCell ⟨b0, 1, none⟩ (.int .i64 N)).heap[b0]? = some (.cells #[.int .i64 op, .int .i64 N] 144 (0, 0)) from by simpa using blk_set x5 1 (.int .i64 N)))
          clear x5 hc1
          obtain ⟨ar, har⟩ : ∃ ar, x.args = ar := ⟨_, rfl⟩
          rw [har] at r5 HM
          clear har
          cases ok with
          | false =>
            have HM2 := Lib.hid (show MidI x l at' op x N noText 62 from by have := HM.out; rwa [if_pos (by simp)] at this)
            go_wp2_with fail
            go_meet
            case rel => exact ⟨x, N, noText, 62, rfl, rfl, HM2.out, HZ.out⟩
          | true =>
            by_cases h1 : N < 0
            · have HM2 := Lib.hid (show MidI x l at' op x N noText 62 from by have := HM.out; rwa [if_pos (by simp [h1])] at this)
              go_wp2_with fail
              go_meet
              case rel => exact ⟨x, N, noText, 62, rfl, rfl, HM2.out, HZ.out⟩
            · by_cases h2 : ar ≤ N
              · have HM2 := Lib.hid (show MidI x l at' op x N noText 62 from by have := HM.out; rwa [if_pos (by simp [h2])] at this)
                go_wp2_with fail
                go_meet
                case rel => exact ⟨x, N, noText, 62, rfl, rfl, HM2.out, HZ.out⟩
              · have HM2 := Lib.hid (show MidI x l at' op x N noText 0 from by have := HM.out; rwa [if_neg (by simp; omega)] at this)
                go_wp2_with fail
                go_meet
                case rel => exact ⟨x, N, noText, 0, rfl, rfl, HM2.out, HZ.out⟩
        · subst e
          have hl1 : 1 < l.length := by have := HL.out; omega
          have hc1 := HC1.out.1 hl1 w4 HX4.out.2.1
          have hnm := asName_any (l.getD 1 noText) (by have := HC1.out.2.1; omega) w4
          have j1 : (1 : Int) < l.length := by omega
          have HM := Lib.hid (mid_3 (x := x) (at' := at') HO2.out HK.out.2.1 HK.out.2.2.1 HL.out HC1.out.2.1)
          clear hl1
          cases hnb : nameOk (l.getD 1 noText) with
          | false =>
            rw [hnb] at hnm HM
            have HM2 := Lib.hid (show MidI x l at' op x 0 (l.getD 1 noText) 63 from HM.out)
            clear hnb HM
            go_wp2_with (go_at_call 231; refine hnm.mono ?_; clear hnm; rintro e w8 ⟨rfl, rfl⟩)
            go_meet
            case rel => exact ⟨x, 0, _, 63, rfl, rfl, HM2.out, SrcTo.same HH.out.1 HX4.out.2.1, HX4.out.1⟩
          | true =>
            rw [hnb] at hnm HM
            have HM2 := Lib.hid (show MidI x l at' op x 0 (l.getD 1 noText) 0 from HM.out)
            clear hnb HM
            go_wp2_with (go_at_call 231; refine hnm.mono ?_; clear hnm; rintro e w8 ⟨rfl, rfl⟩)
            go_meet
            case rel => exact ⟨x, 0, _, 0, rfl, rfl, HM2.out, SrcTo.same HH.out.1 HX4.out.2.1, HX4.out.1⟩
      case rest =>
        obtain ⟨x1, N, tw, er, rfl, rfl, HM⟩ := hcut
        have hi := HK.out.1
        rw [HM.out.1.1] at hi
        by_cases her : er = 0
        · subst her
          rw [if_neg (fun h => h rfl)] at hi
          unfold pushS at hi
          obtain ⟨lab1, u1, u2, u4, u5, hS, hlb, hkp⟩ := HM.out.2.1
          obtain ⟨a2, c2, rfl, -⟩ := Own.form hS.cd
          have r0 := blk_cell hS.blk
          by_cases hfull : x1.code.length = 256
          · rw [if_pos hfull] at hi
            have HS := Lib.hid hi
            have f1 : ((x1.code.length : Int) == 256) = true := by simp; omega
            clear hS hlb hkp hi hfull
            go_wp2_with fail
            go_ret
            rw [← HS.out]
            exact ⟨rfl, HM.out.2.1⟩
          · rw [if_neg hfull] at hi
            have HS := Lib.hid hi
            have f1 : ((x1.code.length : Int) == 256) = false := by simp; omega
            have hfit := HH.out.2.1
            have hlen : x1.code.length ≤ 256 ∧ x1.uses.length ≤ 256 ∧ x1.wher.length ≤ 256 := by
              rw [HM.out.1.2.2.2.1, HM.out.1.2.2.2.2.1, HM.out.1.2.2.2.2.2, hfit.us, hfit.wh]
              have := hfit.cd
              omega
            have hwf : (Lit.int .i64 op).wf = true := by
              have hop := HO.out.2
              rw [← hop]
              exact opOf_wf _
            have hS1 := hS.keep (Keep.refl No wc).drew (fun _ _ x => x)
            obtain ⟨a, c, w7, lab2, hap, hb7, hS2, hl2, hk2⟩ := hS1.addCd (op, N, ()) ⟨hwf, HM.out.1.2.1⟩ (by omega)
            dsimp only at hap hS2
            have i7 : w7.heap[b0]? = some (.cells #[.int .i64 op, .int .i64 N] 144 (0, 0)) ∨ True := .inr trivial
            have rd := blk_cell hS1.blk
            have re := blk_cell (blk_alloc (o' := .cells #[.int .i64 op, .int .i64 N] 144) hS1.blk)
            have rf := blk_cell hb7
            have zf := blk_fro hb7
            have qd := blk_cell (w := wc.drew) HM.out.2.2
            have HL2 := Lib.hid (And.intro hS2 (And.intro hl2 (And.intro hk2 (And.intro hlb (And.intro hkp hlen)))))
            clear hS hlb hkp hi hfull hS1 hb7 hS2 hl2 hk2 hwf hfit hlen i7
            go_upto_region 25 with fail
            refine wp_region_canw [0, 1, 2, 3, 4, 5, 6, 7, 8, 9, 10, 11, 12] [7, 8, 12] [(0, 7), (1, 7), (2, 7), (3, 7), (4, 7), (5, 7), (0, 8)] (by kernel_rfl) (by kernel_rfl) (by kernel_rfl) (by kernel_rfl) (by intro c a d v w h; cases d <;> exact h) ?_
            generalize hwd : wc.drew = wd at *
            have HWD := Lib.hid hwd
            clear hwd
            iterate 7 (refine canw_sil rfl rfl (fun K hK => ?_); go_simp; refine hK _ ?_; clear hK K)
            refine canw_loud [0, 1, 2, 3, 4, 5] rfl rfl rfl (fun K hK => ?_)
            go_wp2_with fail
            refine Mid.normal (hK _ _ ?_ ?_)
            · simp only [List.forall_mem_cons]
              refine ⟨?_, ?_, ?_, ?_, ?_, ?_, stabs_nil⟩ <;> exact stab_of rfl (fun K hK => by go_simp; exact hK)
            clear hK K
            refine canw_loud [0] rfl rfl rfl (fun K hK => ?_)
            refine wpList_app rfl (.tmp 95) (.tmp 97) 25 25 rfl rfl rfl hap ?_
            go_wp2_with fail
            refine Mid.normal (hK _ _ ?_ ?_)
            · simp only [List.forall_mem_cons]
              refine ⟨?_, stabs_nil⟩ <;> exact stab_of rfl (fun K hK => by go_simp; exact hK)
            clear hK K
            iterate 3 (refine canw_sil rfl rfl (fun K hK => ?_); go_simp; refine hK _ ?_; clear hK K)
            refine canw_loud [] rfl rfl rfl (fun K hK => ?_)
            go_wp2_with fail
            refine Mid.normal (hK _ _ stabs_nil ?_)
            clear hK K
            refine canw_nil ?_
            generalize (w7.setCell ⟨B, 2, none⟩ (.slice a (x1.code.length + 1) c)) = w8 at *
            clear hap rd re rf zf qd r0
            have hS8 := HL2.out.1
            obtain ⟨a4, c4, rfl, -⟩ := Own.form hS8.us
            obtain ⟨a', c', w9, lab3, hap, hb9, hS3, hl3, hk3⟩ := hS8.addUs tw (by have := HM.out.1.2.2.1; omega) (by have := HL2.out.2.2.2.2.2; show x1.uses.length ≤ _; omega)
            dsimp only at hap hS3
            have rd := blk_cell hS8.blk
            have re := blk_cell (blk_alloc (o' := .cells #[.string tw] 9) hS8.blk)
            have rf := blk_cell hb9
            have zf := blk_fro hb9
            have HL3 := Lib.hid (And.intro hS3 (And.intro hl3 hk3))
            clear hS8 hb9 hS3 hl3 hk3
            go_upto_region 27 with (at_builtin; refine wpList_app rfl (.tmp 106) (.tmp 108) 23 23 rfl rfl rfl hap ?_)
            generalize (w9.setCell ⟨B, 4, none⟩ (.slice a' (x1.uses.length + 1) c')) = w10 at *
            clear hap rd re rf zf
            have hS10 := HL3.out.1
            obtain ⟨a5, c5, rfl, -⟩ := Own.form hS10.wh
            obtain ⟨a'', c'', w11, lab4, hap, hb11, hS4, hl4, hk4⟩ := hS10.addWh at' (wf_small (by have := HH.out.2.2.2.2.2.2.2; omega) (by have := HH.out.2.2.2.2.2.2.2; omega)) (by have := HL2.out.2.2.2.2.2; show x1.wher.length ≤ _; omega)
            dsimp only at hap hS4
            have rd := blk_cell hS10.blk
            have re := blk_cell (blk_alloc (o' := .cells #[.int .i64 at'] 3) hS10.blk)
            have rf := blk_cell hb11
            have zf := blk_fro hb11
            have HL4 := Lib.hid (And.intro hS4 (And.intro hl4 hk4))
            clear hS10 hb11 hS4 hl4 hk4
            go_wp2_with (at_builtin; refine wpList_app rfl (.tmp 116) (.tmp 118) 22 22 rfl rfl rfl hap ?_)
            go_ret
            rw [← HS.out]
            have kd : Keep No wc wd := by rw [← HWD.out]; exact (Keep.refl No wc).drew
            exact ⟨rfl, SrcTo.step HL2.out.2.2.2.1 (HL2.out.2.2.2.2.1.trans (kd.mono fun _ _ x => x.elim)) (SrcTo.step HL2.out.2.1 HL2.out.2.2.1 (SrcTo.step HL3.out.2.1 HL3.out.2.2 ⟨lab4, _, _, _, _, HL4.out.1, HL4.out.2.1, HL4.out.2.2⟩))⟩
        · rw [if_pos her] at hi
          have HS := Lib.hid hi
          have f1 : (er == 0) = false := by simpa using her
          have f2 : (er != 0) = true := by simpa using her
          clear hi her
          go_wp2_with fail
          go_ret
          rw [← HS.out]
          exact ⟨rfl, HM.out.2.1⟩
    · have b1 : ((l.length : Int) - 1 != min kind 1) = true := by simpa using hlen
      have HS := Lib.hid (show y = (x, 62) by
        rw [← HK.out.1]
        unfold instrS
        rw [HO.out.1, HO.out.2]
        simp only [HK.out.2.2.1]
        rw [if_neg HK.out.2.1, if_pos hlen])
      clear hlen
      go_wp2_with fail
      go_ret
      rw [HS.out]
      exact ⟨rfl, SrcTo.same HH.out.1 HX4.out.2.1⟩
end Go.Proofs.YtfgdnakfikpmpaaGreatDoor
namespace Go.Proofs.YtfgdnakfikpmpaaGreatDoor
open Go Go.RowKit Go.Deep
def endsC (s : ByteArray) : Bool := decide (byA s (s.size - 1) = 58)
theorem lastB (s : ByteArray) (h : 0 < s.size) : s.extract (s.size - 1) s.size = ⟨#[s[s.size - 1]'(by omega)]⟩ := by
  have := sub_one s (s.size - 1) (by omega)
  rw [show s.size - 1 + 1 = s.size by omega] at this
  exact this
set_option maxRecDepth 10000 in
set_option maxHeartbeats 4000000 in
theorem hasColon_lite (s : ByteArray) (h : 0 < s.size) (hs : s.size ≤ 1048576) (w : World) : Calls Tryz.prog 230 #[.string s, .string ⟨#[58]⟩] w fun e w' => e = .returned (.bool (endsC s)) ∧ w' = w := by
  have hl := lastB s h
  have he : endsC s = decide ((s[s.size - 1]'(by omega)).toNat = 58) := by
    unfold endsC
    rw [byA_get (by omega)]
    simp only [decide_eq_decide]
    omega
  have j1 : (1 : Int) ≤ s.size := by omega
  have j2 : (s.size : Int) ≤ 1048576 := by omega
  have j3 : ((s.size : Int) - 1).toNat = s.size - 1 := by omega
  rw [he]
  generalize s[s.size - 1]'(by omega) = c at *
  clear he h hs
  by_cases h8 : c = 58
  · subst h8
    go_enter Tryz.func230, Tryz.ntmps230
    go_wp2_with fail
    go_ret
    exact ⟨rfl, rfl⟩
  · have hne : ¬ c.toNat = 58 := fun e => h8 (UInt8.toNat_inj.1 e)
    have b1 : ((⟨#[c]⟩ : ByteArray).toList == (⟨#[58]⟩ : ByteArray).toList) = false := by
      rw [text_beq]
      exact decide_eq_false fun e => h8 (by injection e with e; simpa using e)
    go_enter Tryz.func230, Tryz.ntmps230
    go_wp2_with fail
    go_ret
    exact ⟨by simp [h8, hne], rfl⟩
theorem hasColon_any (s : ByteArray) (h : 0 < s.size) (hs : s.size ≤ 1048576) (w : World) : Calls Tryz.prog 191 #[.string s, .string ⟨#[58]⟩] w fun e w' => e = .returned (.bool (endsC s)) ∧ w' = w := by
  have hc := hasColon_lite s h hs w
  go_enter Tryz.func191, Tryz.ntmps191
  go_wp2_with (go_at_call 230; refine hc.mono ?_; clear hc; rintro e w8 ⟨rfl, rfl⟩)
  go_ret
  exact ⟨rfl, rfl⟩
theorem trimColon_lite (s : ByteArray) (h : 0 < s.size) (hs : s.size ≤ 1048576) (he : endsC s = true) (w : World) : Calls Tryz.prog 232 #[.string s, .string ⟨#[58]⟩] w fun e w' => e = .returned (.string (s.extract 0 (s.size - 1))) ∧ w' = w := by
  have hc := hasColon_lite s h hs w
  rw [he] at hc
  have j1 : (1 : Int) ≤ s.size := by omega
  have j2 : (s.size : Int) ≤ 1048576 := by omega
  have j3 : ((s.size : Int) - 1).toNat = s.size - 1 := by omega
  clear h hs he
  go_enter Tryz.func232, Tryz.ntmps232
  go_wp2_with (go_at_call 230; refine hc.mono ?_; clear hc; rintro e w8 ⟨rfl, rfl⟩)
  go_ret
  exact ⟨rfl, rfl⟩
theorem trimColon_any (s : ByteArray) (h : 0 < s.size) (hs : s.size ≤ 1048576) (he : endsC s = true) (w : World) : Calls Tryz.prog 193 #[.string s, .string ⟨#[58]⟩] w fun e w' => e = .returned (.string (s.extract 0 (s.size - 1))) ∧ w' = w := by
  have hc := trimColon_lite s h hs he w
  go_enter Tryz.func193, Tryz.ntmps193
  go_wp2_with (go_at_call 232; refine hc.mono ?_; clear hc; rintro e w8 ⟨rfl, rfl⟩)
  go_ret
  exact ⟨rfl, rfl⟩
theorem Rd.tail {s : Sh} {w : World} {S : Nat → Prop} {b off c : Nat} {x : s.T} {l : List s.T} (h : Rd (.slice s) w S [.slice (some ⟨b, off, none⟩) (l.length + 1) c] (x :: l)) : Rd (.slice s) w S [.slice (some ⟨b, off + s.size, none⟩) l.length (c - 1)] l := by
  obtain ⟨a', c', e, h1, h2, h3, h4⟩ := h
  simp only [List.cons.injEq, Value.slice.injEq, and_true] at e
  obtain ⟨rfl, -, rfl⟩ := e
  simp only [List.length_cons] at h1
  refine ⟨_, _, rfl, by omega, by omega, (fun e => by cases e), fun i hi => ?_⟩
  obtain ⟨b', off', row, e, g1, g2, g3, g4, g5⟩ := h4 (i + 1) (by simp; omega)
  simp only [Option.some.injEq, Addr.mk.injEq, and_true] at e
  obtain ⟨rfl, rfl⟩ := e
  exact ⟨b, off + s.size, row, rfl, g1, g2, g3, by rw [show off + s.size + i * s.size = off + (i + 1) * s.size by rw [Nat.add_mul]; omega]; exact g4, g5⟩
theorem tokF_mem (s : ByteArray) : ∀ (f i : Nat), ∀ t ∈ tokF s f i, 0 < t.size ∧ t.size ≤ s.size
  | 0, i, t, h => by cases h
  | f + 1, i, t, h => by
    rw [tokF] at h
    split at h
    · cases h
    · rename_i h1
      split at h
      · exact tokF_mem s f _ t h
      · rename_i h2
        have hb := tokE_bd (s := s) (i := i) (by omega) (fun hh => hh.elim (fun e => h2 (.inl e)) (fun hh => hh.elim (fun e => h2 (.inr e)) (fun e => h1 (.inr e))))
        rcases List.mem_cons.1 h with rfl | h
        · rw [ByteArray.size_extract]; omega
        · exact tokF_mem s f _ t h
theorem toks_mem {s t : ByteArray} (h : t ∈ toks s) : 0 < t.size ∧ t.size ≤ s.size := tokF_mem s _ _ t h
theorem tokF_len (s : ByteArray) : ∀ (f i : Nat), (tokF s f i).length ≤ f
  | 0, i => Nat.le_refl _
  | f + 1, i => by
    rw [tokF]
    split
    · exact Nat.zero_le _
    · split
      · exact Nat.le_succ_of_le (tokF_len s f _)
      · exact Nat.succ_le_succ (tokF_len s f _)
theorem toks_len (s : ByteArray) : (toks s).length ≤ s.size := by
  have := tokF_len s (s.size - 0) 0
  unfold toks toksA
  omega
end Go.Proofs.YtfgdnakfikpmpaaGreatDoor
namespace Go.Proofs.YtfgdnakfikpmpaaGreatDoor
open Go Go.RowKit Go.Deep
theorem lineS_bad {x : AsmS} {s : ByteArray} {k : Int} (h : cleanB s = false) : lineS x s k = (x, 60) := if_pos h
theorem lineS_none {x : AsmS} {s : ByteArray} {k : Int} (h : cleanB s = true) (ht : toks s = []) : lineS x s k = (x, 0) := by
  unfold lineS
  rw [if_neg (by rw [h]; decide), ht]
theorem lineS_label {x : AsmS} {s t : ByteArray} {l : List ByteArray} {k : Int} (h : cleanB s = true) (ht : toks s = t :: l) (h1 : ¬ byA t 0 = 34) (h2 : endsC t = true) (h3 : 0 < t.size) :
    lineS x s k = (if (labelS x (t.extract 0 (t.size - 1))).2 ≠ 0 then (x, (labelS x (t.extract 0 (t.size - 1))).2) else if l = [] then labelS x (t.extract 0 (t.size - 1)) else instrS (labelS x (t.extract 0 (t.size - 1))).1 l k) := by
  unfold lineS
  rw [if_neg (by rw [h]; decide), ht]
  unfold endsC at h2
  simp only
  rw [if_pos ⟨h1, by simpa using h2, h3⟩]
  cases l with
  | nil => simp
  | cons a l => simp
theorem lineS_args {x : AsmS} {s t : ByteArray} {l : List ByteArray} {k : Int} (h : cleanB s = true) (ht : toks s = t :: l) (h1 : byA t 0 = 34 ∨ endsC t = false) (h2 : t = argsW) : lineS x s k = argsS x l := by
  unfold lineS
  rw [if_neg (by rw [h]; decide), ht]
  simp only
  rw [if_neg (fun hh => h1.elim (fun e => hh.1 e) (fun e => by unfold endsC at e; simp at e; exact e hh.2.1)), if_pos h2]
theorem lineS_instr {x : AsmS} {s t : ByteArray} {l : List ByteArray} {k : Int} (h : cleanB s = true) (ht : toks s = t :: l) (h1 : byA t 0 = 34 ∨ endsC t = false) (h2 : ¬ t = argsW) : lineS x s k = instrS x (t :: l) k := by
  unfold lineS
  rw [if_neg (by rw [h]; decide), ht]
  simp only
  rw [if_neg (fun hh => h1.elim (fun e => hh.1 e) (fun e => by unfold endsC at e; simp at e; exact e hh.2.1)), if_neg h2]
theorem labelS_fit {x : AsmS} {n : Nat} (h : x.Fit n) (s : ByteArray) : (labelS x s).1.Fit (n + 1) := by
  have h0 : x.Fit (n + 1) := ⟨h.cs, h.cd, h.us, h.wh, by have := h.lb; omega, h.a0, h.a8⟩
  unfold labelS
  split
  · exact h0
  · split
    · exact h0
    · exact ⟨h.cs, h.cd, h.us, h.wh, by have := h.lb; simp; omega, h.a0, h.a8⟩
theorem labelS_err {x : AsmS} {s : ByteArray} (h : (labelS x s).2 ≠ 0) : (labelS x s).1 = x := by
  unfold labelS at h ⊢
  split
  · rfl
  · rename_i h1
    rw [if_neg h1] at h
    split
    · rfl
    · rename_i h2
      rw [if_neg h2] at h
      exact absurd rfl h
theorem rd_none (w : World) (b off : Nat) : Rd (.slice .str) w (fun _ => True) [.slice (some ⟨b, off, none⟩) ([] : List ByteArray).length 0] [] :=
  ⟨some ⟨b, off, none⟩, 0, rfl, Nat.le_refl _, by rw [maxLen_is]; omega, fun e => (by cases e), fun i hi => absurd hi (by simp)⟩
theorem Errs.keepL {w w' : World} {M : Nat → Prop} (h : Errs w) (hk : Keep M w w') (h1 : ¬ M 8) (h2 : ¬ M 9) : Errs w' := by
  obtain ⟨⟨a, b, g1⟩, c, d, g2⟩ := h
  exact ⟨⟨a, b, (hk.cell (World.block_lt_of_cell? _ _ g1) h1).trans g1⟩, c, d, (hk.cell (World.block_lt_of_cell? _ _ g2) h2).trans g2⟩
theorem argsW_ne : argsW.toList = [97, 114, 103, 115] := by simp [argsW, ByteArray.toList_eq]
set_option maxRecDepth 10000 in
set_option maxHeartbeats 4000000 in
theorem line_any (w : World) (lab : Nat → Nat) (B m : Nat) (x : AsmS) (v1 v2 v4 v5 : Value) (h : SrcAt w lab B m x v1 v2 v4 v5) (n : Nat) (hf : x.Fit n) (hn : n + 1 ≤ 1048576) (he : Errs w) (s : ByteArray) (hs : s.size ≤ 1048576) (at' : Int) (ha : 0 ≤ at' ∧ at' ≤ 1048576) (hgl : lab 8 = 0 ∧ lab 9 = 0) :
    Calls Tryz.prog 153 #[.pointer (some ⟨B, 0, none⟩), .string s, .int .i64 at'] w (GivesS w lab B m (lineS x s at')) := by
  have hcl := asClean_any s hs w
  have htk := asTokens_any s hs w
  have hB0 : ∀ k, w.heap.size ≤ k → lab k = 0 := fun k hk => Classical.byContradiction fun hh => by have := h.lt k hh; omega
  have HH := Lib.hid (And.intro h (And.intro hf (And.intro hn (And.intro he (And.intro hs (And.intro ha hB0))))))
  have HGL := Lib.hid hgl
  clear h hf hn he ha hB0 hgl
  obtain ⟨y, hy⟩ : ∃ y, lineS x s at' = y := ⟨_, rfl⟩
  rw [hy]
  cases hc : cleanB s with
  | false =>
    rw [lineS_bad hc] at hy
    subst hy
    rw [hc] at hcl
    clear hc htk
    go_enter Tryz.func153, Tryz.ntmps153
    go_wp2_with (go_at_call 189; refine hcl.mono ?_; clear hcl; rintro e w8 ⟨rfl, rfl⟩)
    go_ret
    exact ⟨rfl, SrcTo.same HH.out.1 (Keep.refl No _)⟩
  | true =>
    rw [hc] at hcl
    have hll := toks_len s
    have hmem := fun t (h : t ∈ toks s) => toks_mem h
    cases ht : toks s with
    | nil =>
      rw [lineS_none hc ht] at hy
      subst hy
      rw [ht] at htk
      clear hc ht hll hmem hs
      go_enter Tryz.func153, Tryz.ntmps153
      go_wp2_with (first | (go_at_call 189; refine hcl.mono ?_; clear hcl; rintro e w8 ⟨rfl, rfl⟩) | (go_at_call 190; refine htk.mono ?_; clear htk; rintro e w2 ⟨a, c, rfl, ho, hk⟩; have HK := Lib.hid (And.intro ho hk); clear ho hk))
      go_ret
      exact ⟨rfl, SrcTo.same HH.out.1 HK.out.2⟩
    | cons t l =>
      rw [ht] at htk hll hmem
      have HT := Lib.hid (And.intro hc (And.intro ht (And.intro hmem hll)))
      have t0 := (hmem t (by simp)).1
      have t1 := (hmem t (by simp)).2
      have i1 : (0 : Int) < t.size := by omega
      have hb0 := byA_get t0
      have HHC := Lib.hid (fun W => hasColon_any t t0 (by omega) W)
      have HTC := Lib.hid (fun h W => trimColon_any t t0 (by omega) h W)
      clear hc ht hll hmem hs t1
      go_enter Tryz.func153, Tryz.ntmps153
      go_upto_region 6 with (first | (go_at_call 189; refine hcl.mono ?_; clear hcl; rintro e w8 ⟨rfl, rfl⟩) | (go_at_call 190; refine htk.mono ?_; clear htk; rintro e w2 ⟨a, c, rfl, ho, hk⟩; have HK := Lib.hid (And.intro ho hk); clear ho hk))
      have hrd := Own.rd HK.out.1
      obtain ⟨b, off, ha, hcell, -⟩ := strs_get (a := a) (n := (t :: l).length) (c := c) hrd 0 (by simp)
      simp only [Nat.add_zero, List.getElem_cons_zero] at hcell
      subst ha
      have HRD := Lib.hid hrd
      clear hrd
      obtain ⟨bb, hbb⟩ : ∃ bb : Bool, bb = (decide (¬ ((t[0]'t0).toNat : Int) = 34) && endsC t) := ⟨_, rfl⟩
      have HBB := Lib.hid hbb
      go_upto_region 7 with fail
      go_cut [27] (fun u wx => u = .bool bb ∧ wx = w2)
      case first =>
        by_cases h34 : ((t[0]'t0).toNat : Int) = 34
        · have e1 : (((t[0]'t0).toNat : Int) != 34) = false := by simpa using h34
          have e2 : bb = false := by rw [hbb]; simp [h34]
          subst e2
          clear hbb h34
          go_wp2_with fail
          go_meet
          case rel => exact ⟨rfl, rfl⟩
        · have e1 : (((t[0]'t0).toNat : Int) != 34) = true := by simpa using h34
          have e2 : endsC t = bb := by rw [hbb]; simp [h34]
          have hhc := HHC.out
          rw [e2] at hhc
          clear hbb h34 e2
          go_wp2_with (go_at_call 191; refine (hhc _).mono ?_; clear hhc; rintro e w9 ⟨rfl, rfl⟩)
          go_meet
          case rel => exact ⟨rfl, rfl⟩
      case rest =>
        obtain ⟨rfl, hw⟩ := hcut
        subst hw
        clear hbb
        cases bb with
        | true =>
          have hnot : ¬ byA t 0 = 34 := fun e => by
            have := HBB.out
            rw [hb0] at e
            simp [e] at this
          have hend : endsC t = true := by
            have := HBB.out
            cases he : endsC t with
            | true => rfl
            | false => rw [he] at this; simp at this
          have htc := HTC.out hend
          rw [lineS_label HT.out.1 HT.out.2.1 hnot hend t0] at hy
          have hlb := label_any wc lab B m x v1 v2 v4 v5 (HH.out.1.keep HK.out.2 (fun _ _ x => x)) (t.extract 0 (t.size - 1)) (by rw [ByteArray.size_extract]; have := (HT.out.2.2.1 t (by simp)).2; have := HH.out.2.2.2.2.1; omega) (by have := HH.out.2.1.lb; have := HH.out.2.2.1; omega)
          have HFT := Lib.hid (And.intro (labelS_fit HH.out.2.1 (t.extract 0 (t.size - 1))) (labelS_err (x := x) (s := t.extract 0 (t.size - 1))))
          obtain ⟨z, hz⟩ : ∃ z, labelS x (t.extract 0 (t.size - 1)) = z := ⟨_, rfl⟩
          rw [hz] at hy hlb HFT
          obtain ⟨z1, z2⟩ := z
          have HY := Lib.hid hy
          clear hnot hend hy hz
          unfold GivesS at hlb
          dsimp only at hlb
          go_upto_region 9 with (first | (go_at_call 193; refine (htc _).mono ?_; clear htc; rintro e w9 ⟨rfl, rfl⟩) | (go_at_call 192; refine hlb.mono ?_; clear hlb; rintro e w9 ⟨rfl, H9⟩))
          clear hcell
          by_cases hz0 : z2 = 0
          · subst hz0
            have hy2 : (if l = [] then (z1, (0 : Int)) else instrS z1 l at') = y := by
              have := HY.out
              rwa [if_neg (fun h => h rfl)] at this
            have hcap : l.length + 1 ≤ c := by
              obtain ⟨a', c', e, h9⟩ := Own.form HK.out.1
              simp only [Value.slice.injEq] at e
              have := e.2.2
              simp at h9
              omega
            by_cases hl : l = []
            · rw [if_pos hl] at hy2
              subst hl
              subst hy2
              by_cases hc1 : c = 1
              · subst hc1
                clear hcap
                go_wp2_with fail
                go_ret
                exact ⟨rfl, SrcTo.from' HK.out.2 H9.out⟩
              · have hc2 : 1 < c := by simp at hcap; omega
                have hc3 : (1 : Int) < c := by omega
                go_wp2_with fail
                go_ret
                exact ⟨rfl, SrcTo.from' HK.out.2 H9.out⟩
            · rw [if_neg hl] at hy2
              have hlp : 0 < l.length := List.length_pos_iff.2 hl
              have hc2 : 1 < c := by omega
              have hc3 : (1 : Int) < c := by omega
              obtain ⟨lab3, u1', u2', u4', u5', hS3, hl3, hk3⟩ := H9.out
              have hrd3 : Rd (.slice .str) w9 _ [.slice (some ⟨b, off + 1, none⟩) l.length (c - 1)] l := (Rd.tail (s := .str) HRD.out).agree _ (hk3.agree fun i hi hf hM => hM (HH.out.2.2.2.2.2.2 i hf.1))
              have hin := (instr_any w9 lab3 B m z1 u1' u2' u4' u5' hS3 (n + 1) HFT.out.1 HH.out.2.2.1 ((HH.out.2.2.2.1.keep HK.out.2).keepL hk3 (fun h => h HGL.out.1) (fun h => h HGL.out.2)) (some ⟨b, off + 1, none⟩) (c - 1) l _ hrd3 (fun t' h => by have := HT.out.2.2.1 t' (List.mem_cons_of_mem _ h); have := HH.out.2.2.2.2.1; omega) hlp (by have := HT.out.2.2.2; have h8 : (t :: l).length = l.length + 1 := rfl; have := HH.out.2.2.2.2.1; omega) at' HH.out.2.2.2.2.2.1).mono (R' := fun e w10 => e = .returned (.int .i64 y.2) ∧ RowKit.Hid (SrcTo _ lab B m y.1 w10)) (by
                rw [hy2]
                rintro e w10 ⟨rfl, h10⟩
                exact ⟨rfl, SrcTo.from' HK.out.2 (SrcTo.step hl3 hk3 h10.out)⟩)
              have hlz : ((l.length : Int) == 0) = false := by simp; omega
              clear hS3 hl3 hk3 hrd3 hl hcap
              go_wp2_with (go_at_call 195; refine hin.mono ?_; clear hin; rintro e w10 ⟨rfl, H10⟩)
              go_ret
              exact ⟨rfl, H10⟩
          · have f1 : (z2 != 0) = true := by simpa using hz0
            have hy2 : (x, z2) = y := by
              have := HY.out
              rwa [if_pos hz0] at this
            have hz1 : z1 = x := HFT.out.2 hz0
            subst hz1
            subst hy2
            go_wp2_with fail
            go_ret
            exact ⟨rfl, SrcTo.from' HK.out.2 H9.out⟩
        | false =>
          have hnot : byA t 0 = 34 ∨ endsC t = false := by
            have := HBB.out
            rw [hb0]
            by_cases h34 : ((t[0]'t0).toNat : Int) = 34
            · exact .inl h34
            · right
              cases he : endsC t with
              | false => rfl
              | true => rw [he] at this; simp [h34] at this
          by_cases hargs : t = argsW
          · rw [lineS_args HT.out.1 HT.out.2.1 hnot hargs] at hy
            have hg : (t.toList == argsW.toList) = true := by rw [text_beq]; exact decide_eq_true hargs
            rw [argsW_ne] at hg
            clear hnot hargs
            have hcap : l.length + 1 ≤ c := by
              obtain ⟨a', c', e, h9⟩ := Own.form HK.out.1
              simp only [Value.slice.injEq] at e
              have := e.2.2
              simp at h9
              omega
            by_cases hc1 : c = 1
            · subst hc1
              obtain rfl : l = [] := List.length_eq_zero_iff.1 (by omega)
              have hag := args_any wc lab B m x v1 v2 v4 v5 (HH.out.1.keep HK.out.2 (fun _ _ x => x)) (HH.out.2.2.2.1.keep HK.out.2) (some ⟨b, off, none⟩) 0 [] (fun _ => True) (rd_none wc b off) (fun t' h => by cases h) (by have := HH.out.2.1.lb; have := HH.out.2.2.1; omega)
              rw [hy] at hag
              clear hcap
              go_wp2_with (go_at_call 194; refine hag.mono ?_; clear hag; rintro e w9 ⟨rfl, H9⟩)
              go_ret
              exact ⟨rfl, SrcTo.from' HK.out.2 H9.out⟩
            · have hag := args_any wc lab B m x v1 v2 v4 v5 (HH.out.1.keep HK.out.2 (fun _ _ x => x)) (HH.out.2.2.2.1.keep HK.out.2) (some ⟨b, off + 1, none⟩) (c - 1) l _ (Rd.tail (s := .str) HRD.out) (fun t' h => by have := HT.out.2.2.1 t' (List.mem_cons_of_mem _ h); have := HH.out.2.2.2.2.1; omega) (by have := HH.out.2.1.lb; have := HH.out.2.2.1; omega)
              rw [hy] at hag
              have hc2 : 1 < c := by omega
              have hc3 : (1 : Int) < c := by omega
              go_wp2_with (go_at_call 194; refine hag.mono ?_; clear hag; rintro e w9 ⟨rfl, H9⟩)
              go_ret
              exact ⟨rfl, SrcTo.from' HK.out.2 H9.out⟩
          · rw [lineS_instr HT.out.1 HT.out.2.1 hnot hargs] at hy
            have hg : (t.toList == argsW.toList) = false := by rw [text_beq]; exact decide_eq_false hargs
            rw [argsW_ne] at hg
            have hin := (instr_any wc lab B m x v1 v2 v4 v5 (HH.out.1.keep HK.out.2 (fun _ _ x => x)) n HH.out.2.1 (by have := HH.out.2.2.1; omega) (HH.out.2.2.2.1.keep HK.out.2) (some ⟨b, off, none⟩) c (t :: l) _ HRD.out (fun t' h => by have := HT.out.2.2.1 t' h; have := HH.out.2.2.2.2.1; omega) (by simp) (by have := HT.out.2.2.2; have := HH.out.2.2.2.2.1; omega) at' HH.out.2.2.2.2.2.1)
            rw [hy] at hin
            clear hnot hargs
            go_wp2_with (go_at_call 195; refine hin.mono ?_; clear hin; rintro e w9 ⟨rfl, H9⟩)
            go_ret
            exact ⟨rfl, SrcTo.from' HK.out.2 H9.out⟩
end Go.Proofs.YtfgdnakfikpmpaaGreatDoor
