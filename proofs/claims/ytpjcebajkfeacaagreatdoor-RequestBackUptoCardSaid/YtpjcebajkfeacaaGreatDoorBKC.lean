/-
  Parts of what is proved for this claim; each declaration is one of the seat's texts.
-/
import Derived.Test.YtpjcebajkfeacaaGreatDoorBGA
import Derived.Test.YtpjcebajkfeacaaGreatDoorBGC
import Derived.Test.YtpjcebajkfeacaaGreatDoorBGD
import Derived.Test.YtpjcebajkfeacaaGreatDoorBGF
import Derived.Test.YtpjcebajkfeacaaGreatDoorBGI
import Derived.Test.YtpjcebajkfeacaaGreatDoorBGJ
import Derived.Test.YtpjcebajkfeacaaGreatDoorBGK
import Derived.Test.YtpjcebajkfeacaaGreatDoorBGQ
import Derived.Test.YtpjcebajkfeacaaGreatDoorBGU
import Derived.Test.YtpjcebajkfeacaaGreatDoorBGV
import Derived.Test.YtpjcebajkfeacaaGreatDoorBHA
import Derived.Test.YtpjcebajkfeacaaGreatDoorBHF
import Derived.Test.YtpjcebajkfeacaaGreatDoorBHG
import Derived.Test.YtpjcebajkfeacaaGreatDoorBHJ
import Derived.Test.YtpjcebajkfeacaaGreatDoorBHL
import Derived.Test.YtpjcebajkfeacaaGreatDoorBHN
import Derived.Test.YtpjcebajkfeacaaGreatDoorBKA
import Derived.Test.YtpjcebajkfeacaaGreatDoorBKB
import Derived.Lib.ParseIntB
import Derived.Shelf.Pu.ParseUintPublic10
import Derived.Shelf.Strconv.ParseIntPublic10
import Derived.Shelf.Strings.Search2
import Derived.Shelf.Strings.Prefix
import Derived.Ground.MpProg
import Derived.Ground.NamesProg
import Derived.Lib.ParseIntBCases
import Derived.Lib.ParseIntBTie
set_option linter.unusedVariables false
set_option linter.unusedSimpArgs false
namespace Go.Proofs.YtpjcebajkfeacaaGreatDoor
open Go Go.RowKit Go.Deep
def TextC (s : ByteArray) (v : Val) (er : Int) : Prop := ∀ t : ByteArray, t.size ≤ 64 → plainB t = true → s.data.toList = 34 :: (quoted t.data.toList ++ [34]) → er = 0 ∧ v = mkVal 2 0 t
theorem plain_mem {t : ByteArray} (h : plainB t = true) {c : UInt8} (hc : c ∈ t.data.toList) : plainC c.toNat = true := by
  unfold plainB bytesOf at h
  rw [List.all_map, List.all_eq_true] at h
  exact h c hc
theorem toB_snoc (l : List UInt8) (c : UInt8) : toB (l ++ [c]) = toB l ++ [(c.toNat : Int)] := by simp [toB]
set_option maxRecDepth 10000 in
set_option maxHeartbeats 4000000 in
theorem parseText_any (s : ByteArray) (hq : s.data.toList.head? = some 34) (hs : s.size ≤ 1048576) (w : World) : Calls Tryz.prog 164 #[.string s] w (GivesVP (TextC s) w) := by
  have x0 := blk_new w (.cells #[.int .i64 0, .int .i64 0, .string ⟨#[]⟩] 96)
  have K0 := (Keep.refl No w).alloc (.cells #[.int .i64 0, .int .i64 0, .string ⟨#[]⟩] 96)
  have hlen : s.data.toList.length = s.size := by simp
  have i20 : (s.size : Int) ≤ 1048576 := by omega
  have h1s : 1 ≤ s.size := by rw [← hlen]; cases h : s.data.toList with | nil => rw [h] at hq; cases hq | cons a l => simp
  have HS := Lib.hid (And.intro hq (And.intro hs hlen))
  clear hs hq hlen
  go_enter Tryz.func164, Tryz.ntmps164
  go_upto_region 1 with fail
  have HX := Lib.hid (And.intro x0 K0)
  have HWA := Lib.hid (show w.heap.size < (w.alloc (.cells #[.int .i64 0, .int .i64 0, .string ⟨#[]⟩] 96)).heap.size by simp)
  clear x0 K0
  generalize (w.alloc (.cells #[.int .i64 0, .int .i64 0, .string ⟨#[]⟩] 96)) = wa at *
  go_wp2_with fail
  go_loopg [5, 6] (s.size - 1) (fun g v i wr => ∃ (k : Nat) (t : List UInt8), 1 ≤ k ∧ k ≤ s.size ∧ g = s.size - k ∧ i = .int .i64 k ∧ RowKit.Hid (Tx s.data.toList k t ∧ t.length ≤ 64 ∧ OwnB wa wr v (toB t)))
  case atStart => exact ⟨1, [], by omega, by omega, rfl, rfl, Tx.start HS.out.1, Nat.zero_le _, Own.nil _ _ _ _, Keep.refl No _⟩
  case round =>
    obtain ⟨k, t, hk1, hks, rfl, rfl, HR⟩ := hrel
    obtain ⟨av, cv, hv, -⟩ := Own.form HR.out.2.2.1
    subst hv
    have R9 := HR.out.2.2.2.blk HX.out.1 (fun x => x)
    have K9 := HX.out.2.trans HR.out.2.2.2
    have c9 := blk_cell R9
    have z9 := blk_fro R9
    have htl : (toB t).length = t.length := by simp [toB]
    have h64 := HR.out.2.1
    rw [htl]
    have HTL := Lib.hid htl
    clear htl
    by_cases hlt : k < s.size
    · have j1 : (k : Int) < s.size := by omega
      have j0 : (0 : Int) ≤ k := by omega
      have hl : k < s.data.toList.length := by rw [HS.out.2.2]; exact hlt
      have eget := byte_get s k hlt
      by_cases hc : (s[k]'hlt) = 34
      · have b0 : (((s[k]'hlt).toNat : Int) == 34) = true := by rw [hc]; rfl
        obtain ⟨hm1, hm2⟩ := HR.out.1.mark hl (by rw [← eget]; exact hc)
        by_cases hE : k + 1 < s.size
        · have e1 : (k : Int) + 1 < s.size := by omega
          have HV := Lib.hid (show ∀ t : ByteArray, t.size ≤ 64 → plainB t = true → s.data.toList ≠ 34 :: (quoted t.data.toList ++ [34]) from fun t _ _ h => by have := (hm2 _ h).2; have := HS.out.2.2; omega)
          clear hm1 hm2 hE hc hks hl eget
          go_wp2_with fail
          have y9 := blk_three R9 (.int .i64 0) (.int .i64 0) (.string ⟨#[]⟩)
          have k9 := keep_three K9 (b := w.heap.size) (Nat.le_refl _) (.int .i64 0) (.int .i64 0) (.string ⟨#[]⟩)
          have s9 := blk_cell y9
          refine bodyPost_ret (v := .tuple #[.agg #[.int .i64 0, .int .i64 0, .string ⟨#[]⟩], .int .i64 4, .int .i64 (k + 1)]) (by simp [results, Tryz.results164, go_sem, s9]) rfl ?_
          exact zero_vp _ _ (fun t ht hp hq => absurd hq (HV.out t ht hp)) k9
        · have e1 : ¬ (k : Int) + 1 < s.size := by omega
          have hcv := bytes_string (Own.rd HR.out.2.2.1)
          rw [HTL.out] at hcv
          have hC : TextC s (mkVal 2 0 ⟨t.toArray⟩) 0 := fun t' _ _ h => by
            have := (hm2 _ h).1
            refine ⟨rfl, ?_⟩
            congr 2
            rw [← this]
          have HC := Lib.hid hC
          have hwd := (Word_any ⟨t.toArray⟩ wr).mono (R' := fun e w8 => e = .returned (.agg #[.int .i64 2, .int .i64 0, .string ⟨t.toArray⟩]) ∧ w8.heap[w.heap.size]? = some (.cells #[.int .i64 0, .int .i64 0, .string ⟨#[]⟩] 96 (0, 0)) ∧ RowKit.Hid (Keep No w w8)) (by
            rintro e w8 ⟨rfl, hk⟩
            exact ⟨rfl, hk.blk R9 (fun x => x), K9.trans hk⟩)
          clear hm1 hm2 hE hc hks hl eget R9 K9 c9 z9 hC
          go_wp2_with (go_at_call 122; refine hwd.mono ?_; clear hwd; rintro e w8 ⟨rfl, R8, K8⟩; have c8 := blk_cell R8; have z8 := blk_fro R8)
          have y9 := blk_three R8 (.int .i64 2) (.int .i64 0) (.string ⟨t.toArray⟩)
          have k9 := keep_three K8.out (b := w.heap.size) (Nat.le_refl _) (.int .i64 2) (.int .i64 0) (.string ⟨t.toArray⟩)
          have s9 := blk_cell y9
          refine bodyPost_ret (v := .tuple #[.agg #[.int .i64 2, .int .i64 0, .string ⟨t.toArray⟩], .int .i64 0, .int .i64 0]) (by simp [results, Tryz.results164, go_sem, s9]) rfl ?_
          exact ⟨mkVal 2 0 ⟨t.toArray⟩, 0, 0, rfl, ⟨show (-9223372036854775808 : Int) ≤ 2 by decide, show (2 : Int) ≤ 9223372036854775807 by decide, show (-9223372036854775808 : Int) ≤ 0 by decide, show (0 : Int) ≤ 9223372036854775807 by decide⟩, h64, HC.out, k9⟩
      · have b0 : (((s[k]'hlt).toNat : Int) == 34) = false := by simp; exact fun e => hc (UInt8.toNat_inj.1 (by have : (34 : UInt8).toNat = 34 := rfl; omega))
        have hmore := fun t0 h => HR.out.1.more hl (by rw [← eget]; exact hc) t0 h
        have hpl := plain_any (s[k]'hlt).toNat wr
        cases hP : plainC (s[k]'hlt).toNat with
        | false =>
          rw [hP] at hpl
          have HV := Lib.hid (show ∀ t : ByteArray, t.size ≤ 64 → plainB t = true → s.data.toList ≠ 34 :: (quoted t.data.toList ++ [34]) from fun t' _ hp h => by
            have hm := (hmore _ h).2
            rw [← eget] at hm
            have h92 : (s[k]'hlt) ≠ 92 := fun e => by rw [e] at hP; revert hP; decide
            have := plain_mem hp (hm h92)
            rw [hP] at this
            cases this)
          clear hmore hP hc hl eget hks
          go_wp2_with (go_at_call 181; refine hpl.mono ?_; clear hpl; rintro e w8 ⟨rfl, rfl⟩)
          have y9 := blk_three R9 (.int .i64 0) (.int .i64 0) (.string ⟨#[]⟩)
          have k9 := keep_three K9 (b := w.heap.size) (Nat.le_refl _) (.int .i64 0) (.int .i64 0) (.string ⟨#[]⟩)
          have s9 := blk_cell y9
          refine bodyPost_ret (v := .tuple #[.agg #[.int .i64 0, .int .i64 0, .string ⟨#[]⟩], .int .i64 21, .int .i64 k]) (by simp [results, Tryz.results164, go_sem, s9]) rfl ?_
          exact zero_vp _ _ (fun t ht hp hq => absurd hq (HV.out t ht hp)) k9
        | true =>
          rw [hP] at hpl
          clear hP
          by_cases h6 : t.length = 64
          · have b6 : ((t.length : Int) == 64) = true := by simp; omega
            have HV := Lib.hid (show ∀ t : ByteArray, t.size ≤ 64 → plainB t = true → s.data.toList ≠ 34 :: (quoted t.data.toList ++ [34]) from fun t' ht _ h => by
              have hm := (hmore _ h).1
              have h9 : t'.data.toList.length = t'.size := by simp
              omega)
            clear hmore hc hl eget hks h6
            go_wp2_with (go_at_call 181; refine hpl.mono ?_; clear hpl; rintro e w8 ⟨rfl, rfl⟩)
            have y9 := blk_three R9 (.int .i64 0) (.int .i64 0) (.string ⟨#[]⟩)
            have k9 := keep_three K9 (b := w.heap.size) (Nat.le_refl _) (.int .i64 0) (.int .i64 0) (.string ⟨#[]⟩)
            have s9 := blk_cell y9
            refine bodyPost_ret (v := .tuple #[.agg #[.int .i64 0, .int .i64 0, .string ⟨#[]⟩], .int .i64 1, .int .i64 k]) (by simp [results, Tryz.results164, go_sem, s9]) rfl ?_
            exact zero_vp _ _ (fun t ht hp hq => absurd hq (HV.out t ht hp)) k9
          · have b6 : ((t.length : Int) == 64) = false := by simp; omega
            have H65 := Lib.hid (show t.length + 1 ≤ 64 by omega)
            by_cases hs92 : (s[k]'hlt) = 92
            · have b9 : (((s[k]'hlt).toNat : Int) == 92) = true := by rw [hs92]; rfl
              by_cases hE : k + 1 < s.size
              · have e1 : ((k : Int) + 1 == (s.size : Int)) = false := by simp; omega
                have e2 : (k : Int) + 1 < s.size := by omega
                have e0 : (0 : Int) ≤ (k : Int) + 1 := by omega
                have eget1 := byte_get s (k + 1) hE
                by_cases hd : (s[k + 1]'hE) = 34 ∨ (s[k + 1]'hE) = 92
                · have hn := HR.out.1.slash (by have := HS.out.2.2; omega) (by rw [← eget]; exact hs92) (by rw [← eget1]; exact hd)
                  rw [← eget1] at hn
                  obtain ⟨a3, c3, w3, hrun, ho3⟩ := app_byte HR.out.2.2 ((s[k + 1]'hE).toNat : Int) (by omega) (by have := (s[k + 1]'hE).toNat_lt; omega) (by rw [HTL.out]; omega)
                  rw [← toB_snoc] at ho3
                  rw [HTL.out] at hrun ho3
                  have HN := Lib.hid (And.intro hn (And.intro ho3 hE))
                  have hdd : ((s[k + 1]'hE).toNat = 34) ∨ ((s[k + 1]'hE).toNat ≠ 34 ∧ (s[k + 1]'hE).toNat = 92) := by
                    rcases hd with e | e
                    · left; rw [e]; rfl
                    · right; rw [e]; exact ⟨by decide, rfl⟩
                  clear hn ho3 hd hmore hc hl eget eget1 hs92 h6 hks
                  rcases hdd with e | ⟨e, e'⟩
                  · have f1 : (((s[k + 1]'hE).toNat : Int) != 34) = false := by rw [e]; rfl
                    clear e
                    go_wp2_with (first | (go_at_call 181; refine hpl.mono ?_; clear hpl; rintro e w8 ⟨rfl, rfl⟩) | (at_builtin; refine wpList_app rfl (.tmp 62) (.tmp 64) 25 25 rfl rfl rfl hrun ?_))
                    go_roundg (s.size - (k + 2))
                    case measure => omega
                    case rel => exact ⟨k + 2, _, by omega, by have := HN.out.2.2; omega, rfl, by simp, HN.out.1, by rw [List.length_append]; exact H65.out, HN.out.2.1⟩
                  · have f1 : (((s[k + 1]'hE).toNat : Int) != 34) = true := by simp; omega
                    have f2 : (((s[k + 1]'hE).toNat : Int) != 92) = false := by rw [e']; rfl
                    clear e e'
                    go_wp2_with (first | (go_at_call 181; refine hpl.mono ?_; clear hpl; rintro e w8 ⟨rfl, rfl⟩) | (at_builtin; refine wpList_app rfl (.tmp 62) (.tmp 64) 25 25 rfl rfl rfl hrun ?_))
                    go_roundg (s.size - (k + 2))
                    case measure => omega
                    case rel => exact ⟨k + 2, _, by omega, by have := HN.out.2.2; omega, rfl, by simp, HN.out.1, by rw [List.length_append]; exact H65.out, HN.out.2.1⟩
                · have HV := Lib.hid (show ∀ t : ByteArray, t.size ≤ 64 → plainB t = true → s.data.toList ≠ 34 :: (quoted t.data.toList ++ [34]) from fun t' _ _ => HR.out.1.noslash hl (by rw [← eget]; exact hs92) (fun h2 => by rw [← eget1]; exact ⟨fun e => hd (.inl e), fun e => hd (.inr e)⟩) _)
                  have f1 : (((s[k + 1]'hE).toNat : Int) != 34) = true := by simp; exact fun e => hd (.inl (UInt8.toNat_inj.1 (by have : (34 : UInt8).toNat = 34 := rfl; omega)))
                  have f2 : (((s[k + 1]'hE).toNat : Int) != 92) = true := by simp; exact fun e => hd (.inr (UInt8.toNat_inj.1 (by have : (92 : UInt8).toNat = 92 := rfl; omega)))
                  clear hd hmore hc hl eget eget1 hs92 h6 hks
                  go_wp2_with (go_at_call 181; refine hpl.mono ?_; clear hpl; rintro e w8 ⟨rfl, rfl⟩)
                  have y9 := blk_three R9 (.int .i64 0) (.int .i64 0) (.string ⟨#[]⟩)
                  have k9 := keep_three K9 (b := w.heap.size) (Nat.le_refl _) (.int .i64 0) (.int .i64 0) (.string ⟨#[]⟩)
                  have s9 := blk_cell y9
                  refine bodyPost_ret (v := .tuple #[.agg #[.int .i64 0, .int .i64 0, .string ⟨#[]⟩], .int .i64 21, .int .i64 (k + 1)]) (by simp [results, Tryz.results164, go_sem, s9]) rfl ?_
                  exact zero_vp _ _ (fun t ht hp hq => absurd hq (HV.out t ht hp)) k9
              · have e1 : ((k : Int) + 1 == (s.size : Int)) = true := by simp; omega
                have HV := Lib.hid (show ∀ t : ByteArray, t.size ≤ 64 → plainB t = true → s.data.toList ≠ 34 :: (quoted t.data.toList ++ [34]) from fun t' _ _ => HR.out.1.noslash hl (by rw [← eget]; exact hs92) (fun h2 => absurd h2 (by rw [HS.out.2.2]; exact hE)) _)
                clear hmore hc hl eget hs92 h6 hks hE
                go_wp2_with (go_at_call 181; refine hpl.mono ?_; clear hpl; rintro e w8 ⟨rfl, rfl⟩)
                have y9 := blk_three R9 (.int .i64 0) (.int .i64 0) (.string ⟨#[]⟩)
                have k9 := keep_three K9 (b := w.heap.size) (Nat.le_refl _) (.int .i64 0) (.int .i64 0) (.string ⟨#[]⟩)
                have s9 := blk_cell y9
                refine bodyPost_ret (v := .tuple #[.agg #[.int .i64 0, .int .i64 0, .string ⟨#[]⟩], .int .i64 3, .int .i64 s.size]) (by simp [results, Tryz.results164, go_sem, s9]) rfl ?_
                exact zero_vp _ _ (fun t ht hp hq => absurd hq (HV.out t ht hp)) k9
            · have b9 : (((s[k]'hlt).toNat : Int) == 92) = false := by simp; exact fun e => hs92 (UInt8.toNat_inj.1 (by have : (92 : UInt8).toNat = 92 := rfl; omega))
              have hn := HR.out.1.letter hl (by rw [← eget]; exact hc) (by rw [← eget]; exact hs92)
              rw [← eget] at hn
              obtain ⟨a3, c3, w3, hrun, ho3⟩ := app_byte HR.out.2.2 ((s[k]'hlt).toNat : Int) (by omega) (by have := (s[k]'hlt).toNat_lt; omega) (by rw [HTL.out]; omega)
              rw [← toB_snoc] at ho3
              rw [HTL.out] at hrun ho3
              have HN := Lib.hid (And.intro hn ho3)
              clear hn ho3 hmore hc hl eget hs92 h6 hks
              go_wp2_with (first | (go_at_call 181; refine hpl.mono ?_; clear hpl; rintro e w8 ⟨rfl, rfl⟩) | (at_builtin; refine wpList_app rfl (.tmp 62) (.tmp 64) 25 25 rfl rfl rfl hrun ?_))
              go_roundg (s.size - (k + 1))
              case measure => omega
              case rel => exact ⟨k + 1, _, by omega, by omega, rfl, by simp, HN.out.1, by rw [List.length_append]; exact H65.out, HN.out.2⟩
    · obtain rfl : k = s.size := by omega
      have j1 : ¬ (s.size : Int) < s.size := by omega
      have HV := Lib.hid (show ∀ t : ByteArray, t.size ≤ 64 → plainB t = true → s.data.toList ≠ 34 :: (quoted t.data.toList ++ [34]) from fun t' _ _ => HR.out.1.over (by rw [HS.out.2.2]; exact Nat.le_refl _) _)
      clear hks hlt
      go_wp2_with fail
      have y9 := blk_three R9 (.int .i64 0) (.int .i64 0) (.string ⟨#[]⟩)
      have k9 := keep_three K9 (b := w.heap.size) (Nat.le_refl _) (.int .i64 0) (.int .i64 0) (.string ⟨#[]⟩)
      have s9 := blk_cell y9
      refine bodyPost_ret (v := .tuple #[.agg #[.int .i64 0, .int .i64 0, .string ⟨#[]⟩], .int .i64 3, .int .i64 s.size]) (by simp [results, Tryz.results164, go_sem, s9]) rfl ?_
      exact zero_vp _ _ (fun t ht hp hq => absurd hq (HV.out t ht hp)) k9
end Go.Proofs.YtpjcebajkfeacaaGreatDoor
namespace Go.Proofs.YtpjcebajkfeacaaGreatDoor
open Go Go.RowKit Go.Deep
theorem ok_print {v : Val} (h : v.ok = true) : (v = val0 ∧ v.print = noneW) ∨ (v = mkVal 1 v.num noText ∧ v.print = Lib.itoa v.num) ∨ (v = mkVal 2 0 v.text ∧ v.text.size ≤ 64 ∧ plainB v.text = true ∧ v.print = 34 :: (quoted v.text.data.toList ++ [34])) := by
  rcases Val.ok_cases h with e | ⟨hk, e⟩ | ⟨hk, e, h1, h2⟩
  · exact .inl ⟨e, by rw [e]; rfl⟩
  · exact .inr (.inl ⟨e, by unfold Val.print; rw [if_pos hk]⟩)
  · exact .inr (.inr ⟨e, h1, h2, by unfold Val.print; rw [if_neg (by omega), if_neg (by omega)]⟩)
theorem itoa_head (n : Int) : ∃ c, (Lib.itoa n).head? = some c ∧ c ≠ 34 ∧ c ≠ 110 ∧ (c = 45 ∨ dgt c) := by
  obtain ⟨d, h1, h2, h3, h4, -⟩ := num_facts n _ rfl
  have hl : 0 < (Lib.itoa n).length := by omega
  refine ⟨(Lib.itoa n)[0], by rw [List.head?_eq_getElem?, List.getElem?_eq_getElem hl], ?_⟩
  have hc : (Lib.itoa n)[0] = 45 ∨ dgt (Lib.itoa n)[0] := by
    rcases h1 with e | e
    · exact .inr (h4 0 hl (by omega))
    · have := h2.1 e
      rw [List.head?_eq_getElem?, List.getElem?_eq_getElem hl] at this
      exact .inl (Option.some.inj this)
  refine ⟨fun e => ?_, fun e => ?_, hc⟩
  · rw [e] at hc; revert hc; decide
  · rw [e] at hc; revert hc; decide
theorem vpc_text {s : ByteArray} (hh : s.data.toList.head? = some 34) {v : Val} {er : Int} (h : TextC s v er) : VpC s.data.toList v er := fun v0 hok hI hs => by
  rcases ok_print hok with ⟨e, hp⟩ | ⟨e, hp⟩ | ⟨e, h1, h2, hp⟩
  · rw [hs, hp] at hh; exact absurd hh (by decide)
  · obtain ⟨c, hc, h3, -⟩ := itoa_head v0.num
    rw [hs, hp, hc] at hh
    exact absurd (Option.some.inj hh) h3
  · obtain ⟨h3, h4⟩ := h v0.text h1 h2 (hs.trans hp)
    exact ⟨h3, h4.trans e.symm⟩
theorem vpc_num {s : ByteArray} {c : UInt8} (hh : s.data.toList.head? = some c) (hc : c ≠ 34 ∧ c ≠ 110) {v : Val} {er : Int} (h : NumC s v er) : VpC s.data.toList v er := fun v0 hok hI hs => by
  rcases ok_print hok with ⟨e, hp⟩ | ⟨e, hp⟩ | ⟨e, h1, h2, hp⟩
  · rw [hs, hp] at hh
    have : c = 110 := (Option.some.inj hh).symm
    exact absurd this hc.2
  · obtain ⟨h3, h4⟩ := h v0.num hI.n0 hI.n1 (hs.trans hp)
    exact ⟨h3, h4.trans e.symm⟩
  · rw [hs, hp] at hh
    have : c = 34 := (Option.some.inj hh).symm
    exact absurd this hc.1
theorem vpc_none {s : ByteArray} {c : UInt8} (hh : s.data.toList.head? = some c) (hc : c ≠ 34 ∧ c ≠ 45 ∧ ¬ dgt c) {v : Val} {er : Int} (h : s.data.toList = noneW → er = 0 ∧ v = val0) : VpC s.data.toList v er := fun v0 hok hI hs => by
  rcases ok_print hok with ⟨e, hp⟩ | ⟨e, hp⟩ | ⟨e, h1, h2, hp⟩
  · obtain ⟨h3, h4⟩ := h (hs.trans hp)
    exact ⟨h3, h4.trans e.symm⟩
  · obtain ⟨c', hc', -, -, h3⟩ := itoa_head v0.num
    rw [hs, hp, hc'] at hh
    obtain rfl := Option.some.inj hh
    rcases h3 with h3 | h3
    · exact absurd h3 hc.2.1
    · exact absurd h3 hc.2.2
  · rw [hs, hp] at hh
    have : c = 34 := (Option.some.inj hh).symm
    exact absurd this hc.1
theorem vpc_nil {s : List UInt8} (h : s = []) (v : Val) (er : Int) : VpC s v er := fun v0 hok hI hs => by
  rcases ok_print hok with ⟨e, hp⟩ | ⟨e, hp⟩ | ⟨e, h1, h2, hp⟩
  · rw [← hs, h] at hp; cases hp
  · rw [← hs, h] at hp; exact absurd hp.symm (itoa_letters _).2
  · rw [← hs, h] at hp; cases hp
set_option maxRecDepth 10000 in
set_option maxHeartbeats 4000000 in
theorem vParse_any (s : ByteArray) (hs : s.size ≤ 1048576) (w : World) (he : Errs w) : Calls Tryz.prog 100 #[.string s] w (GivesVP (VpC s.data.toList) w) := by
  have x0 := blk_new w (.cells #[.int .i64 0, .int .i64 0, .string ⟨#[]⟩] 96)
  have K0 := (Keep.refl No w).alloc (.cells #[.int .i64 0, .int .i64 0, .string ⟨#[]⟩] 96)
  have hlen : s.data.toList.length = s.size := by simp
  have HE := Lib.hid (And.intro he hs)
  have HX := Lib.hid (And.intro x0 K0)
  clear he hs
  by_cases h0 : s.size = 0
  · have e0 : s = ⟨#[]⟩ := by
      obtain ⟨⟨l⟩⟩ := s
      cases l with
      | nil => rfl
      | cons _ _ => simp [ByteArray.size] at h0
    subst e0
    have c9 := blk_cell x0
    have z9 := blk_fro x0
    clear hlen h0 x0 K0
    go_enter Tryz.func100, Tryz.ntmps100
    go_wp2_with fail
    refine bodyPost_ret (v := .tuple #[.agg #[.int .i64 0, .int .i64 0, .string ⟨#[]⟩], .int .i64 3, .int .i64 0]) (by simp [results, Tryz.results100, go_sem, c9]) rfl ?_
    exact zero_vp _ _ (vpc_nil rfl _ _) HX.out.2
  · have hp : 0 < s.size := by omega
    have j0 : (0 : Int) < s.size := by omega
    have hh : s.data.toList.head? = some (s[0]'hp) := by rw [List.head?_eq_getElem?, List.getElem?_eq_getElem (by omega), byte_get]
    have hne : s.toList.isEmpty = false := by rw [empty_iff]; exact decide_eq_false h0
    have wrap : ∀ {C : Val → Int → Prop} {e : Ending} {w' : World}, (∀ v er, C v er → VpC s.data.toList v er) → GivesVP C (w.alloc (.cells #[.int .i64 0, .int .i64 0, .string ⟨#[]⟩] 96)) e w' → ∃ (v : Val) (er at' : Int), e = .returned (.tuple #[.agg #[.int .i64 v.kind, .int .i64 v.num, .string v.text], .int .i64 er, .int .i64 at']) ∧ w'.heap[w.heap.size]? = some (.cells #[.int .i64 0, .int .i64 0, .string ⟨#[]⟩] 96 (0, 0)) ∧ RowKit.Hid (v.In ∧ v.text.size ≤ 64 ∧ VpC s.data.toList v er ∧ True ∧ Keep No w w') := by
      rintro C e w' hi ⟨v, er, at', he, hv⟩
      exact ⟨v, er, at', he, hv.out.2.2.2.blk HX.out.1 (fun x => x), hv.out.1, hv.out.2.1, hi _ _ hv.out.2.2.1, trivial, HX.out.2.trans hv.out.2.2.2⟩
    have heA := HE.out.1.keep HX.out.2
    have c0 := blk_cell HX.out.1
    by_cases hq : (s[0]'hp) = 34
    · have b0 : (((s[0]'hp).toNat : Int) == 34) = true := by rw [hq]; rfl
      rw [hq] at hh
      have hc := (parseText_any s hh HE.out.2 _).mono fun e w' hg => wrap (fun v er h => vpc_text hh h) hg
      clear wrap heA hq hh h0 hlen x0 K0
      go_enter Tryz.func100, Tryz.ntmps100
      go_wp2_with (go_at_call 164; refine hc.mono ?_; clear hc c0; rintro e w8 ⟨v, er, at', rfl, R8, H8⟩; have c8 := blk_cell R8; have z8 := blk_fro R8)
      have y9 := blk_three R8 (.int .i64 v.kind) (.int .i64 v.num) (.string v.text)
      have k9 := keep_three H8.out.2.2.2.2 (b := w.heap.size) (Nat.le_refl _) (.int .i64 v.kind) (.int .i64 v.num) (.string v.text)
      have s9 := blk_cell y9
      refine bodyPost_ret (v := .tuple #[.agg #[.int .i64 v.kind, .int .i64 v.num, .string v.text], .int .i64 er, .int .i64 at']) (by simp [results, Tryz.results100, go_sem, s9]) rfl ?_
      exact ⟨v, er, at', rfl, H8.out.1, H8.out.2.1, H8.out.2.2.1, k9⟩
    · have b0 : (((s[0]'hp).toNat : Int) == 34) = false := by simp; exact fun e => hq (UInt8.toNat_inj.1 (by have : (34 : UInt8).toNat = 34 := rfl; omega))
      by_cases hn : (s[0]'hp) = 45 ∨ dgt (s[0]'hp)
      · have hc := (parseNumber_any s hp HE.out.2 _ heA).mono fun e w' hg => wrap (fun v er h => vpc_num hh ⟨hq, fun e => by rw [e] at hn; revert hn; decide⟩ h) hg
        have hcase : (s[0]'hp).toNat = 45 ∨ ((s[0]'hp).toNat ≠ 45 ∧ 48 ≤ (s[0]'hp).toNat ∧ (s[0]'hp).toNat ≤ 57) := by
          rcases hn with e | e
          · left; rw [e]; rfl
          · right; exact ⟨by have := e.1; omega, e.1, e.2⟩
        clear wrap heA hq hh h0 hlen x0 K0 hn
        rcases hcase with e | ⟨e1, e2, e3⟩
        · have b1 : (((s[0]'hp).toNat : Int) == 45) = true := by rw [e]; rfl
          clear e
          go_enter Tryz.func100, Tryz.ntmps100
          go_wp2_with (go_at_call 165; refine hc.mono ?_; clear hc c0; rintro e w8 ⟨v, er, at', rfl, R8, H8⟩; have c8 := blk_cell R8; have z8 := blk_fro R8)
          have y9 := blk_three R8 (.int .i64 v.kind) (.int .i64 v.num) (.string v.text)
          have k9 := keep_three H8.out.2.2.2.2 (b := w.heap.size) (Nat.le_refl _) (.int .i64 v.kind) (.int .i64 v.num) (.string v.text)
          have s9 := blk_cell y9
          refine bodyPost_ret (v := .tuple #[.agg #[.int .i64 v.kind, .int .i64 v.num, .string v.text], .int .i64 er, .int .i64 at']) (by simp [results, Tryz.results100, go_sem, s9]) rfl ?_
          exact ⟨v, er, at', rfl, H8.out.1, H8.out.2.1, H8.out.2.2.1, k9⟩
        · have b1 : (((s[0]'hp).toNat : Int) == 45) = false := by simp; omega
          have b2 : (48 : Int) ≤ ((s[0]'hp).toNat : Int) := by omega
          have b3 : ((s[0]'hp).toNat : Int) ≤ 57 := by omega
          clear e1 e2 e3
          go_enter Tryz.func100, Tryz.ntmps100
          go_wp2_with (go_at_call 165; refine hc.mono ?_; clear hc c0; rintro e w8 ⟨v, er, at', rfl, R8, H8⟩; have c8 := blk_cell R8; have z8 := blk_fro R8)
          have y9 := blk_three R8 (.int .i64 v.kind) (.int .i64 v.num) (.string v.text)
          have k9 := keep_three H8.out.2.2.2.2 (b := w.heap.size) (Nat.le_refl _) (.int .i64 v.kind) (.int .i64 v.num) (.string v.text)
          have s9 := blk_cell y9
          refine bodyPost_ret (v := .tuple #[.agg #[.int .i64 v.kind, .int .i64 v.num, .string v.text], .int .i64 er, .int .i64 at']) (by simp [results, Tryz.results100, go_sem, s9]) rfl ?_
          exact ⟨v, er, at', rfl, H8.out.1, H8.out.2.1, H8.out.2.2.1, k9⟩
      · have hc := (parseNone_any s HE.out.2 _).mono fun e w' hg => wrap (fun v er h => vpc_none hh ⟨hq, fun e => hn (.inl e), fun e => hn (.inr e)⟩ h) hg
        have b1 : (((s[0]'hp).toNat : Int) == 45) = false := by simp; exact fun e => hn (.inl (UInt8.toNat_inj.1 (by have : (45 : UInt8).toNat = 45 := rfl; omega)))
        have hcase : (s[0]'hp).toNat < 48 ∨ (48 ≤ (s[0]'hp).toNat ∧ 57 < (s[0]'hp).toNat) := by
          have : ¬ dgt (s[0]'hp) := fun e => hn (.inr e)
          unfold dgt at this
          omega
        clear wrap heA hq hh h0 hlen x0 K0 hn
        rcases hcase with e | ⟨e1, e2⟩
        · have b2 : ¬ (48 : Int) ≤ ((s[0]'hp).toNat : Int) := by omega
          clear e
          go_enter Tryz.func100, Tryz.ntmps100
          go_wp2_with (go_at_call 166; refine hc.mono ?_; clear hc c0; rintro e w8 ⟨v, er, at', rfl, R8, H8⟩; have c8 := blk_cell R8; have z8 := blk_fro R8)
          have y9 := blk_three R8 (.int .i64 v.kind) (.int .i64 v.num) (.string v.text)
          have k9 := keep_three H8.out.2.2.2.2 (b := w.heap.size) (Nat.le_refl _) (.int .i64 v.kind) (.int .i64 v.num) (.string v.text)
          have s9 := blk_cell y9
          refine bodyPost_ret (v := .tuple #[.agg #[.int .i64 v.kind, .int .i64 v.num, .string v.text], .int .i64 er, .int .i64 at']) (by simp [results, Tryz.results100, go_sem, s9]) rfl ?_
          exact ⟨v, er, at', rfl, H8.out.1, H8.out.2.1, H8.out.2.2.1, k9⟩
        · have b2 : (48 : Int) ≤ ((s[0]'hp).toNat : Int) := by omega
          have b3 : ¬ ((s[0]'hp).toNat : Int) ≤ 57 := by omega
          clear e1 e2
          go_enter Tryz.func100, Tryz.ntmps100
          go_wp2_with (go_at_call 166; refine hc.mono ?_; clear hc c0; rintro e w8 ⟨v, er, at', rfl, R8, H8⟩; have c8 := blk_cell R8; have z8 := blk_fro R8)
          have y9 := blk_three R8 (.int .i64 v.kind) (.int .i64 v.num) (.string v.text)
          have k9 := keep_three H8.out.2.2.2.2 (b := w.heap.size) (Nat.le_refl _) (.int .i64 v.kind) (.int .i64 v.num) (.string v.text)
          have s9 := blk_cell y9
          refine bodyPost_ret (v := .tuple #[.agg #[.int .i64 v.kind, .int .i64 v.num, .string v.text], .int .i64 er, .int .i64 at']) (by simp [results, Tryz.results100, go_sem, s9]) rfl ?_
          exact ⟨v, er, at', rfl, H8.out.1, H8.out.2.1, H8.out.2.2.1, k9⟩
end Go.Proofs.YtpjcebajkfeacaaGreatDoor
namespace Go.Proofs.YtpjcebajkfeacaaGreatDoor
open Go Go.RowKit Go.Deep
structure QpW (w : World) (Q lo : Nat) (n t : Int) (nm : ByteArray) (v : Value) (l : List Val) (W : World) : Prop where
  keep : Keep No w W
  g0 : W.heap[w.heap.size]? = some (.cells #[.int .i64 0, .int .u64 0, .string ⟨#[]⟩, .slice none 0 0] 29 (0, 0))
  F0 : W.heap[Q]? = some (.cells #[.int .i64 n, .int .u64 t, .string nm, v] 29 (0, 0))
  own : OwnV lo W v l
  q0 : w.heap.size < Q
  q1 : Q < lo
  low : lo ≤ W.heap.size
theorem QpW.more {w : World} {Q lo : Nat} {n t : Int} {nm : ByteArray} {v : Value} {l : List Val} {W W' : World} (h : QpW w Q lo n t nm v l W) (k : Keep No W W') : QpW w Q lo n t nm v l W' :=
  ⟨h.keep.trans k, k.blk h.g0 (fun x => x), k.blk h.F0 (fun x => x), h.own.keep k fun _ _ x => x, h.q0, h.q1, Nat.le_trans h.low k.size⟩
theorem QpW.grow {w : World} {Q lo : Nat} {n t : Int} {nm : ByteArray} {v v' : Value} {l l' : List Val} {W w2 : World} (h : QpW w Q lo n t nm v l W) (hk : Keep (Fr lo W.heap.size) W w2) (h2 : OwnV lo w2 v' l') : QpW w Q lo n t nm v' l' (w2.setCell ⟨Q, 3, none⟩ v') := by
  have n1 : ∀ k, k < lo → ¬ Fr lo W.heap.size k := fun k hk hf => by have := hf.1; omega
  have hq0 := h.q0
  have hq1 := h.q1
  have hlow := h.low
  have ks := keep_set w2 Q 3 v'
  have hset := blk_set (hk.blk h.F0 (n1 Q h.q1)) 3 v'
  have hsz := hk.size
  refine ⟨(h.keep.then hk fun k hkw hf => by have := hf.1; omega).then ks fun k hkw e => by have : k = Q := e; omega, ks.blk (hk.blk h.g0 (n1 _ (by omega))) (fun e => by have : w.heap.size = Q := e; omega), by simpa using hset, h2.keep ks fun k hk e => by have : k = Q := e; omega, hq0, hq1, by simp; omega⟩
theorem QpW.put {w : World} {Q lo : Nat} {n t n' t' : Int} {nm nm' : ByteArray} {v : Value} {l : List Val} {W : World} (h : QpW w Q lo n t nm v l W) (i : Nat) (x : Value) (he : (#[.int .i64 n, .int .u64 t, .string nm, v] : Array Value).setIfInBounds i x = #[.int .i64 n', .int .u64 t', .string nm', v]) : QpW w Q lo n' t' nm' v l (W.setCell ⟨Q, i, none⟩ x) := by
  have hq0 := h.q0
  have hq1 := h.q1
  have ks := keep_set W Q i x
  have hset := blk_set h.F0 i x
  rw [he] at hset
  exact ⟨h.keep.then ks fun k hkw e => by have : k = Q := e; omega, ks.blk h.g0 (fun e => by have : w.heap.size = Q := e; omega), hset, h.own.keep ks fun k hk e => by have : k = Q := e; omega, hq0, hq1, by have := h.low; simp; omega⟩
theorem words_of {q : Req} (h : q.Fine) : (wordL q.print).1 = Lib.itoa q.client ∧ (wordL (wordL q.print).2.1).1 = Lib.itoa q.token ∧ (wordL (wordL (wordL q.print).2.1).2.1).1 = q.name.data.toList ∧ (wordL (wordL (wordL q.print).2.1).2.1).2.1 = restP q.args := by
  rw [print_eq]
  obtain ⟨-, -, hn, -, -⟩ := h.parts
  rw [wordL_app _ _ fun c hc => ((itoa_letters _).1 c hc).1]
  simp only
  rw [wordL_app _ _ fun c hc => ((itoa_letters _).1 c hc).1]
  simp only
  refine ⟨trivial, trivial, ?_⟩
  rcases tailP_form q.args with e | e
  · have e2 := tailP_nil e
    rw [e, List.append_nil, wordL_none _ (name_letters hn).1, e2]
    exact ⟨rfl, rfl⟩
  · rw [e, wordL_app _ _ (name_letters hn).1]
    exact ⟨rfl, rfl⟩
theorem nat_client {q : Req} (h : q.Fine) {n : Nat} (hn : ∀ u : Nat, u < 2 ^ 8 → Lib.itoa q.client = Lib.decDigits u → n = u) : (n : Int) = q.client := by
  obtain ⟨h0, h1, -⟩ := h.parts
  have := hn q.client.toNat (by omega) (by unfold Lib.itoa; rw [if_neg (by omega)])
  omega
theorem nat_token {q : Req} (h : q.Fine) {n : Nat} (hn : ∀ u : Nat, u < 2 ^ 64 → Lib.itoa q.token = Lib.decDigits u → n = u) : (n : Int) = q.token := by
  have h0 := h.t0
  have h1 := h.t1
  have := hn q.token.toNat (by omega) (by unfold Lib.itoa; rw [if_neg (by omega)])
  omega
theorem rest_cases {l : List Val} (hg : ∀ v ∈ l, givenV v = true) : (restP l = [] ↔ l = []) := by
  cases l with
  | nil => exact ⟨fun _ => rfl, fun _ => rfl⟩
  | cons v l =>
    refine ⟨fun h => ?_, fun h => (by cases h)⟩
    rw [restP_cons] at h
    exact absurd (List.append_eq_nil_iff.1 h).1 (print_ne (hg v (by simp)))
theorem wf_u64k {n : Int} (h0 : 0 ≤ n) (h1 : n < 18446744073709551616) : (Lit.int .u64 n).wf = true := by
  simp [Lit.wf, IntKind.min, IntKind.max, IntKind.signed, IntKind.bits]; omega
def GivesQP (w : World) (s : ByteArray) (e : Ending) (w' : World) : Prop := ∃ (q : Req) (er : Int) (a : Option Addr) (c : Nat), e = .returned (.tuple #[.agg #[.int .i64 q.client, .int .u64 q.token, .string q.name, .slice a q.args.length c], .int .i64 er]) ∧
  RowKit.Hid (Rd requestSh w' (Fr w.heap.size w'.heap.size) [.int .i64 q.client, .int .u64 q.token, .string q.name, .slice a q.args.length c] q ∧ RpIs s.data.toList q er ∧ (er = 0 → q.Fine) ∧ Keep No w w')
set_option maxRecDepth 10000 in
set_option maxHeartbeats 4000000 in
theorem qParse_any (s : ByteArray) (hs : s.size ≤ 1048576) (w : World) (he : Errs w) (ht : Tab w) : Calls Tryz.prog 42 #[.string s] w (GivesQP w s) := by
  have x0 := blk_new w (.cells #[.int .i64 0, .int .u64 0, .string ⟨#[]⟩, .slice none 0 0] 29)
  have K0 := (Keep.refl No w).alloc (.cells #[.int .i64 0, .int .u64 0, .string ⟨#[]⟩, .slice none 0 0] 29)
  have hlen : s.data.toList.length = s.size := by simp
  obtain ⟨c1, r1, m1, hw1⟩ : ∃ c1 r1 m1, wordL s.data.toList = (c1, r1, m1) := ⟨_, _, _, rfl⟩
  obtain ⟨c2, r2, m2, hw2⟩ : ∃ c2 r2 m2, wordL r1 = (c2, r2, m2) := ⟨_, _, _, rfl⟩
  obtain ⟨c3, r3, m3, hw3⟩ : ∃ c3 r3 m3, wordL r2 = (c3, r3, m3) := ⟨_, _, _, rfl⟩
  have hl1 := wordL_len s.data.toList
  have hl2 := wordL_len r1
  have hl3 := wordL_len r2
  rw [hw1] at hl1
  rw [hw2] at hl2
  rw [hw3] at hl3
  have sz : ∀ l : List UInt8, (txt l).size = l.length := txt_size
  have HC1 : RowKit.Hid (∀ W, Calls Tryz.prog 97 #[.string s, .string ⟨#[32]⟩] W fun e w' => e = .returned (.tuple #[.string (txt c1), .string (txt r1), .bool m1]) ∧ RowKit.Hid (Keep No W w')) := fun W => by
    have := cut_any s hs W
    rw [hw1] at this
    exact this
  have HC2 : RowKit.Hid (∀ W, Calls Tryz.prog 97 #[.string (txt r1), .string ⟨#[32]⟩] W fun e w' => e = .returned (.tuple #[.string (txt c2), .string (txt r2), .bool m2]) ∧ RowKit.Hid (Keep No W w')) := fun W => by
    have := cut_any (txt r1) (by rw [sz]; have := hl1.2.1; simp only at this; omega) W
    rw [txt_data, hw2] at this
    exact this
  have HC3 : RowKit.Hid (∀ W, Calls Tryz.prog 97 #[.string (txt r2), .string ⟨#[32]⟩] W fun e w' => e = .returned (.tuple #[.string (txt c3), .string (txt r3), .bool m3]) ∧ RowKit.Hid (Keep No W w')) := fun W => by
    have := cut_any (txt r2) (by rw [sz]; have h1 := hl1.2.1; have h2 := hl2.2.1; simp only at h1 h2; omega) W
    rw [txt_data, hw3] at this
    exact this
  have HP8 : RowKit.Hid (∀ W, Keep No w W → Calls Tryz.prog 98 #[.string (txt c1), .int .i64 10, .int .i64 8] W (GivesU 8 W (txt c1))) := fun W hW => pu8_any _ (by rw [sz]; have := hl1.1; simp only at this; omega) W (he.keep hW)
  have HP64 : RowKit.Hid (∀ W, Keep No w W → Calls Tryz.prog 98 #[.string (txt c2), .int .i64 10, .int .i64 64] W (GivesU 64 W (txt c2))) := fun W hW => pu64_any _ (by rw [sz]; have h1 := hl1.2.1; have h2 := hl2.1; simp only at h1 h2; omega) W (he.keep hW)
  have hwords : ∀ q0 : Req, q0.Fine → s.data.toList = q0.print → c1 = Lib.itoa q0.client ∧ c2 = Lib.itoa q0.token ∧ c3 = q0.name.data.toList ∧ r3 = restP q0.args := fun q0 hf hp => by
    have h := words_of hf
    rw [← hp, hw1] at h
    simp only at h
    rw [hw2] at h
    simp only at h
    rw [hw3] at h
    exact h
  have hr3 : r3.length ≤ s.size ∧ c3.length ≤ s.size := by
    have h1 := hl1.2.1; have h2 := hl2.2.1; have h3 := hl3.2.1; have h4 := hl3.1
    simp only at h1 h2 h3 h4
    omega
  have HH := Lib.hid (And.intro hs (And.intro he (And.intro ht (And.intro hwords (And.intro hr3 (And.intro K0 x0))))))
  clear hs he ht hlen hw1 hw2 hw3 hl1 hl2 hl3 sz hwords hr3
  go_enter Tryz.func42, Tryz.ntmps42
  go_upto_region 4 with (first | (go_at_call 97; refine (HC1.out _).mono ?_; clear HC1; rintro e w2 ⟨rfl, H2⟩) | (go_at_call 97; refine (HC2.out _).mono ?_; clear HC2; rintro e w3 ⟨rfl, H3⟩) | (go_at_call 97; refine (HC3.out _).mono ?_; clear HC3; rintro e w4 ⟨rfl, H4⟩))
  have k4 := ((H2.out.trans H3.out).trans H4.out)
  have K4 := Lib.hid (K0.trans k4)
  have X4 := Lib.hid (k4.blk x0 (fun x => x))
  clear H2 H3 H4 k4 K0 x0
  go_upto_region 5 with fail
  have k5 := K4.out.alloc (.cells #[.int .i64 0, .int .u64 0, .string ⟨#[]⟩, .slice none 0 0] 29)
  have b5 := blk_new w4 (.cells #[.int .i64 0, .int .u64 0, .string ⟨#[]⟩, .slice none 0 0] 29)
  have g5 := blk_alloc (o' := .cells #[.int .i64 0, .int .u64 0, .string ⟨#[]⟩, .slice none 0 0] 29) X4.out
  have hq5 : w.heap.size < w4.heap.size := blk_lt X4.out
  have hs5 : (w4.alloc (.cells #[.int .i64 0, .int .u64 0, .string ⟨#[]⟩, .slice none 0 0] 29)).heap.size = w4.heap.size + 1 := by simp
  have H5 : RowKit.Hid (QpW w w4.heap.size (w4.heap.size + 1) 0 0 ⟨#[]⟩ (.slice none 0 0) [] (w4.alloc (.cells #[.int .i64 0, .int .u64 0, .string ⟨#[]⟩, .slice none 0 0] 29))) := ⟨k5, g5, b5, Own.nil _ _ _ _, hq5, Nat.lt_succ_self _, by rw [hs5]; exact Nat.le_refl _⟩
  clear k5 b5 g5 hq5 hs5 K4 X4
  generalize (w4.alloc (.cells #[.int .i64 0, .int .u64 0, .string ⟨#[]⟩, .slice none 0 0] 29)) = w5 at *
  generalize w4.heap.size = Q at *
  have hp8 := (HP8.out _ H5.out.keep).mono (R' := fun e w6 => ∃ (n : Nat) (ev : Value), e = .returned (.tuple #[.int .u64 n, ev]) ∧ w6.heap[Q]? = some (.cells #[.int .i64 0, .int .u64 0, .string ⟨#[]⟩, .slice none 0 0] 29 (0, 0)) ∧ RowKit.Hid (n < 256 ∧ (∀ u : Nat, u < 2 ^ 8 → c1 = Lib.decDigits u → n = u) ∧ QpW w Q (Q + 1) 0 0 ⟨#[]⟩ (.slice none 0 0) [] w6)) (by
    rintro e w6 ⟨n, ev, rfl, h⟩
    obtain ⟨h1, h2, h3⟩ := h.out
    rw [txt_data] at h2
    exact ⟨n, ev, rfl, h3.blk H5.out.F0 (fun x => x), by simpa using h1, h2, H5.out.more h3⟩)
  clear HP8 H5
  go_upto_region 7 with (go_at_call 98; refine hp8.mono ?_; clear hp8; rintro e w6 ⟨n, ev, rfl, b6, H6⟩; have c6 := blk_cell b6; have z6 := blk_fro b6; have en : wrap64 (n : Int) = n := by (have := H6.out.1; simp only [wrap64]; omega))
  have H7 : RowKit.Hid (QpW w Q (Q + 1) n 0 (txt c3) (.slice none 0 0) [] ((w6.setCell ⟨Q, 0, none⟩ (.int .i64 n)).setCell ⟨Q, 2, none⟩ (.string (txt c3)))) := (H6.out.2.2.put (n' := n) (t' := 0) (nm' := ⟨#[]⟩) 0 _ rfl).put (n' := n) (t' := 0) (nm' := txt c3) 2 _ rfl
  have HN := Lib.hid (And.intro H6.out.1 H6.out.2.1)
  rw [en]
  clear H6 b6 c6 z6 en
  generalize (w6.setCell ⟨Q, 0, none⟩ (.int .i64 n)).setCell ⟨Q, 2, none⟩ (.string (txt c3)) = w7 at *
  have hp64 := (HP64.out _ H7.out.keep).mono (R' := fun e w8 => ∃ (t : Nat) (ev : Value), e = .returned (.tuple #[.int .u64 t, ev]) ∧ w8.heap[Q]? = some (.cells #[.int .i64 n, .int .u64 0, .string (txt c3), .slice none 0 0] 29 (0, 0)) ∧ RowKit.Hid (t < 18446744073709551616 ∧ (∀ u : Nat, u < 2 ^ 64 → c2 = Lib.decDigits u → t = u) ∧ QpW w Q (Q + 1) n 0 (txt c3) (.slice none 0 0) [] w8)) (by
    rintro e w8 ⟨t, ev, rfl, h⟩
    obtain ⟨h1, h2, h3⟩ := h.out
    rw [txt_data] at h2
    exact ⟨t, ev, rfl, h3.blk H7.out.F0 (fun x => x), by simpa using h1, h2, H7.out.more h3⟩)
  clear HP64 H7
  go_upto_region 8 with (go_at_call 98; refine hp64.mono ?_; clear hp64; rintro e w8 ⟨t, ev, rfl, b8, H8⟩; have c8 := blk_cell b8; have z8 := blk_fro b8)
  have H9 : RowKit.Hid (QpW w Q (Q + 1) n t (txt c3) (.slice none 0 0) [] (w8.setCell ⟨Q, 1, none⟩ (.int .u64 t))) := H8.out.2.2.put (n' := n) (t' := t) (nm' := txt c3) 1 _ rfl
  have hw : RowKit.Hid (∀ q0 : Req, q0.Fine → s.data.toList = q0.print → (n : Int) = q0.client ∧ (t : Int) = q0.token ∧ c3 = q0.name.data.toList ∧ r3 = restP q0.args) := fun q0 hf hp => by
    obtain ⟨h1, h2, h3, h4⟩ := HH.out.2.2.2.1 q0 hf hp
    exact ⟨nat_client hf (by rw [← h1]; exact HN.out.2), nat_token hf (by rw [← h2]; exact H8.out.2.1), h3, h4⟩
  have HB := Lib.hid (And.intro HN.out.1 H8.out.1)
  clear H8 HN b8 c8 z8
  generalize (w8.setCell ⟨Q, 1, none⟩ (.int .u64 t)) = w9 at *
  go_wp2_with fail
  go_loopg [5] r3.length (fun g x wr => ∃ (l : List Val) (rest : List UInt8) (v : Value), x = .string (txt rest) ∧ g = rest.length ∧ RowKit.Hid (QpW w Q (Q + 1) n t (txt c3) v l wr ∧ l.length + rest.length ≤ s.size ∧ ∀ q0 : Req, q0.Fine → s.data.toList = q0.print → ∃ r, q0.args = l ++ r ∧ rest = restP r))
  case atStart => exact ⟨[], r3, _, rfl, rfl, H9.out, by have := HH.out.2.2.2.2.1.1; simpa using this, fun q0 hf hp => ⟨q0.args, rfl, (hw.out q0 hf hp).2.2.2⟩⟩
  case round =>
    obtain ⟨l, rest, v0, rfl, hg, HR⟩ := hrel
    have hsz : (txt rest).size = rest.length := txt_size rest
    by_cases hr : rest = []
    · subst hr
      have he0 : (txt []).toList.isEmpty = true := by rw [empty_iff]; rfl
      obtain ⟨av, cv, hv, -⟩ := Own.form HR.out.1.own
      subst hv
      have f1 : (Lit.int .i64 (n : Int)).wf = true := wf_i64 (by omega) (by have := HB.out.1; omega)
      have f2 : (Lit.int .u64 (t : Int)).wf = true := wf_u64k (by omega) (by have := HB.out.2; omega)
      have f3 : (txt c3).size ≤ 9223372036854775807 := by rw [txt_size]; have h1 := HH.out.2.2.2.2.1.2; have h2 := HH.out.1; omega
      have hq : Rd requestSh wr (Fr (Q + 1) wr.heap.size) [.int .i64 n, .int .u64 t, .string (txt c3), .slice av l.length cv] (mkReq n t (txt c3) l) :=
        ⟨[.int .i64 n], _, rfl, ⟨rfl, f1⟩, [.int .u64 t], _, rfl, ⟨rfl, f2⟩, [.string (txt c3)], _, rfl, ⟨rfl, by rw [maxLen_is]; exact f3⟩, [.slice av l.length cv], [], rfl, Own.rd HR.out.1.own, rfl⟩
      have hIn : ∀ v ∈ l, v.In := fun v hv => by
        obtain ⟨k, hk, rfl⟩ := List.getElem_of_mem hv
        obtain ⟨-, -, -, -, -, -, -, -, hI, -⟩ := vals_get (Own.rd HR.out.1.own) k hk
        exact hI
      have hpr := (rqPrint_any wr _ _ _ hq (by show (txt c3).size ≤ _; rw [txt_size]; have h1 := HH.out.2.2.2.2.1.2; have h2 := HH.out.1; omega) (HH.out.2.2.1.keep HR.out.1.keep)).mono (R' := fun e w10 => e = .returned (.tuple #[.string (txt (if (mkReq n t (txt c3) l).check = 0 then (mkReq n t (txt c3) l).print else [])), .int .i64 (mkReq n t (txt c3) l).check]) ∧ RowKit.Hid (QpW w Q (Q + 1) n t (txt c3) (.slice av l.length cv) l w10)) (by
        rintro e w10 ⟨rfl, hk⟩
        exact ⟨rfl, HR.out.1.more hk⟩)
      have heq : ∀ q0 : Req, q0.Fine → s.data.toList = q0.print → mkReq n t (txt c3) l = q0 := fun q0 hf hp => by
        obtain ⟨h1, h2, h3, -⟩ := hw.out q0 hf hp
        obtain ⟨r, h4, h5⟩ := HR.out.2.2 q0 hf hp
        have hr : r = [] := (rest_cases fun v hv => hf.parts.2.2.2.2 v (by rw [h4]; simp [hv])).1 h5.symm
        rw [hr, List.append_nil] at h4
        rw [h1, h2, h3, txt_self, ← h4]
        rfl
      have hfine : (mkReq n t (txt c3) l).check = 0 → (mkReq n t (txt c3) l).Fine := fun h => ⟨h, by show (0 : Int) ≤ t; omega, by have := HB.out.2; show (t : Int) < _; omega, hIn⟩
      have c9 := blk_cell HR.out.1.F0
      generalize hqq : mkReq n t (txt c3) l = qq at *
      have HQ := Lib.hid (And.intro hqq (And.intro heq hfine))
      clear heq hfine hIn hq hqq hg hsz
      have HW := Lib.hid (And.intro f1 (And.intro f2 f3))
      clear f1 f2 f3
      by_cases hc : qq.check = 0
      · rw [if_pos hc, hc] at hpr
        by_cases hs : s.data.toList = qq.print
        · have e1 : txt qq.print = s := by rw [← hs]; exact txt_self s
          rw [e1] at hpr
          have HC := Lib.hid (And.intro hc hs)
          clear hc hs e1
          go_wp2_with (go_at_call 40; refine hpr.mono ?_; clear hpr c9; rintro e w10 ⟨rfl, H10⟩; have c10 := blk_cell H10.out.F0; have R9 := H10.out.g0; have d9 := blk_cell R9; have z9 := blk_fro R9)
          have y9 := blk_four R9 (.int .i64 n) (.int .u64 t) (.string (txt c3)) (.slice av l.length cv)
          have ks := keep_four w10 w.heap.size (.int .i64 n) (.int .u64 t) (.string (txt c3)) (.slice av l.length cv)
          have k9 := H10.out.keep.then ks fun k hkw e => by have : k = w.heap.size := e; omega
          have s9 := blk_cell y9
          have o9 := Own.mono (H10.out.own.keep ks fun k hk e => by have h1 : k = w.heap.size := e; have := H10.out.q0; omega) (S' := Fr w.heap.size ((((w10.setCell ⟨w.heap.size, 0, none⟩ (.int .i64 n)).setCell ⟨w.heap.size, 1, none⟩ (.int .u64 t)).setCell ⟨w.heap.size, 2, none⟩ (.string (txt c3))).setCell ⟨w.heap.size, 3, none⟩ (.slice av l.length cv)).heap.size) fun k hk' => ⟨by have := hk'.1; have := H10.out.q0; omega, hk'.2⟩
          refine bodyPost_ret (v := .tuple #[.agg #[.int .i64 n, .int .u64 t, .string (txt c3), .slice av l.length cv], .int .i64 0]) (by simp [results, Tryz.results42, go_sem, s9]) rfl ?_
          have hq9 : qq = mkReq n t (txt c3) l := HQ.out.1.symm
          refine ⟨mkReq n t (txt c3) l, 0, av, cv, rfl, ?_, ?_, fun _ => ?_, k9⟩
          · exact ⟨[.int .i64 n], _, rfl, ⟨rfl, HW.out.1⟩, [.int .u64 t], _, rfl, ⟨rfl, HW.out.2.1⟩, [.string (txt c3)], _, rfl, ⟨rfl, by rw [maxLen_is]; exact HW.out.2.2⟩, [.slice av l.length cv], [], rfl, Own.rd o9, rfl⟩
          · rw [← hq9]
            exact ⟨fun _ => HC.out, fun h => absurd rfl h, fun q0 hf hp => ⟨rfl, HQ.out.2.1 q0 hf hp⟩⟩
          · rw [← hq9]; exact HQ.out.2.2 HC.out.1
        · have hne : ((txt qq.print).toList == s.toList) = false := bs_ne fun e => hs (by rw [← e, txt_data])
          have hno : ∀ q0 : Req, q0.Fine → s.data.toList = q0.print → False := fun q0 hf hp => hs (by rw [HQ.out.2.1 q0 hf hp]; exact hp)
          have HN := Lib.hid hno
          clear hno hs hc
          go_wp2_with (go_at_call 40; refine hpr.mono ?_; clear hpr c9; rintro e w10 ⟨rfl, H10⟩; have R9 := H10.out.g0; have d9 := blk_cell R9; have z9 := blk_fro R9)
          have y9 := blk_four R9 (.int .i64 0) (.int .u64 0) (.string ⟨#[]⟩) (.slice none 0 0)
          have k9 := H10.out.keep.then (keep_four _ w.heap.size (.int .i64 0) (.int .u64 0) (.string ⟨#[]⟩) (.slice none 0 0)) fun k hkw e => by have : k = w.heap.size := e; omega
          have s9 := blk_cell y9
          refine bodyPost_ret (v := .tuple #[.agg #[.int .i64 0, .int .u64 0, .string ⟨#[]⟩, .slice none 0 0], .int .i64 2]) (by simp [results, Tryz.results42, go_sem, s9]) rfl ?_
          exact ⟨req0, 2, none, 0, rfl, req0_rd _ _, ⟨fun h => absurd h (by decide), fun _ => ⟨rfl, rfl⟩, fun q0 hf hp => (HN.out q0 hf hp).elim⟩, fun h => absurd h (by decide), k9⟩
      · rw [if_neg hc] at hpr
        have hc' : (qq.check != 0) = true := by simpa using hc
        have hno : ∀ q0 : Req, q0.Fine → s.data.toList = q0.print → False := fun q0 hf hp => hc (by rw [HQ.out.2.1 q0 hf hp]; exact hf.ck)
        have HN := Lib.hid hno
        clear hno hc
        go_wp2_with (go_at_call 40; refine hpr.mono ?_; clear hpr c9; rintro e w10 ⟨rfl, H10⟩; have R9 := H10.out.g0; have d9 := blk_cell R9; have z9 := blk_fro R9)
        have y9 := blk_four R9 (.int .i64 0) (.int .u64 0) (.string ⟨#[]⟩) (.slice none 0 0)
        have k9 := H10.out.keep.then (keep_four _ w.heap.size (.int .i64 0) (.int .u64 0) (.string ⟨#[]⟩) (.slice none 0 0)) fun k hkw e => by have : k = w.heap.size := e; omega
        have s9 := blk_cell y9
        refine bodyPost_ret (v := .tuple #[.agg #[.int .i64 0, .int .u64 0, .string ⟨#[]⟩, .slice none 0 0], .int .i64 2]) (by simp [results, Tryz.results42, go_sem, s9]) rfl ?_
        exact ⟨req0, 2, none, 0, rfl, req0_rd _ _, ⟨fun h => absurd h (by decide), fun _ => ⟨rfl, rfl⟩, fun q0 hf hp => (HN.out q0 hf hp).elim⟩, fun h => absurd h (by decide), k9⟩
    · have he0 : (txt rest).toList.isEmpty = false := by rw [empty_iff, hsz]; exact decide_eq_false fun h => hr (List.length_eq_zero_iff.1 h)
      have hlit := literal_any (txt rest) (by rw [hsz]; exact fun h => hr (List.length_eq_zero_iff.1 h)) (by rw [hsz]; have h1 := HR.out.2.1; have h2 := HH.out.1; omega) wr
      have hlit' := hlit.mono (R' := fun e w10 => ∃ a r' : List UInt8, e = .returned (.tuple #[.string (txt a), .string (txt r')]) ∧ RowKit.Hid (a.length ≤ rest.length ∧ r'.length < rest.length ∧ LitC rest a r' ∧ QpW w Q (Q + 1) n t (txt c3) v0 l w10)) (by
        rintro e w10 ⟨a, r', rfl, h⟩
        obtain ⟨h1, h2, h3, h4⟩ := h.out
        rw [hsz] at h1 h2
        rw [txt_data] at h3
        exact ⟨a, r', rfl, h1, h2, h3, HR.out.1.more h4⟩)
      have HR1 := Lib.hid (And.intro HR.out.2 (And.intro hg hr))
      clear hlit hsz hg hr HR
      go_upto_region 11 with (go_at_call 99; refine hlit'.mono ?_; clear hlit'; rintro e w10 ⟨a, r', rfl, H10⟩)
      have hvp := (vParse_any (txt a) (by rw [txt_size]; have h1 := H10.out.1; have h2 := HR1.out.1.1; have h3 := HH.out.1; omega) w10 (HH.out.2.1.keep H10.out.2.2.2.keep)).mono (R' := fun e w11 => ∃ (v : Val) (er at' : Int), e = .returned (.tuple #[.agg #[.int .i64 v.kind, .int .i64 v.num, .string v.text], .int .i64 er, .int .i64 at']) ∧ RowKit.Hid (v.In ∧ v.text.size ≤ 64 ∧ VpC a v er ∧ QpW w Q (Q + 1) n t (txt c3) v0 l w11)) (by
        rintro e w11 ⟨v, er, at', rfl, h⟩
        obtain ⟨h1, h2, h3, h4⟩ := h.out
        rw [txt_data] at h3
        exact ⟨v, er, at', rfl, h1, h2, h3, H10.out.2.2.2.more h4⟩)
      have HL := Lib.hid (And.intro H10.out.1 (And.intro H10.out.2.1 H10.out.2.2.1))
      clear H10
      go_upto_region 12 with (go_at_call 100; refine hvp.mono ?_; clear hvp; rintro e w11 ⟨v, er, at', rfl, H11⟩)
      have b12 := blk_new w11 (.cells #[.int .i64 v.kind, .int .i64 v.num, .string v.text] 96)
      have H12 := Lib.hid (H11.out.2.2.2.more ((Keep.refl No w11).alloc (.cells #[.int .i64 v.kind, .int .i64 v.num, .string v.text] 96)))
      have HV := Lib.hid (And.intro H11.out.1 (And.intro H11.out.2.1 H11.out.2.2.1))
      clear H11
      generalize (w11.alloc (.cells #[.int .i64 v.kind, .int .i64 v.num, .string v.text] 96)) = w12 at *
      generalize w11.heap.size = V at *
      have hstep : ∀ q0 : Req, q0.Fine → s.data.toList = q0.print → er = 0 ∧ ∃ r, q0.args = (l ++ [v]) ++ r ∧ r' = restP r := fun q0 hf hp => by
        obtain ⟨r, h1, h2⟩ := HR1.out.1.2 q0 hf hp
        cases r with
        | nil => exact absurd h2 HR1.out.2.2
        | cons x r2 =>
          have hgx := hf.parts.2.2.2.2 x (by rw [h1]; simp)
          have hIx := hf.args x (by rw [h1]; simp)
          rw [restP_cons] at h2
          obtain ⟨h3, h4⟩ := HL.out.2.2 x (tailP r2) hgx h2 (by rcases tailP_form r2 with e | e; exact .inl e; exact .inr ⟨_, e⟩)
          obtain ⟨h5, h6⟩ := HV.out.2.2 x (given_kinds hgx).1 hIx h3
          exact ⟨h5, r2, by rw [h1, h6]; simp, h4⟩
      by_cases he : er = 0
      · subst he
        have hst2 := Lib.hid hstep
        obtain ⟨av, cv, hv, -⟩ := Own.form H12.out.own
        subst hv
        obtain ⟨a3, c4, w13, hrun, ho, hk⟩ := H12.out.own.app H12.out.low v HV.out.1 (by have := HV.out.2.1; omega) (by have h1 := HR1.out.1.1; have h2 := HH.out.1; have h3 := HL.out.2.1; omega)
        have H14 := Lib.hid (H12.out.grow hk ho)
        have c13 := blk_cell (hk.blk H12.out.F0 (fun h => by have := h.1; omega))
        have z13 := blk_fro (hk.blk H12.out.F0 (fun h => by have := h.1; omega))
        have c12 := blk_cell H12.out.F0
        have d12 := blk_cell b12
        have c12a := blk_cell (blk_alloc (o' := .cells #[.int .i64 v.kind, .int .i64 v.num, .string v.text] 96) H12.out.F0)
        clear hstep ho hk b12
        go_wp2_with (at_builtin; refine wpList_app rfl (.tmp 71) (.tmp 73) 27 27 rfl rfl rfl hrun ?_)
        go_roundg r'.length
        case measure => have h1 := HL.out.2.1; have h2 := HR1.out.2.1; omega
        case rel =>
          refine ⟨l ++ [v], r', _, rfl, rfl, H14.out, ?_, fun q0 hf hp => (hst2.out q0 hf hp).2⟩
          rw [List.length_append]
          have h1 := HL.out.2.1; have h2 := HR1.out.1.1
          simp only [List.length_cons, List.length_nil]
          omega
      · have he' : (er != 0) = true := by simpa using he
        have hno : ∀ q0 : Req, q0.Fine → s.data.toList = q0.print → False := fun q0 hf hp => he (hstep q0 hf hp).1
        have HN := Lib.hid hno
        have R9 := H12.out.g0
        have d9 := blk_cell R9
        have z9 := blk_fro R9
        clear hstep hno he b12
        go_wp2_with fail
        have y9 := blk_four R9 (.int .i64 0) (.int .u64 0) (.string ⟨#[]⟩) (.slice none 0 0)
        have k9 := H12.out.keep.then (keep_four _ w.heap.size (.int .i64 0) (.int .u64 0) (.string ⟨#[]⟩) (.slice none 0 0)) fun k hkw e => by have : k = w.heap.size := e; omega
        have s9 := blk_cell y9
        refine bodyPost_ret (v := .tuple #[.agg #[.int .i64 0, .int .u64 0, .string ⟨#[]⟩, .slice none 0 0], .int .i64 2]) (by simp [results, Tryz.results42, go_sem, s9]) rfl ?_
        exact ⟨req0, 2, none, 0, rfl, req0_rd _ _, ⟨fun h => absurd h (by decide), fun _ => ⟨rfl, rfl⟩, fun q0 hf hp => (HN.out q0 hf hp).elim⟩, fun h => absurd h (by decide), k9⟩
end Go.Proofs.YtpjcebajkfeacaaGreatDoor
