/-
  Parts of what is proved for this claim; each declaration is one of the seat's texts.
-/
import Derived.Test.YtfgdnakfikpmpaaGreatDoorFKB
set_option linter.unusedVariables false
set_option linter.unusedSimpArgs false
namespace Go.Proofs.YtfgdnakfikpmpaaGreatDoor
open Go Go.RowKit Go.Deep
def TextC (s : ByteArray) (v : Val) (er : Int) : Prop := ∀ t : ByteArray, t.size ≤ 64 → plainB t = true → s.data.toList = 34 :: (quoted t.data.toList ++ [34]) → er = 0 ∧ v = mkVal 2 0 t
theorem plain_mem {t : ByteArray} (h : plainB t = true) {c : UInt8} (hc : c ∈ t.data.toList) : plainC c.toNat = true := by
  unfold plainB bytesOf at h
  rw [List.all_map, List.all_eq_true] at h
  exact h c hc
theorem toB_snoc (l : List UInt8) (c : UInt8) : toB (l ++ [c]) = toB l ++ [(c.toNat : Int)] := by simp [toB]
theorem plain_of {l : List UInt8} (h : ∀ c ∈ l, plainC c.toNat = true) : plainB ⟨l.toArray⟩ = true := by
  unfold plainB bytesOf
  rw [List.all_map, List.all_eq_true]
  exact fun c hc => h c hc
def TextB (s : ByteArray) (v : Val) (er : Int) : Prop := TextC s v er ∧ (er = 0 → ∃ t : ByteArray, v = mkVal 2 0 t ∧ t.size ≤ 64 ∧ plainB t = true ∧ s.data.toList = 34 :: (quoted t.data.toList ++ [34]))
theorem textB_err {s : ByteArray} {er : Int} (h : ∀ t : ByteArray, t.size ≤ 64 → plainB t = true → s.data.toList ≠ 34 :: (quoted t.data.toList ++ [34])) (he : er ≠ 0) : TextB s val0 er := ⟨fun t h0 h1 e => absurd e (h t h0 h1), fun e => absurd e he⟩
def ThisT (s : ByteArray) (k : Nat) (t : List UInt8) : Prop := Tx s.data.toList k t ∧ ∀ c ∈ t, plainC c.toNat = true
set_option maxRecDepth 10000 in
set_option maxHeartbeats 4000000 in
theorem parseText_any (s : ByteArray) (hq : s.data.toList.head? = some 34) (hs : s.size ≤ 1048576) (w : World) : Calls Tryz.prog 274 #[.string s] w (GivesVP (TextB s) w) := by
  have x0 := blk_new w (.cells #[.int .i64 0, .int .i64 0, .string ⟨#[]⟩] 47)
  have K0 := (Keep.refl No w).alloc (.cells #[.int .i64 0, .int .i64 0, .string ⟨#[]⟩] 47)
  have hlen : s.data.toList.length = s.size := by simp
  have i20 : (s.size : Int) ≤ 1048576 := by omega
  have h1s : 1 ≤ s.size := by rw [← hlen]; cases h : s.data.toList with | nil => rw [h] at hq; cases hq | cons a l => simp
  have HS := Lib.hid (And.intro hq (And.intro hs hlen))
  clear hs hq hlen
  go_enter Tryz.func274, Tryz.ntmps274
  go_upto_region 1 with fail
  have HX := Lib.hid (And.intro x0 K0)
  have HWA := Lib.hid (show w.heap.size < (w.alloc (.cells #[.int .i64 0, .int .i64 0, .string ⟨#[]⟩] 47)).heap.size by simp)
  clear x0 K0
  generalize (w.alloc (.cells #[.int .i64 0, .int .i64 0, .string ⟨#[]⟩] 47)) = wa at *
  go_wp2_with fail
  go_loopg [5, 6] (s.size - 1) (fun g v i wr => ∃ (k : Nat) (t : List UInt8), 1 ≤ k ∧ k ≤ s.size ∧ g = s.size - k ∧ i = .int .i64 k ∧ RowKit.Hid (ThisT s k t ∧ t.length ≤ 64 ∧ OwnB wa wr v (toB t)))
  case atStart => exact ⟨1, [], by omega, by omega, rfl, rfl, ⟨Tx.start HS.out.1, fun c hc => by cases hc⟩, Nat.zero_le _, Own.nil _ _ _ _, Keep.refl No _⟩
  case round =>
    obtain ⟨k, t, hk1, hks, rfl, rfl, HR⟩ := hrel
    obtain ⟨av, cv, hv, -⟩ := Own.form HR.out.2.2.1
    subst hv
    have R9 := HR.out.2.2.2.blk HX.out.1 (fun x => x)
    have K9 := HX.out.2.trans HR.out.2.2.2
    have c9 := blk_cell R9
    have z9 := blk_fro R9
    have htl : (toB t).length = t.length := by simp [toB]
    have h64 := HR.out.2.1
    rw [htl]
    have HTL := Lib.hid htl
    clear htl
    by_cases hlt : k < s.size
    · have j1 : (k : Int) < s.size := by omega
      have j0 : (0 : Int) ≤ k := by omega
      have hl : k < s.data.toList.length := by rw [HS.out.2.2]; exact hlt
      have eget := byte_get s k hlt
      by_cases hc : (s[k]'hlt) = 34
      · have b0 : (((s[k]'hlt).toNat : Int) == 34) = true := by rw [hc]; rfl
        obtain ⟨hm1, hm2⟩ := HR.out.1.1.mark hl (by rw [← eget]; exact hc)
        by_cases hE : k + 1 < s.size
        · have e1 : (k : Int) + 1 < s.size := by omega
          have HV := Lib.hid (show ∀ t : ByteArray, t.size ≤ 64 → plainB t = true → s.data.toList ≠ 34 :: (quoted t.data.toList ++ [34]) from fun t _ _ h => by have := (hm2 _ h).2; have := HS.out.2.2; omega)
          clear hm1 hm2 hE hc hks hl eget
          go_wp2_with fail
          have y9 := blk_three R9 (.int .i64 0) (.int .i64 0) (.string ⟨#[]⟩)
          have k9 := keep_three K9 (b := w.heap.size) (Nat.le_refl _) (.int .i64 0) (.int .i64 0) (.string ⟨#[]⟩)
          have s9 := blk_cell y9
          refine bodyPost_ret (v := .tuple #[.agg #[.int .i64 0, .int .i64 0, .string ⟨#[]⟩], .int .i64 4, .int .i64 (k + 1)]) (by simp [results, Tryz.results274, go_sem, s9]) rfl ?_
          exact zero_vp _ _ (textB_err HV.out (by decide)) k9
        · have e1 : ¬ (k : Int) + 1 < s.size := by omega
          have hcv := bytes_string (Own.rd HR.out.2.2.1)
          rw [HTL.out] at hcv
          have hC : TextB s (mkVal 2 0 ⟨t.toArray⟩) 0 := by
            refine ⟨fun t' _ _ h => ?_, fun _ => ⟨_, rfl, HR.out.2.1, plain_of HR.out.1.2, hm1 (by rw [HS.out.2.2]; omega)⟩⟩
            have := (hm2 _ h).1
            refine ⟨rfl, ?_⟩
            congr 2
            rw [← this]
          have HC := Lib.hid hC
          have hwd := (Word_any ⟨t.toArray⟩ wr).mono (R' := fun e w8 => e = .returned (.agg #[.int .i64 2, .int .i64 0, .string ⟨t.toArray⟩]) ∧ w8.heap[w.heap.size]? = some (.cells #[.int .i64 0, .int .i64 0, .string ⟨#[]⟩] 47 (0, 0)) ∧ RowKit.Hid (Keep No w w8)) (by
            rintro e w8 ⟨rfl, hk⟩
            exact ⟨rfl, hk.blk R9 (fun x => x), K9.trans hk⟩)
          clear hm1 hm2 hE hc hks hl eget R9 K9 c9 z9 hC
          go_wp2_with (go_at_call 283; refine hwd.mono ?_; clear hwd; rintro e w8 ⟨rfl, R8, K8⟩; have c8 := blk_cell R8; have z8 := blk_fro R8)
          have y9 := blk_three R8 (.int .i64 2) (.int .i64 0) (.string ⟨t.toArray⟩)
          have k9 := keep_three K8.out (b := w.heap.size) (Nat.le_refl _) (.int .i64 2) (.int .i64 0) (.string ⟨t.toArray⟩)
          have s9 := blk_cell y9
          refine bodyPost_ret (v := .tuple #[.agg #[.int .i64 2, .int .i64 0, .string ⟨t.toArray⟩], .int .i64 0, .int .i64 0]) (by simp [results, Tryz.results274, go_sem, s9]) rfl ?_
          exact ⟨mkVal 2 0 ⟨t.toArray⟩, 0, 0, rfl, ⟨show (-9223372036854775808 : Int) ≤ 2 by decide, show (2 : Int) ≤ 9223372036854775807 by decide, show (-9223372036854775808 : Int) ≤ 0 by decide, show (0 : Int) ≤ 9223372036854775807 by decide⟩, h64, HC.out, k9⟩
      · have b0 : (((s[k]'hlt).toNat : Int) == 34) = false := by simp; exact fun e => hc (UInt8.toNat_inj.1 (by have : (34 : UInt8).toNat = 34 := rfl; omega))
        have hmore := fun t0 h => HR.out.1.1.more hl (by rw [← eget]; exact hc) t0 h
        have hpl := plain_any (s[k]'hlt).toNat wr
        cases hP : plainC (s[k]'hlt).toNat with
        | false =>
          rw [hP] at hpl
          have HV := Lib.hid (show ∀ t : ByteArray, t.size ≤ 64 → plainB t = true → s.data.toList ≠ 34 :: (quoted t.data.toList ++ [34]) from fun t' _ hp h => by
            have hm := (hmore _ h).2
            rw [← eget] at hm
            have h92 : (s[k]'hlt) ≠ 92 := fun e => by rw [e] at hP; revert hP; decide
            have := plain_mem hp (hm h92)
            rw [hP] at this
            cases this)
          clear hmore hP hc hl eget hks
          go_wp2_with (go_at_call 160; refine hpl.mono ?_; clear hpl; rintro e w8 ⟨rfl, rfl⟩)
          have y9 := blk_three R9 (.int .i64 0) (.int .i64 0) (.string ⟨#[]⟩)
          have k9 := keep_three K9 (b := w.heap.size) (Nat.le_refl _) (.int .i64 0) (.int .i64 0) (.string ⟨#[]⟩)
          have s9 := blk_cell y9
          refine bodyPost_ret (v := .tuple #[.agg #[.int .i64 0, .int .i64 0, .string ⟨#[]⟩], .int .i64 21, .int .i64 k]) (by simp [results, Tryz.results274, go_sem, s9]) rfl ?_
          exact zero_vp _ _ (textB_err HV.out (by decide)) k9
        | true =>
          rw [hP] at hpl
          have HP := Lib.hid hP
          clear hP
          by_cases h6 : t.length = 64
          · have b6 : ((t.length : Int) == 64) = true := by simp; omega
            have HV := Lib.hid (show ∀ t : ByteArray, t.size ≤ 64 → plainB t = true → s.data.toList ≠ 34 :: (quoted t.data.toList ++ [34]) from fun t' ht _ h => by
              have hm := (hmore _ h).1
              have h9 : t'.data.toList.length = t'.size := by simp
              omega)
            clear hmore hc hl eget hks h6
            go_wp2_with (go_at_call 160; refine hpl.mono ?_; clear hpl; rintro e w8 ⟨rfl, rfl⟩)
            have y9 := blk_three R9 (.int .i64 0) (.int .i64 0) (.string ⟨#[]⟩)
            have k9 := keep_three K9 (b := w.heap.size) (Nat.le_refl _) (.int .i64 0) (.int .i64 0) (.string ⟨#[]⟩)
            have s9 := blk_cell y9
            refine bodyPost_ret (v := .tuple #[.agg #[.int .i64 0, .int .i64 0, .string ⟨#[]⟩], .int .i64 1, .int .i64 k]) (by simp [results, Tryz.results274, go_sem, s9]) rfl ?_
            exact zero_vp _ _ (textB_err HV.out (by decide)) k9
          · have b6 : ((t.length : Int) == 64) = false := by simp; omega
            have H65 := Lib.hid (show t.length + 1 ≤ 64 by omega)
            by_cases hs92 : (s[k]'hlt) = 92
            · have b9 : (((s[k]'hlt).toNat : Int) == 92) = true := by rw [hs92]; rfl
              by_cases hE : k + 1 < s.size
              · have e1 : ((k : Int) + 1 == (s.size : Int)) = false := by simp; omega
                have e2 : (k : Int) + 1 < s.size := by omega
                have e0 : (0 : Int) ≤ (k : Int) + 1 := by omega
                have eget1 := byte_get s (k + 1) hE
                by_cases hd : (s[k + 1]'hE) = 34 ∨ (s[k + 1]'hE) = 92
                · have hn := HR.out.1.1.slash (by have := HS.out.2.2; omega) (by rw [← eget]; exact hs92) (by rw [← eget1]; exact hd)
                  rw [← eget1] at hn
                  obtain ⟨a3, c3, w3, hrun, ho3⟩ := app_byte HR.out.2.2 ((s[k + 1]'hE).toNat : Int) (by omega) (by have := (s[k + 1]'hE).toNat_lt; omega) (by rw [HTL.out]; omega)
                  rw [← toB_snoc] at ho3
                  rw [HTL.out] at hrun ho3
                  have hp9 : ∀ c ∈ t ++ [s[k + 1]'hE], plainC c.toNat = true := fun c hcm => by
                    rw [List.mem_append] at hcm
                    rcases hcm with h | h
                    · exact HR.out.1.2 c h
                    · simp at h; rw [h]; rcases hd with e | e <;> rw [e] <;> decide
                  have HN := Lib.hid (show ThisT s (k + 2) (t ++ [s[k + 1]'hE]) ∧ _ ∧ k + 1 < s.size from ⟨⟨hn, hp9⟩, ho3, hE⟩)
                  clear hp9
                  have hdd : ((s[k + 1]'hE).toNat = 34) ∨ ((s[k + 1]'hE).toNat ≠ 34 ∧ (s[k + 1]'hE).toNat = 92) := by
                    rcases hd with e | e
                    · left; rw [e]; rfl
                    · right; rw [e]; exact ⟨by decide, rfl⟩
                  clear hn ho3 hd hmore hc hl eget eget1 hs92 h6 hks
                  rcases hdd with e | ⟨e, e'⟩
                  · have f1 : (((s[k + 1]'hE).toNat : Int) != 34) = false := by rw [e]; rfl
                    clear e
                    go_wp2_with (first | (go_at_call 160; refine hpl.mono ?_; clear hpl; rintro e w8 ⟨rfl, rfl⟩) | (at_builtin; refine wpList_app rfl (.tmp 62) (.tmp 64) 123 123 rfl rfl rfl hrun ?_))
                    go_roundg (s.size - (k + 2))
                    case measure => omega
                    case rel => exact ⟨k + 2, _, by omega, by have := HN.out.2.2; omega, rfl, by simp, HN.out.1, by rw [List.length_append]; exact H65.out, HN.out.2.1⟩
                  · have f1 : (((s[k + 1]'hE).toNat : Int) != 34) = true := by simp; omega
                    have f2 : (((s[k + 1]'hE).toNat : Int) != 92) = false := by rw [e']; rfl
                    clear e e'
                    go_wp2_with (first | (go_at_call 160; refine hpl.mono ?_; clear hpl; rintro e w8 ⟨rfl, rfl⟩) | (at_builtin; refine wpList_app rfl (.tmp 62) (.tmp 64) 123 123 rfl rfl rfl hrun ?_))
                    go_roundg (s.size - (k + 2))
                    case measure => omega
                    case rel => exact ⟨k + 2, _, by omega, by have := HN.out.2.2; omega, rfl, by simp, HN.out.1, by rw [List.length_append]; exact H65.out, HN.out.2.1⟩
                · have HV := Lib.hid (show ∀ t : ByteArray, t.size ≤ 64 → plainB t = true → s.data.toList ≠ 34 :: (quoted t.data.toList ++ [34]) from fun t' _ _ => HR.out.1.1.noslash hl (by rw [← eget]; exact hs92) (fun h2 => by rw [← eget1]; exact ⟨fun e => hd (.inl e), fun e => hd (.inr e)⟩) _)
                  have f1 : (((s[k + 1]'hE).toNat : Int) != 34) = true := by simp; exact fun e => hd (.inl (UInt8.toNat_inj.1 (by have : (34 : UInt8).toNat = 34 := rfl; omega)))
                  have f2 : (((s[k + 1]'hE).toNat : Int) != 92) = true := by simp; exact fun e => hd (.inr (UInt8.toNat_inj.1 (by have : (92 : UInt8).toNat = 92 := rfl; omega)))
                  clear hd hmore hc hl eget eget1 hs92 h6 hks
                  go_wp2_with (go_at_call 160; refine hpl.mono ?_; clear hpl; rintro e w8 ⟨rfl, rfl⟩)
                  have y9 := blk_three R9 (.int .i64 0) (.int .i64 0) (.string ⟨#[]⟩)
                  have k9 := keep_three K9 (b := w.heap.size) (Nat.le_refl _) (.int .i64 0) (.int .i64 0) (.string ⟨#[]⟩)
                  have s9 := blk_cell y9
                  refine bodyPost_ret (v := .tuple #[.agg #[.int .i64 0, .int .i64 0, .string ⟨#[]⟩], .int .i64 21, .int .i64 (k + 1)]) (by simp [results, Tryz.results274, go_sem, s9]) rfl ?_
                  exact zero_vp _ _ (textB_err HV.out (by decide)) k9
              · have e1 : ((k : Int) + 1 == (s.size : Int)) = true := by simp; omega
                have HV := Lib.hid (show ∀ t : ByteArray, t.size ≤ 64 → plainB t = true → s.data.toList ≠ 34 :: (quoted t.data.toList ++ [34]) from fun t' _ _ => HR.out.1.1.noslash hl (by rw [← eget]; exact hs92) (fun h2 => absurd h2 (by rw [HS.out.2.2]; exact hE)) _)
                clear hmore hc hl eget hs92 h6 hks hE
                go_wp2_with (go_at_call 160; refine hpl.mono ?_; clear hpl; rintro e w8 ⟨rfl, rfl⟩)
                have y9 := blk_three R9 (.int .i64 0) (.int .i64 0) (.string ⟨#[]⟩)
                have k9 := keep_three K9 (b := w.heap.size) (Nat.le_refl _) (.int .i64 0) (.int .i64 0) (.string ⟨#[]⟩)
                have s9 := blk_cell y9
                refine bodyPost_ret (v := .tuple #[.agg #[.int .i64 0, .int .i64 0, .string ⟨#[]⟩], .int .i64 3, .int .i64 s.size]) (by simp [results, Tryz.results274, go_sem, s9]) rfl ?_
                exact zero_vp _ _ (textB_err HV.out (by decide)) k9
            · have b9 : (((s[k]'hlt).toNat : Int) == 92) = false := by simp; exact fun e => hs92 (UInt8.toNat_inj.1 (by have : (92 : UInt8).toNat = 92 := rfl; omega))
              have hn := HR.out.1.1.letter hl (by rw [← eget]; exact hc) (by rw [← eget]; exact hs92)
              rw [← eget] at hn
              obtain ⟨a3, c3, w3, hrun, ho3⟩ := app_byte HR.out.2.2 ((s[k]'hlt).toNat : Int) (by omega) (by have := (s[k]'hlt).toNat_lt; omega) (by rw [HTL.out]; omega)
              rw [← toB_snoc] at ho3
              rw [HTL.out] at hrun ho3
              have hp9 : ∀ c ∈ t ++ [s[k]'hlt], plainC c.toNat = true := fun c hcm => by
                rw [List.mem_append] at hcm
                rcases hcm with h | h
                · exact HR.out.1.2 c h
                · simp at h; rw [h]; exact HP.out
              have HN := Lib.hid (show ThisT s (k + 1) (t ++ [s[k]'hlt]) ∧ _ from ⟨⟨hn, hp9⟩, ho3⟩)
              clear hp9
              clear hn ho3 hmore hc hl eget hs92 h6 hks
              go_wp2_with (first | (go_at_call 160; refine hpl.mono ?_; clear hpl; rintro e w8 ⟨rfl, rfl⟩) | (at_builtin; refine wpList_app rfl (.tmp 62) (.tmp 64) 123 123 rfl rfl rfl hrun ?_))
              go_roundg (s.size - (k + 1))
              case measure => omega
              case rel => exact ⟨k + 1, _, by omega, by omega, rfl, by simp, HN.out.1, by rw [List.length_append]; exact H65.out, HN.out.2⟩
    · obtain rfl : k = s.size := by omega
      have j1 : ¬ (s.size : Int) < s.size := by omega
      have HV := Lib.hid (show ∀ t : ByteArray, t.size ≤ 64 → plainB t = true → s.data.toList ≠ 34 :: (quoted t.data.toList ++ [34]) from fun t' _ _ => HR.out.1.1.over (by rw [HS.out.2.2]; exact Nat.le_refl _) _)
      clear hks hlt
      go_wp2_with fail
      have y9 := blk_three R9 (.int .i64 0) (.int .i64 0) (.string ⟨#[]⟩)
      have k9 := keep_three K9 (b := w.heap.size) (Nat.le_refl _) (.int .i64 0) (.int .i64 0) (.string ⟨#[]⟩)
      have s9 := blk_cell y9
      refine bodyPost_ret (v := .tuple #[.agg #[.int .i64 0, .int .i64 0, .string ⟨#[]⟩], .int .i64 3, .int .i64 s.size]) (by simp [results, Tryz.results274, go_sem, s9]) rfl ?_
      exact zero_vp _ _ (textB_err HV.out (by decide)) k9
end Go.Proofs.YtfgdnakfikpmpaaGreatDoor
namespace Go.Proofs.YtfgdnakfikpmpaaGreatDoor
open Go Go.RowKit Go.Deep
theorem ok_print {v : Val} (h : v.ok = true) : (v = val0 ∧ v.print = noneW) ∨ (v = mkVal 1 v.num noText ∧ v.print = Lib.itoa v.num) ∨ (v = mkVal 2 0 v.text ∧ v.text.size ≤ 64 ∧ plainB v.text = true ∧ v.print = 34 :: (quoted v.text.data.toList ++ [34])) := by
  rcases Val.ok_cases h with e | ⟨hk, e⟩ | ⟨hk, e, h1, h2⟩
  · exact .inl ⟨e, by rw [e]; rfl⟩
  · exact .inr (.inl ⟨e, by unfold Val.print; rw [if_pos hk]⟩)
  · exact .inr (.inr ⟨e, h1, h2, by unfold Val.print; rw [if_neg (by omega), if_neg (by omega)]⟩)
theorem itoa_head (n : Int) : ∃ c, (Lib.itoa n).head? = some c ∧ c ≠ 34 ∧ c ≠ 110 ∧ (c = 45 ∨ dgt c) := by
  obtain ⟨d, h1, h2, h3, h4, -⟩ := num_facts n _ rfl
  have hl : 0 < (Lib.itoa n).length := by omega
  refine ⟨(Lib.itoa n)[0], by rw [List.head?_eq_getElem?, List.getElem?_eq_getElem hl], ?_⟩
  have hc : (Lib.itoa n)[0] = 45 ∨ dgt (Lib.itoa n)[0] := by
    rcases h1 with e | e
    · exact .inr (h4 0 hl (by omega))
    · have := h2.1 e
      rw [List.head?_eq_getElem?, List.getElem?_eq_getElem hl] at this
      exact .inl (Option.some.inj this)
  refine ⟨fun e => ?_, fun e => ?_, hc⟩
  · rw [e] at hc; revert hc; decide
  · rw [e] at hc; revert hc; decide
theorem vpc_text {s : ByteArray} (hh : s.data.toList.head? = some 34) {v : Val} {er : Int} (h : TextC s v er) : VpC s.data.toList v er := fun v0 hok hI hs => by
  rcases ok_print hok with ⟨e, hp⟩ | ⟨e, hp⟩ | ⟨e, h1, h2, hp⟩
  · rw [hs, hp] at hh; exact absurd hh (by decide)
  · obtain ⟨c, hc, h3, -⟩ := itoa_head v0.num
    rw [hs, hp, hc] at hh
    exact absurd (Option.some.inj hh) h3
  · obtain ⟨h3, h4⟩ := h v0.text h1 h2 (hs.trans hp)
    exact ⟨h3, h4.trans e.symm⟩
theorem vpc_num {s : ByteArray} {c : UInt8} (hh : s.data.toList.head? = some c) (hc : c ≠ 34 ∧ c ≠ 110) {v : Val} {er : Int} (h : NumC s v er) : VpC s.data.toList v er := fun v0 hok hI hs => by
  rcases ok_print hok with ⟨e, hp⟩ | ⟨e, hp⟩ | ⟨e, h1, h2, hp⟩
  · rw [hs, hp] at hh
    have : c = 110 := (Option.some.inj hh).symm
    exact absurd this hc.2
  · obtain ⟨h3, h4⟩ := h v0.num hI.n0 hI.n1 (hs.trans hp)
    exact ⟨h3, h4.trans e.symm⟩
  · rw [hs, hp] at hh
    have : c = 34 := (Option.some.inj hh).symm
    exact absurd this hc.1
theorem vpc_none {s : ByteArray} {c : UInt8} (hh : s.data.toList.head? = some c) (hc : c ≠ 34 ∧ c ≠ 45 ∧ ¬ dgt c) {v : Val} {er : Int} (h : s.data.toList = noneW → er = 0 ∧ v = val0) : VpC s.data.toList v er := fun v0 hok hI hs => by
  rcases ok_print hok with ⟨e, hp⟩ | ⟨e, hp⟩ | ⟨e, h1, h2, hp⟩
  · obtain ⟨h3, h4⟩ := h (hs.trans hp)
    exact ⟨h3, h4.trans e.symm⟩
  · obtain ⟨c', hc', -, -, h3⟩ := itoa_head v0.num
    rw [hs, hp, hc'] at hh
    obtain rfl := Option.some.inj hh
    rcases h3 with h3 | h3
    · exact absurd h3 hc.2.1
    · exact absurd h3 hc.2.2
  · rw [hs, hp] at hh
    have : c = 34 := (Option.some.inj hh).symm
    exact absurd this hc.1
theorem vpc_nil {s : List UInt8} (h : s = []) (v : Val) (er : Int) : VpC s v er := fun v0 hok hI hs => by
  rcases ok_print hok with ⟨e, hp⟩ | ⟨e, hp⟩ | ⟨e, h1, h2, hp⟩
  · rw [← hs, h] at hp; cases hp
  · rw [← hs, h] at hp; exact absurd hp.symm (itoa_letters _).2
  · rw [← hs, h] at hp; cases hp
theorem vps_text {s : ByteArray} {v : Val} {er : Int} (h : TextB s v er) : VpS s.data.toList v er := fun e => by
  obtain ⟨t, rfl, h1, h2, h3⟩ := h.2 e
  refine ⟨?_, h3⟩
  show (if (2 : Int) = 0 then _ else if (2 : Int) = 1 then _ else if (2 : Int) = 2 then decide ((0 : Int) = 0) && decide (t.size ≤ 64) && plainB t else false) = true
  simp [h1, h2]
theorem vps_num {s : ByteArray} {v : Val} {er : Int} (h : NumB s v er) : VpS s.data.toList v er := fun e => by
  obtain ⟨h1, h2, h3⟩ := h.2 e
  refine ⟨?_, ?_⟩
  · unfold Val.ok
    rw [h1, h2]
    rfl
  · unfold Val.print
    rw [if_pos h1]
    exact h3
theorem vps_none {s : ByteArray} {v : Val} {er : Int} (h : NoneB s v er) : VpS s.data.toList v er := fun e => by
  obtain ⟨h1, rfl⟩ := h.2 e
  exact ⟨by decide, h1⟩
theorem vps_err {s : ByteArray} {v : Val} {er : Int} (h : er ≠ 0) : VpS s.data.toList v er := fun e => absurd e h
set_option maxRecDepth 10000 in
set_option maxHeartbeats 4000000 in
theorem vParse_any (s : ByteArray) (hs : s.size ≤ 1048576) (w : World) (he : Errs w) : Calls Tryz.prog 260 #[.string s] w (GivesVP (fun v er => VpC s.data.toList v er ∧ VpS s.data.toList v er) w) := by
  have x0 := blk_new w (.cells #[.int .i64 0, .int .i64 0, .string ⟨#[]⟩] 47)
  have K0 := (Keep.refl No w).alloc (.cells #[.int .i64 0, .int .i64 0, .string ⟨#[]⟩] 47)
  have hlen : s.data.toList.length = s.size := by simp
  have HE := Lib.hid (And.intro he hs)
  have HX := Lib.hid (And.intro x0 K0)
  clear he hs
  by_cases h0 : s.size = 0
  · have e0 : s = ⟨#[]⟩ := by
      obtain ⟨⟨l⟩⟩ := s
      cases l with
      | nil => rfl
      | cons _ _ => simp [ByteArray.size] at h0
    subst e0
    have c9 := blk_cell x0
    have z9 := blk_fro x0
    clear hlen h0 x0 K0
    go_enter Tryz.func260, Tryz.ntmps260
    go_wp2_with fail
    refine bodyPost_ret (v := .tuple #[.agg #[.int .i64 0, .int .i64 0, .string ⟨#[]⟩], .int .i64 3, .int .i64 0]) (by simp [results, Tryz.results260, go_sem, c9]) rfl ?_
    exact zero_vp _ _ ⟨vpc_nil rfl _ _, vps_err (s := ⟨#[]⟩) (by decide)⟩ HX.out.2
  · have hp : 0 < s.size := by omega
    have j0 : (0 : Int) < s.size := by omega
    have hh : s.data.toList.head? = some (s[0]'hp) := by rw [List.head?_eq_getElem?, List.getElem?_eq_getElem (by omega), byte_get]
    have hne : s.toList.isEmpty = false := by rw [empty_iff]; exact decide_eq_false h0
    have wrap : ∀ {C : Val → Int → Prop} {e : Ending} {w' : World}, (∀ v er, C v er → VpC s.data.toList v er ∧ VpS s.data.toList v er) → GivesVP C (w.alloc (.cells #[.int .i64 0, .int .i64 0, .string ⟨#[]⟩] 47)) e w' → ∃ (v : Val) (er at' : Int), e = .returned (.tuple #[.agg #[.int .i64 v.kind, .int .i64 v.num, .string v.text], .int .i64 er, .int .i64 at']) ∧ w'.heap[w.heap.size]? = some (.cells #[.int .i64 0, .int .i64 0, .string ⟨#[]⟩] 47 (0, 0)) ∧ RowKit.Hid (v.In ∧ v.text.size ≤ 64 ∧ (VpC s.data.toList v er ∧ VpS s.data.toList v er) ∧ True ∧ Keep No w w') := by
      rintro C e w' hi ⟨v, er, at', he, hv⟩
      exact ⟨v, er, at', he, hv.out.2.2.2.blk HX.out.1 (fun x => x), hv.out.1, hv.out.2.1, hi _ _ hv.out.2.2.1, trivial, HX.out.2.trans hv.out.2.2.2⟩
    have heA := HE.out.1.keep HX.out.2
    have c0 := blk_cell HX.out.1
    by_cases hq : (s[0]'hp) = 34
    · have b0 : (((s[0]'hp).toNat : Int) == 34) = true := by rw [hq]; rfl
      rw [hq] at hh
      have hc := (parseText_any s hh HE.out.2 _).mono fun e w' hg => wrap (fun v er h => ⟨vpc_text hh h.1, vps_text h⟩) hg
      clear wrap heA hq hh h0 hlen x0 K0
      go_enter Tryz.func260, Tryz.ntmps260
      go_wp2_with (go_at_call 274; refine hc.mono ?_; clear hc c0; rintro e w8 ⟨v, er, at', rfl, R8, H8⟩; have c8 := blk_cell R8; have z8 := blk_fro R8)
      have y9 := blk_three R8 (.int .i64 v.kind) (.int .i64 v.num) (.string v.text)
      have k9 := keep_three H8.out.2.2.2.2 (b := w.heap.size) (Nat.le_refl _) (.int .i64 v.kind) (.int .i64 v.num) (.string v.text)
      have s9 := blk_cell y9
      refine bodyPost_ret (v := .tuple #[.agg #[.int .i64 v.kind, .int .i64 v.num, .string v.text], .int .i64 er, .int .i64 at']) (by simp [results, Tryz.results260, go_sem, s9]) rfl ?_
      exact ⟨v, er, at', rfl, H8.out.1, H8.out.2.1, H8.out.2.2.1, k9⟩
    · have b0 : (((s[0]'hp).toNat : Int) == 34) = false := by simp; exact fun e => hq (UInt8.toNat_inj.1 (by have : (34 : UInt8).toNat = 34 := rfl; omega))
      by_cases hn : (s[0]'hp) = 45 ∨ dgt (s[0]'hp)
      · have hc := (parseNumber_any s hp HE.out.2 _ heA).mono fun e w' hg => wrap (fun v er h => ⟨vpc_num hh ⟨hq, fun e => by rw [e] at hn; revert hn; decide⟩ h.1, vps_num h⟩) hg
        have hcase : (s[0]'hp).toNat = 45 ∨ ((s[0]'hp).toNat ≠ 45 ∧ 48 ≤ (s[0]'hp).toNat ∧ (s[0]'hp).toNat ≤ 57) := by
          rcases hn with e | e
          · left; rw [e]; rfl
          · right; exact ⟨by have := e.1; omega, e.1, e.2⟩
        clear wrap heA hq hh h0 hlen x0 K0 hn
        rcases hcase with e | ⟨e1, e2, e3⟩
        · have b1 : (((s[0]'hp).toNat : Int) == 45) = true := by rw [e]; rfl
          clear e
          go_enter Tryz.func260, Tryz.ntmps260
          go_wp2_with (go_at_call 275; refine hc.mono ?_; clear hc c0; rintro e w8 ⟨v, er, at', rfl, R8, H8⟩; have c8 := blk_cell R8; have z8 := blk_fro R8)
          have y9 := blk_three R8 (.int .i64 v.kind) (.int .i64 v.num) (.string v.text)
          have k9 := keep_three H8.out.2.2.2.2 (b := w.heap.size) (Nat.le_refl _) (.int .i64 v.kind) (.int .i64 v.num) (.string v.text)
          have s9 := blk_cell y9
          refine bodyPost_ret (v := .tuple #[.agg #[.int .i64 v.kind, .int .i64 v.num, .string v.text], .int .i64 er, .int .i64 at']) (by simp [results, Tryz.results260, go_sem, s9]) rfl ?_
          exact ⟨v, er, at', rfl, H8.out.1, H8.out.2.1, H8.out.2.2.1, k9⟩
        · have b1 : (((s[0]'hp).toNat : Int) == 45) = false := by simp; omega
          have b2 : (48 : Int) ≤ ((s[0]'hp).toNat : Int) := by omega
          have b3 : ((s[0]'hp).toNat : Int) ≤ 57 := by omega
          clear e1 e2 e3
          go_enter Tryz.func260, Tryz.ntmps260
          go_wp2_with (go_at_call 275; refine hc.mono ?_; clear hc c0; rintro e w8 ⟨v, er, at', rfl, R8, H8⟩; have c8 := blk_cell R8; have z8 := blk_fro R8)
          have y9 := blk_three R8 (.int .i64 v.kind) (.int .i64 v.num) (.string v.text)
          have k9 := keep_three H8.out.2.2.2.2 (b := w.heap.size) (Nat.le_refl _) (.int .i64 v.kind) (.int .i64 v.num) (.string v.text)
          have s9 := blk_cell y9
          refine bodyPost_ret (v := .tuple #[.agg #[.int .i64 v.kind, .int .i64 v.num, .string v.text], .int .i64 er, .int .i64 at']) (by simp [results, Tryz.results260, go_sem, s9]) rfl ?_
          exact ⟨v, er, at', rfl, H8.out.1, H8.out.2.1, H8.out.2.2.1, k9⟩
      · have hc := (parseNone_any s HE.out.2 _).mono fun e w' hg => wrap (fun v er h => ⟨vpc_none hh ⟨hq, fun e => hn (.inl e), fun e => hn (.inr e)⟩ h.1, vps_none h⟩) hg
        have b1 : (((s[0]'hp).toNat : Int) == 45) = false := by simp; exact fun e => hn (.inl (UInt8.toNat_inj.1 (by have : (45 : UInt8).toNat = 45 := rfl; omega)))
        have hcase : (s[0]'hp).toNat < 48 ∨ (48 ≤ (s[0]'hp).toNat ∧ 57 < (s[0]'hp).toNat) := by
          have : ¬ dgt (s[0]'hp) := fun e => hn (.inr e)
          unfold dgt at this
          omega
        clear wrap heA hq hh h0 hlen x0 K0 hn
        rcases hcase with e | ⟨e1, e2⟩
        · have b2 : ¬ (48 : Int) ≤ ((s[0]'hp).toNat : Int) := by omega
          clear e
          go_enter Tryz.func260, Tryz.ntmps260
          go_wp2_with (go_at_call 276; refine hc.mono ?_; clear hc c0; rintro e w8 ⟨v, er, at', rfl, R8, H8⟩; have c8 := blk_cell R8; have z8 := blk_fro R8)
          have y9 := blk_three R8 (.int .i64 v.kind) (.int .i64 v.num) (.string v.text)
          have k9 := keep_three H8.out.2.2.2.2 (b := w.heap.size) (Nat.le_refl _) (.int .i64 v.kind) (.int .i64 v.num) (.string v.text)
          have s9 := blk_cell y9
          refine bodyPost_ret (v := .tuple #[.agg #[.int .i64 v.kind, .int .i64 v.num, .string v.text], .int .i64 er, .int .i64 at']) (by simp [results, Tryz.results260, go_sem, s9]) rfl ?_
          exact ⟨v, er, at', rfl, H8.out.1, H8.out.2.1, H8.out.2.2.1, k9⟩
        · have b2 : (48 : Int) ≤ ((s[0]'hp).toNat : Int) := by omega
          have b3 : ¬ ((s[0]'hp).toNat : Int) ≤ 57 := by omega
          clear e1 e2
          go_enter Tryz.func260, Tryz.ntmps260
          go_wp2_with (go_at_call 276; refine hc.mono ?_; clear hc c0; rintro e w8 ⟨v, er, at', rfl, R8, H8⟩; have c8 := blk_cell R8; have z8 := blk_fro R8)
          have y9 := blk_three R8 (.int .i64 v.kind) (.int .i64 v.num) (.string v.text)
          have k9 := keep_three H8.out.2.2.2.2 (b := w.heap.size) (Nat.le_refl _) (.int .i64 v.kind) (.int .i64 v.num) (.string v.text)
          have s9 := blk_cell y9
          refine bodyPost_ret (v := .tuple #[.agg #[.int .i64 v.kind, .int .i64 v.num, .string v.text], .int .i64 er, .int .i64 at']) (by simp [results, Tryz.results260, go_sem, s9]) rfl ?_
          exact ⟨v, er, at', rfl, H8.out.1, H8.out.2.1, H8.out.2.2.1, k9⟩
end Go.Proofs.YtfgdnakfikpmpaaGreatDoor
