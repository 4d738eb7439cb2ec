/-
  Parts of what is proved for this claim; each declaration is one of the seat's texts.
-/
import Derived.Test.YtpjcebajkfeacaaGreatDoorBGA
import Derived.Test.YtpjcebajkfeacaaGreatDoorBGB
import Derived.Test.YtpjcebajkfeacaaGreatDoorBGC
import Derived.Test.YtpjcebajkfeacaaGreatDoorBGD
import Derived.Test.YtpjcebajkfeacaaGreatDoorBGK
import Derived.Test.YtpjcebajkfeacaaGreatDoorBHJ
import Derived.Test.YtpjcebajkfeacaaGreatDoorBStP
import Derived.Test.YtpjcebajkfeacaaGreatDoorBKA
import Derived.Lib.ParseIntB
import Derived.Shelf.Pu.ParseUintPublic10
import Derived.Shelf.Strconv.ParseIntPublic10
import Derived.Shelf.Strings.Search2
import Derived.Shelf.Strings.Prefix
import Derived.Ground.MpProg
import Derived.Ground.NamesProg
import Derived.Lib.ParseIntBCases
import Derived.Lib.ParseIntBTie
set_option linter.unusedVariables false
set_option linter.unusedSimpArgs false
namespace Go.Proofs.YtpjcebajkfeacaaGreatDoor
open Go Go.RowKit Go.Deep
theorem wrap_i64 {x : Int} (h0 : -9223372036854775808 ≤ x) (h1 : x ≤ 9223372036854775807) : IntKind.i64.wrap x = x := by
  unfold IntKind.wrap
  simp only [IntKind.signed, IntKind.bits, Bool.true_and, decide_eq_true_eq, ge_iff_le]
  split <;> omega
theorem word_index : ∀ s : List UInt8, (Lib.indexByte s 32 = -1 ∧ wordL s = (s, [], false)) ∨ ∃ i : Nat, Lib.indexByte s 32 = i ∧ i < s.length ∧ wordL s = (s.take i, s.drop (i + 1), true)
  | [] => .inl ⟨rfl, rfl⟩
  | c :: l => by
    by_cases h : c = 32
    · subst h
      exact .inr ⟨0, rfl, Nat.succ_pos _, rfl⟩
    · have hb : (c == 32) = false := by simpa using h
      rcases word_index l with ⟨h1, h2⟩ | ⟨i, h1, h2, h3⟩
      · refine .inl ⟨?_, ?_⟩
        · unfold Lib.indexByte; rw [hb, h1]; simp
        · unfold wordL; rw [if_neg h, h2]
      · refine .inr ⟨i + 1, ?_, Nat.succ_lt_succ h2, ?_⟩
        · have h4 : ((i : Int) == -1) = false := by
            have : (i : Int) ≠ -1 := by omega
            simp
          unfold Lib.indexByte
          rw [hb, h1]
          simp only [Bool.false_eq_true, if_false, h4]
          rfl
        · unfold wordL; rw [if_neg h, h3]; rfl
theorem txt_take (s : ByteArray) (i : Nat) : s.extract 0 i = txt (s.data.toList.take i) := by
  rw [Lib.extract_eq]
  simp [txt]
theorem txt_drop (s : ByteArray) (i : Nat) : s.extract i s.size = txt (s.data.toList.drop i) := by
  rw [Lib.extract_eq, List.take_of_length_le (by rw [List.length_drop, ← Lib.size_eq]; exact Nat.le_refl _)]
  rfl
theorem txt_self (s : ByteArray) : txt s.data.toList = s := by
  apply ByteArray.ext
  simp [txt]
set_option maxRecDepth 10000 in
theorem liteCut_any (s : ByteArray) (hs : s.size ≤ 1048576) (w : World) :
    Calls Tryz.prog 159 #[.string s, .string ⟨#[32]⟩] w fun e w' => e = .returned (.tuple #[.string (txt (wordL s.data.toList).1), .string (txt (wordL s.data.toList).2.1), .bool (wordL s.data.toList).2.2]) ∧ RowKit.Hid (Keep No w w') := by
  have hx := Any.stringslite_Index_one Tryz.laysIndex s 32 w
  rcases word_index s.data.toList with ⟨h1, h2⟩ | ⟨i, h1, h2, h3⟩
  · rw [h1] at hx
    rw [h2]
    go_enter Tryz.func159, Tryz.ntmps159
    go_wp2_with (go_at_call 208; refine hx.mono ?_; clear hx; rintro e w2 ⟨rfl, rfl⟩)
    go_ret3
    exact ⟨by rw [txt_self]; rfl, Keep.refl No _⟩
  · rw [h1] at hx
    rw [h3]
    have hl : i < s.size := by simpa using h2
    have c1 : (0 : Int) ≤ i := by omega
    have c2 : (i : Int) ≤ s.size := by omega
    have ew : IntKind.i64.wrap ((i : Int) + 1) = (i : Int) + 1 := wrap_i64 (by omega) (by omega)
    have c3 : (0 : Int) ≤ i + 1 := by omega
    have c4 : (i + 1 : Int) ≤ s.size := by omega
    have HL := Lib.hid (And.intro hl hs)
    have e1 := txt_take s i
    have e2 := txt_drop s (i + 1)
    clear h1 h2 h3 hl hs
    go_enter Tryz.func159, Tryz.ntmps159
    go_upto_region 3 with (go_at_call 208; refine hx.mono ?_; clear hx; rintro e w2 ⟨rfl, rfl⟩)
    refine wp_region_canw [0, 1, 2, 3, 4, 5, 6, 7, 8, 9, 10, 11] [] [] (by kernel_rfl) (by kernel_rfl) (by kernel_rfl) (by kernel_rfl) (by intro c a d v w h; cases d <;> exact h) ?_
    iterate 8 (refine canw_sil rfl rfl (fun K hK => ?_); go_simp; refine hK _ ?_; clear hK K)
    iterate 4 (refine canw_sil rfl rfl (fun K hK => ?_); go_simp; refine hK _ ?_; clear hK K)
    refine canw_nil ?_
    go_wp2_with fail
    go_ret3
    exact ⟨by rw [← e1, ← e2]; rfl, (Keep.refl No _).drewN _⟩
theorem cut_any (s : ByteArray) (hs : s.size ≤ 1048576) (w : World) :
    Calls Tryz.prog 97 #[.string s, .string ⟨#[32]⟩] w fun e w' => e = .returned (.tuple #[.string (txt (wordL s.data.toList).1), .string (txt (wordL s.data.toList).2.1), .bool (wordL s.data.toList).2.2]) ∧ RowKit.Hid (Keep No w w') := by
  have hc := liteCut_any s hs w
  go_enter Tryz.func97, Tryz.ntmps97
  go_wp2_with (go_at_call 159; refine hc.mono ?_; clear hc; rintro e w2 ⟨rfl, HK⟩)
  go_ret3
  exact ⟨rfl, HK⟩
theorem wordL_len (s : List UInt8) : (wordL s).1.length ≤ s.length ∧ (wordL s).2.1.length ≤ s.length ∧ (s ≠ [] → (wordL s).2.1.length < s.length) := by
  rcases word_index s with ⟨-, h⟩ | ⟨i, -, hi, h⟩
  · rw [h]; exact ⟨Nat.le_refl _, Nat.zero_le _, fun hn => List.length_pos_iff.2 hn⟩
  · rw [h]; simp; omega
def GivesLit (w : World) (s : ByteArray) (e : Ending) (w' : World) : Prop := ∃ a r : List UInt8, e = .returned (.tuple #[.string (txt a), .string (txt r)]) ∧ RowKit.Hid (a.length ≤ s.size ∧ r.length < s.size ∧ LitC s.data.toList a r ∧ Keep No w w')
theorem has_quote (s : ByteArray) : Lib.hasPrefix s.data.toList (⟨#[34]⟩ : ByteArray).data.toList = decide (s.data.toList.head? = some 34) := by
  show List.isPrefixOf [34] s.data.toList = _
  cases s.data.toList with
  | nil => rfl
  | cons c l =>
    by_cases h : c = 34
    · subst h; simp [List.isPrefixOf]
    · have h1 : ((34 : UInt8) == c) = false := beq_eq_false_iff_ne.2 fun e => h e.symm
      simp [List.isPrefixOf, h1, h]
theorem trim_blank (s : ByteArray) : Lib.trimPrefix s.data.toList (⟨#[32]⟩ : ByteArray).data.toList = if s.data.toList.head? = some 32 then s.data.toList.drop 1 else s.data.toList := by
  unfold Lib.trimPrefix
  show (if List.isPrefixOf [32] s.data.toList = true then List.drop 1 _ else _) = _
  cases s.data.toList with
  | nil => rfl
  | cons c l =>
    by_cases h : c = 32
    · subst h; simp [List.isPrefixOf]
    · have h1 : ((32 : UInt8) == c) = false := beq_eq_false_iff_ne.2 fun e => h e.symm
      simp [List.isPrefixOf, h1, h]
set_option maxRecDepth 10000 in
set_option maxHeartbeats 4000000 in
theorem literal_any (s : ByteArray) (h0 : s.size ≠ 0) (hs : s.size ≤ 1048576) (w : World) : Calls Tryz.prog 99 #[.string s] w (GivesLit w s) := by
  have hlen : s.data.toList.length = s.size := by simp
  have hp := Any.strings_HasPrefix Tryz.laysHasPrefix s ⟨#[34]⟩ w
  rw [has_quote] at hp
  by_cases hq : s.data.toList.head? = some 34
  · rw [decide_eq_true hq] at hp
    have HTR : RowKit.Hid (∀ (i : Nat) W, Calls Tryz.prog 163 #[.string (s.extract i s.size), .string ⟨#[32]⟩] W fun e w' => e = .returned (.string (txt (if (s.data.toList.drop i).head? = some 32 then s.data.toList.drop (i + 1) else s.data.toList.drop i))) ∧ w' = W) := fun i W => by
      refine (Any.strings_TrimPrefix Tryz.laysTrimPrefix (s.extract i s.size) ⟨#[32]⟩ W).mono ?_
      rintro e w' ⟨rfl, rfl⟩
      refine ⟨?_, rfl⟩
      rw [trim_blank, txt_drop, txt_data]
      split <;> simp [txt, Nat.add_comm]
    have HH := Lib.hid (And.intro hq (And.intro h0 (And.intro hs hlen)))
    have i20 : (s.size : Int) ≤ 1048576 := by omega
    clear h0 hs hlen hq
    go_enter Tryz.func99, Tryz.ntmps99
    go_wp2_with (go_at_call 162; refine hp.mono ?_; clear hp; rintro e w2 ⟨rfl, rfl⟩)
    go_loopg [7] (s.size - 1) (fun g i wr => ∃ k : Nat, 1 ≤ k ∧ k ≤ s.size + 1 ∧ g = s.size - k ∧ i = .int .i64 k ∧ RowKit.Hid (Lx s.data.toList k ∧ wr = w2))
    case atStart => exact ⟨1, by omega, by omega, by omega, rfl, Lx.start _, rfl⟩
    case round =>
      obtain ⟨k, hk0, hk, rfl, rfl, HR⟩ := hrel
      by_cases hlt : k < s.size
      · have j1 : (k : Int) < s.size := by omega
        have j0 : (0 : Int) ≤ k := by omega
        have hl : k < s.data.toList.length := by rw [HH.out.2.2.2]; exact hlt
        have eget : s.data.toList[k] = s[k]'hlt := by simp [ByteArray.getElem_eq_getElem_data]
        have hn1 := @Lx.slash _ _ HR.out.1 hl
        have hn2 := @Lx.letter _ _ HR.out.1 hl
        have hn3 : s[k]'hlt = 34 → LitC s.data.toList (s.data.toList.take (k + 1)) (if (s.data.toList.drop (k + 1)).head? = some 32 then s.data.toList.drop (k + 1 + 1) else s.data.toList.drop (k + 1)) := fun hc v0 t hv hst ht => by
          obtain ⟨e1, e2⟩ := LitC.text HR.out.1 hl (by rw [eget]; exact hc) HH.out.1 v0 t hv hst
          refine ⟨e1, ?_⟩
          have e3 : s.data.toList.drop (k + 1 + 1) = t.drop 1 := by rw [← e2, List.drop_drop]
          rw [e2, e3]
          rcases ht with rfl | ⟨t', rfl⟩
          · rfl
          · rfl
        rw [eget] at hn1 hn2
        have HS := Lib.hid (And.intro hn1 (And.intro hn2 (And.intro hn3 hlt)))
        clear hn1 hn2 hn3 eget hl
        by_cases hc : s[k] = 92
        · have hb : ((s[k].toNat : Int) == 92) = true := by rw [hc]; rfl
          have hx := HS.out.1 hc
          have HX := Lib.hid hx
          clear hx hc
          go_wp2_with fail
          go_roundg (s.size - (k + 2))
          case measure => have := HS.out.2.2.2; omega
          case rel => exact ⟨k + 2, by omega, by have := HS.out.2.2.2; omega, rfl, by simp; omega, HX.out, HR.out.2⟩
        · by_cases hc2 : s[k] = 34
          · have hb : ((s[k].toNat : Int) == 92) = false := by rw [hc2]; rfl
            have hb2 : ((s[k].toNat : Int) == 34) = true := by rw [hc2]; rfl
            have hx := HS.out.2.2.1 hc2
            have ew : IntKind.i64.wrap ((k : Int) + 1) = (k : Int) + 1 := wrap_i64 (by omega) (by omega)
            have c3 : (0 : Int) ≤ k + 1 := by omega
            have c4 : (k + 1 : Int) ≤ s.size := by omega
            have ht := HTR.out (k + 1)
            have hrl : (if (s.data.toList.drop (k + 1)).head? = some 32 then s.data.toList.drop (k + 1 + 1) else s.data.toList.drop (k + 1)).length < s.size := by
              have := HH.out.2.2.2; split <;> (rw [List.length_drop]; omega)
            generalize (if (s.data.toList.drop (k + 1)).head? = some 32 then s.data.toList.drop (k + 1 + 1) else s.data.toList.drop (k + 1)) = rr at *
            have HX := Lib.hid (And.intro hx hrl)
            clear hx hrl
            have e1 := txt_take s (k + 1)
            clear hc hc2
            go_upto_region 11 with fail
            refine wp_region_canw [0, 1, 2, 3, 4, 5, 6, 7, 8, 9, 10] [8] [(0, 8), (1, 8), (2, 8), (3, 8)] (by kernel_rfl) (by kernel_rfl) (by kernel_rfl) (by kernel_rfl) (by intro c a d v w h; cases d <;> exact h) ?_
            iterate 8 (refine canw_sil rfl rfl (fun K hK => ?_); go_simp; refine hK _ ?_; clear hK K)
            refine canw_loud [0, 1, 2, 3] rfl rfl rfl (fun K hK => ?_)
            go_wp2_with (go_at_call 163; refine (ht _).mono ?_; clear ht; rintro e w3 ⟨rfl, rfl⟩)
            refine Mid.normal (hK _ _ ?_ ?_)
            · simp only [List.forall_mem_cons]
              refine ⟨?_, ?_, ?_, ?_, stabs_nil⟩ <;> exact stab_of rfl (fun K hK => by go_simp; exact hK)
            clear hK K
            iterate 2 (refine canw_sil rfl rfl (fun K hK => ?_); go_simp; refine hK _ ?_; clear hK K)
            refine canw_nil ?_
            go_wp2_with fail
            go_ret2
            refine ⟨s.data.toList.take (k + 1), rr, by rw [← e1]; rfl, ?_, HX.out.2, HX.out.1, ?_⟩
            · have := HH.out.2.2.2; rw [List.length_take]; omega
            · rw [HR.out.2]; exact (Keep.refl No w2).drew
          · have hb : ((s[k].toNat : Int) == 92) = false := by simp; exact fun e => hc (UInt8.toNat_inj.1 (by have : (92 : UInt8).toNat = 92 := rfl; omega))
            have hb2 : ((s[k].toNat : Int) == 34) = false := by simp; exact fun e => hc2 (UInt8.toNat_inj.1 (by have : (34 : UInt8).toNat = 34 := rfl; omega))
            have HX := Lib.hid (HS.out.2.1 hc2 hc)
            clear hc hc2
            go_wp2_with fail
            go_roundg (s.size - (k + 1))
            case measure => have := HS.out.2.2.2; omega
            case rel => exact ⟨k + 1, by omega, by have := HS.out.2.2.2; omega, rfl, by simp, HX.out, HR.out.2⟩
      · have j1 : ¬ (k : Int) < s.size := by omega
        have hv : LitC s.data.toList s.data.toList [] := fun v0 t hv hst ht => absurd hst (LitC.never HR.out.1 (by rw [HH.out.2.2.2]; omega) HH.out.1 v0 t hv)
        have HX := Lib.hid hv
        clear hv hlt
        go_wp2_with fail
        go_ret2
        refine ⟨s.data.toList, [], by rw [txt_self]; rfl, by rw [HH.out.2.2.2]; exact Nat.le_refl _, by have := HH.out.2.1; show 0 < s.size; omega, HX.out, ?_⟩
        rw [HR.out.2]; exact Keep.refl No _
  · rw [decide_eq_false hq] at hp
    have hc := cut_any s hs w
    have hw := LitC.word hq
    have hl := wordL_len s.data.toList
    have HH := Lib.hid (And.intro hw.1 (And.intro hl (And.intro h0 hlen)))
    clear hw hl h0 hlen hq
    go_enter Tryz.func99, Tryz.ntmps99
    go_wp2_with (first | (go_at_call 162; refine hp.mono ?_; clear hp; rintro e w2 ⟨rfl, rfl⟩) | (go_at_call 97; refine hc.mono ?_; clear hc; rintro e w3 ⟨rfl, HK⟩))
    go_ret2
    refine ⟨_, _, rfl, ?_, ?_, HH.out.1, HK.out⟩
    · have := HH.out.2.1.1; have := HH.out.2.2.2; omega
    · have h1 := HH.out.2.1.2.2 (by intro e; have := HH.out.2.2.2; rw [e] at this; exact HH.out.2.2.1 this.symm)
      have := HH.out.2.2.2
      omega
end Go.Proofs.YtpjcebajkfeacaaGreatDoor
namespace Go.Proofs.YtpjcebajkfeacaaGreatDoor
open Go Go.RowKit Go.Deep
def Errs (w : World) : Prop := (∃ tp p, w.cell? ⟨2, 0, none⟩ = some (.iface tp p)) ∧ ∃ tp p, w.cell? ⟨3, 0, none⟩ = some (.iface tp p)
theorem Errs.keep {w w' : World} (h : Errs w) (hk : Keep No w w') : Errs w' := by
  obtain ⟨⟨a, b, h1⟩, c, d, h2⟩ := h
  exact ⟨⟨a, b, (hk.cell (World.block_lt_of_cell? _ _ h1) (fun x => x)).trans h1⟩, c, d, (hk.cell (World.block_lt_of_cell? _ _ h2) (fun x => x)).trans h2⟩
def GivesU (B : Nat) (w : World) (s : ByteArray) (e : Ending) (w' : World) : Prop := ∃ (n : Nat) (ev : Value), e = .returned (.tuple #[.int .u64 n, ev]) ∧ RowKit.Hid (n < 2 ^ B ∧ (∀ u : Nat, u < 2 ^ B → s.data.toList = Lib.decDigits u → n = u) ∧ Keep No w w')
theorem pu8_any (s : ByteArray) (hs : s.size ≤ 1048576) (w : World) (he : Errs w) : Calls Tryz.prog 98 #[.string s, .int .i64 10, .int .i64 8] w (GivesU 8 w s) := by
  obtain ⟨⟨a, b, h1⟩, c, d, h2⟩ := he
  cases h : Lib.parseUintB 8 s.data.toList with
  | ok u =>
    refine (Any.strconv_ParseUint_10_at8_ok Tryz.laysParseUint s (by omega) u h w).mono ?_
    rintro e w' ⟨rfl, hw⟩
    refine ⟨u, _, rfl, ?_, fun x hx hd => ?_, ?_⟩
    · have := Lib.parseUintB_le (B := 8) h; omega
    · rw [hd, parseU_dec 8 (by decide) x hx] at h; cases h; rfl
    · rcases hw with rfl | rfl
      · exact Keep.refl No _
      · exact Keep.ofBelow (Lib.bytesWorld_below _ _ _)
  | «syntax» =>
    refine (Any.strconv_ParseUint_10_at8_syntax Tryz.laysParseUint s (by omega) h _ w h1 (.inr ⟨_, _, rfl⟩)).mono ?_
    rintro e w' ⟨N, rfl, -, -, hw⟩
    exact ⟨0, _, rfl, by decide, (fun x hx hd => by rw [hd, parseU_dec 8 (by decide) x hx] at h; cases h), Keep.ofBelow hw⟩
  | range =>
    refine (Any.strconv_ParseUint_10_at8_range Tryz.laysParseUint s (by omega) h _ w h2 (.inr ⟨_, _, rfl⟩)).mono ?_
    rintro e w' ⟨N, rfl, -, -, hw⟩
    exact ⟨255, _, rfl, by decide, (fun x hx hd => by rw [hd, parseU_dec 8 (by decide) x hx] at h; cases h), Keep.ofBelow hw⟩
theorem pu64_any (s : ByteArray) (hs : s.size ≤ 1048576) (w : World) (he : Errs w) : Calls Tryz.prog 98 #[.string s, .int .i64 10, .int .i64 64] w (GivesU 64 w s) := by
  obtain ⟨⟨a, b, h1⟩, c, d, h2⟩ := he
  cases h : Lib.parseUintB 64 s.data.toList with
  | ok u =>
    refine (Any.strconv_ParseUint_10_at64_ok Tryz.laysParseUint s (by omega) u h w).mono ?_
    rintro e w' ⟨rfl, hw⟩
    refine ⟨u, _, rfl, ?_, fun x hx hd => ?_, ?_⟩
    · have := Lib.parseUintB_le (B := 64) h; omega
    · rw [hd, parseU_dec 64 (by decide) x hx] at h; cases h; rfl
    · rcases hw with rfl | rfl
      · exact Keep.refl No _
      · exact Keep.ofBelow (Lib.bytesWorld_below _ _ _)
  | «syntax» =>
    refine (Any.strconv_ParseUint_10_at64_syntax Tryz.laysParseUint s (by omega) h _ w h1 (.inr ⟨_, _, rfl⟩)).mono ?_
    rintro e w' ⟨N, rfl, -, -, hw⟩
    exact ⟨0, _, rfl, by decide, (fun x hx hd => by rw [hd, parseU_dec 64 (by decide) x hx] at h; cases h), Keep.ofBelow hw⟩
  | range =>
    refine (Any.strconv_ParseUint_10_at64_range Tryz.laysParseUint s (by omega) h _ w h2 (.inr ⟨_, _, rfl⟩)).mono ?_
    rintro e w' ⟨N, rfl, -, -, hw⟩
    exact ⟨18446744073709551615, _, rfl, by decide, (fun x hx hd => by rw [hd, parseU_dec 64 (by decide) x hx] at h; cases h), Keep.ofBelow hw⟩
def GivesN (w : World) (s : ByteArray) (e : Ending) (w' : World) : Prop :=
  (∃ v : Int, e = .returned (.tuple #[.int .i64 v, .nilIface]) ∧ RowKit.Hid (-9223372036854775808 ≤ v ∧ v ≤ 9223372036854775807 ∧ (∀ n : Int, -9223372036854775808 ≤ n → n ≤ 9223372036854775807 → s.data.toList = Lib.itoa n → v = n) ∧ Keep No w w')) ∨
  ∃ (v : Int) (T : TypeId) (N : Nat), e = .returned (.tuple #[.int .i64 v, .iface T (.pointer (some ⟨N, 0, none⟩))]) ∧ RowKit.Hid ((∀ n : Int, -9223372036854775808 ≤ n → n ≤ 9223372036854775807 → s.data.toList ≠ Lib.itoa n) ∧ Keep No w w')
theorem pi64_any (s : ByteArray) (hs : s.size ≤ 1048576) (w : World) (he : Errs w) : Calls Tryz.prog 218 #[.string s, .int .i64 10, .int .i64 64] w (GivesN w s) := by
  obtain ⟨⟨a, b, h1⟩, c, d, h2⟩ := he
  cases h : Lib.parseIntB 64 s.data.toList with
  | ok v =>
    refine (Any.strconv_ParseInt_10_at64_ok Tryz.laysParseInt s (by omega) v h w).mono ?_
    rintro e w' ⟨rfl, hw⟩
    have hb := Lib.parseIntB_bounds h
    refine .inl ⟨v, rfl, ?_, ?_, fun n h0 h9 hd => ?_, ?_⟩
    · have := hb.1; simpa using this
    · have := hb.2; have e : ((2 ^ (64 - 1) : Nat) : Int) = 9223372036854775808 := by decide
      omega
    · rw [hd, parseI_itoa n h0 h9] at h; cases h; rfl
    · rcases hw with rfl | ⟨t, rfl⟩
      · exact Keep.refl No _
      · exact Keep.ofBelow (Lib.bytesWorld_below _ _ _)
  | «syntax» =>
    refine (Any.strconv_ParseInt_10_at64_syntax Tryz.laysParseInt s (by omega) h _ w h1 (.inr ⟨_, _, rfl⟩)).mono ?_
    rintro e w' ⟨N, rfl, -, -, hw⟩
    exact .inr ⟨0, _, N, rfl, (fun n h0 h9 hd => by rw [hd, parseI_itoa n h0 h9] at h; cases h), Keep.ofBelow hw⟩
  | range =>
    refine (Any.strconv_ParseInt_10_at64_range Tryz.laysParseInt s (by omega) h _ w h2 (.inr ⟨_, _, rfl⟩)).mono ?_
    rintro e w' ⟨N, rfl, -, -, hw⟩
    exact .inr ⟨_, _, N, rfl, (fun n h0 h9 hd => by rw [hd, parseI_itoa n h0 h9] at h; cases h), Keep.ofBelow hw⟩
end Go.Proofs.YtpjcebajkfeacaaGreatDoor
namespace Go.Proofs.YtpjcebajkfeacaaGreatDoor
open Go Go.RowKit Go.Deep
theorem blk_three {w : World} {b : Nat} {x0 x1 x2 : Value} {t : TypeId} (h : w.heap[b]? = some (.cells #[x0, x1, x2] t (0, 0))) (y0 y1 y2 : Value) :
    (((w.setCell ⟨b, 0, none⟩ y0).setCell ⟨b, 1, none⟩ y1).setCell ⟨b, 2, none⟩ y2).heap[b]? = some (.cells #[y0, y1, y2] t (0, 0)) := by
  have := blk_set (blk_set (blk_set h 0 y0) 1 y1) 2 y2
  simpa using this
theorem keep_three {M : Nat → Prop} {a w : World} (h : Keep M a w) {b : Nat} (hb : a.heap.size ≤ b) (y0 y1 y2 : Value) : Keep M a (((w.setCell ⟨b, 0, none⟩ y0).setCell ⟨b, 1, none⟩ y1).setCell ⟨b, 2, none⟩ y2) := by
  repeat (refine Keep.setNew ?_ (by exact hb) _)
  exact h
def GivesVP (C : Val → Int → Prop) (w : World) (e : Ending) (w' : World) : Prop := ∃ (v : Val) (er at' : Int), e = .returned (.tuple #[.agg #[.int .i64 v.kind, .int .i64 v.num, .string v.text], .int .i64 er, .int .i64 at']) ∧ RowKit.Hid (v.In ∧ v.text.size ≤ 64 ∧ C v er ∧ Keep No w w')
theorem zero_vp {C : Val → Int → Prop} {w w' : World} (er at' : Int) (hC : C val0 er) (k : Keep No w w') : GivesVP C w (.returned (.tuple #[.agg #[.int .i64 0, .int .i64 0, .string ⟨#[]⟩], .int .i64 er, .int .i64 at'])) w' :=
  ⟨val0, er, at', rfl, ⟨by decide, by decide, by decide, by decide⟩, Nat.zero_le _, hC, k⟩
def noneW : List UInt8 := [110, 111, 110, 101]
set_option maxRecDepth 10000 in
set_option maxHeartbeats 4000000 in
theorem parseNone_any (s : ByteArray) (hs : s.size ≤ 1048576) (w : World) : Calls Tryz.prog 166 #[.string s] w (GivesVP (fun v er => s.data.toList = noneW → er = 0 ∧ v = val0) w) := by
  have x0 := blk_new w (.cells #[.int .i64 0, .int .i64 0, .string ⟨#[]⟩] 96)
  have K0 := (Keep.refl No w).alloc (.cells #[.int .i64 0, .int .i64 0, .string ⟨#[]⟩] 96)
  have i20 : (s.size : Int) ≤ 1048576 := by omega
  have HS := Lib.hid hs
  clear hs
  go_enter Tryz.func166, Tryz.ntmps166
  go_upto_region 1 with fail
  have HX := Lib.hid (And.intro x0 K0)
  clear x0 K0
  generalize (w.alloc (.cells #[.int .i64 0, .int .i64 0, .string ⟨#[]⟩] 96)) = wa at *
  go_wp2_with fail
  go_loopg [6] 4 (fun g i wr => ∃ k : Nat, k ≤ 4 ∧ k ≤ s.size ∧ g = 4 - k ∧ i = .int .i64 k ∧ RowKit.Hid (Keep No w wr ∧ wr.heap[w.heap.size]? = some (.cells #[.int .i64 0, .int .i64 0, .string ⟨#[]⟩] 96 (0, 0))))
  case atStart => exact ⟨0, by omega, by omega, by omega, rfl, HX.out.2, HX.out.1⟩
  case round =>
    obtain ⟨k, hk4, hks, rfl, rfl, HR⟩ := hrel
    have R9 := HR.out.2
    have K9 := HR.out.1
    have c9 := blk_cell R9
    have z9 := blk_fro R9
    by_cases h4 : k < 4
    · have j4 : (k : Int) < 4 := by omega
      have j0 : (0 : Int) ≤ k := by omega
      by_cases hlt : k < s.size
      · have j1 : ((k : Int) == (s.size : Int)) = false := by simp; omega
        have j2 : (k : Int) < s.size := by omega
        by_cases hc : (s[k].toNat : Int) = ((⟨#[110, 111, 110, 101]⟩ : ByteArray)[k]'h4).toNat
        · have hb : ((s[k].toNat : Int) != ((⟨#[110, 111, 110, 101]⟩ : ByteArray)[k]'h4).toNat) = false := by simpa using hc
          clear R9 K9 c9 z9 hc
          go_upto_region 6 with fail
          refine wp_region_canw [0, 1, 2, 3, 4, 5] [] [] (by kernel_rfl) (by kernel_rfl) (by kernel_rfl) (by kernel_rfl) (by intro c a d v w h; cases d <;> exact h) ?_
          have R9 := (Keep.refl No wr).drew.blk HR.out.2 (fun x => x)
          have K9 := HR.out.1.drew
          generalize wr.drew = w5 at *
          have c9 := blk_cell R9
          have z9 := blk_fro R9
          iterate 6 (refine canw_sil rfl rfl (fun K hK => ?_); go_simp; refine hK _ ?_; clear hK K)
          refine canw_nil ?_
          go_wp2_with fail
          go_roundg (4 - (k + 1))
          case measure => omega
          case rel => exact ⟨k + 1, by omega, by omega, rfl, by simp, K9, R9⟩
        · have hb : ((s[k].toNat : Int) != ((⟨#[110, 111, 110, 101]⟩ : ByteArray)[k]'h4).toNat) = true := by simpa using hc
          have hne : s.data.toList ≠ noneW := fun e => hc (by
            have h9 : s[k] = noneW[k]'h4 := by
              have : s[k] = s.data.toList[k]'(by simpa using hlt) := by simp [ByteArray.getElem_eq_getElem_data]
              rw [this]
              exact List.getElem_of_eq e _
            rw [h9]
            rfl)
          have HN := Lib.hid hne
          clear R9 K9 c9 z9 hc hne
          go_upto_region 6 with fail
          refine wp_region_canw [0, 1, 2, 3, 4, 5] [] [] (by kernel_rfl) (by kernel_rfl) (by kernel_rfl) (by kernel_rfl) (by intro c a d v w h; cases d <;> exact h) ?_
          have R9 := (Keep.refl No wr).drew.blk HR.out.2 (fun x => x)
          have K9 := HR.out.1.drew
          generalize wr.drew = w5 at *
          have c9 := blk_cell R9
          have z9 := blk_fro R9
          iterate 6 (refine canw_sil rfl rfl (fun K hK => ?_); go_simp; refine hK _ ?_; clear hK K)
          refine canw_nil ?_
          go_wp2_with fail
          have y9 := blk_three R9 (.int .i64 0) (.int .i64 0) (.string ⟨#[]⟩)
          have k9 := keep_three K9 (b := w.heap.size) (Nat.le_refl _) (.int .i64 0) (.int .i64 0) (.string ⟨#[]⟩)
          have s9 := blk_cell y9
          refine bodyPost_ret (v := .tuple #[.agg #[.int .i64 0, .int .i64 0, .string ⟨#[]⟩], .int .i64 21, .int .i64 k]) (by simp [results, Tryz.results166, go_sem, s9]) rfl ?_
          exact zero_vp _ _ (fun e => absurd e HN.out) k9
      · have : k = s.size := by omega
        have j1 : ((k : Int) == (s.size : Int)) = true := by simp; omega
        have hne : s.data.toList ≠ noneW := fun e => by
          have := congrArg List.length e
          simp [noneW] at this
          have h9 : s.data.toList.length = s.size := by simp
          omega
        have HN := Lib.hid hne
        clear hlt this hk4 hks h4
        go_wp2_with fail
        have y9 := blk_three R9 (.int .i64 0) (.int .i64 0) (.string ⟨#[]⟩)
        have k9 := keep_three K9 (b := w.heap.size) (Nat.le_refl _) (.int .i64 0) (.int .i64 0) (.string ⟨#[]⟩)
        have s9 := blk_cell y9
        refine bodyPost_ret (v := .tuple #[.agg #[.int .i64 0, .int .i64 0, .string ⟨#[]⟩], .int .i64 3, .int .i64 k]) (by simp [results, Tryz.results166, go_sem, s9]) rfl ?_
        exact zero_vp _ _ (fun e => absurd e HN.out) k9
    · obtain rfl : k = 4 := by omega
      have j4 : ¬ ((4 : Nat) : Int) < 4 := by omega
      clear hk4 h4
      by_cases hl : 4 < s.size
      · have j1 : (4 : Int) < s.size := by omega
        have hne : s.data.toList ≠ noneW := fun e => by
          have := congrArg List.length e
          have h8 : noneW.length = 4 := rfl
          have h9 : s.data.toList.length = s.size := by simp
          omega
        have HN := Lib.hid hne
        clear hne hl
        go_wp2_with fail
        have y9 := blk_three R9 (.int .i64 0) (.int .i64 0) (.string ⟨#[]⟩)
        have k9 := keep_three K9 (b := w.heap.size) (Nat.le_refl _) (.int .i64 0) (.int .i64 0) (.string ⟨#[]⟩)
        have s9 := blk_cell y9
        refine bodyPost_ret (v := .tuple #[.agg #[.int .i64 0, .int .i64 0, .string ⟨#[]⟩], .int .i64 4, .int .i64 4]) (by simp [results, Tryz.results166, go_sem, s9]) rfl ?_
        exact zero_vp _ _ (fun e => absurd e HN.out) k9
      · have j1 : ¬ (4 : Int) < s.size := by omega
        clear hl
        go_wp2_with fail
        have y9 := blk_three R9 (.int .i64 0) (.int .i64 0) (.string ⟨#[]⟩)
        have k9 := keep_three K9 (b := w.heap.size) (Nat.le_refl _) (.int .i64 0) (.int .i64 0) (.string ⟨#[]⟩)
        have s9 := blk_cell y9
        refine bodyPost_ret (v := .tuple #[.agg #[.int .i64 0, .int .i64 0, .string ⟨#[]⟩], .int .i64 0, .int .i64 0]) (by simp [results, Tryz.results166, go_sem, s9]) rfl ?_
        exact zero_vp _ _ (fun e => ⟨rfl, rfl⟩) k9
def digC (c : Int) : Bool := decide (48 ≤ c) && decide (c ≤ 57)
theorem digit_any (c : Int) (w : World) : Calls Tryz.prog 217 #[.int .u8 c] w fun e w' => e = .returned (.bool (digC c)) ∧ w' = w := by
  unfold digC
  by_cases h1 : 48 ≤ c
  · by_cases h2 : c ≤ 57
    · go_enter Tryz.func217, Tryz.ntmps217
      go_wp2
      go_ret
      simp [h1, h2]
    · go_enter Tryz.func217, Tryz.ntmps217
      go_wp2
      go_ret
      simp [h1, h2]
  · go_enter Tryz.func217, Tryz.ntmps217
    go_wp2
    go_ret
    simp [h1]
    try omega
theorem num_facts (n : Int) (l : List UInt8) (h : l = Lib.itoa n) : ∃ d : Nat, (d = 0 ∨ d = 1) ∧ (d = 1 ↔ l.head? = some 45) ∧ d < l.length ∧ (∀ j (hj : j < l.length), d ≤ j → dgt l[j]) ∧ (∀ hd : d < l.length, l[d] = 48 → d = 0 ∧ l.length = 1) := by
  subst h
  unfold Lib.itoa
  by_cases hn : n < 0
  · rw [if_pos hn]
    obtain ⟨⟨h1, h2, -⟩, -, h3⟩ := dec_plain n.natAbs
    have hp := h3 (by omega)
    have hl := List.length_pos_iff.2 h2
    refine ⟨1, .inr rfl, ⟨fun _ => rfl, fun _ => rfl⟩, by simp; exact hl, fun j hj hd => ?_, fun hd he => ?_⟩
    · obtain ⟨i, rfl⟩ : ∃ i, j = i + 1 := ⟨j - 1, by omega⟩
      rw [List.getElem_cons_succ]
      exact h1 _ (List.getElem_mem _)
    · rw [List.getElem_cons_succ] at he
      rw [List.head?_eq_getElem?, List.getElem?_eq_getElem hl] at hp
      exact absurd (congrArg some he) hp
  · rw [if_neg hn]
    obtain ⟨⟨h1, h2, h3⟩, -, -⟩ := dec_plain n.toNat
    have hl := List.length_pos_iff.2 h2
    refine ⟨0, .inl rfl, ⟨fun h => (by cases h), fun h => ?_⟩, hl, fun j hj _ => h1 _ (List.getElem_mem _), fun hd he => ⟨rfl, h3 (by rw [List.head?_eq_getElem?, List.getElem?_eq_getElem hl, he])⟩⟩
    have : dgt 45 := h1 45 (List.mem_of_head? h)
    exact absurd this.1 (by decide)
def NumC (s : ByteArray) (v : Val) (er : Int) : Prop := ∀ n : Int, -9223372036854775808 ≤ n → n ≤ 9223372036854775807 → s.data.toList = Lib.itoa n → er = 0 ∧ v = mkVal 1 n noText
theorem byte_get (s : ByteArray) (k : Nat) (h : k < s.size) : s[k]'h = s.data.toList[k]'(by simpa using h) := by simp [ByteArray.getElem_eq_getElem_data]
set_option maxRecDepth 10000 in
set_option maxHeartbeats 4000000 in
theorem parseNumber_any (s : ByteArray) (h0 : 0 < s.size) (hs : s.size ≤ 1048576) (w : World) (he : Errs w) : Calls Tryz.prog 165 #[.string s] w (GivesVP (NumC s) w) := by
  have x0 := blk_new w (.cells #[.int .i64 0, .int .i64 0, .string ⟨#[]⟩] 96)
  have K0 := (Keep.refl No w).alloc (.cells #[.int .i64 0, .int .i64 0, .string ⟨#[]⟩] 96)
  obtain ⟨d, hd⟩ : ∃ d : Nat, d = if (s[0]'h0).toNat = 45 then 1 else 0 := ⟨_, rfl⟩
  have hd2 : d ≤ 1 := by rw [hd]; split <;> omega
  have hfacts : ∀ n : Int, s.data.toList = Lib.itoa n → d < s.size ∧ (∀ j (hj : j < s.size), d ≤ j → digC (s[j]'hj).toNat = true) ∧ (∀ hj : d < s.size, (s[d]'hj).toNat = 48 → d = 0 ∧ s.size = 1) := fun n hn => by
    obtain ⟨d', h1, h2, h3, h4, h5⟩ := num_facts n _ hn
    have hl : s.data.toList.length = s.size := by simp
    have hhd : s.data.toList.head? = some (s[0]'h0) := by rw [List.head?_eq_getElem?, List.getElem?_eq_getElem (by omega), byte_get]
    have e : d' = d := by
      rw [hhd] at h2
      rw [hd]
      split
      · rename_i h9
        exact h2.2 (by congr 1; exact UInt8.toNat_inj.1 h9)
      · rename_i h9
        rcases h1 with h1 | h1
        · exact h1
        · have := h2.1 h1
          simp only [Option.some.injEq] at this
          exact absurd (by rw [this]; rfl) h9
    subst e
    refine ⟨by omega, fun j hj hdj => ?_, fun hj h48 => ?_⟩
    · have := h4 j (by omega) hdj
      rw [byte_get]
      unfold digC
      obtain ⟨a, b⟩ := this
      rw [Bool.and_eq_true, decide_eq_true_eq, decide_eq_true_eq]
      omega
    · have := h5 (by omega) (by rw [← byte_get s d' hj]; exact UInt8.toNat_inj.1 h48)
      exact ⟨this.1, by omega⟩
  have i20 : (s.size : Int) ≤ 1048576 := by omega
  have j00 : (0 : Int) < s.size := by omega
  have HE := Lib.hid he
  have HF := Lib.hid hfacts
  have HS := Lib.hid (And.intro h0 hs)
  clear hfacts hs he
  go_enter Tryz.func165, Tryz.ntmps165
  go_upto_region 1 with fail
  have HX := Lib.hid (And.intro x0 K0)
  clear x0 K0
  generalize (w.alloc (.cells #[.int .i64 0, .int .i64 0, .string ⟨#[]⟩] 96)) = wa at *
  go_upto_region 2 with fail
  go_upto_if 11 with fail
  go_cut [5] (fun t wx => t = .int .i64 d ∧ wx = wa)
  case first =>
    by_cases h9 : (s[0]'h0).toNat = 45
    · have hb : ((s[0].toNat : Int) == 45) = true := by rw [h9]; rfl
      rw [if_pos h9] at hd
      subst hd
      clear h9
      go_wp2_with fail
      go_meet
      case rel => exact ⟨rfl, rfl⟩
    · have hb : ((s[0].toNat : Int) == 45) = false := by simp; omega
      rw [if_neg h9] at hd
      subst hd
      clear h9
      go_wp2_with fail
      go_meet
      case rel => exact ⟨rfl, rfl⟩
  case rest =>
    obtain ⟨rfl, hw⟩ := hcut
    subst hw
    clear hd
    have hd0 : (0 : Int) ≤ d := by omega
    go_wp2_with fail
    go_loopg [6] (s.size - d) (fun g i wr => ∃ k : Nat, d ≤ k ∧ k ≤ s.size ∧ g = s.size - k ∧ i = .int .i64 k ∧ wr = wc)
    case atStart => exact ⟨d, by omega, by omega, rfl, rfl, rfl⟩
    case round =>
      obtain ⟨k, hdk, hks, rfl, rfl, hw⟩ := hrel
      subst hw
      obtain ⟨more, hmore⟩ : ∃ more : Bool, more = if h : k < s.size then digC (s[k]'h).toNat else false := ⟨_, rfl⟩
      have j0 : (0 : Int) ≤ k := by omega
      go_upto_region 5 with fail
      go_cut [22] (fun t wx => t = .bool more ∧ wx = wr)
      case first =>
        by_cases hlt : k < s.size
        · have j1 : (k : Int) < s.size := by omega
          rw [dif_pos hlt] at hmore
          have hdg := digit_any (s[k]'hlt).toNat wr
          rw [← hmore] at hdg
          clear hmore
          go_wp2_with (go_at_call 217; refine hdg.mono ?_; clear hdg; rintro e w3 ⟨rfl, rfl⟩)
          go_meet
          case rel => exact ⟨rfl, rfl⟩
        · have j1 : ¬ (k : Int) < s.size := by omega
          rw [dif_neg hlt] at hmore
          subst hmore
          go_wp2_with fail
          go_meet
          case rel => exact ⟨rfl, rfl⟩
      case rest =>
        obtain ⟨rfl, hw⟩ := hcut
        subst hw
        cases more with
        | true =>
          have hlt : k < s.size := Classical.byContradiction fun h => by rw [dif_neg h] at hmore; cases hmore
          clear hmore
          go_wp2_with fail
          go_roundg (s.size - (k + 1))
          case measure => omega
          case rel => exact ⟨k + 1, by omega, by omega, rfl, by simp, rfl⟩
        | false =>
          have hall : ∀ n : Int, s.data.toList = Lib.itoa n → k = s.size ∧ d < k ∧ (∀ hj : d < s.size, (s[d]'hj).toNat = 48 → d = 0 ∧ k = 1) := fun n hn => by
            obtain ⟨h1, h2, h3⟩ := HF.out n hn
            have hk : k = s.size := Classical.byContradiction fun h => by
              have hlt : k < s.size := by omega
              rw [dif_pos hlt, h2 k hlt hdk] at hmore
              cases hmore
            exact ⟨hk, by omega, fun hj h => by have := h3 hj h; omega⟩
          have HA := Lib.hid hall
          have R9 := HX.out.1
          have K9 := HX.out.2
          have c9 := blk_cell R9
          have z9 := blk_fro R9
          clear hmore hall
          by_cases hA : k = d
          · have a1 : ((k : Int) == (d : Int)) = true := by simp; omega
            have HV := Lib.hid (show ∀ n : Int, s.data.toList ≠ Lib.itoa n from fun n hn => by have := HA.out n hn; omega)
            by_cases hB : k = s.size
            · have b1 : ((k : Int) == (s.size : Int)) = true := by simp; omega
              clear hA hB
              go_wp2_with fail
              have y9 := blk_three R9 (.int .i64 0) (.int .i64 0) (.string ⟨#[]⟩)
              have k9 := keep_three K9 (b := w.heap.size) (Nat.le_refl _) (.int .i64 0) (.int .i64 0) (.string ⟨#[]⟩)
              have s9 := blk_cell y9
              refine bodyPost_ret (v := .tuple #[.agg #[.int .i64 0, .int .i64 0, .string ⟨#[]⟩], .int .i64 3, .int .i64 k]) (by simp [results, Tryz.results165, go_sem, s9]) rfl ?_
              exact zero_vp _ _ (fun n h0 h9 hn => absurd hn (HV.out n)) k9
            · have b1 : ((k : Int) == (s.size : Int)) = false := by simp; omega
              clear hA hB
              go_wp2_with fail
              have y9 := blk_three R9 (.int .i64 0) (.int .i64 0) (.string ⟨#[]⟩)
              have k9 := keep_three K9 (b := w.heap.size) (Nat.le_refl _) (.int .i64 0) (.int .i64 0) (.string ⟨#[]⟩)
              have s9 := blk_cell y9
              refine bodyPost_ret (v := .tuple #[.agg #[.int .i64 0, .int .i64 0, .string ⟨#[]⟩], .int .i64 21, .int .i64 k]) (by simp [results, Tryz.results165, go_sem, s9]) rfl ?_
              exact zero_vp _ _ (fun n h0 h9 hn => absurd hn (HV.out n)) k9
          · have a1 : ((k : Int) == (d : Int)) = false := by simp; omega
            have hds : d < s.size := by omega
            have d1 : (d : Int) < s.size := by omega
            by_cases hC : (s[d]'hds).toNat = 48
            · have c1 : (((s[d]'hds).toNat : Int) == 48) = true := by rw [hC]; rfl
              by_cases hD : d = 1
              · subst hD
                have HV := Lib.hid (show ∀ n : Int, s.data.toList ≠ Lib.itoa n from fun n hn => by have := (HA.out n hn).2.2 hds hC; omega)
                clear hA hC hdk hks
                go_wp2_with fail
                have y9 := blk_three R9 (.int .i64 0) (.int .i64 0) (.string ⟨#[]⟩)
                have k9 := keep_three K9 (b := w.heap.size) (Nat.le_refl _) (.int .i64 0) (.int .i64 0) (.string ⟨#[]⟩)
                have s9 := blk_cell y9
                refine bodyPost_ret (v := .tuple #[.agg #[.int .i64 0, .int .i64 0, .string ⟨#[]⟩], .int .i64 21, .int .i64 1]) (by simp [results, Tryz.results165, go_sem, s9]) rfl ?_
                exact zero_vp _ _ (fun n h0 h9 hn => absurd hn (HV.out n)) k9
              · obtain rfl : d = 0 := by omega
                by_cases hE : 1 < k
                · have e1 : (1 : Int) < k := by omega
                  have HV := Lib.hid (show ∀ n : Int, s.data.toList ≠ Lib.itoa n from fun n hn => by have := (HA.out n hn).2.2 hds hC; omega)
                  clear hA hC hD hE hdk hks
                  go_wp2_with fail
                  have y9 := blk_three R9 (.int .i64 0) (.int .i64 0) (.string ⟨#[]⟩)
                  have k9 := keep_three K9 (b := w.heap.size) (Nat.le_refl _) (.int .i64 0) (.int .i64 0) (.string ⟨#[]⟩)
                  have s9 := blk_cell y9
                  refine bodyPost_ret (v := .tuple #[.agg #[.int .i64 0, .int .i64 0, .string ⟨#[]⟩], .int .i64 21, .int .i64 1]) (by simp [results, Tryz.results165, go_sem, s9]) rfl ?_
                  exact zero_vp _ _ (fun n h0 h9 hn => absurd hn (HV.out n)) k9
                · have e1 : ¬ (1 : Int) < k := by omega
                  clear hA hC hD hE hdk
                  have k1 : (k : Int) ≤ s.size := by omega
                  have hex : (s.extract 0 k).size ≤ 1048576 := by rw [ByteArray.size_extract]; have := HS.out.2; omega
                  have hpi := pi64_any (s.extract 0 k) hex _ (HE.out.keep K9)
                  have hext : k = s.size → s.extract 0 k = s := fun e => by rw [txt_take, List.take_of_length_le (by have : s.data.toList.length = s.size := by simp
                                                                                                                     omega), txt_self]
                  have HT := Lib.hid hext
                  clear hext hex
                  go_upto_region 15 with fail
                  go_wp2_with fail
                  refine hpi.mono ?_
                  clear hpi c9 z9
                  rintro e w7 (⟨v, rfl, H7⟩ | ⟨v, T, N, rfl, H7⟩)
                  · have R9 := H7.out.2.2.2.blk HX.out.1 (fun x => x)
                    have K9 := HX.out.2.trans H7.out.2.2.2
                    have c9 := blk_cell R9
                    have z9 := blk_fro R9
                    by_cases hB : k < s.size
                    · have b1 : (k : Int) < s.size := by omega
                      have HV := Lib.hid (show ∀ n : Int, s.data.toList ≠ Lib.itoa n from fun n hn => by have := HA.out n hn; omega)
                      clear hB hks
                      go_wp2_with fail
                      have y9 := blk_three R9 (.int .i64 0) (.int .i64 0) (.string ⟨#[]⟩)
                      have k9 := keep_three K9 (b := w.heap.size) (Nat.le_refl _) (.int .i64 0) (.int .i64 0) (.string ⟨#[]⟩)
                      have s9 := blk_cell y9
                      refine bodyPost_ret (v := .tuple #[.agg #[.int .i64 0, .int .i64 0, .string ⟨#[]⟩], .int .i64 4, .int .i64 k]) (by simp [results, Tryz.results165, go_sem, s9]) rfl ?_
                      exact zero_vp _ _ (fun n h0 h9 hn => absurd hn (HV.out n)) k9
                    · have b1 : ¬ (k : Int) < s.size := by omega
                      have hv : NumC s (mkVal 1 v noText) 0 := fun n h0 h9 hn => by
                        refine ⟨rfl, ?_⟩
                        rw [H7.out.2.2.1 n h0 h9 (by rw [HT.out (by omega)]; exact hn)]
                      have HV := Lib.hid (And.intro hv (And.intro H7.out.1 H7.out.2.1))
                      have hof := (Of_any v w7).mono (R' := fun e w8 => e = .returned (.agg #[.int .i64 1, .int .i64 v, .string noText]) ∧ w8.heap[w.heap.size]? = some (.cells #[.int .i64 0, .int .i64 0, .string ⟨#[]⟩] 96 (0, 0)) ∧ RowKit.Hid (Keep No w w8)) (by
                        rintro e w8 ⟨rfl, hk⟩
                        exact ⟨rfl, hk.blk R9 (fun x => x), K9.trans hk⟩)
                      clear hB hks hv R9 K9 c9 z9
                      go_wp2_with (go_at_call 120; refine hof.mono ?_; clear hof; rintro e w8 ⟨rfl, R8, K8⟩; have c8 := blk_cell R8; have z8 := blk_fro R8)
                      have y9 := blk_three R8 (.int .i64 1) (.int .i64 v) (.string noText)
                      have k9 := keep_three K8.out (b := w.heap.size) (Nat.le_refl _) (.int .i64 1) (.int .i64 v) (.string noText)
                      have s9 := blk_cell y9
                      refine bodyPost_ret (v := .tuple #[.agg #[.int .i64 1, .int .i64 v, .string noText], .int .i64 0, .int .i64 0]) (by simp [results, Tryz.results165, go_sem, s9]) rfl ?_
                      exact ⟨mkVal 1 v noText, 0, 0, rfl, ⟨show (-9223372036854775808 : Int) ≤ 1 by decide, show (1 : Int) ≤ 9223372036854775807 by decide, HV.out.2.1, HV.out.2.2⟩, Nat.zero_le _, HV.out.1, k9⟩
                  · have R9 := H7.out.2.blk HX.out.1 (fun x => x)
                    have K9 := HX.out.2.trans H7.out.2
                    have c9 := blk_cell R9
                    have z9 := blk_fro R9
                    have HV := Lib.hid (show ∀ n : Int, -9223372036854775808 ≤ n → n ≤ 9223372036854775807 → s.data.toList ≠ Lib.itoa n from fun n h0 h9 hn => H7.out.1 n h0 h9 (by rw [HT.out (by have := HA.out n hn; omega)]; exact hn))
                    clear hks
                    go_wp2_with fail
                    have y9 := blk_three R9 (.int .i64 0) (.int .i64 0) (.string ⟨#[]⟩)
                    have k9 := keep_three K9 (b := w.heap.size) (Nat.le_refl _) (.int .i64 0) (.int .i64 0) (.string ⟨#[]⟩)
                    have s9 := blk_cell y9
                    refine bodyPost_ret (v := .tuple #[.agg #[.int .i64 0, .int .i64 0, .string ⟨#[]⟩], .int .i64 22, .int .i64 0]) (by simp [results, Tryz.results165, go_sem, s9]) rfl ?_
                    exact zero_vp _ _ (fun n h0 h9 hn => absurd hn (HV.out n h0 h9)) k9
            · have c1 : (((s[d]'hds).toNat : Int) == 48) = false := by simp; omega
              clear hA hC hdk
              have k1 : (k : Int) ≤ s.size := by omega
              have hex : (s.extract 0 k).size ≤ 1048576 := by rw [ByteArray.size_extract]; have := HS.out.2; omega
              have hpi := pi64_any (s.extract 0 k) hex _ (HE.out.keep K9)
              have hext : k = s.size → s.extract 0 k = s := fun e => by rw [txt_take, List.take_of_length_le (by have : s.data.toList.length = s.size := by simp
                                                                                                                 omega), txt_self]
              have HT := Lib.hid hext
              clear hext hex
              go_upto_region 15 with fail
              go_wp2_with fail
              refine hpi.mono ?_
              clear hpi c9 z9
              rintro e w7 (⟨v, rfl, H7⟩ | ⟨v, T, N, rfl, H7⟩)
              · have R9 := H7.out.2.2.2.blk HX.out.1 (fun x => x)
                have K9 := HX.out.2.trans H7.out.2.2.2
                have c9 := blk_cell R9
                have z9 := blk_fro R9
                by_cases hB : k < s.size
                · have b1 : (k : Int) < s.size := by omega
                  have HV := Lib.hid (show ∀ n : Int, s.data.toList ≠ Lib.itoa n from fun n hn => by have := HA.out n hn; omega)
                  clear hB hks
                  go_wp2_with fail
                  have y9 := blk_three R9 (.int .i64 0) (.int .i64 0) (.string ⟨#[]⟩)
                  have k9 := keep_three K9 (b := w.heap.size) (Nat.le_refl _) (.int .i64 0) (.int .i64 0) (.string ⟨#[]⟩)
                  have s9 := blk_cell y9
                  refine bodyPost_ret (v := .tuple #[.agg #[.int .i64 0, .int .i64 0, .string ⟨#[]⟩], .int .i64 4, .int .i64 k]) (by simp [results, Tryz.results165, go_sem, s9]) rfl ?_
                  exact zero_vp _ _ (fun n h0 h9 hn => absurd hn (HV.out n)) k9
                · have b1 : ¬ (k : Int) < s.size := by omega
                  have hv : NumC s (mkVal 1 v noText) 0 := fun n h0 h9 hn => by
                    refine ⟨rfl, ?_⟩
                    rw [H7.out.2.2.1 n h0 h9 (by rw [HT.out (by omega)]; exact hn)]
                  have HV := Lib.hid (And.intro hv (And.intro H7.out.1 H7.out.2.1))
                  have hof := (Of_any v w7).mono (R' := fun e w8 => e = .returned (.agg #[.int .i64 1, .int .i64 v, .string noText]) ∧ w8.heap[w.heap.size]? = some (.cells #[.int .i64 0, .int .i64 0, .string ⟨#[]⟩] 96 (0, 0)) ∧ RowKit.Hid (Keep No w w8)) (by
                    rintro e w8 ⟨rfl, hk⟩
                    exact ⟨rfl, hk.blk R9 (fun x => x), K9.trans hk⟩)
                  clear hB hks hv R9 K9 c9 z9
                  go_wp2_with (go_at_call 120; refine hof.mono ?_; clear hof; rintro e w8 ⟨rfl, R8, K8⟩; have c8 := blk_cell R8; have z8 := blk_fro R8)
                  have y9 := blk_three R8 (.int .i64 1) (.int .i64 v) (.string noText)
                  have k9 := keep_three K8.out (b := w.heap.size) (Nat.le_refl _) (.int .i64 1) (.int .i64 v) (.string noText)
                  have s9 := blk_cell y9
                  refine bodyPost_ret (v := .tuple #[.agg #[.int .i64 1, .int .i64 v, .string noText], .int .i64 0, .int .i64 0]) (by simp [results, Tryz.results165, go_sem, s9]) rfl ?_
                  exact ⟨mkVal 1 v noText, 0, 0, rfl, ⟨show (-9223372036854775808 : Int) ≤ 1 by decide, show (1 : Int) ≤ 9223372036854775807 by decide, HV.out.2.1, HV.out.2.2⟩, Nat.zero_le _, HV.out.1, k9⟩
              · have R9 := H7.out.2.blk HX.out.1 (fun x => x)
                have K9 := HX.out.2.trans H7.out.2
                have c9 := blk_cell R9
                have z9 := blk_fro R9
                have HV := Lib.hid (show ∀ n : Int, -9223372036854775808 ≤ n → n ≤ 9223372036854775807 → s.data.toList ≠ Lib.itoa n from fun n h0 h9 hn => H7.out.1 n h0 h9 (by rw [HT.out (by have := HA.out n hn; omega)]; exact hn))
                clear hks
                go_wp2_with fail
                have y9 := blk_three R9 (.int .i64 0) (.int .i64 0) (.string ⟨#[]⟩)
                have k9 := keep_three K9 (b := w.heap.size) (Nat.le_refl _) (.int .i64 0) (.int .i64 0) (.string ⟨#[]⟩)
                have s9 := blk_cell y9
                refine bodyPost_ret (v := .tuple #[.agg #[.int .i64 0, .int .i64 0, .string ⟨#[]⟩], .int .i64 22, .int .i64 0]) (by simp [results, Tryz.results165, go_sem, s9]) rfl ?_
                exact zero_vp _ _ (fun n h0 h9 hn => absurd hn (HV.out n h0 h9)) k9
end Go.Proofs.YtpjcebajkfeacaaGreatDoor
