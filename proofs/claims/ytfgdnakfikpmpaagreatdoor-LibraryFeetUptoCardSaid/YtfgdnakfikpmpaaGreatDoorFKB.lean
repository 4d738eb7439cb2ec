/-
  Parts of what is proved for this claim; each declaration is one of the seat's texts.
-/
import Derived.Test.YtfgdnakfikpmpaaGreatDoorFStP
import Derived.Test.YtfgdnakfikpmpaaGreatDoorFPT
set_option linter.unusedVariables false
set_option linter.unusedSimpArgs false
namespace Go.Proofs.YtfgdnakfikpmpaaGreatDoor
open Go Go.RowKit Go.Deep
theorem parseUM_val (M : Nat) : ∀ (l : List UInt8) (acc u : Nat), Lib.parseUintM M acc l = .ok u → u = l.foldl (fun n c => n * 10 + (c.toNat - 48)) acc
  | [], acc, u, h => by rw [Lib.parseUintM] at h; cases h; rfl
  | c :: l, acc, u, h => by
    rw [Lib.parseUintM] at h
    split at h
    · split at h
      · cases h
      · split at h
        · cases h
        · exact parseUM_val M l _ u h
    · cases h
theorem parseUB_val {B : Nat} {l : List UInt8} {u : Nat} (h : Lib.parseUintB B l = .ok u) : u = spell l := by
  unfold Lib.parseUintB at h
  split at h
  · cases h
  · exact parseUM_val _ _ _ _ h
theorem parseI_val {n v : Int} (h : Lib.parseIntB 64 (Lib.itoa n) = .ok v) : v = n := by
  unfold Lib.itoa at h
  by_cases hn : n < 0
  · rw [if_pos hn] at h
    unfold Lib.parseIntB at h
    have e : (45 : UInt8).toNat = 45 := rfl
    simp only [e] at h
    rw [if_pos (.inr trivial)] at h
    cases hp : Lib.parseUintB 64 (Lib.decDigits n.natAbs) with
    | ok u =>
      rw [hp] at h
      have := parseUB_val hp
      rw [(dec_plain n.natAbs).2.1] at this
      simp only [not_true, false_and, if_false, true_and, if_true] at h
      split at h
      · cases h
      · cases h; omega
    | «syntax» => rw [hp] at h; cases h
    | range => rw [hp] at h; cases h
  · rw [if_neg hn] at h
    obtain ⟨⟨h2, h3, -⟩, h4, -⟩ := dec_plain n.toNat
    cases hq : Lib.decDigits n.toNat with
    | nil => exact absurd hq h3
    | cons c r =>
      have hc := h2 c (by rw [hq]; simp)
      have c1 := hc.1
      rw [hq] at h
      unfold Lib.parseIntB at h
      simp only at h
      rw [if_neg (by omega), ← hq] at h
      cases hp : Lib.parseUintB 64 (Lib.decDigits n.toNat) with
      | ok u =>
        rw [hp] at h
        have := parseUB_val hp
        rw [h4] at this
        have e1 : ¬ c.toNat = 45 := by omega
        simp only [e1, not_false_eq_true, true_and, false_and, if_false] at h
        split at h
        · cases h
        · cases h; omega
      | «syntax» => rw [hp] at h; cases h
      | range => rw [hp] at h; cases h
def Errs (w : World) : Prop := (∃ tp p, w.cell? ⟨8, 0, none⟩ = some (.iface tp p)) ∧ ∃ tp p, w.cell? ⟨9, 0, none⟩ = some (.iface tp p)
theorem Errs.keep {w w' : World} (h : Errs w) (hk : Keep No w w') : Errs w' := by
  obtain ⟨⟨a, b, h1⟩, c, d, h2⟩ := h
  exact ⟨⟨a, b, (hk.cell (World.block_lt_of_cell? _ _ h1) (fun x => x)).trans h1⟩, c, d, (hk.cell (World.block_lt_of_cell? _ _ h2) (fun x => x)).trans h2⟩
def GivesN (w : World) (s : ByteArray) (e : Ending) (w' : World) : Prop :=
  (∃ v : Int, e = .returned (.tuple #[.int .i64 v, .nilIface]) ∧ RowKit.Hid (-9223372036854775808 ≤ v ∧ v ≤ 9223372036854775807 ∧ ((∀ n : Int, -9223372036854775808 ≤ n → n ≤ 9223372036854775807 → s.data.toList = Lib.itoa n → v = n) ∧ Lib.parseIntB 64 s.data.toList = .ok v) ∧ Keep No w w')) ∨
  ∃ (v : Int) (T : TypeId) (N : Nat), e = .returned (.tuple #[.int .i64 v, .iface T (.pointer (some ⟨N, 0, none⟩))]) ∧ RowKit.Hid ((∀ n : Int, -9223372036854775808 ≤ n → n ≤ 9223372036854775807 → s.data.toList ≠ Lib.itoa n) ∧ Keep No w w')
theorem pi64_any (s : ByteArray) (hs : s.size ≤ 1048576) (w : World) (he : Errs w) : Calls Tryz.prog 285 #[.string s, .int .i64 10, .int .i64 64] w (GivesN w s) := by
  obtain ⟨⟨a, b, h1⟩, c, d, h2⟩ := he
  cases h : Lib.parseIntB 64 s.data.toList with
  | ok v =>
    refine (Any.strconv_ParseInt_10_at64_ok Tryz.laysParseInt s (by omega) v h w).mono ?_
    rintro e w' ⟨rfl, hw⟩
    have hb := Lib.parseIntB_bounds h
    refine .inl ⟨v, rfl, ?_, ?_, ⟨fun n h0 h9 hd => ?_, h⟩, ?_⟩
    · have := hb.1; simpa using this
    · have := hb.2; have e : ((2 ^ (64 - 1) : Nat) : Int) = 9223372036854775808 := by decide
      omega
    · rw [hd, parseI_itoa n h0 h9] at h; cases h; rfl
    · rcases hw with rfl | ⟨t, rfl⟩
      · exact Keep.refl No _
      · exact Keep.ofBelow (Lib.bytesWorld_below _ _ _)
  | «syntax» =>
    refine (Any.strconv_ParseInt_10_at64_syntax Tryz.laysParseInt s (by omega) h _ w h1 (.inr ⟨_, _, rfl⟩)).mono ?_
    rintro e w' ⟨N, rfl, -, -, hw⟩
    exact .inr ⟨0, _, N, rfl, (fun n h0 h9 hd => by rw [hd, parseI_itoa n h0 h9] at h; cases h), Keep.ofBelow hw⟩
  | range =>
    refine (Any.strconv_ParseInt_10_at64_range Tryz.laysParseInt s (by omega) h _ w h2 (.inr ⟨_, _, rfl⟩)).mono ?_
    rintro e w' ⟨N, rfl, -, -, hw⟩
    exact .inr ⟨_, _, N, rfl, (fun n h0 h9 hd => by rw [hd, parseI_itoa n h0 h9] at h; cases h), Keep.ofBelow hw⟩
end Go.Proofs.YtfgdnakfikpmpaaGreatDoor
namespace Go.Proofs.YtfgdnakfikpmpaaGreatDoor
open Go Go.RowKit Go.Deep
theorem txt_take (s : ByteArray) (i : Nat) : s.extract 0 i = txt (s.data.toList.take i) := by
  rw [Lib.extract_eq]
  simp [txt]
theorem txt_self (s : ByteArray) : txt s.data.toList = s := by
  apply ByteArray.ext
  simp [txt]
end Go.Proofs.YtfgdnakfikpmpaaGreatDoor
namespace Go.Proofs.YtfgdnakfikpmpaaGreatDoor
open Go Go.RowKit Go.Deep
theorem blk_three {w : World} {b : Nat} {x0 x1 x2 : Value} {t : TypeId} (h : w.heap[b]? = some (.cells #[x0, x1, x2] t (0, 0))) (y0 y1 y2 : Value) :
    (((w.setCell ⟨b, 0, none⟩ y0).setCell ⟨b, 1, none⟩ y1).setCell ⟨b, 2, none⟩ y2).heap[b]? = some (.cells #[y0, y1, y2] t (0, 0)) := by
  have := blk_set (blk_set (blk_set h 0 y0) 1 y1) 2 y2
  simpa using this
theorem keep_three {M : Nat → Prop} {a w : World} (h : Keep M a w) {b : Nat} (hb : a.heap.size ≤ b) (y0 y1 y2 : Value) : Keep M a (((w.setCell ⟨b, 0, none⟩ y0).setCell ⟨b, 1, none⟩ y1).setCell ⟨b, 2, none⟩ y2) := by
  repeat (refine Keep.setNew ?_ (by exact hb) _)
  exact h
def GivesVP (C : Val → Int → Prop) (w : World) (e : Ending) (w' : World) : Prop := ∃ (v : Val) (er at' : Int), e = .returned (.tuple #[.agg #[.int .i64 v.kind, .int .i64 v.num, .string v.text], .int .i64 er, .int .i64 at']) ∧ RowKit.Hid (v.In ∧ v.text.size ≤ 64 ∧ C v er ∧ Keep No w w')
theorem zero_vp {C : Val → Int → Prop} {w w' : World} (er at' : Int) (hC : C val0 er) (k : Keep No w w') : GivesVP C w (.returned (.tuple #[.agg #[.int .i64 0, .int .i64 0, .string ⟨#[]⟩], .int .i64 er, .int .i64 at'])) w' :=
  ⟨val0, er, at', rfl, ⟨by decide, by decide, by decide, by decide⟩, Nat.zero_le _, hC, k⟩
def noneW : List UInt8 := [110, 111, 110, 101]
def NoneB (s : ByteArray) (v : Val) (er : Int) : Prop := (s.data.toList = noneW → er = 0 ∧ v = val0) ∧ (er = 0 → s.data.toList = noneW ∧ v = val0)
theorem noneB_err {s : ByteArray} {er : Int} (h : s.data.toList ≠ noneW) (he : er ≠ 0) : NoneB s val0 er := ⟨fun e => absurd e h, fun e => absurd e he⟩
theorem byte_get (s : ByteArray) (k : Nat) (h : k < s.size) : s[k]'h = s.data.toList[k]'(by simpa using h) := by simp [ByteArray.getElem_eq_getElem_data]
set_option maxRecDepth 10000 in
set_option maxHeartbeats 4000000 in
theorem parseNone_any (s : ByteArray) (hs : s.size ≤ 1048576) (w : World) : Calls Tryz.prog 276 #[.string s] w (GivesVP (NoneB s) w) := by
  have x0 := blk_new w (.cells #[.int .i64 0, .int .i64 0, .string ⟨#[]⟩] 47)
  have K0 := (Keep.refl No w).alloc (.cells #[.int .i64 0, .int .i64 0, .string ⟨#[]⟩] 47)
  have i20 : (s.size : Int) ≤ 1048576 := by omega
  have HS := Lib.hid (And.intro hs (show s.data.toList.length = s.size by simp))
  clear hs
  go_enter Tryz.func276, Tryz.ntmps276
  go_upto_region 1 with fail
  have HX := Lib.hid (And.intro x0 K0)
  clear x0 K0
  generalize (w.alloc (.cells #[.int .i64 0, .int .i64 0, .string ⟨#[]⟩] 47)) = wa at *
  go_wp2_with fail
  go_loopg [6] 4 (fun g i wr => ∃ k : Nat, k ≤ 4 ∧ k ≤ s.size ∧ g = 4 - k ∧ i = .int .i64 k ∧ RowKit.Hid (s.data.toList.take k = noneW.take k ∧ Keep No w wr ∧ wr.heap[w.heap.size]? = some (.cells #[.int .i64 0, .int .i64 0, .string ⟨#[]⟩] 47 (0, 0))))
  case atStart => exact ⟨0, by omega, by omega, by omega, rfl, rfl, HX.out.2, HX.out.1⟩
  case round =>
    obtain ⟨k, hk4, hks, rfl, rfl, HR⟩ := hrel
    have R9 := HR.out.2.2
    have K9 := HR.out.2.1
    have c9 := blk_cell R9
    have z9 := blk_fro R9
    by_cases h4 : k < 4
    · have j4 : (k : Int) < 4 := by omega
      have j0 : (0 : Int) ≤ k := by omega
      by_cases hlt : k < s.size
      · have j1 : ((k : Int) == (s.size : Int)) = false := by simp; omega
        have j2 : (k : Int) < s.size := by omega
        by_cases hc : (s[k].toNat : Int) = ((⟨#[110, 111, 110, 101]⟩ : ByteArray)[k]'h4).toNat
        · have hb : ((s[k].toNat : Int) != ((⟨#[110, 111, 110, 101]⟩ : ByteArray)[k]'h4).toNat) = false := by simpa using hc
          have h9 : ((⟨#[110, 111, 110, 101]⟩ : ByteArray)[k]'h4) = noneW[k]'h4 := by rw [byte_get]; rfl
          have hl : k < s.data.toList.length := by have := HS.out.2; omega
          have HN := Lib.hid (show s.data.toList.take (k + 1) = noneW.take (k + 1) by
            rw [List.take_succ_eq_append_getElem hl, List.take_succ_eq_append_getElem (show k < noneW.length from h4), HR.out.1]
            exact congrArg (fun x => noneW.take k ++ [x]) ((byte_get s k hlt).symm.trans ((UInt8.toNat_inj.1 (by omega)).trans h9)))
          clear R9 K9 c9 z9 hc hl h9
          go_upto_region 6 with fail
          refine wp_region_canw [0, 1, 2, 3, 4, 5] [] [] (by kernel_rfl) (by kernel_rfl) (by kernel_rfl) (by kernel_rfl) (by intro c a d v w h; cases d <;> exact h) ?_
          have R9 := (Keep.refl No wr).drew.blk HR.out.2.2 (fun x => x)
          have K9 := HR.out.2.1.drew
          generalize wr.drew = w5 at *
          have c9 := blk_cell R9
          have z9 := blk_fro R9
          iterate 6 (refine canw_sil rfl rfl (fun K hK => ?_); go_simp; refine hK _ ?_; clear hK K)
          refine canw_nil ?_
          go_wp2_with fail
          go_roundg (4 - (k + 1))
          case measure => omega
          case rel => exact ⟨k + 1, by omega, by omega, rfl, by simp, HN.out, K9, R9⟩
        · have hb : ((s[k].toNat : Int) != ((⟨#[110, 111, 110, 101]⟩ : ByteArray)[k]'h4).toNat) = true := by simpa using hc
          have hne : s.data.toList ≠ noneW := fun e => hc (by
            have h9 : s[k] = noneW[k]'h4 := by
              have : s[k] = s.data.toList[k]'(by simpa using hlt) := by simp [ByteArray.getElem_eq_getElem_data]
              rw [this]
              exact List.getElem_of_eq e _
            rw [h9]
            rfl)
          have HN := Lib.hid hne
          clear R9 K9 c9 z9 hc hne
          go_upto_region 6 with fail
          refine wp_region_canw [0, 1, 2, 3, 4, 5] [] [] (by kernel_rfl) (by kernel_rfl) (by kernel_rfl) (by kernel_rfl) (by intro c a d v w h; cases d <;> exact h) ?_
          have R9 := (Keep.refl No wr).drew.blk HR.out.2.2 (fun x => x)
          have K9 := HR.out.2.1.drew
          generalize wr.drew = w5 at *
          have c9 := blk_cell R9
          have z9 := blk_fro R9
          iterate 6 (refine canw_sil rfl rfl (fun K hK => ?_); go_simp; refine hK _ ?_; clear hK K)
          refine canw_nil ?_
          go_wp2_with fail
          have y9 := blk_three R9 (.int .i64 0) (.int .i64 0) (.string ⟨#[]⟩)
          have k9 := keep_three K9 (b := w.heap.size) (Nat.le_refl _) (.int .i64 0) (.int .i64 0) (.string ⟨#[]⟩)
          have s9 := blk_cell y9
          refine bodyPost_ret (v := .tuple #[.agg #[.int .i64 0, .int .i64 0, .string ⟨#[]⟩], .int .i64 21, .int .i64 k]) (by simp [results, Tryz.results276, go_sem, s9]) rfl ?_
          exact zero_vp _ _ (noneB_err HN.out (by decide)) k9
      · have : k = s.size := by omega
        have j1 : ((k : Int) == (s.size : Int)) = true := by simp; omega
        have hne : s.data.toList ≠ noneW := fun e => by
          have := congrArg List.length e
          simp [noneW] at this
          have h9 : s.data.toList.length = s.size := by simp
          omega
        have HN := Lib.hid hne
        clear hlt this hk4 hks h4
        go_wp2_with fail
        have y9 := blk_three R9 (.int .i64 0) (.int .i64 0) (.string ⟨#[]⟩)
        have k9 := keep_three K9 (b := w.heap.size) (Nat.le_refl _) (.int .i64 0) (.int .i64 0) (.string ⟨#[]⟩)
        have s9 := blk_cell y9
        refine bodyPost_ret (v := .tuple #[.agg #[.int .i64 0, .int .i64 0, .string ⟨#[]⟩], .int .i64 3, .int .i64 k]) (by simp [results, Tryz.results276, go_sem, s9]) rfl ?_
        exact zero_vp _ _ (noneB_err HN.out (by decide)) k9
    · obtain rfl : k = 4 := by omega
      have j4 : ¬ ((4 : Nat) : Int) < 4 := by omega
      clear hk4 h4
      by_cases hl : 4 < s.size
      · have j1 : (4 : Int) < s.size := by omega
        have hne : s.data.toList ≠ noneW := fun e => by
          have := congrArg List.length e
          have h8 : noneW.length = 4 := rfl
          have h9 : s.data.toList.length = s.size := by simp
          omega
        have HN := Lib.hid hne
        clear hne hl
        go_wp2_with fail
        have y9 := blk_three R9 (.int .i64 0) (.int .i64 0) (.string ⟨#[]⟩)
        have k9 := keep_three K9 (b := w.heap.size) (Nat.le_refl _) (.int .i64 0) (.int .i64 0) (.string ⟨#[]⟩)
        have s9 := blk_cell y9
        refine bodyPost_ret (v := .tuple #[.agg #[.int .i64 0, .int .i64 0, .string ⟨#[]⟩], .int .i64 4, .int .i64 4]) (by simp [results, Tryz.results276, go_sem, s9]) rfl ?_
        exact zero_vp _ _ (noneB_err HN.out (by decide)) k9
      · have j1 : ¬ (4 : Int) < s.size := by omega
        have HN := Lib.hid (show s.data.toList = noneW by
          have := HR.out.1
          rwa [List.take_of_length_le (by have := HS.out.2; omega)] at this)
        clear hl
        go_wp2_with fail
        have y9 := blk_three R9 (.int .i64 0) (.int .i64 0) (.string ⟨#[]⟩)
        have k9 := keep_three K9 (b := w.heap.size) (Nat.le_refl _) (.int .i64 0) (.int .i64 0) (.string ⟨#[]⟩)
        have s9 := blk_cell y9
        refine bodyPost_ret (v := .tuple #[.agg #[.int .i64 0, .int .i64 0, .string ⟨#[]⟩], .int .i64 0, .int .i64 0]) (by simp [results, Tryz.results276, go_sem, s9]) rfl ?_
        exact zero_vp _ _ ⟨fun _ => ⟨rfl, rfl⟩, fun _ => ⟨HN.out, rfl⟩⟩ k9
def digC (c : Int) : Bool := decide (48 ≤ c) && decide (c ≤ 57)
theorem digit_any (c : Int) (w : World) : Calls Tryz.prog 284 #[.int .u8 c] w fun e w' => e = .returned (.bool (digC c)) ∧ w' = w := by
  unfold digC
  by_cases h1 : 48 ≤ c
  · by_cases h2 : c ≤ 57
    · go_enter Tryz.func284, Tryz.ntmps284
      go_wp2
      go_ret
      simp [h1, h2]
    · go_enter Tryz.func284, Tryz.ntmps284
      go_wp2
      go_ret
      simp [h1, h2]
  · go_enter Tryz.func284, Tryz.ntmps284
    go_wp2
    go_ret
    simp [h1]
    try omega
theorem num_facts (n : Int) (l : List UInt8) (h : l = Lib.itoa n) : ∃ d : Nat, (d = 0 ∨ d = 1) ∧ (d = 1 ↔ l.head? = some 45) ∧ d < l.length ∧ (∀ j (hj : j < l.length), d ≤ j → dgt l[j]) ∧ (∀ hd : d < l.length, l[d] = 48 → d = 0 ∧ l.length = 1) := by
  subst h
  unfold Lib.itoa
  by_cases hn : n < 0
  · rw [if_pos hn]
    obtain ⟨⟨h1, h2, -⟩, -, h3⟩ := dec_plain n.natAbs
    have hp := h3 (by omega)
    have hl := List.length_pos_iff.2 h2
    refine ⟨1, .inr rfl, ⟨fun _ => rfl, fun _ => rfl⟩, by simp; exact hl, fun j hj hd => ?_, fun hd he => ?_⟩
    · obtain ⟨i, rfl⟩ : ∃ i, j = i + 1 := ⟨j - 1, by omega⟩
      rw [List.getElem_cons_succ]
      exact h1 _ (List.getElem_mem _)
    · rw [List.getElem_cons_succ] at he
      rw [List.head?_eq_getElem?, List.getElem?_eq_getElem hl] at hp
      exact absurd (congrArg some he) hp
  · rw [if_neg hn]
    obtain ⟨⟨h1, h2, h3⟩, -, -⟩ := dec_plain n.toNat
    have hl := List.length_pos_iff.2 h2
    refine ⟨0, .inl rfl, ⟨fun h => (by cases h), fun h => ?_⟩, hl, fun j hj _ => h1 _ (List.getElem_mem _), fun hd he => ⟨rfl, h3 (by rw [List.head?_eq_getElem?, List.getElem?_eq_getElem hl, he])⟩⟩
    have : dgt 45 := h1 45 (List.mem_of_head? h)
    exact absurd this.1 (by decide)
theorem num_write2 {L : List UInt8} {d : Nat} (hd : d ≤ 1) (hs : d = 1 ↔ L.head? = some 45) (hall : ∀ c ∈ L.drop d, dgt c) (hne : L.drop d ≠ []) (hz : (L.drop d).head? = some 48 → d = 0 ∧ L.length = 1) : L = Lib.itoa (if d = 1 then -(spell (L.drop d) : Int) else (spell (L.drop d) : Int)) := by
  have hp : plainD (L.drop d) := ⟨hall, hne, fun h => by obtain ⟨rfl, h1⟩ := hz h; exact h1⟩
  have hdec := dec_of _ hp
  by_cases h1 : d = 1
  · subst h1
    rw [if_pos rfl]
    have hpos : 0 < spell (L.drop 1) := by
      apply Nat.pos_of_ne_zero
      intro e
      rw [e] at hdec
      have h48 : (L.drop 1).head? = some 48 := by rw [← hdec, dec_rec]; rfl
      exact absurd (hz h48).1 (by decide)
    have hL : L = 45 :: L.drop 1 := by
      cases L with
      | nil => exact absurd (hs.1 rfl) (by decide)
      | cons c l => have := hs.1 rfl; simp at this; rw [this]; rfl
    unfold Lib.itoa
    rw [if_pos (by omega)]
    have e : (-(spell (L.drop 1) : Int)).natAbs = spell (L.drop 1) := by omega
    rw [e, hdec]
    exact hL
  · obtain rfl : d = 0 := by omega
    rw [if_neg h1]
    unfold Lib.itoa
    rw [if_neg (by omega)]
    rw [Int.toNat_natCast, hdec, List.drop_zero]
def NumC (s : ByteArray) (v : Val) (er : Int) : Prop := ∀ n : Int, -9223372036854775808 ≤ n → n ≤ 9223372036854775807 → s.data.toList = Lib.itoa n → er = 0 ∧ v = mkVal 1 n noText
def NumB (s : ByteArray) (v : Val) (er : Int) : Prop := (∀ n : Int, -9223372036854775808 ≤ n → n ≤ 9223372036854775807 → s.data.toList = Lib.itoa n → er = 0 ∧ v = mkVal 1 n noText) ∧ (er = 0 → v.kind = 1 ∧ v.text = noText ∧ s.data.toList = Lib.itoa v.num)
theorem numB9_err {s : ByteArray} {er : Int} (h : ∀ n : Int, -9223372036854775808 ≤ n → n ≤ 9223372036854775807 → s.data.toList ≠ Lib.itoa n) (he : er ≠ 0) : NumB s val0 er := ⟨fun n h0 h1 e => absurd e (h n h0 h1), fun e => absurd e he⟩
theorem parse_sound {s : ByteArray} {d : Nat} {v : Int} (h0 : 0 < s.size) (hd : d = if (s[0]'h0).toNat = 45 then 1 else 0) (hds : d < s.size) (hall : ∀ j (hj : j < s.size), d ≤ j → digC (s[j]'hj).toNat = true) (hz : (s[d]'hds).toNat = 48 → d = 0 ∧ s.size = 1) (hv : Lib.parseIntB 64 s.data.toList = .ok v) : s.data.toList = Lib.itoa v := by
  have hlen : s.data.toList.length = s.size := by simp
  have hhd : s.data.toList.head? = some (s[0]'h0) := by rw [List.head?_eq_getElem?, List.getElem?_eq_getElem (by omega), byte_get]
  have hh : (s.data.toList.drop d).head? = some (s[d]'hds) := by rw [List.head?_drop, List.getElem?_eq_getElem (by omega), byte_get]
  have := num_write2 (L := s.data.toList) (d := d) (by rw [hd]; split <;> omega) (by
      rw [hhd, Option.some.injEq, hd]
      constructor
      · intro h
        split at h
        · rename_i h9; exact UInt8.toNat_inj.1 h9
        · cases h
      · intro h
        rw [if_pos (by rw [h]; rfl)]) (fun c hc => by
      obtain ⟨i, hi, e⟩ := List.getElem_of_mem hc
      rw [List.getElem_drop] at e
      rw [List.length_drop] at hi
      have := hall (d + i) (by omega) (by omega)
      rw [byte_get, e] at this
      unfold digC at this
      rw [Bool.and_eq_true, decide_eq_true_eq, decide_eq_true_eq] at this
      exact ⟨by omega, by omega⟩) (fun e => by rw [e] at hh; cases hh) (fun h48 => by
      rw [hh, Option.some.injEq] at h48
      have := hz (by rw [h48]; rfl)
      exact ⟨this.1, by omega⟩)
  rw [this] at hv
  rw [parseI_val hv]
  exact this
set_option maxRecDepth 10000 in
set_option maxHeartbeats 4000000 in
theorem parseNumber_any (s : ByteArray) (h0 : 0 < s.size) (hs : s.size ≤ 1048576) (w : World) (he : Errs w) : Calls Tryz.prog 275 #[.string s] w (GivesVP (NumB s) w) := by
  have x0 := blk_new w (.cells #[.int .i64 0, .int .i64 0, .string ⟨#[]⟩] 47)
  have K0 := (Keep.refl No w).alloc (.cells #[.int .i64 0, .int .i64 0, .string ⟨#[]⟩] 47)
  obtain ⟨d, hd⟩ : ∃ d : Nat, d = if (s[0]'h0).toNat = 45 then 1 else 0 := ⟨_, rfl⟩
  have hd2 : d ≤ 1 := by rw [hd]; split <;> omega
  have hfacts : ∀ n : Int, s.data.toList = Lib.itoa n → d < s.size ∧ (∀ j (hj : j < s.size), d ≤ j → digC (s[j]'hj).toNat = true) ∧ (∀ hj : d < s.size, (s[d]'hj).toNat = 48 → d = 0 ∧ s.size = 1) := fun n hn => by
    obtain ⟨d', h1, h2, h3, h4, h5⟩ := num_facts n _ hn
    have hl : s.data.toList.length = s.size := by simp
    have hhd : s.data.toList.head? = some (s[0]'h0) := by rw [List.head?_eq_getElem?, List.getElem?_eq_getElem (by omega), byte_get]
    have e : d' = d := by
      rw [hhd] at h2
      rw [hd]
      split
      · rename_i h9
        exact h2.2 (by congr 1; exact UInt8.toNat_inj.1 h9)
      · rename_i h9
        rcases h1 with h1 | h1
        · exact h1
        · have := h2.1 h1
          simp only [Option.some.injEq] at this
          exact absurd (by rw [this]; rfl) h9
    subst e
    refine ⟨by omega, fun j hj hdj => ?_, fun hj h48 => ?_⟩
    · have := h4 j (by omega) hdj
      rw [byte_get]
      unfold digC
      obtain ⟨a, b⟩ := this
      rw [Bool.and_eq_true, decide_eq_true_eq, decide_eq_true_eq]
      omega
    · have := h5 (by omega) (by rw [← byte_get s d' hj]; exact UInt8.toNat_inj.1 h48)
      exact ⟨this.1, by omega⟩
  have i20 : (s.size : Int) ≤ 1048576 := by omega
  have j00 : (0 : Int) < s.size := by omega
  have HE := Lib.hid he
  have HF := Lib.hid hfacts
  have HS := Lib.hid (And.intro h0 hs)
  clear hfacts hs he
  have HDD := Lib.hid hd
  go_enter Tryz.func275, Tryz.ntmps275
  go_upto_region 1 with fail
  have HX := Lib.hid (And.intro x0 K0)
  clear x0 K0
  generalize (w.alloc (.cells #[.int .i64 0, .int .i64 0, .string ⟨#[]⟩] 47)) = wa at *
  go_upto_region 2 with fail
  go_upto_if 11 with fail
  go_cut [5] (fun t wx => t = .int .i64 d ∧ wx = wa)
  case first =>
    by_cases h9 : (s[0]'h0).toNat = 45
    · have hb : ((s[0].toNat : Int) == 45) = true := by rw [h9]; rfl
      rw [if_pos h9] at hd
      subst hd
      clear h9
      go_wp2_with fail
      go_meet
      case rel => exact ⟨rfl, rfl⟩
    · have hb : ((s[0].toNat : Int) == 45) = false := by simp; omega
      rw [if_neg h9] at hd
      subst hd
      clear h9
      go_wp2_with fail
      go_meet
      case rel => exact ⟨rfl, rfl⟩
  case rest =>
    obtain ⟨rfl, hw⟩ := hcut
    subst hw
    clear hd
    have hd0 : (0 : Int) ≤ d := by omega
    go_wp2_with fail
    go_loopg [6] (s.size - d) (fun g i wr => ∃ k : Nat, d ≤ k ∧ k ≤ s.size ∧ g = s.size - k ∧ i = .int .i64 k ∧ wr = wc ∧ RowKit.Hid (∀ j (hj : j < s.size), d ≤ j → j < k → digC (s[j]'hj).toNat = true))
    case atStart => exact ⟨d, by omega, by omega, rfl, rfl, rfl, fun j hj h1 h2 => by omega⟩
    case round =>
      obtain ⟨k, hdk, hks, rfl, rfl, hw, HD⟩ := hrel
      subst hw
      obtain ⟨more, hmore⟩ : ∃ more : Bool, more = if h : k < s.size then digC (s[k]'h).toNat else false := ⟨_, rfl⟩
      have j0 : (0 : Int) ≤ k := by omega
      go_upto_region 5 with fail
      go_cut [22] (fun t wx => t = .bool more ∧ wx = wr)
      case first =>
        by_cases hlt : k < s.size
        · have j1 : (k : Int) < s.size := by omega
          rw [dif_pos hlt] at hmore
          have hdg := digit_any (s[k]'hlt).toNat wr
          rw [← hmore] at hdg
          clear hmore
          go_wp2_with (go_at_call 284; refine hdg.mono ?_; clear hdg; rintro e w3 ⟨rfl, rfl⟩)
          go_meet
          case rel => exact ⟨rfl, rfl⟩
        · have j1 : ¬ (k : Int) < s.size := by omega
          rw [dif_neg hlt] at hmore
          subst hmore
          go_wp2_with fail
          go_meet
          case rel => exact ⟨rfl, rfl⟩
      case rest =>
        obtain ⟨rfl, hw⟩ := hcut
        subst hw
        cases more with
        | true =>
          have hlt : k < s.size := Classical.byContradiction fun h => by rw [dif_neg h] at hmore; cases hmore
          have HD2 := Lib.hid (show ∀ j (hj : j < s.size), d ≤ j → j < k + 1 → digC (s[j]'hj).toNat = true from fun j hj h1 h2 => by
            by_cases h3 : j < k
            · exact HD.out j hj h1 h3
            · obtain rfl : j = k := by omega
              rw [dif_pos hlt] at hmore
              exact hmore.symm)
          clear hmore
          go_wp2_with fail
          go_roundg (s.size - (k + 1))
          case measure => omega
          case rel => exact ⟨k + 1, by omega, by omega, rfl, by simp, rfl, HD2.out⟩
        | false =>
          have hall : ∀ n : Int, s.data.toList = Lib.itoa n → k = s.size ∧ d < k ∧ (∀ hj : d < s.size, (s[d]'hj).toNat = 48 → d = 0 ∧ k = 1) := fun n hn => by
            obtain ⟨h1, h2, h3⟩ := HF.out n hn
            have hk : k = s.size := Classical.byContradiction fun h => by
              have hlt : k < s.size := by omega
              rw [dif_pos hlt, h2 k hlt hdk] at hmore
              cases hmore
            exact ⟨hk, by omega, fun hj h => by have := h3 hj h; omega⟩
          have HA := Lib.hid hall
          have R9 := HX.out.1
          have K9 := HX.out.2
          have c9 := blk_cell R9
          have z9 := blk_fro R9
          clear hmore hall
          by_cases hA : k = d
          · have a1 : ((k : Int) == (d : Int)) = true := by simp; omega
            have HV := Lib.hid (show ∀ n : Int, s.data.toList ≠ Lib.itoa n from fun n hn => by have := HA.out n hn; omega)
            by_cases hB : k = s.size
            · have b1 : ((k : Int) == (s.size : Int)) = true := by simp; omega
              clear hA hB
              go_wp2_with fail
              have y9 := blk_three R9 (.int .i64 0) (.int .i64 0) (.string ⟨#[]⟩)
              have k9 := keep_three K9 (b := w.heap.size) (Nat.le_refl _) (.int .i64 0) (.int .i64 0) (.string ⟨#[]⟩)
              have s9 := blk_cell y9
              refine bodyPost_ret (v := .tuple #[.agg #[.int .i64 0, .int .i64 0, .string ⟨#[]⟩], .int .i64 3, .int .i64 k]) (by simp [results, Tryz.results275, go_sem, s9]) rfl ?_
              exact zero_vp _ _ (numB9_err (fun n h0 h9 hn => absurd hn (HV.out n)) (by decide)) k9
            · have b1 : ((k : Int) == (s.size : Int)) = false := by simp; omega
              clear hA hB
              go_wp2_with fail
              have y9 := blk_three R9 (.int .i64 0) (.int .i64 0) (.string ⟨#[]⟩)
              have k9 := keep_three K9 (b := w.heap.size) (Nat.le_refl _) (.int .i64 0) (.int .i64 0) (.string ⟨#[]⟩)
              have s9 := blk_cell y9
              refine bodyPost_ret (v := .tuple #[.agg #[.int .i64 0, .int .i64 0, .string ⟨#[]⟩], .int .i64 21, .int .i64 k]) (by simp [results, Tryz.results275, go_sem, s9]) rfl ?_
              exact zero_vp _ _ (numB9_err (fun n h0 h9 hn => absurd hn (HV.out n)) (by decide)) k9
          · have a1 : ((k : Int) == (d : Int)) = false := by simp; omega
            have hds : d < s.size := by omega
            have d1 : (d : Int) < s.size := by omega
            by_cases hC : (s[d]'hds).toNat = 48
            · have c1 : (((s[d]'hds).toNat : Int) == 48) = true := by rw [hC]; rfl
              by_cases hD : d = 1
              · subst hD
                have HV := Lib.hid (show ∀ n : Int, s.data.toList ≠ Lib.itoa n from fun n hn => by have := (HA.out n hn).2.2 hds hC; omega)
                clear hA hC hdk hks
                go_wp2_with fail
                have y9 := blk_three R9 (.int .i64 0) (.int .i64 0) (.string ⟨#[]⟩)
                have k9 := keep_three K9 (b := w.heap.size) (Nat.le_refl _) (.int .i64 0) (.int .i64 0) (.string ⟨#[]⟩)
                have s9 := blk_cell y9
                refine bodyPost_ret (v := .tuple #[.agg #[.int .i64 0, .int .i64 0, .string ⟨#[]⟩], .int .i64 21, .int .i64 1]) (by simp [results, Tryz.results275, go_sem, s9]) rfl ?_
                exact zero_vp _ _ (numB9_err (fun n h0 h9 hn => absurd hn (HV.out n)) (by decide)) k9
              · obtain rfl : d = 0 := by omega
                by_cases hE : 1 < k
                · have e1 : (1 : Int) < k := by omega
                  have HV := Lib.hid (show ∀ n : Int, s.data.toList ≠ Lib.itoa n from fun n hn => by have := (HA.out n hn).2.2 hds hC; omega)
                  clear hA hC hD hE hdk hks
                  go_wp2_with fail
                  have y9 := blk_three R9 (.int .i64 0) (.int .i64 0) (.string ⟨#[]⟩)
                  have k9 := keep_three K9 (b := w.heap.size) (Nat.le_refl _) (.int .i64 0) (.int .i64 0) (.string ⟨#[]⟩)
                  have s9 := blk_cell y9
                  refine bodyPost_ret (v := .tuple #[.agg #[.int .i64 0, .int .i64 0, .string ⟨#[]⟩], .int .i64 21, .int .i64 1]) (by simp [results, Tryz.results275, go_sem, s9]) rfl ?_
                  exact zero_vp _ _ (numB9_err (fun n h0 h9 hn => absurd hn (HV.out n)) (by decide)) k9
                · have e1 : ¬ (1 : Int) < k := by omega
                  have HSND := Lib.hid (show ∀ v : Int, k = s.size → Lib.parseIntB 64 s.data.toList = .ok v → s.data.toList = Lib.itoa v from fun v hk hv => parse_sound HS.out.1 HDD.out hds (fun j hj h1 => HD.out j hj h1 (by omega)) (fun _ => ⟨rfl, by omega⟩) hv)
                  clear hA hC hD hE hdk
                  have k1 : (k : Int) ≤ s.size := by omega
                  have hex : (s.extract 0 k).size ≤ 1048576 := by rw [ByteArray.size_extract]; have := HS.out.2; omega
                  have hpi := pi64_any (s.extract 0 k) hex _ (HE.out.keep K9)
                  have hext : k = s.size → s.extract 0 k = s := fun e => by rw [txt_take, List.take_of_length_le (by have : s.data.toList.length = s.size := by simp
                                                                                                                     omega), txt_self]
                  have HT := Lib.hid hext
                  clear hext hex
                  go_upto_region 15 with fail
                  go_wp2_with fail
                  refine hpi.mono ?_
                  clear hpi c9 z9
                  rintro e w7 (⟨v, rfl, H7⟩ | ⟨v, T, N, rfl, H7⟩)
                  · have R9 := H7.out.2.2.2.blk HX.out.1 (fun x => x)
                    have K9 := HX.out.2.trans H7.out.2.2.2
                    have c9 := blk_cell R9
                    have z9 := blk_fro R9
                    by_cases hB : k < s.size
                    · have b1 : (k : Int) < s.size := by omega
                      have HV := Lib.hid (show ∀ n : Int, s.data.toList ≠ Lib.itoa n from fun n hn => by have := HA.out n hn; omega)
                      clear hB hks
                      go_wp2_with fail
                      have y9 := blk_three R9 (.int .i64 0) (.int .i64 0) (.string ⟨#[]⟩)
                      have k9 := keep_three K9 (b := w.heap.size) (Nat.le_refl _) (.int .i64 0) (.int .i64 0) (.string ⟨#[]⟩)
                      have s9 := blk_cell y9
                      refine bodyPost_ret (v := .tuple #[.agg #[.int .i64 0, .int .i64 0, .string ⟨#[]⟩], .int .i64 4, .int .i64 k]) (by simp [results, Tryz.results275, go_sem, s9]) rfl ?_
                      exact zero_vp _ _ (numB9_err (fun n h0 h9 hn => absurd hn (HV.out n)) (by decide)) k9
                    · have b1 : ¬ (k : Int) < s.size := by omega
                      have hv : NumB s (mkVal 1 v noText) 0 := ⟨fun n h0 h9 hn => by
                        refine ⟨rfl, ?_⟩
                        rw [H7.out.2.2.1.1 n h0 h9 (by rw [HT.out (by omega)]; exact hn)], fun _ => ⟨rfl, rfl, HSND.out v (by omega) (by have := H7.out.2.2.1.2; rwa [HT.out (by omega)] at this)⟩⟩
                      have HV := Lib.hid (And.intro hv (And.intro H7.out.1 H7.out.2.1))
                      have hof := (Of_any v w7).mono (R' := fun e w8 => e = .returned (.agg #[.int .i64 1, .int .i64 v, .string noText]) ∧ w8.heap[w.heap.size]? = some (.cells #[.int .i64 0, .int .i64 0, .string ⟨#[]⟩] 47 (0, 0)) ∧ RowKit.Hid (Keep No w w8)) (by
                        rintro e w8 ⟨rfl, hk⟩
                        exact ⟨rfl, hk.blk R9 (fun x => x), K9.trans hk⟩)
                      clear hB hks hv R9 K9 c9 z9
                      go_wp2_with (go_at_call 286; refine hof.mono ?_; clear hof; rintro e w8 ⟨rfl, R8, K8⟩; have c8 := blk_cell R8; have z8 := blk_fro R8)
                      have y9 := blk_three R8 (.int .i64 1) (.int .i64 v) (.string noText)
                      have k9 := keep_three K8.out (b := w.heap.size) (Nat.le_refl _) (.int .i64 1) (.int .i64 v) (.string noText)
                      have s9 := blk_cell y9
                      refine bodyPost_ret (v := .tuple #[.agg #[.int .i64 1, .int .i64 v, .string noText], .int .i64 0, .int .i64 0]) (by simp [results, Tryz.results275, go_sem, s9]) rfl ?_
                      exact ⟨mkVal 1 v noText, 0, 0, rfl, ⟨show (-9223372036854775808 : Int) ≤ 1 by decide, show (1 : Int) ≤ 9223372036854775807 by decide, HV.out.2.1, HV.out.2.2⟩, Nat.zero_le _, HV.out.1, k9⟩
                  · have R9 := H7.out.2.blk HX.out.1 (fun x => x)
                    have K9 := HX.out.2.trans H7.out.2
                    have c9 := blk_cell R9
                    have z9 := blk_fro R9
                    have HV := Lib.hid (show ∀ n : Int, -9223372036854775808 ≤ n → n ≤ 9223372036854775807 → s.data.toList ≠ Lib.itoa n from fun n h0 h9 hn => H7.out.1 n h0 h9 (by rw [HT.out (by have := HA.out n hn; omega)]; exact hn))
                    clear hks
                    go_wp2_with fail
                    have y9 := blk_three R9 (.int .i64 0) (.int .i64 0) (.string ⟨#[]⟩)
                    have k9 := keep_three K9 (b := w.heap.size) (Nat.le_refl _) (.int .i64 0) (.int .i64 0) (.string ⟨#[]⟩)
                    have s9 := blk_cell y9
                    refine bodyPost_ret (v := .tuple #[.agg #[.int .i64 0, .int .i64 0, .string ⟨#[]⟩], .int .i64 22, .int .i64 0]) (by simp [results, Tryz.results275, go_sem, s9]) rfl ?_
                    exact zero_vp _ _ (numB9_err (fun n h0 h9 hn => absurd hn (HV.out n h0 h9)) (by decide)) k9
            · have c1 : (((s[d]'hds).toNat : Int) == 48) = false := by simp; omega
              have HSND := Lib.hid (show ∀ v : Int, k = s.size → Lib.parseIntB 64 s.data.toList = .ok v → s.data.toList = Lib.itoa v from fun v hk hv => parse_sound HS.out.1 HDD.out hds (fun j hj h1 => HD.out j hj h1 (by omega)) (fun h => absurd h hC) hv)
              clear hA hC hdk
              have k1 : (k : Int) ≤ s.size := by omega
              have hex : (s.extract 0 k).size ≤ 1048576 := by rw [ByteArray.size_extract]; have := HS.out.2; omega
              have hpi := pi64_any (s.extract 0 k) hex _ (HE.out.keep K9)
              have hext : k = s.size → s.extract 0 k = s := fun e => by rw [txt_take, List.take_of_length_le (by have : s.data.toList.length = s.size := by simp
                                                                                                                 omega), txt_self]
              have HT := Lib.hid hext
              clear hext hex
              go_upto_region 15 with fail
              go_wp2_with fail
              refine hpi.mono ?_
              clear hpi c9 z9
              rintro e w7 (⟨v, rfl, H7⟩ | ⟨v, T, N, rfl, H7⟩)
              · have R9 := H7.out.2.2.2.blk HX.out.1 (fun x => x)
                have K9 := HX.out.2.trans H7.out.2.2.2
                have c9 := blk_cell R9
                have z9 := blk_fro R9
                by_cases hB : k < s.size
                · have b1 : (k : Int) < s.size := by omega
                  have HV := Lib.hid (show ∀ n : Int, s.data.toList ≠ Lib.itoa n from fun n hn => by have := HA.out n hn; omega)
                  clear hB hks
                  go_wp2_with fail
                  have y9 := blk_three R9 (.int .i64 0) (.int .i64 0) (.string ⟨#[]⟩)
                  have k9 := keep_three K9 (b := w.heap.size) (Nat.le_refl _) (.int .i64 0) (.int .i64 0) (.string ⟨#[]⟩)
                  have s9 := blk_cell y9
                  refine bodyPost_ret (v := .tuple #[.agg #[.int .i64 0, .int .i64 0, .string ⟨#[]⟩], .int .i64 4, .int .i64 k]) (by simp [results, Tryz.results275, go_sem, s9]) rfl ?_
                  exact zero_vp _ _ (numB9_err (fun n h0 h9 hn => absurd hn (HV.out n)) (by decide)) k9
                · have b1 : ¬ (k : Int) < s.size := by omega
                  have hv : NumB s (mkVal 1 v noText) 0 := ⟨fun n h0 h9 hn => by
                    refine ⟨rfl, ?_⟩
                    rw [H7.out.2.2.1.1 n h0 h9 (by rw [HT.out (by omega)]; exact hn)], fun _ => ⟨rfl, rfl, HSND.out v (by omega) (by have := H7.out.2.2.1.2; rwa [HT.out (by omega)] at this)⟩⟩
                  have HV := Lib.hid (And.intro hv (And.intro H7.out.1 H7.out.2.1))
                  have hof := (Of_any v w7).mono (R' := fun e w8 => e = .returned (.agg #[.int .i64 1, .int .i64 v, .string noText]) ∧ w8.heap[w.heap.size]? = some (.cells #[.int .i64 0, .int .i64 0, .string ⟨#[]⟩] 47 (0, 0)) ∧ RowKit.Hid (Keep No w w8)) (by
                    rintro e w8 ⟨rfl, hk⟩
                    exact ⟨rfl, hk.blk R9 (fun x => x), K9.trans hk⟩)
                  clear hB hks hv R9 K9 c9 z9
                  go_wp2_with (go_at_call 286; refine hof.mono ?_; clear hof; rintro e w8 ⟨rfl, R8, K8⟩; have c8 := blk_cell R8; have z8 := blk_fro R8)
                  have y9 := blk_three R8 (.int .i64 1) (.int .i64 v) (.string noText)
                  have k9 := keep_three K8.out (b := w.heap.size) (Nat.le_refl _) (.int .i64 1) (.int .i64 v) (.string noText)
                  have s9 := blk_cell y9
                  refine bodyPost_ret (v := .tuple #[.agg #[.int .i64 1, .int .i64 v, .string noText], .int .i64 0, .int .i64 0]) (by simp [results, Tryz.results275, go_sem, s9]) rfl ?_
                  exact ⟨mkVal 1 v noText, 0, 0, rfl, ⟨show (-9223372036854775808 : Int) ≤ 1 by decide, show (1 : Int) ≤ 9223372036854775807 by decide, HV.out.2.1, HV.out.2.2⟩, Nat.zero_le _, HV.out.1, k9⟩
              · have R9 := H7.out.2.blk HX.out.1 (fun x => x)
                have K9 := HX.out.2.trans H7.out.2
                have c9 := blk_cell R9
                have z9 := blk_fro R9
                have HV := Lib.hid (show ∀ n : Int, -9223372036854775808 ≤ n → n ≤ 9223372036854775807 → s.data.toList ≠ Lib.itoa n from fun n h0 h9 hn => H7.out.1 n h0 h9 (by rw [HT.out (by have := HA.out n hn; omega)]; exact hn))
                clear hks
                go_wp2_with fail
                have y9 := blk_three R9 (.int .i64 0) (.int .i64 0) (.string ⟨#[]⟩)
                have k9 := keep_three K9 (b := w.heap.size) (Nat.le_refl _) (.int .i64 0) (.int .i64 0) (.string ⟨#[]⟩)
                have s9 := blk_cell y9
                refine bodyPost_ret (v := .tuple #[.agg #[.int .i64 0, .int .i64 0, .string ⟨#[]⟩], .int .i64 22, .int .i64 0]) (by simp [results, Tryz.results275, go_sem, s9]) rfl ?_
                exact zero_vp _ _ (numB9_err (fun n h0 h9 hn => absurd hn (HV.out n h0 h9)) (by decide)) k9
end Go.Proofs.YtfgdnakfikpmpaaGreatDoor
