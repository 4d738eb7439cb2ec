/-
  Parts of what is proved for this claim; each declaration is one of the seat's texts.
-/
import Derived.Test.YtfgdnakfikpmpaaGreatDoorFPI
import Derived.Test.YtfgdnakfikpmpaaGreatDoorFLH
import Derived.Test.YtfgdnakfikpmpaaGreatDoorFLI
set_option linter.unusedVariables false
set_option linter.unusedSimpArgs false
namespace Go.Proofs.YtfgdnakfikpmpaaGreatDoor
open Go Go.RowKit Go.Deep
theorem valOf_num (n : Int) (h0 : -9223372036854775808 ≤ n) (h1 : n ≤ 9223372036854775807) : valOf ⟨(Lib.itoa n).toArray⟩ = some (mkVal 1 n noText) := by
  have hex : ∃ v : Val, v.ok = true ∧ v.In ∧ (⟨(Lib.itoa n).toArray⟩ : ByteArray).data.toList = v.print := ⟨mkVal 1 n noText, int_ok n, ⟨by show (-9223372036854775808 : Int) ≤ 1; decide, by show (1 : Int) ≤ 9223372036854775807; decide, h0, h1⟩, by show (Lib.itoa n).toArray.toList = (mkVal 1 n noText).print; simp [Val.print, mkVal, Val.kind, Val.num]⟩
  unfold valOf
  rw [dif_pos hex]
  have hs := hex.choose_spec
  generalize hex.choose = v at hs ⊢
  obtain ⟨hok, hI, hp⟩ := hs
  have hp : Lib.itoa n = v.print := by simpa using hp
  obtain ⟨c, hc, c1, c2, c3⟩ := itoa_head n
  congr 1
  rcases ok_print hok with ⟨-, e⟩ | ⟨e1, e⟩ | ⟨-, -, -, e⟩
  · rw [hp, e] at hc
    simp only [noneW, List.head?_cons, Option.some.injEq] at hc
    exact absurd hc.symm c2
  · rw [e] at hp
    have h2 := parseI_itoa n h0 h1
    rw [hp, parseI_itoa v.num hI.n0 hI.n1] at h2
    injection h2 with h2
    rw [e1, h2]
  · rw [hp, e] at hc
    simp only [List.head?_cons, Option.some.injEq] at hc
    exact absurd hc.symm c1
def smallT : ByteArray := ⟨#[112, 114, 111, 99, 32, 112, 32, 105, 110, 116, 10, 114, 101, 97, 100, 115, 32, 97, 32, 107, 123, 48, 125, 10, 119, 114, 105, 116, 101, 115, 32, 107, 123, 48, 125, 10, 97, 114, 103, 115, 32, 49, 10, 114, 101, 116, 10, 101, 110, 100, 10]⟩
def tA : ByteArray := ⟨#[97]⟩
def tK : ByteArray := ⟨#[107, 123, 48, 125]⟩
def prL : Prc := mkPrc ⟨#[112]⟩ [1] false [tA, tK] [tK] (mkPgm 1 [] [(31, 0, ())])
def smallL : List ByteArray := [⟨#[112, 114, 111, 99, 32, 112, 32, 105, 110, 116]⟩, ⟨#[114, 101, 97, 100, 115, 32, 97, 32, 107, 123, 48, 125]⟩, ⟨#[119, 114, 105, 116, 101, 115, 32, 107, 123, 48, 125]⟩, ⟨#[97, 114, 103, 115, 32, 49]⟩, ⟨#[114, 101, 116]⟩, ⟨#[101, 110, 100]⟩]
theorem small_lines : linesL smallT = smallL := by
  unfold linesL
  rw [linesT_cut]
  decide +kernel
theorem numOf_one : numOf ⟨#[49]⟩ = some 1 := by
  have h := valOf_num 1 (by decide) (by decide)
  have e : (⟨(Lib.itoa 1).toArray⟩ : ByteArray) = ⟨#[49]⟩ := by decide +kernel
  rw [e] at h
  unfold numOf
  rw [h]
  rfl
theorem join_small : joinT ((smallL.drop 3).take 2) = ⟨#[97, 114, 103, 115, 32, 49, 10, 114, 101, 116]⟩ := by decide +kernel
theorem lines_asm : linesT ⟨#[97, 114, 103, 115, 32, 49, 10, 114, 101, 116]⟩ = [⟨#[97, 114, 103, 115, 32, 49]⟩, ⟨#[114, 101, 116]⟩] := by
  rw [linesT_cut]
  decide +kernel
def asmY : AsmS := ⟨1, [], [], [], [], [], true⟩
def asmX : AsmS := ⟨1, [], [(31, 0, ())], [], [noText], [2], true⟩
theorem line_args : lineS asm0 ⟨#[97, 114, 103, 115, 32, 49]⟩ 1 = (asmY, 0) := by
  have hc : cleanB ⟨#[97, 114, 103, 115, 32, 49]⟩ = true := by decide +kernel
  have ht : toks ⟨#[97, 114, 103, 115, 32, 49]⟩ = [argsW, ⟨#[49]⟩] := by decide +kernel
  rw [lineS_args hc ht (.inr (by decide +kernel)) rfl]
  unfold argsS
  rw [if_neg (by decide)]
  simp only
  rw [numOf_one]
  rfl
theorem line_ret : lineS asmY ⟨#[114, 101, 116]⟩ 2 = (asmX, 0) := by
  have hc : cleanB ⟨#[114, 101, 116]⟩ = true := by decide +kernel
  have ht : toks ⟨#[114, 101, 116]⟩ = [⟨#[114, 101, 116]⟩] := by decide +kernel
  rw [lineS_instr hc ht (.inr (by decide +kernel)) (by decide)]
  have ho : opOf ⟨#[114, 101, 116]⟩ = 31 := by decide +kernel
  unfold instrS
  simp only [List.getD_cons_zero, ho]
  rfl
theorem asm_small : asmT ⟨#[97, 114, 103, 115, 32, 49, 10, 114, 101, 116]⟩ = (mkPgm 1 [] [(31, 0, ())], 0, 0) := by
  rw [asmT_rd]
  have hr : rdS ⟨#[97, 114, 103, 115, 32, 49, 10, 114, 101, 116]⟩ = (asmX, 0, 0) := by
    unfold rdS
    rw [if_neg (by decide), lines_asm, readS_step, show ((0 : Int) + 1) = 1 from rfl, line_args, if_neg (by decide), readS_step, show ((1 : Int) + 1) = 2 from rfl, line_ret, if_neg (by decide)]
    rfl
  rw [hr]
  have h1 : linkS asmX.labs asmX.code.length asmX.uses asmX.code asmX.wher = .inl [(31, 0, ())] := by rfl
  have h2 : pgmE asmX.args asmX.consts [(31, 0, ())] = (0, 0) := by decide +kernel
  rw [if_neg (by decide), if_neg (by decide)]
  simp only
  rw [h1]
  simp only
  rw [h2]
  rfl
theorem head_small : headS (smallL.getD 0 noText) = some (mkPrc ⟨#[112]⟩ [1] false [] [] pgm0) := by kernel_rfl
theorem reads_small : sideT' readsW smallL 1 = .inl ([tA, tK], 2) := by decide +kernel
theorem writes_small : sideT' writesW smallL 2 = .inl ([tK], 3) := by decide +kernel
theorem add_small : addE [] prL = 0 := by decide +kernel
theorem parse_small : parseT smallT = .inl [prL] := by
  have hb : blockT [] smallL 0 = .inl (prL, 6) := by
    rw [blockT_mid head_small reads_small writes_small]
    have he : endAt smallL 3 = 5 := by decide +kernel
    rw [he, if_neg (by decide), show (5 - 3 : Nat) = 2 from rfl, join_small, asm_small]
    simp only
    rw [if_neg (by decide)]
    have h2 : addE [] (mkPrc (mkPrc ⟨#[112]⟩ [1] false [] [] pgm0).name (mkPrc ⟨#[112]⟩ [1] false [] [] pgm0).kinds (mkPrc ⟨#[112]⟩ [1] false [] [] pgm0).dep [tA, tK] [tK] (mkPgm 1 [] [(31, 0, ())])) = 0 := add_small
    rw [h2, if_neg (by decide)]
    rfl
  unfold parseT
  rw [small_lines]
  show parseF 6 [] smallL 0 = _
  rw [parseF, if_neg (by decide), hb]
  show parseF 5 [prL] smallL 6 = _
  rw [parseF, if_pos (by decide)]
theorem parse_bad : parseT ⟨#[120, 10]⟩ = .inr (84, 1) := by
  have hl : linesL ⟨#[120, 10]⟩ = [⟨#[120]⟩] := by
    unfold linesL
    rw [linesT_cut]
    decide +kernel
  have hh : headS (([⟨#[120]⟩] : List ByteArray).getD 0 noText) = none := by decide +kernel
  unfold parseT
  rw [hl]
  show parseF 1 [] [⟨#[120]⟩] 0 = _
  rw [parseF, if_neg (by decide), blockT_none hh]
  rfl
theorem text_small : libS [prL] = smallT.data.toList := by decide +kernel
def k7 : ByteArray := ⟨#[107, 55]⟩
theorem foot_small : prL.foot [mkVal 1 7 noText] = (mkFp [tA, k7] [k7], 0) := by decide +kernel
theorem key_small : keyT ⟨#[120, 47, 123, 48, 125]⟩ [mkVal 2 0 ⟨#[121]⟩] = (⟨#[120, 47, 121]⟩, 0) := by decide +kernel
theorem home_small : prL.Home := chk_home (by decide +kernel)
end Go.Proofs.YtfgdnakfikpmpaaGreatDoor
namespace Go.Proofs.YtfgdnakfikpmpaaGreatDoor
open Go Go.RowKit Go.Deep
theorem num8_any (n : Int) (w : World) : Calls Tryz.prog 16 #[.int .i64 n] w fun e w' => e = .returned (.int .i64 n) ∧ w' = w := by
  go_enter Tryz.func16, Tryz.ntmps16
  go_wp2_with fail
  go_ret
  exact ⟨rfl, rfl⟩
theorem rd_val1 {w : World} {b : Nat} {v : Val} {e : TypeId} (h : w.heap[b]? = some (.cells #[.int .i64 v.kind, .int .i64 v.num, .string v.text] e (0, 0))) (hI : v.In) (ht : v.text.size ≤ 9223372036854775807) : Rd (.slice valueSh) w (One b) [.slice (some ⟨b, 0, none⟩) [v].length 1] [v] :=
  ⟨some ⟨b, 0, none⟩, 1, rfl, Nat.le_refl 1, by rw [maxLen_is]; decide, (fun e => by cases e), fun i hi => by
    obtain rfl : i = 0 := by simp at hi; omega
    refine ⟨b, 0, [.int .i64 v.kind, .int .i64 v.num, .string v.text], rfl, blk_lt h, rfl, rfl, fun j hj => ⟨?_, by simpa using blk_fro h _⟩, val_row hI ht⟩
    have hj3 : j = 0 ∨ j = 1 ∨ j = 2 := by simp at hj; omega
    have hc := blk_cell h
    rcases hj3 with rfl | rfl | rfl
    · simpa using hc 0
    · simpa using hc 1
    · simpa using hc 2⟩
def v7 : Val := mkVal 1 7 noText
def vy : Val := mkVal 2 0 ⟨#[121]⟩
theorem find_small : findP [prL] ⟨#[112]⟩ = some prL := by kernel_rfl
theorem suits_small : suitsB prL.kinds [v7] = true := by decide +kernel
theorem tmpl_small : tmplOk ⟨#[120, 47, 123, 48, 125]⟩ [vy].length = true := by decide +kernel
theorem given_small : ∀ v ∈ [vy], givenV v = true := by decide +kernel
set_option maxRecDepth 10000 in
set_option maxHeartbeats 8000000 in
theorem live8_any (w : World) (ht : Tab w) (he : Errs w) (hk : KindsW w) : Calls Tryz.prog 14 #[] w fun e w' => e = .returned (.bool true) ∧ RowKit.Hid (Keep No w w') := by
  have hps := parse_any smallT (by decide) w he hk
  rw [parse_small] at hps
  have hps := hps.mono (R' := fun e w' => ∃ B m, e = .returned (.tuple #[.pointer (some ⟨B, 0, none⟩), .int .i64 0, .int .i64 0]) ∧ RowKit.Hid (LibAt w' (Fr w.heap.size w'.heap.size) B m [prL] ∧ Keep No w w')) (fun e w' h => h)
  unfold smallT at hps
  have HX := Lib.hid (And.intro ht (And.intro he hk))
  clear ht he hk
  go_enter Tryz.func14, Tryz.ntmps14
  go_upto_region 4 with (first | (go_at_call 20; refine hps.mono ?_; clear hps; rintro e w1 ⟨B, m, rfl, H1⟩) | (go_at_call 16; refine (num8_any _ _).mono ?_; rintro e w9 ⟨rfl, rfl⟩))
  have kz1 := HX.out
  have HT1 := Lib.hid (And.intro (HX.out.1.keep H1.out.2) (And.intro (HX.out.2.1.keep H1.out.2) (HX.out.2.2.keep H1.out.2 (fun x => x))))
  clear kz1
  generalize w9 = w1 at *
  have hfd := (find_lib w1 _ B m [prL] H1.out.1 ⟨#[112]⟩ (by decide)).mono (R' := fun e w2 => ∃ a1 c1 a2 c2 a3 c3 a4 c4 a5 c5, e = .returned (.tuple #[.agg #[.string prL.name, .slice a1 prL.kinds.length c1, .bool prL.dep, .slice a2 prL.reads.length c2, .slice a3 prL.writes.length c3, .int .i64 prL.pgm.args, .slice a4 prL.pgm.consts.length c4, .slice a5 prL.pgm.code.length c5], .bool true]) ∧ RowKit.Hid (Rd procSh w2 (Fr w1.heap.size w2.heap.size) [.string prL.name, .slice a1 prL.kinds.length c1, .bool prL.dep, .slice a2 prL.reads.length c2, .slice a3 prL.writes.length c3, .int .i64 prL.pgm.args, .slice a4 prL.pgm.consts.length c4, .slice a5 prL.pgm.code.length c5] prL ∧ Keep No w1 w2)) (by
    rintro e w2 ⟨cs, rfl, hrd, hk⟩
    rw [find_small] at hrd ⊢
    obtain ⟨a1, c1, a2, c2, a3, c3, a4, c4, a5, c5, hcs, -⟩ := proc_cells hrd
    refine ⟨a1, c1, a2, c2, a3, c3, a4, c4, a5, c5, ?_, ?_, hk⟩
    · have : cs = #[.string prL.name, .slice a1 prL.kinds.length c1, .bool prL.dep, .slice a2 prL.reads.length c2, .slice a3 prL.writes.length c3, .int .i64 prL.pgm.args, .slice a4 prL.pgm.consts.length c4, .slice a5 prL.pgm.code.length c5] := by
        apply Array.toList_inj.1
        rw [hcs]; rfl
      rw [this]
      rfl
    · rw [hcs] at hrd
      exact hrd)
  go_upto_region 5 with (go_at_call 31; refine hfd.mono ?_; clear hfd; rintro e w2 ⟨a1, c1, a2, c2, a3, c3, a4, c4, a5, c5, rfl, H2⟩)
  have k5 := (H2.out.2.alloc (.cells #[.string prL.name, .slice a1 prL.kinds.length c1, .bool prL.dep, .slice a2 prL.reads.length c2, .slice a3 prL.writes.length c3, .int .i64 prL.pgm.args, .slice a4 prL.pgm.consts.length c4, .slice a5 prL.pgm.code.length c5] 29)).alloc (.cells #[.int .i64 1, .int .i64 7, .string ⟨#[]⟩] 47)
  have x5 := blk_new (w2.alloc (.cells #[.string prL.name, .slice a1 prL.kinds.length c1, .bool prL.dep, .slice a2 prL.reads.length c2, .slice a3 prL.writes.length c3, .int .i64 prL.pgm.args, .slice a4 prL.pgm.consts.length c4, .slice a5 prL.pgm.code.length c5] 29)) (.cells #[.int .i64 1, .int .i64 7, .string ⟨#[]⟩] 47)
  simp only [World.size_alloc] at x5
  have hrd5 := H2.out.1.agree procSh (((Keep.refl No w2).alloc (.cells #[.string prL.name, .slice a1 prL.kinds.length c1, .bool prL.dep, .slice a2 prL.reads.length c2, .slice a3 prL.writes.length c3, .int .i64 prL.pgm.args, .slice a4 prL.pgm.consts.length c4, .slice a5 prL.pgm.code.length c5] 29)).alloc (.cells #[.int .i64 1, .int .i64 7, .string ⟨#[]⟩] 47)).agreeNo
  have hft : Calls Tryz.prog 23 #[.agg #[.string prL.name, .slice a1 prL.kinds.length c1, .bool prL.dep, .slice a2 prL.reads.length c2, .slice a3 prL.writes.length c3, .int .i64 prL.pgm.args, .slice a4 prL.pgm.consts.length c4, .slice a5 prL.pgm.code.length c5], .slice (some ⟨w2.heap.size + 1, 0, none⟩) 1 1] ((w2.alloc (.cells #[.string prL.name, .slice a1 prL.kinds.length c1, .bool prL.dep, .slice a2 prL.reads.length c2, .slice a3 prL.writes.length c3, .int .i64 prL.pgm.args, .slice a4 prL.pgm.consts.length c4, .slice a5 prL.pgm.code.length c5] 29)).alloc (.cells #[.int .i64 1, .int .i64 7, .string ⟨#[]⟩] 47)) fun e w' => ∃ a n c a' n' c', e = .returned (.tuple #[.agg #[.slice a n c, .slice a' n' c'], .int .i64 0]) ∧ RowKit.Hid (OwnF ((w2.alloc (.cells #[.string prL.name, .slice a1 prL.kinds.length c1, .bool prL.dep, .slice a2 prL.reads.length c2, .slice a3 prL.writes.length c3, .int .i64 prL.pgm.args, .slice a4 prL.pgm.consts.length c4, .slice a5 prL.pgm.code.length c5] 29)).alloc (.cells #[.int .i64 1, .int .i64 7, .string ⟨#[]⟩] 47)) w' (.slice a n c) (.slice a' n' c') (mkFp [tA, k7] [k7]) ∧ Keep No ((w2.alloc (.cells #[.string prL.name, .slice a1 prL.kinds.length c1, .bool prL.dep, .slice a2 prL.reads.length c2, .slice a3 prL.writes.length c3, .int .i64 prL.pgm.args, .slice a4 prL.pgm.consts.length c4, .slice a5 prL.pgm.code.length c5] 29)).alloc (.cells #[.int .i64 1, .int .i64 7, .string ⟨#[]⟩] 47)) w') := by
    refine (libFoot_any ((w2.alloc (.cells #[.string prL.name, .slice a1 prL.kinds.length c1, .bool prL.dep, .slice a2 prL.reads.length c2, .slice a3 prL.writes.length c3, .int .i64 prL.pgm.args, .slice a4 prL.pgm.consts.length c4, .slice a5 prL.pgm.code.length c5] 29)).alloc (.cells #[.int .i64 1, .int .i64 7, .string ⟨#[]⟩] 47)) (Fr w1.heap.size w2.heap.size) (One (w2.heap.size + 1)) [.string prL.name, .slice a1 prL.kinds.length c1, .bool prL.dep, .slice a2 prL.reads.length c2, .slice a3 prL.writes.length c3, .int .i64 prL.pgm.args, .slice a4 prL.pgm.consts.length c4, .slice a5 prL.pgm.code.length c5] prL hrd5 home_small rfl [v7] (some ⟨w2.heap.size + 1, 0, none⟩) 1 (rd_val1 (v := v7) x5 (by exact ⟨by decide, by decide, by decide, by decide⟩) (by decide)) suits_small (HT1.out.1.keep k5)).mono ?_
    rintro e w' hpost
    rw [show prL.foot [v7] = (mkFp [tA, k7] [k7], 0) from foot_small] at hpost
    obtain ⟨a, n, c, a', n', c', rfl, h1, h2⟩ := hpost
    exact ⟨a, n, c, a', n', c', rfl, h1, h2⟩
  have HK5 := Lib.hid k5
  clear k5 x5 hrd5
  go_upto_region 6 with (go_at_call 23; refine hft.mono ?_; clear hft; rintro e w6 ⟨b1, n1, d1, b2, n2, d2, rfl, H6⟩)
  have hr1 := (H6.out.1.1.1).rd
  have hr2 := (H6.out.1.2.1).rd
  obtain ⟨_, _, e1, -⟩ := Own.form H6.out.1.1.1
  obtain ⟨_, _, e2, -⟩ := Own.form H6.out.1.2.1
  simp only [Value.slice.injEq] at e1 e2
  obtain ⟨-, rfl, -⟩ := e1
  obtain ⟨-, rfl, -⟩ := e2
  obtain ⟨bb, ff, hb2, hc2, -⟩ := strs_cells hr2 0 (by decide)
  have k6 := HK5.out.trans H6.out.2
  have k7' := (k6.alloc (.cells #[.slice b1 2 d1, .slice b2 1 d2] 49)).alloc (.cells #[.int .i64 2, .int .i64 0, .string ⟨#[121]⟩] 47)
  have x7 := blk_new (w6.alloc (.cells #[.slice b1 2 d1, .slice b2 1 d2] 49)) (.cells #[.int .i64 2, .int .i64 0, .string ⟨#[121]⟩] 47)
  have y7 := blk_alloc (o' := .cells #[.int .i64 2, .int .i64 0, .string ⟨#[121]⟩] 47) (blk_new w6 (.cells #[.slice b1 2 d1, .slice b2 1 d2] 49))
  simp only [World.size_alloc] at x7
  subst hb2
  have hc7 := ((((Keep.refl No w6).alloc (.cells #[.slice b1 2 d1, .slice (some ⟨bb, ff, none⟩) 1 d2] 49)).alloc (.cells #[.int .i64 2, .int .i64 0, .string ⟨#[121]⟩] 47)).cell (World.block_lt_of_cell? _ _ hc2) (fun x => x)).trans hc2
  have hky : Calls Tryz.prog 25 #[.string ⟨#[120, 47, 123, 48, 125]⟩, .slice (some ⟨w6.heap.size + 1, 0, none⟩) 1 1] ((w6.alloc (.cells #[.slice b1 2 d1, .slice (some ⟨bb, ff, none⟩) 1 d2] 49)).alloc (.cells #[.int .i64 2, .int .i64 0, .string ⟨#[121]⟩] 47)) fun e w' => e = .returned (.tuple #[.string ⟨#[120, 47, 121]⟩, .int .i64 0]) ∧ RowKit.Hid (Keep No ((w6.alloc (.cells #[.slice b1 2 d1, .slice (some ⟨bb, ff, none⟩) 1 d2] 49)).alloc (.cells #[.int .i64 2, .int .i64 0, .string ⟨#[121]⟩] 47)) w') := by
    refine (key_any ⟨#[120, 47, 123, 48, 125]⟩ [vy] tmpl_small given_small ((w6.alloc (.cells #[.slice b1 2 d1, .slice (some ⟨bb, ff, none⟩) 1 d2] 49)).alloc (.cells #[.int .i64 2, .int .i64 0, .string ⟨#[121]⟩] 47)) (One (w6.heap.size + 1)) (some ⟨w6.heap.size + 1, 0, none⟩) 1 (rd_val1 (v := vy) x7 (by exact ⟨by decide, by decide, by decide, by decide⟩) (by decide)) (HT1.out.1.keep k7') (by decide)).1.mono ?_
    rintro e w' ⟨rfl, hk⟩
    rw [show keyT ⟨#[120, 47, 123, 48, 125]⟩ [vy] = (⟨#[120, 47, 121]⟩, 0) from key_small]
    exact ⟨rfl, hk⟩
  have H7 := Lib.hid (And.intro k7' (And.intro y7 hc7))
  clear hr1 hr2 hc2 k6 k7' x7 y7 hc7
  go_upto_region 7 with (go_at_call 25; refine hky.mono ?_; clear hky; rintro e w8 ⟨rfl, HK8⟩)
  have K8 := Lib.hid (And.intro (H7.out.1.trans HK8.out) (And.intro (HK8.out.blk H7.out.2.1 (fun x => x)) ((HK8.out.cell (World.block_lt_of_cell? _ _ H7.out.2.2) (fun x => x)).trans H7.out.2.2)))
  have hpb := parse_any ⟨#[120, 10]⟩ (by decide) w8 (HT1.out.2.1.keep K8.out.1) (HT1.out.2.2.keep K8.out.1 (fun x => x))
  rw [parse_bad] at hpb
  have hpb := hpb.mono (R' := fun e w' => e = .returned (.tuple #[.pointer none, .int .i64 84, .int .i64 1]) ∧ RowKit.Hid (Keep No w8 w')) (fun e w' h => h)
  clear HK8 H7
  go_upto_region 8 with (go_at_call 20; refine hpb.mono ?_; clear hpb; rintro e w9 ⟨rfl, HK9⟩)
  have K9 := K8.out.1.trans HK9.out
  have x9 := HK9.out.blk K8.out.2.1 (fun x => x)
  have c9 := (HK9.out.cell (World.block_lt_of_cell? _ _ K8.out.2.2) (fun x => x)).trans K8.out.2.2
  have htx := libText_any (H1.out.1.keep K9 (fun _ _ x => x)) (HT1.out.1.keep K9) (HT1.out.2.2.keep K9 (fun x => x))
  rw [text_small] at htx
  have htx : Calls Tryz.prog 33 #[.pointer (some ⟨B, 0, none⟩)] w9 fun e w' => e = .returned (.string smallT) ∧ RowKit.Hid (Keep No w9 w') := htx
  unfold smallT at htx
  have HF := Lib.hid (H1.out.2.trans K9)
  have q9 := blk_cell x9
  have c9 : w9.cell? ⟨bb, ff, none⟩ = some (.string ⟨#[107, 55]⟩) := c9
  clear K9 x9 HK9 K8
  go_wp2_with (first | (go_at_call 16; refine (num8_any _ _).mono ?_; rintro e w11 ⟨rfl, rfl⟩) | (go_at_call 33; refine htx.mono ?_; clear htx; rintro e w10 ⟨rfl, HK10⟩))
  go_ret
  exact ⟨rfl, HF.out.trans HK10.out⟩
end Go.Proofs.YtfgdnakfikpmpaaGreatDoor
