/-
  Parts of what is proved for this claim; each declaration is one of the seat's texts.
-/
import Derived.Test.YtfgdnakfikpmpaaGreatDoorFPD
import Derived.Deep.CutBlock
set_option linter.unusedVariables false
set_option linter.unusedSimpArgs false
namespace Go.Proofs.YtfgdnakfikpmpaaGreatDoor
open Go Go.RowKit Go.Deep
theorem op_cases (op : Int) (h : 1 ≤ op ∧ op ≤ 31) : op = 1 ∨ op = 2 ∨ op = 3 ∨ op = 4 ∨ op = 5 ∨ op = 6 ∨ op = 7 ∨ op = 8 ∨ op = 9 ∨ op = 10 ∨ op = 11 ∨ op = 12 ∨ op = 13 ∨ op = 14 ∨ op = 15 ∨ op = 16 ∨ op = 17 ∨ op = 18 ∨ op = 19 ∨ op = 20 ∨ op = 21 ∨ op = 22 ∨ op = 23 ∨ op = 24 ∨ op = 25 ∨ op = 26 ∨ op = 27 ∨ op = 28 ∨ op = 29 ∨ op = 30 ∨ op = 31 := by omega
set_option maxRecDepth 10000 in
set_option maxHeartbeats 4000000 in
theorem rTakes_g (op : Int) (w : World) : Calls Tryz.prog 147 #[.int .i64 op] w fun e w' => e = .returned (.tuple #[.int .i64 (opAt op).2.2.1, .int .i64 (opAt op).2.2.2]) ∧ w' = w := by
  by_cases h : 1 ≤ op ∧ op ≤ 31
  · rcases op_cases op h with rfl | rfl | rfl | rfl | rfl | rfl | rfl | rfl | rfl | rfl | rfl | rfl | rfl | rfl | rfl | rfl | rfl | rfl | rfl | rfl | rfl | rfl | rfl | rfl | rfl | rfl | rfl | rfl | rfl | rfl | rfl
    all_goals
      clear h
      go_enter Tryz.func147, Tryz.ntmps147
      go_wp2_with fail
      go_ret2
      exact ⟨by kernel_rfl, rfl⟩
  · have hw : opAt op = (⟨#[]⟩, 0, 0, 0) := if_neg h
    rw [hw]
    have i1 : (op == 1) = false := by rw [beq_eq_false_iff_ne]; omega
    have i2 : (op == 2) = false := by rw [beq_eq_false_iff_ne]; omega
    have i3 : (op == 3) = false := by rw [beq_eq_false_iff_ne]; omega
    have i4 : (op == 4) = false := by rw [beq_eq_false_iff_ne]; omega
    have i5 : (op == 5) = false := by rw [beq_eq_false_iff_ne]; omega
    have i6 : (op == 6) = false := by rw [beq_eq_false_iff_ne]; omega
    have i7 : (op == 7) = false := by rw [beq_eq_false_iff_ne]; omega
    have i8 : (op == 8) = false := by rw [beq_eq_false_iff_ne]; omega
    have i9 : (op == 9) = false := by rw [beq_eq_false_iff_ne]; omega
    have i10 : (op == 10) = false := by rw [beq_eq_false_iff_ne]; omega
    have i11 : (op == 11) = false := by rw [beq_eq_false_iff_ne]; omega
    have i12 : (op == 12) = false := by rw [beq_eq_false_iff_ne]; omega
    have i13 : (op == 13) = false := by rw [beq_eq_false_iff_ne]; omega
    have i14 : (op == 14) = false := by rw [beq_eq_false_iff_ne]; omega
    have i15 : (op == 15) = false := by rw [beq_eq_false_iff_ne]; omega
    have i16 : (op == 16) = false := by rw [beq_eq_false_iff_ne]; omega
    have i17 : (op == 17) = false := by rw [beq_eq_false_iff_ne]; omega
    have i18 : (op == 18) = false := by rw [beq_eq_false_iff_ne]; omega
    have i19 : (op == 19) = false := by rw [beq_eq_false_iff_ne]; omega
    have i20 : (op == 20) = false := by rw [beq_eq_false_iff_ne]; omega
    have i21 : (op == 21) = false := by rw [beq_eq_false_iff_ne]; omega
    have i22 : (op == 22) = false := by rw [beq_eq_false_iff_ne]; omega
    have i23 : (op == 23) = false := by rw [beq_eq_false_iff_ne]; omega
    have i24 : (op == 24) = false := by rw [beq_eq_false_iff_ne]; omega
    have i25 : (op == 25) = false := by rw [beq_eq_false_iff_ne]; omega
    have i26 : (op == 26) = false := by rw [beq_eq_false_iff_ne]; omega
    have i27 : (op == 27) = false := by rw [beq_eq_false_iff_ne]; omega
    have i28 : (op == 28) = false := by rw [beq_eq_false_iff_ne]; omega
    have i29 : (op == 29) = false := by rw [beq_eq_false_iff_ne]; omega
    have i30 : (op == 30) = false := by rw [beq_eq_false_iff_ne]; omega
    have i31 : (op == 31) = false := by rw [beq_eq_false_iff_ne]; omega
    clear h hw
    go_enter Tryz.func147, Tryz.ntmps147
    go_wp2_with fail
    go_ret2
    exact ⟨rfl, rfl⟩
theorem oprd_else (op : Int) (h1 : op ≠ 1) (h2 : op ≠ 2) (h3 : op ≠ 18) (h4 : op ≠ 19) : (opAt op).2.1 = 0 := by
  by_cases h : 1 ≤ op ∧ op ≤ 31
  · rcases op_cases op h with rfl | rfl | rfl | rfl | rfl | rfl | rfl | rfl | rfl | rfl | rfl | rfl | rfl | rfl | rfl | rfl | rfl | rfl | rfl | rfl | rfl | rfl | rfl | rfl | rfl | rfl | rfl | rfl | rfl | rfl | rfl <;> first | (exact absurd rfl h1) | (exact absurd rfl h2) | (exact absurd rfl h3) | (exact absurd rfl h4) | kernel_rfl
  · have hw : opAt op = (⟨#[]⟩, 0, 0, 0) := if_neg h
    rw [hw]
set_option maxRecDepth 10000 in
theorem rOperand_g (op : Int) (w : World) : Calls Tryz.prog 183 #[.int .i64 op] w fun e w' => e = .returned (.int .i64 (opAt op).2.1) ∧ w' = w := by
  by_cases h1 : op = 1
  · subst h1
    go_enter Tryz.func183, Tryz.ntmps183
    go_wp2_with fail
    go_ret
    exact ⟨by kernel_rfl, rfl⟩
  by_cases h2 : op = 2
  · subst h2
    go_enter Tryz.func183, Tryz.ntmps183
    go_wp2_with fail
    go_ret
    exact ⟨by kernel_rfl, rfl⟩
  by_cases h3 : op = 18
  · subst h3
    go_enter Tryz.func183, Tryz.ntmps183
    go_wp2_with fail
    go_ret
    exact ⟨by kernel_rfl, rfl⟩
  by_cases h4 : op = 19
  · subst h4
    go_enter Tryz.func183, Tryz.ntmps183
    go_wp2_with fail
    go_ret
    exact ⟨by kernel_rfl, rfl⟩
  rw [oprd_else op h1 h2 h3 h4]
  have i1 : (op == 1) = false := by rw [beq_eq_false_iff_ne]; exact h1
  have i2 : (op == 2) = false := by rw [beq_eq_false_iff_ne]; exact h2
  have i3 : (op == 18) = false := by rw [beq_eq_false_iff_ne]; exact h3
  have i4 : (op == 19) = false := by rw [beq_eq_false_iff_ne]; exact h4
  clear h1 h2 h3 h4
  go_enter Tryz.func183, Tryz.ntmps183
  go_wp2_with fail
  go_ret
  exact ⟨rfl, rfl⟩
def wordsA : Array Value := ((opsL.drop 1).map fun x => Value.string x.1).toArray
theorem words_at (k : Nat) (h : k < 31) : wordsA[k]? = some (.string (opsL.getD (k + 1) (⟨#[]⟩, 0, 0, 0)).1) := by
  have e : ∀ j : Fin 31, wordsA[j.val]? = some (.string (opsL.getD (j.val + 1) (⟨#[]⟩, 0, 0, 0)).1) := fun j => by
    have hl : opsL.length = 32 := by kernel_rfl
    have hj := j.isLt
    unfold wordsA
    rw [List.getElem?_toArray, List.getElem?_map, List.getElem?_drop, Nat.add_comm 1 j.val, List.getD_eq_getElem?_getD, List.getElem?_eq_getElem (by omega)]
    rfl
  exact e ⟨k, h⟩
set_option maxRecDepth 10000 in
theorem rWords_g (w : World) : Calls Tryz.prog 223 #[] w fun e w' => e = .returned (.slice (some ⟨w.heap.size, 0, none⟩) 31 31) ∧ RowKit.Hid ((∀ k, k < 31 → w'.cell? ⟨w.heap.size, k, none⟩ = some (.string (opsL.getD (k + 1) (⟨#[]⟩, 0, 0, 0)).1)) ∧ Keep No w w') := by
  go_enter Tryz.func223, Tryz.ntmps223
  go_wp2_with fail
  go_ret
  refine ⟨rfl, fun k hk => ?_, (Keep.refl No w).alloc _⟩
  rw [blk_cell (blk_new w _) k, ← words_at k hk]
  rfl
set_option maxRecDepth 10000 in
theorem rWord_g (op : Int) (w : World) : Calls Tryz.prog 182 #[.int .i64 op] w fun e w' => e = .returned (.string (opAt op).1) ∧ RowKit.Hid (Keep No w w') := by
  by_cases h : 1 ≤ op ∧ op ≤ 31
  · have hw : opAt op = opsL.getD op.toNat (⟨#[]⟩, 0, 0, 0) := if_pos h
    rw [hw]
    obtain ⟨k, rfl⟩ : ∃ k : Nat, op = (k : Int) + 1 := ⟨(op - 1).toNat, by omega⟩
    have e1 : ((k : Int) + 1).toNat = k + 1 := by omega
    have e2 : IntKind.i64.wrap ((k : Int) + 1 - 1) = (k : Int) := by rw [IntKind.wrap_i64]; omega
    have e3 : (0 : Int) ≤ k := by omega
    have e4 : (k : Int) < 31 := by omega
    have e5 : ¬ (k : Int) + 1 < 1 := by omega
    have e6 : ¬ (31 : Int) < (k : Int) + 1 := by omega
    rw [e1]
    have HK := Lib.hid (show k < 31 by omega)
    obtain ⟨o, ho⟩ : ∃ o, o = (k : Int) + 1 := ⟨_, rfl⟩
    have e7 : IntKind.i64.wrap (o - 1) = (k : Int) := by rw [ho]; exact e2
    have e8 : ¬ o < 1 := by omega
    have e9 : ¬ (31 : Int) < o := by omega
    rw [← ho]
    generalize hX : (opsL.getD (k + 1) (⟨#[]⟩, 0, 0, 0)).1 = X at *
    clear h hw e1 e2 e5 e6 ho
    go_enter Tryz.func182, Tryz.ntmps182
    go_wp2_with (go_at_call 223; refine (rWords_g _).mono ?_; rintro e w2 ⟨rfl, HW⟩; have q2 := HW.out.1 k HK.out; rw [hX] at q2)
    go_ret
    exact ⟨rfl, HW.out.2⟩
  · have hw : opAt op = (⟨#[]⟩, 0, 0, 0) := if_neg h
    rw [hw]
    rcases Int.lt_or_le op 1 with j | j
    · clear h hw
      go_enter Tryz.func182, Tryz.ntmps182
      go_wp2_with (go_at_call 223; refine (rWords_g _).mono ?_; rintro e w2 ⟨rfl, HW⟩)
      go_ret
      exact ⟨rfl, HW.out.2⟩
    · have j2 : (31 : Int) < op := by omega
      have j1 : ¬ op < 1 := by omega
      clear h hw j
      go_enter Tryz.func182, Tryz.ntmps182
      go_wp2_with (go_at_call 223; refine (rWords_g _).mono ?_; rintro e w2 ⟨rfl, HW⟩)
      go_ret
      exact ⟨rfl, HW.out.2⟩
end Go.Proofs.YtfgdnakfikpmpaaGreatDoor
namespace Go.Proofs.YtfgdnakfikpmpaaGreatDoor
open Go Go.RowKit Go.Deep
def instrE (args : Int) (n4 n5 : Nat) (op N : Int) : Int := if (opAt op).1 = ⟨#[]⟩ then 53 else if fitsB args n4 n5 op N then 0 else 54
theorem nonempty_of {X1 : ByteArray} (hemp : X1 ≠ ⟨#[]⟩) : X1.toList.isEmpty = false := by
  rw [empty_iff]
  refine decide_eq_false fun h => hemp ?_
  obtain ⟨⟨l⟩⟩ := X1
  cases l with
  | nil => rfl
  | cons _ _ => simp [ByteArray.size] at h
set_option maxRecDepth 10000 in
set_option maxHeartbeats 4000000 in
theorem rInstr_g (w : World) (args : Int) (a4 a5 : Option Addr) (n4 c4 n5 c5 : Nat) (op N : Int) :
    Calls Tryz.prog 145 #[.agg #[.int .i64 args, .slice a4 n4 c4, .slice a5 n5 c5], .agg #[.int .i64 op, .int .i64 N]] w fun e w' => e = .returned (.int .i64 (instrE args n4 n5 op N)) ∧ RowKit.Hid (Keep No w w') := by
  obtain ⟨X1, hX1⟩ : ∃ X1, (opAt op).1 = X1 := ⟨_, rfl⟩
  obtain ⟨g, hg⟩ : ∃ g, (opAt op).2.1 = g := ⟨_, rfl⟩
  obtain ⟨r, hr⟩ : ∃ r, instrE args n4 n5 op N = r := ⟨_, rfl⟩
  rw [hr]
  have hr' : (if X1 = ⟨#[]⟩ then (53 : Int) else if N < 0 ∨ mostOf args n4 n5 g ≤ N then 54 else 0) = r := by
    rw [← hr]
    unfold instrE fitsB
    rw [hX1, hg]
    by_cases h1 : X1 = ⟨#[]⟩
    · rw [if_pos h1, if_pos h1]
    · rw [if_neg h1, if_neg h1]
      by_cases h2 : N < 0 ∨ mostOf args n4 n5 g ≤ N
      · rw [if_pos h2, if_neg (by simp only [Bool.and_eq_true, decide_eq_true_eq]; omega)]
      · rw [if_neg h2, if_pos (by simp only [Bool.and_eq_true, decide_eq_true_eq]; omega)]
  have K2 := ((Keep.refl No w).alloc (.cells #[.int .i64 args, .slice a4 n4 c4, .slice a5 n5 c5] 27)).alloc (.cells #[.int .i64 op, .int .i64 N] 144)
  have x2 := blk_new (w.alloc (.cells #[.int .i64 args, .slice a4 n4 c4, .slice a5 n5 c5] 27)) (.cells #[.int .i64 op, .int .i64 N] 144)
  have x1 := blk_alloc (o' := .cells #[.int .i64 op, .int .i64 N] 144) (blk_new w (.cells #[.int .i64 args, .slice a4 n4 c4, .slice a5 n5 c5] 27))
  simp only [World.size_alloc] at x2
  have q2 := blk_cell x2
  have HX := Lib.hid (And.intro K2 (And.intro x1 x2))
  have hword := fun W => rWord_g op W
  have hopr := fun W => rOperand_g op W
  rw [hX1] at hword
  rw [hg] at hopr
  clear K2 x1 x2 hr hX1 hg
  by_cases hemp : X1 = ⟨#[]⟩
  · rw [if_pos hemp] at hr'
    subst hemp
    subst hr'
    go_enter Tryz.func145, Tryz.ntmps145
    go_wp2_with (go_at_call 182; refine (hword _).mono ?_; rintro e w3 ⟨rfl, HK3⟩)
    go_ret
    exact ⟨rfl, HX.out.1.trans HK3.out⟩
  · rw [if_neg hemp] at hr'
    have hne := nonempty_of hemp
    have HR := Lib.hid hr'
    clear hemp hr'
    obtain ⟨M, hM⟩ : ∃ M, mostOf args n4 n5 g = M := ⟨_, rfl⟩
    have HMM := Lib.hid hM
    clear hM
    go_enter Tryz.func145, Tryz.ntmps145
    go_upto_region 4 with (go_at_call 182; refine (hword _).mono ?_; rintro e w3 ⟨rfl, HK3⟩; have q3 := blk_cell (HK3.out.blk HX.out.2.1 (fun x => x)); have q4 := blk_cell (HK3.out.blk HX.out.2.2 (fun x => x)))
    clear q2
    have HF := Lib.hid (HX.out.1.trans HK3.out)
    go_upto_block 0 with (go_at_call 183; refine (hopr _).mono ?_; rintro e w4 ⟨rfl, rfl⟩)
    go_cut [5] (fun m wx => m = .int .i64 M ∧ wx = w4)
    case first =>
      have hM := HMM.out
      by_cases g1 : g = 1
      · subst g1
        have e : (n4 : Int) = M := by simpa [mostOf] using hM
        have HE := Lib.hid e
        clear hM e
        go_wp2_with fail
        go_meet
        case rel => exact ⟨by rw [HE.out], rfl⟩
      by_cases g2 : g = 2
      · subst g2
        have e : args = M := by simpa [mostOf] using hM
        have HE := Lib.hid e
        clear hM e g1
        go_wp2_with fail
        go_meet
        case rel => exact ⟨by rw [HE.out], rfl⟩
      by_cases g3 : g = 3
      · subst g3
        have e : (n5 : Int) = M := by simpa [mostOf] using hM
        have HE := Lib.hid e
        clear hM e g1 g2
        go_wp2_with fail
        go_meet
        case rel => exact ⟨by rw [HE.out], rfl⟩
      have e : (1 : Int) = M := by simpa [mostOf, g1, g2, g3] using hM
      have i1 : (g == 1) = false := by rw [beq_eq_false_iff_ne]; exact g1
      have i2 : (g == 2) = false := by rw [beq_eq_false_iff_ne]; exact g2
      have i3 : (g == 3) = false := by rw [beq_eq_false_iff_ne]; exact g3
      have HE := Lib.hid e
      clear hM e g1 g2 g3
      go_wp2_with fail
      go_meet
      case rel => exact ⟨by rw [HE.out], rfl⟩
    case rest =>
      obtain ⟨rfl, hwx⟩ := hcut
      subst hwx
      have hr := HR.out
      rw [HMM.out] at hr
      by_cases c1 : N < 0
      · rw [if_pos (.inl c1)] at hr
        subst hr
        go_wp2_with fail
        go_ret
        exact ⟨rfl, HF.out⟩
      · by_cases c2 : M ≤ N
        · rw [if_pos (.inr c2)] at hr
          subst hr
          go_wp2_with fail
          go_ret
          exact ⟨rfl, HF.out⟩
        · rw [if_neg (by omega)] at hr
          subst hr
          go_wp2_with fail
          go_ret
          exact ⟨rfl, HF.out⟩
theorem instrE_bad (args : Int) (n4 n5 : Nat) (i : Ins) : (badI args n4 n5 i = false ∧ instrE args n4 n5 i.1 i.2.1 = 0) ∨ (badI args n4 n5 i = true ∧ instrE args n4 n5 i.1 i.2.1 ≠ 0 ∧ (if (opAt i.1).1 = ⟨#[]⟩ then (53 : Int) else 54) = instrE args n4 n5 i.1 i.2.1) := by
  unfold badI instrE
  by_cases h : (opAt i.1).1 = ⟨#[]⟩
  · refine .inr ?_
    rw [if_pos h, if_pos h]
    exact ⟨by simp [h], by decide, rfl⟩
  · rw [if_neg h, if_neg h]
    cases hf : fitsB args n4 n5 i.1 i.2.1 with
    | true => exact .inl ⟨by simp [h], rfl⟩
    | false => exact .inr ⟨by simp, by decide, rfl⟩
theorem rConstant_g (v1 v2 : Int) (v3 : ByteArray) (ht : v3.size ≤ 9223372036854775807) (w : World) :
    Calls Tryz.prog 144 #[.agg #[.int .i64 v1, .int .i64 v2, .string v3]] w fun e w' => e = .returned (.bool (!badC (mkVal v1 v2 v3))) ∧ RowKit.Hid (Keep No w w') := by
  have kA := (Keep.refl No w).alloc (.cells #[.int .i64 v1, .int .i64 v2, .string v3] 47)
  have xA := blk_new w (.cells #[.int .i64 v1, .int .i64 v2, .string v3] 47)
  have qA := blk_cell xA
  obtain ⟨vo, hvo⟩ : ∃ vo, (mkVal v1 v2 v3).ok = vo := ⟨_, rfl⟩
  have hval := (rValid_any v1 v2 v3 ht (w.alloc (.cells #[.int .i64 v1, .int .i64 v2, .string v3] 47))).mono (R' := fun e w3 => e = .returned (.bool vo) ∧ w3.heap[w.heap.size]? = some (.cells #[.int .i64 v1, .int .i64 v2, .string v3] 47 (0, 0)) ∧ RowKit.Hid (Keep No w w3)) (by
    rintro e w3 ⟨rfl, hk⟩
    exact ⟨by rw [hvo], hk.blk xA (fun x => x), kA.trans hk⟩)
  have hbad : (!badC (mkVal v1 v2 v3)) = (vo && !decide (v1 = 0)) := by unfold badC; rw [hvo, Bool.not_or, Bool.not_not]; rfl
  rw [hbad]
  clear hbad hvo kA xA
  cases vo with
  | false =>
    go_enter Tryz.func144, Tryz.ntmps144
    go_wp2_with (go_at_call 77; refine hval.mono ?_; clear hval; rintro e w3 ⟨rfl, y3, H3⟩; have q3 := blk_cell y3; clear qA)
    go_ret
    exact ⟨rfl, H3⟩
  | true =>
    by_cases hz : v1 = 0
    · subst hz
      go_enter Tryz.func144, Tryz.ntmps144
      go_wp2_with (go_at_call 77; refine hval.mono ?_; clear hval; rintro e w3 ⟨rfl, y3, H3⟩; have q3 := blk_cell y3; clear qA)
      go_ret
      exact ⟨rfl, H3⟩
    · have hz2 : (v1 != 0) = true := by simpa using hz
      have HZ := Lib.hid hz
      clear hz
      go_enter Tryz.func144, Tryz.ntmps144
      go_wp2_with (go_at_call 77; refine hval.mono ?_; clear hval; rintro e w3 ⟨rfl, y3, H3⟩; have q3 := blk_cell y3; clear qA)
      go_ret
      exact ⟨by simp [HZ.out], H3⟩
set_option maxRecDepth 10000 in
set_option maxHeartbeats 4000000 in
theorem rForm_g (w : World) (S T : Nat → Prop) (args : Int) (a4 a5 : Option Addr) (c4 c5 : Nat) (consts : List Val) (code : List Ins) (h4 : Rd (.slice valueSh) w S [.slice a4 consts.length c4] consts) (h5 : Rd (.slice instrSh) w T [.slice a5 code.length c5] code) :
    Calls Tryz.prog 100 #[.agg #[.int .i64 args, .slice a4 consts.length c4, .slice a5 code.length c5]] w fun e w' => e = .returned (.tuple #[.int .i64 (formL args consts code).1, .int .i64 (formL args consts code).2]) ∧ RowKit.Hid (Keep No w w') := by
  obtain ⟨er, at', hF⟩ : ∃ er at', formL args consts code = (er, at') := ⟨_, _, rfl⟩
  rw [hF]
  have K1 := (Keep.refl No w).alloc (.cells #[.int .i64 args, .slice a4 consts.length c4, .slice a5 code.length c5] 27)
  have x1 := blk_new w (.cells #[.int .i64 args, .slice a4 consts.length c4, .slice a5 code.length c5] 27)
  have q1 := blk_cell x1
  have HX := Lib.hid (And.intro K1 x1)
  have HR := Lib.hid (And.intro h4 h5)
  clear K1 x1 h4 h5
  unfold formL at hF
  by_cases ha : args < 0 ∨ 8 < args
  · rw [if_pos ha] at hF
    simp only [Prod.mk.injEq] at hF
    obtain ⟨rfl, rfl⟩ := hF
    rcases ha with ha | ha
    · go_enter Tryz.func100, Tryz.ntmps100
      go_wp2_with fail
      go_ret2
      exact ⟨rfl, HX.out.1⟩
    · have ha2 : ¬ args < 0 := by omega
      go_enter Tryz.func100, Tryz.ntmps100
      go_wp2_with fail
      go_ret2
      exact ⟨rfl, HX.out.1⟩
  rw [if_neg ha] at hF
  have ha1 : ¬ args < 0 := by omega
  have ha2 : ¬ 8 < args := by omega
  clear ha
  by_cases hc : 32 < consts.length
  · rw [if_pos hc] at hF
    simp only [Prod.mk.injEq] at hF
    obtain ⟨rfl, rfl⟩ := hF
    have hc1 : (32 : Int) < consts.length := by omega
    clear hc
    go_enter Tryz.func100, Tryz.ntmps100
    go_wp2_with fail
    go_ret2
    exact ⟨rfl, HX.out.1⟩
  rw [if_neg hc] at hF
  have hc1 : ¬ (32 : Int) < consts.length := by omega
  have hc2 : (consts.length : Int) ≤ 32 := by omega
  have HG := Lib.hid hF
  clear hc hF
  go_enter Tryz.func100, Tryz.ntmps100
  go_wp2_with fail
  generalize w.alloc (.cells #[.int .i64 args, .slice a4 consts.length c4, .slice a5 code.length c5] 27) = w1 at *
  go_loopg [4] consts.length (fun g i wr => ∃ k : Nat, k ≤ consts.length ∧ g = consts.length - k ∧ i = .int .i64 k ∧ RowKit.Hid (Keep No w1 wr ∧ ∀ j (hj : j < k), ∀ hl : j < consts.length, badC (consts[j]'hl) = false))
  case atStart => exact ⟨0, by omega, by omega, rfl, Keep.refl No _, fun j hj => absurd hj (by omega)⟩
  case round =>
    clear q1
    obtain ⟨k, hk, rfl, rfl, HK⟩ := hrel
    have q1 := blk_cell (HK.out.1.blk HX.out.2 (fun x => x))
    by_cases hlt : k < consts.length
    · have j1 : (k : Int) < consts.length := by omega
      have j0 : (0 : Int) ≤ k := by omega
      have j3 : (k : Int) ≤ 32 := by omega
      obtain ⟨b, off, rfl, hb, -, r0, r1, r2, hI, ht⟩ := vals_get (HR.out.1.agree _ (HX.out.1.trans HK.out.1).agreeNo) k hlt
      have hcon := rConstant_g consts[k].kind consts[k].num consts[k].text ht wr
      have hbb : badC (mkVal consts[k].kind consts[k].num consts[k].text) = badC consts[k] := rfl
      rw [hbb] at hcon
      obtain ⟨bb, hbv⟩ : ∃ bb, badC consts[k] = bb := ⟨_, rfl⟩
      rw [hbv] at hcon
      have HB : RowKit.Hid (∃ hl : k < consts.length, badC (consts[k]'hl) = bb) := ⟨hlt, hbv⟩
      clear hI ht hbb
      generalize consts[k].kind = v1 at *
      generalize consts[k].num = v2 at *
      generalize consts[k].text = v3 at *
      clear hbv hlt hk
      cases bb with
      | true =>
        have hr : er = 51 ∧ at' = k := by
          have h1 := HG.out
          obtain ⟨hl, hbv⟩ := HB.out
          rw [find_at hl hbv (fun j hj => HK.out.2 j hj _)] at h1
          simp only [Prod.mk.injEq] at h1
          exact ⟨h1.1.symm, h1.2.symm⟩
        obtain ⟨rfl, rfl⟩ := hr
        clear HG
        go_wp2_with (go_at_call 144; refine hcon.mono ?_; clear hcon; rintro e w3 ⟨rfl, H3⟩)
        go_ret2
        exact ⟨rfl, (HX.out.1.trans HK.out.1).trans H3.out⟩
      | false =>
        have HN := Lib.hid (show ∀ j (hj : j < k + 1), ∀ hl : j < consts.length, badC (consts[j]'hl) = false from fun j hj hl => by
          rcases Nat.lt_or_ge j k with h | h
          · exact HK.out.2 j h hl
          · obtain rfl : j = k := by omega
            exact HB.out.2)
        go_wp2_with (go_at_call 144; refine hcon.mono ?_; clear hcon; rintro e w3 ⟨rfl, H3⟩)
        go_roundg (consts.length - (k + 1))
        case measure => obtain ⟨hl, -⟩ := HB.out; omega
        case rel => exact ⟨k + 1, (by obtain ⟨hl, -⟩ := HB.out; exact hl), rfl, by simp, HK.out.1.trans H3.out, HN.out⟩
    · obtain rfl : k = consts.length := by omega
      have j1 : ¬ (consts.length : Int) < consts.length := by omega
      have hno := find_no (l := consts) (p := badC) fun j hj => HK.out.2 j hj hj
      have hG := HG.out
      rw [hno] at hG
      simp only at hG
      clear HG hno hk hlt
      by_cases hcd : code.length = 0 ∨ 256 < code.length
      · rw [if_pos hcd] at hG
        simp only [Prod.mk.injEq] at hG
        obtain ⟨rfl, rfl⟩ := hG
        rcases hcd with hcd | hcd
        · have i1 : ((code.length : Int) == 0) = true := by simp [hcd]
          clear hcd
          go_wp2_with fail
          go_ret2
          exact ⟨rfl, HX.out.1.trans HK.out.1⟩
        · have i1 : ((code.length : Int) == 0) = false := by rw [beq_eq_false_iff_ne]; omega
          have i2 : (256 : Int) < code.length := by omega
          clear hcd
          go_wp2_with fail
          go_ret2
          exact ⟨rfl, HX.out.1.trans HK.out.1⟩
      rw [if_neg hcd] at hG
      have i1 : ((code.length : Int) == 0) = false := by rw [beq_eq_false_iff_ne]; omega
      have i2 : ¬ (256 : Int) < code.length := by omega
      have i3 : (code.length : Int) ≤ 256 := by omega
      have HG := Lib.hid hG
      clear hG hcd
      go_wp2_with fail
      have HK0 := Lib.hid HK.out.1
      clear HK
      go_loopg [5] code.length (fun g i wr => ∃ k : Nat, k ≤ code.length ∧ g = code.length - k ∧ i = .int .i64 k ∧ RowKit.Hid (Keep No w1 wr ∧ ∀ j (hj : j < k), ∀ hl : j < code.length, badI args consts.length code.length (code[j]'hl) = false))
      case atStart => exact ⟨0, by omega, by omega, rfl, HK0.out, fun j hj => absurd hj (by omega)⟩
      case round =>
        clear q1 HK0
        obtain ⟨k, hk, rfl, rfl, HK⟩ := hrel
        by_cases hlt : k < code.length
        · have j1 : (k : Int) < code.length := by omega
          have j0 : (0 : Int) ≤ k := by omega
          have j3 : (k : Int) ≤ 256 := by omega
          obtain ⟨b, off, rfl, hb, -, r0, r1⟩ := instrs_get ((HR.out.2.agree _ HX.out.1.agreeNo).agree _ ((HK.out.1).trans (Keep.refl No wr).drew).agreeNo) k hlt
          have q1 := blk_cell (HK.out.1.blk HX.out.2 (fun x => x))
          have q2 := blk_cell ((HK.out.1.trans (Keep.refl No wr).drew).blk HX.out.2 (fun x => x))
          have hins := fun W => rInstr_g W args a4 (some ⟨b, off, none⟩) consts.length c4 code.length c5 code[k].1 code[k].2.1
          have hbd := instrE_bad args consts.length code.length code[k]
          obtain ⟨ie, hie⟩ : ∃ ie, instrE args consts.length code.length code[k].1 code[k].2.1 = ie := ⟨_, rfl⟩
          rw [hie] at hins hbd
          have hget : code.getD k (0, 0, ()) = code[k] := by rw [List.getD_eq_getElem?_getD, List.getElem?_eq_getElem hlt]; rfl
          have HB : RowKit.Hid (∃ hl : k < code.length, (badI args consts.length code.length (code[k]'hl) = false ∧ ie = 0) ∨ (badI args consts.length code.length (code[k]'hl) = true ∧ ie ≠ 0 ∧ (if (opAt (code.getD k (0, 0, ())).1).1 = ⟨#[]⟩ then (53 : Int) else 54) = ie)) := ⟨hlt, by rw [hget]; exact hbd⟩
          clear hbd hie hget
          generalize code[k].1 = o1 at *
          generalize code[k].2.1 = o2 at *
          clear hlt hk
          go_upto_region 15 with fail
          refine wp_region_canw [0, 1, 2, 3, 4, 5, 6, 7] [6] [] (by kernel_rfl) (by kernel_rfl) (by kernel_rfl) (by kernel_rfl) (by intro c a d v w h; cases d <;> exact h) ?_
          have HK3 := Lib.hid (HK.out.1.trans (Keep.refl No wr).drew)
          have HK4 := Lib.hid HK.out.2
          clear HK q1
          generalize wr.drew = w3 at *
          iterate 6 (refine canw_sil rfl rfl (fun K hK => ?_); go_simp; refine hK _ ?_; clear hK K)
          refine canw_loud [] rfl rfl rfl (fun K hK => ?_)
          go_wp2_with (go_at_call 145; refine (hins _).mono ?_; rintro e w4 ⟨rfl, HK5⟩)
          refine Mid.normal (hK _ _ stabs_nil ?_)
          clear hK K
          iterate 1 (refine canw_sil rfl rfl (fun K hK => ?_); go_simp; refine hK _ ?_; clear hK K)
          refine canw_nil ?_
          by_cases hz : ie = 0
          · have HN := Lib.hid (show ∀ j (hj : j < k + 1), ∀ hl : j < code.length, badI args consts.length code.length (code[j]'hl) = false from fun j hj hl => by
              rcases Nat.lt_or_ge j k with h | h
              · exact HK4.out j h hl
              · obtain rfl : j = k := by omega
                obtain ⟨hl, h1 | h1⟩ := HB.out
                · exact h1.1
                · exact absurd hz h1.2.1)
            subst hz
            go_wp2_with fail
            go_roundg (code.length - (k + 1))
            case measure => obtain ⟨hl, -⟩ := HB.out; omega
            case rel => exact ⟨k + 1, (by obtain ⟨hl, -⟩ := HB.out; exact hl), rfl, by simp, HK3.out.trans HK5.out, HN.out⟩
          · have hr : er = ie ∧ at' = k := by
              have h1 := HG.out
              obtain ⟨hl, h2 | h2⟩ := HB.out
              · exact absurd h2.2 hz
              · rw [find_at hl h2.1 (fun j hj => HK4.out j hj _)] at h1
                simp only [Prod.mk.injEq] at h1
                rw [h2.2.2] at h1
                exact ⟨h1.1.symm, h1.2.symm⟩
            have hzb : (ie != 0) = true := by simpa using hz
            obtain ⟨rfl, rfl⟩ := hr
            have HZ := Lib.hid hz
            clear HG hz
            go_wp2_with fail
            go_ret2
            exact ⟨rfl, (HX.out.1.trans HK3.out).trans HK5.out⟩
        · obtain rfl : k = code.length := by omega
          have j1 : ¬ (code.length : Int) < code.length := by omega
          have q1 := blk_cell (HK.out.1.blk HX.out.2 (fun x => x))
          have hr : er = 0 ∧ at' = 0 := by
            have h1 := HG.out
            rw [find_no (l := code) (p := badI args consts.length code.length) fun j hj => HK.out.2 j hj hj] at h1
            simp only [Prod.mk.injEq] at h1
            exact ⟨h1.1.symm, h1.2.symm⟩
          obtain ⟨rfl, rfl⟩ := hr
          clear HG hk hlt
          go_wp2_with fail
          go_ret2
          exact ⟨rfl, HX.out.1.trans HK.out.1⟩
end Go.Proofs.YtfgdnakfikpmpaaGreatDoor
