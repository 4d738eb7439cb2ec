/-
  Parts of what is proved for this claim; each declaration is one of the seat's texts.
-/
import Derived.Test.YtfgdnakfikpmpaaGreatDoorFLF
set_option linter.unusedVariables false
set_option linter.unusedSimpArgs false
namespace Go.Proofs.YtfgdnakfikpmpaaGreatDoor
open Go Go.RowKit Go.Deep
theorem neq_value_eq (w : World) (x : Val) : (binOp .neq 47 (.agg #[.int .i64 x.kind, .int .i64 x.num, .string x.text]) (.agg #[.int .i64 x.kind, .int .i64 x.num, .string x.text])).run Tryz.prog w = .ok (.bool false) w := by
  have := run_neq_value w x x
  simpa using this
theorem neq_instr_eq (w : World) (a b : Int) : (binOp .neq 144 (.agg #[.int .i64 a, .int .i64 b]) (.agg #[.int .i64 a, .int .i64 b])).run Tryz.prog w = .ok (.bool false) w := by go_simp
theorem ints_cell {w : World} {S : Nat → Prop} {a : Option Addr} {n c : Nat} {l : List Int} (h : Rd (.slice (.int .i64)) w S [.slice a n c] l) (i : Nat) (hi : i < l.length) :
    ∃ b off, a = some ⟨b, off, none⟩ ∧ w.cell? ⟨b, off + i, none⟩ = some (.int .i64 l[i]) := by
  obtain ⟨b, off, row, ha, -, -, -, -, hrow, hx⟩ := h.elem' i hi
  obtain ⟨rfl, -⟩ := hx
  have p0 := (hrow 0 (by simp)).1
  simp [Sh.size] at p0
  exact ⟨b, off, ha, p0⟩
set_option maxRecDepth 10000 in
set_option maxHeartbeats 2000000 in
theorem rpSame_eq (w : World) (S T : Nat → Prop) (ar : Int) (cs : List Val) (co : List Ins) (a4 a5 b4 b5 : Option Addr) (c4 c5 d4 d5 : Nat) (h4 : Rd (.slice valueSh) w S [.slice a4 cs.length c4] cs) (h5 : Rd (.slice instrSh) w S [.slice a5 co.length c5] co) (g4 : Rd (.slice valueSh) w T [.slice b4 cs.length d4] cs) (g5 : Rd (.slice instrSh) w T [.slice b5 co.length d5] co) :
    Calls Tryz.prog 54 #[.agg #[.int .i64 ar, .slice a4 cs.length c4, .slice a5 co.length c5], .agg #[.int .i64 ar, .slice b4 cs.length d4, .slice b5 co.length d5]] w fun e w' => e = .returned (.bool true) ∧ RowKit.Hid (Keep No w w') := by
  have K2 : Keep No w ((w.alloc (.cells #[.int .i64 ar, .slice a4 cs.length c4, .slice a5 co.length c5] 27)).alloc (.cells #[.int .i64 ar, .slice b4 cs.length d4, .slice b5 co.length d5] 27)) := ((Keep.refl No w).alloc _).alloc _
  have x1 := blk_alloc (o' := .cells #[.int .i64 ar, .slice b4 cs.length d4, .slice b5 co.length d5] 27) (blk_new w (.cells #[.int .i64 ar, .slice a4 cs.length c4, .slice a5 co.length c5] 27))
  have x2 := blk_new (w.alloc (.cells #[.int .i64 ar, .slice a4 cs.length c4, .slice a5 co.length c5] 27)) (.cells #[.int .i64 ar, .slice b4 cs.length d4, .slice b5 co.length d5] 27)
  simp only [World.size_alloc] at x2
  have l4 := slice_len h4
  have l5 := slice_len h5
  have HG := Lib.hid (And.intro K2 (And.intro x1 (And.intro x2 (And.intro (h4.agree _ K2.agreeNo) (And.intro (h5.agree _ K2.agreeNo) (And.intro (g4.agree _ K2.agreeNo) (g5.agree _ K2.agreeNo)))))))
  clear K2 x1 x2 h4 h5 g4 g5
  go_enter Tryz.func54, Tryz.ntmps54
  go_wp2_with fail
  generalize (w.alloc (.cells #[.int .i64 ar, .slice a4 cs.length c4, .slice a5 co.length c5] 27)).alloc (.cells #[.int .i64 ar, .slice b4 cs.length d4, .slice b5 co.length d5] 27) = W at *
  have q1 := blk_cell HG.out.2.1
  have q2 := blk_cell HG.out.2.2.1
  go_loopg [5] cs.length (fun g i wr => ∃ k n : Nat, k ≤ cs.length ∧ g = cs.length - k ∧ i = .int .i64 k ∧ wr = W.drewN n)
  case atStart => exact ⟨0, 0, by omega, by omega, rfl, rfl⟩
  case round =>
    obtain ⟨k, n, hk, rfl, rfl, rfl⟩ := hrel
    by_cases hlt : k < cs.length
    · have j1 : (k : Int) < cs.length := by omega
      have j0 : (0 : Int) ≤ k := by omega
      have j3 : (k : Int) ≤ 9223372036854775806 := by omega
      obtain ⟨b, off, rfl, -, -, r0, r1, r2, -⟩ := vals_get HG.out.2.2.2.1 k hlt
      obtain ⟨b', off', rfl, -, -, s0, s1, s2, -⟩ := vals_get HG.out.2.2.2.2.2.1 k hlt
      have hq := fun w => neq_value_eq w cs[k]
      have HX := Lib.hid hlt
      generalize cs[k].kind = y1 at *
      generalize cs[k].num = y2 at *
      generalize cs[k].text = y3 at *
      clear hlt hk
      go_wp2_with fail
      go_quiet (fail)
      go_wp2_with fail
      go_roundg (cs.length - (k + 1))
      case measure => have := HX.out; omega
      case rel => exact ⟨k + 1, _, HX.out, rfl, by simp, rfl⟩
    · have j1 : ¬ (k : Int) < cs.length := by omega
      clear hlt hk
      go_wp2_with fail
      go_loopg [6] co.length (fun g i wr => ∃ k n : Nat, k ≤ co.length ∧ g = co.length - k ∧ i = .int .i64 k ∧ wr = W.drewN n)
      case atStart => exact ⟨0, n, by omega, by omega, rfl, rfl⟩
      case round =>
        obtain ⟨k, n, hk, rfl, rfl, rfl⟩ := hrel
        by_cases hlt : k < co.length
        · have j1 : (k : Int) < co.length := by omega
          have j0 : (0 : Int) ≤ k := by omega
          have j3 : (k : Int) ≤ 9223372036854775806 := by omega
          obtain ⟨b, off, rfl, -, -, r0, r1⟩ := instrs_get HG.out.2.2.2.2.1 k hlt
          obtain ⟨b', off', rfl, -, -, s0, s1⟩ := instrs_get HG.out.2.2.2.2.2.2 k hlt
          have hq := fun w => neq_instr_eq w co[k].1 co[k].2.1
          have HX := Lib.hid hlt
          generalize co[k].1 = y1 at *
          generalize co[k].2.1 = y2 at *
          clear hlt hk
          go_wp2_with fail
          go_quiet (fail)
          go_wp2_with fail
          go_roundg (co.length - (k + 1))
          case measure => have := HX.out; omega
          case rel => exact ⟨k + 1, _, HX.out, rfl, by simp, rfl⟩
        · have j1 : ¬ (k : Int) < co.length := by omega
          have HF := Lib.hid (HG.out.1.drewN n)
          clear hlt hk
          go_wp2_with fail
          go_ret
          exact ⟨rfl, HF.out⟩
set_option maxRecDepth 10000 in
set_option maxHeartbeats 4000000 in
theorem rSameP_eq (w : World) (S T : Nat → Prop) (cs ds : List Value) (p : Prc) (h : Rd procSh w S cs p) (h' : Rd procSh w T ds p) :
    Calls Tryz.prog 19 #[.agg cs.toArray, .agg ds.toArray] w fun e w' => e = .returned (.bool true) ∧ RowKit.Hid (Keep No w w') := by
  obtain ⟨a1, c1, a2, c2, a3, c3, a4, c4, a5, c5, rfl, h1, h2, h3, h4, h5, -⟩ := proc_cells h
  obtain ⟨b1, d1, b2, d2, b3, d3, b4, d4, b5, d5, rfl, g1, g2, g3, g4, g5, -⟩ := proc_cells h'
  have K2 := ((Keep.refl No w).alloc (.cells #[.string p.name, .slice a1 p.kinds.length c1, .bool p.dep, .slice a2 p.reads.length c2, .slice a3 p.writes.length c3, .int .i64 p.pgm.args, .slice a4 p.pgm.consts.length c4, .slice a5 p.pgm.code.length c5] 29)).alloc (.cells #[.string p.name, .slice b1 p.kinds.length d1, .bool p.dep, .slice b2 p.reads.length d2, .slice b3 p.writes.length d3, .int .i64 p.pgm.args, .slice b4 p.pgm.consts.length d4, .slice b5 p.pgm.code.length d5] 29)
  have x1 := blk_alloc (o' := .cells #[.string p.name, .slice b1 p.kinds.length d1, .bool p.dep, .slice b2 p.reads.length d2, .slice b3 p.writes.length d3, .int .i64 p.pgm.args, .slice b4 p.pgm.consts.length d4, .slice b5 p.pgm.code.length d5] 29) (blk_new w (.cells #[.string p.name, .slice a1 p.kinds.length c1, .bool p.dep, .slice a2 p.reads.length c2, .slice a3 p.writes.length c3, .int .i64 p.pgm.args, .slice a4 p.pgm.consts.length c4, .slice a5 p.pgm.code.length c5] 29))
  have x2 := blk_new (w.alloc (.cells #[.string p.name, .slice a1 p.kinds.length c1, .bool p.dep, .slice a2 p.reads.length c2, .slice a3 p.writes.length c3, .int .i64 p.pgm.args, .slice a4 p.pgm.consts.length c4, .slice a5 p.pgm.code.length c5] 29)) (.cells #[.string p.name, .slice b1 p.kinds.length d1, .bool p.dep, .slice b2 p.reads.length d2, .slice b3 p.writes.length d3, .int .i64 p.pgm.args, .slice b4 p.pgm.consts.length d4, .slice b5 p.pgm.code.length d5] 29)
  simp only [World.size_alloc] at x2
  have HTR : RowKit.Hid (∀ W, Keep No w W → Calls Tryz.prog 38 #[.slice a2 p.reads.length c2, .slice b2 p.reads.length d2] W fun e w2 => e = .returned (.bool true) ∧ RowKit.Hid (∃ n, w2 = W.drewN n)) := fun W hW => (rTexts_any W S T _ _ _ _ (h2.agree _ hW.agreeNo) (g2.agree _ hW.agreeNo)).mono (by rintro e w2 ⟨n, rfl, rfl⟩; exact ⟨by simp, n, rfl⟩)
  have HTW : RowKit.Hid (∀ W, Keep No w W → Calls Tryz.prog 38 #[.slice a3 p.writes.length c3, .slice b3 p.writes.length d3] W fun e w2 => e = .returned (.bool true) ∧ RowKit.Hid (∃ n, w2 = W.drewN n)) := fun W hW => (rTexts_any W S T _ _ _ _ (h3.agree _ hW.agreeNo) (g3.agree _ hW.agreeNo)).mono (by rintro e w2 ⟨n, rfl, rfl⟩; exact ⟨by simp, n, rfl⟩)
  have HPS : RowKit.Hid (∀ W, Keep No w W → Calls Tryz.prog 54 #[.agg #[.int .i64 p.pgm.args, .slice a4 p.pgm.consts.length c4, .slice a5 p.pgm.code.length c5], .agg #[.int .i64 p.pgm.args, .slice b4 p.pgm.consts.length d4, .slice b5 p.pgm.code.length d5]] W fun e w2 => e = .returned (.bool true) ∧ RowKit.Hid (Keep No W w2)) := fun W hW => rpSame_eq W S T _ _ _ _ _ _ _ _ _ _ _ (h4.agree _ hW.agreeNo) (h5.agree _ hW.agreeNo) (g4.agree _ hW.agreeNo) (g5.agree _ hW.agreeNo)
  have l1 := slice_len h1
  have HG := Lib.hid (And.intro K2 (And.intro x1 (And.intro x2 (And.intro (h1.agree _ K2.agreeNo) (g1.agree _ K2.agreeNo)))))
  have q1 := blk_cell x1
  have q2 := blk_cell x2
  clear h h' h1 h2 h3 h4 h5 g1 g2 g3 g4 g5 K2 x1 x2
  go_enter Tryz.func19, Tryz.ntmps19
  go_upto_region 1 with fail
  generalize (w.alloc (.cells #[.string p.name, .slice a1 p.kinds.length c1, .bool p.dep, .slice a2 p.reads.length c2, .slice a3 p.writes.length c3, .int .i64 p.pgm.args, .slice a4 p.pgm.consts.length c4, .slice a5 p.pgm.code.length c5] 29)).alloc (.cells #[.string p.name, .slice b1 p.kinds.length d1, .bool p.dep, .slice b2 p.reads.length d2, .slice b3 p.writes.length d3, .int .i64 p.pgm.args, .slice b4 p.pgm.consts.length d4, .slice b5 p.pgm.code.length d5] 29) = W at *
  go_upto_region 3 with (first | (go_at_call 38; refine (HTR.out _ HG.out.1).mono ?_; clear HTR; rintro e w3 ⟨rfl, H3⟩; have K3 := Lib.hid (show Keep No W w3 by obtain ⟨n, rfl⟩ := H3.out; exact (Keep.refl No W).drewN n); have r1 := blk_cell (K3.out.blk HG.out.2.1 (fun x => x)); have r2 := blk_cell (K3.out.blk HG.out.2.2.1 (fun x => x)); clear q1 q2) | (go_at_call 38; refine (HTW.out _ (HG.out.1.trans K3.out)).mono ?_; clear HTW; rintro e w4 ⟨rfl, H4⟩; have K4 := Lib.hid (K3.out.trans (show Keep No w3 w4 by obtain ⟨n, rfl⟩ := H4.out; exact (Keep.refl No w3).drewN n)); have t1 := blk_cell (K4.out.blk HG.out.2.1 (fun x => x)); have t2 := blk_cell (K4.out.blk HG.out.2.2.1 (fun x => x)); clear r1 r2) | (go_at_call 54; refine (HPS.out _ (HG.out.1.trans K4.out)).mono ?_; clear HPS; rintro e w5 ⟨rfl, H5⟩; have K5 := Lib.hid (K4.out.trans H5.out); have u1 := blk_cell (K5.out.blk HG.out.2.1 (fun x => x)); have u2 := blk_cell (K5.out.blk HG.out.2.2.1 (fun x => x)); clear t1 t2))
  have HF5 := Lib.hid (HG.out.1.trans K5.out)
  have HI := Lib.hid (And.intro (HG.out.2.2.2.1.agree _ K5.out.agreeNo) (HG.out.2.2.2.2.agree _ K5.out.agreeNo))
  generalize p.kinds = ks at *
  go_wp2_with fail
  go_loopg [5] ks.length (fun g i wr => ∃ k n : Nat, k ≤ ks.length ∧ g = ks.length - k ∧ i = .int .i64 k ∧ wr = w5.drewN n)
  case atStart => exact ⟨0, 0, by omega, by omega, rfl, rfl⟩
  case round =>
    obtain ⟨k, n, hk, rfl, rfl, rfl⟩ := hrel
    by_cases hlt : k < ks.length
    · have j1 : (k : Int) < ks.length := by omega
      have j0 : (0 : Int) ≤ k := by omega
      have j3 : (k : Int) ≤ 9223372036854775806 := by omega
      obtain ⟨b, off, rfl, r0⟩ := ints_cell HI.out.1 k hlt
      obtain ⟨b', off', rfl, s0⟩ := ints_cell HI.out.2 k hlt
      have HX := Lib.hid hlt
      generalize ks[k] = y1 at *
      clear hlt hk
      go_wp2_with fail
      go_quiet (fail)
      go_wp2_with fail
      go_roundg (ks.length - (k + 1))
      case measure => have := HX.out; omega
      case rel => exact ⟨k + 1, _, HX.out, rfl, by simp, rfl⟩
    · have j1 : ¬ (k : Int) < ks.length := by omega
      have HFN := Lib.hid (HF5.out.drewN n)
      clear hlt hk
      go_wp2_with fail
      go_ret
      exact ⟨rfl, HFN.out⟩
end Go.Proofs.YtfgdnakfikpmpaaGreatDoor
namespace Go.Proofs.YtfgdnakfikpmpaaGreatDoor
open Go Go.RowKit Go.Deep
set_option maxRecDepth 10000 in
set_option maxHeartbeats 4000000 in
theorem rName_any (s : ByteArray) (hs : s.size ≤ 9223372036854775806) (w : World) : Calls Tryz.prog 51 #[.string s] w fun e w' => e = .returned (.bool (nameOk s)) ∧ w' = w := by
  have hbl := bytesOf_length s
  go_enter Tryz.func51, Tryz.ntmps51
  go_wp2_with fail
  go_loopg [3] s.size (fun g i wr => ∃ k : Nat, k ≤ s.size ∧ g = s.size - k ∧ i = .int .i64 k ∧ wr = w ∧ RowKit.Hid (nameTo s k))
  case atStart => exact ⟨0, by omega, by omega, rfl, rfl, fun _ _ h => absurd h (Nat.not_lt_zero _)⟩
  case round =>
    obtain ⟨k, hk, rfl, rfl, rfl, HN⟩ := hrel
    by_cases hlt : k < s.size
    · have j1 : (k : Int) < s.size := by omega
      have j0 : (0 : Int) ≤ k := by omega
      have j3 : (k : Int) ≤ 9223372036854775805 := by omega
      have hl : k < (bytesOf s).length := by omega
      have hg := bytesOf_get s k hl hlt
      have hr := bytesOf_allB s _ (List.getElem_mem hl)
      have hyes := fun h => nameTo_succ HN.out hl h
      have hno := fun h => nameOk_bad s k hl h
      rw [hg] at hr hyes hno
      generalize hc : (s[k].toNat : Int) = c at hr hyes hno
      have HS := Lib.hid (And.intro hk (And.intro hlt (And.intro hyes hno)))
      have HC := Lib.hid hc
      clear hg hl hs hyes hno hbl hk
      obtain ⟨bad, hbad⟩ : ∃ bad : Bool, bad = nameBad k c := ⟨_, rfl⟩
      have HBD := Lib.hid hbad
      clear hbad
      obtain ⟨lt, hlt'⟩ : ∃ lt : Bool, lt = decide (97 ≤ c ∧ c ≤ 122) := ⟨_, rfl⟩
      have HLT := Lib.hid hlt'
      clear hlt'
      go_upto_region 5 with fail
      go_cut [5] (fun l wx => l = .bool lt ∧ wx = wr)
      case first =>
        go_wp2_with fail
        all_goals
          go_meet
          case rel => exact ⟨by rw [HLT.out]; congr 1; rw [Bool.eq_iff_iff]; simp <;> omega, rfl⟩
      case rest =>
        obtain ⟨rfl, rfl⟩ := hcut
        go_upto_region 6 with fail
        go_cut [38] (fun l wx => l = .bool bad ∧ wx = wc)
        case first =>
          cases lt with
          | true =>
            go_wp2_with fail
            go_meet
            case rel => exact ⟨by have h := of_decide_eq_true HLT.out.symm; rw [HBD.out]; congr 1; rw [Bool.eq_iff_iff]; simp [nameBad] <;> omega, rfl⟩
          | false =>
            by_cases hz : k = 0
            · subst hz
              have e0 : ((0 : Nat) : Int) = 0 := rfl
              rw [e0]
              go_wp2_with fail
              go_meet
              case rel => exact ⟨by have h := of_decide_eq_false HLT.out.symm; rw [HBD.out]; congr 1; rw [Bool.eq_iff_iff]; simp [nameBad] <;> omega, rfl⟩
            · have hz' : ((k : Int) == 0) = false := by simpa using hz
              have HZ := Lib.hid hz
              clear hz
              by_cases h95 : c = 95
              · subst h95
                go_wp2_with fail
                all_goals
                  go_meet
                  case rel => exact ⟨by rw [HBD.out]; have := HZ.out; congr 1; rw [Bool.eq_iff_iff]; simp [nameBad] <;> omega, rfl⟩
              · have h95' : (c != 95) = true := by simpa using h95
                have H95 := Lib.hid h95
                clear h95
                go_wp2_with fail
                all_goals
                  go_meet
                  case rel => exact ⟨by have h := of_decide_eq_false HLT.out.symm; rw [HBD.out]; have := HZ.out; have := H95.out; congr 1; rw [Bool.eq_iff_iff]; simp [nameBad] <;> omega, rfl⟩
        case rest =>
          obtain ⟨rfl, rfl⟩ := hcut
          cases bad with
          | true =>
            go_wp2_with fail
            go_ret
            have := HS.out.2.2.2 HBD.out.symm
            rw [this]
            exact ⟨rfl, by first | rfl | trivial⟩
          | false =>
            go_wp2_with fail
            go_roundg (s.size - (k + 1))
            case measure => have := HS.out.2.1; omega
            case rel => exact ⟨k + 1, by have := HS.out.2.1; omega, rfl, by simp, by first | rfl | trivial, HS.out.2.2.1 HBD.out.symm⟩
    · have hke : k = s.size := by omega
      have j1 : ¬ (k : Int) < s.size := by omega
      have hres := nameOk_good s (by rw [hbl, ← hke]; exact HN.out)
      by_cases h1 : 1 ≤ s.size
      · by_cases h16 : s.size ≤ 16
        · have e : nameOk s = true := by rw [hres, decide_eq_true h1, decide_eq_true h16]; rfl
          have HE := Lib.hid e
          have i1 : (1 : Int) ≤ s.size := by omega
          have i2 : (s.size : Int) ≤ 16 := by omega
          clear e hres hbl hlt hk hke h1 h16
          go_wp2_with fail
          go_ret
          rw [HE.out]
          exact ⟨rfl, by first | rfl | trivial⟩
        · have e : nameOk s = false := by rw [hres, decide_eq_false h16, Bool.and_false]
          have HE := Lib.hid e
          have i1 : (1 : Int) ≤ s.size := by omega
          have i2 : ¬ (s.size : Int) ≤ 16 := by omega
          clear e hres hbl hlt hk hke h1 h16
          go_wp2_with fail
          go_ret
          rw [HE.out]
          exact ⟨rfl, by first | rfl | trivial⟩
      · have e : nameOk s = false := by rw [hres, decide_eq_false h1, Bool.false_and]
        have HE := Lib.hid e
        have i1 : ¬ (1 : Int) ≤ s.size := by omega
        clear e hres hbl hlt hk hke h1
        go_wp2_with fail
        go_ret
        rw [HE.out]
        exact ⟨rfl, by first | rfl | trivial⟩
def mks (l : List Prt) : List Int := l.filterMap fun p => if p.arg < 0 then none else some p.arg
theorem mks_text (l : List Prt) (t : ByteArray) : mks (l ++ [mkPrt t (-1)]) = mks l := by
  unfold mks
  rw [List.filterMap_append]
  have : ([mkPrt t (-1)].filterMap fun p : Prt => if p.arg < 0 then none else some p.arg) = [] := rfl
  rw [this, List.append_nil]
theorem mks_mark (l : List Prt) (n : Int) (h : 0 ≤ n) : mks (l ++ [mkPrt noText n]) = mks l ++ [n] := by
  unfold mks
  rw [List.filterMap_append]
  congr 1
  have e : (mkPrt noText n).arg = n := rfl
  rw [List.filterMap_cons, e, if_neg (by omega)]
  rfl
theorem mks_len (l : List Prt) : (mks l).length ≤ l.length := List.length_filterMap_le _ _
theorem mks_mem {l : List Prt} {n : Int} (h : n ∈ mks l) : ∃ p ∈ l, p.arg = n ∧ 0 ≤ n := by
  obtain ⟨p, hp, h2⟩ := List.mem_filterMap.1 h
  split at h2
  · cases h2
  · cases h2; exact ⟨p, hp, rfl, by omega⟩
def GivesMkE (w : World) (t : ByteArray) (e : Ending) (w' : World) : Prop :=
  match cutU (bytesOf t) with
  | none => e = .returned (.tuple #[.slice none 0 0, .bool false]) ∧ RowKit.Hid (Keep No w w')
  | some out => ∃ a c, e = .returned (.tuple #[.slice a (mks out).length c, .bool (decide (1 ≤ t.size) && decide (t.size ≤ 64))]) ∧ RowKit.Hid (OwnI w.heap.size w' (.slice a (mks out).length c) (mks out) ∧ Keep No w w')
set_option maxRecDepth 10000 in
set_option maxHeartbeats 4000000 in
theorem marks_any (t : ByteArray) (ht : t.size ≤ 1048576) (w : World) : Calls Tryz.prog 76 #[.string t] w (GivesMkE w t) := by
  have hbl := bytesOf_length t
  have i64 : (t.size : Int) ≤ 1048576 := by omega
  have HC := Lib.hid (And.intro hbl ht)
  clear hbl ht
  go_enter Tryz.func76, Tryz.ntmps76
  go_wp2_with fail
  go_loopg [4, 5] t.size (fun g s i wr => ∃ (k : Nat) (v : Value) (out : List Prt), k ≤ t.size ∧ g = t.size - k ∧ s = v ∧ i = .int .i64 k ∧ RowKit.Hid (CutTo (bytesOf t) k out ∧ OwnI w.heap.size wr v (mks out) ∧ Keep No w wr))
  case atStart => exact ⟨0, _, [], by omega, by omega, rfl, rfl, CutTo.start _, Own.nil _ _ _ _, Keep.refl No w⟩
  case round =>
    obtain ⟨k, v, out, hk, rfl, rfl, rfl, HR⟩ := hrel
    have HML := Lib.hid (mks_len out)
    have HKr := Lib.hid HR.out.2.2
    by_cases hlt : k < t.size
    · have j1 : (k : Int) < t.size := by omega
      have j0 : (0 : Int) ≤ k := by omega
      have j3 : (k : Int) ≤ 1048576 := by omega
      have hl : k < (bytesOf t).length := by rw [HC.out.1]; exact hlt
      have hg := bytesOf_get t k hl hlt
      by_cases hm : (bytesOf t)[k] = 123
      · by_cases hk2 : k + 2 < (bytesOf t).length
        · have ht2 : k + 2 < t.size := by rw [← HC.out.1]; exact hk2
          have ht1 : k + 1 < t.size := Nat.lt_of_succ_lt ht2
          have g1 := bytesOf_get t (k + 1) (Nat.lt_of_succ_lt hk2) ht1
          have g2 := bytesOf_get t (k + 2) hk2 ht2
          have hnext := fun hd => HR.out.1.mark hk2 hm hd
          have hnon := fun hd => HR.out.1.none (cutU_nomark _ k hk2 hm hd)
          rw [g1, g2] at hnext hnon
          rw [hg] at hm
          have j4 : (k : Int) + 2 < t.size := by omega
          have j5 : (k : Int) + 1 < t.size := by omega
          obtain ⟨c1, hc1⟩ : ∃ c1 : Int, (t[k + 1].toNat : Int) = c1 := ⟨_, rfl⟩
          obtain ⟨c2, hc2⟩ : ∃ c2 : Int, (t[k + 2].toNat : Int) = c2 := ⟨_, rfl⟩
          rw [hc1, hc2] at hnext hnon
          have b0 : 0 ≤ c1 := by omega
          have b1 : c1 ≤ 255 := by have := t[k + 1].toNat_lt; omega
          by_cases hd : 48 ≤ c1 ∧ c1 ≤ 57 ∧ c2 = 125
          · obtain ⟨d0, d1, d2⟩ := hd
            have HT := Lib.hid (And.intro (hnext ⟨d0, d1, d2⟩) (And.intro d0 (And.intro d1 ht2)))
            have n1 : ¬ c1 < 48 := by omega
            have n2 : ¬ 57 < c1 := by omega
            clear hnext hnon hg hl hk hk2 g1 g2
            obtain ⟨av, cv, hv, -⟩ := Own.form HR.out.2.1
            subst hv
            obtain ⟨a3, c3, w2, hrun, ho2, hk2⟩ := HR.out.2.1.app HR.out.2.2.size (c1 - 48) (wf_i64q (by omega) (by omega)) (by have := HR.out.1.2; have := HML.out; have := HT.out.2.2.2; have := HC.out.2; omega)
            rw [← mks_mark out (c1 - 48) (by omega)] at ho2
            have HO := Lib.hid (And.intro ho2 (HR.out.2.2.thenOwn hk2))
            clear ho2 hk2
            generalize (mks out).length = m at *
            go_wp2_with (at_builtin; refine wpList_app rfl (.tmp 40) (.tmp 47) 22 22 rfl rfl rfl hrun ?_)
            go_roundg (t.size - (k + 3))
            case measure => have := HT.out.2.2.2; omega
            case rel => exact ⟨k + 3, _, _, by have := HT.out.2.2.2; omega, rfl, rfl, by simp, HT.out.1, HO.out.1, HO.out.2⟩
          · have HNN := Lib.hid (hnon hd)
            clear hnext hnon hg hl hk hk2 g1 g2 HC HR
            by_cases d0 : c1 < 48
            · clear hd
              go_wp2_with fail
              go_ret2
              unfold GivesMkE
              rw [HNN.out]
              exact ⟨rfl, HKr.out⟩
            · by_cases d1 : 57 < c1
              · clear hd
                go_wp2_with fail
                go_ret2
                unfold GivesMkE
                rw [HNN.out]
                exact ⟨rfl, HKr.out⟩
              · have d2 : ¬ c2 = 125 := fun e => hd ⟨by omega, by omega, e⟩
                have d2' : (c2 == 125) = false := by simpa using d2
                have d3' : (c2 != 125) = true := by simpa using d2
                clear hd d2
                go_wp2_with fail
                go_ret2
                unfold GivesMkE
                rw [HNN.out]
                exact ⟨rfl, HKr.out⟩
        · have HNN := Lib.hid (HR.out.1.none (cutU_short _ k hl hm hk2))
          have j4 : ¬ (k : Int) + 2 < t.size := by have := HC.out.1; omega
          rw [hg] at hm
          clear hg hl hk hk2 HC HR
          go_wp2_with fail
          go_ret2
          unfold GivesMkE
          rw [HNN.out]
          exact ⟨rfl, HKr.out⟩
      · have hnext := fun hkc => HR.out.1.text hl hm hkc
        have hnon := fun hkc => HR.out.1.none (cutU_bad _ k hl hm hkc)
        have hsub := sub_one t k hlt
        have hko : keyOk ⟨#[t[k]]⟩ = keyC (bytesOf t)[k] := keyOk_oneB hg
        rw [hg] at hm hnext hko hnon
        have hbk : (t[k].toNat : Int).toNat.toUInt8 = t[k] := by simp
        rw [hbk] at hnext
        have hm' : ((t[k].toNat : Int) == 123) = false := by simpa using hm
        have hval := rKeyOk_any ⟨#[t[k]]⟩ (by show (1 : Nat) ≤ 9223372036854775807; decide) wr
        cases hkc : keyC (t[k].toNat : Int) with
        | true =>
          have HN := Lib.hid (And.intro (hnext hkc) hlt)
          rw [hko, hkc] at hval
          clear hnext hnon hm hkc hg hl hk hko
          go_wp2_with (go_at_call 79; refine hval.mono ?_; clear hval; rintro e w3 ⟨rfl, rfl⟩)
          go_roundg (t.size - (k + 1))
          case measure => have := HN.out.2; omega
          case rel => exact ⟨k + 1, _, _, by have := HN.out.2; omega, rfl, rfl, by simp, HN.out.1, by rw [mks_text]; exact HR.out.2.1, HR.out.2.2⟩
        | false =>
          have HNN := Lib.hid (hnon hkc)
          rw [hko, hkc] at hval
          clear hnext hnon hm hkc hg hl hk hko HC HR
          go_wp2_with (go_at_call 79; refine hval.mono ?_; clear hval; rintro e w3 ⟨rfl, rfl⟩)
          go_ret2
          unfold GivesMkE
          rw [HNN.out]
          exact ⟨rfl, HKr.out⟩
    · obtain rfl : k = t.size := by omega
      have hd : cutU (bytesOf t) = some out := by
        have := HR.out.1
        rw [← HC.out.1] at this
        exact this.done
      obtain ⟨av, cv, hv, -⟩ := Own.form HR.out.2.1
      subst hv
      have j1 : ¬ (t.size : Int) < t.size := by omega
      have HD := Lib.hid hd
      clear hd hlt hk
      by_cases s1 : 1 ≤ t.size
      · by_cases s2 : t.size ≤ 64
        · have k1 : (1 : Int) ≤ t.size := by omega
          have k2 : (t.size : Int) ≤ 64 := by omega
          have HB := Lib.hid (show (decide (1 ≤ t.size) && decide (t.size ≤ 64)) = true by simp [s1, s2])
          clear s1 s2
          go_wp2_with fail
          go_ret2
          unfold GivesMkE
          rw [HD.out]
          exact ⟨av, cv, by rw [HB.out]; rfl, HR.out.2⟩
        · have k1 : (1 : Int) ≤ t.size := by omega
          have k2 : ¬ (t.size : Int) ≤ 64 := by omega
          have HB := Lib.hid (show (decide (1 ≤ t.size) && decide (t.size ≤ 64)) = false by simp [s1, s2])
          clear s1 s2
          go_wp2_with fail
          go_ret2
          unfold GivesMkE
          rw [HD.out]
          exact ⟨av, cv, by rw [HB.out]; rfl, HR.out.2⟩
      · have k1 : ¬ (1 : Int) ≤ t.size := by omega
        have HB := Lib.hid (show (decide (1 ≤ t.size) && decide (t.size ≤ 64)) = false by simp [s1])
        clear s1
        go_wp2_with fail
        go_ret2
        unfold GivesMkE
        rw [HD.out]
        exact ⟨av, cv, by rw [HB.out]; rfl, HR.out.2⟩
theorem mks_below (n : Nat) : ∀ out : List Prt, below n out = (mks out).all fun x => decide (x < n)
  | [] => rfl
  | p :: l => by
    have ih := mks_below n l
    unfold below at ih ⊢
    unfold mks at ih ⊢
    rw [List.all_cons, List.filterMap_cons, ih]
    by_cases h : p.arg < 0
    · rw [if_pos h]
      have : p.arg < n := by omega
      simp [this]
    · rw [if_neg h, List.all_cons]
set_option maxRecDepth 10000 in
set_option maxHeartbeats 2000000 in
theorem rTemplate_any (t : ByteArray) (hsz : t.size ≤ 1048576) (n : Nat) (w : World) :
    Calls Tryz.prog 52 #[.string t, .int .i64 n] w fun e w' => e = .returned (.bool (tmplOk t n)) ∧ RowKit.Hid (Keep No w w') := by
  have hm := marks_any t hsz w
  obtain ⟨r, hr⟩ : ∃ r, tmplOk t n = r := ⟨_, rfl⟩
  rw [hr]
  cases hc : cutU (bytesOf t) with
  | none =>
    have hf : r = false := by
      rw [← hr]
      unfold tmplOk
      have : cutT t = none := by unfold cutT; rw [hc]; split <;> rfl
      rw [this]
    have hm := hm.mono (R' := fun e w2 => e = .returned (.tuple #[.slice none 0 0, .bool false]) ∧ RowKit.Hid (Keep No w w2)) (fun e w2 hh => by unfold GivesMkE at hh; rw [hc] at hh; exact hh)
    subst hf
    clear hr hc
    go_enter Tryz.func52, Tryz.ntmps52
    go_wp2_with (go_at_call 76; refine hm.mono ?_; clear hm; rintro e w2 ⟨rfl, HK⟩)
    go_loopg [7] 0 (fun g i wr => g = 0 ∧ i = .int .i64 0 ∧ RowKit.Hid (Keep No w wr))
    case atStart => exact ⟨rfl, rfl, HK.out⟩
    case round =>
      obtain ⟨rfl, rfl, HK2⟩ := hrel
      go_wp2_with fail
      go_ret
      exact ⟨rfl, HK2.out⟩
  | some out =>
    have hm := hm.mono (R' := fun e w2 => ∃ a c, e = .returned (.tuple #[.slice a (mks out).length c, .bool (decide (1 ≤ t.size) && decide (t.size ≤ 64))]) ∧ RowKit.Hid (OwnI w.heap.size w2 (.slice a (mks out).length c) (mks out) ∧ Keep No w w2)) (fun e w2 hh => by unfold GivesMkE at hh; rw [hc] at hh; exact hh)
    have hrr : r = ((decide (1 ≤ t.size) && decide (t.size ≤ 64)) && (mks out).all fun x => decide (x < n)) := by
      rw [← hr, ← mks_below]
      unfold tmplOk cutT
      by_cases hz : t.size = 0 ∨ 64 < t.size
      · rw [if_pos hz]
        have : (decide (1 ≤ t.size) && decide (t.size ≤ 64)) = false := by
          rcases hz with h | h
          · simp [h]
          · have h2 : ¬ t.size ≤ 64 := by omega
            simp [h2]
        rw [this, Bool.false_and]
      · rw [if_neg hz, hc]
        have h1 : 1 ≤ t.size := by omega
        have h2 : t.size ≤ 64 := by omega
        simp [h1, h2]
    obtain ⟨sb, hsb⟩ : ∃ sb, (decide (1 ≤ t.size) && decide (t.size ≤ 64)) = sb := ⟨_, rfl⟩
    rw [hsb] at hm hrr
    have hml := mks_len out
    have HRR := Lib.hid hrr
    clear hr hc hsb hrr
    generalize mks out = ms at *
    go_enter Tryz.func52, Tryz.ntmps52
    go_wp2_with (go_at_call 76; refine hm.mono ?_; clear hm; rintro e w2 ⟨a, c, rfl, HO⟩)
    have h63 := slice_len (Own.rd HO.out.1)
    have HRD := Lib.hid (Own.rd HO.out.1)
    clear hml
    go_loopg [7] ms.length (fun g i wr => ∃ k : Nat, k ≤ ms.length ∧ g = ms.length - k ∧ i = .int .i64 k ∧ RowKit.Hid (∀ x ∈ ms.take k, x < (n : Int)) ∧ wr = w2)
    case atStart => exact ⟨0, by omega, by omega, rfl, (fun x hx => by simp at hx), rfl⟩
    case round =>
      obtain ⟨k, hk, rfl, rfl, HT, rfl⟩ := hrel
      by_cases hlt : k < ms.length
      · have j1 : (k : Int) < ms.length := by omega
        have j0 : (0 : Int) ≤ k := by omega
        have j3 : (k : Int) ≤ 9223372036854775806 := by omega
        obtain ⟨b, off, rfl, q1⟩ := ints_cell HRD.out k hlt
        obtain ⟨x, hx⟩ : ∃ x, ms[k] = x := ⟨_, rfl⟩
        rw [hx] at q1
        have HL : RowKit.Hid (∃ hl : k < ms.length, ms[k] = x) := ⟨hlt, hx⟩
        clear hx hlt hk h63
        by_cases hge : (n : Int) ≤ x
        · have hf : r = false := by
            rw [HRR.out]
            obtain ⟨hl, hx⟩ := HL.out
            have : (ms.all fun x => decide (x < n)) = false := by
              rw [List.all_eq_false]
              exact ⟨x, by rw [← hx]; exact List.getElem_mem hl, by simp; omega⟩
            rw [this, Bool.and_false]
          subst hf
          go_wp2_with fail
          go_ret
          exact ⟨rfl, HO.out.2⟩
        · have HN := Lib.hid (show ∀ y ∈ ms.take (k + 1), y < (n : Int) from fun y hy => by
            obtain ⟨hl, hx⟩ := HL.out
            rw [List.take_succ_eq_append_getElem hl] at hy
            rcases List.mem_append.1 hy with h | h
            · exact HT.out y h
            · rw [List.mem_singleton] at h
              omega)
          go_wp2_with fail
          go_roundg (ms.length - (k + 1))
          case measure => obtain ⟨hl, -⟩ := HL.out; omega
          case rel => exact ⟨k + 1, (by obtain ⟨hl, -⟩ := HL.out; exact hl), rfl, by simp, HN.out, rfl⟩
      · obtain rfl : k = ms.length := by omega
        have j1 : ¬ (ms.length : Int) < ms.length := by omega
        have hf : r = sb := by
          rw [HRR.out]
          have : (ms.all fun x => decide (x < n)) = true := by
            rw [List.all_eq_true]
            intro x hx
            have := HT.out x (by rw [List.take_length]; exact hx)
            simpa using this
          rw [this, Bool.and_true]
        subst hf
        clear hlt hk h63
        go_wp2_with fail
        go_ret
        exact ⟨rfl, HO.out.2⟩
end Go.Proofs.YtfgdnakfikpmpaaGreatDoor
