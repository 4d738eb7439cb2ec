/-
  The document's footprints: the footprint with whose bytes others begin.
-/
import Derived.Test.YtnknihmchmmenaaGreatGA
import Derived.Test.YtnknihmchmmenaaGreatGB
import Derived.Test.YtnknihmchmmenaaGreatGC
import Derived.Test.YtnknihmchmmenaaGreatGD
import Derived.Test.YtnknihmchmmenaaGreatGE
import Derived.Test.YtnknihmchmmenaaGreatGF
import Derived.Test.YtnknihmchmmenaaGreatGG
import Derived.Test.YtnknihmchmmenaaGreatGI
import Derived.Test.YtnknihmchmmenaaGreatGJ
import Derived.Test.YtnknihmchmmenaaGreatGK
import Derived.Test.YtnknihmchmmenaaGreatGL
import Derived.Test.YtnknihmchmmenaaGreatGM
import Derived.Test.YtnknihmchmmenaaGreatGN
import Derived.Test.YtnknihmchmmenaaGreatGT
import Derived.Test.YtnknihmchmmenaaGreatCan3
import Derived.Still
import Derived.StillTactics
import Derived.WalkKit
import Derived.WalkSpells
import Derived.WalkLawsBesides
import Derived.ProofKit
import Derived.Deep.Slices
import Derived.Deep.AppendSrc
import Derived.Lib.Hide
import Derived.Recover
import Derived.Defers
import Derived.Deep.QuietTactic
import Derived.BigQuiet
import Derived.Handy
import Derived.Laws.Bits64b
import Derived.Lib.Zigzag
import Derived.OwnWalk
import Derived.Deep.DeepCutAuto
import Derived.Lib.Bytealg
import Derived.Laws.Externs
import Derived.Laws.CopyRow
import Derived.Laws.IdiomCopy
import Derived.Maps.OwnSet
import Derived.Maps.RangeWalk
import Derived.Shelf.SortM.Plain
import Derived.Shelf.SortM.SortNone
import Derived.Ground.SlgmProg
import Derived.Maps.OwnOps
import Derived.Deep.LoopGhost
namespace Go.Proofs.YtnknihmchmmenaaGreat
set_option linter.unusedVariables false
set_option linter.unusedSimpArgs false
open Go Go.RowKit Go.Deep

/-- so many keys are to come, as the document reads them -/
def GetR (n : Nat) (res : Fp × Nat × Int) (k : Nat) (f : Fp) (last : ByteArray) (r : Rs) : Prop := res = footEndR (keysR (n - k) k f last r) ∧ f.rs.length ≤ k ∧ f.ws.length ≤ k
/-- a round that goes on -/
theorem GetR.step {n k : Nat} {res : Fp × Nat × Int} {r : Rs} {f : Fp} {last : ByteArray} (h : GetR n res k f last r) (hk : k < n) (he : r.err = 0) (h1 : ¬ ((r.text 32).2.err = 0 ∧ keyOk (r.text 32).1 = false)) (h2 : ¬ ((r.text 32).2.err = 0 ∧ 0 < k ∧ ltT last (r.text 32).1 = false))
    (h3 : ¬ ((r.text 32).2.byte.2.err = 0 ∧ ¬ (1 ≤ (r.text 32).2.byte.1 ∧ (r.text 32).2.byte.1 ≤ 3))) :
    GetR n res (k + 1) (mkFp (if (r.text 32).2.byte.1 % 2 = 1 then f.rs ++ [(r.text 32).1] else f.rs) (if 2 ≤ (r.text 32).2.byte.1 then f.ws ++ [(r.text 32).1] else f.ws)) (r.text 32).1 (r.text 32).2.byte.2 := by
  obtain ⟨e, l1, l2⟩ := h
  refine ⟨?_, len_if _ _ _ l1, len_if _ _ _ l2⟩
  rw [e, show n - k = (n - (k + 1)) + 1 by omega]
  simp only [keysR]
  rw [if_neg (by rw [he]; simp), if_neg h1, if_neg h2, if_neg h3]
theorem GetR.bad1 {n k : Nat} {res : Fp × Nat × Int} {r : Rs} {f : Fp} {last : ByteArray} (h : GetR n res k f last r) (hk : k < n) (he : r.err = 0) (h1 : (r.text 32).2.err = 0 ∧ keyOk (r.text 32).1 = false) : res = (mkFp [] [], 0, 30) := by
  obtain ⟨e, -⟩ := h
  rw [e, show n - k = (n - (k + 1)) + 1 by omega]
  simp only [keysR]
  rw [if_neg (by rw [he]; simp), if_pos h1]
  rfl
theorem GetR.bad2 {n k : Nat} {res : Fp × Nat × Int} {r : Rs} {f : Fp} {last : ByteArray} (h : GetR n res k f last r) (hk : k < n) (he : r.err = 0) (h1 : ¬ ((r.text 32).2.err = 0 ∧ keyOk (r.text 32).1 = false)) (h2 : (r.text 32).2.err = 0 ∧ 0 < k ∧ ltT last (r.text 32).1 = false) : res = (mkFp [] [], 0, 31) := by
  obtain ⟨e, -⟩ := h
  rw [e, show n - k = (n - (k + 1)) + 1 by omega]
  simp only [keysR]
  rw [if_neg (by rw [he]; simp), if_neg h1, if_pos h2]
  rfl
theorem GetR.bad3 {n k : Nat} {res : Fp × Nat × Int} {r : Rs} {f : Fp} {last : ByteArray} (h : GetR n res k f last r) (hk : k < n) (he : r.err = 0) (h1 : ¬ ((r.text 32).2.err = 0 ∧ keyOk (r.text 32).1 = false)) (h2 : ¬ ((r.text 32).2.err = 0 ∧ 0 < k ∧ ltT last (r.text 32).1 = false))
    (h3 : (r.text 32).2.byte.2.err = 0 ∧ ¬ (1 ≤ (r.text 32).2.byte.1 ∧ (r.text 32).2.byte.1 ≤ 3)) : res = (mkFp [] [], 0, 31) := by
  obtain ⟨e, -⟩ := h
  rw [e, show n - k = (n - (k + 1)) + 1 by omega]
  simp only [keysR]
  rw [if_neg (by rw [he]; simp), if_neg h1, if_neg h2, if_pos h3]
  rfl
theorem GetR.endBad {n k : Nat} {res : Fp × Nat × Int} {r : Rs} {f : Fp} {last : ByteArray} (h : GetR n res k f last r) (he : r.err ≠ 0) : res = (mkFp [] [], 0, r.err) := by
  obtain ⟨e, -⟩ := h
  rw [e]
  cases n - k with
  | zero => simp only [keysR, footEndR]; rw [if_pos he]
  | succ m => simp only [keysR]; rw [if_pos he]; simp only [footEndR]; rw [if_pos he]
theorem GetR.endOk {n k : Nat} {res : Fp × Nat × Int} {r : Rs} {f : Fp} {last : ByteArray} (h : GetR n res k f last r) (hk : n ≤ k) (he : r.err = 0) : res = (f, r.at', 0) := by
  obtain ⟨e, -⟩ := h
  rw [e, show n - k = 0 by omega]
  simp only [keysR, footEndR]
  rw [if_neg (by rw [he]; simp)]

set_option maxRecDepth 10000 in
set_option maxHeartbeats 8000000 in
theorem rfGet_any (w : World) (S : Nat → Prop) (v : Value) (b : Bytes) (h : Rd bytesSh w S [v] b) (hl : b.length ≤ 140737488355328) :
    Calls Tryz.prog 86 #[v] w (GivesFN w (footGetR b)) := by
  have K1 : Keep No w (w.alloc (.cells #[.slice none 0 0, .slice none 0 0] 36)) := (Keep.refl No w).alloc _
  have hnew := (rNew_any _ S v b (h.agree _ K1.agreeNo) hl).mono (R' := fun e w2 => ∃ B vr, e = .returned (.pointer (some ⟨B, 0, none⟩)) ∧
      RowKit.Hid (w.heap.size + 1 ≤ B ∧ RdrAt 142 w2 B (Fr (w.heap.size + 1) B) vr (Rs.new b) ∧ Keep No w w2 ∧ w2.heap[w.heap.size]? = some (.cells #[.slice none 0 0, .slice none 0 0] 36 (0, 0)))) (by
    rintro e w2 ⟨B, vr, rfl, hB, hr, hk⟩
    simp only [World.size_alloc] at hB hr
    exact ⟨B, vr, rfl, hB, hr, K1.trans hk, hk.blk (blk_new w _) (fun x => x)⟩)
  obtain ⟨a0, c0, rfl, -⟩ := bytes_at h
  have h63 : b.length ≤ 140737488355328 := hl
  clear h K1 hl
  generalize hbl : b.length = bl at *
  have HBL := Lib.hid hbl
  clear hbl
  go_enter Tryz.func86, Tryz.ntmps86
  go_wp2_with fail
  refine hnew.mono ?_
  clear hnew
  rintro e w2 ⟨B, vr, rfl, H2⟩
  go_wp2_with fail
  have hcount := (rCount_any w2 B _ vr _ H2.out.2.1 64 (by omega) (by omega)).mono (R' := fun e w3 => e = .returned (.int .i64 ((Rs.new b).count 64).1) ∧ RowKit.Hid (GetAt 142 w w.heap.size B w3.heap.size (w3.heap.size + 1) (Fr (w.heap.size + 1) B) vr b (w3.alloc (.cells #[.slice none 0 0, .slice none 0 0] 36)) ((Rs.new b).count 64).2 (.slice none 0 0) (.slice none 0 0) (mkFp [] []))) (by
    rintro e w3 ⟨rfl, hr3, hk3⟩
    obtain ⟨h1, h2, h3, h4⟩ := H2.out
    have hB := hr3.lt
    have hk := (Keep.refl No w3).alloc (.cells #[.slice none 0 0, .slice none 0 0] 36)
    have hs := h3.size
    have hs3 := hk3.size
    have hg3 := hk3.blk h4 (fun e => by have : w.heap.size = B := e; omega)
    have hkw : Keep No w w3 := h3.then hk3 fun i hi e => by have : i = B := e; omega
    exact ⟨rfl, hkw.trans hk, blk_alloc hg3, blk_new w3 _, hr3.agree hk, TwoT.nil _ _, Nat.le_refl _, by omega, by have := blk_lt hg3; omega, by omega, by have := blk_lt hg3; omega, by omega, by omega, fun hf => by have := hf.2; omega, fun k hf => by have := hf.2; omega, count_b _ _, by omega, by omega, by simp⟩)
  refine hcount.mono ?_
  clear hcount
  rintro e w3 ⟨rfl, HG0⟩
  have hn64 : ((Rs.new b).count 64).1 ≤ 64 := count_le _ 64
  have HX : RowKit.Hid (GetR ((Rs.new b).count 64).1 (footGetR b) 0 (mkFp [] []) noText ((Rs.new b).count 64).2) := ⟨rfl, Nat.le_refl _, Nat.le_refl _⟩
  clear H2
  generalize footGetR b = res at *
  generalize ((Rs.new b).count 64).1 = n at *
  generalize ((Rs.new b).count 64).2 = r0 at *
  go_wp2_with fail
  generalize w3.heap.size = F at *
  generalize (w3.alloc (.cells #[.slice none 0 0, .slice none 0 0] 36)) = w4 at *
  generalize (Fr (w.heap.size + 1) B) = Sr at *
  go_loopg [8, 9] n (fun g s i wr => ∃ (k : Nat) (f : Fp) (last : ByteArray) (r : Rs), k ≤ n ∧ g = n - k ∧ i = .int .i64 k ∧ s = .string last ∧ RowKit.Hid (GetR n res k f last r ∧ ∃ u v, GetAt 142 w w.heap.size B F (F + 1) Sr vr b wr r u v f))
  case atStart => exact ⟨0, _, _, _, by omega, by omega, rfl, rfl, ⟨HX, _, _, HG0⟩⟩
  case round =>
    clear HX HG0
    obtain ⟨k, f, last, r, hk, rfl, rfl, rfl, HR⟩ := hrel
    obtain ⟨u, v, hG⟩ := HR.out.2
    have HG := Lib.hid hG
    obtain ⟨c0, c1, c2, c3, c4, z3, z4⟩ := hG.rd.cells
    have gB : ¬ w.heap.size = B := hG.gB
    have Bg : ¬ B = w.heap.size := fun h => gB h.symm
    have j0 : (0 : Int) ≤ k := by omega
    have j3 : (k : Int) ≤ 9223372036854775806 := by omega
    by_cases he : r.err = 0
    · by_cases hlt : k < n
      · have HS := Lib.hid (And.intro (fun h1 h2 h3 => HR.out.1.step hlt he h1 h2 h3) (And.intro (fun h1 => HR.out.1.bad1 hlt he h1) (And.intro (fun h1 h2 => HR.out.1.bad2 hlt he h1 h2) (fun h1 h2 h3 => HR.out.1.bad3 hlt he h1 h2 h3))))
        have HFL := Lib.hid (And.intro HR.out.1.2 hlt)
        have j1 : (k : Int) < n := by omega
        rw [he] at c3
        have htx := rText_any wr B _ vr r hG.rd 32 (by omega) (by omega)
        have hs32 : (r.text 32).1.size ≤ 9223372036854775807 := Nat.le_trans (text_le r 32) (by omega)
        have htb := text_b r 32
        clear hG HR hlt hk
        go_upto_region 9 with (go_at_call 83; refine htx.mono ?_; clear htx c0 c1 c2 c3 c4 z3 z4; rintro e w5 hr5; obtain ⟨rfl, -⟩ := id hr5; have HG1 := Lib.hid (HG.out.read hr5 htb); clear hr5)
        clear HG htb
        generalize (r.text 32).1 = s at *
        generalize (r.text 32).2 = rt at *
        obtain ⟨c0, c1, c2, c3, c4, z3, z4⟩ := HG1.out.rd.cells
        obtain ⟨bad, hbad⟩ : ∃ bad : Bool, bad = decide (rt.err = 0 ∧ keyOk s = false) := ⟨_, rfl⟩
        have HBD := Lib.hid hbad
        clear hbad
        go_cut [39] (fun c wx => c = .bool bad ∧ wx = w5)
        case first =>
          by_cases het : rt.err = 0
          · rw [het] at c3
            cases hks : keyOk s with
            | true =>
              have e := Lib.hid (HBD.out.trans (decide_eq_false fun h => by rw [hks] at h; exact absurd h.2 (by decide)))
              go_wp2_with (go_at_call 135; refine (rKeyOk_any s hs32 _).mono ?_; rintro e w6 ⟨rfl, rfl⟩)
              go_meet
              case rel => exact ⟨by rw [e.out], rfl⟩
            | false =>
              have e := Lib.hid (HBD.out.trans (decide_eq_true ⟨het, hks⟩))
              go_wp2_with (go_at_call 135; refine (rKeyOk_any s hs32 _).mono ?_; rintro e w6 ⟨rfl, rfl⟩)
              go_meet
              case rel => exact ⟨by rw [e.out], rfl⟩
          · have d1 : (rt.err == 0) = false := by simpa using het
            have e := Lib.hid (HBD.out.trans (decide_eq_false fun h => het h.1))
            clear het
            go_wp2_with fail
            go_meet
            case rel => exact ⟨by rw [e.out], rfl⟩
        case rest =>
          obtain ⟨hc, rfl⟩ := hcut
          subst hc
          cases bad with
          | true =>
            have hbd := of_decide_eq_true HBD.out.symm
            have hes := HS.out.2.1 hbd
            have HES := Lib.hid hes
            have g0 := blk_cell HG1.out.g0
            have z0 := blk_fro HG1.out.g0
            clear hes hbd
            go_wp2_with fail
            have hk1 : Keep No w ((wc.setCell ⟨w.heap.size, 0, none⟩ (.slice none 0 0)).setCell ⟨w.heap.size, 1, none⟩ (.slice none 0 0)) := HG1.out.keep.setNew2 HG1.out.gw (.slice none 0 0) (.slice none 0 0)
            have s2 := blk_cell (blk_two HG1.out.g0 (.slice none 0 0) (.slice none 0 0))
            have s0 := s2 0
            have s1 := s2 1
            simp at s0 s1
            refine bodyPost_ret (v := .tuple #[.agg #[.slice none 0 0, .slice none 0 0], .int .i64 0, .int .i64 30]) (by simp [results, Tryz.results86, go_sem, s0, s1]) rfl ?_
            rw [HES.out]
            exact ⟨_, _, _, _, _, _, rfl, ⟨OwnT.nil' hk1, OwnT.nil' hk1⟩, hk1⟩
          | false =>
            have N1 := Lib.hid (of_decide_eq_false HBD.out.symm)
            clear HBD
            obtain ⟨bad, hbad⟩ : ∃ bad : Bool, bad = decide (rt.err = 0 ∧ 0 < k ∧ ltT last s = false) := ⟨_, rfl⟩
            have HBD := Lib.hid hbad
            clear hbad
            have HK0 := Lib.hid j0
            go_upto_region 11 with fail
            go_cut [54] (fun c wx => c = .bool bad ∧ wx = wc)
            case first =>
              by_cases het : rt.err = 0
              · rw [het] at c3
                by_cases hk0 : 0 < k
                · have i0 : (0 : Int) < (k : Int) := by omega
                  have HI0 := Lib.hid hk0
                  clear hk0
                  cases hx : ltT last s with
                  | true =>
                    have e := Lib.hid (HBD.out.trans (decide_eq_false fun h => by rw [hx] at h; exact absurd h.2.2 (by decide)))
                    have hbl : Op.bytesLess s.toList last.toList = false := (Bool.not_eq_true (ltT s last)).mp (ltT_asymm hx)
                    have hbe : (s.toList == last.toList) = false := by rw [text_beq]; exact decide_eq_false fun e => ltT_irrefl s (by subst e; exact hx)
                    go_wp2_with fail
                    go_meet
                    case rel => exact ⟨by rw [e.out], rfl⟩
                  | false =>
                    have e := Lib.hid (HBD.out.trans (decide_eq_true ⟨het, HI0.out, hx⟩))
                    by_cases hsl : s = last
                    · have hbl : Op.bytesLess s.toList last.toList = false := by rw [hsl]; exact (Bool.not_eq_true (ltT last last)).mp (ltT_irrefl last)
                      have hbe : (s.toList == last.toList) = true := by rw [text_beq]; exact decide_eq_true hsl
                      clear hsl
                      go_wp2_with fail
                      go_meet
                      case rel => exact ⟨by rw [e.out], rfl⟩
                    · have hbl : Op.bytesLess s.toList last.toList = true := by
                        rcases ltT_or last s with h | h | h
                        · rw [hx] at h; cases h
                        · exact absurd h.symm hsl
                        · exact h
                      have hbe : (s.toList == last.toList) = false := by rw [text_beq]; exact decide_eq_false hsl
                      clear hsl
                      go_wp2_with fail
                      go_meet
                      case rel => exact ⟨by rw [e.out], rfl⟩
                · have i0 : ¬ (0 : Int) < (k : Int) := by omega
                  have e := Lib.hid (HBD.out.trans (decide_eq_false fun h => hk0 h.2.1))
                  clear hk0
                  go_wp2_with fail
                  go_meet
                  case rel => exact ⟨by rw [e.out], rfl⟩
              · have d1 : (rt.err == 0) = false := by simpa using het
                have e := Lib.hid (HBD.out.trans (decide_eq_false fun h => het h.1))
                clear het
                go_wp2_with fail
                go_meet
                case rel => exact ⟨by rw [e.out], rfl⟩
            case rest =>
              obtain ⟨hc, rfl⟩ := hcut
              subst hc
              cases bad with
              | true =>
                have hbd := of_decide_eq_true HBD.out.symm
                have hes := HS.out.2.2.1 N1.out hbd
                have HES := Lib.hid hes
                have g0 := blk_cell HG1.out.g0
                have z0 := blk_fro HG1.out.g0
                clear hes hbd
                go_wp2_with fail
                have hk1 : Keep No w ((wc.setCell ⟨w.heap.size, 0, none⟩ (.slice none 0 0)).setCell ⟨w.heap.size, 1, none⟩ (.slice none 0 0)) := HG1.out.keep.setNew2 HG1.out.gw (.slice none 0 0) (.slice none 0 0)
                have s2 := blk_cell (blk_two HG1.out.g0 (.slice none 0 0) (.slice none 0 0))
                have s0 := s2 0
                have s1 := s2 1
                simp at s0 s1
                refine bodyPost_ret (v := .tuple #[.agg #[.slice none 0 0, .slice none 0 0], .int .i64 0, .int .i64 31]) (by simp [results, Tryz.results86, go_sem, s0, s1]) rfl ?_
                rw [HES.out]
                exact ⟨_, _, _, _, _, _, rfl, ⟨OwnT.nil' hk1, OwnT.nil' hk1⟩, hk1⟩
              | false =>
                have N2 := Lib.hid (of_decide_eq_false HBD.out.symm)
                clear HBD
                have hby := rByte_any wc B _ vr rt HG1.out.rd
                have hrange := byte_range HG1.out.rd.ok
                have hbb := byte_b rt
                go_upto_region 15 with (go_at_call 84; refine hby.mono ?_; clear hby c0 c1 c2 c3 c4 z3 z4; rintro e w6 hr6; obtain ⟨rfl, -⟩ := id hr6; have HG2 := Lib.hid (HG1.out.read hr6 hbb); clear hr6 hbb HG1)
                generalize rt.byte.1 = ub at *
                generalize rt.byte.2 = qb at *
                obtain ⟨c0, c1, c2, c3, c4, z3, z4⟩ := HG2.out.rd.cells
                obtain ⟨bad, hbad⟩ : ∃ bad : Bool, bad = decide (qb.err = 0 ∧ ¬ (1 ≤ ub ∧ ub ≤ 3)) := ⟨_, rfl⟩
                have HBD := Lib.hid hbad
                clear hbad
                obtain ⟨hr1, hr2⟩ := hrange
                have HRG := Lib.hid (And.intro hr1 hr2)
                go_cut [71] (fun c wx => c = .bool bad ∧ wx = w6)
                case first =>
                  by_cases het : qb.err = 0
                  · rw [het] at c3
                    by_cases h1 : ub < 1
                    · have e := Lib.hid (HBD.out.trans (decide_eq_true ⟨het, by omega⟩))
                      go_wp2_with fail
                      go_meet
                      case rel => exact ⟨by rw [e.out], rfl⟩
                    · by_cases h3 : 3 < ub
                      · have e := Lib.hid (HBD.out.trans (decide_eq_true ⟨het, by omega⟩))
                        go_wp2_with fail
                        go_meet
                        case rel => exact ⟨by rw [e.out], rfl⟩
                      · have e := Lib.hid (HBD.out.trans (decide_eq_false fun h => h.2 (by omega)))
                        go_wp2_with fail
                        go_meet
                        case rel => exact ⟨by rw [e.out], rfl⟩
                  · have d1 : (qb.err == 0) = false := by simpa using het
                    have e := Lib.hid (HBD.out.trans (decide_eq_false fun h => het h.1))
                    clear het
                    go_wp2_with fail
                    go_meet
                    case rel => exact ⟨by rw [e.out], rfl⟩
                case rest =>
                  obtain ⟨hc, rfl⟩ := hcut
                  subst hc
                  cases bad with
                  | true =>
                    have hbd := of_decide_eq_true HBD.out.symm
                    have hes := HS.out.2.2.2 N1.out N2.out hbd
                    have HES := Lib.hid hes
                    have g0 := blk_cell HG2.out.g0
                    have z0 := blk_fro HG2.out.g0
                    clear hes hbd
                    go_wp2_with fail
                    have hk1 : Keep No w ((wc.setCell ⟨w.heap.size, 0, none⟩ (.slice none 0 0)).setCell ⟨w.heap.size, 1, none⟩ (.slice none 0 0)) := HG2.out.keep.setNew2 HG2.out.gw (.slice none 0 0) (.slice none 0 0)
                    have s2 := blk_cell (blk_two HG2.out.g0 (.slice none 0 0) (.slice none 0 0))
                    have s0 := s2 0
                    have s1 := s2 1
                    simp at s0 s1
                    refine bodyPost_ret (v := .tuple #[.agg #[.slice none 0 0, .slice none 0 0], .int .i64 0, .int .i64 31]) (by simp [results, Tryz.results86, go_sem, s0, s1]) rfl ?_
                    rw [HES.out]
                    exact ⟨_, _, _, _, _, _, rfl, ⟨OwnT.nil' hk1, OwnT.nil' hk1⟩, hk1⟩
                  | false =>
                    have N3 := of_decide_eq_false HBD.out.symm
                    have HK := Lib.hid (HS.out.1 N1.out N2.out N3)
                    clear HBD N3 HS
                    clear c0 c1 c2 c3 c4 z3 z4
                    have hlow := HG2.out.low
                    go_upto_if 75 with fail
                    generalize hf1 : (if ub % 2 = 1 then f.rs ++ [s] else f.rs) = l1 at *
                    have HF1 := Lib.hid hf1
                    clear hf1
                    go_cut [] (fun wx => ∃ u', RowKit.Hid (GetAt 142 w w.heap.size B F (F + 1) Sr vr b wx qb u' v (mkFp l1 f.ws)))
                    case first =>
                      by_cases h1 : ub % 2 = 1
                      · have hb : (ub % 2 == 1) = true := by simpa using h1
                        obtain ⟨a1, c1, a2, c2, hu, hv⟩ := HG2.out.two.form
                        subst hu hv
                        obtain ⟨a3, c3, w7, hrun, h7, hk7⟩ := HG2.out.two.appA hlow s hs32 (by have := HFL.out.1.1; have := HFL.out.2; omega)
                        have HG5 := Lib.hid (HG2.out.grow hk7 h7 0 (.slice a3 (f.rs.length + 1) c3) rfl)
                        have hF7 := hk7.blk HG2.out.F0 (fun hf => by have := hf.1; omega)
                        have q7 := blk_cell hF7
                        have z7 := blk_fro hF7
                        have q0 := blk_cell HG2.out.F0
                        have e := HF1.out
                        rw [if_pos h1] at e
                        have HE := Lib.hid e
                        clear e h1 h7 hk7 hF7 hlow
                        generalize f.rs.length = m1 at *
                        generalize f.ws.length = m2 at *
                        go_wp2_with (at_builtin; refine wpList_app rfl (.tmp 77) (.tmp 79) 34 34 rfl rfl rfl hrun ?_)
                        go_meet
                        case rel => exact ⟨_, by rw [← HE.out]; exact HG5⟩
                      · have hb : (ub % 2 == 1) = false := by simpa using h1
                        have e := HF1.out
                        rw [if_neg h1] at e
                        have HE := Lib.hid e
                        clear e h1 hlow
                        go_wp2_with fail
                        go_meet
                        case rel => exact ⟨u, by rw [← HE.out]; exact HG2⟩
                    case rest =>
                      obtain ⟨u', HG5⟩ := hcut
                      clear hlow
                      have hlow := HG5.out.low
                      by_cases h2 : 2 ≤ ub
                      · have hb : decide (2 ≤ ub) = true := decide_eq_true h2
                        obtain ⟨a1, c1, a2, c2, hu, hv⟩ := HG5.out.two.form
                        subst hu hv
                        obtain ⟨a3, c3, w7, hrun, h7, hk7⟩ := HG5.out.two.appB hlow s hs32 (by have := HFL.out.1.2; have := HFL.out.2; exact Nat.le_trans (Nat.succ_le_succ ‹f.ws.length ≤ k›) (by omega))
                        have HG6 := Lib.hid (HG5.out.grow hk7 h7 1 (.slice a3 (f.ws.length + 1) c3) rfl)
                        have hF7 := hk7.blk HG5.out.F0 (fun hf => by have := hf.1; omega)
                        have q7 := blk_cell hF7
                        have z7 := blk_fro hF7
                        have q0 := blk_cell HG5.out.F0
                        have HE := HK
                        rw [if_pos h2] at HE
                        clear h7 hk7 hF7 hlow HK
                        have hm2 : (mkFp l1 f.ws).ws.length = f.ws.length := rfl
                        rw [hm2] at hrun HG6
                        generalize (mkFp l1 f.ws).rs.length = m1 at *
                        generalize f.ws.length = m2 at *
                        go_wp2_with (at_builtin; refine wpList_app rfl (.tmp 85) (.tmp 87) 34 34 rfl rfl rfl hrun ?_)
                        go_roundg (n - (k + 1))
                        case measure => have := HFL.out.2; omega
                        case rel => exact ⟨k + 1, _, _, _, by have := HFL.out.2; omega, rfl, by simp, rfl, HE, _, _, HG6⟩
                      · have hb : decide (2 ≤ ub) = false := decide_eq_false h2
                        have HE := HK
                        rw [if_neg h2] at HE
                        clear hlow HK
                        go_wp2_with fail
                        go_roundg (n - (k + 1))
                        case measure => have := HFL.out.2; omega
                        case rel => exact ⟨k + 1, _, _, _, by have := HFL.out.2; omega, rfl, by simp, rfl, HE, _, _, HG5⟩
      · have hes := HR.out.1.endOk (by omega) he
        have j1 : ¬ (k : Int) < n := by omega
        have HES := Lib.hid hes
        rw [he] at c3
        have q0 := blk_cell hG.F0
        have g0 := blk_cell hG.g0
        have z0 := blk_fro hG.g0
        obtain ⟨x1, y1, x2, y2, hu, hv⟩ := hG.two.form
        subst hu hv
        clear hes he hG HR hlt hk
        generalize f.rs.length = m1 at *
        generalize f.ws.length = m2 at *
        go_wp2_with fail
        refine wp_region_canw [0, 1, 2, 3, 4, 5, 6, 7] [5] [(1, 5), (2, 5), (3, 5), (4, 5)] (by kernel_rfl) (by kernel_rfl) (by kernel_rfl) (by kernel_rfl) (by intro c a d v w h; cases d <;> exact h) ?_
        iterate 5 (refine canw_sil rfl rfl (fun K hK => ?_); go_simp; refine hK _ ?_; clear hK K)
        refine canw_loud [1, 2, 3, 4] rfl rfl rfl (fun K hK => ?_)
        go_wp2_with fail
        refine Mid.normal (hK _ _ ?_ ?_)
        · simp only [List.forall_mem_cons]
          refine ⟨?_, ?_, ?_, ?_, stabs_nil⟩ <;> exact stab_of rfl (fun K hK => by go_simp; exact hK)
        clear hK K
        iterate 2 (refine canw_sil rfl rfl (fun K hK => ?_); go_simp; refine hK _ ?_; clear hK K)
        refine canw_nil ?_
        have hgd : GetAt 142 w w.heap.size B F (F + 1) Sr vr b wr.drew r (.slice x1 m1 y1) (.slice x2 m2 y2) f := HG.out.drewN 1
        have hfin : OwnF w ((wr.setCell ⟨w.heap.size, 0, none⟩ (.slice x1 m1 y1)).setCell ⟨w.heap.size, 1, none⟩ (.slice x2 m2 y2)).drew (.slice x1 m1 y1) (.slice x2 m2 y2) f ∧ Keep No w ((wr.setCell ⟨w.heap.size, 0, none⟩ (.slice x1 m1 y1)).setCell ⟨w.heap.size, 1, none⟩ (.slice x2 m2 y2)).drew := hgd.done
        have yy : ((wr.setCell ⟨w.heap.size, 0, none⟩ (.slice x1 m1 y1)).setCell ⟨w.heap.size, 1, none⟩ (.slice x2 m2 y2)).drew.heap[w.heap.size]? = some (.cells #[.slice x1 m1 y1, .slice x2 m2 y2] 36 (0, 0)) := blk_two hgd.g0 (.slice x1 m1 y1) (.slice x2 m2 y2)
        have s2 := blk_cell yy
        generalize ((wr.setCell ⟨w.heap.size, 0, none⟩ (.slice x1 m1 y1)).setCell ⟨w.heap.size, 1, none⟩ (.slice x2 m2 y2)).drew = wf at *
        clear c0 c1 c2 c3 c4 q0 g0
        go_wp2_with fail
        have s0 := s2 0
        have s1 := s2 1
        simp at s0 s1
        refine bodyPost_ret (v := .tuple #[.agg #[.slice x1 m1 y1, .slice x2 m2 y2], .int .i64 r.at', .int .i64 0]) (by simp [results, Tryz.results86, go_sem, s0, s1]) rfl ?_
        rw [HES.out]
        exact ⟨_, _, _, _, _, _, rfl, hfin.1, hfin.2⟩
    · have hes := HR.out.1.endBad he
      have HES := Lib.hid hes
      have d1 : (r.err == 0) = false := by simpa using he
      have d2 : (r.err != 0) = true := by simpa using he
      have g0 := blk_cell hG.g0
      have z0 := blk_fro hG.g0
      clear hes he hG HR
      by_cases hlt : k < n
      · have j1 : (k : Int) < n := by omega
        clear hlt hk
        go_wp2_with fail
        refine wp_region_canw [0, 1, 2, 3, 4, 5, 6, 7] [5] [(1, 5), (2, 5), (3, 5), (4, 5)] (by kernel_rfl) (by kernel_rfl) (by kernel_rfl) (by kernel_rfl) (by intro c a d v w h; cases d <;> exact h) ?_
        iterate 5 (refine canw_sil rfl rfl (fun K hK => ?_); go_simp; refine hK _ ?_; clear hK K)
        refine canw_loud [1, 2, 3, 4] rfl rfl rfl (fun K hK => ?_)
        go_wp2_with fail
        refine Mid.normal (hK _ _ ?_ ?_)
        · simp only [List.forall_mem_cons]
          refine ⟨?_, ?_, ?_, ?_, stabs_nil⟩ <;> exact stab_of rfl (fun K hK => by go_simp; exact hK)
        clear hK K
        iterate 2 (refine canw_sil rfl rfl (fun K hK => ?_); go_simp; refine hK _ ?_; clear hK K)
        refine canw_nil ?_
        have hgd : GetAt 142 w w.heap.size B F (F + 1) Sr vr b wr.drew r u v f := HG.out.drewN 1
        have hk1 := hgd.keep
        have hk1 : Keep No w ((wr.setCell ⟨w.heap.size, 0, none⟩ (.slice none 0 0)).setCell ⟨w.heap.size, 1, none⟩ (.slice none 0 0)).drew := hgd.keep.setNew2 hgd.gw (.slice none 0 0) (.slice none 0 0)
        have yy : ((wr.setCell ⟨w.heap.size, 0, none⟩ (.slice none 0 0)).setCell ⟨w.heap.size, 1, none⟩ (.slice none 0 0)).drew.heap[w.heap.size]? = some (.cells #[.slice none 0 0, .slice none 0 0] 36 (0, 0)) := blk_two hgd.g0 (.slice none 0 0) (.slice none 0 0)
        have s2 := blk_cell yy
        generalize ((wr.setCell ⟨w.heap.size, 0, none⟩ (.slice none 0 0)).setCell ⟨w.heap.size, 1, none⟩ (.slice none 0 0)).drew = wf at *
        clear c0 c1 c2 c3 c4 g0
        go_wp2_with fail
        have s0 := s2 0
        have s1 := s2 1
        simp at s0 s1
        refine bodyPost_ret (v := .tuple #[.agg #[.slice none 0 0, .slice none 0 0], .int .i64 0, .int .i64 r.err]) (by simp [results, Tryz.results86, go_sem, s0, s1]) rfl ?_
        rw [HES.out]
        exact ⟨_, _, _, _, _, _, rfl, ⟨OwnT.nil' hk1, OwnT.nil' hk1⟩, hk1⟩
      · have j1 : ¬ (k : Int) < n := by omega
        clear hlt hk
        go_wp2_with fail
        refine wp_region_canw [0, 1, 2, 3, 4, 5, 6, 7] [5] [(1, 5), (2, 5), (3, 5), (4, 5)] (by kernel_rfl) (by kernel_rfl) (by kernel_rfl) (by kernel_rfl) (by intro c a d v w h; cases d <;> exact h) ?_
        iterate 5 (refine canw_sil rfl rfl (fun K hK => ?_); go_simp; refine hK _ ?_; clear hK K)
        refine canw_loud [1, 2, 3, 4] rfl rfl rfl (fun K hK => ?_)
        go_wp2_with fail
        refine Mid.normal (hK _ _ ?_ ?_)
        · simp only [List.forall_mem_cons]
          refine ⟨?_, ?_, ?_, ?_, stabs_nil⟩ <;> exact stab_of rfl (fun K hK => by go_simp; exact hK)
        clear hK K
        iterate 2 (refine canw_sil rfl rfl (fun K hK => ?_); go_simp; refine hK _ ?_; clear hK K)
        refine canw_nil ?_
        have hgd : GetAt 142 w w.heap.size B F (F + 1) Sr vr b wr.drew r u v f := HG.out.drewN 1
        have hk1 := hgd.keep
        have hk1 : Keep No w ((wr.setCell ⟨w.heap.size, 0, none⟩ (.slice none 0 0)).setCell ⟨w.heap.size, 1, none⟩ (.slice none 0 0)).drew := hgd.keep.setNew2 hgd.gw (.slice none 0 0) (.slice none 0 0)
        have yy : ((wr.setCell ⟨w.heap.size, 0, none⟩ (.slice none 0 0)).setCell ⟨w.heap.size, 1, none⟩ (.slice none 0 0)).drew.heap[w.heap.size]? = some (.cells #[.slice none 0 0, .slice none 0 0] 36 (0, 0)) := blk_two hgd.g0 (.slice none 0 0) (.slice none 0 0)
        have s2 := blk_cell yy
        generalize ((wr.setCell ⟨w.heap.size, 0, none⟩ (.slice none 0 0)).setCell ⟨w.heap.size, 1, none⟩ (.slice none 0 0)).drew = wf at *
        clear c0 c1 c2 c3 c4 g0
        go_wp2_with fail
        have s0 := s2 0
        have s1 := s2 1
        simp at s0 s1
        refine bodyPost_ret (v := .tuple #[.agg #[.slice none 0 0, .slice none 0 0], .int .i64 0, .int .i64 r.err]) (by simp [results, Tryz.results86, go_sem, s0, s1]) rfl ?_
        rw [HES.out]
        exact ⟨_, _, _, _, _, _, rfl, ⟨OwnT.nil' hk1, OwnT.nil' hk1⟩, hk1⟩
end Go.Proofs.YtnknihmchmmenaaGreat
