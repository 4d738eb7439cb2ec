/-
  Parts of what is proved for this claim; each declaration is one of the seat's texts.
-/
import Derived.Test.YtpjcebajkfeacaaGreatDoorBGA
import Derived.Test.YtpjcebajkfeacaaGreatDoorBGC
import Derived.Test.YtpjcebajkfeacaaGreatDoorBGI
import Derived.Test.YtpjcebajkfeacaaGreatDoorBGK
import Derived.Test.YtpjcebajkfeacaaGreatDoorBGU
import Derived.Still
import Derived.StillTactics
import Derived.WalkKit
import Derived.Recover
import Derived.Defers
import Derived.Deep.QuietTactic
import Derived.BigQuiet
import Derived.Handy
import Derived.Laws.Bits64b
import Derived.Lib.Zigzag
import Derived.OwnWalk
import Derived.Deep.DeepCutAuto
import Derived.Lib.Bytealg
import Derived.Laws.Externs
import Derived.Deep.LoopGhost
set_option linter.unusedVariables false
set_option linter.unusedSimpArgs false
namespace Go.Proofs.YtpjcebajkfeacaaGreatDoor
open Go Go.RowKit Go.Deep
set_option maxRecDepth 10000 in
set_option maxHeartbeats 4000000 in
theorem rName_any (s : ByteArray) (hs : s.size ≤ 9223372036854775806) (w : World) : Calls Tryz.prog 67 #[.string s] w fun e w' => e = .returned (.bool (nameOk s)) ∧ w' = w := by
  have hbl := bytesOf_length s
  go_enter Tryz.func67, Tryz.ntmps67
  go_wp2_with fail
  go_loopg [3] s.size (fun g i wr => ∃ k : Nat, k ≤ s.size ∧ g = s.size - k ∧ i = .int .i64 k ∧ wr = w ∧ RowKit.Hid (nameTo s k))
  case atStart => exact ⟨0, by omega, by omega, rfl, rfl, fun _ _ h => absurd h (Nat.not_lt_zero _)⟩
  case round =>
    obtain ⟨k, hk, rfl, rfl, rfl, HN⟩ := hrel
    by_cases hlt : k < s.size
    · have j1 : (k : Int) < s.size := by omega
      have j0 : (0 : Int) ≤ k := by omega
      have j3 : (k : Int) ≤ 9223372036854775805 := by omega
      have hl : k < (bytesOf s).length := by omega
      have hg := bytesOf_get s k hl hlt
      have hr := bytesOf_allB s _ (List.getElem_mem hl)
      have hyes := fun h => nameTo_succ HN.out hl h
      have hno := fun h => nameOk_bad s k hl h
      rw [hg] at hr hyes hno
      generalize hc : (s[k].toNat : Int) = c at hr hyes hno
      have HS := Lib.hid (And.intro hk (And.intro hlt (And.intro hyes hno)))
      have HC := Lib.hid hc
      clear hg hl hs hyes hno hbl hk
      obtain ⟨bad, hbad⟩ : ∃ bad : Bool, bad = nameBad k c := ⟨_, rfl⟩
      have HBD := Lib.hid hbad
      clear hbad
      obtain ⟨lt, hlt'⟩ : ∃ lt : Bool, lt = decide (97 ≤ c ∧ c ≤ 122) := ⟨_, rfl⟩
      have HLT := Lib.hid hlt'
      clear hlt'
      go_upto_region 5 with fail
      go_cut [5] (fun l wx => l = .bool lt ∧ wx = wr)
      case first =>
        go_wp2_with fail
        all_goals
          go_meet
          case rel => exact ⟨by rw [HLT.out]; congr 1; rw [Bool.eq_iff_iff]; simp <;> omega, rfl⟩
      case rest =>
        obtain ⟨rfl, rfl⟩ := hcut
        go_upto_region 6 with fail
        go_cut [38] (fun l wx => l = .bool bad ∧ wx = wc)
        case first =>
          cases lt with
          | true =>
            go_wp2_with fail
            go_meet
            case rel => exact ⟨by have h := of_decide_eq_true HLT.out.symm; rw [HBD.out]; congr 1; rw [Bool.eq_iff_iff]; simp [nameBad] <;> omega, rfl⟩
          | false =>
            by_cases hz : k = 0
            · subst hz
              have e0 : ((0 : Nat) : Int) = 0 := rfl
              rw [e0]
              go_wp2_with fail
              go_meet
              case rel => exact ⟨by have h := of_decide_eq_false HLT.out.symm; rw [HBD.out]; congr 1; rw [Bool.eq_iff_iff]; simp [nameBad] <;> omega, rfl⟩
            · have hz' : ((k : Int) == 0) = false := by simpa using hz
              have HZ := Lib.hid hz
              clear hz
              by_cases h95 : c = 95
              · subst h95
                go_wp2_with fail
                all_goals
                  go_meet
                  case rel => exact ⟨by rw [HBD.out]; have := HZ.out; congr 1; rw [Bool.eq_iff_iff]; simp [nameBad] <;> omega, rfl⟩
              · have h95' : (c != 95) = true := by simpa using h95
                have H95 := Lib.hid h95
                clear h95
                go_wp2_with fail
                all_goals
                  go_meet
                  case rel => exact ⟨by have h := of_decide_eq_false HLT.out.symm; rw [HBD.out]; have := HZ.out; have := H95.out; congr 1; rw [Bool.eq_iff_iff]; simp [nameBad] <;> omega, rfl⟩
        case rest =>
          obtain ⟨rfl, rfl⟩ := hcut
          cases bad with
          | true =>
            go_wp2_with fail
            go_ret
            have := HS.out.2.2.2 HBD.out.symm
            rw [this]
            exact ⟨rfl, by first | rfl | trivial⟩
          | false =>
            go_wp2_with fail
            go_roundg (s.size - (k + 1))
            case measure => have := HS.out.2.1; omega
            case rel => exact ⟨k + 1, by have := HS.out.2.1; omega, rfl, by simp, by first | rfl | trivial, HS.out.2.2.1 HBD.out.symm⟩
    · have hke : k = s.size := by omega
      have j1 : ¬ (k : Int) < s.size := by omega
      have hres := nameOk_good s (by rw [hbl, ← hke]; exact HN.out)
      by_cases h1 : 1 ≤ s.size
      · by_cases h16 : s.size ≤ 16
        · have e : nameOk s = true := by rw [hres, decide_eq_true h1, decide_eq_true h16]; rfl
          have HE := Lib.hid e
          have i1 : (1 : Int) ≤ s.size := by omega
          have i2 : (s.size : Int) ≤ 16 := by omega
          clear e hres hbl hlt hk hke h1 h16
          go_wp2_with fail
          go_ret
          rw [HE.out]
          exact ⟨rfl, by first | rfl | trivial⟩
        · have e : nameOk s = false := by rw [hres, decide_eq_false h16, Bool.and_false]
          have HE := Lib.hid e
          have i1 : (1 : Int) ≤ s.size := by omega
          have i2 : ¬ (s.size : Int) ≤ 16 := by omega
          clear e hres hbl hlt hk hke h1 h16
          go_wp2_with fail
          go_ret
          rw [HE.out]
          exact ⟨rfl, by first | rfl | trivial⟩
      · have e : nameOk s = false := by rw [hres, decide_eq_false h1, Bool.false_and]
        have HE := Lib.hid e
        have i1 : ¬ (1 : Int) ≤ s.size := by omega
        clear e hres hbl hlt hk hke h1
        go_wp2_with fail
        go_ret
        rw [HE.out]
        exact ⟨rfl, by first | rfl | trivial⟩
end Go.Proofs.YtpjcebajkfeacaaGreatDoor
namespace Go.Proofs.YtpjcebajkfeacaaGreatDoor
open Go Go.RowKit Go.Deep
theorem bytes_ne {a b : ByteArray} (h : a ≠ b) : (a.toList == b.toList) = false := by
  rw [← beq_toListBytes]
  have : (a == b) = (a.data == b.data) := rfl
  rw [this]
  simp
  intro h2
  exact h (by cases a; cases b; simp_all)
theorem run_neq_value (w : World) (x y : valueSh.T) : (binOp .neq 96 (.agg #[.int .i64 x.1, .int .i64 x.2.1, .string x.2.2.1]) (.agg #[.int .i64 y.1, .int .i64 y.2.1, .string y.2.2.1])).run Tryz.prog w = .ok (.bool (decide (x ≠ y))) w := by
  obtain ⟨x1, x2, x3, ⟨⟩⟩ := x
  obtain ⟨y1, y2, y3, ⟨⟩⟩ := y
  by_cases h1 : x1 = y1
  · subst h1
    by_cases h2 : x2 = y2
    · subst h2
      by_cases h3 : x3 = y3
      · subst h3
        go_simp
      · have e := bytes_ne h3
        go_simp
    · have e : (x2 == y2) = false := by simpa using h2
      go_simp
  · have e : (x1 == y1) = false := by simpa using h1
    go_simp
def Req.eqb (q r : Req) : Bool := decide (q.client = r.client) && decide (q.token = r.token) && decide (q.name = r.name) && decide (q.args = r.args)
theorem Req.eqb_iff (q r : Req) : q.eqb r = true ↔ q = r := by
  obtain ⟨a, b, c, d, ⟨⟩⟩ := q
  obtain ⟨a', b', c', d', ⟨⟩⟩ := r
  simp only [Req.eqb, Req.client, Req.token, Req.name, Req.args, Bool.and_eq_true, decide_eq_true_eq, Prod.mk.injEq, and_true, and_assoc]
set_option maxRecDepth 10000 in
set_option maxHeartbeats 2000000 in
theorem rrqEqual_any (w : World) (S T : Nat → Prop) (cs ds : List Value) (q r : Req) (h : Rd requestSh w S cs q) (h' : Rd requestSh w T ds r) :
    Calls Tryz.prog 20 #[.agg cs.toArray, .agg ds.toArray] w (Says w (q.eqb r)) := by
  obtain ⟨a, c, rfl, h4, -⟩ := req_cells h
  obtain ⟨a', c', rfl, h4', -⟩ := req_cells h'
  clear h h'
  have K2 : Keep No w ((w.alloc (.cells #[.int .i64 q.client, .int .u64 q.token, .string q.name, .slice a q.args.length c] 29)).alloc (.cells #[.int .i64 r.client, .int .u64 r.token, .string r.name, .slice a' r.args.length c'] 29)) := ((Keep.refl No w).alloc _).alloc _
  have x1 := blk_alloc (o' := .cells #[.int .i64 r.client, .int .u64 r.token, .string r.name, .slice a' r.args.length c'] 29) (blk_new w (.cells #[.int .i64 q.client, .int .u64 q.token, .string q.name, .slice a q.args.length c] 29))
  have x2 := blk_new (w.alloc (.cells #[.int .i64 q.client, .int .u64 q.token, .string q.name, .slice a q.args.length c] 29)) (.cells #[.int .i64 r.client, .int .u64 r.token, .string r.name, .slice a' r.args.length c'] 29)
  simp only [World.size_alloc] at x2
  have g4 := h4.agree _ K2.agreeNo
  have g4' := h4'.agree _ K2.agreeNo
  have HG := Lib.hid (And.intro K2 (And.intro x1 (And.intro x2 (And.intro g4 g4'))))
  have he : q.eqb r = (decide (q.client = r.client) && decide (q.token = r.token) && decide (q.name = r.name) && decide (q.args = r.args)) := rfl
  rw [he]
  clear he K2 x1 x2 g4 g4' h4 h4'
  generalize q.client = v1 at *
  generalize q.token = v2 at *
  generalize q.name = v3 at *
  generalize r.client = u1 at *
  generalize r.token = u2 at *
  generalize r.name = u3 at *
  generalize q.args = l at *
  generalize r.args = m at *
  obtain ⟨res, hres⟩ : ∃ res : Bool, res = (decide (v1 = u1) && decide (v2 = u2) && decide (v3 = u3) && decide (l = m)) := ⟨_, rfl⟩
  rw [← hres]
  have HR := Lib.hid hres
  clear hres
  by_cases e1 : v1 = u1
  · subst e1
    by_cases e2 : v2 = u2
    · subst e2
      by_cases e3 : v3 = u3
      · subst e3
        by_cases e4 : l.length = m.length
        · have b4 : ((l.length : Int) != (m.length : Int)) = false := by simp; exact_mod_cast e4
          have HE := Lib.hid e4
          clear e4
          go_enter Tryz.func20, Tryz.ntmps20
          go_wp2_with fail
          generalize ((w.alloc (.cells #[.int .i64 v1, .int .u64 v2, .string v3, .slice a l.length c] 29)).alloc (.cells #[.int .i64 v1, .int .u64 v2, .string v3, .slice a' m.length c'] 29)) = W at *
          have q1 := blk_cell HG.out.2.1
          have q2 := blk_cell HG.out.2.2.1
          go_loopw [5] (fun i wr => ∃ k n : Nat, k ≤ l.length ∧ i = .int .i64 k ∧ wr = W.drewN n ∧ RowKit.Hid (l.take k = m.take k)) (fun i _ => l.length - (intOf i).toNat)
          case atStart => exact ⟨0, 0, by omega, rfl, rfl, (by show l.take 0 = m.take 0; simp)⟩
          case round =>
            obtain ⟨k, n, hk, rfl, rfl, ha⟩ := hrel
            by_cases hlt : k < l.length
            · have hlm : k < m.length := by have := HE.out; omega
              have j1 : (k : Int) < l.length := by omega
              have j2 : (k : Int) < m.length := by omega
              have j0 : (0 : Int) ≤ k := by omega
              have j3 : (k : Int) ≤ 9223372036854775806 := by have := (vals_len HG.out.2.2.2.1).2; omega
              obtain ⟨b, off, rfl, -, -, r0, r1, r2, -⟩ := vals_get HG.out.2.2.2.1 k hlt
              obtain ⟨b', off', rfl, -, -, s0, s1, s2, -⟩ := vals_get HG.out.2.2.2.2 k hlm
              have hq := fun w => run_neq_value w l[k] m[k]
              have hn1 : l[k] = m[k] → l.take (k + 1) = m.take (k + 1) := fun e => by
                rw [List.take_succ_eq_append_getElem hlt, List.take_succ_eq_append_getElem hlm, ha.out, e]
              have hn2 : l[k] ≠ m[k] → l ≠ m := fun e hh => e (by subst hh; rfl)
              have HX := Lib.hid (And.intro hlt (And.intro hn1 hn2))
              obtain ⟨ne, hne⟩ : ∃ ne : Bool, ne = decide (l[k] ≠ m[k]) := ⟨_, rfl⟩
              rw [← hne] at hq
              have HNE := Lib.hid hne
              clear hne hn1 hn2 hk
              have e1 : l[k].1 = l[k].kind := rfl
              have e2 : l[k].2.1 = l[k].num := rfl
              have e3 : l[k].2.2.1 = l[k].text := rfl
              have e4 : m[k].1 = m[k].kind := rfl
              have e5 : m[k].2.1 = m[k].num := rfl
              have e6 : m[k].2.2.1 = m[k].text := rfl
              rw [e1, e2, e3, e4, e5, e6] at hq
              generalize l[k].kind = y1 at *
              generalize l[k].num = y2 at *
              generalize l[k].text = y3 at *
              generalize m[k].kind = z1 at *
              generalize m[k].num = z2 at *
              generalize m[k].text = z3 at *
              clear e1 e2 e3 e4 e5 e6
              cases ne with
              | false =>
                go_wp2_with fail
                go_quiet (fail)
                go_wp2_with fail
                go_roundw
                case rel => exact ⟨k + 1, _, by have := HX.out.1; omega, by simp, by first | rfl | trivial, HX.out.2.1 (by have := HNE.out; simpa using this)⟩
                case measure => simp [intOf]; have := HX.out.1; omega
              | true =>
                go_wp2_with fail
                go_quiet (fail)
                go_wp2_with fail
                go_ret
                have h5 : l ≠ m := HX.out.2.2 (of_decide_eq_true HNE.out.symm)
                rw [HR.out, decide_eq_false h5, Bool.and_false]
                exact ⟨rfl, by simpa using HG.out.1.drewN _⟩
            · obtain rfl : k = l.length := by omega
              have h5 : l = m := by
                have h6 := ha.out
                rw [List.take_length, HE.out, List.take_length] at h6
                exact h6
              have H5 := Lib.hid h5
              clear h5 hk hlt ha
              go_wp2_with fail
              go_ret
              rw [HR.out, decide_eq_true H5.out]
              exact ⟨by simp, by simpa using HG.out.1.drewN _⟩
        · have b4 : ((l.length : Int) != (m.length : Int)) = true := by simp; exact_mod_cast e4
          have h5 : l ≠ m := fun hh => e4 (by rw [hh])
          have H5 := Lib.hid h5
          clear e4 h5
          go_enter Tryz.func20, Tryz.ntmps20
          go_wp2_with fail
          go_ret
          rw [HR.out, decide_eq_false H5.out, Bool.and_false]
          exact ⟨rfl, HG.out.1⟩
      · have b3 : (v3.toList == u3.toList) = false := bytes_ne e3
        have H5 := Lib.hid e3
        clear e3
        go_enter Tryz.func20, Tryz.ntmps20
        go_wp2_with fail
        go_ret
        rw [HR.out, decide_eq_false H5.out, Bool.and_false, Bool.false_and]
        exact ⟨rfl, HG.out.1⟩
    · have b2 : (v2 != u2) = true := by simpa using e2
      have H5 := Lib.hid e2
      clear e2
      go_enter Tryz.func20, Tryz.ntmps20
      go_wp2_with fail
      go_ret
      rw [HR.out, decide_eq_false H5.out, Bool.and_false, Bool.false_and, Bool.false_and]
      exact ⟨rfl, HG.out.1⟩
  · have b1 : (v1 != u1) = true := by simpa using e1
    have H5 := Lib.hid e1
    clear e1
    go_enter Tryz.func20, Tryz.ntmps20
    go_wp2_with fail
    go_ret
    rw [HR.out, decide_eq_false H5.out, Bool.false_and, Bool.false_and, Bool.false_and]
    exact ⟨rfl, HG.out.1⟩
end Go.Proofs.YtpjcebajkfeacaaGreatDoor
namespace Go.Proofs.YtpjcebajkfeacaaGreatDoor
open Go Go.RowKit Go.Deep
set_option maxRecDepth 10000 in
set_option maxHeartbeats 2000000 in
theorem EqualV_any (w : World) (S T : Nat → Prop) (a a' : Option Addr) (c c' : Nat) (l m : List Val) (h : Rd (.slice valueSh) w S [.slice a l.length c] l) (h' : Rd (.slice valueSh) w T [.slice a' m.length c'] m) :
    Calls Tryz.prog 70 #[.slice a l.length c, .slice a' m.length c'] w (Looks w (.bool (decide (l = m)))) := by
  have HG := Lib.hid (And.intro h h')
  clear h h'
  obtain ⟨res, hres⟩ : ∃ res : Bool, res = decide (l = m) := ⟨_, rfl⟩
  rw [← hres]
  have HR := Lib.hid hres
  clear hres
  by_cases hlen : l.length = m.length
  · have e0 : ((l.length : Int) != (m.length : Int)) = false := by simp; exact_mod_cast hlen
    have HE := Lib.hid hlen
    clear hlen
    go_enter Tryz.func70, Tryz.ntmps70
    go_wp2_with fail
    go_loopw [13] (fun i wr => ∃ k n : Nat, k ≤ l.length ∧ i = .int .i64 k ∧ wr = w.drewN n ∧ RowKit.Hid (l.take k = m.take k)) (fun i _ => l.length - (intOf i).toNat)
    case atStart => exact ⟨0, 0, by omega, rfl, rfl, (by show l.take 0 = m.take 0; simp)⟩
    case round =>
      obtain ⟨k, n, hk, rfl, rfl, ha⟩ := hrel
      by_cases hlt : k < l.length
      · have hlm : k < m.length := by have := HE.out; omega
        have j1 : (k : Int) < l.length := by omega
        have j2 : (k : Int) < m.length := by omega
        have j0 : (0 : Int) ≤ k := by omega
        have j3 : (k : Int) ≤ 9223372036854775806 := by have := (vals_len HG.out.1).2; omega
        obtain ⟨b, off, rfl, -, -, r0, r1, r2, -⟩ := vals_get HG.out.1 k hlt
        obtain ⟨b', off', rfl, -, -, s0, s1, s2, -⟩ := vals_get HG.out.2 k hlm
        have hq := fun w => run_neq_value w l[k] m[k]
        have hn1 : l[k] = m[k] → l.take (k + 1) = m.take (k + 1) := fun e => by
          rw [List.take_succ_eq_append_getElem hlt, List.take_succ_eq_append_getElem hlm, ha.out, e]
        have hn2 : l[k] ≠ m[k] → l ≠ m := fun e hh => e (by subst hh; rfl)
        have HX := Lib.hid (And.intro hlt (And.intro hn1 hn2))
        obtain ⟨ne, hne⟩ : ∃ ne : Bool, ne = decide (l[k] ≠ m[k]) := ⟨_, rfl⟩
        rw [← hne] at hq
        have HNE := Lib.hid hne
        clear hne hn1 hn2 hk
        have e1 : l[k].1 = l[k].kind := rfl
        have e2 : l[k].2.1 = l[k].num := rfl
        have e3 : l[k].2.2.1 = l[k].text := rfl
        have e4 : m[k].1 = m[k].kind := rfl
        have e5 : m[k].2.1 = m[k].num := rfl
        have e6 : m[k].2.2.1 = m[k].text := rfl
        rw [e1, e2, e3, e4, e5, e6] at hq
        generalize l[k].kind = y1 at *
        generalize l[k].num = y2 at *
        generalize l[k].text = y3 at *
        generalize m[k].kind = z1 at *
        generalize m[k].num = z2 at *
        generalize m[k].text = z3 at *
        clear e1 e2 e3 e4 e5 e6
        cases ne with
        | false =>
          go_wp2_with fail
          go_quiet (fail)
          go_wp2_with fail
          go_roundw
          case rel => exact ⟨k + 1, _, by have := HX.out.1; omega, by simp, by first | rfl | trivial, HX.out.2.1 (by have := HNE.out; simpa using this)⟩
          case measure => simp [intOf]; have := HX.out.1; omega
        | true =>
          go_wp2_with fail
          go_quiet (fail)
          go_wp2_with fail
          go_ret
          have h5 : l ≠ m := HX.out.2.2 (of_decide_eq_true HNE.out.symm)
          rw [HR.out, decide_eq_false h5]
          exact ⟨n + _, rfl, by first | rfl | (simp; rfl) | simp⟩
      · obtain rfl : k = l.length := by omega
        have h5 : l = m := by
          have h6 := ha.out
          rw [List.take_length, HE.out, List.take_length] at h6
          exact h6
        have H5 := Lib.hid h5
        clear h5 hk hlt ha
        go_wp2_with fail
        go_ret
        rw [HR.out, decide_eq_true H5.out]
        exact ⟨_, rfl, rfl⟩
  · have e0 : ((l.length : Int) != (m.length : Int)) = true := by simp; exact_mod_cast hlen
    have hne : ¬ l = m := fun hh => hlen (by rw [hh])
    have HN := Lib.hid hne
    clear hne hlen
    go_enter Tryz.func70, Tryz.ntmps70
    go_wp2_with fail
    go_ret
    rw [HR.out, decide_eq_false HN.out]
    exact ⟨0, rfl, rfl⟩
set_option maxRecDepth 10000 in
set_option maxHeartbeats 2000000 in
theorem rqEqual_any (w : World) (S T : Nat → Prop) (cs ds : List Value) (q r : Req) (h : Rd requestSh w S cs q) (h' : Rd requestSh w T ds r) :
    Calls Tryz.prog 21 #[.agg cs.toArray, .agg ds.toArray] w (Says w (q.eqb r)) := by
  obtain ⟨a, c, rfl, h4, -⟩ := req_cells h
  obtain ⟨a', c', rfl, h4', -⟩ := req_cells h'
  clear h h'
  have K2 : Keep No w ((w.alloc (.cells #[.int .i64 q.client, .int .u64 q.token, .string q.name, .slice a q.args.length c] 29)).alloc (.cells #[.int .i64 r.client, .int .u64 r.token, .string r.name, .slice a' r.args.length c'] 29)) := ((Keep.refl No w).alloc _).alloc _
  have hv := (EqualV_any _ S T a a' c c' q.args r.args (h4.agree _ K2.agreeNo) (h4'.agree _ K2.agreeNo)).mono (R' := fun e w3 => e = .returned (.bool (decide (q.args = r.args))) ∧ RowKit.Hid (Keep No w w3)) (by
    rintro e w3 ⟨n, rfl, rfl⟩
    exact ⟨rfl, K2.drewN n⟩)
  have HG := Lib.hid K2
  have he : q.eqb r = (decide (q.client = r.client) && decide (q.token = r.token) && decide (q.name = r.name) && decide (q.args = r.args)) := rfl
  rw [he]
  clear he K2 h4 h4'
  generalize decide (q.args = r.args) = d4 at *
  generalize q.client = v1 at *
  generalize q.token = v2 at *
  generalize q.name = v3 at *
  generalize r.client = u1 at *
  generalize r.token = u2 at *
  generalize r.name = u3 at *
  generalize q.args.length = m1 at *
  generalize r.args.length = m2 at *
  obtain ⟨res, hres⟩ : ∃ res : Bool, res = (decide (v1 = u1) && decide (v2 = u2) && decide (v3 = u3) && d4) := ⟨_, rfl⟩
  rw [← hres]
  have HR := Lib.hid hres
  clear hres
  by_cases e1 : v1 = u1
  · subst e1
    by_cases e2 : v2 = u2
    · subst e2
      by_cases e3 : v3 = u3
      · subst e3
        go_enter Tryz.func21, Tryz.ntmps21
        go_wp2_with (go_at_call 70; refine hv.mono ?_; clear hv; rintro e w3 ⟨rfl, HK3⟩)
        go_ret
        rw [HR.out]
        exact ⟨by simp, HK3.out⟩
      · have b3 : (v3.toList == u3.toList) = false := bytes_ne e3
        have H5 := Lib.hid e3
        clear e3 hv
        go_enter Tryz.func21, Tryz.ntmps21
        go_wp2_with fail
        go_ret
        rw [HR.out, decide_eq_false H5.out]
        exact ⟨by simp, HG.out⟩
    · have b2 : (v2 == u2) = false := by simpa using e2
      have H5 := Lib.hid e2
      clear e2 hv
      go_enter Tryz.func21, Tryz.ntmps21
      go_wp2_with fail
      go_ret
      rw [HR.out, decide_eq_false H5.out]
      exact ⟨by simp, HG.out⟩
  · have b1 : (v1 == u1) = false := by simpa using e1
    have H5 := Lib.hid e1
    clear e1 hv
    go_enter Tryz.func21, Tryz.ntmps21
    go_wp2_with fail
    go_ret
    rw [HR.out, decide_eq_false H5.out]
    exact ⟨by simp, HG.out⟩
end Go.Proofs.YtpjcebajkfeacaaGreatDoor
