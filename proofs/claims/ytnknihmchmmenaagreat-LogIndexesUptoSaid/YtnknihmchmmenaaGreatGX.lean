/-
  The document's requests: Name, given, Check.
  The document's requests: Put.
  The document's seqlog: Right.
-/
import Derived.Test.YtnknihmchmmenaaGreatGA
import Derived.Test.YtnknihmchmmenaaGreatGB
import Derived.Test.YtnknihmchmmenaaGreatGC
import Derived.Test.YtnknihmchmmenaaGreatGD
import Derived.Test.YtnknihmchmmenaaGreatGF
import Derived.Test.YtnknihmchmmenaaGreatGJ
import Derived.Test.YtnknihmchmmenaaGreatGK
import Derived.Test.YtnknihmchmmenaaGreatGL
import Derived.Test.YtnknihmchmmenaaGreatGP
import Derived.Test.YtnknihmchmmenaaGreatGS
import Derived.Test.YtnknihmchmmenaaGreatGU
import Derived.Test.YtnknihmchmmenaaGreatGV
import Derived.Test.YtnknihmchmmenaaGreatGZ
import Derived.Still
import Derived.StillTactics
import Derived.WalkKit
import Derived.WalkSpells
import Derived.WalkLawsBesides
import Derived.ProofKit
import Derived.Deep.Slices
import Derived.Deep.AppendSrc
import Derived.Lib.Hide
import Derived.Recover
import Derived.Defers
import Derived.Deep.QuietTactic
import Derived.BigQuiet
import Derived.Handy
import Derived.Laws.Bits64b
import Derived.Lib.Zigzag
import Derived.OwnWalk
import Derived.Deep.DeepCutAuto
import Derived.Lib.Bytealg
import Derived.Laws.Externs
import Derived.Deep.LoopGhost
import Derived.Laws.CopyRow
import Derived.Laws.IdiomCopy
import Derived.Maps.OwnSet
import Derived.Maps.RangeWalk
import Derived.Shelf.SortM.Plain
import Derived.Shelf.SortM.SortNone
import Derived.Ground.SlgmProg
import Derived.Maps.OwnOps
namespace Go.Proofs.YtnknihmchmmenaaGreat
set_option linter.unusedVariables false
set_option linter.unusedSimpArgs false
open Go Go.RowKit Go.Deep

set_option maxRecDepth 10000 in
set_option maxHeartbeats 4000000 in
theorem rName_any (s : ByteArray) (hs : s.size ≤ 9223372036854775806) (w : World) : Calls Tryz.prog 132 #[.string s] w fun e w' => e = .returned (.bool (nameOk s)) ∧ w' = w := by
  have hbl := bytesOf_length s
  go_enter Tryz.func132, Tryz.ntmps132
  go_wp2_with fail
  go_loopg [3] s.size (fun g i wr => ∃ k : Nat, k ≤ s.size ∧ g = s.size - k ∧ i = .int .i64 k ∧ wr = w ∧ RowKit.Hid (nameTo s k))
  case atStart => exact ⟨0, by omega, by omega, rfl, rfl, fun _ _ h => absurd h (Nat.not_lt_zero _)⟩
  case round =>
    obtain ⟨k, hk, rfl, rfl, rfl, HN⟩ := hrel
    by_cases hlt : k < s.size
    · have j1 : (k : Int) < s.size := by omega
      have j0 : (0 : Int) ≤ k := by omega
      have j3 : (k : Int) ≤ 9223372036854775805 := by omega
      have hl : k < (bytesOf s).length := by omega
      have hg := bytesOf_get s k hl hlt
      have hr := bytesOf_allB s _ (List.getElem_mem hl)
      have hyes := fun h => nameTo_succ HN.out hl h
      have hno := fun h => nameOk_bad s k hl h
      rw [hg] at hr hyes hno
      generalize hc : (s[k].toNat : Int) = c at hr hyes hno
      have HS := Lib.hid (And.intro hk (And.intro hlt (And.intro hyes hno)))
      have HC := Lib.hid hc
      clear hg hl hs hyes hno hbl hk
      obtain ⟨bad, hbad⟩ : ∃ bad : Bool, bad = nameBad k c := ⟨_, rfl⟩
      have HBD := Lib.hid hbad
      clear hbad
      obtain ⟨lt, hlt'⟩ : ∃ lt : Bool, lt = decide (97 ≤ c ∧ c ≤ 122) := ⟨_, rfl⟩
      have HLT := Lib.hid hlt'
      clear hlt'
      go_upto_region 5 with fail
      go_cut [5] (fun l wx => l = .bool lt ∧ wx = wr)
      case first =>
        go_wp2_with fail
        all_goals
          go_meet
          case rel => exact ⟨by rw [HLT.out]; congr 1; rw [Bool.eq_iff_iff]; simp <;> omega, rfl⟩
      case rest =>
        obtain ⟨rfl, rfl⟩ := hcut
        go_upto_region 6 with fail
        go_cut [38] (fun l wx => l = .bool bad ∧ wx = wc)
        case first =>
          cases lt with
          | true =>
            go_wp2_with fail
            go_meet
            case rel => exact ⟨by have h := of_decide_eq_true HLT.out.symm; rw [HBD.out]; congr 1; rw [Bool.eq_iff_iff]; simp [nameBad] <;> omega, rfl⟩
          | false =>
            by_cases hz : k = 0
            · subst hz
              have e0 : ((0 : Nat) : Int) = 0 := rfl
              rw [e0]
              go_wp2_with fail
              go_meet
              case rel => exact ⟨by have h := of_decide_eq_false HLT.out.symm; rw [HBD.out]; congr 1; rw [Bool.eq_iff_iff]; simp [nameBad] <;> omega, rfl⟩
            · have hz' : ((k : Int) == 0) = false := by simpa using hz
              have HZ := Lib.hid hz
              clear hz
              by_cases h95 : c = 95
              · subst h95
                go_wp2_with fail
                all_goals
                  go_meet
                  case rel => exact ⟨by rw [HBD.out]; have := HZ.out; congr 1; rw [Bool.eq_iff_iff]; simp [nameBad] <;> omega, rfl⟩
              · have h95' : (c != 95) = true := by simpa using h95
                have H95 := Lib.hid h95
                clear h95
                go_wp2_with fail
                all_goals
                  go_meet
                  case rel => exact ⟨by have h := of_decide_eq_false HLT.out.symm; rw [HBD.out]; have := HZ.out; have := H95.out; congr 1; rw [Bool.eq_iff_iff]; simp [nameBad] <;> omega, rfl⟩
        case rest =>
          obtain ⟨rfl, rfl⟩ := hcut
          cases bad with
          | true =>
            go_wp2_with fail
            go_ret
            have := HS.out.2.2.2 HBD.out.symm
            rw [this]
            exact ⟨rfl, by first | rfl | trivial⟩
          | false =>
            go_wp2_with fail
            go_roundg (s.size - (k + 1))
            case measure => have := HS.out.2.1; omega
            case rel => exact ⟨k + 1, by have := HS.out.2.1; omega, rfl, by simp, by first | rfl | trivial, HS.out.2.2.1 HBD.out.symm⟩
    · have hke : k = s.size := by omega
      have j1 : ¬ (k : Int) < s.size := by omega
      have hres := nameOk_good s (by rw [hbl, ← hke]; exact HN.out)
      by_cases h1 : 1 ≤ s.size
      · by_cases h16 : s.size ≤ 16
        · have e : nameOk s = true := by rw [hres, decide_eq_true h1, decide_eq_true h16]; rfl
          have HE := Lib.hid e
          have i1 : (1 : Int) ≤ s.size := by omega
          have i2 : (s.size : Int) ≤ 16 := by omega
          clear e hres hbl hlt hk hke h1 h16
          go_wp2_with fail
          go_ret
          rw [HE.out]
          exact ⟨rfl, by first | rfl | trivial⟩
        · have e : nameOk s = false := by rw [hres, decide_eq_false h16, Bool.and_false]
          have HE := Lib.hid e
          have i1 : (1 : Int) ≤ s.size := by omega
          have i2 : ¬ (s.size : Int) ≤ 16 := by omega
          clear e hres hbl hlt hk hke h1 h16
          go_wp2_with fail
          go_ret
          rw [HE.out]
          exact ⟨rfl, by first | rfl | trivial⟩
      · have e : nameOk s = false := by rw [hres, decide_eq_false h1, Bool.false_and]
        have HE := Lib.hid e
        have i1 : ¬ (1 : Int) ≤ s.size := by omega
        clear e hres hbl hlt hk hke h1
        go_wp2_with fail
        go_ret
        rw [HE.out]
        exact ⟨rfl, by first | rfl | trivial⟩

set_option maxRecDepth 10000 in
set_option maxHeartbeats 1000000 in
theorem rGiven_any (k n : Int) (t : ByteArray) (ht : t.size ≤ 9223372036854775807) (w : World) : Calls Tryz.prog 149 #[.agg #[.int .i64 k, .int .i64 n, .string t]] w (Says w (givenV (mkVal k n t))) := by
  have K1 : Keep No w (w.alloc (.cells #[.int .i64 k, .int .i64 n, .string t] 151)) := (Keep.refl No w).alloc _
  have hv := (rValid_any k n t ht (w.alloc (.cells #[.int .i64 k, .int .i64 n, .string t] 151))).mono (R' := fun e w1 => e = .returned (.bool (mkVal k n t).ok) ∧ w1.heap[w.heap.size]? = some (.cells #[.int .i64 k, .int .i64 n, .string t] 151 (0, 0)) ∧ RowKit.Hid (Keep No w w1)) (by
    rintro e w1 ⟨rfl, hk⟩
    exact ⟨rfl, hk.blk (blk_new w _) (fun x => x), K1.trans hk⟩)
  have hg : givenV (mkVal k n t) = ((mkVal k n t).ok && decide (k ≠ 0)) := rfl
  rw [hg]
  clear K1 hg ht
  cases hok : (mkVal k n t).ok with
  | true =>
    rw [hok] at hv
    clear hok
    by_cases hk : k = 0
    · subst hk
      go_enter Tryz.func149, Tryz.ntmps149
      go_wp2_with fail
      refine hv.mono ?_
      clear hv
      rintro e w1 ⟨rfl, x1, HK⟩
      have q1 := blk_cell x1
      go_wp2_with fail
      go_ret
      exact ⟨rfl, HK⟩
    · have d1 : (k != 0) = true := by simpa using hk
      have e : decide (k ≠ 0) = true := decide_eq_true hk
      rw [e]
      clear e hk
      go_enter Tryz.func149, Tryz.ntmps149
      go_wp2_with fail
      refine hv.mono ?_
      clear hv
      rintro e w1 ⟨rfl, x1, HK⟩
      have q1 := blk_cell x1
      go_wp2_with fail
      go_ret
      exact ⟨rfl, HK⟩
  | false =>
    rw [hok] at hv
    clear hok
    rw [Bool.false_and]
    go_enter Tryz.func149, Tryz.ntmps149
    go_wp2_with fail
    refine hv.mono ?_
    clear hv
    rintro e w1 ⟨rfl, x1, HK⟩
    go_wp2_with fail
    go_ret
    exact ⟨rfl, HK⟩

/-- behind k values: all of them may be given -/
structure Giv (w : World) (l : List Val) (k : Nat) (wr : World) : Prop where
  kle : k ≤ l.length
  keep : Keep No w wr
  all : (l.take k).all givenV = true

theorem rGiven_w (w : World) (W : World) (hk : Keep No w W) (k n : Int) (t : ByteArray) (ht : t.size ≤ 9223372036854775807) : Calls Tryz.prog 149 #[.agg #[.int .i64 k, .int .i64 n, .string t]] W fun e w' => e = .returned (.bool (givenV (mkVal k n t))) ∧ RowKit.Hid (Keep No W w') :=
  (rGiven_any k n t ht W).mono (by rintro e w' ⟨rfl, h⟩; exact ⟨rfl, h⟩)

set_option maxRecDepth 10000 in
set_option maxHeartbeats 2000000 in
theorem rCheck_any (w : World) (S : Nat → Prop) (cs : List Value) (q : Req) (h : Rd requestSh w S cs q) (hn : q.name.size ≤ 9223372036854775806) :
    Calls Tryz.prog 115 #[.agg cs.toArray] w (GivesI w q.check) := by
  obtain ⟨a, c, rfl, h4, w1, w2, w3⟩ := req_cells h
  have K1 : Keep No w (w.alloc (.cells #[.int .i64 q.client, .int .u64 q.token, .string q.name, .slice a q.args.length c] 33)) := (Keep.refl No w).alloc _
  have hb1 := blk_new w (.cells #[.int .i64 q.client, .int .u64 q.token, .string q.name, .slice a q.args.length c] 33)
  have HK1 := Lib.hid (And.intro K1 (And.intro h4 hb1))
  have hq : q.check = if q.client < 0 ∨ 64 ≤ q.client then 2 else if nameOk q.name = false then 90 else if 8 < q.args.length then 6 else if q.args.all givenV = false then 91 else 0 := rfl
  rw [hq]
  clear hq h h4 w1 w2 w3 K1 hb1
  generalize q.client = x1 at *
  generalize q.token = x2 at *
  generalize q.name = x3 at *
  by_cases hc : x1 < 0 ∨ 64 ≤ x1
  · rw [if_pos hc]
    have HC := Lib.hid hc
    rcases hc with hc | hc
    · go_enter Tryz.func115, Tryz.ntmps115
      go_wp2_with fail
      go_ret
      exact ⟨rfl, HK1.out.1⟩
    · have : ¬ x1 < 0 := by omega
      go_enter Tryz.func115, Tryz.ntmps115
      go_wp2_with fail
      go_ret
      exact ⟨rfl, HK1.out.1⟩
  · rw [if_neg hc]
    have i1 : ¬ x1 < 0 := by omega
    have i2 : ¬ 64 ≤ x1 := by omega
    clear hc
    cases hname : nameOk x3 with
    | false =>
      simp only [if_true]
      go_enter Tryz.func115, Tryz.ntmps115
      go_wp2_with (go_at_call 132; refine (rName_any x3 hn _).mono ?_; rintro e w2 ⟨rfl, rfl⟩; rw [hname])
      go_ret
      exact ⟨rfl, HK1.out.1⟩
    | true =>
      simp only [Bool.true_eq_false, if_false]
      by_cases h8 : 8 < q.args.length
      · rw [if_pos h8]
        have i3 : (8 : Int) < q.args.length := by omega
        clear h8
        go_enter Tryz.func115, Tryz.ntmps115
        go_wp2_with (go_at_call 132; refine (rName_any x3 hn _).mono ?_; rintro e w2 ⟨rfl, rfl⟩; rw [hname])
        go_ret
        exact ⟨rfl, HK1.out.1⟩
      · rw [if_neg h8]
        have i3 : ¬ (8 : Int) < q.args.length := by omega
        generalize hargs : q.args = l at *
        obtain ⟨res, hres⟩ : ∃ res : Int, res = if l.all givenV = false then 91 else 0 := ⟨_, rfl⟩
        rw [← hres]
        have HR := Lib.hid hres
        clear hres
        go_enter Tryz.func115, Tryz.ntmps115
        go_wp2_with (go_at_call 132; refine (rName_any x3 hn _).mono ?_; rintro e w2 ⟨rfl, rfl⟩; rw [hname])

        go_loopw [3] (fun i wr => ∃ k : Nat, i = .int .i64 k ∧ RowKit.Hid (Giv (w.alloc (.cells #[.int .i64 x1, .int .u64 x2, .string x3, .slice a l.length c] 33)) l k wr)) (fun i _ => l.length - (intOf i).toNat)
        case atStart => exact ⟨0, rfl, ⟨Nat.zero_le _, Keep.refl _ _, rfl⟩⟩
        case round =>
          obtain ⟨k, rfl, HA⟩ := hrel
          have xb := HA.out.keep.blk HK1.out.2.2 (fun x => x)
          have cb := blk_cell xb
          by_cases hlt : k < l.length
          · obtain ⟨b, off, rfl, hb, -, r0, r1, r2, -, ht⟩ := vals_get (HK1.out.2.1.agree _ (HK1.out.1.trans HA.out.keep).agreeNo) k hlt
            have hg := rGiven_w _ wr (Keep.refl _ wr) l[k].kind l[k].num l[k].text ht
            have hgv : givenV (mkVal l[k].kind l[k].num l[k].text) = givenV l[k] := rfl
            rw [hgv] at hg
            have j1 : (k : Int) < l.length := by omega
            have j0 : (0 : Int) ≤ k := by omega
            have j3 : (k : Int) ≤ 9223372036854775806 := by omega
            have hsnoc : l.take (k + 1) = l.take k ++ [l[k]] := List.take_succ_eq_append_getElem hlt
            have hall : givenV l[k] = false → l.all givenV = false := fun h => List.all_eq_false.2 ⟨_, List.getElem_mem hlt, by rw [h]; simp⟩
            have HX := Lib.hid (And.intro hlt (And.intro hsnoc (And.intro hall h8)))
            clear hsnoc hall hgv h8 ht
            generalize hgl : givenV l[k] = gl at *
            have HGL := Lib.hid hgl
            clear hgl
            generalize l[k].kind = vk at *
            generalize l[k].num = vn at *
            generalize l[k].text = vt at *
            clear xb
            cases gl with
            | true =>
              go_wp2_with (go_at_call 149; refine hg.mono ?_; clear hg; rintro e w3 ⟨rfl, HK3⟩)
              go_roundw
              case rel => exact ⟨k + 1, by simp, HX.out.1, HA.out.keep.trans HK3.out, by rw [HX.out.2.1, List.all_append, HA.out.all]; simp [HGL.out]⟩
              case measure => simp [intOf]; have := HX.out.1; omega
            | false =>
              go_wp2_with (go_at_call 149; refine hg.mono ?_; clear hg; rintro e w3 ⟨rfl, HK3⟩)
              go_ret
              have hr := HR.out
              rw [if_pos (HX.out.2.2.1 trivial)] at hr
              rw [hr]
              exact ⟨rfl, HK1.out.1.trans (HA.out.keep.trans HK3.out)⟩
          · obtain rfl : k = l.length := by have := HA.out.kle; omega
            have hall := HA.out.all
            rw [List.take_length] at hall
            clear xb h8
            go_wp2_with fail
            go_ret
            have hr := HR.out
            rw [if_neg (by rw [hall]; simp)] at hr
            rw [hr]
            exact ⟨rfl, HK1.out.1.trans HA.out.keep⟩
end Go.Proofs.YtnknihmchmmenaaGreat

namespace Go.Proofs.YtnknihmchmmenaaGreat
set_option linter.unusedVariables false
set_option linter.unusedSimpArgs false
open Go Go.RowKit Go.Deep

theorem RqMid.ruint {w : World} {S : Nat → Prop} {q : Req} {aa : Option Addr} {ca : Nat} {x : Bytes} {v : Value} {wr : World} (h : RqMid w S q aa ca x v wr) (n : Int) (h0 : 0 ≤ n) (h1 : n < 18446744073709551616) (hl : x.length + 10 ≤ 140737488355328) :
    Calls Tryz.prog 71 #[v, .int .u64 n] wr fun e w2 => ∃ a m c, e = .returned (.slice a m c) ∧ RowKit.Hid (RqMid w S q aa ca (x ++ uintB n.toNat) (.slice a m c) w2) ∧ w2.heap[w.heap.size]? = some (.cells #[.int .i64 q.client, .int .u64 q.token, .string q.name, .slice aa q.args.length ca] 33 (0, 0)) := by
  refine (rPutUint_any wr _ v x h.1.rd n h0 h1 hl).mono ?_
  rintro e w2 ⟨a, c, rfl, ho⟩
  have hn := h.next ho
  exact ⟨a, _, c, rfl, hn, hn.2.1⟩
theorem RqMid.rtext {w : World} {S : Nat → Prop} {q : Req} {aa : Option Addr} {ca : Nat} {x : Bytes} {v : Value} {wr : World} (h : RqMid w S q aa ca x v wr) (t : ByteArray) (hl : x.length + t.size + 10 ≤ 140737488355328) :
    Calls Tryz.prog 70 #[v, .string t] wr fun e w2 => ∃ a m c, e = .returned (.slice a m c) ∧ RowKit.Hid (RqMid w S q aa ca (x ++ textB t) (.slice a m c) w2) ∧ w2.heap[w.heap.size]? = some (.cells #[.int .i64 q.client, .int .u64 q.token, .string q.name, .slice aa q.args.length ca] 33 (0, 0)) := by
  refine (rPutText_any wr _ v x h.1.rd t hl).mono ?_
  rintro e w2 ⟨a, c, rfl, ho⟩
  have hn := h.next ho
  exact ⟨a, _, c, rfl, hn, hn.2.1⟩
theorem RqMid.rval {w : World} {S : Nat → Prop} {q : Req} {aa : Option Addr} {ca : Nat} {x : Bytes} {v : Value} {wr : World} (h : RqMid w S q aa ca x v wr) (u : Val) (hi : u.In) (ht : u.text.size ≤ 9223372036854775807) (hl : x.length + 200 ≤ 140737488355328) :
    Calls Tryz.prog 116 #[v, .agg #[.int .i64 u.kind, .int .i64 u.num, .string u.text]] wr fun e w2 => ∃ a m c, e = .returned (.slice a m c) ∧ RowKit.Hid (RqMid w S q aa ca (x ++ u.bytes) (.slice a m c) w2) := by
  refine (rvPut_any wr _ v x h.1.rd u.kind u.num u.text hi ht hl).mono ?_
  rintro e w2 ⟨a, n, c, rfl, ho⟩
  exact ⟨a, n, c, rfl, h.next ho⟩
set_option maxRecDepth 10000 in
set_option maxHeartbeats 4000000 in
theorem rrqPut_any (w : World) (S T : Nat → Prop) (v : Value) (l : Bytes) (hv : Rd bytesSh w T [v] l) (hl : l.length + 1000 ≤ 140737488355328) (cs : List Value) (q : Req) (h : Rd requestSh w S cs q) (hn : q.name.size ≤ 9223372036854775806) :
    Calls Tryz.prog 69 #[v, .agg cs.toArray] w (PutsC w (if q.check = 0 then l ++ q.bytes else []) q.check) := by
  have h' := h
  obtain ⟨aa, ca, rfl, h4, w1, w2, w3⟩ := req_cells h
  have K1 : Keep No w (w.alloc (.cells #[.int .i64 q.client, .int .u64 q.token, .string q.name, .slice aa q.args.length ca] 33)) := (Keep.refl No w).alloc _
  have hc := (rCheck_any _ S _ q (h'.agree _ K1.agreeNo) hn).mono (R' := fun e w3 => e = .returned (.int .i64 q.check) ∧ w3.heap[w.heap.size]? = some (.cells #[.int .i64 q.client, .int .u64 q.token, .string q.name, .slice aa q.args.length ca] 33 (0, 0)) ∧
      RowKit.Hid (Keep No w w3 ∧ Rd bytesSh w3 T [v] l ∧ Rd (.slice valueSh) w3 S [.slice aa q.args.length ca] q.args)) (by
    rintro e w3 ⟨rfl, hk⟩
    exact ⟨rfl, hk.blk (blk_new w _) (fun x => x), K1.trans hk, (hv.agree _ K1.agreeNo).agree _ hk.agreeNo, (h4.agree _ K1.agreeNo).agree _ hk.agreeNo⟩)
  obtain ⟨a0, c0, rfl, -⟩ := bytes_at hv
  by_cases hz : q.check = 0
  · rw [if_pos hz, hz]
    rw [hz] at hc
    have hiff := (Req.check_iff q).1 hz
    have hbl := Req.bytes_length hz
    have hIs := Lib.hid (And.intro hiff (And.intro hbl hl))
    have i1 : 0 ≤ q.client := hiff.1
    have i2 : q.client < 64 := hiff.2.1
    have i3 : (Lit.int .u64 q.token).wf = true := w2
    simp [Lit.wf, IntKind.min, IntKind.max, IntKind.signed, IntKind.bits] at i3
    have i5 := nameOk_size hiff.2.2.1
    have i6 := hiff.2.2.2.1
    have HI := Lib.hid (And.intro i3 (And.intro i5 i6))
    have hb : q.bytes = uintB q.client.toNat ++ uintB q.token.toNat ++ textB q.name ++ uintB q.args.length ++ q.args.flatMap Val.bytes := rfl
    have HB := Lib.hid hb
    clear hv h h' h4 K1 w1 w2 w3 hiff hbl hz i3 i5 i6 hb hl hn
    generalize hln : l.length = ln at *
    have HLN := Lib.hid hln
    clear hln
    go_enter Tryz.func69, Tryz.ntmps69
    go_wp2_with fail
    refine hc.mono ?_
    clear hc
    rintro e w3 ⟨rfl, x1, HK⟩
    have q1 := blk_cell x1
    go_wp2_with fail
    have hu1 := (rPutUint_any w3.drew T (.slice a0 ln c0) l (HK.out.2.1.agree _ (Keep.refl No w3).drew.agreeNo) q.client i1 (by omega) (by have := hIs.out.2.2; rw [HLN.out]; omega)).mono (R' := fun e w4 => ∃ a m c, e = .returned (.slice a m c) ∧ RowKit.Hid (RqMid w S q aa ca (l ++ uintB q.client.toNat) (.slice a m c) w4) ∧ w4.heap[w.heap.size]? = some (.cells #[.int .i64 q.client, .int .u64 q.token, .string q.name, .slice aa q.args.length ca] 33 (0, 0))) (by
      rintro e w4 ⟨a, c, rfl, ho⟩
      have hk := (HK.out.1.trans (Keep.refl No w3).drew)
      have hx := ho.2.blk (((Keep.refl No w3).drew).blk x1 (fun x => x)) (fun x => x)
      exact ⟨a, _, c, rfl, ⟨ho.back hk, hx, (HK.out.2.2.agree _ (Keep.refl No w3).drew.agreeNo).agree _ ho.2.agreeNo⟩, hx⟩)
    refine wp_region_can [0, 1, 2, 3, 5, 6, 4, 7, 8] [4, 7] [(5, 4), (6, 4)] (by kernel_rfl) (by kernel_rfl) (by kernel_rfl) (by kernel_rfl) (by intro c a d v w h; cases d <;> exact h) ?_
    iterate 6 (refine can_sil rfl rfl (fun K hK => ?_); go_simp; refine hK _ ?_; clear hK K)
    clear q1 x1
    refine can_loud [5, 6] rfl rfl rfl (fun K hK => ?_)
    go_wp2_with (go_at_call 71; refine hu1.mono ?_; clear hu1; rintro e w4 ⟨a4, n4, c4, rfl, HM, x1⟩)
    have q1 := blk_cell x1
    refine Mid.normal (hK _ _ ?_ ?_)
    · simp only [List.forall_mem_cons]
      refine ⟨?_, ?_, stabs_nil⟩ <;> exact stab_of rfl (fun K hK => by go_simp; exact hK)
    clear hK K q1 x1
    have hu2 := HM.out.ruint q.token HI.out.1.1 (by have := HI.out.1.2; omega) (by have := hIs.out.2.2; have := HLN.out; have := (uintB_length q.client.toNat).2; rw [List.length_append]; omega)
    refine can_loud [] rfl rfl rfl (fun K hK => ?_)
    go_wp2_with (go_at_call 71; refine hu2.mono ?_; clear hu2 HM; rintro e w5 ⟨a5, n5, c5, rfl, HM, x1⟩)
    refine Mid.normal (hK _ _ stabs_nil ?_)
    clear hK K
    refine can_sil rfl rfl (fun K hK => ?_); go_simp; refine hK _ ?_; clear hK K
    refine can_nil ?_
    have q1 := blk_cell x1
    go_wp2_with fail
    have hu3 := (HM.out.keep (Keep.refl No w5).drew).rtext q.name (by
      have := hIs.out.2.2; have := HLN.out; have := (uintB_length q.client.toNat).2; have := (uintB_length q.token.toNat).2; have := HI.out.2.1; simp only [List.length_append]; omega)
    have j1 : (q.args.length : Int) ≤ 8 := by have := HI.out.2.2; omega
    have j0 : (0 : Int) ≤ q.args.length := by omega
    generalize hm : q.args.length = m at *
    have HMM := Lib.hid hm
    clear hm
    have hwm : IntKind.u64.wrap (m : Int) = (m : Int) := wrap_u64_nat m (by omega)
    refine wp_region_can [0, 1, 2, 4, 5, 6, 7, 3, 8, 9] [3, 8] [(4, 3), (5, 3), (6, 3), (7, 3)] (by kernel_rfl) (by kernel_rfl) (by kernel_rfl) (by kernel_rfl) (by intro c a d v w h; cases d <;> exact h) ?_
    iterate 7 (refine can_sil rfl rfl (fun K hK => ?_); go_simp; refine hK _ ?_; clear hK K)
    clear q1 x1
    refine can_loud [4, 5, 6, 7] rfl rfl rfl (fun K hK => ?_)
    go_wp2_with (go_at_call 70; refine hu3.mono ?_; clear hu3 HM; rintro e w6 ⟨a6, n6, c6, rfl, HM, x1⟩)
    have q1 := blk_cell x1
    refine Mid.normal (hK _ _ ?_ ?_)
    · simp only [List.forall_mem_cons]
      refine ⟨?_, ?_, ?_, ?_, stabs_nil⟩ <;> exact stab_of rfl (fun K hK => by go_simp; exact hK)
    clear hK K q1 x1
    clear hwm
    have hu4 := HM.out.ruint (m : Int) j0 (by omega) (by
      have := hIs.out.2.2; have := HLN.out; have := (uintB_length q.client.toNat).2; have := (uintB_length q.token.toNat).2; have := textB_length q.name; have := HI.out.2.1; simp only [List.length_append]; omega)
    rw [Int.toNat_natCast, HMM.out] at hu4
    refine can_loud [] rfl rfl rfl (fun K hK => ?_)
    go_wp2_with (go_at_call 71; refine hu4.mono ?_; clear hu4 HM; rintro e w7 ⟨a7, n7, c7, rfl, HM, x1⟩)
    refine Mid.normal (hK _ _ stabs_nil ?_)
    clear hK K
    refine can_sil rfl rfl (fun K hK => ?_); go_simp; refine hK _ ?_; clear hK K
    refine can_nil ?_
    have q1 := blk_cell x1
    have hlen : (l ++ uintB q.client.toNat ++ uintB q.token.toNat ++ textB q.name ++ uintB m).length + (q.args.flatMap Val.bytes).length ≤ ln + 700 := by
      have h1 := hIs.out.2.1
      rw [HB.out] at h1
      simp only [List.length_append] at h1 ⊢
      have := HLN.out
      omega
    generalize hx0 : l ++ uintB q.client.toNat ++ uintB q.token.toNat ++ textB q.name ++ uintB m = x0 at *
    have HX0 := Lib.hid (And.intro hx0 hlen)
    clear hx0 hlen
    go_wp2_with fail
    clear q1
    go_loopw [7, 8] (fun v i wr => ∃ (k : Nat) (a : Option Addr) (n c : Nat), k ≤ m ∧ i = .int .i64 k ∧ v = .slice a n c ∧ RowKit.Hid (RqMid w S q aa ca (x0 ++ (q.args.take k).flatMap Val.bytes) (.slice a n c) wr)) (fun _ i _ => m - (intOf i).toNat)
    case atStart => exact ⟨0, _, _, _, by omega, rfl, rfl, by simpa using HM⟩
    case round =>
      obtain ⟨k, a, n, c, hk, rfl, rfl, HR⟩ := hrel
      by_cases hlt : k < m
      · have k1 : (k : Int) < m := by omega
        have k0 : (0 : Int) ≤ k := by omega
        have k3 : (k : Int) ≤ 9223372036854775806 := by omega
        have hlt' : k < q.args.length := by rw [HMM.out]; exact hlt
        obtain ⟨b, off, rfl, hb, -, e0, e1, e2, hvi, hvs⟩ := vals_get HR.out.2.2 k hlt'
        have q1 := blk_cell HR.out.2.1
        have hval := (HR.out.rval q.args[k] hvi hvs (by
          have h1 := HX0.out.2
          have h2 := args_le q.args k
          have h3 := hIs.out.2.2
          rw [List.length_append]
          have := HLN.out
          omega)).mono (R' := fun e w8 => ∃ a m' c, e = .returned (.slice a m' c) ∧ RowKit.Hid (RqMid w S q (some ⟨b, off, none⟩) ca (x0 ++ (q.args.take (k + 1)).flatMap Val.bytes) (.slice a m' c) w8)) (by
          rintro e w8 ⟨a8, m8, c8, rfl, hm8⟩
          refine ⟨a8, m8, c8, rfl, ?_⟩
          rw [args_bytes q.args k hlt', ← List.append_assoc]
          exact hm8)
        have HLT := Lib.hid hlt
        rw [HMM.out] at q1
        clear hvi hvs hb
        generalize q.args[k].kind = y1 at *
        generalize q.args[k].num = y2 at *
        generalize q.args[k].text = y3 at *
        clear hlt hlt' hk HR
        go_wp2_with (go_at_call 116; refine hval.mono ?_; clear hval; rintro e w8 ⟨a8, n8, c8, rfl, HM8⟩)
        go_roundw
        case rel => exact ⟨k + 1, a8, n8, c8, by have := HLT.out; omega, by simp, rfl, HM8⟩
        case measure => simp [intOf]; have := HLT.out; omega
      · have q1 := blk_cell HR.out.2.1
        rw [HMM.out] at q1
        have k1 : ¬ (k : Int) < m := by omega
        have hke : k = m := by omega
        subst hke
        clear hk hlt
        go_wp2_with fail
        go_ret2
        refine ⟨a, n, c, rfl, ?_⟩
        have h1 := HR.out.1
        rw [List.take_of_length_le (by rw [HMM.out]; exact Nat.le_refl _), ← HX0.out.1] at h1
        rw [HB.out]
        simpa only [List.append_assoc] using h1
  · rw [if_neg hz]
    have d1 : (q.check != 0) = true := by simpa using hz
    clear hv h h' h4 K1 w1 w2 w3 hz hl hn
    generalize q.check = ck at *
    generalize l.length = ln at *
    go_enter Tryz.func69, Tryz.ntmps69
    go_wp2_with fail
    refine hc.mono ?_
    clear hc
    rintro e w3 ⟨rfl, x1, HK⟩
    go_wp2_with fail
    go_ret2
    exact ⟨_, _, _, rfl, ⟨Own.nil _ _ _ _, HK.out.1⟩⟩
end Go.Proofs.YtnknihmchmmenaaGreat

namespace Go.Proofs.YtnknihmchmmenaaGreat
set_option linter.unusedVariables false
set_option linter.unusedSimpArgs false
open Go Go.RowKit Go.Deep

set_option maxRecDepth 10000 in
set_option maxHeartbeats 2000000 in
theorem rRight_any (w : World) (S : Nat → Prop) (cs : List Value) (p : Plan) (h : Rd planSh w S cs p) (hf : p.Fit) :
    Calls Tryz.prog 28 #[.agg cs.toArray] w (GivesI w p.right) := by
  obtain ⟨a1, c1, a2, c2, a3, c3, rfl, h1, h2, h3, w1, w2, w3, w4⟩ := plan_cells h
  have K1 : Keep No w (w.alloc (.cells #[.int .i64 p.client, .int .u64 p.token, .string p.name, .slice a1 p.args.length c1, .int .i64 p.how, .slice a2 p.reads.length c2, .slice a3 p.writes.length c3] 38)) := (Keep.refl No w).alloc _
  have hreq : Rd requestSh w S [.int .i64 p.client, .int .u64 p.token, .string p.name, .slice a1 p.args.length c1] p.req :=
    ⟨[.int .i64 p.client], _, rfl, ⟨rfl, w1⟩, [.int .u64 p.token], _, rfl, ⟨rfl, w2⟩, [.string p.name], _, rfl, ⟨rfl, w3⟩, [_], _, rfl, h1, rfl⟩
  have hnil : Rd bytesSh w S [.slice none 0 0] ([] : Bytes) := ⟨none, 0, rfl, by simp, by simp, fun _ => ⟨rfl, rfl⟩, fun i hi => absurd hi (by simp)⟩
  have hput := (rrqPut_any _ S S _ [] (hnil.agree _ K1.agreeNo) (by simp) _ p.req (hreq.agree _ K1.agreeNo) hf.name).mono (R' := fun e w5 => ∃ a n k, e = .returned (.tuple #[.slice a n k, .int .i64 p.req.check]) ∧
      w5.heap[w.heap.size]? = some (.cells #[.int .i64 p.client, .int .u64 p.token, .string p.name, .slice a1 p.args.length c1, .int .i64 p.how, .slice a2 p.reads.length c2, .slice a3 p.writes.length c3] 38 (0, 0)) ∧ RowKit.Hid (Keep No w w5)) (by
    rintro e w5 ⟨a, n, k, rfl, ho⟩
    exact ⟨a, n, k, rfl, ho.2.blk (blk_new w _) (fun x => x), K1.trans ho.2⟩)
  have hnorm := fun (W : World) (hk : Keep No w W) => (rIs_any W S (.slice a2 p.reads.length c2) (.slice a3 p.writes.length c3) p.fp ⟨h2.agree _ hk.agreeNo, h3.agree _ hk.agreeNo⟩ hf.feet).mono (R' := fun e w6 => e = .returned (.bool p.fp.normal) ∧ RowKit.Hid (Keep No w w6)) (by
    rintro e w6 ⟨rfl, hk6⟩
    exact ⟨rfl, hk.trans hk6⟩)
  have HN := Lib.hid hnorm
  have hr : p.right = if p.req.check ≠ 0 then p.req.check else if p.how ≠ 1 ∧ p.how ≠ 2 then 121 else if p.fp.normal = false then 31 else 0 := rfl
  rw [hr]
  clear hr h h1 h2 h3 w1 w2 w3 w4 K1 hreq hnil hf hnorm
  generalize p.req.check = ck at *
  generalize p.fp.normal = nb at *
  generalize p.client = v1 at *
  generalize p.token = v2 at *
  generalize p.name = v3 at *
  generalize p.how = v4 at *
  generalize p.args.length = m1 at *
  generalize p.reads.length = m2 at *
  generalize p.writes.length = m3 at *
  by_cases hc : ck = 0
  · subst hc
    rw [if_neg (by simp)]
    by_cases hh : v4 ≠ 1 ∧ v4 ≠ 2
    · rw [if_pos hh]
      have d1 : (v4 != 1) = true := by simpa using hh.1
      have d2 : (v4 != 2) = true := by simpa using hh.2
      clear hh HN
      go_enter Tryz.func28, Tryz.ntmps28
      go_wp2_with fail
      refine hput.mono ?_
      clear hput
      rintro e w5 ⟨a, n, k, rfl, x1, HK⟩
      have q1 := blk_cell x1
      go_wp2_with fail
      go_ret
      exact ⟨rfl, HK⟩
    · rw [if_neg hh]
      have hv : v4 = 1 ∨ v4 = 2 := by
        by_cases h1 : v4 = 1
        · exact .inl h1
        · exact .inr (Classical.byContradiction fun h2 => hh ⟨h1, h2⟩)
      clear hh
      cases nb with
      | true =>
        simp only [Bool.true_eq_false, if_false]
        rcases hv with rfl | rfl
        all_goals
          go_enter Tryz.func28, Tryz.ntmps28
          go_wp2_with fail
          refine hput.mono ?_
          clear hput
          rintro e w5 ⟨a, n, k, rfl, x1, HK⟩
          have q1 := blk_cell x1
          have hn := HN.out w5 HK.out
          go_wp2_with (go_at_call 91; refine hn.mono ?_; clear hn; rintro e w6 ⟨rfl, HK6⟩)
          go_ret
          exact ⟨rfl, HK6⟩
      | false =>
        simp only [if_true]
        rcases hv with rfl | rfl
        all_goals
          go_enter Tryz.func28, Tryz.ntmps28
          go_wp2_with fail
          refine hput.mono ?_
          clear hput
          rintro e w5 ⟨a, n, k, rfl, x1, HK⟩
          have q1 := blk_cell x1
          have hn := HN.out w5 HK.out
          go_wp2_with (go_at_call 91; refine hn.mono ?_; clear hn; rintro e w6 ⟨rfl, HK6⟩)
          go_ret
          exact ⟨rfl, HK6⟩
  · rw [if_pos hc]
    have d1 : (ck != 0) = true := by simpa using hc
    clear hc HN
    go_enter Tryz.func28, Tryz.ntmps28
    go_wp2_with fail
    refine hput.mono ?_
    clear hput
    rintro e w5 ⟨a, n, k, rfl, x1, HK⟩
    go_wp2_with fail
    go_ret
    exact ⟨rfl, HK⟩
end Go.Proofs.YtnknihmchmmenaaGreat
