/-
  Requests held against one another: the document's Equal.
  Entries held against one another: the document's Equal.
  Entries held against one another: the program's Equal, of requests, of entries.
-/
import Derived.Test.YtnknihmchmmenaaGreatGA
import Derived.Test.YtnknihmchmmenaaGreatGC
import Derived.Test.YtnknihmchmmenaaGreatGD
import Derived.Test.YtnknihmchmmenaaGreatGI
import Derived.Test.YtnknihmchmmenaaGreatGK
import Derived.Test.YtnknihmchmmenaaGreatGN
import Derived.Test.YtnknihmchmmenaaGreatGR
import Derived.Test.YtnknihmchmmenaaGreatGU
import Derived.Test.YtnknihmchmmenaaGreatGZ
import Derived.Still
import Derived.StillTactics
import Derived.WalkKit
import Derived.WalkSpells
import Derived.WalkLawsBesides
import Derived.ProofKit
import Derived.Deep.Slices
import Derived.Deep.AppendSrc
import Derived.Lib.Hide
import Derived.Recover
import Derived.Defers
import Derived.Deep.QuietTactic
import Derived.BigQuiet
import Derived.Handy
import Derived.Laws.Bits64b
import Derived.Lib.Zigzag
import Derived.OwnWalk
import Derived.Deep.DeepCutAuto
import Derived.Lib.Bytealg
import Derived.Laws.Externs
import Derived.Deep.LoopGhost
import Derived.Laws.CopyRow
import Derived.Laws.IdiomCopy
import Derived.Maps.OwnSet
import Derived.Maps.RangeWalk
import Derived.Shelf.SortM.Plain
import Derived.Shelf.SortM.SortNone
import Derived.Ground.SlgmProg
import Derived.Maps.OwnOps
namespace Go.Proofs.YtnknihmchmmenaaGreat
set_option linter.unusedVariables false
set_option linter.unusedSimpArgs false
open Go Go.RowKit Go.Deep

theorem bytes_ne {a b : ByteArray} (h : a ≠ b) : (a.toList == b.toList) = false := by
  rw [← beq_toListBytes]
  have : (a == b) = (a.data == b.data) := rfl
  rw [this]
  simp
  intro h2
  exact h (by cases a; cases b; simp_all)
theorem bytes_beq (a b : ByteArray) : (a.toList == b.toList) = decide (a = b) := by
  by_cases h : a = b
  · subst h; simp
  · rw [bytes_ne h]; simp [h]

theorem run_neq_value (w : World) (x y : valueSh.T) : (binOp .neq 151 (.agg #[.int .i64 x.1, .int .i64 x.2.1, .string x.2.2.1]) (.agg #[.int .i64 y.1, .int .i64 y.2.1, .string y.2.2.1])).run Tryz.prog w = .ok (.bool (decide (x ≠ y))) w := by
  obtain ⟨x1, x2, x3, ⟨⟩⟩ := x
  obtain ⟨y1, y2, y3, ⟨⟩⟩ := y
  by_cases h1 : x1 = y1
  · subst h1
    by_cases h2 : x2 = y2
    · subst h2
      by_cases h3 : x3 = y3
      · subst h3
        go_simp
      · have e := bytes_ne h3
        go_simp
    · have e : (x2 == y2) = false := by simpa using h2
      go_simp
  · have e : (x1 == y1) = false := by simpa using h1
    go_simp


/-- are two requests the same? -/
def Req.eqb (q r : Req) : Bool := decide (q.client = r.client) && decide (q.token = r.token) && decide (q.name = r.name) && decide (q.args = r.args)
theorem Req.eqb_iff (q r : Req) : q.eqb r = true ↔ q = r := by
  obtain ⟨a, b, c, d, ⟨⟩⟩ := q
  obtain ⟨a', b', c', d', ⟨⟩⟩ := r
  simp only [Req.eqb, Req.client, Req.token, Req.name, Req.args, Bool.and_eq_true, decide_eq_true_eq, Prod.mk.injEq, and_true, and_assoc]

set_option maxRecDepth 10000 in
set_option maxHeartbeats 2000000 in
theorem rrqEqual_any (w : World) (S T : Nat → Prop) (cs ds : List Value) (q r : Req) (h : Rd requestSh w S cs q) (h' : Rd requestSh w T ds r) :
    Calls Tryz.prog 61 #[.agg cs.toArray, .agg ds.toArray] w (Says w (q.eqb r)) := by
  obtain ⟨a, c, rfl, h4, -⟩ := req_cells h
  obtain ⟨a', c', rfl, h4', -⟩ := req_cells h'
  clear h h'
  have K2 : Keep No w ((w.alloc (.cells #[.int .i64 q.client, .int .u64 q.token, .string q.name, .slice a q.args.length c] 33)).alloc (.cells #[.int .i64 r.client, .int .u64 r.token, .string r.name, .slice a' r.args.length c'] 33)) := ((Keep.refl No w).alloc _).alloc _
  have x1 := blk_alloc (o' := .cells #[.int .i64 r.client, .int .u64 r.token, .string r.name, .slice a' r.args.length c'] 33) (blk_new w (.cells #[.int .i64 q.client, .int .u64 q.token, .string q.name, .slice a q.args.length c] 33))
  have x2 := blk_new (w.alloc (.cells #[.int .i64 q.client, .int .u64 q.token, .string q.name, .slice a q.args.length c] 33)) (.cells #[.int .i64 r.client, .int .u64 r.token, .string r.name, .slice a' r.args.length c'] 33)
  simp only [World.size_alloc] at x2
  have g4 := h4.agree _ K2.agreeNo
  have g4' := h4'.agree _ K2.agreeNo
  have HG := Lib.hid (And.intro K2 (And.intro x1 (And.intro x2 (And.intro g4 g4'))))
  have he : q.eqb r = (decide (q.client = r.client) && decide (q.token = r.token) && decide (q.name = r.name) && decide (q.args = r.args)) := rfl
  rw [he]
  clear he K2 x1 x2 g4 g4' h4 h4'
  generalize q.client = v1 at *
  generalize q.token = v2 at *
  generalize q.name = v3 at *
  generalize r.client = u1 at *
  generalize r.token = u2 at *
  generalize r.name = u3 at *
  generalize q.args = l at *
  generalize r.args = m at *
  obtain ⟨res, hres⟩ : ∃ res : Bool, res = (decide (v1 = u1) && decide (v2 = u2) && decide (v3 = u3) && decide (l = m)) := ⟨_, rfl⟩
  rw [← hres]
  have HR := Lib.hid hres
  clear hres
  by_cases e1 : v1 = u1
  · subst e1
    by_cases e2 : v2 = u2
    · subst e2
      by_cases e3 : v3 = u3
      · subst e3
        by_cases e4 : l.length = m.length
        · have b4 : ((l.length : Int) != (m.length : Int)) = false := by simp; exact_mod_cast e4
          have HE := Lib.hid e4
          clear e4
          go_enter Tryz.func61, Tryz.ntmps61
          go_wp2_with fail
          generalize ((w.alloc (.cells #[.int .i64 v1, .int .u64 v2, .string v3, .slice a l.length c] 33)).alloc (.cells #[.int .i64 v1, .int .u64 v2, .string v3, .slice a' m.length c'] 33)) = W at *
          have q1 := blk_cell HG.out.2.1
          have q2 := blk_cell HG.out.2.2.1
          go_loopw [5] (fun i wr => ∃ k n : Nat, k ≤ l.length ∧ i = .int .i64 k ∧ wr = W.drewN n ∧ RowKit.Hid (l.take k = m.take k)) (fun i _ => l.length - (intOf i).toNat)
          case atStart => exact ⟨0, 0, by omega, rfl, rfl, (by show l.take 0 = m.take 0; simp)⟩
          case round =>
            obtain ⟨k, n, hk, rfl, rfl, ha⟩ := hrel
            by_cases hlt : k < l.length
            · have hlm : k < m.length := by have := HE.out; omega
              have j1 : (k : Int) < l.length := by omega
              have j2 : (k : Int) < m.length := by omega
              have j0 : (0 : Int) ≤ k := by omega
              have j3 : (k : Int) ≤ 9223372036854775806 := by have := (vals_len HG.out.2.2.2.1).2; omega
              obtain ⟨b, off, rfl, -, -, r0, r1, r2, -⟩ := vals_get HG.out.2.2.2.1 k hlt
              obtain ⟨b', off', rfl, -, -, s0, s1, s2, -⟩ := vals_get HG.out.2.2.2.2 k hlm
              have hq := fun w => run_neq_value w l[k] m[k]
              have hn1 : l[k] = m[k] → l.take (k + 1) = m.take (k + 1) := fun e => by
                rw [List.take_succ_eq_append_getElem hlt, List.take_succ_eq_append_getElem hlm, ha.out, e]
              have hn2 : l[k] ≠ m[k] → l ≠ m := fun e hh => e (by subst hh; rfl)
              have HX := Lib.hid (And.intro hlt (And.intro hn1 hn2))
              obtain ⟨ne, hne⟩ : ∃ ne : Bool, ne = decide (l[k] ≠ m[k]) := ⟨_, rfl⟩
              rw [← hne] at hq
              have HNE := Lib.hid hne
              clear hne hn1 hn2 hk
              have e1 : l[k].1 = l[k].kind := rfl
              have e2 : l[k].2.1 = l[k].num := rfl
              have e3 : l[k].2.2.1 = l[k].text := rfl
              have e4 : m[k].1 = m[k].kind := rfl
              have e5 : m[k].2.1 = m[k].num := rfl
              have e6 : m[k].2.2.1 = m[k].text := rfl
              rw [e1, e2, e3, e4, e5, e6] at hq
              generalize l[k].kind = y1 at *
              generalize l[k].num = y2 at *
              generalize l[k].text = y3 at *
              generalize m[k].kind = z1 at *
              generalize m[k].num = z2 at *
              generalize m[k].text = z3 at *
              clear e1 e2 e3 e4 e5 e6
              cases ne with
              | false =>
                go_wp2_with fail
                go_quiet (fail)
                go_wp2_with fail
                go_roundw
                case rel => exact ⟨k + 1, _, by have := HX.out.1; omega, by simp, by first | rfl | trivial, HX.out.2.1 (by have := HNE.out; simpa using this)⟩
                case measure => simp [intOf]; have := HX.out.1; omega
              | true =>
                go_wp2_with fail
                go_quiet (fail)
                go_wp2_with fail
                go_ret
                have h5 : l ≠ m := HX.out.2.2 (of_decide_eq_true HNE.out.symm)
                rw [HR.out, decide_eq_false h5, Bool.and_false]
                exact ⟨rfl, by simpa using HG.out.1.drewN _⟩
            · obtain rfl : k = l.length := by omega
              have h5 : l = m := by
                have h6 := ha.out
                rw [List.take_length, HE.out, List.take_length] at h6
                exact h6
              have H5 := Lib.hid h5
              clear h5 hk hlt ha
              go_wp2_with fail
              go_ret
              rw [HR.out, decide_eq_true H5.out]
              exact ⟨by simp, by simpa using HG.out.1.drewN _⟩
        · have b4 : ((l.length : Int) != (m.length : Int)) = true := by simp; exact_mod_cast e4
          have h5 : l ≠ m := fun hh => e4 (by rw [hh])
          have H5 := Lib.hid h5
          clear e4 h5
          go_enter Tryz.func61, Tryz.ntmps61
          go_wp2_with fail
          go_ret
          rw [HR.out, decide_eq_false H5.out, Bool.and_false]
          exact ⟨rfl, HG.out.1⟩
      · have b3 : (v3.toList == u3.toList) = false := bytes_ne e3
        have H5 := Lib.hid e3
        clear e3
        go_enter Tryz.func61, Tryz.ntmps61
        go_wp2_with fail
        go_ret
        rw [HR.out, decide_eq_false H5.out, Bool.and_false, Bool.false_and]
        exact ⟨rfl, HG.out.1⟩
    · have b2 : (v2 != u2) = true := by simpa using e2
      have H5 := Lib.hid e2
      clear e2
      go_enter Tryz.func61, Tryz.ntmps61
      go_wp2_with fail
      go_ret
      rw [HR.out, decide_eq_false H5.out, Bool.and_false, Bool.false_and, Bool.false_and]
      exact ⟨rfl, HG.out.1⟩
  · have b1 : (v1 != u1) = true := by simpa using e1
    have H5 := Lib.hid e1
    clear e1
    go_enter Tryz.func61, Tryz.ntmps61
    go_wp2_with fail
    go_ret
    rw [HR.out, decide_eq_false H5.out, Bool.false_and, Bool.false_and, Bool.false_and]
    exact ⟨rfl, HG.out.1⟩
end Go.Proofs.YtnknihmchmmenaaGreat

namespace Go.Proofs.YtnknihmchmmenaaGreat
set_option linter.unusedVariables false
set_option linter.unusedSimpArgs false
open Go Go.RowKit Go.Deep

/-- are two footprints, two entries the same? -/
def Fp.eqb (f g : Fp) : Bool := decide (f.rs = g.rs) && decide (f.ws = g.ws)
def Ent.eqb (x y : Ent) : Bool := decide (x.seq = y.seq) && decide (x.epoch = y.epoch) && decide (x.plan.how = y.plan.how) && x.plan.req.eqb y.plan.req && x.plan.fp.eqb y.plan.fp
theorem Fp.eqb_iff (f g : Fp) : f.eqb g = true ↔ f = g := by
  obtain ⟨a, b, ⟨⟩⟩ := f
  obtain ⟨a', b', ⟨⟩⟩ := g
  simp only [Fp.eqb, Fp.rs, Fp.ws, Bool.and_eq_true, decide_eq_true_eq, Prod.mk.injEq, and_true]
theorem Ent.eqb_iff (x y : Ent) : x.eqb y = true ↔ x = y := by
  obtain ⟨a, b, ⟨q, h, f, ⟨⟩⟩, ⟨⟩⟩ := x
  obtain ⟨a', b', ⟨q', h', f', ⟨⟩⟩, ⟨⟩⟩ := y
  simp only [Ent.eqb, Ent.seq, Ent.epoch, Ent.plan, Plan.how, Plan.req, Plan.fp, Bool.and_eq_true, decide_eq_true_eq, Prod.mk.injEq, and_true, and_assoc, Req.eqb_iff, Fp.eqb_iff]
  constructor
  · rintro ⟨h1, h2, h3, h4, h5⟩; exact ⟨h1, h2, h4, h3, h5⟩
  · rintro ⟨h1, h2, h4, h3, h5⟩; exact ⟨h1, h2, h3, h4, h5⟩

/-- the cells of an entry -/
def Ent.cells (x : Ent) (a1 : Option Addr) (c1 : Nat) (a2 : Option Addr) (c2 : Nat) (a3 : Option Addr) (c3 : Nat) : Array Value :=
  #[.int .i64 x.seq, .int .i64 x.epoch, .int .i64 x.plan.client, .int .u64 x.plan.token, .string x.plan.name, .slice a1 x.plan.args.length c1, .int .i64 x.plan.how, .slice a2 x.plan.reads.length c2, .slice a3 x.plan.writes.length c3]
theorem ent_open {w : World} {S : Nat → Prop} {cs : List Value} {x : Ent} (h : Rd entrySh w S cs x) :
    ∃ a1 c1 a2 c2 a3 c3, cs = [.int .i64 x.seq, .int .i64 x.epoch, .int .i64 x.plan.client, .int .u64 x.plan.token, .string x.plan.name, .slice a1 x.plan.args.length c1, .int .i64 x.plan.how, .slice a2 x.plan.reads.length c2, .slice a3 x.plan.writes.length c3] ∧
      Rd requestSh w S [.int .i64 x.plan.client, .int .u64 x.plan.token, .string x.plan.name, .slice a1 x.plan.args.length c1] x.plan.req ∧ FpAt w S (.slice a2 x.plan.reads.length c2) (.slice a3 x.plan.writes.length c3) x.plan.fp ∧ (Lit.int .i64 x.plan.how).wf = true := by
  obtain ⟨ps, rfl, h3, w1, w2⟩ := ent_cells h
  obtain ⟨a1, c1, a2, c2, a3, c3, rfl, h1, h2, h3, w1, w2, w3, w4⟩ := plan_cells h3
  exact ⟨a1, c1, a2, c2, a3, c3, rfl, ⟨[.int .i64 x.plan.client], _, rfl, ⟨rfl, w1⟩, [.int .u64 x.plan.token], _, rfl, ⟨rfl, w2⟩, [.string x.plan.name], _, rfl, ⟨rfl, w3⟩, [_], _, rfl, h1, rfl⟩, ⟨h2, h3⟩, w4⟩

set_option maxRecDepth 10000 in
set_option maxHeartbeats 2000000 in
theorem rEqual_any (w : World) (S T : Nat → Prop) (cs ds : List Value) (x y : Ent) (h : Rd entrySh w S cs x) (h' : Rd entrySh w T ds y) :
    Calls Tryz.prog 13 #[.agg cs.toArray, .agg ds.toArray] w (Says w (x.eqb y)) := by
  obtain ⟨a1, c1, a2, c2, a3, c3, rfl, hq1, hf1, -⟩ := ent_open h
  obtain ⟨b1, d1, b2, d2, b3, d3, rfl, hq2, hf2, -⟩ := ent_open h'
  clear h h'
  obtain ⟨A, hA⟩ : ∃ A : Array Value, A = #[.int .i64 x.seq, .int .i64 x.epoch, .int .i64 x.plan.client, .int .u64 x.plan.token, .string x.plan.name, .slice a1 x.plan.args.length c1, .int .i64 x.plan.how, .slice a2 x.plan.reads.length c2, .slice a3 x.plan.writes.length c3] := ⟨_, rfl⟩
  obtain ⟨B, hB⟩ : ∃ B : Array Value, B = #[.int .i64 y.seq, .int .i64 y.epoch, .int .i64 y.plan.client, .int .u64 y.plan.token, .string y.plan.name, .slice b1 y.plan.args.length d1, .int .i64 y.plan.how, .slice b2 y.plan.reads.length d2, .slice b3 y.plan.writes.length d3] := ⟨_, rfl⟩
  have K2 : Keep No w ((w.alloc (.cells A 40)).alloc (.cells B 40)) := ((Keep.refl No w).alloc _).alloc _
  have x1 := blk_alloc (o' := .cells B 40) (blk_new w (.cells A 40))
  have x2 := blk_new (w.alloc (.cells A 40)) (.cells B 40)
  simp only [World.size_alloc] at x2
  have hq := fun (W : World) (hk : Keep No w W) (k1 : W.heap[w.heap.size]? = some (.cells A 40 (0, 0))) (k2 : W.heap[w.heap.size + 1]? = some (.cells B 40 (0, 0))) => (rrqEqual_any W S T _ _ _ _ (hq1.agree _ hk.agreeNo) (hq2.agree _ hk.agreeNo)).mono (R' := fun e w3 => e = .returned (.bool (x.plan.req.eqb y.plan.req)) ∧ w3.heap[w.heap.size]? = some (.cells A 40 (0, 0)) ∧ w3.heap[w.heap.size + 1]? = some (.cells B 40 (0, 0)) ∧ RowKit.Hid (Keep No w w3)) (by
    rintro e w3 ⟨rfl, hk3⟩
    exact ⟨rfl, hk3.blk k1 (fun x => x), hk3.blk k2 (fun x => x), hk.trans hk3⟩)
  have hf := fun (W : World) (hk : Keep No w W) => (rSame_any W S T _ _ _ _ _ _ (hf1.keep hk) (hf2.keep hk)).mono (R' := fun e w3 => e = .returned (.bool (x.plan.fp.eqb y.plan.fp)) ∧ RowKit.Hid (Keep No w w3)) (by
    rintro e w3 ⟨rfl, hk3⟩
    exact ⟨rfl, hk.trans hk3⟩)
  subst hA
  subst hB
  have hq0 := hq _ K2 x1 x2
  have HF := Lib.hid hf
  have HG := Lib.hid K2
  have he : x.eqb y = (decide (x.seq = y.seq) && decide (x.epoch = y.epoch) && decide (x.plan.how = y.plan.how) && x.plan.req.eqb y.plan.req && x.plan.fp.eqb y.plan.fp) := rfl
  rw [he]
  clear he K2 x1 x2 hq hf hq1 hq2 hf1 hf2
  generalize x.plan.req.eqb y.plan.req = r1 at *
  generalize x.plan.fp.eqb y.plan.fp = r2 at *
  generalize x.seq = v1 at *
  generalize x.epoch = v2 at *
  generalize x.plan.client = v3 at *
  generalize x.plan.token = v4 at *
  generalize x.plan.name = v5 at *
  generalize x.plan.how = v6 at *
  generalize x.plan.args.length = v7 at *
  generalize x.plan.reads.length = v8 at *
  generalize x.plan.writes.length = v9 at *
  generalize y.seq = u1 at *
  generalize y.epoch = u2 at *
  generalize y.plan.client = u3 at *
  generalize y.plan.token = u4 at *
  generalize y.plan.name = u5 at *
  generalize y.plan.how = u6 at *
  generalize y.plan.args.length = u7 at *
  generalize y.plan.reads.length = u8 at *
  generalize y.plan.writes.length = u9 at *
  obtain ⟨res, hres⟩ : ∃ res : Bool, res = (decide (v1 = u1) && decide (v2 = u2) && decide (v6 = u6) && r1 && r2) := ⟨_, rfl⟩
  rw [← hres]
  have HR := Lib.hid hres
  clear hres
  by_cases e1 : v1 = u1
  · subst e1
    by_cases e2 : v2 = u2
    · subst e2
      by_cases e3 : v6 = u6
      · subst e3
        cases r1 with
        | true =>
          cases r2 with
          | true =>
            go_enter Tryz.func13, Tryz.ntmps13
            go_wp2_with (first | (go_at_call 61; refine hq0.mono ?_; clear hq0; rintro e w3 ⟨rfl, z1, z2, HK3⟩; have q1 := blk_cell z1; have q2 := blk_cell z2) | (go_at_call 62; refine (HF.out _ HK3.out).mono ?_; rintro e w4 ⟨rfl, HK4⟩))
            go_ret
            rw [HR.out]
            exact ⟨by simp, HK4.out⟩
          | false =>
            go_enter Tryz.func13, Tryz.ntmps13
            go_wp2_with (first | (go_at_call 61; refine hq0.mono ?_; clear hq0; rintro e w3 ⟨rfl, z1, z2, HK3⟩; have q1 := blk_cell z1; have q2 := blk_cell z2) | (go_at_call 62; refine (HF.out _ HK3.out).mono ?_; rintro e w4 ⟨rfl, HK4⟩))
            go_ret
            rw [HR.out]
            exact ⟨by simp, HK4.out⟩
        | false =>
          go_enter Tryz.func13, Tryz.ntmps13
          go_wp2_with (go_at_call 61; refine hq0.mono ?_; clear hq0; rintro e w3 ⟨rfl, z1, z2, HK3⟩)
          go_ret
          rw [HR.out]
          exact ⟨by simp, HK3.out⟩
      · have b3 : (v6 == u6) = false := by simpa using e3
        have H5 := Lib.hid e3
        clear e3 hq0
        go_enter Tryz.func13, Tryz.ntmps13
        go_wp2_with fail
        go_ret
        rw [HR.out, decide_eq_false H5.out]
        exact ⟨by simp, HG.out⟩
    · have b2 : (v2 == u2) = false := by simpa using e2
      have H5 := Lib.hid e2
      clear e2 hq0
      go_enter Tryz.func13, Tryz.ntmps13
      go_wp2_with fail
      go_ret
      rw [HR.out, decide_eq_false H5.out]
      exact ⟨by simp, HG.out⟩
  · have b1 : (v1 == u1) = false := by simpa using e1
    have H5 := Lib.hid e1
    clear e1 hq0
    go_enter Tryz.func13, Tryz.ntmps13
    go_wp2_with fail
    go_ret
    rw [HR.out, decide_eq_false H5.out]
    exact ⟨by simp, HG.out⟩
end Go.Proofs.YtnknihmchmmenaaGreat

namespace Go.Proofs.YtnknihmchmmenaaGreat
set_option linter.unusedVariables false
set_option linter.unusedSimpArgs false
open Go Go.RowKit Go.Deep

set_option maxRecDepth 10000 in
set_option maxHeartbeats 2000000 in
theorem EqualV_any (w : World) (S T : Nat → Prop) (a a' : Option Addr) (c c' : Nat) (l m : List Val) (h : Rd (.slice valueSh) w S [.slice a l.length c] l) (h' : Rd (.slice valueSh) w T [.slice a' m.length c'] m) :
    Calls Tryz.prog 136 #[.slice a l.length c, .slice a' m.length c'] w (Looks w (.bool (decide (l = m)))) := by
  have HG := Lib.hid (And.intro h h')
  clear h h'
  obtain ⟨res, hres⟩ : ∃ res : Bool, res = decide (l = m) := ⟨_, rfl⟩
  rw [← hres]
  have HR := Lib.hid hres
  clear hres
  by_cases hlen : l.length = m.length
  · have e0 : ((l.length : Int) != (m.length : Int)) = false := by simp; exact_mod_cast hlen
    have HE := Lib.hid hlen
    clear hlen
    go_enter Tryz.func136, Tryz.ntmps136
    go_wp2_with fail
    go_loopw [13] (fun i wr => ∃ k n : Nat, k ≤ l.length ∧ i = .int .i64 k ∧ wr = w.drewN n ∧ RowKit.Hid (l.take k = m.take k)) (fun i _ => l.length - (intOf i).toNat)
    case atStart => exact ⟨0, 0, by omega, rfl, rfl, (by show l.take 0 = m.take 0; simp)⟩
    case round =>
      obtain ⟨k, n, hk, rfl, rfl, ha⟩ := hrel
      by_cases hlt : k < l.length
      · have hlm : k < m.length := by have := HE.out; omega
        have j1 : (k : Int) < l.length := by omega
        have j2 : (k : Int) < m.length := by omega
        have j0 : (0 : Int) ≤ k := by omega
        have j3 : (k : Int) ≤ 9223372036854775806 := by have := (vals_len HG.out.1).2; omega
        obtain ⟨b, off, rfl, -, -, r0, r1, r2, -⟩ := vals_get HG.out.1 k hlt
        obtain ⟨b', off', rfl, -, -, s0, s1, s2, -⟩ := vals_get HG.out.2 k hlm
        have hq := fun w => run_neq_value w l[k] m[k]
        have hn1 : l[k] = m[k] → l.take (k + 1) = m.take (k + 1) := fun e => by
          rw [List.take_succ_eq_append_getElem hlt, List.take_succ_eq_append_getElem hlm, ha.out, e]
        have hn2 : l[k] ≠ m[k] → l ≠ m := fun e hh => e (by subst hh; rfl)
        have HX := Lib.hid (And.intro hlt (And.intro hn1 hn2))
        obtain ⟨ne, hne⟩ : ∃ ne : Bool, ne = decide (l[k] ≠ m[k]) := ⟨_, rfl⟩
        rw [← hne] at hq
        have HNE := Lib.hid hne
        clear hne hn1 hn2 hk
        have e1 : l[k].1 = l[k].kind := rfl
        have e2 : l[k].2.1 = l[k].num := rfl
        have e3 : l[k].2.2.1 = l[k].text := rfl
        have e4 : m[k].1 = m[k].kind := rfl
        have e5 : m[k].2.1 = m[k].num := rfl
        have e6 : m[k].2.2.1 = m[k].text := rfl
        rw [e1, e2, e3, e4, e5, e6] at hq
        generalize l[k].kind = y1 at *
        generalize l[k].num = y2 at *
        generalize l[k].text = y3 at *
        generalize m[k].kind = z1 at *
        generalize m[k].num = z2 at *
        generalize m[k].text = z3 at *
        clear e1 e2 e3 e4 e5 e6
        cases ne with
        | false =>
          go_wp2_with fail
          go_quiet (fail)
          go_wp2_with fail
          go_roundw
          case rel => exact ⟨k + 1, _, by have := HX.out.1; omega, by simp, by first | rfl | trivial, HX.out.2.1 (by have := HNE.out; simpa using this)⟩
          case measure => simp [intOf]; have := HX.out.1; omega
        | true =>
          go_wp2_with fail
          go_quiet (fail)
          go_wp2_with fail
          go_ret
          have h5 : l ≠ m := HX.out.2.2 (of_decide_eq_true HNE.out.symm)
          rw [HR.out, decide_eq_false h5]
          exact ⟨n + _, rfl, by first | rfl | (simp; rfl) | simp⟩
      · obtain rfl : k = l.length := by omega
        have h5 : l = m := by
          have h6 := ha.out
          rw [List.take_length, HE.out, List.take_length] at h6
          exact h6
        have H5 := Lib.hid h5
        clear h5 hk hlt ha
        go_wp2_with fail
        go_ret
        rw [HR.out, decide_eq_true H5.out]
        exact ⟨_, rfl, rfl⟩
  · have e0 : ((l.length : Int) != (m.length : Int)) = true := by simp; exact_mod_cast hlen
    have hne : ¬ l = m := fun hh => hlen (by rw [hh])
    have HN := Lib.hid hne
    clear hne hlen
    go_enter Tryz.func136, Tryz.ntmps136
    go_wp2_with fail
    go_ret
    rw [HR.out, decide_eq_false HN.out]
    exact ⟨0, rfl, rfl⟩

set_option maxRecDepth 10000 in
set_option maxHeartbeats 2000000 in
theorem rqEqual_any (w : World) (S T : Nat → Prop) (cs ds : List Value) (q r : Req) (h : Rd requestSh w S cs q) (h' : Rd requestSh w T ds r) :
    Calls Tryz.prog 88 #[.agg cs.toArray, .agg ds.toArray] w (Says w (q.eqb r)) := by
  obtain ⟨a, c, rfl, h4, -⟩ := req_cells h
  obtain ⟨a', c', rfl, h4', -⟩ := req_cells h'
  clear h h'
  have K2 : Keep No w ((w.alloc (.cells #[.int .i64 q.client, .int .u64 q.token, .string q.name, .slice a q.args.length c] 33)).alloc (.cells #[.int .i64 r.client, .int .u64 r.token, .string r.name, .slice a' r.args.length c'] 33)) := ((Keep.refl No w).alloc _).alloc _
  have hv := (EqualV_any _ S T a a' c c' q.args r.args (h4.agree _ K2.agreeNo) (h4'.agree _ K2.agreeNo)).mono (R' := fun e w3 => e = .returned (.bool (decide (q.args = r.args))) ∧ RowKit.Hid (Keep No w w3)) (by
    rintro e w3 ⟨n, rfl, rfl⟩
    exact ⟨rfl, K2.drewN n⟩)
  have HG := Lib.hid K2
  have he : q.eqb r = (decide (q.client = r.client) && decide (q.token = r.token) && decide (q.name = r.name) && decide (q.args = r.args)) := rfl
  rw [he]
  clear he K2 h4 h4'
  generalize decide (q.args = r.args) = d4 at *
  generalize q.client = v1 at *
  generalize q.token = v2 at *
  generalize q.name = v3 at *
  generalize r.client = u1 at *
  generalize r.token = u2 at *
  generalize r.name = u3 at *
  generalize q.args.length = m1 at *
  generalize r.args.length = m2 at *
  obtain ⟨res, hres⟩ : ∃ res : Bool, res = (decide (v1 = u1) && decide (v2 = u2) && decide (v3 = u3) && d4) := ⟨_, rfl⟩
  rw [← hres]
  have HR := Lib.hid hres
  clear hres
  by_cases e1 : v1 = u1
  · subst e1
    by_cases e2 : v2 = u2
    · subst e2
      by_cases e3 : v3 = u3
      · subst e3
        go_enter Tryz.func88, Tryz.ntmps88
        go_wp2_with (go_at_call 136; refine hv.mono ?_; clear hv; rintro e w3 ⟨rfl, HK3⟩)
        go_ret
        rw [HR.out]
        exact ⟨by simp, HK3.out⟩
      · have b3 : (v3.toList == u3.toList) = false := bytes_ne e3
        have H5 := Lib.hid e3
        clear e3 hv
        go_enter Tryz.func88, Tryz.ntmps88
        go_wp2_with fail
        go_ret
        rw [HR.out, decide_eq_false H5.out]
        exact ⟨by simp, HG.out⟩
    · have b2 : (v2 == u2) = false := by simpa using e2
      have H5 := Lib.hid e2
      clear e2 hv
      go_enter Tryz.func88, Tryz.ntmps88
      go_wp2_with fail
      go_ret
      rw [HR.out, decide_eq_false H5.out]
      exact ⟨by simp, HG.out⟩
  · have b1 : (v1 == u1) = false := by simpa using e1
    have H5 := Lib.hid e1
    clear e1 hv
    go_enter Tryz.func88, Tryz.ntmps88
    go_wp2_with fail
    go_ret
    rw [HR.out, decide_eq_false H5.out]
    exact ⟨by simp, HG.out⟩

set_option maxRecDepth 10000 in
set_option maxHeartbeats 2000000 in
theorem sEqual_any (w : World) (S T : Nat → Prop) (cs ds : List Value) (x y : Ent) (h : Rd entrySh w S cs x) (h' : Rd entrySh w T ds y) :
    Calls Tryz.prog 26 #[.agg cs.toArray, .agg ds.toArray] w (Says w (x.eqb y)) := by
  obtain ⟨a1, c1, a2, c2, a3, c3, rfl, hq1, hf1, -⟩ := ent_open h
  obtain ⟨b1, d1, b2, d2, b3, d3, rfl, hq2, hf2, -⟩ := ent_open h'
  clear h h'
  obtain ⟨A, hA⟩ : ∃ A : Array Value, A = #[.int .i64 x.seq, .int .i64 x.epoch, .int .i64 x.plan.client, .int .u64 x.plan.token, .string x.plan.name, .slice a1 x.plan.args.length c1, .int .i64 x.plan.how, .slice a2 x.plan.reads.length c2, .slice a3 x.plan.writes.length c3] := ⟨_, rfl⟩
  obtain ⟨B, hB⟩ : ∃ B : Array Value, B = #[.int .i64 y.seq, .int .i64 y.epoch, .int .i64 y.plan.client, .int .u64 y.plan.token, .string y.plan.name, .slice b1 y.plan.args.length d1, .int .i64 y.plan.how, .slice b2 y.plan.reads.length d2, .slice b3 y.plan.writes.length d3] := ⟨_, rfl⟩
  have K2 : Keep No w ((w.alloc (.cells A 40)).alloc (.cells B 40)) := ((Keep.refl No w).alloc _).alloc _
  have x1 := blk_alloc (o' := .cells B 40) (blk_new w (.cells A 40))
  have x2 := blk_new (w.alloc (.cells A 40)) (.cells B 40)
  simp only [World.size_alloc] at x2
  have hq := fun (W : World) (hk : Keep No w W) (k1 : W.heap[w.heap.size]? = some (.cells A 40 (0, 0))) (k2 : W.heap[w.heap.size + 1]? = some (.cells B 40 (0, 0))) => (rqEqual_any W S T _ _ _ _ (hq1.agree _ hk.agreeNo) (hq2.agree _ hk.agreeNo)).mono (R' := fun e w3 => e = .returned (.bool (x.plan.req.eqb y.plan.req)) ∧ w3.heap[w.heap.size]? = some (.cells A 40 (0, 0)) ∧ w3.heap[w.heap.size + 1]? = some (.cells B 40 (0, 0)) ∧ RowKit.Hid (Keep No w w3)) (by
    rintro e w3 ⟨rfl, hk3⟩
    exact ⟨rfl, hk3.blk k1 (fun x => x), hk3.blk k2 (fun x => x), hk.trans hk3⟩)
  have hf := fun (W : World) (hk : Keep No w W) => (same_any W S T _ _ _ _ _ _ (hf1.keep hk) (hf2.keep hk)).mono (R' := fun e w3 => e = .returned (.bool (x.plan.fp.eqb y.plan.fp)) ∧ RowKit.Hid (Keep No w w3)) (by
    rintro e w3 ⟨rfl, hk3⟩
    exact ⟨rfl, hk.trans hk3⟩)
  subst hA
  subst hB
  have hq0 := hq _ K2 x1 x2
  have HF := Lib.hid hf
  have HG := Lib.hid K2
  have he : x.eqb y = (decide (x.seq = y.seq) && decide (x.epoch = y.epoch) && decide (x.plan.how = y.plan.how) && x.plan.req.eqb y.plan.req && x.plan.fp.eqb y.plan.fp) := rfl
  rw [he]
  clear he K2 x1 x2 hq hf hq1 hq2 hf1 hf2
  generalize x.plan.req.eqb y.plan.req = r1 at *
  generalize x.plan.fp.eqb y.plan.fp = r2 at *
  generalize x.seq = v1 at *
  generalize x.epoch = v2 at *
  generalize x.plan.client = v3 at *
  generalize x.plan.token = v4 at *
  generalize x.plan.name = v5 at *
  generalize x.plan.how = v6 at *
  generalize x.plan.args.length = v7 at *
  generalize x.plan.reads.length = v8 at *
  generalize x.plan.writes.length = v9 at *
  generalize y.seq = u1 at *
  generalize y.epoch = u2 at *
  generalize y.plan.client = u3 at *
  generalize y.plan.token = u4 at *
  generalize y.plan.name = u5 at *
  generalize y.plan.how = u6 at *
  generalize y.plan.args.length = u7 at *
  generalize y.plan.reads.length = u8 at *
  generalize y.plan.writes.length = u9 at *
  obtain ⟨res, hres⟩ : ∃ res : Bool, res = (decide (v1 = u1) && decide (v2 = u2) && decide (v6 = u6) && r1 && r2) := ⟨_, rfl⟩
  rw [← hres]
  have HR := Lib.hid hres
  clear hres
  by_cases e1 : v1 = u1
  · subst e1
    by_cases e2 : v2 = u2
    · subst e2
      by_cases e3 : v6 = u6
      · subst e3
        cases r1 with
        | true =>
          cases r2 with
          | true =>
            go_enter Tryz.func26, Tryz.ntmps26
            go_wp2_with (first | (go_at_call 88; refine hq0.mono ?_; clear hq0; rintro e w3 ⟨rfl, z1, z2, HK3⟩; have q1 := blk_cell z1; have q2 := blk_cell z2) | (go_at_call 89; refine (HF.out _ HK3.out).mono ?_; rintro e w4 ⟨rfl, HK4⟩))
            go_ret
            rw [HR.out]
            exact ⟨by simp, HK4.out⟩
          | false =>
            go_enter Tryz.func26, Tryz.ntmps26
            go_wp2_with (first | (go_at_call 88; refine hq0.mono ?_; clear hq0; rintro e w3 ⟨rfl, z1, z2, HK3⟩; have q1 := blk_cell z1; have q2 := blk_cell z2) | (go_at_call 89; refine (HF.out _ HK3.out).mono ?_; rintro e w4 ⟨rfl, HK4⟩))
            go_ret
            rw [HR.out]
            exact ⟨by simp, HK4.out⟩
        | false =>
          go_enter Tryz.func26, Tryz.ntmps26
          go_wp2_with (go_at_call 88; refine hq0.mono ?_; clear hq0; rintro e w3 ⟨rfl, z1, z2, HK3⟩)
          go_ret
          rw [HR.out]
          exact ⟨by simp, HK3.out⟩
      · have b3 : (v6 == u6) = false := by simpa using e3
        have H5 := Lib.hid e3
        clear e3 hq0
        go_enter Tryz.func26, Tryz.ntmps26
        go_wp2_with fail
        go_ret
        rw [HR.out, decide_eq_false H5.out]
        exact ⟨by simp, HG.out⟩
    · have b2 : (v2 == u2) = false := by simpa using e2
      have H5 := Lib.hid e2
      clear e2 hq0
      go_enter Tryz.func26, Tryz.ntmps26
      go_wp2_with fail
      go_ret
      rw [HR.out, decide_eq_false H5.out]
      exact ⟨by simp, HG.out⟩
  · have b1 : (v1 == u1) = false := by simpa using e1
    have H5 := Lib.hid e1
    clear e1 hq0
    go_enter Tryz.func26, Tryz.ntmps26
    go_wp2_with fail
    go_ret
    rw [HR.out, decide_eq_false H5.out]
    exact ⟨by simp, HG.out⟩
end Go.Proofs.YtnknihmchmmenaaGreat
