/-
  The document's entries: the entry of bytes.
-/
import Derived.Test.YtnknihmchmmenaaGreatGA
import Derived.Test.YtnknihmchmmenaaGreatGC
import Derived.Test.YtnknihmchmmenaaGreatGD
import Derived.Test.YtnknihmchmmenaaGreatGE
import Derived.Test.YtnknihmchmmenaaGreatGF
import Derived.Test.YtnknihmchmmenaaGreatGG
import Derived.Test.YtnknihmchmmenaaGreatGH
import Derived.Test.YtnknihmchmmenaaGreatGI
import Derived.Test.YtnknihmchmmenaaGreatGJ
import Derived.Test.YtnknihmchmmenaaGreatGK
import Derived.Test.YtnknihmchmmenaaGreatGL
import Derived.Test.YtnknihmchmmenaaGreatGN
import Derived.Test.YtnknihmchmmenaaGreatGT
import Derived.Test.YtnknihmchmmenaaGreatGW
import Derived.Test.YtnknihmchmmenaaGreatGZ
import Derived.Test.YtnknihmchmmenaaGreatGX
import Derived.Test.YtnknihmchmmenaaGreatHA
import Derived.Test.YtnknihmchmmenaaGreatHD
import Derived.Test.YtnknihmchmmenaaGreatHJ
import Derived.Test.YtnknihmchmmenaaGreatHT
import Derived.Test.YtnknihmchmmenaaGreatHU
import Derived.WalkKit
import Derived.WalkSpells
import Derived.WalkLawsBesides
import Derived.ProofKit
import Derived.Deep.Slices
import Derived.Deep.AppendSrc
import Derived.Lib.Hide
import Derived.Still
import Derived.StillTactics
import Derived.Recover
import Derived.Defers
import Derived.Deep.QuietTactic
import Derived.BigQuiet
import Derived.Handy
import Derived.Laws.Bits64b
import Derived.Lib.Zigzag
import Derived.OwnWalk
import Derived.Deep.DeepCutAuto
import Derived.Lib.Bytealg
import Derived.Laws.Externs
import Derived.Deep.LoopGhost
import Derived.Laws.CopyRow
import Derived.Laws.IdiomCopy
import Derived.Maps.OwnSet
import Derived.Maps.RangeWalk
import Derived.Shelf.SortM.Plain
import Derived.Shelf.SortM.SortNone
import Derived.Ground.SlgmProg
import Derived.Maps.OwnOps
import Derived.Lib.ConvBytes
namespace Go.Proofs.YtnknihmchmmenaaGreat
set_option linter.unusedVariables false
set_option linter.unusedSimpArgs false
open Go Go.RowKit Go.Deep

/-- while an entry is read: the reader, the result's block, the entry's own block -/
structure RGet (w : World) (B E : Nat) (S : Nat → Prop) (v vr : Value) (b : Bytes) (ec : Array Value) (wr : World) (r : Rs) : Prop where
  keep : Keep No w wr
  g0 : wr.heap[w.heap.size]? = some (.cells #[.int .i64 0, .int .i64 0, .int .i64 0, .int .u64 0, .string ⟨#[]⟩, .slice none 0 0, .int .i64 0, .slice none 0 0, .slice none 0 0] 40 (0, 0))
  e0 : wr.heap[E]? = some (.cells ec 40 (0, 0))
  rd : RdrAt 142 wr B S vr r
  Bw : w.heap.size < B
  BE : B < E
  SE : ¬ S E
  rb : r.b = b
  bv : Rd bytesSh wr (Lt w.heap.size) [v] b
theorem RGet.read {w : World} {B E : Nat} {S : Nat → Prop} {v vr : Value} {b : Bytes} {ec : Array Value} {wr : World} {r : Rs} (h : RGet w B E S v vr b ec wr r) {x : Value} {r' : Rs} {e : Ending} {w' : World} (hr : Reads 142 wr B S vr x r' e w') (hb : r'.b = r.b) : RGet w B E S v vr b ec w' r' := by
  obtain ⟨-, h1, hk⟩ := hr
  have hB := h.Bw
  have hE := h.BE
  exact ⟨h.keep.then hk fun i hi e => by (have : i = B := e; omega), hk.blk h.g0 (fun e => by have : w.heap.size = B := e; omega), hk.blk h.e0 (fun e => by have : E = B := e; omega), h1, hB, hE, h.SE, hb.trans h.rb, h.bv.agree _ (hk.agree fun i _ hi e => by (have : i = B := e; have : i < w.heap.size := hi; omega))⟩
theorem RGet.more {w : World} {B E : Nat} {S : Nat → Prop} {v vr : Value} {b : Bytes} {ec : Array Value} {wr w' : World} {r : Rs} (h : RGet w B E S v vr b ec wr r) (hk : Keep No wr w') : RGet w B E S v vr b ec w' r :=
  ⟨h.keep.trans hk, hk.blk h.g0 (fun x => x), hk.blk h.e0 (fun x => x), h.rd.agree hk, h.Bw, h.BE, h.SE, h.rb, h.bv.agree _ hk.agreeNo⟩
theorem RGet.set {w : World} {B E : Nat} {S : Nat → Prop} {v vr : Value} {b : Bytes} {ec : Array Value} {wr : World} {r : Rs} (h : RGet w B E S v vr b ec wr r) (i : Nat) (x : Value) : RGet w B E S v vr b (ec.setIfInBounds i x) (wr.setCell ⟨E, i, none⟩ x) r := by
  have ks := keep_set wr E i x
  have hB := h.Bw
  have hE := h.BE
  exact ⟨h.keep.then ks fun j hj e => by (have : j = E := e; omega), ks.blk h.g0 (fun e => by have : w.heap.size = E := e; omega), blk_set h.e0 i x,
    ⟨ks.blk h.rd.blk (fun e => by have : B = E := e; omega), h.rd.rd.lowT ks (fun k hS e => h.SE (by cases (show k = E from e); exact hS)), h.rd.nB, h.rd.ok, h.rd.pl⟩, hB, hE, h.SE, h.rb, h.bv.agree _ (ks.agree fun j _ hj e => by (have : j = E := e; have : j < w.heap.size := hj; omega))⟩

/-- .. and its request is there -/
structure RGetQ (w : World) (B E : Nat) (S : Nat → Prop) (v vr : Value) (b : Bytes) (ec : Array Value) (r : Rs) (F : Nat) (q : Req) (a : Option Addr) (n c : Nat) (wr : World) : Prop where
  ent : RGet w B E S v vr b ec wr r
  blk : wr.heap[F]? = some (.cells #[.int .i64 q.client, .int .u64 q.token, .string q.name, .slice a n c] 33 (0, 0))
  own : Rd (.slice valueSh) wr (Up (E + 1)) [.slice a n c] q.args
  EF : E < F
theorem RGetQ.more {w : World} {B E : Nat} {S : Nat → Prop} {v vr : Value} {b : Bytes} {ec : Array Value} {r : Rs} {F : Nat} {q : Req} {a : Option Addr} {n c : Nat} {wr w' : World} (h : RGetQ w B E S v vr b ec r F q a n c wr) (hk : Keep No wr w') : RGetQ w B E S v vr b ec r F q a n c w' :=
  ⟨h.ent.more hk, hk.blk h.blk (fun x => x), h.own.agree _ hk.agreeNo, h.EF⟩
/-- .. and its footprint -/
structure RGetF (w : World) (B E : Nat) (S : Nat → Prop) (v vr : Value) (b : Bytes) (ec : Array Value) (r : Rs) (F : Nat) (q : Req) (a : Option Addr) (n c : Nat) (F2 : Nat) (f : Fp) (u1 u2 : Value) (wr : World) : Prop where
  q : RGetQ w B E S v vr b ec r F q a n c wr
  blk : wr.heap[F2]? = some (.cells #[u1, u2] 36 (0, 0))
  two : FpAt wr (Up (E + 1)) u1 u2 f
  EF2 : E < F2
theorem RGetF.more {w : World} {B E : Nat} {S : Nat → Prop} {v vr : Value} {b : Bytes} {ec : Array Value} {r : Rs} {F : Nat} {q : Req} {a : Option Addr} {n c F2 : Nat} {f : Fp} {u1 u2 : Value} {wr w' : World} (h : RGetF w B E S v vr b ec r F q a n c F2 f u1 u2 wr) (hk : Keep No wr w') : RGetF w B E S v vr b ec r F q a n c F2 f u1 u2 w' :=
  ⟨h.q.more hk, hk.blk h.blk (fun x => x), h.two.keep hk, h.EF2⟩

theorem RGetQ.feet {w : World} {B E : Nat} {S : Nat → Prop} {v vr : Value} {b : Bytes} {ec : Array Value} {r : Rs} {F : Nat} {q : Req} {a : Option Addr} {n c : Nat} {w0 wr : World} (h : RGetQ w B E S v vr b ec r F q a n c wr) {f : Fp} {u1 u2 : Value} (ho : OwnF w0 wr u1 u2 f) (h0 : E < w0.heap.size) (h1 : w0.heap.size ≤ wr.heap.size) :
    RGetF w B E S v vr b ec r F q a n c wr.heap.size f u1 u2 (wr.alloc (.cells #[u1, u2] 36)) := by
  have hk := (Keep.refl No wr).alloc (.cells #[u1, u2] 36)
  exact ⟨h.more hk, blk_new _ _, (ho.at'.mono fun i _ hi => by have := hi.1; show E + 1 ≤ i; omega).keep hk, by omega⟩

set_option maxRecDepth 10000 in
set_option maxHeartbeats 8000000 in
theorem rgetEnt_any (w : World) (S : Nat → Prop) (v : Value) (b : Bytes) (h : Rd bytesSh w S [v] b) (hl : b.length ≤ 140737488355328) :
    Calls Tryz.prog 23 #[v] w (GivesEI w (entGetR b)) := by
  have K1 : Keep No w (w.alloc (.cells #[.int .i64 0, .int .i64 0, .int .i64 0, .int .u64 0, .string ⟨#[]⟩, .slice none 0 0, .int .i64 0, .slice none 0 0, .slice none 0 0] 40)) := (Keep.refl No w).alloc _
  have hnew := (rNew_any _ S v b (h.agree _ K1.agreeNo) hl).mono (R' := fun e w2 => ∃ B Sr vr, e = .returned (.pointer (some ⟨B, 0, none⟩)) ∧ RowKit.Hid (RGet w B w2.heap.size Sr v vr b #[.int .i64 0, .int .i64 0, .int .i64 0, .int .u64 0, .string ⟨#[]⟩, .slice none 0 0, .int .i64 0, .slice none 0 0, .slice none 0 0] (w2.alloc (.cells #[.int .i64 0, .int .i64 0, .int .i64 0, .int .u64 0, .string ⟨#[]⟩, .slice none 0 0, .int .i64 0, .slice none 0 0, .slice none 0 0] 40)) (Rs.new b))) (by
    rintro e w2 ⟨B, vr, rfl, hB, hr, hk⟩
    simp only [World.size_alloc] at hB hr
    have ka := (Keep.refl No w2).alloc (.cells #[.int .i64 0, .int .i64 0, .int .i64 0, .int .u64 0, .string ⟨#[]⟩, .slice none 0 0, .int .i64 0, .slice none 0 0, .slice none 0 0] 40)
    exact ⟨B, _, vr, rfl, (K1.trans hk).trans ka, blk_alloc (hk.blk (blk_new w _) (fun x => x)), blk_new w2 _, hr.agree ka, by omega, hr.lt, fun hs => by have := hs.2; have := hr.lt; omega, rfl, (h.mono _ (T := Lt w.heap.size) (fun i hi _ => hi)).agree _ ((K1.trans hk).trans ka).agreeNo⟩)
  have hres : entGetR b = entGetR b := rfl
  conv at hres => rhs; unfold entGetR
  simp only at hres
  obtain ⟨a0, c0, rfl, -⟩ := bytes_at h
  have h63 : b.length ≤ 140737488355328 := hl
  have HR := Lib.hid hres
  clear h K1 hl hres
  generalize entGetR b = res at *
  go_enter Tryz.func23, Tryz.ntmps23
  go_wp2_with fail
  refine hnew.mono ?_
  clear hnew
  rintro e w1 ⟨B, Sr, vr, rfl, H2⟩
  go_upto_region 3 with fail
  generalize (w1.alloc (.cells #[.int .i64 0, .int .i64 0, .int .i64 0, .int .u64 0, .string ⟨#[]⟩, .slice none 0 0, .int .i64 0, .slice none 0 0, .slice none 0 0] 40)) = w2 at *
  generalize w1.heap.size = E at *
  go_wp2_with fail
  refine (rUint_any w2 B _ vr _ H2.out.rd).mono ?_
  rintro e w3 hr3
  obtain ⟨rfl, -⟩ := id hr3
  have H3 := Lib.hid (H2.out.read hr3 (uint_b _))
  have l3 := uint_lt H2.out.rd.ok
  clear hr3 H2
  generalize (Rs.new b).uint.1 = s at *
  generalize (Rs.new b).uint.2 = r1 at *
  go_wp2_with fail
  refine (rUint_any w3 B _ vr _ H3.out.rd).mono ?_
  rintro e w4 hr4
  obtain ⟨rfl, -⟩ := id hr4
  have H4 := Lib.hid (H3.out.read hr4 (uint_b _))
  have l4 := uint_lt H3.out.rd.ok
  clear hr4 H3
  generalize r1.uint.1 = ep at *
  generalize r1.uint.2 = r2 at *
  go_wp2_with fail
  refine (rText_any w4 B _ vr _ H4.out.rd 1073741824 (by omega) (by omega)).mono ?_
  rintro e w5 hr5
  obtain ⟨rfl, -⟩ := id hr5
  have H5 := Lib.hid (H4.out.read hr5 (text_b _ _))
  have l5 : (r2.text 1073741824).1.size ≤ 1073741824 := text_le r2 1073741824
  clear hr5 H4
  generalize (r2.text 1073741824).1 = t at *
  generalize (r2.text 1073741824).2 = r3 at *
  go_wp2_with fail
  refine (rByte_any w5 B _ vr _ H5.out.rd).mono ?_
  rintro e w6 hr6
  obtain ⟨rfl, -⟩ := id hr6
  have H6 := Lib.hid (H5.out.read hr6 (byte_b _))
  have l6 := byte_range H5.out.rd.ok
  clear hr6 H5
  generalize r3.byte.1 = hw at *
  generalize r3.byte.2 = r4 at *
  go_upto_region 6 with fail
  obtain ⟨c0', c1, c2, c3, c4, z3, z4⟩ := H6.out.rd.cells
  obtain ⟨bad, hbad⟩ : ∃ bad : Bool, bad = decide (r4.err ≠ 0 ∨ 2 ^ 63 ≤ s ∨ 2 ^ 63 ≤ ep) := ⟨_, rfl⟩
  have HBD := Lib.hid hbad
  have HL := Lib.hid (And.intro l3 (And.intro l4 (And.intro l5 (And.intro l6 h63))))
  clear hbad l3 l4 l5 l6 h63
  go_cut [39] (fun c wx => c = .bool bad ∧ wx = w6)
  case first =>
    by_cases h1 : r4.err = 0
    · rw [h1] at c3
      by_cases h2 : 2 ^ 63 ≤ s
      · have b2 : decide ((9223372036854775808 : Int) ≤ (s : Int)) = true := by simp; omega
        have e := Lib.hid (HBD.out.trans (decide_eq_true (.inr (.inl h2))))
        clear h1 h2
        go_wp2_with fail
        go_meet
        case rel => exact ⟨by rw [e.out], rfl⟩
      · have b2 : decide ((9223372036854775808 : Int) ≤ (s : Int)) = false := by simp; omega
        by_cases h3 : 2 ^ 63 ≤ ep
        · have b3 : decide ((9223372036854775808 : Int) ≤ (ep : Int)) = true := by simp; omega
          have e := Lib.hid (HBD.out.trans (decide_eq_true (.inr (.inr h3))))
          clear h1 h2 h3
          go_wp2_with fail
          go_meet
          case rel => exact ⟨by rw [e.out], rfl⟩
        · have b3 : decide ((9223372036854775808 : Int) ≤ (ep : Int)) = false := by simp; omega
          have e := Lib.hid (HBD.out.trans (decide_eq_false (by omega)))
          clear h1 h2 h3
          go_wp2_with fail
          go_meet
          case rel => exact ⟨by rw [e.out], rfl⟩
    · have b1 : (r4.err != 0) = true := by simpa using h1
      have e := Lib.hid (HBD.out.trans (decide_eq_true (.inl h1)))
      clear h1
      go_wp2_with fail
      go_meet
      case rel => exact ⟨by rw [e.out], rfl⟩
  case rest =>
    obtain ⟨hc, rfl⟩ := hcut
    subst hc
    clear c0' c1 c2 c3 c4 z3 z4
    cases bad with
    | true =>
      have hr := HR.out
      rw [if_pos (of_decide_eq_true HBD.out.symm)] at hr
      have HRR := Lib.hid hr
      clear hr HR HBD
      have c2 := blk_cell H6.out.g0
      have f2 := blk_fro H6.out.g0
      go_wp2_with fail
      have u2 := blk_all9 H6.out.g0 (.int .i64 0) (.int .i64 0) (.int .i64 0) (.int .u64 0) (.string ⟨#[]⟩) (.slice none 0 0) (.int .i64 0) (.slice none 0 0) (.slice none 0 0)
      have k2 := keep_all9 wc w.heap.size (.int .i64 0) (.int .i64 0) (.int .i64 0) (.int .u64 0) (.string ⟨#[]⟩) (.slice none 0 0) (.int .i64 0) (.slice none 0 0) (.slice none 0 0)
      clear c2 f2
      have HK2 := Lib.hid k2
      clear k2
      generalize (((((((((wc.setCell ⟨w.heap.size, 0, none⟩ (.int .i64 0)).setCell ⟨w.heap.size, 1, none⟩ (.int .i64 0)).setCell ⟨w.heap.size, 2, none⟩ (.int .i64 0)).setCell ⟨w.heap.size, 3, none⟩ (.int .u64 0)).setCell ⟨w.heap.size, 4, none⟩ (.string ⟨#[]⟩)).setCell ⟨w.heap.size, 5, none⟩ (.slice none 0 0)).setCell ⟨w.heap.size, 6, none⟩ (.int .i64 0)).setCell ⟨w.heap.size, 7, none⟩ (.slice none 0 0)).setCell ⟨w.heap.size, 8, none⟩ (.slice none 0 0)) = wz at *
      have c5 := blk_cell u2
      refine bodyPost_ret (v := .tuple #[.agg #[.int .i64 0, .int .i64 0, .int .i64 0, .int .u64 0, .string ⟨#[]⟩, .slice none 0 0, .int .i64 0, .slice none 0 0, .slice none 0 0], .int .i64 123]) (by simp [results, Tryz.results23, go_sem, c5]) rfl ?_
      rw [HRR.out]
      exact ⟨_, rfl, rd_ent0 _ _, H6.out.keep.then HK2.out fun i hi e => by have : i = w.heap.size := e; omega⟩
    | false =>
      have hcond := of_decide_eq_false HBD.out.symm
      have hr := HR.out
      rw [if_neg hcond] at hr
      have HRR := Lib.hid hr
      clear hr HR HBD
      have hs63 : s < 2 ^ 63 := by omega
      have he63 : ep < 2 ^ 63 := by omega
      have hw1 : IntKind.i64.wrap (s : Int) = (s : Int) := by rw [IntKind.wrap_i64]; omega
      have hw2 : IntKind.i64.wrap (ep : Int) = (ep : Int) := by rw [IntKind.wrap_i64]; omega
      have e0 := blk_cell H6.out.e0
      have z0 := blk_fro H6.out.e0
      have H8 := Lib.hid ((H6.out.set 0 (.int .i64 s)).set 1 (.int .i64 ep))
      have HCD := Lib.hid (And.intro hcond (And.intro hs63 he63))
      clear hcond hs63 he63 H6
      go_upto_region 9 with fail
      clear e0 z0 hw1 hw2
      generalize ((wc.setCell ⟨E, 0, none⟩ (.int .i64 s)).setCell ⟨E, 1, none⟩ (.int .i64 ep)) = w8 at *
      have hec : ((#[.int .i64 0, .int .i64 0, .int .i64 0, .int .u64 0, .string ⟨#[]⟩, .slice none 0 0, .int .i64 0, .slice none 0 0, .slice none 0 0] : Array Value).setIfInBounds 0 (.int .i64 s)).setIfInBounds 1 (.int .i64 ep) = #[.int .i64 s, .int .i64 ep, .int .i64 0, .int .u64 0, .string ⟨#[]⟩, .slice none 0 0, .int .i64 0, .slice none 0 0, .slice none 0 0] := by simp
      rw [hec] at H8
      clear hec
      obtain ⟨c9, w9, hconv, hrd9, hk9, hs9⟩ := conv_bytes w8 t (by have := HL.out.2.2.1; omega)
      have hq := (rrqGet_any w9 _ _ _ hrd9).mono (R' := fun e w10 => ∃ a n c, e = .returned (.tuple #[.agg #[.int .i64 (reqGet (bytesOf t)).1.client, .int .u64 (reqGet (bytesOf t)).1.token, .string (reqGet (bytesOf t)).1.name, .slice a n c], .int .i64 (reqGet (bytesOf t)).2.1, .int .i64 (reqGet (bytesOf t)).2.2]) ∧ RowKit.Hid (Rd (.slice valueSh) w10 (Up (E + 1)) [.slice a n c] (reqGet (bytesOf t)).1.args ∧ RGet w B E Sr (.slice a0 b.length c0) vr b #[.int .i64 s, .int .i64 ep, .int .i64 0, .int .u64 0, .string ⟨#[]⟩, .slice none 0 0, .int .i64 0, .slice none 0 0, .slice none 0 0] w10 r4 ∧ E < w10.heap.size)) (by
        rintro e w10 ⟨a, n, c, rfl, ho, hk10⟩
        rw [reqGetR_eq] at ho ⊢
        have hE := blk_lt H8.out.e0
        have hs10 := hk10.size
        exact ⟨a, n, c, rfl, (Own.rd ho).mono _ fun i _ hi => by have := hi.1; show E + 1 ≤ i; omega, (H8.out.more hk9).more hk10, by omega⟩)
      clear hrd9 hk9 hs9 H8
      generalize hqq : reqGet (bytesOf t) = qq at *
      have HQQ := Lib.hid hqq
      clear hqq
      obtain ⟨q, qe, qa⟩ := qq
      simp only at hq
      go_wp2_with fail
      refine hq.mono ?_
      clear hq hconv
      rintro e w10 ⟨a1, n1, c1, rfl, H10⟩
      have HQ0 : RowKit.Hid (RGetQ w B E Sr (.slice a0 b.length c0) vr b #[.int .i64 s, .int .i64 ep, .int .i64 0, .int .u64 0, .string ⟨#[]⟩, .slice none 0 0, .int .i64 0, .slice none 0 0, .slice none 0 0] r4 w10.heap.size q a1 n1 c1 (w10.alloc (.cells #[.int .i64 q.client, .int .u64 q.token, .string q.name, .slice a1 n1 c1] 33))) := by
        obtain ⟨h1, h2, h3⟩ := H10.out
        have hk := (Keep.refl No w10).alloc (.cells #[.int .i64 q.client, .int .u64 q.token, .string q.name, .slice a1 n1 c1] 33)
        exact ⟨h2.more hk, blk_new _ _, h1.agree _ hk.agreeNo, h3⟩
      clear H10
      go_upto_region 10 with fail
      generalize w10.heap.size = F1 at *
      generalize (w10.alloc (.cells #[.int .i64 q.client, .int .u64 q.token, .string q.name, .slice a1 n1 c1] 33)) = w11 at *
      by_cases hqe : qe = 0
      · subst hqe
        have hr := HRR.out
        rw [if_neg (by simp)] at hr
        have HR2 := Lib.hid hr
        clear hr HRR
        go_upto_region 12 with fail
        generalize hft : footGet r4.rest = ft at *
        have HFT := Lib.hid hft
        clear hft
        go_cut [13, 14, 15] (fun p n e wx => ∃ F2 a2 m2 c2 a3 m3 c3, p = .pointer (some ⟨F2, 0, none⟩) ∧ n = .int .i64 ft.2.1 ∧ e = .int .i64 ft.2.2 ∧ RowKit.Hid (RGetF w B E Sr (.slice a0 b.length c0) vr b #[.int .i64 s, .int .i64 ep, .int .i64 0, .int .u64 0, .string ⟨#[]⟩, .slice none 0 0, .int .i64 0, .slice none 0 0, .slice none 0 0] r4 F1 q a1 n1 c1 F2 ft.1 (.slice a2 m2 c2) (.slice a3 m3 c3) wx))
        case first =>
          go_wp2_with fail
          refine (rRest_any _ B _ vr r4 HQ0.out.ent.rd).mono ?_
          rintro e w12 ⟨nq2, rfl, rfl⟩
          have HQ1 := Lib.hid (HQ0.out.more ((Keep.refl No _).drewN nq2))
          generalize (w11.drewN nq2) = w12 at *
          have hbv := HQ1.out.ent.bv
          have hle : r4.left ≤ b.length := by
            have h1 := HQ1.out.ent.rb
            unfold Rs.left
            split
            · omega
            · rw [h1]; omega
          have hleft := left_drop HQ1.out.ent.rb (Classical.byContradiction fun hh => HCD.out.1 (.inl hh))
          obtain ⟨lo, hlo⟩ : ∃ lo, lo = b.length - r4.left := ⟨_, rfl⟩
          have hlob : lo ≤ b.length := by omega
          have hfe : footGet (b.drop lo) = ft := by rw [← HFT.out, hleft.1, hlo]
          have hfeet := fun (u : Value) (hu : Rd bytesSh w12 (Lt w.heap.size) [u] (b.drop lo)) => (rfGet_any w12 _ u _ hu (by have := HL.out.2.2.2.2; simp; omega)).mono (R' := fun e w13 => ∃ a n c a' n' c', e = .returned (.tuple #[.agg #[.slice a n c, .slice a' n' c'], .int .i64 ft.2.1, .int .i64 ft.2.2]) ∧ RowKit.Hid (OwnF w12 w13 (.slice a n c) (.slice a' n' c') ft.1 ∧ Keep No w12 w13 ∧ RGetQ w B E Sr (.slice a0 b.length c0) vr b #[.int .i64 s, .int .i64 ep, .int .i64 0, .int .u64 0, .string ⟨#[]⟩, .slice none 0 0, .int .i64 0, .slice none 0 0, .slice none 0 0] r4 F1 q a1 n1 c1 w13)) (by
            rintro e w13 ⟨a, n, c, a', n', c', rfl, ho, hk⟩
            rw [footGetR_eq, hfe] at ho
            rw [footGetR_eq, hfe]
            exact ⟨a, n, c, a', n', c', rfl, ho, hk, HQ1.out.more hk⟩)
          obtain ⟨hf1, hf2⟩ := rd_from hbv lo hlob
          have HFE := Lib.hid (And.intro hfeet (And.intro hf1 (And.intro hf2 (And.intro hlo hleft))))
          have hsub0 : (b.length : Int) - (r4.left : Int) = (lo : Int) := by omega
          have hw64 : wrap64 (lo : Int) = (lo : Int) := by unfold wrap64; have := HL.out.2.2.2.2; omega
          clear hbv hle hleft hfeet hf1 hf2
          generalize r4.left = lf at *
          clear hlo
          have hE12 := Lib.hid (blk_lt HQ1.out.ent.e0)
          by_cases hcl : c0 = lo
          · subst hcl
            go_wp2_with fail
            refine (HFE.out.1 _ (HFE.out.2.1 (by first | rfl | trivial))).mono ?_
            rintro e w13 ⟨a2, m2, c2, a3, m3, c3, rfl, HF⟩
            go_wp2_with fail
            go_meet
            case rel => exact ⟨_, _, _, _, _, _, _, rfl, rfl, rfl, HF.out.2.2.feet HF.out.1 hE12.out HF.out.2.1.size⟩
          · go_wp2_with fail
            refine (HFE.out.1 _ (HFE.out.2.2.1 hcl)).mono ?_
            rintro e w13 ⟨a2, m2, c2, a3, m3, c3, rfl, HF⟩
            go_wp2_with fail
            go_meet
            case rel => exact ⟨_, _, _, _, _, _, _, rfl, rfl, rfl, HF.out.2.2.feet HF.out.1 hE12.out HF.out.2.1.size⟩
        case rest =>
          obtain ⟨F2, a2, m2, c2, a3, m3, c3, rfl, rfl, rfl, HG⟩ := hcut
          obtain ⟨bad2, hbad2⟩ : ∃ bad : Bool, bad = decide (ft.2.2 ≠ 0 ∨ ft.2.1 ≠ r4.left) := ⟨_, rfl⟩
          have HB2 := Lib.hid hbad2
          clear hbad2 HQ0
          have HLF : RowKit.Hid (∀ W, RGetF w B E Sr (.slice a0 b.length c0) vr b #[.int .i64 s, .int .i64 ep, .int .i64 0, .int .u64 0, .string ⟨#[]⟩, .slice none 0 0, .int .i64 0, .slice none 0 0, .slice none 0 0] r4 F1 q a1 n1 c1 F2 ft.1 (.slice a2 m2 c2) (.slice a3 m3 c3) W → Calls Tryz.prog 87 #[.pointer (some ⟨B, 0, none⟩)] W fun e w' => e = .returned (.int .i64 r4.left) ∧ RowKit.Hid (RGetF w B E Sr (.slice a0 b.length c0) vr b #[.int .i64 s, .int .i64 ep, .int .i64 0, .int .u64 0, .string ⟨#[]⟩, .slice none 0 0, .int .i64 0, .slice none 0 0, .slice none 0 0] r4 F1 q a1 n1 c1 F2 ft.1 (.slice a2 m2 c2) (.slice a3 m3 c3) w')) := fun W hW => (rRest_any W B _ vr r4 hW.q.ent.rd).mono (by
            rintro e w' ⟨nq, rfl, rfl⟩
            exact ⟨rfl, hW.more ((Keep.refl No W).drewN nq)⟩)
          generalize hf1 : ft.2.1 = fn at *
          generalize hf2 : ft.2.2 = fe at *
          have HFF := Lib.hid (And.intro hf1 hf2)
          clear hf1 hf2
          generalize r4.left = lf at *
          go_upto_region 13 with fail
          go_cut [76] (fun c wx => c = .bool bad2 ∧ RowKit.Hid (RGetF w B E Sr (.slice a0 b.length c0) vr b #[.int .i64 s, .int .i64 ep, .int .i64 0, .int .u64 0, .string ⟨#[]⟩, .slice none 0 0, .int .i64 0, .slice none 0 0, .slice none 0 0] r4 F1 q a1 n1 c1 F2 ft.1 (.slice a2 m2 c2) (.slice a3 m3 c3) wx))
          case first =>
            by_cases h2 : fe = 0
            · have b2 : (fe != 0) = false := by simpa using h2
              have hcl := HLF.out _ HG.out
              by_cases h3 : fn = lf
              · have b3 : ((fn : Int) != (lf : Int)) = false := by subst h3; simp
                have e := Lib.hid (HB2.out.trans (decide_eq_false (by omega)))
                clear h2 h3
                go_wp2_with (go_at_call 87; refine hcl.mono ?_; clear hcl; rintro e5 w5 ⟨rfl, HR3⟩)
                go_meet
                case rel => exact ⟨by rw [e.out], HR3⟩
              · have b3 : ((fn : Int) != (lf : Int)) = true := by simp; omega
                have e := Lib.hid (HB2.out.trans (decide_eq_true (by omega)))
                clear h2 h3
                go_wp2_with (go_at_call 87; refine hcl.mono ?_; clear hcl; rintro e5 w5 ⟨rfl, HR3⟩)
                go_meet
                case rel => exact ⟨by rw [e.out], HR3⟩
            · have b2 : (fe != 0) = true := by simpa using h2
              have e := Lib.hid (HB2.out.trans (decide_eq_true (by omega)))
              clear h2
              go_wp2_with fail
              go_meet
              case rel => exact ⟨by rw [e.out], HG⟩
          case rest =>
            clear HG
            obtain ⟨hc, HG⟩ := hcut
            subst hc
            cases bad2 with
            | true =>
              have hr := HR2.out
              rw [if_pos (of_decide_eq_true HB2.out.symm)] at hr
              have HRR := Lib.hid hr
              clear hr HR2 HB2
              have c2' := blk_cell HG.out.q.ent.g0
              have f2' := blk_fro HG.out.q.ent.g0
              go_wp2_with fail
              have u2 := blk_all9 HG.out.q.ent.g0 (.int .i64 0) (.int .i64 0) (.int .i64 0) (.int .u64 0) (.string ⟨#[]⟩) (.slice none 0 0) (.int .i64 0) (.slice none 0 0) (.slice none 0 0)
              have k2 := keep_all9 wc w.heap.size (.int .i64 0) (.int .i64 0) (.int .i64 0) (.int .u64 0) (.string ⟨#[]⟩) (.slice none 0 0) (.int .i64 0) (.slice none 0 0) (.slice none 0 0)
              clear c2' f2'
              have HK2 := Lib.hid k2
              clear k2
              generalize (((((((((wc.setCell ⟨w.heap.size, 0, none⟩ (.int .i64 0)).setCell ⟨w.heap.size, 1, none⟩ (.int .i64 0)).setCell ⟨w.heap.size, 2, none⟩ (.int .i64 0)).setCell ⟨w.heap.size, 3, none⟩ (.int .u64 0)).setCell ⟨w.heap.size, 4, none⟩ (.string ⟨#[]⟩)).setCell ⟨w.heap.size, 5, none⟩ (.slice none 0 0)).setCell ⟨w.heap.size, 6, none⟩ (.int .i64 0)).setCell ⟨w.heap.size, 7, none⟩ (.slice none 0 0)).setCell ⟨w.heap.size, 8, none⟩ (.slice none 0 0)) = wy at *
              have c5 := blk_cell u2
              refine bodyPost_ret (v := .tuple #[.agg #[.int .i64 0, .int .i64 0, .int .i64 0, .int .u64 0, .string ⟨#[]⟩, .slice none 0 0, .int .i64 0, .slice none 0 0, .slice none 0 0], .int .i64 123]) (by simp [results, Tryz.results23, go_sem, c5]) rfl ?_
              rw [HRR.out]
              exact ⟨_, rfl, rd_ent0 _ _, HG.out.q.ent.keep.then HK2.out fun i hi e => by have : i = w.heap.size := e; omega⟩
            | false =>
              have hcond := of_decide_eq_false HB2.out.symm
              have hr := HR2.out
              rw [if_neg hcond] at hr
              have HR3 := Lib.hid hr
              have p1 := blk_cell HG.out.q.blk
              have p2 := blk_cell HG.out.blk
              have e0 := blk_cell HG.out.q.ent.e0
              have z0 := blk_fro HG.out.q.ent.e0
              have hw3 : wrap64 hw = hw := by unfold wrap64; have := HL.out.2.2.2.1; omega
              have HF0 := Lib.hid (show fe = 0 from Classical.byContradiction fun hh => hcond (.inl hh))
              have n1' : ¬ E = F1 := by have := HG.out.q.EF; omega
              have n2' : ¬ E = F2 := by have := HG.out.EF2; omega
              have n3' : ¬ F1 = E := fun h => n1' h.symm
              have n4' : ¬ F2 = E := fun h => n2' h.symm
              clear hcond hr HR2 HB2
              go_upto_region 16 with fail
              have ks : Keep (One E) wc (((((((wc.setCell ⟨E, 2, none⟩ (.int .i64 q.client)).setCell ⟨E, 3, none⟩ (.int .u64 q.token)).setCell ⟨E, 4, none⟩ (.string q.name)).setCell ⟨E, 5, none⟩ (.slice a1 n1 c1)).setCell ⟨E, 6, none⟩ (.int .i64 hw)).setCell ⟨E, 7, none⟩ (.slice a2 m2 c2)).setCell ⟨E, 8, none⟩ (.slice a3 m3 c3)) := ((((((keep_set wc E 2 (.int .i64 q.client)).trans (keep_set _ E 3 (.int .u64 q.token))).trans (keep_set _ E 4 (.string q.name))).trans (keep_set _ E 5 (.slice a1 n1 c1))).trans (keep_set _ E 6 (.int .i64 hw))).trans (keep_set _ E 7 (.slice a2 m2 c2))).trans (keep_set _ E 8 (.slice a3 m3 c3))
              have hE := HG.out.q.ent.set 2 (.int .i64 q.client) |>.set 3 (.int .u64 q.token) |>.set 4 (.string q.name) |>.set 5 (.slice a1 n1 c1) |>.set 6 (.int .i64 hw) |>.set 7 (.slice a2 m2 c2) |>.set 8 (.slice a3 m3 c3)
              have hec : (((((((#[.int .i64 s, .int .i64 ep, .int .i64 0, .int .u64 0, .string ⟨#[]⟩, .slice none 0 0, .int .i64 0, .slice none 0 0, .slice none 0 0] : Array Value).setIfInBounds 2 (.int .i64 q.client)).setIfInBounds 3 (.int .u64 q.token)).setIfInBounds 4 (.string q.name)).setIfInBounds 5 (.slice a1 n1 c1)).setIfInBounds 6 (.int .i64 hw)).setIfInBounds 7 (.slice a2 m2 c2)).setIfInBounds 8 (.slice a3 m3 c3) = #[.int .i64 s, .int .i64 ep, .int .i64 q.client, .int .u64 q.token, .string q.name, .slice a1 n1 c1, .int .i64 hw, .slice a2 m2 c2, .slice a3 m3 c3] := by simp
              rw [hec] at hE
              have hnot : ∀ i, i < wc.heap.size → Up (E + 1) i → ¬ One E i := fun i _ hi e => by have : i = E := e; have : E + 1 ≤ i := hi; omega
              have o1 := HG.out.q.own.agree _ (ks.agree hnot)
              have o2 := HG.out.two.1.agree _ (ks.agree hnot)
              have o3 := HG.out.two.2.agree _ (ks.agree hnot)
              have hrok := HG.out.q.ent.rd.ok
              have hbl4 := HG.out.q.ent.rb
              clear ks hec hnot p1 p2 e0 z0 hw3 n1' n2' n3' n4'
              generalize (((((((wc.setCell ⟨E, 2, none⟩ (.int .i64 q.client)).setCell ⟨E, 3, none⟩ (.int .u64 q.token)).setCell ⟨E, 4, none⟩ (.string q.name)).setCell ⟨E, 5, none⟩ (.slice a1 n1 c1)).setCell ⟨E, 6, none⟩ (.int .i64 hw)).setCell ⟨E, 7, none⟩ (.slice a2 m2 c2)).setCell ⟨E, 8, none⟩ (.slice a3 m3 c3)) = wz at *
              have hok := reqGet_ok (bytesOf_allB t)
              rw [HQQ.out] at hok
              obtain ⟨-, hck⟩ := hok.2.2.2.2.2.2 rfl
              have hin : q.In := hok.1
              have hnm := nameOk_size ((Req.check_iff q).1 hck).2.2.1
              have z1 : (Lit.int .i64 q.client).wf = true := wf_i64 hin.c0 hin.c1
              have z2 : (Lit.int .u64 q.token).wf = true := by have := hin.t0; have := hin.t1; simp [Lit.wf, IntKind.min, IntKind.max, IntKind.signed, IntKind.bits]; omega
              have hn1 : n1 = q.args.length := by obtain ⟨_, _, e, -⟩ := o1; simp at e; exact e.2.1
              have hrq : Rd requestSh wz (Up (E + 1)) [.int .i64 q.client, .int .u64 q.token, .string q.name, .slice a1 n1 c1] q := ⟨[.int .i64 q.client], _, rfl, ⟨rfl, z1⟩, [.int .u64 q.token], _, rfl, ⟨rfl, z2⟩, [.string q.name], _, rfl, ⟨rfl, by show q.name.size ≤ 9223372036854775807; omega⟩, [_], [], rfl, o1, rfl⟩
              obtain ⟨y1, y2⟩ := HL.out.2.2.2.1
              have z3 : (Lit.int .i64 hw).wf = true := wf_i64 (by omega) (by omega)
              have hft : Rd footSh wz (Up (E + 1)) [.slice a2 m2 c2, .slice a3 m3 c3] ft.1 := ⟨[_], [_], rfl, o2, [_], [], rfl, o3, rfl⟩
              have hpl : Rd planSh wz (Up (E + 1)) [.int .i64 q.client, .int .u64 q.token, .string q.name, .slice a1 n1 c1, .int .i64 hw, .slice a2 m2 c2, .slice a3 m3 c3] (mkPlan q hw ft.1) := ⟨[_, _, _, _], [_, _, _], rfl, hrq, [.int .i64 hw], [_, _], rfl, ⟨rfl, z3⟩, [_, _], [], rfl, hft, rfl⟩
              have hrl : r4.rest.length ≤ b.length := by unfold Rs.rest; rw [hbl4]; simp
              have hfo := footGet_ok (b := r4.rest) hrok.rest (by have := HL.out.2.2.2.2; omega)
              rw [HFT.out] at hfo
              obtain ⟨hIs, -⟩ := hfo (by rw [HFF.out.2]; exact HF0.out)
              obtain ⟨hw1', hw2'⟩ := fp_few hIs
              have hfit : (mkPlan q hw ft.1).Fit := ⟨by show q.name.size ≤ _; omega, by show (ft.1.rs.length + ft.1.ws.length + 1) * 16 ≤ _; omega⟩
              have hrt := (rRight_any wz _ _ (mkPlan q hw ft.1) hpl hfit).mono (R' := fun e w' => e = .returned (.int .i64 (mkPlan q hw ft.1).right) ∧ RowKit.Hid (Keep No wz w')) (by rintro e w' ⟨rfl, hk⟩; exact ⟨rfl, hk⟩)
              have HPL := Lib.hid (And.intro hE hpl)
              have e1 := blk_cell hE.e0
              clear hok hck hin hnm z1 z2 z3 hn1 hrq hft hpl hrl hfo hIs hw1' hw2' hfit hE o1 o2 o3 hrok hbl4 y1 y2
              generalize hri : (mkPlan q hw ft.1).right = ri at *
              have HRI := Lib.hid hri
              clear hri
              by_cases hz : ri = 0
              · subst hz
                have hr := HR3.out
                rw [if_neg (by simp)] at hr
                have HRR := Lib.hid hr
                clear hr HR3
                go_wp2_with (go_at_call 28; refine hrt.mono ?_; clear hrt e1; rintro e w17 ⟨rfl, H17⟩; have H18 := Lib.hid (HPL.out.1.more H17.out); have e1 := blk_cell H18.out.e0; have g2 := blk_cell H18.out.g0; have f2' := blk_fro H18.out.g0; have nE : ¬ E = w.heap.size := (by have h1 := H18.out.Bw; have h2 := H18.out.BE; omega))
                have u9 := blk_all9 H18.out.g0 (.int .i64 s) (.int .i64 ep) (.int .i64 q.client) (.int .u64 q.token) (.string q.name) (.slice a1 n1 c1) (.int .i64 hw) (.slice a2 m2 c2) (.slice a3 m3 c3)
                have k9 := keep_all9 w17 w.heap.size (.int .i64 s) (.int .i64 ep) (.int .i64 q.client) (.int .u64 q.token) (.string q.name) (.slice a1 n1 c1) (.int .i64 hw) (.slice a2 m2 c2) (.slice a3 m3 c3)
                clear e1 g2 f2'
                have HK9 := Lib.hid k9
                clear k9
                generalize (((((((((w17.setCell ⟨w.heap.size, 0, none⟩ (.int .i64 s)).setCell ⟨w.heap.size, 1, none⟩ (.int .i64 ep)).setCell ⟨w.heap.size, 2, none⟩ (.int .i64 q.client)).setCell ⟨w.heap.size, 3, none⟩ (.int .u64 q.token)).setCell ⟨w.heap.size, 4, none⟩ (.string q.name)).setCell ⟨w.heap.size, 5, none⟩ (.slice a1 n1 c1)).setCell ⟨w.heap.size, 6, none⟩ (.int .i64 hw)).setCell ⟨w.heap.size, 7, none⟩ (.slice a2 m2 c2)).setCell ⟨w.heap.size, 8, none⟩ (.slice a3 m3 c3)) = wy at *
                have c9 := blk_cell u9
                refine bodyPost_ret (v := .tuple #[.agg #[.int .i64 s, .int .i64 ep, .int .i64 q.client, .int .u64 q.token, .string q.name, .slice a1 n1 c1, .int .i64 hw, .slice a2 m2 c2, .slice a3 m3 c3], .int .i64 0]) (by simp [results, Tryz.results23, go_sem, c9]) rfl ?_
                rw [HRR.out]
                have hK9 := HK9.out
                have h9 : Keep No w wy := H18.out.keep.then hK9 fun i hi e => by have : i = w.heap.size := e; omega
                have hEw : w.heap.size < E := by have h1 := H18.out.Bw; have h2 := H18.out.BE; omega
                have hp9 := ((HPL.out.2.agree _ H17.out.agreeNo).agree _ (hK9.agree fun i _ hi e => by have : i = w.heap.size := e; have : E + 1 ≤ i := hi; omega)).mono _ (T := Fr w.heap.size wy.heap.size) fun i hi hu => ⟨by have : E + 1 ≤ i := hu; omega, hi⟩
                exact ⟨_, rfl, ent_mk (p := mkPlan q hw ft.1) hp9 (wf_i64 (by omega) (by have := HCD.out.2.1; omega)) (wf_i64 (by omega) (by have := HCD.out.2.2; omega)), h9⟩
              · have d1 : (ri != 0) = true := by simpa using hz
                have hr := HR3.out
                rw [if_pos hz] at hr
                have HRR := Lib.hid hr
                clear hr HR3 hz
                go_upto_if 87 with (go_at_call 28; refine hrt.mono ?_; clear hrt e1; rintro e w17 ⟨rfl, H17⟩; have H18 := Lib.hid (HPL.out.1.more H17.out))
                have c2' := blk_cell H18.out.g0
                have f2' := blk_fro H18.out.g0
                go_wp2_with fail
                have u2 := blk_all9 H18.out.g0 (.int .i64 0) (.int .i64 0) (.int .i64 0) (.int .u64 0) (.string ⟨#[]⟩) (.slice none 0 0) (.int .i64 0) (.slice none 0 0) (.slice none 0 0)
                have k2 := keep_all9 w17 w.heap.size (.int .i64 0) (.int .i64 0) (.int .i64 0) (.int .u64 0) (.string ⟨#[]⟩) (.slice none 0 0) (.int .i64 0) (.slice none 0 0) (.slice none 0 0)
                clear c2' f2'
                have HK2 := Lib.hid k2
                clear k2
                generalize (((((((((w17.setCell ⟨w.heap.size, 0, none⟩ (.int .i64 0)).setCell ⟨w.heap.size, 1, none⟩ (.int .i64 0)).setCell ⟨w.heap.size, 2, none⟩ (.int .i64 0)).setCell ⟨w.heap.size, 3, none⟩ (.int .u64 0)).setCell ⟨w.heap.size, 4, none⟩ (.string ⟨#[]⟩)).setCell ⟨w.heap.size, 5, none⟩ (.slice none 0 0)).setCell ⟨w.heap.size, 6, none⟩ (.int .i64 0)).setCell ⟨w.heap.size, 7, none⟩ (.slice none 0 0)).setCell ⟨w.heap.size, 8, none⟩ (.slice none 0 0)) = wy at *
                have c5 := blk_cell u2
                refine bodyPost_ret (v := .tuple #[.agg #[.int .i64 0, .int .i64 0, .int .i64 0, .int .u64 0, .string ⟨#[]⟩, .slice none 0 0, .int .i64 0, .slice none 0 0, .slice none 0 0], .int .i64 123]) (by simp [results, Tryz.results23, go_sem, c5]) rfl ?_
                rw [HRR.out]
                exact ⟨_, rfl, rd_ent0 _ _, H18.out.keep.then HK2.out fun i hi e => by have : i = w.heap.size := e; omega⟩
      · have hr := HRR.out
        rw [if_pos hqe] at hr
        have d1 : (qe != 0) = true := by simpa using hqe
        clear HRR
        have HRR := Lib.hid hr
        clear hr hqe
        have c2 := blk_cell HQ0.out.ent.g0
        have f2 := blk_fro HQ0.out.ent.g0
        go_wp2_with fail
        have u2 := blk_all9 HQ0.out.ent.g0 (.int .i64 0) (.int .i64 0) (.int .i64 0) (.int .u64 0) (.string ⟨#[]⟩) (.slice none 0 0) (.int .i64 0) (.slice none 0 0) (.slice none 0 0)
        have k2 := keep_all9 w11 w.heap.size (.int .i64 0) (.int .i64 0) (.int .i64 0) (.int .u64 0) (.string ⟨#[]⟩) (.slice none 0 0) (.int .i64 0) (.slice none 0 0) (.slice none 0 0)
        clear c2 f2
        have HK2 := Lib.hid k2
        clear k2
        generalize (((((((((w11.setCell ⟨w.heap.size, 0, none⟩ (.int .i64 0)).setCell ⟨w.heap.size, 1, none⟩ (.int .i64 0)).setCell ⟨w.heap.size, 2, none⟩ (.int .i64 0)).setCell ⟨w.heap.size, 3, none⟩ (.int .u64 0)).setCell ⟨w.heap.size, 4, none⟩ (.string ⟨#[]⟩)).setCell ⟨w.heap.size, 5, none⟩ (.slice none 0 0)).setCell ⟨w.heap.size, 6, none⟩ (.int .i64 0)).setCell ⟨w.heap.size, 7, none⟩ (.slice none 0 0)).setCell ⟨w.heap.size, 8, none⟩ (.slice none 0 0)) = wz at *
        have c5 := blk_cell u2
        refine bodyPost_ret (v := .tuple #[.agg #[.int .i64 0, .int .i64 0, .int .i64 0, .int .u64 0, .string ⟨#[]⟩, .slice none 0 0, .int .i64 0, .slice none 0 0, .slice none 0 0], .int .i64 123]) (by simp [results, Tryz.results23, go_sem, c5]) rfl ?_
        rw [HRR.out]
        exact ⟨_, rfl, rd_ent0 _ _, HQ0.out.ent.keep.then HK2.out fun i hi e => by have : i = w.heap.size := e; omega⟩
end Go.Proofs.YtnknihmchmmenaaGreat
