/-
  Parts of what is proved for this claim; each declaration is one of the seat's texts.
-/
import Derived.Test.YtcallmnhaikfpaaGreatDoorTGA
import Derived.Test.YtcallmnhaikfpaaGreatDoorTGB
import Derived.Test.YtcallmnhaikfpaaGreatDoorTGC
import Derived.Test.YtcallmnhaikfpaaGreatDoorTGD
import Derived.Test.YtcallmnhaikfpaaGreatDoorTGF
import Derived.Test.YtcallmnhaikfpaaGreatDoorTGJ
import Derived.Test.YtcallmnhaikfpaaGreatDoorTGK
import Derived.Test.YtcallmnhaikfpaaGreatDoorTGN
import Derived.Test.YtcallmnhaikfpaaGreatDoorTGS
import Derived.Test.YtcallmnhaikfpaaGreatDoorTGV
import Derived.Test.YtcallmnhaikfpaaGreatDoorTGZ
import Derived.WalkKit
import Derived.WalkSpells
import Derived.WalkLawsBesides
import Derived.ProofKit
import Derived.Deep.Slices
import Derived.Deep.AppendSrc
import Derived.Lib.Hide
import Derived.Still
import Derived.StillTactics
import Derived.Recover
import Derived.Defers
import Derived.Deep.QuietTactic
import Derived.BigQuiet
import Derived.Handy
import Derived.Laws.Bits64b
import Derived.Lib.Zigzag
import Derived.OwnWalk
import Derived.Deep.DeepCutAuto
import Derived.Lib.Bytealg
import Derived.Laws.Externs
import Derived.Deep.LoopGhost
import Derived.Laws.CopyRow
import Derived.Laws.IdiomCopy
import Derived.Maps.OwnSet
import Derived.Maps.RangeWalk
import Derived.Shelf.SortM.Plain
import Derived.Shelf.SortM.SortNone
import Derived.Ground.SlgmProg
import Derived.Maps.OwnOps
set_option linter.unusedVariables false
set_option linter.unusedSimpArgs false
namespace Go.Proofs.YtcallmnhaikfpaaGreatDoor
open Go Go.RowKit Go.Deep
theorem plan_req {w : World} {S : Nat → Prop} {p : Plan} {a1 a2 a3 : Option Addr} {n1 n2 n3 c1 c2 c3 : Nat} (h : Rd planSh w S [.int .i64 p.client, .int .u64 p.token, .string p.name, .slice a1 n1 c1, .int .i64 p.how, .slice a2 n2 c2, .slice a3 n3 c3] p) :
    Rd requestSh w S [.int .i64 p.client, .int .u64 p.token, .string p.name, .slice a1 n1 c1] p.req := by
  obtain ⟨b1, d1, b2, d2, b3, d3, e, h1, h2, h3, w1, w2, w3, w4⟩ := plan_cells h
  simp only [List.cons.injEq, Value.slice.injEq, and_true, true_and] at e
  obtain ⟨⟨rfl, rfl, rfl⟩, ⟨rfl, rfl, rfl⟩, rfl, rfl, rfl⟩ := e
  exact ⟨[.int .i64 p.client], _, rfl, ⟨rfl, w1⟩, [.int .u64 p.token], _, rfl, ⟨rfl, w2⟩, [.string p.name], _, rfl, ⟨rfl, w3⟩, [_], _, rfl, h1, rfl⟩
theorem plan_fp {w : World} {S : Nat → Prop} {p : Plan} {a1 a2 a3 : Option Addr} {n1 n2 n3 c1 c2 c3 : Nat} (h : Rd planSh w S [.int .i64 p.client, .int .u64 p.token, .string p.name, .slice a1 n1 c1, .int .i64 p.how, .slice a2 n2 c2, .slice a3 n3 c3] p) :
    FpAt w S (.slice a2 n2 c2) (.slice a3 n3 c3) p.fp := by
  obtain ⟨b1, d1, b2, d2, b3, d3, e, h1, h2, h3, w1, w2, w3, w4⟩ := plan_cells h
  simp only [List.cons.injEq, Value.slice.injEq, and_true, true_and] at e
  obtain ⟨⟨rfl, rfl, rfl⟩, ⟨rfl, rfl, rfl⟩, rfl, rfl, rfl⟩ := e
  exact ⟨h2, h3⟩
structure EntW (w : World) (E : Array Value) (S T : Nat → Prop) (v : Value) (l : Bytes) (ps : List Value) (p : Plan) (wr : World) : Prop where
  keep : Keep No w wr
  blk : wr.heap[w.heap.size]? = some (.cells E 58 (0, 0))
  pl : Rd planSh wr S ps p
  bv : Rd bytesSh wr T [v] l
theorem EntW.more {w : World} {E : Array Value} {S T : Nat → Prop} {v : Value} {l : Bytes} {ps : List Value} {p : Plan} {wr w' : World} (h : EntW w E S T v l ps p wr) (hk : Keep No wr w') : EntW w E S T v l ps p w' :=
  ⟨h.keep.trans hk, hk.blk h.blk (fun x => x), h.pl.agree _ hk.agreeNo, h.bv.agree _ hk.agreeNo⟩
structure EntP (w : World) (E : Array Value) (S T : Nat → Prop) (v : Value) (l : Bytes) (ps : List Value) (p : Plan) (rv : Value) (q : Bytes) (sv : Value) (x : Bytes) (wr : World) : Prop where
  ent : EntW w E S T v l ps p wr
  raw : ∃ R, Rd bytesSh wr R [rv] q
  out : ∃ O, Rd bytesSh wr O [sv] x
theorem EntP.conv {w : World} {E : Array Value} {S T : Nat → Prop} {v : Value} {l : Bytes} {ps : List Value} {p : Plan} {a : Option Addr} {n c : Nat} {q : Bytes} {sv : Value} {x : Bytes} {wr : World} (h : EntP w E S T v l ps p (.slice a n c) q sv x wr) : (convert 55 9 (.slice a n c)).run Tryz.prog wr = .ok (.string (textOf q)) wr := by
  obtain ⟨R, hR⟩ := h.raw
  exact run_string_back _ _ 5 _ _ _ Tryz.underlying55 Tryz.underlying5 Tryz.underlying9 hR
theorem EntP.more {w : World} {E : Array Value} {S T : Nat → Prop} {v : Value} {l : Bytes} {ps : List Value} {p : Plan} {rv : Value} {q : Bytes} {sv : Value} {x : Bytes} {wr w' : World} (h : EntP w E S T v l ps p rv q sv x wr) (hk : Keep No wr w') : EntP w E S T v l ps p rv q sv x w' := by
  obtain ⟨h1, ⟨R, h2⟩, O, h3⟩ := h
  exact ⟨h1.more hk, ⟨R, h2.agree _ hk.agreeNo⟩, O, h3.agree _ hk.agreeNo⟩
theorem EntP.uint {w : World} {E : Array Value} {S T : Nat → Prop} {v : Value} {l : Bytes} {ps : List Value} {p : Plan} {a : Option Addr} {m c : Nat} {q : Bytes} {sv : Value} {x : Bytes} {wr : World} (h : EntP w E S T v l ps p (.slice a m c) q sv x wr) (n : Int) (h0 : 0 ≤ n) (h1 : n < 18446744073709551616) (hl : x.length + 10 ≤ 140737488355328) :
    Calls Tryz.prog 35 #[sv, .int .u64 n] wr fun e w' => ∃ a1 m1 c1, e = .returned (.slice a1 m1 c1) ∧ w'.heap[w.heap.size]? = some (.cells E 58 (0, 0)) ∧ (convert 55 9 (.slice a m c)).run Tryz.prog w' = .ok (.string (textOf q)) w' ∧ RowKit.Hid (EntP w E S T v l ps p (.slice a m c) q (.slice a1 m1 c1) (x ++ uintB n.toNat) w') := by
  obtain ⟨O, hO⟩ := h.out
  refine (PutUint_any wr O sv x hO n h0 h1 hl).mono ?_
  rintro e w' ⟨a1, c1, rfl, ho⟩
  have h' := h.more ho.2
  exact ⟨a1, _, c1, rfl, h'.ent.blk, h'.conv, h'.ent, h'.raw, _, ho.rd⟩
theorem EntP.text {w : World} {E : Array Value} {S T : Nat → Prop} {v : Value} {l : Bytes} {ps : List Value} {p : Plan} {rv : Value} {q : Bytes} {sv : Value} {x : Bytes} {wr : World} (h : EntP w E S T v l ps p rv q sv x wr) (s : ByteArray) (hl : x.length + s.size + 10 ≤ 140737488355328) :
    Calls Tryz.prog 37 #[sv, .string s] wr fun e w' => ∃ a1 m1 c1, e = .returned (.slice a1 m1 c1) ∧ w'.heap[w.heap.size]? = some (.cells E 58 (0, 0)) ∧ RowKit.Hid (OwnB wr w' (.slice a1 m1 c1) (x ++ textB s)) := by
  obtain ⟨O, hO⟩ := h.out
  refine (PutText_any wr O sv x hO s hl).mono ?_
  rintro e w' ⟨a1, c1, rfl, ho⟩
  have h' := h.ent.more ho.2
  exact ⟨a1, _, c1, rfl, h'.blk, ho⟩
set_option maxRecDepth 10000 in
set_option maxHeartbeats 4000000 in
theorem putEnt_any (w : World) (S T : Nat → Prop) (v : Value) (l : Bytes) (hv : Rd bytesSh w T [v] l) (hl : l.length + 10000 ≤ 140737488355200) (cs : List Value) (x : Ent) (h : Rd entrySh w S cs x) (hp : x.plan.Fit) :
    Calls Tryz.prog 36 #[v, .agg cs.toArray] w (PutsC w (if x.err = 0 then l ++ x.bytes else []) x.err) := by
  obtain ⟨ps, rfl, h3, w1, w2⟩ := ent_cells h
  have hp3 := h3
  obtain ⟨a1, c1, a2, c2, a3, c3, hps, -⟩ := plan_form h3
  subst hps
  have K1 : Keep No w (w.alloc (.cells #[.int .i64 x.seq, .int .i64 x.epoch, .int .i64 x.plan.client, .int .u64 x.plan.token, .string x.plan.name, .slice a1 x.plan.args.length c1, .int .i64 x.plan.how, .slice a2 x.plan.reads.length c2, .slice a3 x.plan.writes.length c3] 58)) := (Keep.refl No w).alloc _
  have HW : RowKit.Hid (EntW w #[.int .i64 x.seq, .int .i64 x.epoch, .int .i64 x.plan.client, .int .u64 x.plan.token, .string x.plan.name, .slice a1 x.plan.args.length c1, .int .i64 x.plan.how, .slice a2 x.plan.reads.length c2, .slice a3 x.plan.writes.length c3] S T v l [.int .i64 x.plan.client, .int .u64 x.plan.token, .string x.plan.name, .slice a1 x.plan.args.length c1, .int .i64 x.plan.how, .slice a2 x.plan.reads.length c2, .slice a3 x.plan.writes.length c3] x.plan (w.alloc (.cells #[.int .i64 x.seq, .int .i64 x.epoch, .int .i64 x.plan.client, .int .u64 x.plan.token, .string x.plan.name, .slice a1 x.plan.args.length c1, .int .i64 x.plan.how, .slice a2 x.plan.reads.length c2, .slice a3 x.plan.writes.length c3] 58))) :=
    ⟨K1, blk_new _ _, hp3.agree _ K1.agreeNo, hv.agree _ K1.agreeNo⟩
  have hnil : ∀ W, OwnB w W (.slice none 0 0) [] ↔ Keep No w W := fun W => ⟨fun h => h.2, fun h => ⟨Own.nil _ _ _ _, h⟩⟩
  by_cases hse : x.seq < 0 ∨ x.epoch < 0
  · have he : x.err = 2 := by unfold Ent.err; rw [if_pos hse]
    rw [he, if_neg (by decide)]
    have HN := Lib.hid hnil
    clear hnil he hp h h3 hp3 hv hl K1
    by_cases hs : x.seq < 0
    · clear hse
      go_enter Tryz.func36, Tryz.ntmps36
      go_wp2_with fail
      go_ret2
      exact ⟨none, 0, 0, rfl, (HN.out _).2 HW.out.keep⟩
    · have he2 : x.epoch < 0 := hse.resolve_left hs
      clear hse
      go_enter Tryz.func36, Tryz.ntmps36
      go_wp2_with fail
      go_ret2
      exact ⟨none, 0, 0, rfl, (HN.out _).2 HW.out.keep⟩
  · have he : x.err = x.plan.right := by unfold Ent.err; rw [if_neg hse]
    have hr := (right_any _ S _ x.plan HW.out.pl hp).mono (R' := fun e w' => e = .returned (.int .i64 x.plan.right) ∧ w'.heap[w.heap.size]? = some (.cells #[.int .i64 x.seq, .int .i64 x.epoch, .int .i64 x.plan.client, .int .u64 x.plan.token, .string x.plan.name, .slice a1 x.plan.args.length c1, .int .i64 x.plan.how, .slice a2 x.plan.reads.length c2, .slice a3 x.plan.writes.length c3] 58 (0, 0)) ∧ RowKit.Hid (EntW w #[.int .i64 x.seq, .int .i64 x.epoch, .int .i64 x.plan.client, .int .u64 x.plan.token, .string x.plan.name, .slice a1 x.plan.args.length c1, .int .i64 x.plan.how, .slice a2 x.plan.reads.length c2, .slice a3 x.plan.writes.length c3] S T v l [.int .i64 x.plan.client, .int .u64 x.plan.token, .string x.plan.name, .slice a1 x.plan.args.length c1, .int .i64 x.plan.how, .slice a2 x.plan.reads.length c2, .slice a3 x.plan.writes.length c3] x.plan w')) (by
      rintro e w' ⟨rfl, hk⟩
      have := HW.out.more hk
      exact ⟨rfl, this.blk, this⟩)
    rw [he]
    have e1 : ¬ x.seq < 0 := fun hh => hse (.inl hh)
    have e2 : ¬ x.epoch < 0 := fun hh => hse (.inr hh)
    clear hse
    by_cases hz : x.plan.right = 0
    · rw [if_pos hz]
      rw [hz] at hr ⊢
      obtain ⟨g1, g2, g3⟩ := (Plan.right_iff _).1 hz
      have gn := (Fp.normal_iff _).2 g3
      have hqb := Req.bytes_length g1
      have hfb := Fp.bytes_length g3
      have hus := (uintB_length x.seq.toNat).2
      have hue := (uintB_length x.epoch.toNat).2
      have hq := fun W (hE : EntW w #[.int .i64 x.seq, .int .i64 x.epoch, .int .i64 x.plan.client, .int .u64 x.plan.token, .string x.plan.name, .slice a1 x.plan.args.length c1, .int .i64 x.plan.how, .slice a2 x.plan.reads.length c2, .slice a3 x.plan.writes.length c3] S T v l [.int .i64 x.plan.client, .int .u64 x.plan.token, .string x.plan.name, .slice a1 x.plan.args.length c1, .int .i64 x.plan.how, .slice a2 x.plan.reads.length c2, .slice a3 x.plan.writes.length c3] x.plan W) =>
        (rqPut_any W S No (.slice none 0 0) [] ⟨none, 0, rfl, by simp, by simp, fun _ => ⟨rfl, rfl⟩, fun i hi => absurd hi (by simp)⟩ (by simp) _ x.plan.req (plan_req hE.pl) hp.name).mono (R' := fun e w' => ∃ a n k, e = .returned (.tuple #[.slice a n k, .int .i64 0]) ∧ w'.heap[w.heap.size]? = some (.cells #[.int .i64 x.seq, .int .i64 x.epoch, .int .i64 x.plan.client, .int .u64 x.plan.token, .string x.plan.name, .slice a1 x.plan.args.length c1, .int .i64 x.plan.how, .slice a2 x.plan.reads.length c2, .slice a3 x.plan.writes.length c3] 58 (0, 0)) ∧ (convert 55 9 (.slice a n k)).run Tryz.prog w'.drew = .ok (.string (textOf x.plan.req.bytes)) w'.drew ∧
          RowKit.Hid (EntP w #[.int .i64 x.seq, .int .i64 x.epoch, .int .i64 x.plan.client, .int .u64 x.plan.token, .string x.plan.name, .slice a1 x.plan.args.length c1, .int .i64 x.plan.how, .slice a2 x.plan.reads.length c2, .slice a3 x.plan.writes.length c3] S T v l [.int .i64 x.plan.client, .int .u64 x.plan.token, .string x.plan.name, .slice a1 x.plan.args.length c1, .int .i64 x.plan.how, .slice a2 x.plan.reads.length c2, .slice a3 x.plan.writes.length c3] x.plan (.slice a n k) x.plan.req.bytes v l w')) (by
        rintro e w' ⟨a, n, k, rfl, ho⟩
        rw [g1, if_pos rfl, List.nil_append] at ho
        have hE' := hE.more ho.2
        have hP : EntP w _ S T v l _ x.plan (.slice a n k) x.plan.req.bytes v l w' := ⟨hE', ⟨_, ho.rd⟩, T, hE'.bv⟩
        refine ⟨a, n, k, by rw [g1], hE'.blk, (hP.more (Keep.refl No w').drew).conv, hP⟩)
      have HQ := Lib.hid hq
      have HN := Lib.hid (And.intro he (And.intro hz (And.intro g2 (And.intro g3 (And.intro gn (And.intro hqb (And.intro hfb (And.intro hus (And.intro hue (And.intro hl hp))))))))))
      clear hq he hp h h3 hp3 hv hl K1 hz g1 g2 g3 gn hqb hfb hus hue hnil
      go_enter Tryz.func36, Tryz.ntmps36
      go_wp2_with (go_at_call 31; refine hr.mono ?_; clear hr; rintro e w5 ⟨rfl, y1, HE⟩; have q1 := blk_cell y1)
      refine (HQ.out w5 HE.out).mono ?_
      clear q1
      rintro e w6 ⟨a6, n6, k6, rfl, y6, hconv, HP⟩
      have c6 := blk_cell y6
      go_wp2_with fail
      have f1 : x.seq ≤ 9223372036854775807 := by have := w1; simp [Lit.wf, IntKind.min, IntKind.max, IntKind.signed, IntKind.bits] at this; omega
      have f2 : x.epoch ≤ 9223372036854775807 := by have := w2; simp [Lit.wf, IntKind.min, IntKind.max, IntKind.signed, IntKind.bits] at this; omega
      obtain ⟨he, hz, g2, g3, gn, hqb, hfb, hus, hue, hl, hp⟩ := HN.out
      have hu1 := (HP.out.more (Keep.refl No w6).drew).uint x.seq (by omega) (by omega) (by omega)
      clear he hz g3 hqb hfb hp
      refine wp_region_can [0, 1, 2, 3, 5, 6, 7, 9, 10, 4, 8, 11, 12] [4, 8, 11] [(5, 4), (6, 4), (7, 4), (9, 4), (10, 4), (9, 8), (10, 8)] (by kernel_rfl) (by kernel_rfl) (by kernel_rfl) (by kernel_rfl) (by intro c a d v w h; cases d <;> exact h) ?_
      iterate 9 (refine can_sil rfl rfl (fun K hK => ?_); go_simp; refine hK _ ?_; clear hK K)
      have hwr : IntKind.u64.wrap x.epoch = x.epoch := by rw [IntKind.wrap_u64]; omega
      rw [hwr]
      refine can_loud [5, 6, 7, 9, 10] rfl rfl rfl (fun K hK => ?_)
      go_wp2_with fail
      refine hu1.mono ?_
      clear hu1
      rintro e w7 ⟨a7, n7, c7, rfl, y7, hconv7, HP7⟩
      have d7 := blk_cell y7
      go_wp2_with fail
      refine Mid.normal (hK _ _ ?_ ?_)
      · simp only [List.forall_mem_cons]
        refine ⟨?_, ?_, ?_, ?_, ?_, stabs_nil⟩ <;> exact stab_of rfl (fun K hK => by go_simp; exact hK)
      clear hK K
      have hu2 := HP7.out.uint x.epoch (by omega) (by omega) (by simp only [List.length_append]; omega)
      refine can_loud [9, 10] rfl rfl rfl (fun K hK => ?_)
      go_wp2_with fail
      refine hu2.mono ?_
      clear hu2
      rintro e w8 ⟨a8, n8, c8, rfl, y8, hconv8, HP8⟩
      have d8 := blk_cell y8
      go_wp2_with fail
      refine Mid.normal (hK _ _ ?_ ?_)
      · simp only [List.forall_mem_cons]
        refine ⟨?_, ?_, stabs_nil⟩ <;> exact stab_of rfl (fun K hK => by go_simp; exact hK)
      clear hK K
      have hu3 := HP8.out.text (textOf x.plan.req.bytes) (by rw [textOf_size]; simp only [List.length_append]; have := HN.out.2.2.2.2.2.1; omega)
      refine can_loud [] rfl rfl rfl (fun K hK => ?_)
      go_wp2_with fail
      refine hu3.mono ?_
      clear hu3 hconv hconv7 hconv8 d7 d8 c6
      rintro e w9 ⟨a9, n9, c9, rfl, y9, HP9⟩
      have d9 := blk_cell y9
      go_wp2_with fail
      refine Mid.normal (hK _ _ stabs_nil ?_)
      clear hK K
      refine can_sil rfl rfl (fun K hK => ?_); go_simp; refine hK _ ?_; clear hK K
      refine can_nil ?_
      go_wp2_with fail
      obtain ⟨R8, hR8⟩ := HP8.out.raw
      have hbytes : l ++ uintB x.seq.toNat ++ uintB x.epoch.toNat ++ textB (textOf x.plan.req.bytes) ++ [x.plan.how] ++ x.plan.fp.bytes = l ++ x.bytes := by
        have : textB (textOf x.plan.req.bytes) = uintB x.plan.req.bytes.length ++ x.plan.req.bytes := by unfold textB; rw [textOf_size, bytesOf_textOf (bytes_all hR8)]
        rw [this]
        simp [Ent.bytes]
      have htl := textB_length (textOf x.plan.req.bytes)
      rw [textOf_size] at htl
      obtain ⟨-, -, -, -, -, hqb, hfb, -, -, -, hp⟩ := HN.out
      have hlen9 : (l ++ uintB x.seq.toNat ++ uintB x.epoch.toNat ++ textB (textOf x.plan.req.bytes)).length + 4001 ≤ 140737488355200 := by
        simp only [List.length_append]; omega
      obtain ⟨a10, m10, k10, w10, hrun, ho10⟩ : ∃ a m c w', (Builtin.append_ #[55, 55] 55 #[.slice a9 n9 c9, .slice (some ⟨w9.heap.size, 0, none⟩) 1 1]).run Tryz.prog ((w9.alloc (.cells #[.int .u8 x.plan.how] 5)).drew) = .ok (.slice a m c) w' ∧ OwnB w8 w' (.slice a m c) (l ++ uintB x.seq.toNat ++ uintB x.epoch.toNat ++ textB (textOf x.plan.req.bytes) ++ [x.plan.how]) := by
        obtain ⟨a, c, w', h1, h2⟩ := app_byteD HP9.out x.plan.how (by omega) (by omega) (by omega)
        exact ⟨a, _, c, w', h1, h2⟩
      have hE10 := HP8.out.ent.more ho10.2
      have hlen10 : (l ++ uintB x.seq.toNat ++ uintB x.epoch.toNat ++ textB (textOf x.plan.req.bytes) ++ [x.plan.how]).length + 4000 ≤ 140737488355200 := by
        rw [List.length_append (bs := [x.plan.how])]; simp only [List.length_singleton]; omega
      have hfp := (fPut_any w10 S _ _ _ ho10.rd hlen10 _ _ x.plan.fp (plan_fp hE10.pl) hp.feet).mono (R' := fun e w' => ∃ a n k, e = .returned (.tuple #[.slice a n k, .int .i64 0]) ∧ RowKit.Hid (OwnB w w' (.slice a n k) (l ++ x.bytes))) (by
        rintro e w' ⟨a, n, k, rfl, ho⟩
        rw [gn, if_pos rfl] at ho
        rw [hbytes] at ho
        exact ⟨a, n, k, by rw [gn]; rfl, ho.back hE10.keep⟩)
      have d10 := blk_cell hE10.blk
      have j1 : 0 ≤ x.plan.how := by omega
      have j2 : x.plan.how ≤ 255 := by omega
      have d9a := fun o => blk_cell (blk_alloc (o' := o) y9)
      have HF := Lib.hid hfp
      clear hlen9 hlen10 hbytes htl hR8 ho10 hE10 hqb hfb hp hfp gn g2 hus hue hl
      refine wp_region_can [0, 1, 2, 3, 4, 7, 8, 9, 5, 6, 10, 11, 12, 13, 14] [5, 6, 10] [(0, 5), (7, 5), (8, 5), (9, 5), (7, 6), (8, 6), (9, 6)] (by kernel_rfl) (by kernel_rfl) (by kernel_rfl) (by kernel_rfl) (by intro c a d v w h; cases d <;> exact h) ?_
      iterate 8 (refine can_sil rfl rfl (fun K hK => ?_); go_simp; refine hK _ ?_; clear hK K)
      have hwr8 : IntKind.u8.wrap x.plan.how = x.plan.how := by simp [IntKind.wrap, IntKind.bits, IntKind.signed]; omega
      try rw [hwr8]
      clear hwr8 j1 j2 f1 f2 e1 e2 hwr
      refine can_loud [0, 7, 8, 9] rfl rfl rfl (fun K hK => ?_)
      go_wp2_with fail
      refine Mid.normal (hK _ _ ?_ ?_)
      · simp only [List.forall_mem_cons]
        refine ⟨?_, ?_, ?_, ?_, stabs_nil⟩ <;> exact stab_of rfl (fun K hK => by go_simp; exact hK)
      clear hK K
      refine can_loud [7, 8, 9] rfl rfl rfl (fun K hK => ?_)
      refine wpList_app rfl (.tmp 43) (.tmp 48) 55 55 rfl rfl rfl hrun ?_
      go_wp2_with fail
      refine Mid.normal (hK _ _ ?_ ?_)
      · simp only [List.forall_mem_cons]
        refine ⟨?_, ?_, ?_, stabs_nil⟩ <;> exact stab_of rfl (fun K hK => by go_simp; exact hK)
      clear hK K
      refine can_loud [] rfl rfl rfl (fun K hK => ?_)
      go_wp2_with fail
      refine HF.out.mono ?_
      rintro e w11 ⟨a11, n11, k11, rfl, HO⟩
      go_wp2_with fail
      refine Mid.normal (hK _ _ stabs_nil ?_)
      clear hK K
      iterate 4 (refine can_sil rfl rfl (fun K hK => ?_); go_simp; refine hK _ ?_; clear hK K)
      refine can_nil ?_
      go_wp2_with fail
      go_ret2
      exact ⟨_, _, _, rfl, HO.out⟩
    · rw [if_neg hz]
      have hzb : (x.plan.right != 0) = true := by simpa using hz
      have HN := Lib.hid hnil
      clear hnil he hp h h3 hp3 hv hl K1 hz
      go_enter Tryz.func36, Tryz.ntmps36
      go_wp2_with (go_at_call 31; refine hr.mono ?_; clear hr; rintro e w5 ⟨rfl, y1, HE⟩; have q1 := blk_cell y1)
      go_ret2
      exact ⟨none, 0, 0, rfl, (HN.out _).2 HE.out.keep⟩
end Go.Proofs.YtcallmnhaikfpaaGreatDoor
