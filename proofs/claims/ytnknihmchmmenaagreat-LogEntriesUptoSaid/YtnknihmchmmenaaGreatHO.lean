/-
  The document's entries: an entry's bytes.
  The document's log: its bytes.
-/
import Derived.Test.YtnknihmchmmenaaGreatGA
import Derived.Test.YtnknihmchmmenaaGreatGB
import Derived.Test.YtnknihmchmmenaaGreatGC
import Derived.Test.YtnknihmchmmenaaGreatGD
import Derived.Test.YtnknihmchmmenaaGreatGF
import Derived.Test.YtnknihmchmmenaaGreatGJ
import Derived.Test.YtnknihmchmmenaaGreatGK
import Derived.Test.YtnknihmchmmenaaGreatGL
import Derived.Test.YtnknihmchmmenaaGreatGS
import Derived.Test.YtnknihmchmmenaaGreatGZ
import Derived.Test.YtnknihmchmmenaaGreatGX
import Derived.Test.YtnknihmchmmenaaGreatHA
import Derived.Test.YtnknihmchmmenaaGreatHC
import Derived.Test.YtnknihmchmmenaaGreatHE
import Derived.Test.YtnknihmchmmenaaGreatHF
import Derived.Test.YtnknihmchmmenaaGreatHN
import Derived.WalkKit
import Derived.WalkSpells
import Derived.WalkLawsBesides
import Derived.ProofKit
import Derived.Deep.Slices
import Derived.Deep.AppendSrc
import Derived.Lib.Hide
import Derived.Still
import Derived.StillTactics
import Derived.Recover
import Derived.Defers
import Derived.Deep.QuietTactic
import Derived.BigQuiet
import Derived.Handy
import Derived.Laws.Bits64b
import Derived.Lib.Zigzag
import Derived.OwnWalk
import Derived.Deep.DeepCutAuto
import Derived.Lib.Bytealg
import Derived.Laws.Externs
import Derived.Deep.LoopGhost
import Derived.Laws.CopyRow
import Derived.Laws.IdiomCopy
import Derived.Maps.OwnSet
import Derived.Maps.RangeWalk
import Derived.Shelf.SortM.Plain
import Derived.Shelf.SortM.SortNone
import Derived.Ground.SlgmProg
import Derived.Maps.OwnOps
import Derived.RangeFuncNested
import Derived.RangeFuncBound
import Derived.RangeFuncCalls
import Derived.RangeFuncLeaves
import Derived.Shelf.Abstract
import Derived.Shelf.RegionOpen
import Derived.OwnWalkIn
import Derived.TacticsInMore
import Derived.LoopNIn
import Derived.LoopIn
import Derived.Lib.ConvBytes
import Derived.OrdersIn
namespace Go.Proofs.YtnknihmchmmenaaGreat
set_option linter.unusedVariables false
set_option linter.unusedSimpArgs false
open Go Go.RowKit Go.Deep

theorem EntP.ruint {w : World} {E : Array Value} {S T : Nat → Prop} {v : Value} {l : Bytes} {ps : List Value} {p : Plan} {a : Option Addr} {m c : Nat} {q : Bytes} {sv : Value} {x : Bytes} {wr : World} (h : EntP w E S T v l ps p (.slice a m c) q sv x wr) (n : Int) (h0 : 0 ≤ n) (h1 : n < 18446744073709551616) (hl : x.length + 10 ≤ 140737488355328) :
    Calls Tryz.prog 71 #[sv, .int .u64 n] wr fun e w' => ∃ a1 m1 c1, e = .returned (.slice a1 m1 c1) ∧ w'.heap[w.heap.size]? = some (.cells E 40 (0, 0)) ∧ (convert 53 9 (.slice a m c)).run Tryz.prog w' = .ok (.string (textOf q)) w' ∧ RowKit.Hid (EntP w E S T v l ps p (.slice a m c) q (.slice a1 m1 c1) (x ++ uintB n.toNat) w') := by
  obtain ⟨O, hO⟩ := h.out
  refine (rPutUint_any wr O sv x hO n h0 h1 hl).mono ?_
  rintro e w' ⟨a1, c1, rfl, ho⟩
  have h' := h.more ho.2
  exact ⟨a1, _, c1, rfl, h'.ent.blk, h'.conv, h'.ent, h'.raw, _, ho.rd⟩
theorem EntP.rtext {w : World} {E : Array Value} {S T : Nat → Prop} {v : Value} {l : Bytes} {ps : List Value} {p : Plan} {rv : Value} {q : Bytes} {sv : Value} {x : Bytes} {wr : World} (h : EntP w E S T v l ps p rv q sv x wr) (s : ByteArray) (hl : x.length + s.size + 10 ≤ 140737488355328) :
    Calls Tryz.prog 70 #[sv, .string s] wr fun e w' => ∃ a1 m1 c1, e = .returned (.slice a1 m1 c1) ∧ w'.heap[w.heap.size]? = some (.cells E 40 (0, 0)) ∧ RowKit.Hid (OwnB wr w' (.slice a1 m1 c1) (x ++ textB s)) := by
  obtain ⟨O, hO⟩ := h.out
  refine (rPutText_any wr O sv x hO s hl).mono ?_
  rintro e w' ⟨a1, c1, rfl, ho⟩
  have h' := h.ent.more ho.2
  exact ⟨a1, _, c1, rfl, h'.blk, ho⟩

set_option maxRecDepth 10000 in
set_option maxHeartbeats 4000000 in
theorem rputEnt_any (w : World) (S T : Nat → Prop) (v : Value) (l : Bytes) (hv : Rd bytesSh w T [v] l) (hl : l.length + 10000 ≤ 140737488355200) (cs : List Value) (x : Ent) (h : Rd entrySh w S cs x) (hp : x.plan.Fit) :
    Calls Tryz.prog 21 #[v, .agg cs.toArray] w (PutsC w (if x.err = 0 then l ++ x.bytes else []) x.err) := by
  obtain ⟨ps, rfl, h3, w1, w2⟩ := ent_cells h
  have hp3 := h3
  obtain ⟨a1, c1, a2, c2, a3, c3, hps, -⟩ := plan_form h3
  subst hps
  have K1 : Keep No w (w.alloc (.cells #[.int .i64 x.seq, .int .i64 x.epoch, .int .i64 x.plan.client, .int .u64 x.plan.token, .string x.plan.name, .slice a1 x.plan.args.length c1, .int .i64 x.plan.how, .slice a2 x.plan.reads.length c2, .slice a3 x.plan.writes.length c3] 40)) := (Keep.refl No w).alloc _
  have HW : RowKit.Hid (EntW w #[.int .i64 x.seq, .int .i64 x.epoch, .int .i64 x.plan.client, .int .u64 x.plan.token, .string x.plan.name, .slice a1 x.plan.args.length c1, .int .i64 x.plan.how, .slice a2 x.plan.reads.length c2, .slice a3 x.plan.writes.length c3] S T v l [.int .i64 x.plan.client, .int .u64 x.plan.token, .string x.plan.name, .slice a1 x.plan.args.length c1, .int .i64 x.plan.how, .slice a2 x.plan.reads.length c2, .slice a3 x.plan.writes.length c3] x.plan (w.alloc (.cells #[.int .i64 x.seq, .int .i64 x.epoch, .int .i64 x.plan.client, .int .u64 x.plan.token, .string x.plan.name, .slice a1 x.plan.args.length c1, .int .i64 x.plan.how, .slice a2 x.plan.reads.length c2, .slice a3 x.plan.writes.length c3] 40))) :=
    ⟨K1, blk_new _ _, hp3.agree _ K1.agreeNo, hv.agree _ K1.agreeNo⟩
  have hnil : ∀ W, OwnB w W (.slice none 0 0) [] ↔ Keep No w W := fun W => ⟨fun h => h.2, fun h => ⟨Own.nil _ _ _ _, h⟩⟩
  by_cases hse : x.seq < 0 ∨ x.epoch < 0
  · have he : x.err = 2 := by unfold Ent.err; rw [if_pos hse]
    rw [he, if_neg (by decide)]
    have HN := Lib.hid hnil
    clear hnil he hp h h3 hp3 hv hl K1
    by_cases hs : x.seq < 0
    · clear hse
      go_enter Tryz.func21, Tryz.ntmps21
      go_wp2_with fail
      go_ret2
      exact ⟨none, 0, 0, rfl, (HN.out _).2 HW.out.keep⟩
    · have he2 : x.epoch < 0 := hse.resolve_left hs
      clear hse
      go_enter Tryz.func21, Tryz.ntmps21
      go_wp2_with fail
      go_ret2
      exact ⟨none, 0, 0, rfl, (HN.out _).2 HW.out.keep⟩
  · have he : x.err = x.plan.right := by unfold Ent.err; rw [if_neg hse]
    have hr := (rRight_any _ S _ x.plan HW.out.pl hp).mono (R' := fun e w' => e = .returned (.int .i64 x.plan.right) ∧ w'.heap[w.heap.size]? = some (.cells #[.int .i64 x.seq, .int .i64 x.epoch, .int .i64 x.plan.client, .int .u64 x.plan.token, .string x.plan.name, .slice a1 x.plan.args.length c1, .int .i64 x.plan.how, .slice a2 x.plan.reads.length c2, .slice a3 x.plan.writes.length c3] 40 (0, 0)) ∧ RowKit.Hid (EntW w #[.int .i64 x.seq, .int .i64 x.epoch, .int .i64 x.plan.client, .int .u64 x.plan.token, .string x.plan.name, .slice a1 x.plan.args.length c1, .int .i64 x.plan.how, .slice a2 x.plan.reads.length c2, .slice a3 x.plan.writes.length c3] S T v l [.int .i64 x.plan.client, .int .u64 x.plan.token, .string x.plan.name, .slice a1 x.plan.args.length c1, .int .i64 x.plan.how, .slice a2 x.plan.reads.length c2, .slice a3 x.plan.writes.length c3] x.plan w')) (by
      rintro e w' ⟨rfl, hk⟩
      have := HW.out.more hk
      exact ⟨rfl, this.blk, this⟩)
    rw [he]
    have e1 : ¬ x.seq < 0 := fun hh => hse (.inl hh)
    have e2 : ¬ x.epoch < 0 := fun hh => hse (.inr hh)
    clear hse
    by_cases hz : x.plan.right = 0
    · rw [if_pos hz]
      rw [hz] at hr ⊢
      obtain ⟨g1, g2, g3⟩ := (Plan.right_iff _).1 hz
      have gn := (Fp.normal_iff _).2 g3
      have hqb := Req.bytes_length g1
      have hfb := Fp.bytes_length g3
      have hus := (uintB_length x.seq.toNat).2
      have hue := (uintB_length x.epoch.toNat).2
      have hq := fun W (hE : EntW w #[.int .i64 x.seq, .int .i64 x.epoch, .int .i64 x.plan.client, .int .u64 x.plan.token, .string x.plan.name, .slice a1 x.plan.args.length c1, .int .i64 x.plan.how, .slice a2 x.plan.reads.length c2, .slice a3 x.plan.writes.length c3] S T v l [.int .i64 x.plan.client, .int .u64 x.plan.token, .string x.plan.name, .slice a1 x.plan.args.length c1, .int .i64 x.plan.how, .slice a2 x.plan.reads.length c2, .slice a3 x.plan.writes.length c3] x.plan W) =>
        (rrqPut_any W S No (.slice none 0 0) [] ⟨none, 0, rfl, by simp, by simp, fun _ => ⟨rfl, rfl⟩, fun i hi => absurd hi (by simp)⟩ (by simp) _ x.plan.req (plan_req hE.pl) hp.name).mono (R' := fun e w' => ∃ a n k, e = .returned (.tuple #[.slice a n k, .int .i64 0]) ∧ w'.heap[w.heap.size]? = some (.cells #[.int .i64 x.seq, .int .i64 x.epoch, .int .i64 x.plan.client, .int .u64 x.plan.token, .string x.plan.name, .slice a1 x.plan.args.length c1, .int .i64 x.plan.how, .slice a2 x.plan.reads.length c2, .slice a3 x.plan.writes.length c3] 40 (0, 0)) ∧ (convert 53 9 (.slice a n k)).run Tryz.prog w'.drew = .ok (.string (textOf x.plan.req.bytes)) w'.drew ∧
          RowKit.Hid (EntP w #[.int .i64 x.seq, .int .i64 x.epoch, .int .i64 x.plan.client, .int .u64 x.plan.token, .string x.plan.name, .slice a1 x.plan.args.length c1, .int .i64 x.plan.how, .slice a2 x.plan.reads.length c2, .slice a3 x.plan.writes.length c3] S T v l [.int .i64 x.plan.client, .int .u64 x.plan.token, .string x.plan.name, .slice a1 x.plan.args.length c1, .int .i64 x.plan.how, .slice a2 x.plan.reads.length c2, .slice a3 x.plan.writes.length c3] x.plan (.slice a n k) x.plan.req.bytes v l w')) (by
        rintro e w' ⟨a, n, k, rfl, ho⟩
        rw [g1, if_pos rfl, List.nil_append] at ho
        have hE' := hE.more ho.2
        have hP : EntP w _ S T v l _ x.plan (.slice a n k) x.plan.req.bytes v l w' := ⟨hE', ⟨_, ho.rd⟩, T, hE'.bv⟩
        refine ⟨a, n, k, by rw [g1], hE'.blk, (hP.more (Keep.refl No w').drew).conv, hP⟩)
      have HQ := Lib.hid hq
      have HN := Lib.hid (And.intro he (And.intro hz (And.intro g2 (And.intro g3 (And.intro gn (And.intro hqb (And.intro hfb (And.intro hus (And.intro hue (And.intro hl hp))))))))))
      clear hq he hp h h3 hp3 hv hl K1 hz g1 g2 g3 gn hqb hfb hus hue hnil
      go_enter Tryz.func21, Tryz.ntmps21
      go_wp2_with (go_at_call 28; refine hr.mono ?_; clear hr; rintro e w5 ⟨rfl, y1, HE⟩; have q1 := blk_cell y1)
      refine (HQ.out w5 HE.out).mono ?_
      clear q1
      rintro e w6 ⟨a6, n6, k6, rfl, y6, hconv, HP⟩
      have c6 := blk_cell y6
      go_wp2_with fail
      have f1 : x.seq ≤ 9223372036854775807 := by have := w1; simp [Lit.wf, IntKind.min, IntKind.max, IntKind.signed, IntKind.bits] at this; omega
      have f2 : x.epoch ≤ 9223372036854775807 := by have := w2; simp [Lit.wf, IntKind.min, IntKind.max, IntKind.signed, IntKind.bits] at this; omega
      obtain ⟨he, hz, g2, g3, gn, hqb, hfb, hus, hue, hl, hp⟩ := HN.out
      have hu1 := (HP.out.more (Keep.refl No w6).drew).ruint x.seq (by omega) (by omega) (by omega)
      clear he hz g3 hqb hfb hp
      refine wp_region_can [0, 1, 2, 3, 5, 6, 7, 9, 10, 4, 8, 11, 12] [4, 8, 11] [(5, 4), (6, 4), (7, 4), (9, 4), (10, 4), (9, 8), (10, 8)] (by kernel_rfl) (by kernel_rfl) (by kernel_rfl) (by kernel_rfl) (by intro c a d v w h; cases d <;> exact h) ?_
      iterate 9 (refine can_sil rfl rfl (fun K hK => ?_); go_simp; refine hK _ ?_; clear hK K)
      have hwr : IntKind.u64.wrap x.epoch = x.epoch := by rw [IntKind.wrap_u64]; omega
      rw [hwr]
      refine can_loud [5, 6, 7, 9, 10] rfl rfl rfl (fun K hK => ?_)
      go_wp2_with fail
      refine hu1.mono ?_
      clear hu1
      rintro e w7 ⟨a7, n7, c7, rfl, y7, hconv7, HP7⟩
      have d7 := blk_cell y7
      go_wp2_with fail
      refine Mid.normal (hK _ _ ?_ ?_)
      · simp only [List.forall_mem_cons]
        refine ⟨?_, ?_, ?_, ?_, ?_, stabs_nil⟩ <;> exact stab_of rfl (fun K hK => by go_simp; exact hK)
      clear hK K
      have hu2 := HP7.out.ruint x.epoch (by omega) (by omega) (by simp only [List.length_append]; omega)
      refine can_loud [9, 10] rfl rfl rfl (fun K hK => ?_)
      go_wp2_with fail
      refine hu2.mono ?_
      clear hu2
      rintro e w8 ⟨a8, n8, c8, rfl, y8, hconv8, HP8⟩
      have d8 := blk_cell y8
      go_wp2_with fail
      refine Mid.normal (hK _ _ ?_ ?_)
      · simp only [List.forall_mem_cons]
        refine ⟨?_, ?_, stabs_nil⟩ <;> exact stab_of rfl (fun K hK => by go_simp; exact hK)
      clear hK K
      have hu3 := HP8.out.rtext (textOf x.plan.req.bytes) (by rw [textOf_size]; simp only [List.length_append]; have := HN.out.2.2.2.2.2.1; omega)
      refine can_loud [] rfl rfl rfl (fun K hK => ?_)
      go_wp2_with fail
      refine hu3.mono ?_
      clear hu3 hconv hconv7 hconv8 d7 d8 c6
      rintro e w9 ⟨a9, n9, c9, rfl, y9, HP9⟩
      have d9 := blk_cell y9
      go_wp2_with fail
      refine Mid.normal (hK _ _ stabs_nil ?_)
      clear hK K
      refine can_sil rfl rfl (fun K hK => ?_); go_simp; refine hK _ ?_; clear hK K
      refine can_nil ?_
      go_wp2_with fail
      obtain ⟨R8, hR8⟩ := HP8.out.raw
      have hbytes : l ++ uintB x.seq.toNat ++ uintB x.epoch.toNat ++ textB (textOf x.plan.req.bytes) ++ [x.plan.how] ++ x.plan.fp.bytes = l ++ x.bytes := by
        have : textB (textOf x.plan.req.bytes) = uintB x.plan.req.bytes.length ++ x.plan.req.bytes := by unfold textB; rw [textOf_size, bytesOf_textOf (bytes_all hR8)]
        rw [this]
        simp [Ent.bytes]
      have htl := textB_length (textOf x.plan.req.bytes)
      rw [textOf_size] at htl
      obtain ⟨-, -, -, -, -, hqb, hfb, -, -, -, hp⟩ := HN.out
      have hlen9 : (l ++ uintB x.seq.toNat ++ uintB x.epoch.toNat ++ textB (textOf x.plan.req.bytes)).length + 4001 ≤ 140737488355200 := by
        simp only [List.length_append]; omega
      obtain ⟨a10, m10, k10, w10, hrun, ho10⟩ : ∃ a m c w', (Builtin.append_ #[53, 53] 53 #[.slice a9 n9 c9, .slice (some ⟨w9.heap.size, 0, none⟩) 1 1]).run Tryz.prog ((w9.alloc (.cells #[.int .u8 x.plan.how] 5)).drew) = .ok (.slice a m c) w' ∧ OwnB w8 w' (.slice a m c) (l ++ uintB x.seq.toNat ++ uintB x.epoch.toNat ++ textB (textOf x.plan.req.bytes) ++ [x.plan.how]) := by
        obtain ⟨a, c, w', h1, h2⟩ := app_byteD HP9.out x.plan.how (by omega) (by omega) (by omega)
        exact ⟨a, _, c, w', h1, h2⟩
      have hE10 := HP8.out.ent.more ho10.2
      have hlen10 : (l ++ uintB x.seq.toNat ++ uintB x.epoch.toNat ++ textB (textOf x.plan.req.bytes) ++ [x.plan.how]).length + 4000 ≤ 140737488355200 := by
        rw [List.length_append (bs := [x.plan.how])]; simp only [List.length_singleton]; omega
      have hfp := (rfPut_any w10 S _ _ _ ho10.rd hlen10 _ _ x.plan.fp (plan_fp hE10.pl) hp.feet).mono (R' := fun e w' => ∃ a n k, e = .returned (.tuple #[.slice a n k, .int .i64 0]) ∧ RowKit.Hid (OwnB w w' (.slice a n k) (l ++ x.bytes))) (by
        rintro e w' ⟨a, n, k, rfl, ho⟩
        rw [gn, if_pos rfl] at ho
        rw [hbytes] at ho
        exact ⟨a, n, k, by rw [gn]; rfl, ho.back hE10.keep⟩)
      have d10 := blk_cell hE10.blk
      have j1 : 0 ≤ x.plan.how := by omega
      have j2 : x.plan.how ≤ 255 := by omega
      have d9a := fun o => blk_cell (blk_alloc (o' := o) y9)
      have HF := Lib.hid hfp
      clear hlen9 hlen10 hbytes htl hR8 ho10 hE10 hqb hfb hp hfp gn g2 hus hue hl
      refine wp_region_can [0, 1, 2, 3, 4, 7, 8, 9, 5, 6, 10, 11, 12, 13, 14] [5, 6, 10, 14] [(0, 5), (7, 5), (8, 5), (9, 5), (7, 6), (8, 6), (9, 6), (13, 14)] (by kernel_rfl) (by kernel_rfl) (by kernel_rfl) (by kernel_rfl) (by intro c a d v w h; cases d <;> exact h) ?_
      iterate 8 (refine can_sil rfl rfl (fun K hK => ?_); go_simp; refine hK _ ?_; clear hK K)
      have hwr8 : IntKind.u8.wrap x.plan.how = x.plan.how := by simp [IntKind.wrap, IntKind.bits, IntKind.signed]; omega
      try rw [hwr8]
      clear hwr8 j1 j2 f1 f2 e1 e2 hwr
      refine can_loud [0, 7, 8, 9] rfl rfl rfl (fun K hK => ?_)
      go_wp2_with fail
      refine Mid.normal (hK _ _ ?_ ?_)
      · simp only [List.forall_mem_cons]
        refine ⟨?_, ?_, ?_, ?_, stabs_nil⟩ <;> exact stab_of rfl (fun K hK => by go_simp; exact hK)
      clear hK K
      refine can_loud [7, 8, 9] rfl rfl rfl (fun K hK => ?_)
      refine wpList_app rfl (.tmp 44) (.tmp 49) 53 53 rfl rfl rfl hrun ?_
      go_wp2_with fail
      refine Mid.normal (hK _ _ ?_ ?_)
      · simp only [List.forall_mem_cons]
        refine ⟨?_, ?_, ?_, stabs_nil⟩ <;> exact stab_of rfl (fun K hK => by go_simp; exact hK)
      clear hK K
      refine can_loud [] rfl rfl rfl (fun K hK => ?_)
      go_wp2_with fail
      refine HF.out.mono ?_
      rintro e w11 ⟨a11, n11, k11, rfl, HO⟩
      go_wp2_with fail
      refine Mid.normal (hK _ _ stabs_nil ?_)
      clear hK K
      iterate 3 (refine can_sil rfl rfl (fun K hK => ?_); go_simp; refine hK _ ?_; clear hK K)
      refine can_loud [13] rfl rfl rfl (fun K hK => ?_)
      go_wp2_with fail
      refine Mid.normal (hK _ _ ?_ ?_)
      · simp only [List.forall_mem_cons]
        refine ⟨?_, stabs_nil⟩ <;> exact stab_of rfl (fun K hK => by go_simp; exact hK)
      clear hK K
      refine can_nil ?_
      go_wp2_with fail
      go_ret2
      exact ⟨_, _, _, rfl, HO.out⟩
    · rw [if_neg hz]
      have hzb : (x.plan.right != 0) = true := by simpa using hz
      have HN := Lib.hid hnil
      clear hnil he hp h h3 hp3 hv hl K1 hz
      go_enter Tryz.func21, Tryz.ntmps21
      go_wp2_with (go_at_call 28; refine hr.mono ?_; clear hr; rintro e w5 ⟨rfl, y1, HE⟩; have q1 := blk_cell y1)
      go_ret2
      exact ⟨none, 0, 0, rfl, (HN.out _).2 HE.out.keep⟩
end Go.Proofs.YtnknihmchmmenaaGreat

namespace Go.Proofs.YtnknihmchmmenaaGreat
set_option linter.unusedVariables false
set_option linter.unusedSimpArgs false
open Go Go.RowKit Go.Deep

set_option maxRecDepth 10000 in
set_option maxHeartbeats 4000000 in
theorem rBytes_any (w : World) (B : Nat) (S : Nat → Prop) (x : Lg) (h : LogAt 43 w B S x) (hf : x.Few) (hfit : ∀ e ∈ x.l, e.plan.Fit ∧ e.err = 0) (he : 0 ≤ x.epoch) : Calls Tryz.prog 94 #[.pointer (some ⟨B, 0, none⟩)] w (Puts w x.bytes) := by
  obtain ⟨ov, SO, h1, h2, h3, h4, h5, h6⟩ := h
  obtain ⟨a1, d1, rfl, _⟩ := h2.form
  have hB := blk_lt h1
  have f1 : x.epoch ≤ 9223372036854775807 := by have := h5; simp [Lit.wf, IntKind.min, IntKind.max, IntKind.signed, IntKind.bits] at this; omega
  have hl65 := hf.l
  have hlu := (uintB_length x.epoch.toNat).2
  have hll := (uintB_length x.l.length).2
  have c0 := blk_cell h1
  have hp1 := (rPutUint_any w.drew No (.slice none 0 0) [] ⟨none, 0, rfl, by simp, by simp, fun _ => ⟨rfl, rfl⟩, fun i hi => absurd hi (by simp)⟩ x.epoch he (by omega) (by simp)).mono (R' := fun e w' => ∃ a m c, e = .returned (.slice a m c) ∧ w'.heap[B]? = some (.cells #[.slice a1 x.l.length d1, .int .i64 x.epoch] 43 (0, 0)) ∧ RowKit.Hid (OwnB w.drew w' (.slice a m c) (uintB x.epoch.toNat))) (by
    rintro e w' ⟨a, c, rfl, ho⟩
    exact ⟨a, _, c, rfl, ((Keep.refl No w).drew.trans ho.2).blk h1 (fun x => x), ho⟩)
  have hp2 : ∀ W a m c, OwnB w.drew W (.slice a m c) (uintB x.epoch.toNat) → Calls Tryz.prog 71 #[.slice a m c, .int .u64 x.l.length] W (fun e w' => ∃ a m c, e = .returned (.slice a m c) ∧ RowKit.Hid (OwnB w w' (.slice a m c) x.head)) := fun W a m c ho =>
    (rPutUint_any W _ _ _ ho.rd (x.l.length : Int) (by omega) (by omega) (by omega)).mono (by
      rintro e w' ⟨a, c, rfl, ho'⟩
      rw [Int.toNat_natCast] at ho'
      exact ⟨a, _, c, rfl, (ho'.back ho.2).back (Keep.refl No w).drew⟩)
  have hwr : IntKind.u64.wrap x.epoch = x.epoch := by rw [IntKind.wrap_u64]; omega
  have hwl : IntKind.u64.wrap (x.l.length : Int) = (x.l.length : Int) := by rw [IntKind.wrap_u64]; omega
  have hhd : x.head.length ≤ 20 := by unfold Lg.head; rw [List.length_append]; omega
  have HH := Lib.hid (And.intro h1 (And.intro h2 (And.intro hf (And.intro hfit (And.intro hl65 (And.intro hhd hp2))))))
  clear h1 h2 h3 h4 h5 h6 hf hfit hlu hll hp2 hhd he
  go_enter Tryz.func94, Tryz.ntmps94
  go_wp2_with fail
  refine wp_region_can [0, 1, 2, 3, 4, 6, 7, 8, 9, 10, 11, 5, 12, 13] [5, 12] [(6, 5), (7, 5), (8, 5), (9, 5), (10, 5), (11, 5)] (by kernel_rfl) (by kernel_rfl) (by kernel_rfl) (by kernel_rfl) (by intro c a d v w h; cases d <;> exact h) ?_
  iterate 11 (refine can_sil rfl rfl (fun K hK => ?_); go_simp; refine hK _ ?_; clear hK K)
  try rw [hwr]
  try rw [hwl]
  refine can_loud [6, 7, 8, 9, 10, 11] rfl rfl rfl (fun K hK => ?_)
  go_wp2_with (go_at_call 71; refine hp1.mono ?_; clear hp1; rintro e w5 ⟨a5, m5, c5, rfl, y5, HO5⟩)
  have e5 := blk_cell y5
  refine Mid.normal (hK _ _ ?_ ?_)
  · simp only [List.forall_mem_cons]
    refine ⟨?_, ?_, ?_, ?_, ?_, ?_, stabs_nil⟩ <;> exact stab_of rfl (fun K hK => by go_simp; exact hK)
  clear hK K
  refine can_loud [] rfl rfl rfl (fun K hK => ?_)
  go_wp2_with (go_at_call 71; refine (HH.out.2.2.2.2.2.2 _ _ _ _ HO5.out).mono ?_; rintro e w6 ⟨a6, m6, c6, rfl, HO6⟩)
  refine Mid.normal (hK _ _ stabs_nil ?_)
  clear hK K
  refine can_sil rfl rfl (fun K hK => ?_); go_simp; refine hK _ ?_; clear hK K
  refine can_nil ?_
  clear e5 y5 HO5 hwr hwl c0 f1
  go_wp2_with fail
  go_loopw [3, 4] (fun v i wr => ∃ (k : Nat) (a : Option Addr) (m c : Nat), i = .int .i64 k ∧ v = .slice a m c ∧ k ≤ x.l.length ∧ RowKit.Hid (OwnB w wr (.slice a m c) (x.head ++ (x.l.take k).flatMap Ent.framed))) (fun _ i _ => x.l.length - (intOf i).toNat)
  case atStart => exact ⟨0, a6, m6, c6, rfl, rfl, Nat.zero_le _, Lib.hid (by have h := HO6.out; simpa using h)⟩
  case round =>
    clear HO6
    obtain ⟨k, a, m, c, rfl, rfl, hk, HR⟩ := hrel
    obtain ⟨h1, h2, hf, hfit, -, hhd, -⟩ := HH.out
    have b1 := HR.out.2.blk h1 (fun x => x)
    have c1' := blk_cell b1
    by_cases hlt : k < x.l.length
    · obtain ⟨b, off, x1, y1, x2, y2, x3, y3, rfl, hb, -, hr, hx⟩ := ents_get (h2.agree HR.out.2.agreeNo).rd k hlt
      obtain ⟨r0, r1, r2, r3, r4, r5, r6, r7, r8⟩ := row_nine hr
      obtain ⟨ft1, ft2⟩ := hfit _ (List.getElem_mem hlt)
      have j0 : (0 : Int) ≤ k := by omega
      have j1 : (k : Int) < x.l.length := by omega
      have j3 : (k : Int) ≤ 9223372036854775806 := by omega
      have hel := Ent.bytes_length ft2
      have hput := (rputEnt_any wr _ No (.slice none 0 0) [] ⟨none, 0, rfl, by simp, by simp, fun _ => ⟨rfl, rfl⟩, fun i hi => absurd hi (by simp)⟩ (by simp) _ x.l[k] hx ft1).mono (R' := fun e w' => ∃ a m c, e = .returned (.tuple #[.slice a m c, .int .i64 0]) ∧ (convert 53 9 (.slice a m c)).run Tryz.prog w' = .ok (.string (textOf x.l[k].bytes)) w' ∧ RowKit.Hid (textB (textOf x.l[k].bytes) = x.l[k].framed ∧ Keep No wr w')) (by
        rintro e w' ⟨a, m, c, rfl, ho⟩
        rw [if_pos ft2, List.nil_append] at ho
        rw [ft2]
        refine ⟨a, m, c, rfl, run_string_back _ _ 5 _ _ _ Tryz.underlying53 Tryz.underlying5 Tryz.underlying9 ho.rd, ?_, ho.2⟩
        unfold textB Ent.framed
        rw [textOf_size, bytesOf_textOf (bytes_all ho.rd)])
      have hpt : ∀ W, Calls Tryz.prog 70 #[.slice none 0 0, .string (textOf x.l[k].bytes)] W fun e w' => ∃ a m c, e = .returned (.slice a m c) ∧ RowKit.Hid (OwnB W w' (.slice a m c) (textB (textOf x.l[k].bytes))) := fun W =>
        (rPutText_any W No (.slice none 0 0) [] ⟨none, 0, rfl, by simp, by simp, fun _ => ⟨rfl, rfl⟩, fun i hi => absurd hi (by simp)⟩ (textOf x.l[k].bytes) (by rw [textOf_size]; simp; omega)).mono (by
          rintro e w' ⟨a, c, rfl, ho⟩
          exact ⟨a, _, c, rfl, Lib.hid (by simpa using ho)⟩)
      have htk : (x.l.take (k + 1)).flatMap Ent.framed = (x.l.take k).flatMap Ent.framed ++ x.l[k].framed := by
        rw [List.take_succ_eq_append_getElem hlt, List.flatMap_append]; simp
      have hfr := framed_all (x.l.take k) fun e he => (hfit e (List.mem_of_mem_take he)).2
      have hfk := framed_len ft2
      rw [List.length_take] at hfr
      have hbnd : (x.head ++ (x.l.take k).flatMap Ent.framed).length + x.l[k].framed.length ≤ 140737488355328 := by
        rw [List.length_append]; omega
      have HX := Lib.hid (And.intro hlt (And.intro htk hbnd))
      clear hr hx hb h1 h2 hf hfit b1 hk hhd hel ft1 ft2 htk hfr hfk hbnd
      generalize x.l[k] = xk at *
      generalize xk.seq = v1 at *
      generalize xk.epoch = v2 at *
      generalize xk.plan.client = v3 at *
      generalize xk.plan.token = v4 at *
      generalize xk.plan.name = v5 at *
      generalize xk.plan.how = v6 at *
      generalize xk.plan.args.length = m1 at *
      generalize xk.plan.reads.length = m2 at *
      generalize xk.plan.writes.length = m3 at *
      clear hlt
      go_wp2_with (go_at_call 21; refine hput.mono ?_; clear hput; rintro e w7 ⟨a7, m7, c7, rfl, hconv, H7⟩)
      refine (hpt w7).mono ?_
      clear hpt
      rintro e w8 ⟨a8, m8, c8, rfl, H8⟩
      obtain ⟨a9, m9, c9, w9, hrun, ho9, hk9⟩ := app_sliceA ((HR.out.more (H7.out.2.trans H8.out.2)).1) H8.out.rd (by rw [H7.out.1]; exact HX.out.2.2)
      have H9 := Lib.hid (And.intro ho9 hk9)
      clear ho9 hk9
      go_wp2_with (at_builtin; refine wpList_app rfl (.tmp 40) (.tmp 43) 53 53 rfl rfl rfl hrun ?_)
      go_roundw
      case rel =>
        obtain ⟨o1, o2⟩ := H9.out
        have hm := HR.out.more (H7.out.2.trans H8.out.2)
        refine ⟨k + 1, a9, m9, c9, by simp, rfl, HX.out.1, ⟨?_, hm.2.then o2 fun i hi hh => by have := hh.1; omega⟩⟩
        rw [HX.out.2.1, ← H7.out.1, ← List.append_assoc]
        refine Own.mono o1 fun i hi => ⟨?_, hi.2⟩
        rcases hi.1 with h | h
        · exact h.1
        · have := hm.2.size; omega
      case measure => simp [intOf]; have := HX.out.1; omega
    · obtain rfl : k = x.l.length := by omega
      clear hlt hk h1 h2 hf hfit b1 hhd
      go_wp2_with fail
      go_ret
      have hfin := HR.out
      rw [List.take_length] at hfin
      exact ⟨a, m, c, rfl, hfin⟩
end Go.Proofs.YtnknihmchmmenaaGreat
