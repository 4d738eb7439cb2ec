/-
  Parts of what is proved for this claim; each declaration is one of the seat's texts.
-/
import Derived.Test.YtcallmnhaikfpaaGreatDoorTGA
import Derived.Test.YtcallmnhaikfpaaGreatDoorTGB
import Derived.Test.YtcallmnhaikfpaaGreatDoorTGC
import Derived.Test.YtcallmnhaikfpaaGreatDoorTGD
import Derived.Test.YtcallmnhaikfpaaGreatDoorTGF
import Derived.Test.YtcallmnhaikfpaaGreatDoorTGJ
import Derived.Test.YtcallmnhaikfpaaGreatDoorTGK
import Derived.Test.YtcallmnhaikfpaaGreatDoorTGS
import Derived.Test.YtcallmnhaikfpaaGreatDoorTGU
import Derived.Still
import Derived.StillTactics
import Derived.WalkKit
import Derived.WalkSpells
import Derived.WalkLawsBesides
import Derived.ProofKit
import Derived.Deep.Slices
import Derived.Deep.AppendSrc
import Derived.Lib.Hide
import Derived.Recover
import Derived.Defers
import Derived.Deep.QuietTactic
import Derived.BigQuiet
import Derived.Handy
import Derived.Laws.Bits64b
import Derived.Lib.Zigzag
import Derived.OwnWalk
import Derived.Deep.DeepCutAuto
import Derived.Lib.Bytealg
import Derived.Laws.Externs
import Derived.Deep.LoopGhost
import Derived.Laws.CopyRow
import Derived.Laws.IdiomCopy
import Derived.Maps.OwnSet
import Derived.Maps.RangeWalk
import Derived.Shelf.SortM.Plain
import Derived.Shelf.SortM.SortNone
import Derived.Ground.SlgmProg
import Derived.Maps.OwnOps
set_option linter.unusedVariables false
set_option linter.unusedSimpArgs false
namespace Go.Proofs.YtcallmnhaikfpaaGreatDoor
open Go Go.RowKit Go.Deep
def RqMid (w : World) (S : Nat → Prop) (q : Req) (aa : Option Addr) (ca : Nat) (x : Bytes) (v : Value) (wr : World) : Prop :=
  OwnB w wr v x ∧ wr.heap[w.heap.size]? = some (.cells #[.int .i64 q.client, .int .u64 q.token, .string q.name, .slice aa q.args.length ca] 38 (0, 0)) ∧ Rd (.slice valueSh) wr S [.slice aa q.args.length ca] q.args
theorem RqMid.keep {w : World} {S : Nat → Prop} {q : Req} {aa : Option Addr} {ca : Nat} {x : Bytes} {v : Value} {wr w2 : World} (h : RqMid w S q aa ca x v wr) (hk : Keep No wr w2) : RqMid w S q aa ca x v w2 :=
  ⟨h.1.more hk, hk.blk h.2.1 (fun x => x), h.2.2.agree _ hk.agreeNo⟩
theorem RqMid.next {w : World} {S : Nat → Prop} {q : Req} {aa : Option Addr} {ca : Nat} {x y : Bytes} {v v' : Value} {wr w2 : World} (h : RqMid w S q aa ca x v wr) (ho : OwnB wr w2 v' (x ++ y)) : RqMid w S q aa ca (x ++ y) v' w2 :=
  ⟨ho.back h.1.2, ho.2.blk h.2.1 (fun x => x), h.2.2.agree _ ho.2.agreeNo⟩
theorem RqMid.uint {w : World} {S : Nat → Prop} {q : Req} {aa : Option Addr} {ca : Nat} {x : Bytes} {v : Value} {wr : World} (h : RqMid w S q aa ca x v wr) (n : Int) (h0 : 0 ≤ n) (h1 : n < 18446744073709551616) (hl : x.length + 10 ≤ 140737488355328) :
    Calls Tryz.prog 35 #[v, .int .u64 n] wr fun e w2 => ∃ a m c, e = .returned (.slice a m c) ∧ RowKit.Hid (RqMid w S q aa ca (x ++ uintB n.toNat) (.slice a m c) w2) ∧ w2.heap[w.heap.size]? = some (.cells #[.int .i64 q.client, .int .u64 q.token, .string q.name, .slice aa q.args.length ca] 38 (0, 0)) := by
  refine (PutUint_any wr _ v x h.1.rd n h0 h1 hl).mono ?_
  rintro e w2 ⟨a, c, rfl, ho⟩
  have hn := h.next ho
  exact ⟨a, _, c, rfl, hn, hn.2.1⟩
theorem RqMid.text {w : World} {S : Nat → Prop} {q : Req} {aa : Option Addr} {ca : Nat} {x : Bytes} {v : Value} {wr : World} (h : RqMid w S q aa ca x v wr) (t : ByteArray) (hl : x.length + t.size + 10 ≤ 140737488355328) :
    Calls Tryz.prog 37 #[v, .string t] wr fun e w2 => ∃ a m c, e = .returned (.slice a m c) ∧ RowKit.Hid (RqMid w S q aa ca (x ++ textB t) (.slice a m c) w2) ∧ w2.heap[w.heap.size]? = some (.cells #[.int .i64 q.client, .int .u64 q.token, .string q.name, .slice aa q.args.length ca] 38 (0, 0)) := by
  refine (PutText_any wr _ v x h.1.rd t hl).mono ?_
  rintro e w2 ⟨a, c, rfl, ho⟩
  have hn := h.next ho
  exact ⟨a, _, c, rfl, hn, hn.2.1⟩
theorem RqMid.val {w : World} {S : Nat → Prop} {q : Req} {aa : Option Addr} {ca : Nat} {x : Bytes} {v : Value} {wr : World} (h : RqMid w S q aa ca x v wr) (u : Val) (hi : u.In) (ht : u.text.size ≤ 9223372036854775807) (hl : x.length + 200 ≤ 140737488355328) :
    Calls Tryz.prog 93 #[v, .agg #[.int .i64 u.kind, .int .i64 u.num, .string u.text]] wr fun e w2 => ∃ a m c, e = .returned (.slice a m c) ∧ RowKit.Hid (RqMid w S q aa ca (x ++ u.bytes) (.slice a m c) w2) := by
  refine (vPut_any wr _ v x h.1.rd u.kind u.num u.text hi ht hl).mono ?_
  rintro e w2 ⟨a, n, c, rfl, ho⟩
  exact ⟨a, n, c, rfl, h.next ho⟩
theorem args_bytes (l : List Val) (k : Nat) (hk : k < l.length) : (l.take (k + 1)).flatMap Val.bytes = (l.take k).flatMap Val.bytes ++ l[k].bytes := by
  rw [List.take_succ_eq_append_getElem hk, List.flatMap_append]; simp
theorem args_le (l : List Val) (k : Nat) : ((l.take k).flatMap Val.bytes).length ≤ (l.flatMap Val.bytes).length := by
  conv => rhs; rw [← List.take_append_drop k l, List.flatMap_append, List.length_append]
  omega
set_option maxRecDepth 10000 in
set_option maxHeartbeats 4000000 in
theorem rqPut_any (w : World) (S T : Nat → Prop) (v : Value) (l : Bytes) (hv : Rd bytesSh w T [v] l) (hl : l.length + 1000 ≤ 140737488355328) (cs : List Value) (q : Req) (h : Rd requestSh w S cs q) (hn : q.name.size ≤ 9223372036854775806) :
    Calls Tryz.prog 57 #[v, .agg cs.toArray] w (PutsC w (if q.check = 0 then l ++ q.bytes else []) q.check) := by
  have h' := h
  obtain ⟨aa, ca, rfl, h4, w1, w2, w3⟩ := req_cells h
  have K1 : Keep No w (w.alloc (.cells #[.int .i64 q.client, .int .u64 q.token, .string q.name, .slice aa q.args.length ca] 38)) := (Keep.refl No w).alloc _
  have hc := (check_any _ S _ q (h'.agree _ K1.agreeNo) hn).mono (R' := fun e w3 => e = .returned (.int .i64 q.check) ∧ w3.heap[w.heap.size]? = some (.cells #[.int .i64 q.client, .int .u64 q.token, .string q.name, .slice aa q.args.length ca] 38 (0, 0)) ∧
      RowKit.Hid (Keep No w w3 ∧ Rd bytesSh w3 T [v] l ∧ Rd (.slice valueSh) w3 S [.slice aa q.args.length ca] q.args)) (by
    rintro e w3 ⟨rfl, hk⟩
    exact ⟨rfl, hk.blk (blk_new w _) (fun x => x), K1.trans hk, (hv.agree _ K1.agreeNo).agree _ hk.agreeNo, (h4.agree _ K1.agreeNo).agree _ hk.agreeNo⟩)
  obtain ⟨a0, c0, rfl, -⟩ := bytes_at hv
  by_cases hz : q.check = 0
  · rw [if_pos hz, hz]
    rw [hz] at hc
    have hiff := (Req.check_iff q).1 hz
    have hbl := Req.bytes_length hz
    have hIs := Lib.hid (And.intro hiff (And.intro hbl hl))
    have i1 : 0 ≤ q.client := hiff.1
    have i2 : q.client < 64 := hiff.2.1
    have i3 : (Lit.int .u64 q.token).wf = true := w2
    simp [Lit.wf, IntKind.min, IntKind.max, IntKind.signed, IntKind.bits] at i3
    have i5 := nameOk_size hiff.2.2.1
    have i6 := hiff.2.2.2.1
    have HI := Lib.hid (And.intro i3 (And.intro i5 i6))
    have hb : q.bytes = uintB q.client.toNat ++ uintB q.token.toNat ++ textB q.name ++ uintB q.args.length ++ q.args.flatMap Val.bytes := rfl
    have HB := Lib.hid hb
    clear hv h h' h4 K1 w1 w2 w3 hiff hbl hz i3 i5 i6 hb hl hn
    generalize hln : l.length = ln at *
    have HLN := Lib.hid hln
    clear hln
    go_enter Tryz.func57, Tryz.ntmps57
    go_wp2_with fail
    refine hc.mono ?_
    clear hc
    rintro e w3 ⟨rfl, x1, HK⟩
    have q1 := blk_cell x1
    go_wp2_with fail
    have hu1 := (PutUint_any w3.drew T (.slice a0 ln c0) l (HK.out.2.1.agree _ (Keep.refl No w3).drew.agreeNo) q.client i1 (by omega) (by have := hIs.out.2.2; rw [HLN.out]; omega)).mono (R' := fun e w4 => ∃ a m c, e = .returned (.slice a m c) ∧ RowKit.Hid (RqMid w S q aa ca (l ++ uintB q.client.toNat) (.slice a m c) w4) ∧ w4.heap[w.heap.size]? = some (.cells #[.int .i64 q.client, .int .u64 q.token, .string q.name, .slice aa q.args.length ca] 38 (0, 0))) (by
      rintro e w4 ⟨a, c, rfl, ho⟩
      have hk := (HK.out.1.trans (Keep.refl No w3).drew)
      have hx := ho.2.blk (((Keep.refl No w3).drew).blk x1 (fun x => x)) (fun x => x)
      exact ⟨a, _, c, rfl, ⟨ho.back hk, hx, (HK.out.2.2.agree _ (Keep.refl No w3).drew.agreeNo).agree _ ho.2.agreeNo⟩, hx⟩)
    refine wp_region_can [0, 1, 2, 3, 5, 6, 4, 7, 8] [4, 7] [(5, 4), (6, 4)] (by kernel_rfl) (by kernel_rfl) (by kernel_rfl) (by kernel_rfl) (by intro c a d v w h; cases d <;> exact h) ?_
    iterate 6 (refine can_sil rfl rfl (fun K hK => ?_); go_simp; refine hK _ ?_; clear hK K)
    clear q1 x1
    refine can_loud [5, 6] rfl rfl rfl (fun K hK => ?_)
    go_wp2_with (go_at_call 35; refine hu1.mono ?_; clear hu1; rintro e w4 ⟨a4, n4, c4, rfl, HM, x1⟩)
    have q1 := blk_cell x1
    refine Mid.normal (hK _ _ ?_ ?_)
    · simp only [List.forall_mem_cons]
      refine ⟨?_, ?_, stabs_nil⟩ <;> exact stab_of rfl (fun K hK => by go_simp; exact hK)
    clear hK K q1 x1
    have hu2 := HM.out.uint q.token HI.out.1.1 (by have := HI.out.1.2; omega) (by have := hIs.out.2.2; have := HLN.out; have := (uintB_length q.client.toNat).2; rw [List.length_append]; omega)
    refine can_loud [] rfl rfl rfl (fun K hK => ?_)
    go_wp2_with (go_at_call 35; refine hu2.mono ?_; clear hu2 HM; rintro e w5 ⟨a5, n5, c5, rfl, HM, x1⟩)
    refine Mid.normal (hK _ _ stabs_nil ?_)
    clear hK K
    refine can_sil rfl rfl (fun K hK => ?_); go_simp; refine hK _ ?_; clear hK K
    refine can_nil ?_
    have q1 := blk_cell x1
    go_wp2_with fail
    have hu3 := (HM.out.keep (Keep.refl No w5).drew).text q.name (by
      have := hIs.out.2.2; have := HLN.out; have := (uintB_length q.client.toNat).2; have := (uintB_length q.token.toNat).2; have := HI.out.2.1; simp only [List.length_append]; omega)
    have j1 : (q.args.length : Int) ≤ 8 := by have := HI.out.2.2; omega
    have j0 : (0 : Int) ≤ q.args.length := by omega
    generalize hm : q.args.length = m at *
    have HMM := Lib.hid hm
    clear hm
    have hwm : IntKind.u64.wrap (m : Int) = (m : Int) := wrap_u64_nat m (by omega)
    refine wp_region_can [0, 1, 2, 4, 5, 6, 7, 3, 8, 9] [3, 8] [(4, 3), (5, 3), (6, 3), (7, 3)] (by kernel_rfl) (by kernel_rfl) (by kernel_rfl) (by kernel_rfl) (by intro c a d v w h; cases d <;> exact h) ?_
    iterate 7 (refine can_sil rfl rfl (fun K hK => ?_); go_simp; refine hK _ ?_; clear hK K)
    clear q1 x1
    refine can_loud [4, 5, 6, 7] rfl rfl rfl (fun K hK => ?_)
    go_wp2_with (go_at_call 37; refine hu3.mono ?_; clear hu3 HM; rintro e w6 ⟨a6, n6, c6, rfl, HM, x1⟩)
    have q1 := blk_cell x1
    refine Mid.normal (hK _ _ ?_ ?_)
    · simp only [List.forall_mem_cons]
      refine ⟨?_, ?_, ?_, ?_, stabs_nil⟩ <;> exact stab_of rfl (fun K hK => by go_simp; exact hK)
    clear hK K q1 x1
    clear hwm
    have hu4 := HM.out.uint (m : Int) j0 (by omega) (by
      have := hIs.out.2.2; have := HLN.out; have := (uintB_length q.client.toNat).2; have := (uintB_length q.token.toNat).2; have := textB_length q.name; have := HI.out.2.1; simp only [List.length_append]; omega)
    rw [Int.toNat_natCast, HMM.out] at hu4
    refine can_loud [] rfl rfl rfl (fun K hK => ?_)
    go_wp2_with (go_at_call 35; refine hu4.mono ?_; clear hu4 HM; rintro e w7 ⟨a7, n7, c7, rfl, HM, x1⟩)
    refine Mid.normal (hK _ _ stabs_nil ?_)
    clear hK K
    refine can_sil rfl rfl (fun K hK => ?_); go_simp; refine hK _ ?_; clear hK K
    refine can_nil ?_
    have q1 := blk_cell x1
    have hlen : (l ++ uintB q.client.toNat ++ uintB q.token.toNat ++ textB q.name ++ uintB m).length + (q.args.flatMap Val.bytes).length ≤ ln + 700 := by
      have h1 := hIs.out.2.1
      rw [HB.out] at h1
      simp only [List.length_append] at h1 ⊢
      have := HLN.out
      omega
    generalize hx0 : l ++ uintB q.client.toNat ++ uintB q.token.toNat ++ textB q.name ++ uintB m = x0 at *
    have HX0 := Lib.hid (And.intro hx0 hlen)
    clear hx0 hlen
    go_wp2_with fail
    clear q1
    go_loopw [0, 34] (fun v i wr => ∃ (k : Nat) (a : Option Addr) (n c : Nat), k ≤ m ∧ i = .int .i64 k ∧ v = .slice a n c ∧ RowKit.Hid (RqMid w S q aa ca (x0 ++ (q.args.take k).flatMap Val.bytes) (.slice a n c) wr)) (fun _ i _ => m - (intOf i).toNat)
    case atStart => exact ⟨0, _, _, _, by omega, rfl, rfl, by simpa using HM⟩
    case round =>
      obtain ⟨k, a, n, c, hk, rfl, rfl, HR⟩ := hrel
      by_cases hlt : k < m
      · have k1 : (k : Int) < m := by omega
        have k0 : (0 : Int) ≤ k := by omega
        have k3 : (k : Int) ≤ 9223372036854775806 := by omega
        have hlt' : k < q.args.length := by rw [HMM.out]; exact hlt
        obtain ⟨b, off, rfl, hb, -, e0, e1, e2, hvi, hvs⟩ := vals_get HR.out.2.2 k hlt'
        have hnew := HR.out.keep ((Keep.refl No wr).alloc (.cells #[.int .i64 q.args[k].kind, .int .i64 q.args[k].num, .string q.args[k].text] 84))
        have hval := (hnew.val q.args[k] hvi hvs (by
          have h1 := HX0.out.2
          have h2 := args_le q.args k
          have h3 := hIs.out.2.2
          rw [List.length_append]
          have := HLN.out
          omega)).mono (R' := fun e w8 => ∃ a m' c, e = .returned (.slice a m' c) ∧ RowKit.Hid (RqMid w S q (some ⟨b, off, none⟩) ca (x0 ++ (q.args.take (k + 1)).flatMap Val.bytes) (.slice a m' c) w8)) (by
          rintro e w8 ⟨a8, m8, c8, rfl, hm8⟩
          refine ⟨a8, m8, c8, rfl, ?_⟩
          rw [args_bytes q.args k hlt', ← List.append_assoc]
          exact hm8)
        have HLT := Lib.hid hlt
        clear hnew hvi hvs hb
        generalize q.args[k].kind = y1 at *
        generalize q.args[k].num = y2 at *
        generalize q.args[k].text = y3 at *
        clear hlt hlt' hk HR
        go_wp2_with (go_at_call 93; refine hval.mono ?_; clear hval; rintro e w8 ⟨a8, n8, c8, rfl, HM8⟩)
        go_roundw
        case rel => exact ⟨k + 1, a8, n8, c8, by have := HLT.out; omega, by simp, rfl, HM8⟩
        case measure => simp [intOf]; have := HLT.out; omega
      · have k1 : ¬ (k : Int) < m := by omega
        have hke : k = m := by omega
        subst hke
        clear hk hlt
        go_wp2_with fail
        go_ret2
        refine ⟨a, n, c, rfl, ?_⟩
        have h1 := HR.out.1
        rw [List.take_of_length_le (by rw [HMM.out]; exact Nat.le_refl _), ← HX0.out.1] at h1
        rw [HB.out]
        simpa only [List.append_assoc] using h1
  · rw [if_neg hz]
    have d1 : (q.check != 0) = true := by simpa using hz
    clear hv h h' h4 K1 w1 w2 w3 hz hl hn
    generalize q.check = ck at *
    generalize l.length = ln at *
    go_enter Tryz.func57, Tryz.ntmps57
    go_wp2_with fail
    refine hc.mono ?_
    clear hc
    rintro e w3 ⟨rfl, x1, HK⟩
    go_wp2_with fail
    go_ret2
    exact ⟨_, _, _, rfl, ⟨Own.nil _ _ _ _, HK.out.1⟩⟩
end Go.Proofs.YtcallmnhaikfpaaGreatDoor
