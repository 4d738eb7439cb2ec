/-
  Parts of what is proved for this claim; each declaration is one of the seat's texts.
-/
import Derived.Test.YtpjcebajkfeacaaGreatDoorBGA
import Derived.Test.YtpjcebajkfeacaaGreatDoorBGB
import Derived.Test.YtpjcebajkfeacaaGreatDoorBGC
import Derived.Test.YtpjcebajkfeacaaGreatDoorBGD
import Derived.Test.YtpjcebajkfeacaaGreatDoorBGF
import Derived.Test.YtpjcebajkfeacaaGreatDoorBGG
import Derived.Test.YtpjcebajkfeacaaGreatDoorBGH
import Derived.Test.YtpjcebajkfeacaaGreatDoorBGI
import Derived.Test.YtpjcebajkfeacaaGreatDoorBGJ
import Derived.Test.YtpjcebajkfeacaaGreatDoorBGK
import Derived.Test.YtpjcebajkfeacaaGreatDoorBGQ
import Derived.Test.YtpjcebajkfeacaaGreatDoorBGU
import Derived.Still
import Derived.StillTactics
import Derived.WalkKit
import Derived.Recover
import Derived.Defers
import Derived.Deep.QuietTactic
import Derived.BigQuiet
import Derived.Handy
import Derived.Laws.Bits64b
import Derived.Lib.Zigzag
import Derived.OwnWalk
import Derived.Deep.DeepCutAuto
import Derived.Lib.Bytealg
import Derived.Laws.Externs
import Derived.Deep.LoopGhost
import Derived.Laws.CopyRow
import Derived.Laws.IdiomCopy
import Derived.WalkSpells
import Derived.WalkLawsBesides
import Derived.ProofKit
import Derived.Deep.Slices
import Derived.Deep.AppendSrc
import Derived.Lib.Hide
import Derived.Maps.OwnSet
import Derived.Maps.RangeWalk
import Derived.Shelf.SortM.Plain
import Derived.Shelf.SortM.SortNone
import Derived.Ground.SlgmProg
import Derived.Maps.OwnOps
set_option linter.unusedVariables false
set_option linter.unusedSimpArgs false
namespace Go.Proofs.YtpjcebajkfeacaaGreatDoor
open Go Go.RowKit Go.Deep
def RqMid (w : World) (S : Nat → Prop) (q : Req) (aa : Option Addr) (ca : Nat) (x : Bytes) (v : Value) (wr : World) : Prop :=
  OwnB w wr v x ∧ wr.heap[w.heap.size]? = some (.cells #[.int .i64 q.client, .int .u64 q.token, .string q.name, .slice aa q.args.length ca] 29 (0, 0)) ∧ Rd (.slice valueSh) wr S [.slice aa q.args.length ca] q.args
theorem RqMid.keep {w : World} {S : Nat → Prop} {q : Req} {aa : Option Addr} {ca : Nat} {x : Bytes} {v : Value} {wr w2 : World} (h : RqMid w S q aa ca x v wr) (hk : Keep No wr w2) : RqMid w S q aa ca x v w2 :=
  ⟨h.1.more hk, hk.blk h.2.1 (fun x => x), h.2.2.agree _ hk.agreeNo⟩
theorem RqMid.next {w : World} {S : Nat → Prop} {q : Req} {aa : Option Addr} {ca : Nat} {x y : Bytes} {v v' : Value} {wr w2 : World} (h : RqMid w S q aa ca x v wr) (ho : OwnB wr w2 v' (x ++ y)) : RqMid w S q aa ca (x ++ y) v' w2 :=
  ⟨ho.back h.1.2, ho.2.blk h.2.1 (fun x => x), h.2.2.agree _ ho.2.agreeNo⟩
theorem RqMid.uint {w : World} {S : Nat → Prop} {q : Req} {aa : Option Addr} {ca : Nat} {x : Bytes} {v : Value} {wr : World} (h : RqMid w S q aa ca x v wr) (n : Int) (h0 : 0 ≤ n) (h1 : n < 18446744073709551616) (hl : x.length + 10 ≤ 140737488355328) :
    Calls Tryz.prog 46 #[v, .int .u64 n] wr fun e w2 => ∃ a m c, e = .returned (.slice a m c) ∧ RowKit.Hid (RqMid w S q aa ca (x ++ uintB n.toNat) (.slice a m c) w2) ∧ w2.heap[w.heap.size]? = some (.cells #[.int .i64 q.client, .int .u64 q.token, .string q.name, .slice aa q.args.length ca] 29 (0, 0)) := by
  refine (PutUint_any wr _ v x h.1.rd n h0 h1 hl).mono ?_
  rintro e w2 ⟨a, c, rfl, ho⟩
  have hn := h.next ho
  exact ⟨a, _, c, rfl, hn, hn.2.1⟩
theorem RqMid.text {w : World} {S : Nat → Prop} {q : Req} {aa : Option Addr} {ca : Nat} {x : Bytes} {v : Value} {wr : World} (h : RqMid w S q aa ca x v wr) (t : ByteArray) (hl : x.length + t.size + 10 ≤ 140737488355328) :
    Calls Tryz.prog 47 #[v, .string t] wr fun e w2 => ∃ a m c, e = .returned (.slice a m c) ∧ RowKit.Hid (RqMid w S q aa ca (x ++ textB t) (.slice a m c) w2) ∧ w2.heap[w.heap.size]? = some (.cells #[.int .i64 q.client, .int .u64 q.token, .string q.name, .slice aa q.args.length ca] 29 (0, 0)) := by
  refine (PutText_any wr _ v x h.1.rd t hl).mono ?_
  rintro e w2 ⟨a, c, rfl, ho⟩
  have hn := h.next ho
  exact ⟨a, _, c, rfl, hn, hn.2.1⟩
theorem RqMid.val {w : World} {S : Nat → Prop} {q : Req} {aa : Option Addr} {ca : Nat} {x : Bytes} {v : Value} {wr : World} (h : RqMid w S q aa ca x v wr) (u : Val) (hi : u.In) (ht : u.text.size ≤ 9223372036854775807) (hl : x.length + 200 ≤ 140737488355328) :
    Calls Tryz.prog 48 #[v, .agg #[.int .i64 u.kind, .int .i64 u.num, .string u.text]] wr fun e w2 => ∃ a m c, e = .returned (.slice a m c) ∧ RowKit.Hid (RqMid w S q aa ca (x ++ u.bytes) (.slice a m c) w2) := by
  refine (vPut_any wr _ v x h.1.rd u.kind u.num u.text hi ht hl).mono ?_
  rintro e w2 ⟨a, n, c, rfl, ho⟩
  exact ⟨a, n, c, rfl, h.next ho⟩
theorem args_bytes (l : List Val) (k : Nat) (hk : k < l.length) : (l.take (k + 1)).flatMap Val.bytes = (l.take k).flatMap Val.bytes ++ l[k].bytes := by
  rw [List.take_succ_eq_append_getElem hk, List.flatMap_append]; simp
theorem args_le (l : List Val) (k : Nat) : ((l.take k).flatMap Val.bytes).length ≤ (l.flatMap Val.bytes).length := by
  conv => rhs; rw [← List.take_append_drop k l, List.flatMap_append, List.length_append]
  omega
set_option maxRecDepth 10000 in
set_option maxHeartbeats 4000000 in
theorem rqPut_any (w : World) (S T : Nat → Prop) (v : Value) (l : Bytes) (hv : Rd bytesSh w T [v] l) (hl : l.length + 1000 ≤ 140737488355328) (cs : List Value) (q : Req) (h : Rd requestSh w S cs q) (hn : q.name.size ≤ 9223372036854775806) :
    Calls Tryz.prog 16 #[v, .agg cs.toArray] w (PutsC w (if q.check = 0 then l ++ q.bytes else []) q.check) := by
  have h' := h
  obtain ⟨aa, ca, rfl, h4, w1, w2, w3⟩ := req_cells h
  have K1 : Keep No w (w.alloc (.cells #[.int .i64 q.client, .int .u64 q.token, .string q.name, .slice aa q.args.length ca] 29)) := (Keep.refl No w).alloc _
  have hc := (check_any _ S _ q (h'.agree _ K1.agreeNo) hn).mono (R' := fun e w3 => e = .returned (.int .i64 q.check) ∧ w3.heap[w.heap.size]? = some (.cells #[.int .i64 q.client, .int .u64 q.token, .string q.name, .slice aa q.args.length ca] 29 (0, 0)) ∧
      RowKit.Hid (Keep No w w3 ∧ Rd bytesSh w3 T [v] l ∧ Rd (.slice valueSh) w3 S [.slice aa q.args.length ca] q.args)) (by
    rintro e w3 ⟨rfl, hk⟩
    exact ⟨rfl, hk.blk (blk_new w _) (fun x => x), K1.trans hk, (hv.agree _ K1.agreeNo).agree _ hk.agreeNo, (h4.agree _ K1.agreeNo).agree _ hk.agreeNo⟩)
  obtain ⟨a0, c0, rfl, -⟩ := bytes_at hv
  by_cases hz : q.check = 0
  · rw [if_pos hz, hz]
    rw [hz] at hc
    have hiff := (Req.check_iff q).1 hz
    have hbl := Req.bytes_length hz
    have hIs := Lib.hid (And.intro hiff (And.intro hbl hl))
    have i1 : 0 ≤ q.client := hiff.1
    have i2 : q.client < 64 := hiff.2.1
    have i3 : (Lit.int .u64 q.token).wf = true := w2
    simp [Lit.wf, IntKind.min, IntKind.max, IntKind.signed, IntKind.bits] at i3
    have i5 := nameOk_size hiff.2.2.1
    have i6 := hiff.2.2.2.1
    have HI := Lib.hid (And.intro i3 (And.intro i5 i6))
    have hb : q.bytes = uintB q.client.toNat ++ uintB q.token.toNat ++ textB q.name ++ uintB q.args.length ++ q.args.flatMap Val.bytes := rfl
    have HB := Lib.hid hb
    clear hv h h' h4 K1 w1 w2 w3 hiff hbl hz i3 i5 i6 hb hl hn
    generalize hln : l.length = ln at *
    have HLN := Lib.hid hln
    clear hln
    go_enter Tryz.func16, Tryz.ntmps16
    go_wp2_with fail
    refine hc.mono ?_
    clear hc
    rintro e w3 ⟨rfl, x1, HK⟩
    have q1 := blk_cell x1
    go_wp2_with fail
    have hu1 := (PutUint_any w3.drew T (.slice a0 ln c0) l (HK.out.2.1.agree _ (Keep.refl No w3).drew.agreeNo) q.client i1 (by omega) (by have := hIs.out.2.2; rw [HLN.out]; omega)).mono (R' := fun e w4 => ∃ a m c, e = .returned (.slice a m c) ∧ RowKit.Hid (RqMid w S q aa ca (l ++ uintB q.client.toNat) (.slice a m c) w4) ∧ w4.heap[w.heap.size]? = some (.cells #[.int .i64 q.client, .int .u64 q.token, .string q.name, .slice aa q.args.length ca] 29 (0, 0))) (by
      rintro e w4 ⟨a, c, rfl, ho⟩
      have hk := (HK.out.1.trans (Keep.refl No w3).drew)
      have hx := ho.2.blk (((Keep.refl No w3).drew).blk x1 (fun x => x)) (fun x => x)
      exact ⟨a, _, c, rfl, ⟨ho.back hk, hx, (HK.out.2.2.agree _ (Keep.refl No w3).drew.agreeNo).agree _ ho.2.agreeNo⟩, hx⟩)
    refine wp_region_can [0, 1, 2, 3, 5, 6, 4, 7, 8] [4, 7] [(5, 4), (6, 4)] (by kernel_rfl) (by kernel_rfl) (by kernel_rfl) (by kernel_rfl) (by intro c a d v w h; cases d <;> exact h) ?_
    iterate 6 (refine can_sil rfl rfl (fun K hK => ?_); go_simp; refine hK _ ?_; clear hK K)
    clear q1 x1
    refine can_loud [5, 6] rfl rfl rfl (fun K hK => ?_)
    go_wp2_with (go_at_call 46; refine hu1.mono ?_; clear hu1; rintro e w4 ⟨a4, n4, c4, rfl, HM, x1⟩)
    have q1 := blk_cell x1
    refine Mid.normal (hK _ _ ?_ ?_)
    · simp only [List.forall_mem_cons]
      refine ⟨?_, ?_, stabs_nil⟩ <;> exact stab_of rfl (fun K hK => by go_simp; exact hK)
    clear hK K q1 x1
    have hu2 := HM.out.uint q.token HI.out.1.1 (by have := HI.out.1.2; omega) (by have := hIs.out.2.2; have := HLN.out; have := (uintB_length q.client.toNat).2; rw [List.length_append]; omega)
    refine can_loud [] rfl rfl rfl (fun K hK => ?_)
    go_wp2_with (go_at_call 46; refine hu2.mono ?_; clear hu2 HM; rintro e w5 ⟨a5, n5, c5, rfl, HM, x1⟩)
    refine Mid.normal (hK _ _ stabs_nil ?_)
    clear hK K
    refine can_sil rfl rfl (fun K hK => ?_); go_simp; refine hK _ ?_; clear hK K
    refine can_nil ?_
    have q1 := blk_cell x1
    go_wp2_with fail
    have hu3 := (HM.out.keep (Keep.refl No w5).drew).text q.name (by
      have := hIs.out.2.2; have := HLN.out; have := (uintB_length q.client.toNat).2; have := (uintB_length q.token.toNat).2; have := HI.out.2.1; simp only [List.length_append]; omega)
    have j1 : (q.args.length : Int) ≤ 8 := by have := HI.out.2.2; omega
    have j0 : (0 : Int) ≤ q.args.length := by omega
    generalize hm : q.args.length = m at *
    have HMM := Lib.hid hm
    clear hm
    have hwm : IntKind.u64.wrap (m : Int) = (m : Int) := wrap_u64_nat m (by omega)
    refine wp_region_can [0, 1, 2, 4, 5, 6, 7, 3, 8, 9] [3, 8] [(4, 3), (5, 3), (6, 3), (7, 3)] (by kernel_rfl) (by kernel_rfl) (by kernel_rfl) (by kernel_rfl) (by intro c a d v w h; cases d <;> exact h) ?_
    iterate 7 (refine can_sil rfl rfl (fun K hK => ?_); go_simp; refine hK _ ?_; clear hK K)
    clear q1 x1
    refine can_loud [4, 5, 6, 7] rfl rfl rfl (fun K hK => ?_)
    go_wp2_with (go_at_call 47; refine hu3.mono ?_; clear hu3 HM; rintro e w6 ⟨a6, n6, c6, rfl, HM, x1⟩)
    have q1 := blk_cell x1
    refine Mid.normal (hK _ _ ?_ ?_)
    · simp only [List.forall_mem_cons]
      refine ⟨?_, ?_, ?_, ?_, stabs_nil⟩ <;> exact stab_of rfl (fun K hK => by go_simp; exact hK)
    clear hK K q1 x1
    clear hwm
    have hu4 := HM.out.uint (m : Int) j0 (by omega) (by
      have := hIs.out.2.2; have := HLN.out; have := (uintB_length q.client.toNat).2; have := (uintB_length q.token.toNat).2; have := textB_length q.name; have := HI.out.2.1; simp only [List.length_append]; omega)
    rw [Int.toNat_natCast, HMM.out] at hu4
    refine can_loud [] rfl rfl rfl (fun K hK => ?_)
    go_wp2_with (go_at_call 46; refine hu4.mono ?_; clear hu4 HM; rintro e w7 ⟨a7, n7, c7, rfl, HM, x1⟩)
    refine Mid.normal (hK _ _ stabs_nil ?_)
    clear hK K
    refine can_sil rfl rfl (fun K hK => ?_); go_simp; refine hK _ ?_; clear hK K
    refine can_nil ?_
    have q1 := blk_cell x1
    have hlen : (l ++ uintB q.client.toNat ++ uintB q.token.toNat ++ textB q.name ++ uintB m).length + (q.args.flatMap Val.bytes).length ≤ ln + 700 := by
      have h1 := hIs.out.2.1
      rw [HB.out] at h1
      simp only [List.length_append] at h1 ⊢
      have := HLN.out
      omega
    generalize hx0 : l ++ uintB q.client.toNat ++ uintB q.token.toNat ++ textB q.name ++ uintB m = x0 at *
    have HX0 := Lib.hid (And.intro hx0 hlen)
    clear hx0 hlen
    go_wp2_with fail
    clear q1
    go_loopw [0, 34] (fun v i wr => ∃ (k : Nat) (a : Option Addr) (n c : Nat), k ≤ m ∧ i = .int .i64 k ∧ v = .slice a n c ∧ RowKit.Hid (RqMid w S q aa ca (x0 ++ (q.args.take k).flatMap Val.bytes) (.slice a n c) wr)) (fun _ i _ => m - (intOf i).toNat)
    case atStart => exact ⟨0, _, _, _, by omega, rfl, rfl, by simpa using HM⟩
    case round =>
      obtain ⟨k, a, n, c, hk, rfl, rfl, HR⟩ := hrel
      by_cases hlt : k < m
      · have k1 : (k : Int) < m := by omega
        have k0 : (0 : Int) ≤ k := by omega
        have k3 : (k : Int) ≤ 9223372036854775806 := by omega
        have hlt' : k < q.args.length := by rw [HMM.out]; exact hlt
        obtain ⟨b, off, rfl, hb, -, e0, e1, e2, hvi, hvs⟩ := vals_get HR.out.2.2 k hlt'
        have hnew := HR.out.keep ((Keep.refl No wr).alloc (.cells #[.int .i64 q.args[k].kind, .int .i64 q.args[k].num, .string q.args[k].text] 96))
        have hval := (hnew.val q.args[k] hvi hvs (by
          have h1 := HX0.out.2
          have h2 := args_le q.args k
          have h3 := hIs.out.2.2
          rw [List.length_append]
          have := HLN.out
          omega)).mono (R' := fun e w8 => ∃ a m' c, e = .returned (.slice a m' c) ∧ RowKit.Hid (RqMid w S q (some ⟨b, off, none⟩) ca (x0 ++ (q.args.take (k + 1)).flatMap Val.bytes) (.slice a m' c) w8)) (by
          rintro e w8 ⟨a8, m8, c8, rfl, hm8⟩
          refine ⟨a8, m8, c8, rfl, ?_⟩
          rw [args_bytes q.args k hlt', ← List.append_assoc]
          exact hm8)
        have HLT := Lib.hid hlt
        clear hnew hvi hvs hb
        generalize q.args[k].kind = y1 at *
        generalize q.args[k].num = y2 at *
        generalize q.args[k].text = y3 at *
        clear hlt hlt' hk HR
        go_wp2_with (go_at_call 48; refine hval.mono ?_; clear hval; rintro e w8 ⟨a8, n8, c8, rfl, HM8⟩)
        go_roundw
        case rel => exact ⟨k + 1, a8, n8, c8, by have := HLT.out; omega, by simp, rfl, HM8⟩
        case measure => simp [intOf]; have := HLT.out; omega
      · have k1 : ¬ (k : Int) < m := by omega
        have hke : k = m := by omega
        subst hke
        clear hk hlt
        go_wp2_with fail
        go_ret2
        refine ⟨a, n, c, rfl, ?_⟩
        have h1 := HR.out.1
        rw [List.take_of_length_le (by rw [HMM.out]; exact Nat.le_refl _), ← HX0.out.1] at h1
        rw [HB.out]
        simpa only [List.append_assoc] using h1
  · rw [if_neg hz]
    have d1 : (q.check != 0) = true := by simpa using hz
    clear hv h h' h4 K1 w1 w2 w3 hz hl hn
    generalize q.check = ck at *
    generalize l.length = ln at *
    go_enter Tryz.func16, Tryz.ntmps16
    go_wp2_with fail
    refine hc.mono ?_
    clear hc
    rintro e w3 ⟨rfl, x1, HK⟩
    go_wp2_with fail
    go_ret2
    exact ⟨_, _, _, rfl, ⟨Own.nil _ _ _ _, HK.out.1⟩⟩
end Go.Proofs.YtpjcebajkfeacaaGreatDoor
namespace Go.Proofs.YtpjcebajkfeacaaGreatDoor
open Go Go.RowKit Go.Deep
theorem Tryz.infoVal : (Tryz.prog.info? 96).map (fun i => (i.zero, i.size, i.bytes)) = some (some (.agg #[.int .i64 0, .int .i64 0, .string ⟨#[]⟩]), 3, 32) := by kernel_rfl
theorem wf_i64 {n : Int} (h0 : -9223372036854775808 ≤ n) (h1 : n ≤ 9223372036854775807) : (Lit.int .i64 n).wf = true := by
  simp [Lit.wf, IntKind.min, IntKind.max, IntKind.signed, IntKind.bits]; omega
theorem val_row {w : World} {S : Nat → Prop} {v : Val} (h : v.In) (ht : v.text.size ≤ 9223372036854775807) : Rd valueSh w S [.int .i64 v.kind, .int .i64 v.num, .string v.text] v := by
  have h1 := h.k0
  have h2 := h.k1
  have h3 := h.n0
  have h4 := h.n1
  refine ⟨[.int .i64 v.kind], _, rfl, ⟨rfl, ?_⟩, [.int .i64 v.num], _, rfl, ⟨rfl, ?_⟩, [.string v.text], _, rfl, ⟨rfl, by rw [maxLen_is]; exact ht⟩, rfl⟩
  · exact wf_i64 h1 h2
  · exact wf_i64 h3 h4
theorem own_val {w : World} {A : Nat → Prop} {v : Value} {l : List Val} (h : Own valueSh 96 w A v l) (x : Val) (hi : x.In) (ht : x.text.size ≤ 9223372036854775807) (hl : l.length + 1 ≤ 1048576) :
    ∃ a c w', (Builtin.append_ #[27, 27] 27 #[v, .slice (some ⟨w.heap.size, 0, none⟩) 1 1]).run Tryz.prog (w.alloc (.cells #[.int .i64 x.kind, .int .i64 x.num, .string x.text] 96)) = .ok (.slice a (l.length + 1) c) w' ∧ Own valueSh 96 w' (fun k => (A k ∨ k = w.heap.size + 1) ∧ k < w'.heap.size) (.slice a (l.length + 1) c) (l ++ [x]) ∧ Keep A w w' := by
  obtain ⟨i0, hi0, hz0, hz1, hz2⟩ := info_parts Tryz.infoVal
  have h1 : Own valueSh 96 (w.alloc (.cells #[.int .i64 x.kind, .int .i64 x.num, .string x.text] 96)) A v l := Own.agree h ((Keep.refl No w).alloc _).agreeNo
  obtain ⟨a, c, w', hr, ho, hk, hs⟩ := Own.append (P := Tryz.prog) (T := No) h1 27 27 i0 _ 32 Tryz.underlying27 hi0 hz0 hz1 hz2 rfl (blk_new w _) (x := x) (val_row hi ht) (fun k _ x => x) (by omega) (by omega) 1
  refine ⟨a, c, w', hr, Own.mono ho.live fun k hk' => ?_, ((Keep.refl _ w).alloc _).then hk fun i _ hi => hi⟩
  obtain ⟨h1 | h1 | h1, h2⟩ := hk'
  · exact ⟨.inl h1, h2⟩
  · exact h1.elim
  · simp only [World.size_alloc] at h1; exact ⟨.inr h1, h2⟩
def OwnV (lo : Nat) (w : World) (v : Value) (l : List Val) : Prop := Own valueSh 96 w (Fr lo w.heap.size) v l
theorem OwnV.keep {lo : Nat} {w w' : World} {v : Value} {l : List Val} (h : OwnV lo w v l) {M : Nat → Prop} (hk : Keep M w w') (hM : ∀ i, lo ≤ i → ¬ M i) : OwnV lo w' v l :=
  Own.mono (Own.agree h (hk.agree fun i _ hi hm => hM i hi.1 hm)) fun k hk' => ⟨hk'.1, Nat.lt_of_lt_of_le hk'.2 hk.size⟩
theorem OwnV.app {lo : Nat} {w : World} {v : Value} {l : List Val} (h : OwnV lo w v l) (hlo : lo ≤ w.heap.size) (x : Val) (hi : x.In) (ht : x.text.size ≤ 9223372036854775807) (hl : l.length + 1 ≤ 1048576) :
    ∃ a c w', (Builtin.append_ #[27, 27] 27 #[v, .slice (some ⟨w.heap.size, 0, none⟩) 1 1]).run Tryz.prog (w.alloc (.cells #[.int .i64 x.kind, .int .i64 x.num, .string x.text] 96)) = .ok (.slice a (l.length + 1) c) w' ∧ OwnV lo w' (.slice a (l.length + 1) c) (l ++ [x]) ∧ Keep (Fr lo w.heap.size) w w' := by
  obtain ⟨a, c, w', hr, ho, hk⟩ := own_val h x hi ht hl
  refine ⟨a, c, w', hr, ho.mono fun k hk' => ?_, hk⟩
  obtain ⟨h1 | h1, h2⟩ := hk'
  · exact ⟨h1.1, h2⟩
  · exact ⟨by omega, h2⟩
structure RqGet (T : TypeId) (w : World) (g B F lo : Nat) (S : Nat → Prop) (vr : Value) (b : Bytes) (c t : Int) (nm : ByteArray) (wr : World) (r : Rs) (v : Value) (l : List Val) : Prop where
  keep : Keep No w wr
  g0 : wr.heap[g]? = some (.cells #[.int .i64 0, .int .u64 0, .string ⟨#[]⟩, .slice none 0 0] 29 (0, 0))
  F0 : wr.heap[F]? = some (.cells #[.int .i64 c, .int .u64 t, .string nm, v] 29 (0, 0))
  rd : RdrAt T wr B S vr r
  own : OwnV lo wr v l
  gw : w.heap.size ≤ g
  gB : g ≠ B
  gF : g ≠ F
  FB : F ≠ B
  glo : g < lo
  Blo : B < lo
  Flo : F < lo
  FS : ¬ S F
  Slo : ∀ k, S k → k < lo
  rb : r.b = b
  Bw : w.heap.size ≤ B
  Fw : w.heap.size ≤ F
  low : lo ≤ wr.heap.size
theorem RqGet.read {T : TypeId} {w : World} {g B F lo : Nat} {S : Nat → Prop} {vr : Value} {b : Bytes} {c t : Int} {nm : ByteArray} {wr : World} {r : Rs} {v : Value} {l : List Val} (h : RqGet T w g B F lo S vr b c t nm wr r v l) {x : Value} {r' : Rs} {e : Ending} {w' : World} (hr : Reads T wr B S vr x r' e w') (hb : r'.b = r.b) :
    RqGet T w g B F lo S vr b c t nm w' r' v l := by
  obtain ⟨-, h1, hk⟩ := hr
  have hB := h.Bw
  exact { h with
    keep := h.keep.then hk fun i hi e => by have : i = B := e; omega
    g0 := hk.blk h.g0 (fun e => h.gB e)
    F0 := hk.blk h.F0 (fun e => h.FB e)
    rd := h1
    own := h.own.keep hk fun i hi e => by have : i = B := e; have := h.Blo; omega
    rb := hb.trans h.rb
    low := Nat.le_trans h.low hk.size }
theorem RqGet.more {T : TypeId} {w : World} {g B F lo : Nat} {S : Nat → Prop} {vr : Value} {b : Bytes} {c t : Int} {nm : ByteArray} {wr w' : World} {r : Rs} {v : Value} {l : List Val} (h : RqGet T w g B F lo S vr b c t nm wr r v l) (hk : Keep No wr w') : RqGet T w g B F lo S vr b c t nm w' r v l :=
  { h with
    keep := h.keep.trans hk
    g0 := hk.blk h.g0 (fun x => x)
    F0 := hk.blk h.F0 (fun x => x)
    rd := h.rd.agree hk
    own := h.own.keep hk fun _ _ x => x
    low := Nat.le_trans h.low hk.size }
theorem RqGet.grow {T : TypeId} {w : World} {g B F lo : Nat} {S : Nat → Prop} {vr : Value} {b : Bytes} {c t : Int} {nm : ByteArray} {wr w2 : World} {r : Rs} {v v' : Value} {l l' : List Val} (h : RqGet T w g B F lo S vr b c t nm wr r v l) (hk : Keep (Fr lo wr.heap.size) wr w2) (h2 : OwnV lo w2 v' l') :
    RqGet T w g B F lo S vr b c t nm (w2.setCell ⟨F, 3, none⟩ v') r v' l' := by
  have n1 : ∀ k, k < lo → ¬ Fr lo wr.heap.size k := fun k hk hf => by have := hf.1; omega
  have hF2 := hk.blk h.F0 (n1 F h.Flo)
  have hset := blk_set hF2 3 v'
  have ks := keep_set w2 F 3 v'
  have hr2 : RdrAt T w2 B S vr r := ⟨hk.blk h.rd.blk (n1 B h.Blo), h.rd.rd.lowT hk (fun k hS => n1 k (h.Slo k hS)), h.rd.nB, h.rd.ok, h.rd.pl⟩
  have hsz := hk.size
  have hlow := h.low
  exact { h with
    keep := (h.keep.then hk fun k hkw hf => by have := hf.1; have := h.Flo; have := h.Fw; omega).then ks fun k hkw e => by have : k = F := e; have := h.Fw; omega
    g0 := ks.blk (hk.blk h.g0 (n1 g h.glo)) (fun e => h.gF e)
    F0 := by simpa using hset
    rd := ⟨ks.blk hr2.blk (fun e => h.FB (show B = F from e).symm), hr2.rd.lowT ks (fun k hS e => h.FS (by cases (show k = F from e); exact hS)), hr2.nB, hr2.ok, hr2.pl⟩
    own := h2.keep ks fun k hk e => by have : k = F := e; have := h.Flo; omega
    low := by simp; omega }
theorem blk_four {w : World} {b : Nat} {x y z u : Value} {t : TypeId} (h : w.heap[b]? = some (.cells #[x, y, z, u] t (0, 0))) (x' y' z' u' : Value) :
    ((((w.setCell ⟨b, 0, none⟩ x').setCell ⟨b, 1, none⟩ y').setCell ⟨b, 2, none⟩ z').setCell ⟨b, 3, none⟩ u').heap[b]? = some (.cells #[x', y', z', u'] t (0, 0)) := by
  have := blk_set (blk_set (blk_set (blk_set h 0 x') 1 y') 2 z') 3 u'
  simpa using this
theorem keep_four (w : World) (b : Nat) (x y z u : Value) : Keep (One b) w ((((w.setCell ⟨b, 0, none⟩ x).setCell ⟨b, 1, none⟩ y).setCell ⟨b, 2, none⟩ z).setCell ⟨b, 3, none⟩ u) :=
  (((keep_set w b 0 x).trans (keep_set _ b 1 y)).trans (keep_set _ b 2 z)).trans (keep_set _ b 3 u)
theorem RqGet.done {T : TypeId} {w : World} {g B F lo : Nat} {S : Nat → Prop} {vr : Value} {b : Bytes} {c t : Int} {nm : ByteArray} {wr : World} {r : Rs} {v : Value} {l : List Val} (h : RqGet T w g B F lo S vr b c t nm wr r v l) (x y z u : Value) :
    Own valueSh 96 ((((wr.setCell ⟨g, 0, none⟩ x).setCell ⟨g, 1, none⟩ y).setCell ⟨g, 2, none⟩ z).setCell ⟨g, 3, none⟩ u) (Fr w.heap.size ((((wr.setCell ⟨g, 0, none⟩ x).setCell ⟨g, 1, none⟩ y).setCell ⟨g, 2, none⟩ z).setCell ⟨g, 3, none⟩ u).heap.size) v l ∧ Keep No w ((((wr.setCell ⟨g, 0, none⟩ x).setCell ⟨g, 1, none⟩ y).setCell ⟨g, 2, none⟩ z).setCell ⟨g, 3, none⟩ u) := by
  have ks := keep_four wr g x y z u
  have hk : Keep No w _ := h.keep.then ks fun i hi e => by have : i = g := e; have := h.gw; omega
  have ho := h.own.keep ks (fun i hi e => by have : i = g := e; have := h.glo; omega)
  exact ⟨Own.mono ho fun k hk' => ⟨by have := hk'.1; have := h.glo; have := h.gw; omega, hk'.2⟩, hk⟩
def GivesRQ (w : World) (x : Req × Int × Nat) (e : Ending) (w' : World) : Prop := ∃ a n c, e = .returned (.tuple #[.agg #[.int .i64 x.1.client, .int .u64 x.1.token, .string x.1.name, .slice a n c], .int .i64 x.2.1, .int .i64 x.2.2]) ∧ Own valueSh 96 w' (Fr w.heap.size w'.heap.size) (.slice a n c) x.1.args ∧ Keep No w w'
theorem reqGet_cases {b : Bytes} (h : ¬ 1024 < b.length) {c : Nat} {t : Nat} {nm : ByteArray} {rc rt rn rk : Rs} {k : Nat} (hc : (Rs.new b).count 63 = (c, rc)) (ht : rc.uint = (t, rt)) (hn : rt.text 16 = (nm, rn)) (hk : (if nameOk nm = true then rn else rn.fail 90).count 8 = (k, rk)) :
    (∀ a, argsF k [] rk = .inr a → reqGet b = (req0, 91, a)) ∧ ∀ l r, argsF k [] rk = .inl (l, r) → reqGet b = if r.end'.err ≠ 0 then (req0, r.end'.err, r.end'.spot) else (mkReq c t nm l, 0, 0) := by
  unfold reqGet
  rw [if_neg h]
  simp only [hc, ht, hn, hk]
  exact ⟨fun a h => by rw [h], fun l r h => by rw [h]⟩
theorem argsF_succ (n : Nat) (l : List Val) (r : Rs) : argsF (n + 1) l r = if (takeV r).2.err = 0 ∧ (takeV r).1.kind = 0 then .inr r.at' else argsF n (l ++ [(takeV r).1]) (takeV r).2 := rfl
theorem takeV_b (r : Rs) : (takeV r).2.b = r.b := by
  have ho : ∀ v (s : Rs), (orNone v s).2 = s := fun v s => by unfold orNone; split <;> rfl
  have hi : ∀ s : Rs, s.int.2.b = s.b := fun s => by
    show s.uint.2.b = s.b
    unfold Rs.uint
    split
    · rfl
    split <;> rfl
  unfold takeV
  split
  · rw [ho, hi, byte_b]
  split
  · simp only [ho]
    split
    · rw [text_b, byte_b]
    · rw [fail_b, text_b, byte_b]
  split
  · rw [ho, byte_b]
  · rw [ho, fail_b, byte_b]
theorem uint_b (s : Rs) : s.uint.2.b = s.b := by
  unfold Rs.uint
  split
  · rfl
  split <;> rfl
theorem end_b (s : Rs) : s.end'.b = s.b := by unfold Rs.end'; split <;> rfl
end Go.Proofs.YtpjcebajkfeacaaGreatDoor
