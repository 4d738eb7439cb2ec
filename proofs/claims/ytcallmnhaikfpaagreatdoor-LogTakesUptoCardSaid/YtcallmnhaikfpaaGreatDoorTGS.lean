/-
  Parts of what is proved for this claim; each declaration is one of the seat's texts.
-/
import Derived.Test.YtcallmnhaikfpaaGreatDoorTGA
import Derived.Test.YtcallmnhaikfpaaGreatDoorTGB
import Derived.Test.YtcallmnhaikfpaaGreatDoorTGC
import Derived.Test.YtcallmnhaikfpaaGreatDoorTGD
import Derived.Test.YtcallmnhaikfpaaGreatDoorTGF
import Derived.Test.YtcallmnhaikfpaaGreatDoorTGJ
import Derived.Test.YtcallmnhaikfpaaGreatDoorTGK
import Derived.Test.YtcallmnhaikfpaaGreatDoorTGM
import Derived.Test.YtcallmnhaikfpaaGreatDoorTGN
import Derived.Test.YtcallmnhaikfpaaGreatDoorTGO
import Derived.Test.YtcallmnhaikfpaaGreatDoorTGQ
import Derived.Test.YtcallmnhaikfpaaGreatDoorTGR
import Derived.Still
import Derived.StillTactics
import Derived.WalkKit
import Derived.WalkSpells
import Derived.WalkLawsBesides
import Derived.ProofKit
import Derived.Deep.Slices
import Derived.Deep.AppendSrc
import Derived.Lib.Hide
import Derived.Recover
import Derived.Defers
import Derived.Deep.QuietTactic
import Derived.BigQuiet
import Derived.Handy
import Derived.Laws.Bits64b
import Derived.Lib.Zigzag
import Derived.OwnWalk
import Derived.Deep.DeepCutAuto
import Derived.Lib.Bytealg
import Derived.Laws.Externs
import Derived.Laws.CopyRow
import Derived.Laws.IdiomCopy
import Derived.Maps.OwnSet
import Derived.Maps.RangeWalk
import Derived.Shelf.SortM.Plain
import Derived.Shelf.SortM.SortNone
import Derived.Ground.SlgmProg
import Derived.Maps.OwnOps
set_option linter.unusedVariables false
set_option linter.unusedSimpArgs false
namespace Go.Proofs.YtcallmnhaikfpaaGreatDoor
open Go Go.RowKit Go.Deep
def PutsC (w : World) (x : Bytes) (c : Int) (e : Ending) (w' : World) : Prop := ∃ a n k, e = .returned (.tuple #[.slice a n k, .int .i64 c]) ∧ OwnB w w' (.slice a n k) x
theorem body_snoc (f : Fp) (l : List ByteArray) (k : Nat) (hk : k < l.length) : f.body (l.take (k + 1)) = f.body (l.take k) ++ textB l[k] ++ [f.use l[k]] := by
  unfold Fp.body
  rw [List.take_succ_eq_append_getElem hk, List.flatMap_append]
  simp
theorem body_le (f : Fp) (l : List ByteArray) (k : Nat) : (f.body (l.take k)).length ≤ (f.body l).length := by
  unfold Fp.body
  conv => rhs; rw [← List.take_append_drop k l, List.flatMap_append, List.length_append]
  omega
theorem textB_length (s : ByteArray) : (textB s).length ≤ 10 + s.size := by
  unfold textB
  rw [List.length_append, bytesOf_length]
  have := (uintB_length s.size).2
  omega
def PutMid (w : World) (b n : Nat) (D : DU) (f : Fp) (l : Bytes) (ks : List ByteArray) (ak : Option Addr) (ck : Nat) (k : Nat) (v : Value) (wr : World) : Prop :=
  OwnB w wr v (l ++ uintB ks.length ++ f.body (ks.take k)) ∧ MapOf wr b n D f ∧ Rd (.slice .str) wr (Lt wr.heap.size) [.slice ak ks.length ck] ks
theorem PutMid.keep {w : World} {b n : Nat} {D : DU} {f : Fp} {l : Bytes} {ks : List ByteArray} {ak : Option Addr} {ck k : Nat} {v : Value} {wr w2 : World} (h : PutMid w b n D f l ks ak ck k v wr) (hk : Keep No wr w2) : PutMid w b n D f l ks ak ck k v w2 :=
  ⟨h.1.more hk, h.2.1.keep hk (fun x => x), (h.2.2.agree _ hk.agreeNo).mono _ (fun i _ hi => Nat.lt_of_lt_of_le hi hk.size)⟩
theorem PutMid.look {w : World} {b n : Nat} {D : DU} {f : Fp} {l : Bytes} {ks : List ByteArray} {ak : Option Addr} {ck k : Nat} {v : Value} {wr : World} (h : PutMid w b n D f l ks ak ck k v wr) {x : ByteArray} (hx : x.size ≤ 9223372036854775807) :
    (Instr.lookup 128 (.map (some b)) (.string x) false).run Tryz.prog wr = .ok (.int .u8 (f.use x)) wr := by
  obtain ⟨c, hr, hat, -⟩ := h.2.1.1.lookup_int keyLaw Tryz.underlying128 Tryz.underlying5 (zeroByte wr) (keyL_of hx)
  rw [hr, h.2.1.use hat]
theorem PutMid.text {w : World} {b n : Nat} {D : DU} {f : Fp} {l : Bytes} {ks : List ByteArray} {ak : Option Addr} {ck k : Nat} {v : Value} {wr : World} (h : PutMid w b n D f l ks ak ck k v wr) (x : ByteArray) (hx : x.size ≤ 32) (hb : l.length + (f.body ks).length ≤ 140737488355200) :
    Calls Tryz.prog 37 #[v, .string x] wr fun e w' => ∃ a c, e = .returned (.slice a (l ++ uintB ks.length ++ f.body (ks.take k) ++ textB x).length c) ∧ OwnB wr w' (.slice a (l ++ uintB ks.length ++ f.body (ks.take k) ++ textB x).length c) (l ++ uintB ks.length ++ f.body (ks.take k) ++ textB x) := by
  refine PutText_any wr _ v _ h.1.rd x ?_
  simp only [List.length_append]
  have h1 := body_le f ks k
  have h2 := (uintB_length ks.length).2
  omega
theorem PutMid.after {w : World} {b n : Nat} {D : DU} {f : Fp} {l : Bytes} {ks : List ByteArray} {ak : Option Addr} {ck k : Nat} {v : Value} {wr w2 : World} {a : Option Addr} {m c : Nat} (h : PutMid w b n D f l ks ak ck k v wr) (hk : k < ks.length) (hx : ks[k].size ≤ 32) (hb : l.length + (f.body ks).length ≤ 140737488355200)
    (ho : OwnB wr w2 (.slice a m c) (l ++ uintB ks.length ++ f.body (ks.take k) ++ textB ks[k])) (g : Nat) {W : World} (hW : Keep No w2 W) (hg : W.heap[g]? = some (.cells #[.int .u8 (f.use ks[k])] 5 (0, 0))) :
    ∃ a4 c4 w4, (Builtin.append_ #[55, 55] 55 #[.slice a m c, .slice (some ⟨g, 0, none⟩) 1 1]).run Tryz.prog W = .ok (.slice a4 (m + 1) c4) w4 ∧ PutMid w b n D f l ks ak ck (k + 1) (.slice a4 (m + 1) c4) w4 := by
  have hm := ho.len
  have hu := use_range f ks[k]
  obtain ⟨a4, c4, w4, h4, h5⟩ := app_src ho hW (xs := [f.use ks[k]]) (Src.ofBlock Tryz.underlying55 g 1 1 _ _ _ hg rfl (fun u hu => by simp at hu; subst hu; rfl)) (AllB.cons (by omega) (by omega) .nil) (by
    simp only [List.length_append, List.length_singleton]
    have h1 := body_le f ks k
    have h2 := (uintB_length ks.length).2
    have h3 := textB_length ks[k]
    omega)
  rw [← hm] at h4 h5
  refine ⟨a4, c4, w4, h4, ?_⟩
  have h6 := h.keep h5.2
  refine ⟨?_, h6.2.1, h6.2.2⟩
  have h7 : OwnB w w4 (.slice a4 (m + 1) c4) _ := h5.back h.1.2
  rw [body_snoc f ks k hk]
  simpa only [List.append_assoc] using h7
set_option maxRecDepth 10000 in
set_option maxHeartbeats 4000000 in
theorem fPut_any (w : World) (S T : Nat → Prop) (v : Value) (l : Bytes) (hv : Rd bytesSh w T [v] l) (hl : l.length + 4000 ≤ 140737488355200) (u1 u2 : Value) (f : Fp) (h : FpAt w S u1 u2 f) (hfl : (f.rs.length + f.ws.length + 1) * 16 ≤ 140737488355200) :
    Calls Tryz.prog 63 #[v, .agg #[u1, u2]] w (PutsC w (if f.normal = true then l ++ f.bytes else []) (if f.normal = true then 0 else 31)) := by
  have K1 : Keep No w (w.alloc (.cells #[u1, u2] 41)) := (Keep.refl No w).alloc _
  have hb := (fNormal_any _ S u1 u2 f (h.keep K1) hfl).mono (R' := fun e w3 => e = .returned (.bool f.normal) ∧ w3.heap[w.heap.size]? = some (.cells #[u1, u2] 41 (0, 0)) ∧
      RowKit.Hid (Keep No w w3 ∧ FpAt w3 S u1 u2 f ∧ Rd bytesSh w3 T [v] l)) (by
    rintro e w3 ⟨rfl, hk⟩
    exact ⟨rfl, hk.blk (blk_new w _) (fun x => x), K1.trans hk, (h.keep K1).keep hk, (hv.agree _ K1.agreeNo).agree _ hk.agreeNo⟩)
  obtain ⟨a0, c0, rfl, -⟩ := bytes_at hv
  obtain ⟨a1, c1, rfl, -⟩ := strs_at h.1
  obtain ⟨a2, c2, rfl, -⟩ := strs_at h.2
  cases hn : f.normal with
  | false =>
    rw [hn] at hb
    simp only [Bool.false_eq_true, if_false]
    clear h hv K1 hfl hl hn
    generalize f.rs.length = m1 at *
    generalize f.ws.length = m2 at *
    go_enter Tryz.func63, Tryz.ntmps63
    go_wp2_with fail
    refine hb.mono ?_
    clear hb
    rintro e w3 ⟨rfl, x1, HK⟩
    go_wp2_with fail
    go_ret2
    exact ⟨_, _, _, rfl, ⟨Own.nil _ _ _ _, HK.out.1⟩⟩
  | true =>
    rw [hn] at hb
    simp only [if_true]
    have hIs := (Fp.normal_iff f).1 hn
    have HIs := Lib.hid (And.intro hIs (And.intro hl hfl))
    clear h hv K1 hfl hl hn hIs
    generalize hm1 : f.rs.length = m1 at *
    generalize hm2 : f.ws.length = m2 at *
    generalize hln : l.length = ln at *
    have HE := Lib.hid (And.intro hm1 (And.intro hm2 hln))
    clear hm1 hm2 hln
    go_enter Tryz.func63, Tryz.ntmps63
    go_wp2_with fail
    refine hb.mono ?_
    clear hb
    rintro e w3 ⟨rfl, x1, HK⟩
    have q1 := blk_cell x1
    go_wp2_with fail
    have ho := (of_any w3 S _ _ f HK.out.2.1 (by have := HIs.out.2.2; rw [HE.out.1, HE.out.2.1]; omega)).mono (R' := fun e w4 => ∃ D, e = .returned (.map (some (w3.heap.size + 1))) ∧ RowKit.Hid (MapOf w4 (w3.heap.size + 1) (f.rs.length + f.ws.length) D f ∧ Keep No w3 w4)) (by
      rintro e w4 ⟨D, rfl, hm, hk⟩
      exact ⟨D, rfl, hm, hk⟩)
    refine ho.mono ?_
    clear ho q1
    rintro e w4 ⟨D, rfl, HM⟩
    have hown := HM.out.1.1
    have hsz : Maps.size D = (setT (f.rs ++ f.ws)).length := HM.out.1.2.size
    have hle : (setT (f.rs ++ f.ws)).length ≤ 64 := HIs.out.1.many
    have hbytes : f.bytes = uintB (setT (f.rs ++ f.ws)).length ++ f.body (setT (f.rs ++ f.ws)) := rfl
    have hbl := Fp.bytes_length HIs.out.1
    have hkeys : ∀ (k : Nat) (hk : k < (setT (f.rs ++ f.ws)).length), (setT (f.rs ++ f.ws))[k].size ≤ 32 := fun k hk => (keyOk_size (HIs.out.1.ok _ (List.mem_append.1 ((setT_mem _ _).1 (List.getElem_mem hk))))).2
    have hsel := sel_3 f
    rw [hbytes] at hbl
    generalize setT (f.rs ++ f.ws) = ks at *
    have hb2 : l.length + (f.body ks).length ≤ 140737488355200 := by
      rw [List.length_append] at hbl
      have := HIs.out.2.1
      rw [HE.out.2.2]
      omega
    have HBB := Lib.hid (And.intro hb2 (And.intro hkeys hsel))
    have HBY := Lib.hid hbytes
    have HPU := Lib.hid (PutUint_any w4 T (.slice a0 ln c0) l (HK.out.2.2.agree _ HM.out.2.agreeNo) (ks.length : Int) (by omega) (by omega) (by have := HIs.out.2.1; rw [HE.out.2.2]; omega))
    clear hbytes hbl hkeys hsel hb2
    have i1 : (0 : Int) ≤ ks.length := by omega
    have i2 : (ks.length : Int) ≤ 64 := by omega
    go_wp2_with (at_len; refine wpList_len_own _ rfl _ 128 rfl 9 5 Tryz.underlying128 _ (w3.heap.size + 1) _ _ rfl hown ?_)
    have hpu := HPU.out.mono (R' := fun e w5 => ∃ a5 n5 c5, e = .returned (.slice a5 n5 c5) ∧ RowKit.Hid (OwnB w4 w5 (.slice a5 n5 c5) (l ++ uintB ks.length) ∧ MapOf w5 (w3.heap.size + 1) (f.rs.length + f.ws.length) D f)) (by
      rintro e w5 ⟨a5, c5, rfl, ho⟩
      rw [Int.toNat_natCast] at ho
      exact ⟨a5, _, c5, rfl, ho, HM.out.1.keep ho.2 (fun x => x)⟩)
    refine hpu.mono ?_
    clear hpu hown hsz i1 i2
    rintro e w5 ⟨a5, n5, c5, rfl, HP5⟩
    have hke := (keys_any w5 _ _ D f 3 HP5.out.2 (by have := HIs.out.2.2; rw [HE.out.1, HE.out.2.1]; omega)).mono (R' := fun e w6 => ∃ ak ck, e = .returned (.slice ak ks.length ck) ∧ RowKit.Hid (PutMid w (w3.heap.size + 1) (f.rs.length + f.ws.length) D f l ks ak ck 0 (.slice a5 n5 c5) w6)) (by
      rintro e w6 ⟨ak, nk, ck, rfl, ho⟩
      rw [HBB.out.2.2] at ho
      have hn := ho.len
      subst hn
      refine ⟨ak, ck, rfl, ?_, HP5.out.2.keep ho.2 (fun x => x), ho.rd.mono _ (fun i hi _ => hi)⟩
      have := (HP5.out.1.more ho.2).back (HK.out.1.trans HM.out.2)
      simpa [Fp.body] using this)
    go_wp2_with fail
    refine hke.mono ?_
    clear hke
    rintro e w6 ⟨ak, ck, rfl, HM6⟩
    have hkl : ks.length ≤ 64 := hle
    clear hle
    go_wp2_with fail
    go_loopw [0, 22] (fun v i wr => ∃ (k : Nat) (a : Option Addr) (n c : Nat), k ≤ ks.length ∧ i = .int .i64 k ∧ v = .slice a n c ∧ RowKit.Hid (PutMid w (w3.heap.size + 1) (f.rs.length + f.ws.length) D f l ks ak ck k (.slice a n c) wr)) (fun _ i _ => ks.length - (intOf i).toNat)
    case atStart => exact ⟨0, _, _, _, by omega, rfl, rfl, HM6⟩
    case round =>
      obtain ⟨k, a, n, c, hk, rfl, rfl, HR⟩ := hrel
      by_cases hlt : k < ks.length
      · have j1 : (k : Int) < ks.length := by omega
        have j0 : (0 : Int) ≤ k := by omega
        have j3 : (k : Int) ≤ 9223372036854775806 := by omega
        obtain ⟨b, off, rfl, hc, hxs⟩ := strs_get HR.out.2.2 k hlt
        have hx32 := HBB.out.2.1 k hlt
        have hR1 := HR.out.keep (Keep.refl No wr).drew
        have hlook := hR1.look (x := ks[k]) hxs
        have hafter := fun (w0 : World) (h0 : PutMid w (w3.heap.size + 1) (f.rs.length + f.ws.length) D f l ks (some ⟨b, off, none⟩) ck k (.slice a n c) w0) (w2 : World) (a : Option Addr) (m c' : Nat) ho g (W : World) hW hg => h0.after (w2 := w2) (a := a) (m := m) (c := c') hlt hx32 HBB.out.1 ho g (W := W) hW hg
        have htext := fun (w0 : World) (h0 : PutMid w (w3.heap.size + 1) (f.rs.length + f.ws.length) D f l ks (some ⟨b, off, none⟩) ck k (.slice a n c) w0) => h0.text ks[k] hx32 HBB.out.1
        have HAF := Lib.hid (And.intro hafter (And.intro htext hlt))
        have HR1 := Lib.hid hR1
        clear hafter htext hx32 hR1
        generalize ks[k] = x at *
        clear hk hlt hkl
        go_wp2_with fail
        refine wp_region_plan (.step 0 (.step 1 (.step 3 (.step 4 (.step 5 (.fork 2 6 (.step 6 (.step 7 (.step 8 .done))) (.step 2 (.step 7 (.step 8 .done))))))))) [2, 6, 7, 8] [(3, 2), (4, 2), (5, 2), (0, 6), (1, 6)] (by kernel_rfl) (by kernel_rfl) (by kernel_rfl) (by kernel_rfl) (by intro c a d v w h; cases d <;> exact h) ?_
        iterate 5 (refine plan_sil rfl rfl (fun K hK => ?_); go_simp; refine hK _ ?_; clear hK K)
        have hw0 := HR1.out.2.1
        have hcallA := (HAF.out.2.1 wr.drew HR1.out).mono (R' := fun e w2 => ∃ a2 m2 c2, e = .returned (.slice a2 m2 c2) ∧ RowKit.Hid (OwnB wr.drew w2 (.slice a2 m2 c2) (l ++ uintB ks.length ++ f.body (ks.take k) ++ textB x)) ∧ (Instr.lookup 128 (.map (some (w3.heap.size + 1))) (.string x) false).run Tryz.prog w2 = .ok (.int .u8 (f.use x)) w2) (by
          rintro e w2 ⟨a2, c2, rfl, ho⟩
          exact ⟨a2, _, c2, rfl, ho, (HR1.out.keep ho.2).look hxs⟩)
        clear hw0
        refine ⟨?_, ?_⟩
        · refine plan_op [3, 4, 5] rfl rfl (fun K hK => ?_)
          go_wp2_with (go_at_call 37; refine hcallA.mono ?_; clear hcallA; rintro e w2 ⟨a2, n2, c2, rfl, HO, hlk2⟩)
          refine Mid.normal (hK _ _ ?_ ?_)
          · simp only [List.forall_mem_cons]
            refine ⟨fun _ => ?_, fun _ => ?_, fun _ => ?_, fun _ h => (by cases h)⟩ <;> exact stab_of rfl (fun K hK => by go_simp; exact hK)
          clear hK K
          obtain ⟨a4, c4, w4, hrun, HM4⟩ := HAF.out.1 wr.drew HR1.out w2 a2 n2 c2 HO.out w2.heap.size (w2.alloc (.cells #[.int .u8 (f.use x)] 5)) ((Keep.refl No w2).alloc _) (blk_new w2 _)
          have HM4 := Lib.hid HM4
          refine plan_loud [0, 1] rfl rfl rfl (fun K hK => ?_)
          go_wp2_with fail
          refine Mid.normal (hK _ _ ?_ ?_)
          · simp only [List.forall_mem_cons]
            refine ⟨fun _ => ?_, fun _ => ?_, fun _ h => (by cases h)⟩ <;> exact stab_of rfl (fun K hK => by go_simp; exact hK)
          clear hK K
          refine plan_loud [] rfl rfl rfl (fun K hK => ?_)
          refine wpList_app rfl (.tmp 28) (.tmp 32) 55 55 rfl rfl rfl hrun ?_
          go_wp2_with fail
          refine Mid.normal (hK _ _ (fun _ h => (by cases h)) ?_)
          clear hK K
          refine plan_loud [] rfl rfl rfl (fun K hK => ?_)
          go_wp2_with fail
          refine Mid.normal (hK _ _ (fun _ h => (by cases h)) ?_)
          clear hK K
          refine plan_done ?_
          go_wp2_with fail
          go_roundw
          case rel => exact ⟨k + 1, a4, _, c4, by have := HAF.out.2.2; omega, by simp, rfl, HM4⟩
          case measure => simp [intOf]; have := HAF.out.2.2; omega
        · have HM7 := Lib.hid (HR1.out.keep ((Keep.refl No wr.drew).alloc (.cells #[.int .u8 (f.use x)] 5)))
          have hcallB := (HAF.out.2.1 _ HM7.out).mono (R' := fun e w2 => ∃ a2 m2 c2, e = .returned (.slice a2 m2 c2) ∧ RowKit.Hid (OwnB (wr.drew.alloc (.cells #[.int .u8 (f.use x)] 5)) w2 (.slice a2 m2 c2) (l ++ uintB ks.length ++ f.body (ks.take k) ++ textB x)) ∧ (Instr.lookup 128 (.map (some (w3.heap.size + 1))) (.string x) false).run Tryz.prog w2 = .ok (.int .u8 (f.use x)) w2) (by
            rintro e w2 ⟨a2, c2, rfl, ho⟩
            exact ⟨a2, _, c2, rfl, ho, (HM7.out.keep ho.2).look hxs⟩)
          refine plan_op [0, 1] rfl rfl (fun K hK => ?_)
          go_wp2_with fail
          refine Mid.normal (hK _ _ ?_ ?_)
          · simp only [List.forall_mem_cons]
            refine ⟨fun _ => ?_, fun _ => ?_, fun _ h => (by cases h)⟩ <;> exact stab_of rfl (fun K hK => by go_simp; exact hK)
          clear hK K hcallA
          refine plan_loud [3, 4, 5] rfl rfl rfl (fun K hK => ?_)
          go_wp2_with (go_at_call 37; refine hcallB.mono ?_; clear hcallB; rintro e w2 ⟨a2, n2, c2, rfl, HO, hlk2⟩)
          refine Mid.normal (hK _ _ ?_ ?_)
          · simp only [List.forall_mem_cons]
            refine ⟨fun _ => ?_, fun _ => ?_, fun _ => ?_, fun _ h => (by cases h)⟩ <;> exact stab_of rfl (fun K hK => by go_simp; exact hK)
          clear hK K
          obtain ⟨a4, c4, w4, hrun, HM4⟩ := HAF.out.1 _ HM7.out w2 a2 n2 c2 HO.out wr.drew.heap.size w2 (Keep.refl No w2) (HO.out.2.blk (blk_new wr.drew _) (fun x => x))
          have HM4 := Lib.hid HM4
          refine plan_loud [] rfl rfl rfl (fun K hK => ?_)
          refine wpList_app rfl (.tmp 28) (.tmp 32) 55 55 rfl rfl rfl hrun ?_
          go_wp2_with fail
          refine Mid.normal (hK _ _ (fun _ h => (by cases h)) ?_)
          clear hK K
          refine plan_loud [] rfl rfl rfl (fun K hK => ?_)
          go_wp2_with fail
          refine Mid.normal (hK _ _ (fun _ h => (by cases h)) ?_)
          clear hK K
          refine plan_done ?_
          go_wp2_with fail
          go_roundw
          case rel => exact ⟨k + 1, a4, _, c4, by have := HAF.out.2.2; omega, by simp, rfl, HM4⟩
          case measure => simp [intOf]; have := HAF.out.2.2; omega
      · have j1 : ¬ (k : Int) < ks.length := by omega
        have hke : k = ks.length := by omega
        subst hke
        clear hk hlt hkl
        go_wp2_with fail
        go_ret2
        refine ⟨a, n, c, rfl, ?_⟩
        have := HR.out.1
        rw [List.take_length, List.append_assoc] at this
        rw [HBY.out]
        exact this
end Go.Proofs.YtcallmnhaikfpaaGreatDoor
