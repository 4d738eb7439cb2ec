/-
  The document's footprints: Locks.
  The document's footprints: a footprint's bytes behind others.
-/
import Derived.Test.YtnknihmchmmenaaGreatGA
import Derived.Test.YtnknihmchmmenaaGreatGB
import Derived.Test.YtnknihmchmmenaaGreatGC
import Derived.Test.YtnknihmchmmenaaGreatGD
import Derived.Test.YtnknihmchmmenaaGreatGF
import Derived.Test.YtnknihmchmmenaaGreatGI
import Derived.Test.YtnknihmchmmenaaGreatGJ
import Derived.Test.YtnknihmchmmenaaGreatGK
import Derived.Test.YtnknihmchmmenaaGreatGM
import Derived.Test.YtnknihmchmmenaaGreatGN
import Derived.Test.YtnknihmchmmenaaGreatGO
import Derived.Test.YtnknihmchmmenaaGreatGP
import Derived.Test.YtnknihmchmmenaaGreatGS
import Derived.Test.YtnknihmchmmenaaGreatGU
import Derived.Still
import Derived.StillTactics
import Derived.WalkKit
import Derived.WalkSpells
import Derived.WalkLawsBesides
import Derived.ProofKit
import Derived.Deep.Slices
import Derived.Deep.AppendSrc
import Derived.Lib.Hide
import Derived.Recover
import Derived.Defers
import Derived.Deep.QuietTactic
import Derived.BigQuiet
import Derived.Handy
import Derived.Laws.Bits64b
import Derived.Lib.Zigzag
import Derived.OwnWalk
import Derived.Deep.DeepCutAuto
import Derived.Lib.Bytealg
import Derived.Laws.Externs
import Derived.Laws.CopyRow
import Derived.Laws.IdiomCopy
import Derived.Maps.OwnSet
import Derived.Maps.RangeWalk
import Derived.Shelf.SortM.Plain
import Derived.Shelf.SortM.SortNone
import Derived.Ground.SlgmProg
import Derived.Maps.OwnOps
import Derived.Deep.LoopGhost
namespace Go.Proofs.YtnknihmchmmenaaGreat
set_option linter.unusedVariables false
set_option linter.unusedSimpArgs false
open Go Go.RowKit Go.Deep

@[reducible] def lockSh : Sh := .struct (.cons .str (.cons .bool .nil))
/-- the locks of a footprint -/
def Fp.locks (f : Fp) : List lockSh.T := (setT (f.rs ++ f.ws)).map fun k => (k, hasT f.ws k, ())
theorem Tryz.infoLock : (Tryz.prog.info? 181).map (fun i => (i.zero, i.size, i.bytes)) = some (some (.agg #[.string ⟨#[]⟩, .bool false]), 2, 24) := by kernel_rfl
/-- locks in blocks from lo on -/
def OwnK (lo : Nat) (w : World) (v : Value) (l : List lockSh.T) : Prop := Own lockSh 181 w (Fr lo w.heap.size) v l
theorem OwnK.app {lo : Nat} {w : World} {v : Value} {l : List lockSh.T} (h : OwnK lo w v l) (hlo : lo ≤ w.heap.size) (k : ByteArray) (b : Bool) (hk : k.size ≤ maxLen) (hl : l.length + 1 ≤ 1048576) :
    ∃ a c w', (Builtin.append_ #[178, 178] 178 #[v, .slice (some ⟨w.heap.size, 0, none⟩) 1 1]).run Tryz.prog (w.alloc (.cells #[.string k, .bool b] 181)) = .ok (.slice a (l.length + 1) c) w' ∧ OwnK lo w' (.slice a (l.length + 1) c) (l ++ [(k, b, ())]) ∧ Keep (Fr lo w.heap.size) w w' := by
  obtain ⟨i0, hi0, hz0, hz1, hz2⟩ := info_parts Tryz.infoLock
  have h1 : Own lockSh 181 (w.alloc (.cells #[.string k, .bool b] 181)) (Fr lo w.heap.size) v l := Own.agree h ((Keep.refl No w).alloc _).agreeNo
  obtain ⟨a, c, w', hr, ho, hk, hs⟩ := Own.append (P := Tryz.prog) (T := No) h1 178 178 i0 _ 24 Tryz.underlying178 hi0 hz0 hz1 hz2 rfl (blk_new w _) (x := (k, b, ())) ⟨[.string k], _, rfl, ⟨rfl, hk⟩, [.bool b], [], rfl, rfl, rfl⟩ (fun k _ x => x) (by omega) (by omega) 1
  refine ⟨a, c, w', hr, Own.mono ho.live fun k hk' => ?_, ((Keep.refl _ w).alloc _).then hk fun i _ hi => hi⟩
  obtain ⟨h1 | h1 | h1, h2⟩ := hk'
  · exact ⟨h1.1, h2⟩
  · exact h1.elim
  · simp only [World.size_alloc] at h1; exact ⟨by omega, h2⟩

/-- behind k texts -/
structure LkAt (w : World) (f : Fp) (s : List ByteArray) (sv : Value) (k : Nat) (v : Value) (W0 wr : World) : Prop where
  keep : Keep No w W0
  set : OwnT w W0 sv s
  keep2 : Keep No W0 wr
  own : OwnK W0.heap.size wr v ((s.take k).map fun k => (k, hasT f.ws k, ()))

set_option maxRecDepth 10000 in
set_option maxHeartbeats 2000000 in
theorem rLocks_any (w : World) (S : Nat → Prop) (u v : Value) (f : Fp) (h : FpAt w S u v f) (hl : (f.rs.length + f.ws.length + 1) * 16 ≤ 140737488355328) (hm : (setT (f.rs ++ f.ws)).length ≤ 1000000) :
    Calls Tryz.prog 117 #[.agg #[u, v]] w fun e w' => ∃ a n c, e = .returned (.slice a n c) ∧ n = f.locks.length ∧ OwnK w.heap.size w' (.slice a n c) f.locks ∧ Keep No w w' := by
  obtain ⟨a1, c1, rfl, -⟩ := strs_at h.1
  obtain ⟨a2, c2, rfl, -⟩ := strs_at h.2
  have K1 : Keep No w (w.alloc (.cells #[.slice a1 f.rs.length c1, .slice a2 f.ws.length c2] 36)) := (Keep.refl No w).alloc _
  have h1 := h.keep K1
  have hb := (rBoth_any _ S S _ _ f.rs f.ws h1.1 h1.2 (by omega)).mono (R' := fun e w3 => ∃ a n c, e = .returned (.slice a n c) ∧ w3.heap[w.heap.size]? = some (.cells #[.slice a1 f.rs.length c1, .slice a2 f.ws.length c2] 36 (0, 0)) ∧ RowKit.Hid (Keep No w w3 ∧ Rd (.slice .str) w3 (Fr w.heap.size w3.heap.size) [.slice a n c] (f.rs ++ f.ws))) (by
    rintro e w3 ⟨a, n, c, rfl, ho⟩
    exact ⟨a, n, c, rfl, ho.2.blk (blk_new w _) (fun x => x), K1.trans ho.2, ho.rd.mono _ fun k _ hk => ⟨by have := hk.1; simp at this; omega, hk.2⟩⟩)
  have L3 : ((f.rs ++ f.ws).length + 1) * 16 ≤ 140737488355328 := by rw [List.length_append]; exact hl
  have HL := Lib.hid (And.intro h (And.intro L3 hm))
  clear K1 h1 L3 hm hl h
  generalize hm1 : f.rs.length = m1 at *
  generalize hm2 : f.ws.length = m2 at *
  have hlk : f.locks.length = (setT (f.rs ++ f.ws)).length := by simp [Fp.locks]
  have HLK := Lib.hid (And.intro hlk (And.intro hm1 hm2))
  clear hlk hm1 hm2
  go_enter Tryz.func117, Tryz.ntmps117
  go_wp2_with fail
  refine hb.mono ?_
  clear hb
  rintro e w3 ⟨a3, n3, c3, rfl, x3, H3⟩
  have hset := (rSet_any w3 _ _ _ H3.out.2 HL.out.2.1).mono (R' := fun e w4 => ∃ a n c, e = .returned (.slice a n c) ∧ n = (setT (f.rs ++ f.ws)).length ∧ w4.heap[w.heap.size]? = some (.cells #[.slice a1 m1 c1, .slice a2 m2 c2] 36 (0, 0)) ∧ RowKit.Hid (Keep No w w4 ∧ OwnT w w4 (.slice a n c) (setT (f.rs ++ f.ws)))) (by
    rintro e w4 ⟨a, n, c, rfl, ho⟩
    exact ⟨a, n, c, rfl, ho.len, ho.2.blk x3 (fun x => x), H3.out.1.trans ho.2, ho.back H3.out.1⟩)
  clear x3
  go_wp2_with fail
  refine hset.mono ?_
  clear hset
  rintro e w4 ⟨a4, n4, c4, rfl, hn4, x4, H4⟩
  have HB := Lib.hid x4
  clear x4 H3
  generalize hss : setT (f.rs ++ f.ws) = ss at *
  have HSS := Lib.hid hss
  clear hss
  have hn46 : n4 ≤ 1000000 := by have := HL.out.2.2; omega
  have HN4 := Lib.hid hn4
  clear hn4
  go_wp2_with fail
  go_loopw [4, 5] (fun v i wr => ∃ (k : Nat) (a : Option Addr) (c : Nat), i = .int .i64 k ∧ v = .slice a k c ∧ k ≤ n4 ∧ RowKit.Hid (LkAt w f ss (.slice a4 n4 c4) k (.slice a k c) w4 wr)) (fun _ i _ => n4 - (intOf i).toNat)
  case atStart => exact ⟨0, none, 0, rfl, rfl, Nat.zero_le _, ⟨H4.out.1, H4.out.2, Keep.refl _ _, Own.nil _ _ _ _⟩⟩
  case round =>
    obtain ⟨k, a, c, rfl, rfl, hk, HA⟩ := hrel
    by_cases hlt : k < n4
    · have hks : k < ss.length := by have := HN4.out; omega
      have hkd : Keep No w4 wr.drew := HA.out.keep2.drew
      have hkw : Keep No w wr.drew := HA.out.keep.trans hkd
      obtain ⟨b, off, rfl, r0, hsz⟩ := strs_get (HA.out.set.more hkd).rd k hks
      have q0 := blk_cell (hkd.blk HB.out (fun x => x))
      have hhas := rHas_any wr.drew S (.slice a2 m2 c2) f.ws ((HL.out.1).keep hkw).2 ss[k]
      have j0 : (0 : Int) ≤ k := by omega
      have j1 : (k : Int) < n4 := by omega
      have j3 : (k : Int) ≤ 9223372036854775806 := by omega
      have htk : (ss.take (k + 1)).map (fun k => (k, hasT f.ws k, ())) = (ss.take k).map (fun k => (k, hasT f.ws k, ())) ++ [(ss[k], hasT f.ws ss[k], ())] := by
        rw [List.take_succ_eq_append_getElem hks, List.map_append]; rfl
      have hlen : ((ss.take k).map (fun k => (k, hasT f.ws k, ()))).length = k := by simp; omega
      obtain ⟨a7, c7, w7, hrun, ho7, hk7⟩ := OwnK.app (w := wr.drew) (lo := w4.heap.size) (Own.mono (Own.agree HA.out.own (Keep.refl No wr).drew.agreeNo) fun i hi => ⟨hi.1, by simpa using hi.2⟩) hkd.size ss[k] (hasT f.ws ss[k]) (by rw [maxLen_is]; omega) (by rw [hlen]; omega)
      rw [hlen] at hrun ho7
      obtain ⟨k1, hk1⟩ : ∃ k1, k + 1 = k1 := ⟨_, rfl⟩
      rw [hk1] at hrun ho7
      have HX := Lib.hid (And.intro hlt (And.intro htk (And.intro hk1 (And.intro ho7 (And.intro hk7 hkd)))))
      clear htk hlen hk1 ho7 hk7 hkd hkw hsz hk
      generalize ss[k] = x at *
      generalize hasT f.ws x = hx at *
      clear hlt hks
      go_wp2_with fail
      refine wp_region_can [0, 1, 2, 3, 4, 5, 6, 7, 8, 9, 10, 11, 12, 13, 14, 15] [11, 13, 14, 15] [(0, 11), (1, 11), (2, 11), (3, 11), (4, 11), (0, 13)] (by kernel_rfl) (by kernel_rfl) (by kernel_rfl) (by kernel_rfl) (by intro c a d v w h; cases d <;> exact h) ?_
      generalize wr.drew = wd at *
      iterate 11 (refine can_sil rfl rfl (fun K hK => ?_); go_simp; refine hK _ ?_; clear hK K)
      refine can_loud [0, 1, 2, 3, 4] rfl rfl rfl (fun K hK => ?_)
      go_wp2_with (go_at_call 51; refine hhas.mono ?_; clear hhas; rintro e w6 ⟨rfl, h6⟩; subst h6)
      refine Mid.normal (hK _ _ ?_ ?_)
      · simp only [List.forall_mem_cons]
        refine ⟨?_, ?_, ?_, ?_, ?_, stabs_nil⟩ <;> exact stab_of rfl (fun K hK => by go_simp; exact hK)
      clear hK K
      refine can_sil rfl rfl (fun K hK => ?_); go_simp; refine hK _ ?_; clear hK K
      refine can_loud [0] rfl rfl rfl (fun K hK => ?_)
      go_wp2_with fail
      refine Mid.normal (hK _ _ ?_ ?_)
      · simp only [List.forall_mem_cons]
        refine ⟨?_, stabs_nil⟩ <;> exact stab_of rfl (fun K hK => by go_simp; exact hK)
      clear hK K
      refine can_loud [] rfl rfl rfl (fun K hK => ?_)
      refine wpList_app rfl (.tmp 18) (.tmp 31) 178 178 rfl rfl rfl hrun ?_
      go_wp2_with fail
      refine Mid.normal (hK _ _ stabs_nil ?_)
      clear hK K
      refine can_loud [] rfl rfl rfl (fun K hK => ?_)
      go_wp2_with fail
      refine Mid.normal (hK _ _ stabs_nil ?_)
      clear hK K
      refine can_nil ?_
      clear r0 q0
      go_wp2_with fail
      go_roundw
      case rel =>
        obtain ⟨hlt, htk, rfl, ho7, hk7, hkd⟩ := HX.out
        refine ⟨k + 1, a7, c7, by simp, rfl, hlt, ⟨HA.out.keep, HA.out.set, hkd.then hk7 (fun i hi h => by have := h.1; omega), ?_⟩⟩
        rw [htk]; exact ho7
      case measure => simp [intOf]; have := HX.out.1; omega
    · obtain rfl : k = n4 := by omega
      clear hlt hk
      go_wp2_with fail
      go_ret
      have hn := HN4.out
      have e1 : f.locks = (ss.take k).map fun k => (k, hasT f.ws k, ()) := by
        rw [List.take_of_length_le (by omega), ← HSS.out]; rfl
      refine ⟨a, k, c, rfl, by rw [HLK.out.1, hn], ?_, HA.out.keep.trans HA.out.keep2⟩
      rw [e1]
      exact Own.mono HA.out.own fun i hi => ⟨by have := hi.1; have := HA.out.keep.size; omega, hi.2⟩
end Go.Proofs.YtnknihmchmmenaaGreat

namespace Go.Proofs.YtnknihmchmmenaaGreat
set_option linter.unusedVariables false
set_option linter.unusedSimpArgs false
open Go Go.RowKit Go.Deep

theorem locks_get {w : World} {S : Nat → Prop} {a : Option Addr} {n c : Nat} {f : Fp} (h : Rd (.slice lockSh) w S [.slice a n c] f.locks) (k : Nat) (hk : k < (setT (f.rs ++ f.ws)).length) :
    ∃ b off, a = some ⟨b, off, none⟩ ∧ w.cell? ⟨b, off + k * 2, none⟩ = some (.string (setT (f.rs ++ f.ws))[k]) ∧ w.cell? ⟨b, off + k * 2 + 1, none⟩ = some (.bool (hasT f.ws (setT (f.rs ++ f.ws))[k])) := by
  have hk' : k < f.locks.length := by simp [Fp.locks]; exact hk
  obtain ⟨b, off, row, ha, -, hb, hS, hl, hrow, hx⟩ := h.elem' k hk'
  have hx' : Rd lockSh w S row ((setT (f.rs ++ f.ws))[k], hasT f.ws (setT (f.rs ++ f.ws))[k], ()) := by
    have e : f.locks[k] = ((setT (f.rs ++ f.ws))[k], hasT f.ws (setT (f.rs ++ f.ws))[k], ()) := by simp [Fp.locks]
    rw [e] at hx; exact hx
  obtain ⟨c1, c2, rfl, ⟨rfl, -⟩, c3, c4, rfl, h5, h6⟩ := hx'
  have h5 : c3 = [.bool (hasT f.ws (setT (f.rs ++ f.ws))[k])] := h5
  subst h5
  have r0 := (hrow 0 (by simp)).1
  have r1 := (hrow 1 (by simp)).1
  simp only [List.getElem?_cons_zero, List.getElem?_cons_succ, Nat.add_zero, List.singleton_append, List.cons_append, List.nil_append] at r0 r1
  exact ⟨b, off, ha, r0, r1⟩

/-- while the keys are laid -/
structure LPut (w : World) (u1 u2 : Value) (f : Fp) (l : Bytes) (av : Option Addr) (n cv : Nat) (k : Nat) (v : Value) (wr : World) : Prop where
  own : OwnB w wr v (l ++ uintB (setT (f.rs ++ f.ws)).length ++ f.body ((setT (f.rs ++ f.ws)).take k))
  foot : ∃ S, FpAt wr S u1 u2 f
  blk : wr.heap[w.heap.size]? = some (.cells #[u1, u2] 36 (0, 0))
  locks : ∃ T, Rd (.slice lockSh) wr T [.slice av n cv] f.locks
theorem LPut.keep {w : World} {u1 u2 : Value} {f : Fp} {l : Bytes} {av : Option Addr} {n cv k : Nat} {v : Value} {wr w2 : World} (h : LPut w u1 u2 f l av n cv k v wr) (hk : Keep No wr w2) : LPut w u1 u2 f l av n cv k v w2 := by
  obtain ⟨h1, ⟨S, h2⟩, h3, T, h4⟩ := h
  exact ⟨h1.more hk, ⟨S, h2.keep hk⟩, hk.blk h3 (fun x => x), T, h4.agree _ hk.agreeNo⟩

set_option maxRecDepth 10000 in
set_option maxHeartbeats 4000000 in
theorem rfPut_any (w : World) (S T : Nat → Prop) (v : Value) (l : Bytes) (hv : Rd bytesSh w T [v] l) (hl : l.length + 4000 ≤ 140737488355200) (u1 u2 : Value) (f : Fp) (h : FpAt w S u1 u2 f) (hfl : (f.rs.length + f.ws.length + 1) * 16 ≤ 140737488355200) :
    Calls Tryz.prog 72 #[v, .agg #[u1, u2]] w (PutsC w (if f.normal = true then l ++ f.bytes else []) (if f.normal = true then 0 else 31)) := by
  have K1 : Keep No w (w.alloc (.cells #[u1, u2] 36)) := (Keep.refl No w).alloc _
  have hb := (rIs_any _ S u1 u2 f (h.keep K1) hfl).mono (R' := fun e w3 => e = .returned (.bool f.normal) ∧ w3.heap[w.heap.size]? = some (.cells #[u1, u2] 36 (0, 0)) ∧
      RowKit.Hid (Keep No w w3 ∧ FpAt w3 S u1 u2 f ∧ Rd bytesSh w3 T [v] l)) (by
    rintro e w3 ⟨rfl, hk⟩
    exact ⟨rfl, hk.blk (blk_new w _) (fun x => x), K1.trans hk, (h.keep K1).keep hk, (hv.agree _ K1.agreeNo).agree _ hk.agreeNo⟩)
  obtain ⟨a0, c0, rfl, -⟩ := bytes_at hv
  obtain ⟨a1, c1, rfl, -⟩ := strs_at h.1
  obtain ⟨a2, c2, rfl, -⟩ := strs_at h.2
  cases hn : f.normal with
  | false =>
    rw [hn] at hb
    simp only [Bool.false_eq_true, if_false]
    clear h hv K1 hfl hl hn
    generalize f.rs.length = m1 at *
    generalize f.ws.length = m2 at *
    go_enter Tryz.func72, Tryz.ntmps72
    go_wp2_with fail
    refine hb.mono ?_
    clear hb
    rintro e w3 ⟨rfl, x1, HK⟩
    go_wp2_with fail
    go_ret2
    exact ⟨_, _, _, rfl, ⟨Own.nil _ _ _ _, HK.out.1⟩⟩
  | true =>
    rw [hn] at hb
    simp only [if_true]
    have hIs := (Fp.normal_iff f).1 hn
    have HIs := Lib.hid (And.intro hIs (And.intro hl hfl))
    clear h hv K1 hfl hl hn hIs
    generalize hm1 : f.rs.length = m1 at *
    generalize hm2 : f.ws.length = m2 at *
    generalize hln : l.length = ln at *
    have HE := Lib.hid (And.intro hm1 (And.intro hm2 hln))
    clear hm1 hm2 hln
    go_enter Tryz.func72, Tryz.ntmps72
    go_wp2_with fail
    refine hb.mono ?_
    clear hb
    rintro e w3 ⟨rfl, x1, HK⟩
    have q1 := blk_cell x1
    go_wp2_with fail
    have hle : (setT (f.rs ++ f.ws)).length ≤ 64 := HIs.out.1.many
    have hlk := (rLocks_any w3 S _ _ f HK.out.2.1 (by have := HIs.out.2.2; rw [HE.out.1, HE.out.2.1]; omega) (by omega)).mono (R' := fun e w4 => ∃ av cv, e = .returned (.slice av (setT (f.rs ++ f.ws)).length cv) ∧ w4.heap[w.heap.size]? = some (.cells #[.slice a1 m1 c1, .slice a2 m2 c2] 36 (0, 0)) ∧ RowKit.Hid (Keep No w3 w4 ∧ Rd (.slice lockSh) w4 (Fr w3.heap.size w4.heap.size) [.slice av (setT (f.rs ++ f.ws)).length cv] f.locks)) (by
      rintro e w4 ⟨a, n, c, rfl, hn, ho, hk⟩
      have e1 : n = (setT (f.rs ++ f.ws)).length := by rw [hn]; simp [Fp.locks]
      subst e1
      exact ⟨a, c, rfl, hk.blk x1 (fun x => x), hk, Own.rd ho⟩)
    refine hlk.mono ?_
    clear hlk q1
    rintro e w4 ⟨av, cv, rfl, x4, HM⟩
    have q4 := blk_cell x4
    have hbytes : f.bytes = uintB (setT (f.rs ++ f.ws)).length ++ f.body (setT (f.rs ++ f.ws)) := rfl
    have hbl := Fp.bytes_length HIs.out.1
    have hkeys : ∀ x ∈ setT (f.rs ++ f.ws), x.size ≤ 32 := fun x hx => (keyOk_size (HIs.out.1.ok _ (List.mem_append.1 ((setT_mem _ _).1 hx)))).2
    rw [hbytes] at hbl
    have hpu := (rPutUint_any w4 T (.slice a0 ln c0) l (HK.out.2.2.agree _ HM.out.1.agreeNo) ((setT (f.rs ++ f.ws)).length : Int) (by omega) (by omega) (by have := HIs.out.2.1; rw [HE.out.2.2]; omega)).mono (R' := fun e w5 => ∃ a5 n5 c5, e = .returned (.slice a5 n5 c5) ∧ RowKit.Hid (LPut w (.slice a1 m1 c1) (.slice a2 m2 c2) f l av (setT (f.rs ++ f.ws)).length cv 0 (.slice a5 n5 c5) w5)) (by
      rintro e w5 ⟨a5, c5, rfl, ho⟩
      rw [Int.toNat_natCast] at ho
      refine ⟨a5, _, c5, rfl, ?_, ⟨S, (HK.out.2.1.keep HM.out.1).keep ho.2⟩, ho.2.blk x4 (fun x => x), _, HM.out.2.agree _ ho.2.agreeNo⟩
      have := ho.back (HK.out.1.trans HM.out.1)
      simpa [Fp.body] using this)
    have HKS := Lib.hid (rfl : setT (f.rs ++ f.ws) = setT (f.rs ++ f.ws))
    have hb2 : l.length + (f.body (setT (f.rs ++ f.ws))).length ≤ 140737488355200 := by
      rw [List.length_append] at hbl
      have := HIs.out.2.1
      rw [HE.out.2.2]
      omega
    have HBB := Lib.hid (And.intro hb2 hkeys)
    have HBY := Lib.hid hbytes
    clear hbytes hbl hkeys hb2
    generalize hks : (setT (f.rs ++ f.ws)).length = n at *
    have HN := Lib.hid hks
    clear hks
    have i1 : (0 : Int) ≤ n := by omega
    have i2 : (n : Int) ≤ 64 := by omega
    go_wp2_with fail
    refine hpu.mono ?_
    clear hpu q4 i1 i2
    rintro e w5 ⟨a5, n5, c5, rfl, HP5⟩
    go_wp2_with fail
    clear x4
    go_loopw [7, 8] (fun v i wr => ∃ (k : Nat) (a : Option Addr) (m c : Nat), k ≤ n ∧ i = .int .i64 k ∧ v = .slice a m c ∧ RowKit.Hid (LPut w (.slice a1 m1 c1) (.slice a2 m2 c2) f l av n cv k (.slice a m c) wr)) (fun _ i _ => n - (intOf i).toNat)
    case atStart => exact ⟨0, _, _, _, by omega, rfl, rfl, HP5⟩
    case round =>
      obtain ⟨k, a, m, c, hk, rfl, rfl, HR⟩ := hrel
      by_cases hlt : k < n
      · have j1 : (k : Int) < n := by omega
        have j0 : (0 : Int) ≤ k := by omega
        have j3 : (k : Int) ≤ 9223372036854775806 := by omega
        have hks : k < (setT (f.rs ++ f.ws)).length := by rw [HN.out]; exact hlt
        obtain ⟨T4, hT4⟩ := HR.out.locks
        obtain ⟨b, off, rfl, r0, r1⟩ := locks_get hT4 k hks
        have hx32 := HBB.out.2 _ (List.getElem_mem hks)
        have hsn := body_snoc f (setT (f.rs ++ f.ws)) k hks
        have hble := body_le f (setT (f.rs ++ f.ws)) k
        have hus := (uintB_length (setT (f.rs ++ f.ws)).length).2
        have hb2 := HBB.out.1
        have htx := textB_length (setT (f.rs ++ f.ws))[k]
        have hcall := (rPutText_any wr _ _ _ HR.out.own.rd (setT (f.rs ++ f.ws))[k] (by simp only [List.length_append]; omega)).mono (R' := fun e w2 => ∃ a2' m2' c2', e = .returned (.slice a2' m2' c2') ∧ w2.heap[w.heap.size]? = some (.cells #[.slice a1 m1 c1, .slice a2 m2 c2] 36 (0, 0)) ∧ w2.cell? ⟨b, off + k * 2, none⟩ = some (.string (setT (f.rs ++ f.ws))[k]) ∧ w2.cell? ⟨b, off + k * 2 + 1, none⟩ = some (.bool (hasT f.ws (setT (f.rs ++ f.ws))[k])) ∧ RowKit.Hid (OwnB wr w2 (.slice a2' m2' c2') (l ++ uintB (setT (f.rs ++ f.ws)).length ++ f.body ((setT (f.rs ++ f.ws)).take k) ++ textB (setT (f.rs ++ f.ws))[k]) ∧ LPut w (.slice a1 m1 c1) (.slice a2 m2 c2) f l (some ⟨b, off, none⟩) n cv k (.slice a m c) w2)) (by
          rintro e w2 ⟨a2', c2', rfl, ho⟩
          have h' := HR.out.keep ho.2
          obtain ⟨T5, hT5⟩ := h'.locks
          obtain ⟨b', off', e, q0, q1⟩ := locks_get hT5 k hks
          simp only [Option.some.injEq, Addr.mk.injEq, and_true] at e
          obtain ⟨rfl, rfl⟩ := e
          exact ⟨a2', _, c2', rfl, h'.blk, q0, q1, ho, h'⟩)
        have hfin : ∀ (w2 : World) (N : Nat) (a2' : Option Addr) (m2' c2' : Nat) (y : Int), OwnB wr w2 (.slice a2' m2' c2') (l ++ uintB (setT (f.rs ++ f.ws)).length ++ f.body ((setT (f.rs ++ f.ws)).take k) ++ textB (setT (f.rs ++ f.ws))[k]) → f.use (setT (f.rs ++ f.ws))[k] = y →
            ∃ a4 m4 c4 w4, (Builtin.append_ #[53, 53] 53 #[.slice a2' m2' c2', .slice (some ⟨(w2.drewN N).heap.size, 0, none⟩) 1 1]).run Tryz.prog ((w2.drewN N).alloc (.cells #[.int .u8 y] 5)) = .ok (.slice a4 m4 c4) w4 ∧ RowKit.Hid (LPut w (.slice a1 m1 c1) (.slice a2 m2 c2) f l (some ⟨b, off, none⟩) n cv (k + 1) (.slice a4 m4 c4) w4) := by
          intro w2 N a2' m2' c2' y ho hy
          subst hy
          have hu := use_range f (setT (f.rs ++ f.ws))[k]
          obtain ⟨a4, c4, w4, hr, ho4⟩ := app_byte (ho.more ((Keep.refl No w2).drewN N)) (f.use (setT (f.rs ++ f.ws))[k]) (by omega) (by omega) (by simp only [List.length_append]; omega)
          have h6 := HR.out.keep ho4.2
          have hm := ho.len
          rw [← hm] at hr ho4
          refine ⟨a4, _, c4, w4, hr, ?_, h6.foot, h6.blk, h6.locks⟩
          rw [hsn]
          simpa only [List.append_assoc] using ho4.back HR.out.own.2
        have huse : f.use (setT (f.rs ++ f.ws))[k] = (if hasT f.rs (setT (f.rs ++ f.ws))[k] then 1 else 0) + (if hasT f.ws (setT (f.rs ++ f.ws))[k] then 2 else 0) := rfl
        have hhas : ∀ w2, LPut w (.slice a1 m1 c1) (.slice a2 m2 c2) f l (some ⟨b, off, none⟩) n cv k (.slice a m c) w2 → ∀ N, Calls Tryz.prog 51 #[.slice a1 m1 c1, .string (setT (f.rs ++ f.ws))[k]] (w2.drewN N) fun e w' => e = .returned (.bool (hasT f.rs (setT (f.rs ++ f.ws))[k])) ∧ w' = w2.drewN N := fun w2 h2 N => by
          obtain ⟨S2, hS2⟩ := h2.foot
          exact rHas_any (w2.drewN N) S2 (.slice a1 m1 c1) f.rs ((hS2.keep ((Keep.refl No w2).drewN N)).1) _
        have HX := Lib.hid (And.intro hlt (And.intro hfin (And.intro huse hhas)))
        clear hfin huse hhas hsn hble hus hb2 htx hx32 hk hT4
        generalize (setT (f.rs ++ f.ws))[k] = x at *
        generalize hxr : hasT f.rs x = xr at *
        generalize hxw : hasT f.ws x = xw at *
        clear hxr hxw hks hlt hle
        go_wp2_with (go_at_call 70; refine hcall.mono ?_; clear hcall; rintro e w2 ⟨a6, m6, c6, rfl, x6, s0, s1, HO⟩)
        have q6 := blk_cell x6
        have hh := HX.out.2.2.2 w2 HO.out.2
        clear r0 r1
        go_quiet ((go_at_call 51; exact quiet_call (hh _)))
        clear hh
        cases xr <;> cases xw
        all_goals
          obtain ⟨a4, m4, c4, w4, hrun, HM4⟩ := HX.out.2.1 w2 nq a6 m6 c6 _ HO.out.1 HX.out.2.2.1
          simp only [Bool.false_eq_true, if_false, if_true] at hrun
          have HLT : RowKit.Hid (k < n) := HX.out.1
          clear HX
          go_wp2_with (at_builtin; refine wpList_app rfl (.tmp 50) (.tmp 52) 53 53 rfl rfl rfl hrun ?_)
          go_roundw
          case rel => exact ⟨k + 1, a4, m4, c4, HLT.out, by simp, rfl, HM4⟩
          case measure => simp [intOf]; have := HLT.out; omega
      · have j1 : ¬ (k : Int) < n := by omega
        have hke : k = n := by omega
        subst hke
        clear hk hlt hle
        go_wp2_with fail
        go_ret2
        refine ⟨a, m, c, rfl, ?_⟩
        have h9 := HR.out.own
        have hn9 := HN.out
        rw [List.take_of_length_le (by omega), List.append_assoc, hn9] at h9
        rw [HBY.out]
        exact h9
end Go.Proofs.YtnknihmchmmenaaGreat
