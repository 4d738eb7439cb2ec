/-
  Parts of what is proved for this claim; each declaration is one of the seat's texts.
-/
import Derived.Test.YtcallmnhaikfpaaGreatDoorTGA
import Derived.Test.YtcallmnhaikfpaaGreatDoorTGB
import Derived.Test.YtcallmnhaikfpaaGreatDoorTGC
import Derived.Test.YtcallmnhaikfpaaGreatDoorTGF
import Derived.Test.YtcallmnhaikfpaaGreatDoorTGK
import Derived.Test.YtcallmnhaikfpaaGreatDoorTGM
import Derived.Test.YtcallmnhaikfpaaGreatDoorTGN
import Derived.Test.YtcallmnhaikfpaaGreatDoorTGO
import Derived.Still
import Derived.StillTactics
import Derived.WalkKit
import Derived.WalkSpells
import Derived.WalkLawsBesides
import Derived.ProofKit
import Derived.Deep.Slices
import Derived.Deep.AppendSrc
import Derived.Lib.Hide
import Derived.Recover
import Derived.Defers
import Derived.Deep.QuietTactic
import Derived.BigQuiet
import Derived.Handy
import Derived.Laws.Bits64b
import Derived.Lib.Zigzag
import Derived.OwnWalk
import Derived.Deep.DeepCutAuto
import Derived.Lib.Bytealg
import Derived.Laws.Externs
import Derived.Deep.LoopGhost
import Derived.Laws.CopyRow
import Derived.Laws.IdiomCopy
import Derived.Maps.OwnSet
import Derived.Maps.RangeWalk
import Derived.Shelf.SortM.Plain
import Derived.Shelf.SortM.SortNone
import Derived.Ground.SlgmProg
set_option linter.unusedVariables false
set_option linter.unusedSimpArgs false
namespace Go.Proofs.YtcallmnhaikfpaaGreatDoor
open Go Go.RowKit Go.Deep
@[reducible] def lockSh : Sh := .struct (.cons .str (.cons .bool .nil))
def Fp.locks (f : Fp) : List lockSh.T := (setT (f.rs ++ f.ws)).map fun k => (k, hasT f.ws k, ())
theorem Tryz.infoLock : (Tryz.prog.info? 95).map (fun i => (i.zero, i.size, i.bytes)) = some (some (.agg #[.string ⟨#[]⟩, .bool false]), 2, 24) := by kernel_rfl
def OwnK (lo : Nat) (w : World) (v : Value) (l : List lockSh.T) : Prop := Own lockSh 95 w (Fr lo w.heap.size) v l
theorem OwnK.app {lo : Nat} {w : World} {v : Value} {l : List lockSh.T} (h : OwnK lo w v l) (hlo : lo ≤ w.heap.size) (k : ByteArray) (b : Bool) (hk : k.size ≤ maxLen) (hl : l.length + 1 ≤ 1048576) :
    ∃ a c w', (Builtin.append_ #[47, 47] 47 #[v, .slice (some ⟨w.heap.size, 0, none⟩) 1 1]).run Tryz.prog (w.alloc (.cells #[.string k, .bool b] 95)) = .ok (.slice a (l.length + 1) c) w' ∧ OwnK lo w' (.slice a (l.length + 1) c) (l ++ [(k, b, ())]) ∧ Keep (Fr lo w.heap.size) w w' := by
  obtain ⟨i0, hi0, hz0, hz1, hz2⟩ := info_parts Tryz.infoLock
  have h1 : Own lockSh 95 (w.alloc (.cells #[.string k, .bool b] 95)) (Fr lo w.heap.size) v l := Own.agree h ((Keep.refl No w).alloc _).agreeNo
  obtain ⟨a, c, w', hr, ho, hk, hs⟩ := Own.append (P := Tryz.prog) (T := No) h1 47 47 i0 _ 24 Tryz.underlying47 hi0 hz0 hz1 hz2 rfl (blk_new w _) (x := (k, b, ())) ⟨[.string k], _, rfl, ⟨rfl, hk⟩, [.bool b], [], rfl, rfl, rfl⟩ (fun k _ x => x) (by omega) (by omega) 1
  refine ⟨a, c, w', hr, Own.mono ho.live fun k hk' => ?_, ((Keep.refl _ w).alloc _).then hk fun i _ hi => hi⟩
  obtain ⟨h1 | h1 | h1, h2⟩ := hk'
  · exact ⟨h1.1, h2⟩
  · exact h1.elim
  · simp only [World.size_alloc] at h1; exact ⟨by omega, h2⟩
structure LkAt (w : World) (f : Fp) (s : List ByteArray) (sv : Value) (k : Nat) (v : Value) (W0 wr : World) : Prop where
  keep : Keep No w W0
  set : OwnT w W0 sv s
  keep2 : Keep No W0 wr
  own : OwnK W0.heap.size wr v ((s.take k).map fun k => (k, hasT f.ws k, ()))
set_option maxRecDepth 10000 in
set_option maxHeartbeats 2000000 in
theorem rLocks_any (w : World) (S : Nat → Prop) (u v : Value) (f : Fp) (h : FpAt w S u v f) (hl : (f.rs.length + f.ws.length + 1) * 16 ≤ 140737488355328) (hm : (setT (f.rs ++ f.ws)).length ≤ 1000000) :
    Calls Tryz.prog 10 #[.agg #[u, v]] w fun e w' => ∃ a n c, e = .returned (.slice a n c) ∧ n = f.locks.length ∧ OwnK w.heap.size w' (.slice a n c) f.locks ∧ Keep No w w' := by
  obtain ⟨a1, c1, rfl, -⟩ := strs_at h.1
  obtain ⟨a2, c2, rfl, -⟩ := strs_at h.2
  have K1 : Keep No w (w.alloc (.cells #[.slice a1 f.rs.length c1, .slice a2 f.ws.length c2] 41)) := (Keep.refl No w).alloc _
  have h1 := h.keep K1
  have hb := (rBoth_any _ S S _ _ f.rs f.ws h1.1 h1.2 (by omega)).mono (R' := fun e w3 => ∃ a n c, e = .returned (.slice a n c) ∧ w3.heap[w.heap.size]? = some (.cells #[.slice a1 f.rs.length c1, .slice a2 f.ws.length c2] 41 (0, 0)) ∧ RowKit.Hid (Keep No w w3 ∧ Rd (.slice .str) w3 (Fr w.heap.size w3.heap.size) [.slice a n c] (f.rs ++ f.ws))) (by
    rintro e w3 ⟨a, n, c, rfl, ho⟩
    exact ⟨a, n, c, rfl, ho.2.blk (blk_new w _) (fun x => x), K1.trans ho.2, ho.rd.mono _ fun k _ hk => ⟨by have := hk.1; simp at this; omega, hk.2⟩⟩)
  have L3 : ((f.rs ++ f.ws).length + 1) * 16 ≤ 140737488355328 := by rw [List.length_append]; exact hl
  have HL := Lib.hid (And.intro h (And.intro L3 hm))
  clear K1 h1 L3 hm hl h
  generalize hm1 : f.rs.length = m1 at *
  generalize hm2 : f.ws.length = m2 at *
  have hlk : f.locks.length = (setT (f.rs ++ f.ws)).length := by simp [Fp.locks]
  have HLK := Lib.hid (And.intro hlk (And.intro hm1 hm2))
  clear hlk hm1 hm2
  go_enter Tryz.func10, Tryz.ntmps10
  go_wp2_with fail
  refine hb.mono ?_
  clear hb
  rintro e w3 ⟨a3, n3, c3, rfl, x3, H3⟩
  have hset := (rSet_any w3 _ _ _ H3.out.2 HL.out.2.1).mono (R' := fun e w4 => ∃ a n c, e = .returned (.slice a n c) ∧ n = (setT (f.rs ++ f.ws)).length ∧ w4.heap[w.heap.size]? = some (.cells #[.slice a1 m1 c1, .slice a2 m2 c2] 41 (0, 0)) ∧ RowKit.Hid (Keep No w w4 ∧ OwnT w w4 (.slice a n c) (setT (f.rs ++ f.ws)))) (by
    rintro e w4 ⟨a, n, c, rfl, ho⟩
    exact ⟨a, n, c, rfl, ho.len, ho.2.blk x3 (fun x => x), H3.out.1.trans ho.2, ho.back H3.out.1⟩)
  clear x3
  go_wp2_with fail
  refine hset.mono ?_
  clear hset
  rintro e w4 ⟨a4, n4, c4, rfl, hn4, x4, H4⟩
  have HB := Lib.hid x4
  clear x4 H3
  generalize hss : setT (f.rs ++ f.ws) = ss at *
  have HSS := Lib.hid hss
  clear hss
  have hn46 : n4 ≤ 1000000 := by have := HL.out.2.2; omega
  have HN4 := Lib.hid hn4
  clear hn4
  go_wp2_with fail
  go_loopw [4, 5] (fun v i wr => ∃ (k : Nat) (a : Option Addr) (c : Nat), i = .int .i64 k ∧ v = .slice a k c ∧ k ≤ n4 ∧ RowKit.Hid (LkAt w f ss (.slice a4 n4 c4) k (.slice a k c) w4 wr)) (fun _ i _ => n4 - (intOf i).toNat)
  case atStart => exact ⟨0, none, 0, rfl, rfl, Nat.zero_le _, ⟨H4.out.1, H4.out.2, Keep.refl _ _, Own.nil _ _ _ _⟩⟩
  case round =>
    obtain ⟨k, a, c, rfl, rfl, hk, HA⟩ := hrel
    by_cases hlt : k < n4
    · have hks : k < ss.length := by have := HN4.out; omega
      have hkd : Keep No w4 wr.drew := HA.out.keep2.drew
      have hkw : Keep No w wr.drew := HA.out.keep.trans hkd
      obtain ⟨b, off, rfl, r0, hsz⟩ := strs_get (HA.out.set.more hkd).rd k hks
      have q0 := blk_cell (hkd.blk HB.out (fun x => x))
      have hhas := rHas_any wr.drew S (.slice a2 m2 c2) f.ws ((HL.out.1).keep hkw).2 ss[k]
      have j0 : (0 : Int) ≤ k := by omega
      have j1 : (k : Int) < n4 := by omega
      have j3 : (k : Int) ≤ 9223372036854775806 := by omega
      have htk : (ss.take (k + 1)).map (fun k => (k, hasT f.ws k, ())) = (ss.take k).map (fun k => (k, hasT f.ws k, ())) ++ [(ss[k], hasT f.ws ss[k], ())] := by
        rw [List.take_succ_eq_append_getElem hks, List.map_append]; rfl
      have hlen : ((ss.take k).map (fun k => (k, hasT f.ws k, ()))).length = k := by simp; omega
      obtain ⟨a7, c7, w7, hrun, ho7, hk7⟩ := OwnK.app (w := wr.drew) (lo := w4.heap.size) (Own.mono (Own.agree HA.out.own (Keep.refl No wr).drew.agreeNo) fun i hi => ⟨hi.1, by simpa using hi.2⟩) hkd.size ss[k] (hasT f.ws ss[k]) (by rw [maxLen_is]; omega) (by rw [hlen]; omega)
      rw [hlen] at hrun ho7
      obtain ⟨k1, hk1⟩ : ∃ k1, k + 1 = k1 := ⟨_, rfl⟩
      rw [hk1] at hrun ho7
      have HX := Lib.hid (And.intro hlt (And.intro htk (And.intro hk1 (And.intro ho7 (And.intro hk7 hkd)))))
      clear htk hlen hk1 ho7 hk7 hkd hkw hsz hk
      generalize ss[k] = x at *
      generalize hasT f.ws x = hx at *
      clear hlt hks
      go_wp2_with fail
      refine wp_region_can [0, 1, 2, 3, 4, 5, 6, 7, 8, 9, 10, 11, 12, 13, 14, 15] [11, 13, 14, 15] [(0, 11), (1, 11), (2, 11), (3, 11), (4, 11), (0, 13)] (by kernel_rfl) (by kernel_rfl) (by kernel_rfl) (by kernel_rfl) (by intro c a d v w h; cases d <;> exact h) ?_
      generalize wr.drew = wd at *
      iterate 11 (refine can_sil rfl rfl (fun K hK => ?_); go_simp; refine hK _ ?_; clear hK K)
      refine can_loud [0, 1, 2, 3, 4] rfl rfl rfl (fun K hK => ?_)
      go_wp2_with (go_at_call 30; refine hhas.mono ?_; clear hhas; rintro e w6 ⟨rfl, h6⟩; subst h6)
      refine Mid.normal (hK _ _ ?_ ?_)
      · simp only [List.forall_mem_cons]
        refine ⟨?_, ?_, ?_, ?_, ?_, stabs_nil⟩ <;> exact stab_of rfl (fun K hK => by go_simp; exact hK)
      clear hK K
      refine can_sil rfl rfl (fun K hK => ?_); go_simp; refine hK _ ?_; clear hK K
      refine can_loud [0] rfl rfl rfl (fun K hK => ?_)
      go_wp2_with fail
      refine Mid.normal (hK _ _ ?_ ?_)
      · simp only [List.forall_mem_cons]
        refine ⟨?_, stabs_nil⟩ <;> exact stab_of rfl (fun K hK => by go_simp; exact hK)
      clear hK K
      refine can_loud [] rfl rfl rfl (fun K hK => ?_)
      refine wpList_app rfl (.tmp 18) (.tmp 31) 47 47 rfl rfl rfl hrun ?_
      go_wp2_with fail
      refine Mid.normal (hK _ _ stabs_nil ?_)
      clear hK K
      refine can_loud [] rfl rfl rfl (fun K hK => ?_)
      go_wp2_with fail
      refine Mid.normal (hK _ _ stabs_nil ?_)
      clear hK K
      refine can_nil ?_
      clear r0 q0
      go_wp2_with fail
      go_roundw
      case rel =>
        obtain ⟨hlt, htk, rfl, ho7, hk7, hkd⟩ := HX.out
        refine ⟨k + 1, a7, c7, by simp, rfl, hlt, ⟨HA.out.keep, HA.out.set, hkd.then hk7 (fun i hi h => by have := h.1; omega), ?_⟩⟩
        rw [htk]; exact ho7
      case measure => simp [intOf]; have := HX.out.1; omega
    · obtain rfl : k = n4 := by omega
      clear hlt hk
      go_wp2_with fail
      go_ret
      have hn := HN4.out
      have e1 : f.locks = (ss.take k).map fun k => (k, hasT f.ws k, ()) := by
        rw [List.take_of_length_le (by omega), ← HSS.out]; rfl
      refine ⟨a, k, c, rfl, by rw [HLK.out.1, hn], ?_, HA.out.keep.trans HA.out.keep2⟩
      rw [e1]
      exact Own.mono HA.out.own fun i hi => ⟨by have := hi.1; have := HA.out.keep.size; omega, hi.2⟩
end Go.Proofs.YtcallmnhaikfpaaGreatDoor
