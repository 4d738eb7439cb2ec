/-
  Parts of what is proved for this claim; each declaration is one of the seat's texts.
-/
import Derived.Test.YtpjcebajkfeacaaGreatDoorJGA
import Derived.Test.YtpjcebajkfeacaaGreatDoorJGB
import Derived.Test.YtpjcebajkfeacaaGreatDoorJGC
import Derived.Test.YtpjcebajkfeacaaGreatDoorJGD
import Derived.Test.YtpjcebajkfeacaaGreatDoorJGF
import Derived.Test.YtpjcebajkfeacaaGreatDoorJGK
import Derived.Test.YtpjcebajkfeacaaGreatDoorJGM
import Derived.Test.YtpjcebajkfeacaaGreatDoorJGN
import Derived.Test.YtpjcebajkfeacaaGreatDoorJGO
import Derived.Test.YtpjcebajkfeacaaGreatDoorJGU
import Derived.Test.YtpjcebajkfeacaaGreatDoorJHA
import Derived.Test.YtpjcebajkfeacaaGreatDoorJHG
import Derived.Test.YtpjcebajkfeacaaGreatDoorJHH
import Derived.Test.YtpjcebajkfeacaaGreatDoorJHK
import Derived.Test.YtpjcebajkfeacaaGreatDoorJJA
import Derived.Still
import Derived.StillTactics
import Derived.WalkKit
import Derived.Recover
import Derived.Defers
import Derived.Deep.QuietTactic
import Derived.BigQuiet
import Derived.Handy
import Derived.Laws.Bits64b
import Derived.Lib.Zigzag
import Derived.OwnWalk
import Derived.Deep.DeepCutAuto
import Derived.Lib.Bytealg
import Derived.Laws.Externs
import Derived.Laws.CopyRow
import Derived.Laws.IdiomCopy
import Derived.WalkSpells
import Derived.WalkLawsBesides
import Derived.ProofKit
import Derived.Deep.Slices
import Derived.Deep.AppendSrc
import Derived.Lib.Hide
import Derived.Maps.OwnSet
import Derived.Maps.RangeWalk
import Derived.Shelf.SortM.Plain
import Derived.Shelf.SortM.SortNone
import Derived.Ground.SlgmProg
import Derived.Lib.ItoaNum
import Derived.Lib.Join
import Derived.Deep.LoopGhost
import Derived.Maps.OwnOps
import Derived.Shelf.Strconv.Itoa4
import Derived.Shelf.Strings.BuilderK
import Derived.Shelf.Strings.OnBuilder
import Derived.Ground.NamesProg
import Derived.Lib.AppendIntMem
import Derived.Lib.UnsafeStr
import Derived.Deep.WholeRow
import Derived.Maps.Views
set_option linter.unusedVariables false
set_option linter.unusedSimpArgs false
namespace Go.Proofs.YtpjcebajkfeacaaGreatDoor
open Go Go.RowKit Go.Deep
theorem le16 {a b n : Nat} (h : b * 16 ≤ n) (k : a ≤ b) : a * 16 ≤ n := Nat.le_trans (Nat.mul_le_mul_right 16 k) h
def NormMid (w : World) (S : Nat → Prop) (u v : Value) (f : Fp) (l : List ByteArray) (w3 : World) (a : Option Addr) (c : Nat) : Prop :=
  w3.heap[w.heap.size]? = some (.cells #[u, v] 48 (0, 0)) ∧ w3.heap[w.heap.size + 1]? = some (.cells #[.slice none 0 0, .slice none 0 0] 48 (0, 0)) ∧ Keep No w w3 ∧ Rd (.slice .str) w3 (Lt w3.heap.size) [.slice a l.length c] l ∧ FpAt w3 S u v f
theorem NormMid.keep {w : World} {S : Nat → Prop} {u v : Value} {f : Fp} {l : List ByteArray} {w3 w4 : World} {a : Option Addr} {c : Nat} (h : NormMid w S u v f l w3 a c) (k : Keep No w3 w4) : NormMid w S u v f l w4 a c := by
  obtain ⟨h1, h2, h3, h4, h5⟩ := h
  exact ⟨k.blk h1 (fun x => x), k.blk h2 (fun x => x), h3.trans k, (h4.agree _ k.agreeNo).mono _ (fun i _ hi => Nat.lt_of_lt_of_le hi k.size), h5.keep k⟩
set_option maxRecDepth 10000 in
set_option maxHeartbeats 4000000 in
theorem rNorm_any (w : World) (S : Nat → Prop) (u v : Value) (f : Fp) (h : FpAt w S u v f) (hl : (f.rs.length + f.ws.length + 1) * 16 ≤ 140737488355328) :
    Calls Tryz.prog 141 #[.agg #[u, v]] w (GivesFC w f.norm) := by
  have K2 : Keep No w ((w.alloc (.cells #[u, v] 48)).alloc (.cells #[.slice none 0 0, .slice none 0 0] 48)) := ((Keep.refl No w).alloc _).alloc _
  have x1 : ((w.alloc (.cells #[u, v] 48)).alloc (.cells #[.slice none 0 0, .slice none 0 0] 48)).heap[w.heap.size]? = some (.cells #[u, v] 48 (0, 0)) := blk_alloc (blk_new w _)
  have x2 : ((w.alloc (.cells #[u, v] 48)).alloc (.cells #[.slice none 0 0, .slice none 0 0] 48)).heap[w.heap.size + 1]? = some (.cells #[.slice none 0 0, .slice none 0 0] 48 (0, 0)) := by
    have := blk_new (w.alloc (.cells #[u, v] 48)) (.cells #[.slice none 0 0, .slice none 0 0] 48)
    simpa using this
  have hb := (rBoth_any _ S S u v f.rs f.ws (h.keep K2).1 (h.keep K2).2 (le16 hl (by omega))).mono (R' := fun e w3 => ∃ a c, e = .returned (.slice a (f.rs ++ f.ws).length c) ∧ RowKit.Hid (NormMid w S u v f (f.rs ++ f.ws) w3 a c)) (by
    rintro e w3 ⟨a, n, c, rfl, ho⟩
    have hn := ho.len
    subst hn
    exact ⟨a, c, rfl, ho.2.blk x1 (fun x => x), ho.2.blk x2 (fun x => x), K2.trans ho.2, ho.rd.mono _ (fun k hk _ => hk), (h.keep K2).keep ho.2⟩)
  have HN := Lib.hid (norm_cases f)
  have L1 : (f.rs.length + 1) * 16 ≤ 140737488355328 := le16 hl (by omega)
  have L2 : (f.ws.length + 1) * 16 ≤ 140737488355328 := le16 hl (by omega)
  have L3 : ((f.rs ++ f.ws).length + 1) * 16 ≤ 140737488355328 := by rw [List.length_append]; exact hl
  obtain ⟨a1, c1, rfl, -⟩ := strs_at h.1
  obtain ⟨a2, c2, rfl, -⟩ := strs_at h.2
  have hsr := fun (w4 : World) (hk : FpAt w4 S (.slice a1 f.rs.length c1) (.slice a2 f.ws.length c2) f) => rSet_any w4 S _ f.rs hk.1 L1
  have hsw := fun (w4 : World) (hk : FpAt w4 S (.slice a1 f.rs.length c1) (.slice a2 f.ws.length c2) f) => rSet_any w4 S _ f.ws hk.2 L2
  have HL := Lib.hid (And.intro L3 (And.intro hsr hsw))
  clear h K2 x1 x2 hl L1 L2 L3 hsr hsw
  generalize f.rs.length = m1 at *
  generalize f.ws.length = m2 at *
  generalize f.rs ++ f.ws = l at *
  go_enter Tryz.func141, Tryz.ntmps141
  go_wp2_with fail
  refine hb.mono ?_
  clear hb
  rintro e w3 ⟨a, c, rfl, HM⟩
  have hll : l.length ≤ 8796093022208 := by have := HL.out.1; omega
  go_wp2_with fail
  go_loopw [5] (fun i wr => ∃ k : Nat, k ≤ l.length ∧ i = .int .i64 k ∧ wr = w3 ∧ (l.take k).all keyOk = true) (fun i _ => l.length - (intOf i).toNat)
  case atStart => exact ⟨0, by omega, rfl, rfl, by simp⟩
  case round =>
    obtain ⟨k, hk, rfl, hw, ha⟩ := hrel
    subst hw
    by_cases hlt : k < l.length
    · have j1 : (k : Int) < l.length := by omega
      have j0 : (0 : Int) ≤ k := by omega
      have j3 : (k : Int) ≤ 9223372036854775806 := by omega
      obtain ⟨b, off, rfl, hc, hxs⟩ := strs_get HM.out.2.2.2.1 k hlt
      have hsucc := allT_take l keyOk k hlt ha
      have hbad := allT_false l keyOk k hlt
      generalize l[k] = x at hc hxs hsucc hbad
      cases hx : keyOk x with
      | true =>
        rw [hx] at hsucc
        have HA := Lib.hid (And.intro hsucc hlt)
        clear hsucc hbad ha hlt hk
        go_wp2_with (go_at_call 198; refine (rKeyOk_any x hxs _).mono ?_; rintro e w' ⟨rfl, rfl⟩; rw [hx])
        go_roundw
        case rel => exact ⟨k + 1, by have := HA.out.2; omega, by simp, by first | rfl | trivial, HA.out.1⟩
        case measure => simp [intOf]; have := HA.out.2; omega
      | false =>
        have HB := Lib.hid (HN.out.1 (hbad hx))
        clear hsucc hbad ha hlt hk
        have x2 := HM.out.2.1
        have q2 := blk_cell x2
        have f2 := blk_fro x2
        go_wp2_with (go_at_call 198; refine (rKeyOk_any x hxs _).mono ?_; rintro e w' ⟨rfl, rfl⟩; rw [hx])
        have y2 := blk_two x2 (.slice none 0 0) (.slice none 0 0)
        have s2 := blk_cell y2
        have s0 := s2 0
        have s1 := s2 1
        simp at s0 s1
        have hk1 := two_nil HM.out.2.2.1 (Nat.le_succ w.heap.size)
        refine bodyPost_ret (v := .tuple #[.agg #[.slice none 0 0, .slice none 0 0], .int .i64 30]) (by simp [results, Tryz.results141, go_sem, s0, s1]) rfl ?_
        rw [HB.out]
        exact ⟨_, _, _, _, _, _, rfl, hk1⟩
    · have hle : l.length ≤ k := by omega
      rw [List.take_of_length_le hle] at ha
      have j1 : ¬ (k : Int) < l.length := by omega
      have hs := (rSet_any wr _ _ l HM.out.2.2.2.1 HL.out.1).mono (R' := fun e w4 => ∃ a4 c4, e = .returned (.slice a4 (setT l).length c4) ∧ RowKit.Hid (NormMid w S (.slice a1 m1 c1) (.slice a2 m2 c2) f l w4 a c)) (by
        rintro e w4 ⟨a4, n4, c4, rfl, ho⟩
        have hn := ho.len
        subst hn
        exact ⟨a4, c4, rfl, HM.out.keep ho.2⟩)
      have HA := Lib.hid ha
      clear ha hk hle
      have hle2 : (setT l).length ≤ 8796093022208 := Nat.le_trans (setT_le l) hll
      by_cases hmany : 64 < (setT l).length
      · have HB := Lib.hid (HN.out.2.1 HA.out hmany)
        have j4 : (64 : Int) < (setT l).length := Int.ofNat_lt.2 hmany
        clear hmany
        go_wp2_with fail
        refine hs.mono ?_
        clear hs
        rintro e w4 ⟨a4, c4, rfl, HM4⟩
        have x2 := HM4.out.2.1
        have q2 := blk_cell x2
        have f2 := blk_fro x2
        go_wp2_with fail
        have y2 := blk_two x2 (.slice none 0 0) (.slice none 0 0)
        have s2 := blk_cell y2
        have s0 := s2 0
        have s1 := s2 1
        simp at s0 s1
        have hk1 := two_nil HM4.out.2.2.1 (Nat.le_succ w.heap.size)
        refine bodyPost_ret (v := .tuple #[.agg #[.slice none 0 0, .slice none 0 0], .int .i64 6]) (by simp [results, Tryz.results141, go_sem, s0, s1]) rfl ?_
        rw [HB.out]
        exact ⟨_, _, _, _, _, _, rfl, hk1⟩
      · have HB := Lib.hid (HN.out.2.2 HA.out hmany)
        have j4 : ¬ (64 : Int) < (setT l).length := fun hh => hmany (Int.ofNat_lt.1 hh)
        clear hmany
        go_wp2_with fail
        refine hs.mono ?_
        clear hs
        rintro e w4 ⟨a4, c4, rfl, HM4⟩
        have x1 := HM4.out.1
        have q1 := blk_cell x1
        go_wp2_with fail
        refine wp_region_can [0, 1, 3, 4, 2, 5, 6, 7, 8] [2, 5, 7] [(3, 2), (4, 2)] (by kernel_rfl) (by kernel_rfl) (by kernel_rfl) (by kernel_rfl) (by intro c a d v w h; cases d <;> exact h) ?_
        iterate 4 (refine can_sil rfl rfl (fun K hK => ?_); go_simp; refine hK _ ?_; clear hK K)
        have hs1 := (HL.out.2.1 w4.drew (HM4.out.keep (Keep.refl No w4).drew).2.2.2.2).mono (R' := fun e w5 => ∃ a5 n5 c5, e = .returned (.slice a5 n5 c5) ∧ w5.heap[w.heap.size]? = some (.cells #[.slice a1 m1 c1, .slice a2 m2 c2] 48 (0, 0)) ∧ RowKit.Hid (NormMid w S (.slice a1 m1 c1) (.slice a2 m2 c2) f l w5 a c ∧ OwnT w4.drew w5 (.slice a5 n5 c5) (setT f.rs))) (by
          rintro e w5 ⟨a5, n5, c5, rfl, ho⟩
          have h5 := (HM4.out.keep (Keep.refl No w4).drew).keep ho.2
          exact ⟨a5, n5, c5, rfl, h5.1, h5, ho⟩)
        have lb : w.heap.size + 1 < w4.drew.heap.size := blk_lt HM4.out.2.1
        have HLB := Lib.hid lb
        clear lb
        clear q1 x1
        refine can_loud [3, 4] rfl rfl rfl (fun K hK => ?_)
        go_wp2_with (go_at_call 142; refine hs1.mono ?_; clear hs1; rintro e w5 ⟨a5, n5, c5, rfl, x1, HM5⟩)
        have q1 := blk_cell x1
        refine Mid.normal (hK _ _ ?_ ?_)
        · simp only [List.forall_mem_cons]
          refine ⟨?_, ?_, stabs_nil⟩ <;> exact stab_of rfl (fun K hK => by go_simp; exact hK)
        clear hK K q1 x1
        have hs2 := (HL.out.2.2 w5 HM5.out.1.2.2.2.2).mono (R' := fun e w6 => ∃ a6 n6 c6, e = .returned (.slice a6 n6 c6) ∧ w6.heap[w.heap.size + 1]? = some (.cells #[.slice none 0 0, .slice none 0 0] 48 (0, 0)) ∧ RowKit.Hid (Keep No w w6 ∧ OwnT w4.drew w6 (.slice a5 n5 c5) (setT f.rs) ∧ OwnT w5 w6 (.slice a6 n6 c6) (setT f.ws) ∧ w4.drew.heap.size ≤ w5.heap.size)) (by
          rintro e w6 ⟨a6, n6, c6, rfl, ho⟩
          exact ⟨a6, n6, c6, rfl, ho.2.blk HM5.out.1.2.1 (fun x => x), HM5.out.1.2.2.1.trans ho.2, HM5.out.2.more ho.2, ho, HM5.out.2.2.size⟩)
        refine can_loud [] rfl rfl rfl (fun K hK => ?_)
        go_wp2_with (go_at_call 142; refine hs2.mono ?_; clear hs2; rintro e w6 ⟨a6, n6, c6, rfl, x2, HM6⟩)
        refine Mid.normal (hK _ _ stabs_nil ?_)
        clear hK K
        refine can_sil rfl rfl (fun K hK => ?_); go_simp; refine hK _ ?_; clear hK K
        have q2 := blk_cell x2
        have f2 := blk_fro x2
        refine can_loud [] rfl rfl rfl (fun K hK => ?_)
        go_wp2_with fail
        refine Mid.normal (hK _ _ stabs_nil ?_)
        clear hK K
        refine can_sil rfl rfl (fun K hK => ?_); go_simp; refine hK _ ?_; clear hK K
        refine can_nil ?_
        go_wp2_with fail
        have y2 := blk_two x2 (.slice a5 n5 c5) (.slice a6 n6 c6)
        have s2 := blk_cell y2
        have s0 := s2 0
        have s1 := s2 1
        simp at s0 s1
        refine bodyPost_ret (v := .tuple #[.agg #[.slice a5 n5 c5, .slice a6 n6 c6], .int .i64 0]) (by simp [results, Tryz.results141, go_sem, s0, s1]) rfl ?_
        rw [HB.out]
        have hk1 := two_own HM6.out.1 HM6.out.2.1 HM6.out.2.2.1 HM6.out.2.2.2 (Nat.le_succ w.heap.size) HLB.out
        exact ⟨a5, n5, c5, a6, n6, c6, rfl, ⟨hk1.1, hk1.2.1⟩, hk1.2.2⟩
end Go.Proofs.YtpjcebajkfeacaaGreatDoor
namespace Go.Proofs.YtpjcebajkfeacaaGreatDoor
open Go Go.RowKit Go.Deep
@[reducible] def lockSh : Sh := .struct (.cons .str (.cons .bool .nil))
def Fp.locks (f : Fp) : List lockSh.T := (setT (f.rs ++ f.ws)).map fun k => (k, hasT f.ws k, ())
theorem Tryz.infoLock : (Tryz.prog.info? 217).map (fun i => (i.zero, i.size, i.bytes)) = some (some (.agg #[.string ⟨#[]⟩, .bool false]), 2, 24) := by kernel_rfl
def OwnK (lo : Nat) (w : World) (v : Value) (l : List lockSh.T) : Prop := Own lockSh 217 w (Fr lo w.heap.size) v l
theorem OwnK.app {lo : Nat} {w : World} {v : Value} {l : List lockSh.T} (h : OwnK lo w v l) (hlo : lo ≤ w.heap.size) (k : ByteArray) (b : Bool) (hk : k.size ≤ maxLen) (hl : l.length + 1 ≤ 1048576) :
    ∃ a c w', (Builtin.append_ #[141, 141] 141 #[v, .slice (some ⟨w.heap.size, 0, none⟩) 1 1]).run Tryz.prog (w.alloc (.cells #[.string k, .bool b] 217)) = .ok (.slice a (l.length + 1) c) w' ∧ OwnK lo w' (.slice a (l.length + 1) c) (l ++ [(k, b, ())]) ∧ Keep (Fr lo w.heap.size) w w' := by
  obtain ⟨i0, hi0, hz0, hz1, hz2⟩ := info_parts Tryz.infoLock
  have h1 : Own lockSh 217 (w.alloc (.cells #[.string k, .bool b] 217)) (Fr lo w.heap.size) v l := Own.agree h ((Keep.refl No w).alloc _).agreeNo
  obtain ⟨a, c, w', hr, ho, hk, hs⟩ := Own.append (P := Tryz.prog) (T := No) h1 141 141 i0 _ 24 Tryz.underlying141 hi0 hz0 hz1 hz2 rfl (blk_new w _) (x := (k, b, ())) ⟨[.string k], _, rfl, ⟨rfl, hk⟩, [.bool b], [], rfl, rfl, rfl⟩ (fun k _ x => x) (by omega) (by omega) 1
  refine ⟨a, c, w', hr, Own.mono ho.live fun k hk' => ?_, ((Keep.refl _ w).alloc _).then hk fun i _ hi => hi⟩
  obtain ⟨h1 | h1 | h1, h2⟩ := hk'
  · exact ⟨h1.1, h2⟩
  · exact h1.elim
  · simp only [World.size_alloc] at h1; exact ⟨by omega, h2⟩
structure LkAt (w : World) (f : Fp) (s : List ByteArray) (sv : Value) (k : Nat) (v : Value) (W0 wr : World) : Prop where
  keep : Keep No w W0
  set : OwnT w W0 sv s
  keep2 : Keep No W0 wr
  own : OwnK W0.heap.size wr v ((s.take k).map fun k => (k, hasT f.ws k, ()))
set_option maxRecDepth 10000 in
set_option maxHeartbeats 2000000 in
theorem rLocks_any (w : World) (S : Nat → Prop) (u v : Value) (f : Fp) (h : FpAt w S u v f) (hl : (f.rs.length + f.ws.length + 1) * 16 ≤ 140737488355328) (hm : (setT (f.rs ++ f.ws)).length ≤ 1000000) :
    Calls Tryz.prog 82 #[.agg #[u, v]] w fun e w' => ∃ a n c, e = .returned (.slice a n c) ∧ n = f.locks.length ∧ OwnK w.heap.size w' (.slice a n c) f.locks ∧ Keep No w w' := by
  obtain ⟨a1, c1, rfl, -⟩ := strs_at h.1
  obtain ⟨a2, c2, rfl, -⟩ := strs_at h.2
  have K1 : Keep No w (w.alloc (.cells #[.slice a1 f.rs.length c1, .slice a2 f.ws.length c2] 48)) := (Keep.refl No w).alloc _
  have h1 := h.keep K1
  have hb := (rBoth_any _ S S _ _ f.rs f.ws h1.1 h1.2 (by omega)).mono (R' := fun e w3 => ∃ a n c, e = .returned (.slice a n c) ∧ w3.heap[w.heap.size]? = some (.cells #[.slice a1 f.rs.length c1, .slice a2 f.ws.length c2] 48 (0, 0)) ∧ RowKit.Hid (Keep No w w3 ∧ Rd (.slice .str) w3 (Fr w.heap.size w3.heap.size) [.slice a n c] (f.rs ++ f.ws))) (by
    rintro e w3 ⟨a, n, c, rfl, ho⟩
    exact ⟨a, n, c, rfl, ho.2.blk (blk_new w _) (fun x => x), K1.trans ho.2, ho.rd.mono _ fun k _ hk => ⟨by have := hk.1; simp at this; omega, hk.2⟩⟩)
  have L3 : ((f.rs ++ f.ws).length + 1) * 16 ≤ 140737488355328 := by rw [List.length_append]; exact hl
  have HL := Lib.hid (And.intro h (And.intro L3 hm))
  clear K1 h1 L3 hm hl h
  generalize hm1 : f.rs.length = m1 at *
  generalize hm2 : f.ws.length = m2 at *
  have hlk : f.locks.length = (setT (f.rs ++ f.ws)).length := by simp [Fp.locks]
  have HLK := Lib.hid (And.intro hlk (And.intro hm1 hm2))
  clear hlk hm1 hm2
  go_enter Tryz.func82, Tryz.ntmps82
  go_wp2_with fail
  refine hb.mono ?_
  clear hb
  rintro e w3 ⟨a3, n3, c3, rfl, x3, H3⟩
  have hset := (rSet_any w3 _ _ _ H3.out.2 HL.out.2.1).mono (R' := fun e w4 => ∃ a n c, e = .returned (.slice a n c) ∧ n = (setT (f.rs ++ f.ws)).length ∧ w4.heap[w.heap.size]? = some (.cells #[.slice a1 m1 c1, .slice a2 m2 c2] 48 (0, 0)) ∧ RowKit.Hid (Keep No w w4 ∧ OwnT w w4 (.slice a n c) (setT (f.rs ++ f.ws)))) (by
    rintro e w4 ⟨a, n, c, rfl, ho⟩
    exact ⟨a, n, c, rfl, ho.len, ho.2.blk x3 (fun x => x), H3.out.1.trans ho.2, ho.back H3.out.1⟩)
  clear x3
  go_wp2_with fail
  refine hset.mono ?_
  clear hset
  rintro e w4 ⟨a4, n4, c4, rfl, hn4, x4, H4⟩
  have HB := Lib.hid x4
  clear x4 H3
  generalize hss : setT (f.rs ++ f.ws) = ss at *
  have HSS := Lib.hid hss
  clear hss
  have hn46 : n4 ≤ 1000000 := by have := HL.out.2.2; omega
  have HN4 := Lib.hid hn4
  clear hn4
  go_wp2_with fail
  go_loopw [4, 5] (fun v i wr => ∃ (k : Nat) (a : Option Addr) (c : Nat), i = .int .i64 k ∧ v = .slice a k c ∧ k ≤ n4 ∧ RowKit.Hid (LkAt w f ss (.slice a4 n4 c4) k (.slice a k c) w4 wr)) (fun _ i _ => n4 - (intOf i).toNat)
  case atStart => exact ⟨0, none, 0, rfl, rfl, Nat.zero_le _, ⟨H4.out.1, H4.out.2, Keep.refl _ _, Own.nil _ _ _ _⟩⟩
  case round =>
    obtain ⟨k, a, c, rfl, rfl, hk, HA⟩ := hrel
    by_cases hlt : k < n4
    · have hks : k < ss.length := by have := HN4.out; omega
      have hkd : Keep No w4 wr.drew := HA.out.keep2.drew
      have hkw : Keep No w wr.drew := HA.out.keep.trans hkd
      obtain ⟨b, off, rfl, r0, hsz⟩ := strs_get (HA.out.set.more hkd).rd k hks
      have q0 := blk_cell (hkd.blk HB.out (fun x => x))
      have hhas := rHas_any wr.drew S (.slice a2 m2 c2) f.ws ((HL.out.1).keep hkw).2 ss[k]
      have j0 : (0 : Int) ≤ k := by omega
      have j1 : (k : Int) < n4 := by omega
      have j3 : (k : Int) ≤ 9223372036854775806 := by omega
      have htk : (ss.take (k + 1)).map (fun k => (k, hasT f.ws k, ())) = (ss.take k).map (fun k => (k, hasT f.ws k, ())) ++ [(ss[k], hasT f.ws ss[k], ())] := by
        rw [List.take_succ_eq_append_getElem hks, List.map_append]; rfl
      have hlen : ((ss.take k).map (fun k => (k, hasT f.ws k, ()))).length = k := by simp; omega
      obtain ⟨a7, c7, w7, hrun, ho7, hk7⟩ := OwnK.app (w := wr.drew) (lo := w4.heap.size) (Own.mono (Own.agree HA.out.own (Keep.refl No wr).drew.agreeNo) fun i hi => ⟨hi.1, by simpa using hi.2⟩) hkd.size ss[k] (hasT f.ws ss[k]) (by rw [maxLen_is]; omega) (by rw [hlen]; omega)
      rw [hlen] at hrun ho7
      obtain ⟨k1, hk1⟩ : ∃ k1, k + 1 = k1 := ⟨_, rfl⟩
      rw [hk1] at hrun ho7
      have HX := Lib.hid (And.intro hlt (And.intro htk (And.intro hk1 (And.intro ho7 (And.intro hk7 hkd)))))
      clear htk hlen hk1 ho7 hk7 hkd hkw hsz hk
      generalize ss[k] = x at *
      generalize hasT f.ws x = hx at *
      clear hlt hks
      go_wp2_with fail
      refine wp_region_can [0, 1, 2, 3, 4, 5, 6, 7, 8, 9, 10, 11, 12, 13, 14, 15] [11, 13, 14, 15] [(0, 11), (1, 11), (2, 11), (3, 11), (4, 11), (0, 13)] (by kernel_rfl) (by kernel_rfl) (by kernel_rfl) (by kernel_rfl) (by intro c a d v w h; cases d <;> exact h) ?_
      generalize wr.drew = wd at *
      iterate 11 (refine can_sil rfl rfl (fun K hK => ?_); go_simp; refine hK _ ?_; clear hK K)
      refine can_loud [0, 1, 2, 3, 4] rfl rfl rfl (fun K hK => ?_)
      go_wp2_with (go_at_call 144; refine hhas.mono ?_; clear hhas; rintro e w6 ⟨rfl, h6⟩; subst h6)
      refine Mid.normal (hK _ _ ?_ ?_)
      · simp only [List.forall_mem_cons]
        refine ⟨?_, ?_, ?_, ?_, ?_, stabs_nil⟩ <;> exact stab_of rfl (fun K hK => by go_simp; exact hK)
      clear hK K
      refine can_sil rfl rfl (fun K hK => ?_); go_simp; refine hK _ ?_; clear hK K
      refine can_loud [0] rfl rfl rfl (fun K hK => ?_)
      go_wp2_with fail
      refine Mid.normal (hK _ _ ?_ ?_)
      · simp only [List.forall_mem_cons]
        refine ⟨?_, stabs_nil⟩ <;> exact stab_of rfl (fun K hK => by go_simp; exact hK)
      clear hK K
      refine can_loud [] rfl rfl rfl (fun K hK => ?_)
      refine wpList_app rfl (.tmp 18) (.tmp 31) 141 141 rfl rfl rfl hrun ?_
      go_wp2_with fail
      refine Mid.normal (hK _ _ stabs_nil ?_)
      clear hK K
      refine can_loud [] rfl rfl rfl (fun K hK => ?_)
      go_wp2_with fail
      refine Mid.normal (hK _ _ stabs_nil ?_)
      clear hK K
      refine can_nil ?_
      clear r0 q0
      go_wp2_with fail
      go_roundw
      case rel =>
        obtain ⟨hlt, htk, rfl, ho7, hk7, hkd⟩ := HX.out
        refine ⟨k + 1, a7, c7, by simp, rfl, hlt, ⟨HA.out.keep, HA.out.set, hkd.then hk7 (fun i hi h => by have := h.1; omega), ?_⟩⟩
        rw [htk]; exact ho7
      case measure => simp [intOf]; have := HX.out.1; omega
    · obtain rfl : k = n4 := by omega
      clear hlt hk
      go_wp2_with fail
      go_ret
      have hn := HN4.out
      have e1 : f.locks = (ss.take k).map fun k => (k, hasT f.ws k, ()) := by
        rw [List.take_of_length_le (by omega), ← HSS.out]; rfl
      refine ⟨a, k, c, rfl, by rw [HLK.out.1, hn], ?_, HA.out.keep.trans HA.out.keep2⟩
      rw [e1]
      exact Own.mono HA.out.own fun i hi => ⟨by have := hi.1; have := HA.out.keep.size; omega, hi.2⟩
end Go.Proofs.YtpjcebajkfeacaaGreatDoor
namespace Go.Proofs.YtpjcebajkfeacaaGreatDoor
open Go Go.RowKit Go.Deep
def KeyUp (t : ByteArray) (args : List Val) (l : List Prt) (k : Nat) (acc : List UInt8) : Prop := ∃ out, CutTo (bytesOf t) k out ∧ KeyTo args l out.length acc
theorem cut_split {t : ByteArray} {l out : List Prt} {k : Nat} (hl : cutU (bytesOf t) = some l) (h : CutTo (bytesOf t) k out) : ∃ m, l = out ++ m := by
  have e := h.1
  rw [hl] at e
  cases hc : cutU ((bytesOf t).drop k) with
  | none => rw [hc] at e; cases e
  | some m => rw [hc] at e; exact ⟨m, Option.some.inj e⟩
theorem KeyUp.text {t : ByteArray} {args : List Val} {l : List Prt} {k : Nat} {acc : List UInt8} (hl : cutU (bytesOf t) = some l) (h : KeyUp t args l k acc) (hk : k < t.size) (hn : t[k].toNat ≠ 123) : KeyUp t args l (k + 1) (acc ++ [t[k]]) ∧ acc.length ≤ k * 64 := by
  obtain ⟨out, h1, h2⟩ := h
  have hk' : k < (bytesOf t).length := by rw [bytesOf_length]; exact hk
  have hg := bytesOf_get t k hk' hk
  have hm : ¬ (bytesOf t)[k] = 123 := by rw [hg]; omega
  have hkc : keyC (bytesOf t)[k] = true := by
    cases hh : keyC (bytesOf t)[k] with
    | true => rfl
    | false => have := h1.none (cutU_bad _ k hk' hm hh); rw [hl] at this; cases this
  have hx := h1.text hk' hm hkc
  rw [hg, show (t[k].toNat : Int).toNat.toUInt8 = t[k] by simp] at hx
  obtain ⟨m, e⟩ := cut_split hl hx
  have hlen : out.length < l.length := by rw [e]; simp
  have hget : l[out.length] = mkPrt ⟨#[t[k]]⟩ (-1) := by simp [e]
  have hs := h2.text hlen (by rw [hget]; show (-1 : Int) < 0; decide) (by rw [hget]; exact Nat.le_refl 1)
  rw [hget] at hs
  have e2 : (mkPrt ⟨#[t[k]]⟩ (-1)).text.data.toList = [t[k]] := rfl
  rw [e2] at hs
  exact ⟨⟨_, hx, by simpa using hs⟩, Nat.le_trans h2.2 (Nat.mul_le_mul_right 64 h1.2)⟩
theorem KeyUp.mark {t : ByteArray} {args : List Val} {l : List Prt} {k : Nat} {acc : List UInt8} (hl : cutU (bytesOf t) = some l) (hb : below args.length l = true) (hg : ∀ v ∈ args, givenV v = true) (hI : ∀ v ∈ args, v.In) (h : KeyUp t args l k acc) (hk : k < t.size) (hn : t[k].toNat = 123) :
    ∃ (h1 : k + 1 < t.size) (j : Nat) (hj : j < args.length), t[k + 1].toNat = 48 + j ∧ j ≤ 9 ∧ k + 2 < t.size ∧ KeyUp t args l (k + 3) (acc ++ argText args[j]) ∧ acc.length ≤ k * 64 := by
  obtain ⟨out, h1, h2⟩ := h
  have hk' : k < (bytesOf t).length := by rw [bytesOf_length]; exact hk
  have hg0 := bytesOf_get t k hk' hk
  have hm : (bytesOf t)[k] = 123 := by rw [hg0]; omega
  have hk2 : k + 2 < (bytesOf t).length := Classical.byContradiction fun hh => by
    have := h1.none (cutU_short _ k hk' hm hh); rw [hl] at this; cases this
  have hd : 48 ≤ (bytesOf t)[k + 1] ∧ (bytesOf t)[k + 1] ≤ 57 ∧ (bytesOf t)[k + 2] = 125 := Classical.byContradiction fun hh => by
    have := h1.none (cutU_nomark _ k hk2 hm hh); rw [hl] at this; cases this
  have hx := h1.mark hk2 hm hd
  have ht2 : k + 2 < t.size := by rw [← bytesOf_length]; exact hk2
  have g1 := bytesOf_get t (k + 1) (by omega) (by omega)
  obtain ⟨m, e⟩ := cut_split hl hx
  have hlen : out.length < l.length := by rw [e]; simp
  have hget : l[out.length] = mkPrt noText ((bytesOf t)[k + 1] - 48) := by simp [e]
  obtain ⟨j, hj⟩ : ∃ j : Nat, (bytesOf t)[k + 1] - 48 = j := ⟨((bytesOf t)[k + 1] - 48).toNat, by omega⟩
  rw [hj] at hget
  have hjl : j < args.length := by
    unfold below at hb
    have := of_decide_eq_true (List.all_eq_true.1 hb _ (List.getElem_mem hlen))
    rw [hget] at this
    have e2 : (mkPrt noText (j : Int)).arg = j := rfl
    omega
  have hgj := hg args[j] (List.getElem_mem hjl)
  have hIj := hI args[j] (List.getElem_mem hjl)
  obtain ⟨-, -, hkk⟩ := given_kinds hgj
  have hlen2 : (argText args[j]).length ≤ 64 := by
    unfold argText
    rcases hkk with h1 | h1
    · rw [if_pos h1]; have := itoa_len args[j].num hIj.n0 hIj.n1; omega
    · rw [if_neg h1.1]
      have : args[j].text.data.toList.length = args[j].text.size := by simp
      omega
  have hs := h2.arg hlen (by rw [hget]; rfl) hjl hgj hlen2
  exact ⟨by omega, j, hjl, by omega, by omega, ht2, ⟨_, hx, by simpa using hs⟩, Nat.le_trans h2.2 (Nat.mul_le_mul_right 64 h1.2)⟩
theorem KeyUp.len {t : ByteArray} {args : List Val} {l : List Prt} {k : Nat} {acc : List UInt8} (h : KeyUp t args l k acc) : acc.length ≤ k * 64 := by
  obtain ⟨out, h1, h2⟩ := h
  exact Nat.le_trans h2.2 (Nat.mul_le_mul_right 64 h1.2)
theorem KeyUp.done {t : ByteArray} {args : List Val} {l : List Prt} {acc b : List UInt8} (hl : cutU (bytesOf t) = some l) (h : KeyUp t args l t.size acc) (hb : keyLs args l = some b) : acc = b := by
  obtain ⟨out, h1, h2⟩ := h
  rw [← bytesOf_length] at h1
  have := h1.done
  rw [hl] at this
  obtain rfl := Option.some.inj this
  have e := h2.1
  rw [List.drop_length, hb] at e
  simp [keyLs] at e
  exact e.symm
theorem str_add (a b : List UInt8) : (⟨a.toArray⟩ : ByteArray) ++ ⟨b.toArray⟩ = ⟨(a ++ b).toArray⟩ := by
  apply ByteArray.ext
  simp
set_option maxRecDepth 10000 in
set_option maxHeartbeats 4000000 in
theorem rKey_ok (t : ByteArray) (l : List Prt) (args : List Val) (hl : cutT t = some l) (hb : below args.length l = true) (hg : ∀ v ∈ args, givenV v = true) (b : List UInt8) (hkb : keyLs args l = some b) (w : World) (S : Nat → Prop) (a : Option Addr) (c : Nat)
    (h : Rd (.slice valueSh) w S [.slice a args.length c] args) (ha : args.length ≤ 8) :
    Calls Tryz.prog 140 #[.string t, .slice a args.length c] w (KeyIs w ⟨b.toArray⟩) := by
  have h0 : ¬ (t.size = 0 ∨ 64 < t.size) := fun hh => by rw [cutT_none hh] at hl; cases hl
  have hlu := hl
  rw [cutT_some (by omega) (by omega)] at hlu
  have htm : tmplOk t args.length = true := by unfold tmplOk; rw [hl]; exact hb
  have htp := (rTemplate_ok t args.length htm w).mono (R' := fun e w2 => e = .returned (.bool true) ∧ RowKit.Hid (Keep No w w2)) (by rintro e w2 ⟨rfl, hk⟩; exact ⟨rfl, hk⟩)
  have hmk : RowKit.Hid (∀ W, Calls Tryz.prog 197 #[.string t] W fun e w2 => ∃ a2 c2, e = .returned (.tuple #[.slice a2 (mks l).length c2, .bool true]) ∧ RowKit.Hid (Rd (.slice (.int .i64)) w2 (Fr W.heap.size w2.heap.size) [.slice a2 (mks l).length c2] (mks l) ∧ Keep No W w2)) := fun W => by
    refine (marks_ok t l hl W).mono ?_
    rintro e w2 ⟨a2, c2, rfl, ho, hk⟩
    exact ⟨a2, c2, rfl, Own.rd ho, hk⟩
  have hmb : ∀ x ∈ mks l, 0 ≤ x ∧ x < args.length := fun x hx => by
    obtain ⟨p, hp, h1, h2⟩ := mks_mem hx
    unfold below at hb
    have := of_decide_eq_true (List.all_eq_true.1 hb p hp)
    omega
  have hml : (mks l).length ≤ 64 := Nat.le_trans (mks_len l) (cutT_arg hl).2
  have HX := Lib.hid (And.intro h (And.intro hlu (And.intro hb (And.intro hg (And.intro hkb (And.intro hmb (And.intro hml h0)))))))
  have hI : ∀ v ∈ args, v.In := fun v hv => by
    obtain ⟨k, hk, rfl⟩ := List.getElem_of_mem hv
    obtain ⟨-, -, -, -, -, -, -, -, hI, -⟩ := vals_get h k hk
    exact hI
  have HI := Lib.hid hI
  have i64 : (t.size : Int) ≤ 64 := by omega
  have a8 : (args.length : Int) ≤ 8 := by omega
  clear h hlu hl htm hb hg hkb hmb h0 hI
  generalize mks l = ms at *
  have m64 : (ms.length : Int) ≤ 64 := by omega
  clear hml
  go_enter Tryz.func140, Tryz.ntmps140
  go_wp2_with (first | (go_at_call 182; refine htp.mono ?_; clear htp; rintro e w2 ⟨rfl, HK2⟩) | (go_at_call 197; refine (hmk.out _).mono ?_; clear hmk; rintro e w3 ⟨a2, c2, rfl, H3⟩))
  have K3 := Lib.hid (HK2.out.trans H3.out.2)
  clear HK2
  go_loopg [8] ms.length (fun g i wr => ∃ k : Nat, k ≤ ms.length ∧ g = ms.length - k ∧ i = .int .i64 k ∧ RowKit.Hid (Keep No w3 wr))
  case atStart => exact ⟨0, by omega, by omega, rfl, Keep.refl No _⟩
  case round =>
    obtain ⟨k, hk, rfl, rfl, HR⟩ := hrel
    by_cases hlt : k < ms.length
    · have j1 : (k : Int) < ms.length := by omega
      have j0 : (0 : Int) ≤ k := by omega
      obtain ⟨bm, fm, rfl, m0⟩ := ints_cell (H3.out.1.agree _ HR.out.agreeNo) k hlt
      have hx := HX.out.2.2.2.2.2.1 ms[k] (List.getElem_mem hlt)
      obtain ⟨j, hj⟩ : ∃ j : Nat, ms[k] = j := ⟨ms[k].toNat, by omega⟩
      rw [hj] at m0 hx
      have hjl : j < args.length := by omega
      have n0 : (0 : Int) ≤ j := by omega
      have n1 : (j : Int) < args.length := by omega
      obtain ⟨bv, fv, rfl, hbv, -, s0, s1, s2, hI, hs⟩ := vals_get ((HX.out.1.agree _ K3.out.agreeNo).agree _ HR.out.agreeNo) j hjl
      have hgj := HX.out.2.2.2.1 args[j] (List.getElem_mem hjl)
      obtain ⟨hok, hk0, -⟩ := given_kinds hgj
      have hbm := World.block_lt_of_cell? _ _ m0
      have hv := (rValid_any args[j].kind args[j].num args[j].text hs wr).mono (R' := fun e w5 => e = .returned (.bool true) ∧ w5.cell? ⟨bv, fv + j * 3, none⟩ = some (.int .i64 args[j].kind) ∧ w5.cell? ⟨bm, fm + k, none⟩ = some (.int .i64 j) ∧ RowKit.Hid (Keep No w3 w5)) (by
        rintro e w5 ⟨rfl, hk5⟩
        exact ⟨by rw [show (mkVal args[j].kind args[j].num args[j].text).ok = true from hok], (hk5.cell hbv (o := fv + j * 3) (fun x => x)).trans s0, (hk5.cell hbm (o := fm + k) (fun x => x)).trans m0, HR.out.trans hk5⟩)
      have hk0' : (args[j].kind == 0) = false := by simpa using hk0
      have HS := Lib.hid hlt
      generalize args[j].kind = y1 at *
      generalize args[j].num = y2 at *
      generalize args[j].text = y3 at *
      clear hlt hk hx hj hjl hgj hok hk0 hI hs hbv hbm
      go_wp2_with (go_at_call 110; refine hv.mono ?_; clear hv s0 m0; rintro e w5 ⟨rfl, t0, m1, HK5⟩)
      go_roundg (ms.length - (k + 1))
      case measure => have := HS.out; omega
      case rel => exact ⟨k + 1, by have := HS.out; omega, rfl, by simp, HK5⟩
    · have j1 : ¬ (k : Int) < ms.length := by omega
      have K4 := Lib.hid (K3.out.trans HR.out)
      clear hlt hk H3 K3 HR
      generalize wr = w4 at *
      go_wp2_with fail
      go_loopg [9, 10] t.size (fun g s i wr => ∃ (k : Nat) (acc : List UInt8), k ≤ t.size ∧ g = t.size - k ∧ s = .string ⟨acc.toArray⟩ ∧ i = .int .i64 k ∧ RowKit.Hid (KeyUp t args l k acc ∧ Keep No w4 wr))
      case atStart => exact ⟨0, [], by omega, by omega, rfl, rfl, ⟨[], CutTo.start _, by simp, Nat.zero_le _⟩, Keep.refl No _⟩
      case round =>
        obtain ⟨k, acc, hk, rfl, rfl, rfl, HR⟩ := hrel
        by_cases hlt : k < t.size
        · have j1 : (k : Int) < t.size := by omega
          have j0 : (0 : Int) ≤ k := by omega
          by_cases hm : t[k].toNat = 123
          · obtain ⟨hk1, j, hj, e1, j9, hk2, hn, hal⟩ := HR.out.1.mark HX.out.2.1 HX.out.2.2.1 HX.out.2.2.2.1 HI.out hlt hm
            have hm' : ((t[k].toNat : Int) != 123) = false := by simp; omega
            have e2 : IntKind.u8.wrap ((t[k + 1].toNat : Int) - 48) = j := by
              rw [e1]
              unfold IntKind.wrap
              simp only [IntKind.signed, IntKind.bits, Bool.false_and, Bool.false_eq_true, if_false]
              omega
            have j5 : (k : Int) + 1 < t.size := by omega
            have n0 : (0 : Int) ≤ j := by omega
            have n1 : (j : Int) < args.length := by omega
            obtain ⟨bv, fv, rfl, hbv, -, s0, s1, s2, hI, hs⟩ := vals_get ((HX.out.1.agree _ K4.out.agreeNo).agree _ HR.out.2.agreeNo) j hj
            have hgj := HX.out.2.2.2.1 args[j] (List.getElem_mem hj)
            obtain ⟨-, -, hkk⟩ := given_kinds hgj
            go_upto_region 16 with fail
            have c6 := blk_cell (blk_new wr (.cells #[.int .i64 args[j].kind, .int .i64 args[j].num, .string args[j].text] 96))
            have K6 := Lib.hid (HR.out.2.alloc (.cells #[.int .i64 args[j].kind, .int .i64 args[j].num, .string args[j].text] 96))
            generalize (wr.alloc (.cells #[.int .i64 args[j].kind, .int .i64 args[j].num, .string args[j].text] 96)) = w6 at *
            have hd := rDigits_any args[j].num hI.n0 hI.n1 w6
            have hdl := itoa_len args[j].num hI.n0 hI.n1
            have HS := Lib.hid (And.intro hk2 hn)
            unfold argText at HS
            clear hm hm' e1 e2 j5 hn hk1 hk2 s0 s1 s2 hbv hI hs hgj
            rcases hkk with h1 | h1
            · rw [if_pos h1] at HS
              generalize args[j].kind = y1 at *
              generalize args[j].num = y2 at *
              generalize args[j].text = y3 at *
              subst h1
              have hc : ¬ 9223372036854775807 < acc.length + (Lib.itoa y2).length := by omega
              clear hlt hk hj
              go_wp2_with (go_at_call 158; refine hd.mono ?_; clear hd; rintro e w7 ⟨rfl, rfl⟩)
              go_roundg (t.size - (k + 3))
              case measure => have := HS.out.1; omega
              case rel => exact ⟨k + 3, _, by have := HS.out.1; omega, rfl, congrArg Value.string (str_add acc _), by simp, HS.out.2, K6.out⟩
            · rw [if_neg h1.1] at HS
              have h1' : (args[j].kind == 1) = false := by simpa using h1.1
              have hx := h1.2
              have hc : ¬ 9223372036854775807 < acc.length + args[j].text.size := by omega
              have e9 : (⟨args[j].text.data.toList.toArray⟩ : ByteArray) = args[j].text := by simp
              generalize args[j].kind = y1 at *
              generalize args[j].num = y2 at *
              generalize args[j].text = y3 at *
              have hadd := str_add acc y3.data.toList
              rw [e9] at hadd
              have HA := Lib.hid hadd
              clear hlt hk hj h1 hd hdl hadd e9
              go_wp2_with fail
              go_roundg (t.size - (k + 3))
              case measure => have := HS.out.1; omega
              case rel => exact ⟨k + 3, _, by have := HS.out.1; omega, rfl, congrArg Value.string HA.out, by simp, HS.out.2, K6.out⟩
          · obtain ⟨hn, hal⟩ := HR.out.1.text HX.out.2.1 hlt hm
            have hm' : ((t[k].toNat : Int) != 123) = true := by simp; omega
            have hsub := sub_one t k hlt
            have hsz : (⟨#[t[k]]⟩ : ByteArray).size = 1 := rfl
            have hc : ¬ 9223372036854775807 < acc.length + 1 := by omega
            have HN := Lib.hid (And.intro hn hlt)
            clear hn hal hm hk
            go_wp2_with fail
            go_roundg (t.size - (k + 1))
            case measure => have := HN.out.2; omega
            case rel => exact ⟨k + 1, _, by have := HN.out.2; omega, rfl, congrArg Value.string (str_add acc [t[k]]), by simp, HN.out.1, HR.out.2⟩
        · obtain rfl : k = t.size := by omega
          have j1 : ¬ (t.size : Int) < t.size := by omega
          have hd := HR.out.1.done HX.out.2.1 HX.out.2.2.2.2.1
          subst hd
          have hko := rKeyOk_any ⟨acc.toArray⟩ (by have h1 := HR.out.1.len; have h2 : (⟨acc.toArray⟩ : ByteArray).size = acc.length := rfl; omega) wr
          obtain ⟨ok, hok⟩ : ∃ ok, ok = keyOk ⟨acc.toArray⟩ := ⟨_, rfl⟩
          rw [← hok] at hko
          have HO := Lib.hid hok
          have K5 := Lib.hid (K4.out.trans HR.out.2)
          clear hok hlt hk
          cases ok with
          | true =>
            go_wp2_with (go_at_call 198; refine hko.mono ?_; clear hko; rintro e w6 ⟨rfl, rfl⟩)
            go_ret2
            exact ⟨by rw [← HO.out]; rfl, K5.out⟩
          | false =>
            go_wp2_with (go_at_call 198; refine hko.mono ?_; clear hko; rintro e w6 ⟨rfl, rfl⟩)
            go_ret2
            exact ⟨by rw [← HO.out]; rfl, K5.out⟩
theorem rKey_any (t : ByteArray) (args : List Val) (ht : tmplOk t args.length = true) (hg : ∀ v ∈ args, givenV v = true) (w : World) (S : Nat → Prop) (a : Option Addr) (c : Nat)
    (h : Rd (.slice valueSh) w S [.slice a args.length c] args) (ha : args.length ≤ 8) :
    Calls Tryz.prog 140 #[.string t, .slice a args.length c] w fun e w' => e = .returned (.tuple #[.string (keyT t args).1, .int .i64 (keyT t args).2]) ∧ RowKit.Hid (Keep No w w') := by
  unfold tmplOk at ht
  cases hl : cutT t with
  | none => rw [hl] at ht; cases ht
  | some l =>
    rw [hl] at ht
    simp only at ht
    obtain ⟨b, hb⟩ := keyLs_some args hg l ht
    have hk : keyT t args = if keyOk ⟨b.toArray⟩ then (⟨b.toArray⟩, 0) else (noText, 30) := by
      unfold keyT
      rw [hl]
      simp only
      rw [if_neg (by rw [ht]; exact Bool.false_ne_true.symm), hb]
    refine (rKey_ok t l args hl ht hg b hb w S a c h ha).mono ?_
    rintro e w' ⟨rfl, hk'⟩
    rw [hk]
    refine ⟨?_, hk'⟩
    split <;> rfl
theorem keyT_form (t : ByteArray) (args : List Val) (ht : tmplOk t args.length = true) (hg : ∀ v ∈ args, givenV v = true) : ((keyT t args).2 = 0 ∨ (keyT t args).2 = 30) ∧ (keyT t args).1.size ≤ 32 := by
  unfold tmplOk at ht
  cases hl : cutT t with
  | none => rw [hl] at ht; cases ht
  | some l =>
    rw [hl] at ht
    simp only at ht
    obtain ⟨b, hb⟩ := keyLs_some args hg l ht
    have hk : keyT t args = if keyOk ⟨b.toArray⟩ then (⟨b.toArray⟩, 0) else (noText, 30) := by
      unfold keyT
      rw [hl]
      simp only
      rw [if_neg (by rw [ht]; exact Bool.false_ne_true.symm), hb]
    rw [hk]
    split
    · rename_i h
      unfold keyOk at h
      rw [Bool.and_eq_true, Bool.and_eq_true, decide_eq_true_eq, decide_eq_true_eq] at h
      exact ⟨.inl rfl, h.2⟩
    · exact ⟨.inr rfl, Nat.zero_le _⟩
end Go.Proofs.YtpjcebajkfeacaaGreatDoor
