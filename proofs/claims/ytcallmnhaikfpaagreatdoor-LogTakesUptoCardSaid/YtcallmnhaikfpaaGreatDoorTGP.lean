/-
  Parts of what is proved for this claim; each declaration is one of the seat's texts.
-/
import Derived.Test.YtcallmnhaikfpaaGreatDoorTGA
import Derived.Test.YtcallmnhaikfpaaGreatDoorTGB
import Derived.Test.YtcallmnhaikfpaaGreatDoorTGC
import Derived.Test.YtcallmnhaikfpaaGreatDoorTGD
import Derived.Test.YtcallmnhaikfpaaGreatDoorTGK
import Derived.Test.YtcallmnhaikfpaaGreatDoorTGM
import Derived.Test.YtcallmnhaikfpaaGreatDoorTGN
import Derived.Test.YtcallmnhaikfpaaGreatDoorTGO
import Derived.Test.YtcallmnhaikfpaaGreatDoorTGR
import Derived.Still
import Derived.StillTactics
import Derived.WalkKit
import Derived.WalkSpells
import Derived.WalkLawsBesides
import Derived.ProofKit
import Derived.Deep.Slices
import Derived.Deep.AppendSrc
import Derived.Lib.Hide
import Derived.Recover
import Derived.Defers
import Derived.Deep.QuietTactic
import Derived.BigQuiet
import Derived.Handy
import Derived.Laws.Bits64b
import Derived.Lib.Zigzag
import Derived.OwnWalk
import Derived.Deep.DeepCutAuto
import Derived.Lib.Bytealg
import Derived.Laws.Externs
import Derived.Laws.CopyRow
import Derived.Laws.IdiomCopy
import Derived.Maps.OwnSet
import Derived.Maps.RangeWalk
import Derived.Shelf.SortM.Plain
import Derived.Shelf.SortM.SortNone
import Derived.Ground.SlgmProg
import Derived.Maps.OwnOps
set_option linter.unusedVariables false
set_option linter.unusedSimpArgs false
namespace Go.Proofs.YtcallmnhaikfpaaGreatDoor
open Go Go.RowKit Go.Deep
theorem le16 {a b n : Nat} (h : b * 16 ≤ n) (k : a ≤ b) : a * 16 ≤ n := Nat.le_trans (Nat.mul_le_mul_right 16 k) h
def NormMid (w : World) (S : Nat → Prop) (u v : Value) (f : Fp) (l : List ByteArray) (w3 : World) (a : Option Addr) (c : Nat) : Prop :=
  w3.heap[w.heap.size]? = some (.cells #[u, v] 41 (0, 0)) ∧ w3.heap[w.heap.size + 1]? = some (.cells #[.slice none 0 0, .slice none 0 0] 41 (0, 0)) ∧ Keep No w w3 ∧ Rd (.slice .str) w3 (Lt w3.heap.size) [.slice a l.length c] l ∧ FpAt w3 S u v f
theorem NormMid.keep {w : World} {S : Nat → Prop} {u v : Value} {f : Fp} {l : List ByteArray} {w3 w4 : World} {a : Option Addr} {c : Nat} (h : NormMid w S u v f l w3 a c) (k : Keep No w3 w4) : NormMid w S u v f l w4 a c := by
  obtain ⟨h1, h2, h3, h4, h5⟩ := h
  exact ⟨k.blk h1 (fun x => x), k.blk h2 (fun x => x), h3.trans k, (h4.agree _ k.agreeNo).mono _ (fun i _ hi => Nat.lt_of_lt_of_le hi k.size), h5.keep k⟩
set_option maxRecDepth 10000 in
set_option maxHeartbeats 4000000 in
theorem rNorm_any (w : World) (S : Nat → Prop) (u v : Value) (f : Fp) (h : FpAt w S u v f) (hl : (f.rs.length + f.ws.length + 1) * 16 ≤ 140737488355328) :
    Calls Tryz.prog 26 #[.agg #[u, v]] w (GivesFC w f.norm) := by
  have K2 : Keep No w ((w.alloc (.cells #[u, v] 41)).alloc (.cells #[.slice none 0 0, .slice none 0 0] 41)) := ((Keep.refl No w).alloc _).alloc _
  have x1 : ((w.alloc (.cells #[u, v] 41)).alloc (.cells #[.slice none 0 0, .slice none 0 0] 41)).heap[w.heap.size]? = some (.cells #[u, v] 41 (0, 0)) := blk_alloc (blk_new w _)
  have x2 : ((w.alloc (.cells #[u, v] 41)).alloc (.cells #[.slice none 0 0, .slice none 0 0] 41)).heap[w.heap.size + 1]? = some (.cells #[.slice none 0 0, .slice none 0 0] 41 (0, 0)) := by
    have := blk_new (w.alloc (.cells #[u, v] 41)) (.cells #[.slice none 0 0, .slice none 0 0] 41)
    simpa using this
  have hb := (rBoth_any _ S S u v f.rs f.ws (h.keep K2).1 (h.keep K2).2 (le16 hl (by omega))).mono (R' := fun e w3 => ∃ a c, e = .returned (.slice a (f.rs ++ f.ws).length c) ∧ RowKit.Hid (NormMid w S u v f (f.rs ++ f.ws) w3 a c)) (by
    rintro e w3 ⟨a, n, c, rfl, ho⟩
    have hn := ho.len
    subst hn
    exact ⟨a, c, rfl, ho.2.blk x1 (fun x => x), ho.2.blk x2 (fun x => x), K2.trans ho.2, ho.rd.mono _ (fun k hk _ => hk), (h.keep K2).keep ho.2⟩)
  have HN := Lib.hid (norm_cases f)
  have L1 : (f.rs.length + 1) * 16 ≤ 140737488355328 := le16 hl (by omega)
  have L2 : (f.ws.length + 1) * 16 ≤ 140737488355328 := le16 hl (by omega)
  have L3 : ((f.rs ++ f.ws).length + 1) * 16 ≤ 140737488355328 := by rw [List.length_append]; exact hl
  obtain ⟨a1, c1, rfl, -⟩ := strs_at h.1
  obtain ⟨a2, c2, rfl, -⟩ := strs_at h.2
  have hsr := fun (w4 : World) (hk : FpAt w4 S (.slice a1 f.rs.length c1) (.slice a2 f.ws.length c2) f) => rSet_any w4 S _ f.rs hk.1 L1
  have hsw := fun (w4 : World) (hk : FpAt w4 S (.slice a1 f.rs.length c1) (.slice a2 f.ws.length c2) f) => rSet_any w4 S _ f.ws hk.2 L2
  have HL := Lib.hid (And.intro L3 (And.intro hsr hsw))
  clear h K2 x1 x2 hl L1 L2 L3 hsr hsw
  generalize f.rs.length = m1 at *
  generalize f.ws.length = m2 at *
  generalize f.rs ++ f.ws = l at *
  go_enter Tryz.func26, Tryz.ntmps26
  go_wp2_with fail
  refine hb.mono ?_
  clear hb
  rintro e w3 ⟨a, c, rfl, HM⟩
  have hll : l.length ≤ 8796093022208 := by have := HL.out.1; omega
  go_wp2_with fail
  go_loopw [5] (fun i wr => ∃ k : Nat, k ≤ l.length ∧ i = .int .i64 k ∧ wr = w3 ∧ (l.take k).all keyOk = true) (fun i _ => l.length - (intOf i).toNat)
  case atStart => exact ⟨0, by omega, rfl, rfl, by simp⟩
  case round =>
    obtain ⟨k, hk, rfl, hw, ha⟩ := hrel
    subst hw
    by_cases hlt : k < l.length
    · have j1 : (k : Int) < l.length := by omega
      have j0 : (0 : Int) ≤ k := by omega
      have j3 : (k : Int) ≤ 9223372036854775806 := by omega
      obtain ⟨b, off, rfl, hc, hxs⟩ := strs_get HM.out.2.2.2.1 k hlt
      have hsucc := allT_take l keyOk k hlt ha
      have hbad := allT_false l keyOk k hlt
      generalize l[k] = x at hc hxs hsucc hbad
      cases hx : keyOk x with
      | true =>
        rw [hx] at hsucc
        have HA := Lib.hid (And.intro hsucc hlt)
        clear hsucc hbad ha hlt hk
        go_wp2_with (go_at_call 55; refine (rKeyOk_any x hxs _).mono ?_; rintro e w' ⟨rfl, rfl⟩; rw [hx])
        go_roundw
        case rel => exact ⟨k + 1, by have := HA.out.2; omega, by simp, by first | rfl | trivial, HA.out.1⟩
        case measure => simp [intOf]; have := HA.out.2; omega
      | false =>
        have HB := Lib.hid (HN.out.1 (hbad hx))
        clear hsucc hbad ha hlt hk
        have x2 := HM.out.2.1
        have q2 := blk_cell x2
        have f2 := blk_fro x2
        go_wp2_with (go_at_call 55; refine (rKeyOk_any x hxs _).mono ?_; rintro e w' ⟨rfl, rfl⟩; rw [hx])
        have y2 := blk_two x2 (.slice none 0 0) (.slice none 0 0)
        have s2 := blk_cell y2
        have s0 := s2 0
        have s1 := s2 1
        simp at s0 s1
        have hk1 := two_nil HM.out.2.2.1 (Nat.le_succ w.heap.size)
        refine bodyPost_ret (v := .tuple #[.agg #[.slice none 0 0, .slice none 0 0], .int .i64 30]) (by simp [results, Tryz.results26, go_sem, s0, s1]) rfl ?_
        rw [HB.out]
        exact ⟨_, _, _, _, _, _, rfl, hk1⟩
    · have hle : l.length ≤ k := by omega
      rw [List.take_of_length_le hle] at ha
      have j1 : ¬ (k : Int) < l.length := by omega
      have hs := (rSet_any wr _ _ l HM.out.2.2.2.1 HL.out.1).mono (R' := fun e w4 => ∃ a4 c4, e = .returned (.slice a4 (setT l).length c4) ∧ RowKit.Hid (NormMid w S (.slice a1 m1 c1) (.slice a2 m2 c2) f l w4 a c)) (by
        rintro e w4 ⟨a4, n4, c4, rfl, ho⟩
        have hn := ho.len
        subst hn
        exact ⟨a4, c4, rfl, HM.out.keep ho.2⟩)
      have HA := Lib.hid ha
      clear ha hk hle
      have hle2 : (setT l).length ≤ 8796093022208 := Nat.le_trans (setT_le l) hll
      by_cases hmany : 64 < (setT l).length
      · have HB := Lib.hid (HN.out.2.1 HA.out hmany)
        have j4 : (64 : Int) < (setT l).length := Int.ofNat_lt.2 hmany
        clear hmany
        go_wp2_with fail
        refine hs.mono ?_
        clear hs
        rintro e w4 ⟨a4, c4, rfl, HM4⟩
        have x2 := HM4.out.2.1
        have q2 := blk_cell x2
        have f2 := blk_fro x2
        go_wp2_with fail
        have y2 := blk_two x2 (.slice none 0 0) (.slice none 0 0)
        have s2 := blk_cell y2
        have s0 := s2 0
        have s1 := s2 1
        simp at s0 s1
        have hk1 := two_nil HM4.out.2.2.1 (Nat.le_succ w.heap.size)
        refine bodyPost_ret (v := .tuple #[.agg #[.slice none 0 0, .slice none 0 0], .int .i64 6]) (by simp [results, Tryz.results26, go_sem, s0, s1]) rfl ?_
        rw [HB.out]
        exact ⟨_, _, _, _, _, _, rfl, hk1⟩
      · have HB := Lib.hid (HN.out.2.2 HA.out hmany)
        have j4 : ¬ (64 : Int) < (setT l).length := fun hh => hmany (Int.ofNat_lt.1 hh)
        clear hmany
        go_wp2_with fail
        refine hs.mono ?_
        clear hs
        rintro e w4 ⟨a4, c4, rfl, HM4⟩
        have x1 := HM4.out.1
        have q1 := blk_cell x1
        go_wp2_with fail
        refine wp_region_can [0, 1, 3, 4, 2, 5, 6, 7, 8] [2, 5, 7] [(3, 2), (4, 2)] (by kernel_rfl) (by kernel_rfl) (by kernel_rfl) (by kernel_rfl) (by intro c a d v w h; cases d <;> exact h) ?_
        iterate 4 (refine can_sil rfl rfl (fun K hK => ?_); go_simp; refine hK _ ?_; clear hK K)
        have hs1 := (HL.out.2.1 w4.drew (HM4.out.keep (Keep.refl No w4).drew).2.2.2.2).mono (R' := fun e w5 => ∃ a5 n5 c5, e = .returned (.slice a5 n5 c5) ∧ w5.heap[w.heap.size]? = some (.cells #[.slice a1 m1 c1, .slice a2 m2 c2] 41 (0, 0)) ∧ RowKit.Hid (NormMid w S (.slice a1 m1 c1) (.slice a2 m2 c2) f l w5 a c ∧ OwnT w4.drew w5 (.slice a5 n5 c5) (setT f.rs))) (by
          rintro e w5 ⟨a5, n5, c5, rfl, ho⟩
          have h5 := (HM4.out.keep (Keep.refl No w4).drew).keep ho.2
          exact ⟨a5, n5, c5, rfl, h5.1, h5, ho⟩)
        have lb : w.heap.size + 1 < w4.drew.heap.size := blk_lt HM4.out.2.1
        have HLB := Lib.hid lb
        clear lb
        clear q1 x1
        refine can_loud [3, 4] rfl rfl rfl (fun K hK => ?_)
        go_wp2_with (go_at_call 28; refine hs1.mono ?_; clear hs1; rintro e w5 ⟨a5, n5, c5, rfl, x1, HM5⟩)
        have q1 := blk_cell x1
        refine Mid.normal (hK _ _ ?_ ?_)
        · simp only [List.forall_mem_cons]
          refine ⟨?_, ?_, stabs_nil⟩ <;> exact stab_of rfl (fun K hK => by go_simp; exact hK)
        clear hK K q1 x1
        have hs2 := (HL.out.2.2 w5 HM5.out.1.2.2.2.2).mono (R' := fun e w6 => ∃ a6 n6 c6, e = .returned (.slice a6 n6 c6) ∧ w6.heap[w.heap.size + 1]? = some (.cells #[.slice none 0 0, .slice none 0 0] 41 (0, 0)) ∧ RowKit.Hid (Keep No w w6 ∧ OwnT w4.drew w6 (.slice a5 n5 c5) (setT f.rs) ∧ OwnT w5 w6 (.slice a6 n6 c6) (setT f.ws) ∧ w4.drew.heap.size ≤ w5.heap.size)) (by
          rintro e w6 ⟨a6, n6, c6, rfl, ho⟩
          exact ⟨a6, n6, c6, rfl, ho.2.blk HM5.out.1.2.1 (fun x => x), HM5.out.1.2.2.1.trans ho.2, HM5.out.2.more ho.2, ho, HM5.out.2.2.size⟩)
        refine can_loud [] rfl rfl rfl (fun K hK => ?_)
        go_wp2_with (go_at_call 28; refine hs2.mono ?_; clear hs2; rintro e w6 ⟨a6, n6, c6, rfl, x2, HM6⟩)
        refine Mid.normal (hK _ _ stabs_nil ?_)
        clear hK K
        refine can_sil rfl rfl (fun K hK => ?_); go_simp; refine hK _ ?_; clear hK K
        have q2 := blk_cell x2
        have f2 := blk_fro x2
        refine can_loud [] rfl rfl rfl (fun K hK => ?_)
        go_wp2_with fail
        refine Mid.normal (hK _ _ stabs_nil ?_)
        clear hK K
        refine can_sil rfl rfl (fun K hK => ?_); go_simp; refine hK _ ?_; clear hK K
        refine can_nil ?_
        go_wp2_with fail
        have y2 := blk_two x2 (.slice a5 n5 c5) (.slice a6 n6 c6)
        have s2 := blk_cell y2
        have s0 := s2 0
        have s1 := s2 1
        simp at s0 s1
        refine bodyPost_ret (v := .tuple #[.agg #[.slice a5 n5 c5, .slice a6 n6 c6], .int .i64 0]) (by simp [results, Tryz.results26, go_sem, s0, s1]) rfl ?_
        rw [HB.out]
        have hk1 := two_own HM6.out.1 HM6.out.2.1 HM6.out.2.2.1 HM6.out.2.2.2 (Nat.le_succ w.heap.size) HLB.out
        exact ⟨a5, n5, c5, a6, n6, c6, rfl, ⟨hk1.1, hk1.2.1⟩, hk1.2.2⟩
end Go.Proofs.YtcallmnhaikfpaaGreatDoor
namespace Go.Proofs.YtcallmnhaikfpaaGreatDoor
open Go Go.RowKit Go.Deep
set_option maxRecDepth 10000 in
set_option maxHeartbeats 2000000 in
theorem rIs_any (w : World) (S : Nat → Prop) (u v : Value) (f : Fp) (h : FpAt w S u v f) (hl : (f.rs.length + f.ws.length + 1) * 16 ≤ 140737488355200) :
    Calls Tryz.prog 9 #[.agg #[u, v]] w (Says w f.normal) := by
  have K1 : Keep No w (w.alloc (.cells #[u, v] 41)) := (Keep.refl No w).alloc _
  have hb := (rNorm_any _ S u v f (h.keep K1) (Nat.le_trans hl (by decide))).mono (R' := fun e w3 => ∃ a n c a' n' c', e = .returned (.tuple #[.agg #[.slice a n c, .slice a' n' c'], .int .i64 f.norm.2]) ∧ w3.heap[w.heap.size]? = some (.cells #[u, v] 41 (0, 0)) ∧
      RowKit.Hid (Keep No w w3 ∧ FpAt w3 S u v f ∧ FpAt w3 (Lt w3.heap.size) (.slice a n c) (.slice a' n' c') f.norm.1)) (by
    rintro e w3 ⟨a, n, c, a', n', c', rfl, ho, hk⟩
    exact ⟨a, n, c, a', n', c', rfl, hk.blk (blk_new w _) (fun x => x), K1.trans hk, (h.keep K1).keep hk, ho.at'.mono (fun i hi _ => hi)⟩)
  rw [normal_is]
  obtain ⟨a1, c1, rfl, -⟩ := strs_at h.1
  obtain ⟨a2, c2, rfl, -⟩ := strs_at h.2
  clear h K1 hl
  generalize f.rs.length = m1 at *
  generalize f.ws.length = m2 at *
  generalize f.norm = g at *
  obtain ⟨g, en⟩ := g
  simp only at *
  by_cases he : en = 0
  · subst he
    simp only [decide_true, Bool.true_and]
    go_enter Tryz.func9, Tryz.ntmps9
    go_wp2_with fail
    refine hb.mono ?_
    clear hb
    rintro e w3 ⟨a, n, c, a', n', c', rfl, x1, HK⟩
    have q1 := blk_cell x1
    have q1n := blk_cell (blk_alloc (o' := .cells #[.slice a n c, .slice a' n' c'] 41) x1)
    have hs := fun (W : World) (hk : Keep No w3 W) => (rSame_any W S _ (.slice a1 m1 c1) (.slice a2 m2 c2) (.slice a n c) (.slice a' n' c') f g (HK.out.2.1.keep hk) (HK.out.2.2.keep hk)).mono (R' := fun e w4 => e = .returned (.bool (decide (f.rs = g.rs) && decide (f.ws = g.ws))) ∧ RowKit.Hid (Keep No w w4)) (by
      rintro e w4 ⟨rfl, hk4⟩
      exact ⟨rfl, (HK.out.1.trans hk).trans hk4⟩)
    generalize (decide (f.rs = g.rs) && decide (f.ws = g.ws)) = p at *
    go_wp2_with fail
    refine (hs _ ((Keep.refl No w3).alloc _)).mono ?_
    clear hs
    rintro e w4 ⟨rfl, HK4⟩
    go_wp2_with fail
    go_ret
    exact ⟨rfl, HK4⟩
  · have d1 : (en == 0) = false := by simpa using he
    have hd : decide (en = 0) = false := by simpa using he
    rw [hd, Bool.false_and]
    clear hd he
    go_enter Tryz.func9, Tryz.ntmps9
    go_wp2_with fail
    refine hb.mono ?_
    clear hb
    rintro e w3 ⟨a, n, c, a', n', c', rfl, x1, HK⟩
    have q1 := blk_cell x1
    have q1n := blk_cell (blk_alloc (o' := .cells #[.slice a n c, .slice a' n' c'] 41) x1)
    have HF := Lib.hid (HK.out.1.trans ((Keep.refl No w3).alloc (.cells #[.slice a n c, .slice a' n' c'] 41)))
    go_wp2_with fail
    go_ret
    exact ⟨rfl, HF⟩
end Go.Proofs.YtcallmnhaikfpaaGreatDoor
