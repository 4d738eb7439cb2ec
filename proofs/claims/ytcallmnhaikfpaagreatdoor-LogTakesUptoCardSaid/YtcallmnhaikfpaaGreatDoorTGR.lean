/-
  Parts of what is proved for this claim; each declaration is one of the seat's texts.
-/
import Derived.Test.YtcallmnhaikfpaaGreatDoorTGA
import Derived.Test.YtcallmnhaikfpaaGreatDoorTGC
import Derived.Test.YtcallmnhaikfpaaGreatDoorTGI
import Derived.Test.YtcallmnhaikfpaaGreatDoorTGK
import Derived.Test.YtcallmnhaikfpaaGreatDoorTGM
import Derived.Test.YtcallmnhaikfpaaGreatDoorTGN
import Derived.Test.YtcallmnhaikfpaaGreatDoorTGQ
import Derived.Still
import Derived.StillTactics
import Derived.WalkKit
import Derived.WalkSpells
import Derived.WalkLawsBesides
import Derived.ProofKit
import Derived.Deep.Slices
import Derived.Deep.AppendSrc
import Derived.Lib.Hide
import Derived.Recover
import Derived.Defers
import Derived.Deep.QuietTactic
import Derived.BigQuiet
import Derived.Handy
import Derived.Laws.Bits64b
import Derived.Lib.Zigzag
import Derived.OwnWalk
import Derived.Deep.DeepCutAuto
import Derived.Lib.Bytealg
import Derived.Laws.Externs
import Derived.Laws.CopyRow
import Derived.Laws.IdiomCopy
import Derived.Maps.OwnSet
import Derived.Maps.RangeWalk
import Derived.Shelf.SortM.Plain
import Derived.Shelf.SortM.SortNone
import Derived.Ground.SlgmProg
import Derived.Maps.OwnOps
set_option linter.unusedVariables false
set_option linter.unusedSimpArgs false
namespace Go.Proofs.YtcallmnhaikfpaaGreatDoor
open Go Go.RowKit Go.Deep
set_option maxRecDepth 10000 in
set_option maxHeartbeats 2000000 in
theorem EqualT_any (w : World) (S T : Nat → Prop) (u v : Value) (l m : List ByteArray) (h : Rd (.slice .str) w S [u] l) (h' : Rd (.slice .str) w T [v] m) :
    Calls Tryz.prog 94 #[u, v] w (Looks w (.bool (decide (l = m)))) := by
  have h63 := strs_len h
  have g63 := strs_len h'
  obtain ⟨a, c, rfl, -, -, -, h4⟩ := strs_at h
  obtain ⟨a', c', rfl, -, -, -, g4⟩ := strs_at h'
  clear h h'
  by_cases hlen : l.length = m.length
  · have e0 : ((l.length : Int) != (m.length : Int)) = false := by simp; exact_mod_cast hlen
    go_enter Tryz.func94, Tryz.ntmps94
    go_wp2_with fail
    go_loopw [13] (fun i wr => ∃ k n : Nat, k ≤ l.length ∧ i = .int .i64 k ∧ wr = w.drewN n ∧ l.take k = m.take k) (fun i _ => l.length - (intOf i).toNat)
    case atStart => exact ⟨0, 0, by omega, rfl, rfl, by simp⟩
    case round =>
      obtain ⟨k, n, hk, rfl, rfl, ha⟩ := hrel
      by_cases hlt : k < l.length
      · have j1 : (k : Int) < l.length := by omega
        have j2 : (k : Int) < m.length := by omega
        have j0 : (0 : Int) ≤ k := by omega
        have j3 : (k : Int) ≤ 9223372036854775806 := by omega
        obtain ⟨b, off, rfl, -, -, hc, -, -⟩ := h4 k hlt
        obtain ⟨b', off', rfl, -, -, hc', -, -⟩ := g4 k (by omega)
        have hb := text_beq l[k] m[k]
        generalize hx : l[k] = x at hc hb
        generalize hy : m[k] = y at hc' hb
        by_cases he : x = y
        · rw [decide_eq_true he] at hb
          have hn : l.take (k + 1) = m.take (k + 1) := by
            rw [List.take_succ_eq_append_getElem hlt, List.take_succ_eq_append_getElem (by omega : k < m.length), ha, hx, hy, he]
          have HA := Lib.hid (And.intro hn hlt)
          clear hn ha h4 g4 he hk hx hy hlt h63 g63 hlen
          go_wp2_with fail
          go_quiet (fail)
          go_wp2_with fail
          go_roundw
          case rel => exact ⟨k + 1, _, by have := HA.2; omega, by simp, by first | rfl | trivial, HA.1⟩
          case measure => simp [intOf]; have := HA.2; omega
        · rw [decide_eq_false he] at hb
          have hne : ¬ l = m := fun hh => he (by rw [← hx, ← hy]; subst hh; rfl)
          have HA := Lib.hid hne
          clear ha h4 g4 he hk hx hy hlt h63 g63 hlen hne
          go_wp2_with fail
          go_quiet (fail)
          go_wp2_with fail
          go_ret
          rw [decide_eq_false (show ¬ l = m from HA)]
          exact ⟨n + _, rfl, by first | rfl | (simp; rfl) | simp⟩
      · have j1 : ¬ (k : Int) < l.length := by omega
        have j2 : ¬ (k : Int) < m.length := by omega
        have hk2 : k = l.length := by omega
        rw [hk2, List.take_length, hlen, List.take_length] at ha
        have HA := Lib.hid ha
        clear ha hk2 hk hlt h4 g4 h63 g63 hlen
        go_wp2_with fail
        go_ret
        rw [decide_eq_true (show l = m from HA)]
        exact ⟨_, rfl, rfl⟩
  · have e0 : ((l.length : Int) != (m.length : Int)) = true := by simp; exact_mod_cast hlen
    have hne : ¬ l = m := fun hh => hlen (by rw [hh])
    rw [decide_eq_false hne]
    clear h4 g4 hne h63 g63 hlen
    go_enter Tryz.func94, Tryz.ntmps94
    go_wp2_with fail
    go_ret
    exact ⟨0, rfl, rfl⟩
theorem same_any (w : World) (S T : Nat → Prop) (u v u' v' : Value) (f g : Fp) (h : FpAt w S u v f) (h' : FpAt w T u' v' g) :
    Calls Tryz.prog 61 #[.agg #[u, v], .agg #[u', v']] w (Says w (decide (f.rs = g.rs) && decide (f.ws = g.ws))) := by
  have k1 : ∀ w', Keep No w w' → Calls Tryz.prog 94 #[u, u'] w' (Looks w' (.bool (decide (f.rs = g.rs)))) := fun w' hk => EqualT_any w' S T u u' _ _ (h.keep hk).1 (h'.keep hk).1
  have k2 : ∀ w', Keep No w w' → Calls Tryz.prog 94 #[v, v'] w' (Looks w' (.bool (decide (f.ws = g.ws)))) := fun w' hk => EqualT_any w' S T v v' _ _ (h.keep hk).2 (h'.keep hk).2
  obtain ⟨a1, c1, rfl, -⟩ := strs_at h.1
  obtain ⟨a2, c2, rfl, -⟩ := strs_at h.2
  obtain ⟨a3, c3, rfl, -⟩ := strs_at h'.1
  obtain ⟨a4, c4, rfl, -⟩ := strs_at h'.2
  have K0 := Keep.refl No w
  generalize decide (f.rs = g.rs) = p at k1
  generalize decide (f.ws = g.ws) = q at k2
  generalize f.rs = fr at *
  generalize f.ws = fw at *
  generalize g.rs = gr at *
  generalize g.ws = gw at *
  clear h h'
  cases p with
  | false =>
    go_enter Tryz.func61, Tryz.ntmps61
    go_wp2_with fail
    refine (k1 _ ((K0.alloc _).alloc _)).mono ?_
    rintro e w' ⟨n, rfl, rfl⟩
    go_wp2
    go_ret
    exact ⟨rfl, ((K0.alloc _).alloc _).drewN _⟩
  | true =>
    go_enter Tryz.func61, Tryz.ntmps61
    go_wp2_with fail
    refine (k1 _ ((K0.alloc _).alloc _)).mono ?_
    rintro e w' ⟨n, rfl, rfl⟩
    go_wp2_with fail
    refine (k2 _ (((K0.alloc _).alloc _).drewN _)).mono ?_
    rintro e w' ⟨n, rfl, rfl⟩
    go_wp2
    go_ret
    exact ⟨by simp, ((K0.alloc _).alloc _).drewN _⟩
end Go.Proofs.YtcallmnhaikfpaaGreatDoor
namespace Go.Proofs.YtcallmnhaikfpaaGreatDoor
open Go Go.RowKit Go.Deep
theorem normal_is (f : Fp) : f.normal = (decide (f.norm.2 = 0) && (decide (f.rs = f.norm.1.rs) && decide (f.ws = f.norm.1.ws))) := by
  unfold Fp.normal
  rw [Bool.and_assoc]
  congr 1
  congr 1 <;> (rw [decide_eq_decide]; exact eq_comm)
set_option maxRecDepth 10000 in
set_option maxHeartbeats 2000000 in
theorem sNormal_any (w : World) (S : Nat → Prop) (u v : Value) (f : Fp) (h : FpAt w S u v f) (hl : (f.rs.length + f.ws.length + 1) * 16 ≤ 140737488355200) :
    Calls Tryz.prog 58 #[.agg #[u, v]] w (Says w f.normal) := by
  have K1 : Keep No w (w.alloc (.cells #[u, v] 41)) := (Keep.refl No w).alloc _
  have hb := (Norm_any _ S u v f (h.keep K1) hl).mono (R' := fun e w3 => ∃ a n c a' n' c', e = .returned (.tuple #[.agg #[.slice a n c, .slice a' n' c'], .int .i64 f.norm.2]) ∧ w3.heap[w.heap.size]? = some (.cells #[u, v] 41 (0, 0)) ∧
      RowKit.Hid (Keep No w w3 ∧ FpAt w3 S u v f ∧ FpAt w3 (Lt w3.heap.size) (.slice a n c) (.slice a' n' c') f.norm.1)) (by
    rintro e w3 ⟨a, n, c, a', n', c', rfl, ho, hk⟩
    exact ⟨a, n, c, a', n', c', rfl, hk.blk (blk_new w _) (fun x => x), K1.trans hk, (h.keep K1).keep hk, ho.at'.mono (fun i hi _ => hi)⟩)
  rw [normal_is]
  obtain ⟨a1, c1, rfl, -⟩ := strs_at h.1
  obtain ⟨a2, c2, rfl, -⟩ := strs_at h.2
  clear h K1 hl
  generalize f.rs.length = m1 at *
  generalize f.ws.length = m2 at *
  generalize f.norm = g at *
  obtain ⟨g, en⟩ := g
  simp only at *
  by_cases he : en = 0
  · subst he
    simp only [decide_true, Bool.true_and]
    go_enter Tryz.func58, Tryz.ntmps58
    go_wp2_with fail
    refine hb.mono ?_
    clear hb
    rintro e w3 ⟨a, n, c, a', n', c', rfl, x1, HK⟩
    have q1 := blk_cell x1
    have q1n := blk_cell (blk_alloc (o' := .cells #[.slice a n c, .slice a' n' c'] 41) x1)
    have hs := fun (W : World) (hk : Keep No w3 W) => (same_any W S _ (.slice a1 m1 c1) (.slice a2 m2 c2) (.slice a n c) (.slice a' n' c') f g (HK.out.2.1.keep hk) (HK.out.2.2.keep hk)).mono (R' := fun e w4 => e = .returned (.bool (decide (f.rs = g.rs) && decide (f.ws = g.ws))) ∧ RowKit.Hid (Keep No w w4)) (by
      rintro e w4 ⟨rfl, hk4⟩
      exact ⟨rfl, (HK.out.1.trans hk).trans hk4⟩)
    generalize (decide (f.rs = g.rs) && decide (f.ws = g.ws)) = p at *
    go_wp2_with fail
    refine (hs _ ((Keep.refl No w3).alloc _)).mono ?_
    clear hs
    rintro e w4 ⟨rfl, HK4⟩
    go_wp2_with fail
    go_ret
    exact ⟨rfl, HK4⟩
  · have d1 : (en == 0) = false := by simpa using he
    have hd : decide (en = 0) = false := by simpa using he
    rw [hd, Bool.false_and]
    clear hd he
    go_enter Tryz.func58, Tryz.ntmps58
    go_wp2_with fail
    refine hb.mono ?_
    clear hb
    rintro e w3 ⟨a, n, c, a', n', c', rfl, x1, HK⟩
    have q1 := blk_cell x1
    have q1n := blk_cell (blk_alloc (o' := .cells #[.slice a n c, .slice a' n' c'] 41) x1)
    have HF := Lib.hid (HK.out.1.trans ((Keep.refl No w3).alloc (.cells #[.slice a n c, .slice a' n' c'] 41)))
    go_wp2_with fail
    go_ret
    exact ⟨rfl, HF⟩
end Go.Proofs.YtcallmnhaikfpaaGreatDoor
namespace Go.Proofs.YtcallmnhaikfpaaGreatDoor
open Go Go.RowKit Go.Deep
set_option maxRecDepth 10000 in
set_option maxHeartbeats 2000000 in
theorem fNormal_any (w : World) (S : Nat → Prop) (u v : Value) (f : Fp) (h : FpAt w S u v f) (hl : (f.rs.length + f.ws.length + 1) * 16 ≤ 140737488355200) :
    Calls Tryz.prog 95 #[.agg #[u, v]] w (Says w f.normal) := by
  have K1 : Keep No w (w.alloc (.cells #[u, v] 41)) := (Keep.refl No w).alloc _
  have hb := (Norm_any _ S u v f (h.keep K1) hl).mono (R' := fun e w3 => ∃ a n c a' n' c', e = .returned (.tuple #[.agg #[.slice a n c, .slice a' n' c'], .int .i64 f.norm.2]) ∧ w3.heap[w.heap.size]? = some (.cells #[u, v] 41 (0, 0)) ∧
      RowKit.Hid (Keep No w w3 ∧ FpAt w3 S u v f ∧ FpAt w3 (Lt w3.heap.size) (.slice a n c) (.slice a' n' c') f.norm.1)) (by
    rintro e w3 ⟨a, n, c, a', n', c', rfl, ho, hk⟩
    exact ⟨a, n, c, a', n', c', rfl, hk.blk (blk_new w _) (fun x => x), K1.trans hk, (h.keep K1).keep hk, ho.at'.mono (fun i hi _ => hi)⟩)
  unfold Fp.normal
  obtain ⟨a1, c1, rfl, -⟩ := strs_at h.1
  obtain ⟨a2, c2, rfl, -⟩ := strs_at h.2
  clear h K1 hl
  generalize f.rs.length = m1 at *
  generalize f.ws.length = m2 at *
  generalize f.norm = g at *
  obtain ⟨g, en⟩ := g
  simp only at *
  have hs1 : ∀ a n c a' n' c' w3 W, RowKit.Hid (Keep No w w3 ∧ FpAt w3 S (.slice a1 m1 c1) (.slice a2 m2 c2) f ∧ FpAt w3 (Lt w3.heap.size) (.slice a n c) (.slice a' n' c') g) → Keep No w3 W → Calls Tryz.prog 94 #[.slice a n c, .slice a1 m1 c1] W (Looks W (.bool (decide (g.rs = f.rs)))) :=
    fun a n c a' n' c' w3 W HK hk => EqualT_any W _ _ _ _ _ _ (HK.out.2.2.keep hk).1 (HK.out.2.1.keep hk).1
  have hs2 : ∀ a n c a' n' c' w3 W, RowKit.Hid (Keep No w w3 ∧ FpAt w3 S (.slice a1 m1 c1) (.slice a2 m2 c2) f ∧ FpAt w3 (Lt w3.heap.size) (.slice a n c) (.slice a' n' c') g) → Keep No w3 W → Calls Tryz.prog 94 #[.slice a' n' c', .slice a2 m2 c2] W (Looks W (.bool (decide (g.ws = f.ws)))) :=
    fun a n c a' n' c' w3 W HK hk => EqualT_any W _ _ _ _ _ _ (HK.out.2.2.keep hk).2 (HK.out.2.1.keep hk).2
  generalize decide (g.rs = f.rs) = p1 at *
  generalize decide (g.ws = f.ws) = p2 at *
  by_cases he : en = 0
  · subst he
    simp only [decide_true, Bool.true_and]
    cases p1 with
    | true =>
      simp only [Bool.true_and]
      go_enter Tryz.func95, Tryz.ntmps95
      go_wp2_with fail
      refine hb.mono ?_
      clear hb
      rintro e w3 ⟨a, n, c, a', n', c', rfl, x1, HK⟩
      have q1 := blk_cell x1
      have q1n := blk_cell (blk_alloc (o' := .cells #[.slice a n c, .slice a' n' c'] 41) x1)
      go_wp2_with fail
      refine (hs1 _ _ _ _ _ _ _ _ HK ((Keep.refl No w3).alloc _)).mono ?_
      rintro e w4 ⟨M, rfl, rfl⟩
      go_wp2_with fail
      refine (hs2 _ _ _ _ _ _ _ _ HK (((Keep.refl No w3).alloc _).drewN _)).mono ?_
      rintro e w4 ⟨M', rfl, rfl⟩
      have HF := Lib.hid ((HK.out.1.trans ((Keep.refl No w3).alloc (.cells #[.slice a n c, .slice a' n' c'] 41))).drewN (M + M'))
      go_wp2_with fail
      go_ret
      exact ⟨rfl, HF⟩
    | false =>
      simp only [Bool.false_and]
      go_enter Tryz.func95, Tryz.ntmps95
      go_wp2_with fail
      refine hb.mono ?_
      clear hb
      rintro e w3 ⟨a, n, c, a', n', c', rfl, x1, HK⟩
      have q1 := blk_cell x1
      have q1n := blk_cell (blk_alloc (o' := .cells #[.slice a n c, .slice a' n' c'] 41) x1)
      go_wp2_with fail
      refine (hs1 _ _ _ _ _ _ _ _ HK ((Keep.refl No w3).alloc _)).mono ?_
      rintro e w4 ⟨M, rfl, rfl⟩
      have HF := Lib.hid ((HK.out.1.trans ((Keep.refl No w3).alloc (.cells #[.slice a n c, .slice a' n' c'] 41))).drewN M)
      go_wp2_with fail
      go_ret
      exact ⟨rfl, HF⟩
  · have d1 : (en == 0) = false := by simpa using he
    have hd : decide (en = 0) = false := by simpa using he
    rw [hd, Bool.false_and, Bool.false_and]
    clear hd he
    go_enter Tryz.func95, Tryz.ntmps95
    go_wp2_with fail
    refine hb.mono ?_
    clear hb
    rintro e w3 ⟨a, n, c, a', n', c', rfl, x1, HK⟩
    have q1 := blk_cell x1
    have HF := Lib.hid (HK.out.1.trans ((Keep.refl No w3).alloc (.cells #[.slice a n c, .slice a' n' c'] 41)))
    go_wp2_with fail
    go_ret
    exact ⟨rfl, HF⟩
end Go.Proofs.YtcallmnhaikfpaaGreatDoor
