/-
  The document's stream: Feed, wrong.
  The document's stream: Next.
-/
import Derived.Test.YtpjcebajkfeacaaGreatDoorGA
import Derived.Test.YtpjcebajkfeacaaGreatDoorGC
import Derived.Test.YtpjcebajkfeacaaGreatDoorGF
import Derived.Test.YtpjcebajkfeacaaGreatDoorGJ
import Derived.Test.YtpjcebajkfeacaaGreatDoorGK
import Derived.Test.YtpjcebajkfeacaaGreatDoorGV
import Derived.Test.YtpjcebajkfeacaaGreatDoorHN
import Derived.Test.YtpjcebajkfeacaaGreatDoorHO
import Derived.Test.YtpjcebajkfeacaaGreatDoorHR
import Derived.Test.YtpjcebajkfeacaaGreatDoorHT
import Derived.Test.YtpjcebajkfeacaaGreatDoorHU
import Derived.Test.YtpjcebajkfeacaaGreatDoorHV
import Derived.Test.YtpjcebajkfeacaaGreatDoorHW
import Derived.Still
import Derived.StillTactics
import Derived.WalkKit
import Derived.Recover
import Derived.Defers
import Derived.Deep.QuietTactic
import Derived.BigQuiet
import Derived.Handy
import Derived.Laws.Bits64b
import Derived.Lib.Zigzag
import Derived.WalkSpells
import Derived.WalkLawsBesides
import Derived.ProofKit
import Derived.Deep.Slices
import Derived.Deep.AppendSrc
import Derived.Lib.Hide
import Derived.Lib.EndianBits
import Derived.OpenShut
import Derived.Deep.LoopGhost
import Derived.Deep.DeepCutAuto
import Derived.OwnWalk
import Derived.Lib.Bytealg
import Derived.Laws.Externs
import Derived.Laws.CopyRow
import Derived.Laws.IdiomCopy
import Derived.Maps.OwnSet
import Derived.Maps.RangeWalk
import Derived.Shelf.SortM.Plain
import Derived.Shelf.SortM.SortNone
import Derived.Ground.SlgmProg
import Derived.Maps.OwnOps
import Derived.Lib.ItoaNum
import Derived.Lib.Join
import Derived.Deep.WholeRow
import Derived.Shelf.Strconv.Itoa4
import Derived.Shelf.Strings.BuilderK
import Derived.Shelf.Strings.OnBuilder
import Derived.Ground.NamesProg
import Derived.Lib.AppendIntMem
import Derived.Lib.UnsafeStr
import Derived.Maps.Views
import Derived.Lib.VarintBits
namespace Go.Proofs.YtpjcebajkfeacaaGreatDoor
set_option linter.unusedVariables false
set_option linter.unusedSimpArgs false
open Go Go.RowKit Go.Deep

/-- the document's stream in memory -/
structure RStreamAt (W : World) (s : Nat) (A : Nat → Prop) (a : Option Addr) (m c : Nat) (l : Bytes) (n : Int) : Prop where
  blk : W.heap[s]? = some (.cells #[.slice a m c, .int .i64 n] 78 (0, 0))
  rd : Rd bytesSh W A [.slice a m c] l
  nA : ¬ A s
theorem RStreamAt.len {W : World} {s : Nat} {A : Nat → Prop} {a : Option Addr} {m c : Nat} {l : Bytes} {n : Int} (h : RStreamAt W s A a m c l n) : m = l.length := by
  obtain ⟨a', c', e, -⟩ := bytes_at h.rd
  simp only [Value.slice.injEq] at e
  exact e.2.1
theorem RStreamAt.keep {W W' : World} {s : Nat} {A : Nat → Prop} {a : Option Addr} {m c : Nat} {l : Bytes} {n : Int} (h : RStreamAt W s A a m c l n) {M : Nat → Prop} (hk : Keep M W W') (hs : ¬ M s) (hA : ∀ k, A k → ¬ M k) : RStreamAt W' s A a m c l n :=
  ⟨hk.blk h.blk hs, h.rd.agree _ (hk.agree fun k _ hk' => hA k hk'), h.nA⟩
def RStreamIn (W : World) (s : Nat) (A : Nat → Prop) (l : Bytes) (n : Int) : Prop := ∃ a m c, RStreamAt W s A a m c l n
theorem RStreamIn.keep {W W' : World} {s : Nat} {A : Nat → Prop} {l : Bytes} {n : Int} (h : RStreamIn W s A l n) {M : Nat → Prop} (hk : Keep M W W') (hs : ¬ M s) (hA : ∀ k, A k → ¬ M k) : RStreamIn W' s A l n := by
  obtain ⟨a, m, c, h⟩ := h
  exact ⟨a, m, c, h.keep hk hs hA⟩

/-- bytes were fed -/
def RFed (w : World) (s : Nat) (l x : Bytes) (n : Int) (e : Ending) (w' : World) : Prop :=
  e = .returned (.tuple #[]) ∧ RStreamIn w' s (Fr w.heap.size w'.heap.size) (l ++ x) n ∧ Keep (One s) w w'
set_option maxRecDepth 10000 in
theorem rFeed_any (w : World) (s : Nat) (A T : Nat → Prop) (l x : Bytes) (n : Int) (h : RStreamIn w s A l n) (p : Value) (hp : Rd bytesSh w T [p] x) (hl : l.length + x.length ≤ 140737488355328) :
    Calls Tryz.prog 38 #[.pointer (some ⟨s, 0, none⟩), p] w (RFed w s l x n) := by
  obtain ⟨a, m, c, h⟩ := h
  obtain ⟨a1, c1, w1, hrun1, ho1⟩ := clone_bytesApp w A _ l h.rd (by omega)
  obtain ⟨a2, c2, w2, hrun2, ho2⟩ := app_slice ho1 (hp.agree _ ho1.2.agreeNo) hl
  have hs := blk_lt h.blk
  have x' := ho2.2.blk h.blk (fun x => x)
  have q := blk_cell (blk_alloc (o' := .cells #[] 5) h.blk)
  have q' := blk_cell x'
  have f' := blk_fro x'
  obtain ⟨n2, hn2⟩ : ∃ n2, l.length + x.length = n2 := ⟨_, rfl⟩
  have hm := h.len
  rw [hn2] at hrun2 ho2
  rw [← hm] at hrun1 hrun2
  have H := Lib.hid (And.intro ho2 (And.intro x' hs))
  obtain ⟨ap, cp, rfl, -⟩ := bytes_at hp
  clear h hp ho1 ho2 x' hs hl hn2 hm
  go_enter Tryz.func38, Tryz.ntmps38
  go_wp2_with (at_builtin; first | (refine wpList_app rfl (.tmp 5) (.tmp 9) 25 25 rfl rfl rfl hrun1 ?_; clear hrun1) | (refine wpList_app rfl (.tmp 10) (.tmp 11) 25 25 rfl rfl rfl hrun2 ?_; clear hrun2))
  go_end0
  obtain ⟨ho, x', hs⟩ := H.out
  have hz : (w2.setCell ⟨s, 0, none⟩ (.slice a2 n2 c2)).heap.size = w2.heap.size := by simp
  refine ⟨rfl, ⟨a2, n2, c2, ?_, ?_, ?_⟩, ?_⟩
  · have := blk_set x' 0 (.slice a2 n2 c2)
    simpa using this
  · rw [hz]
    exact ho.rd.agree _ (agree_set (b := s) (fun hh => by have := hh.1; omega) 0 _)
  · exact fun hh => by have := hh.1; omega
  · exact (ho.2.mono fun _ _ x => x.elim).trans (keep_set w2 s 0 _)
set_option maxRecDepth 10000 in
set_option maxHeartbeats 1000000 in
theorem rWrong_any (w : World) (s : Nat) (A : Nat → Prop) (l : Bytes) (n : Int) (h : RStreamIn w s A l n) :
    Calls Tryz.prog 89 #[.pointer (some ⟨s, 0, none⟩)] w fun e w' => e = .returned (.bool (wrongB l)) ∧ RowKit.Hid (Keep No w w') := by
  obtain ⟨a, m, c, h⟩ := h
  have hm := h.len
  have q := (blk_cell h.blk) 0
  simp only [List.getElem?_toArray, List.getElem?_cons_zero] at q
  obtain ⟨a', c', hv, hle, hmax, hnil, hel⟩ := bytes_at h.rd
  simp only [Value.slice.injEq] at hv
  obtain ⟨rfl, -, rfl⟩ := hv
  by_cases h4 : m < 4
  · have j1 : (m : Int) < 4 := by omega
    have hw : wrongB l = false := by
      have e : openB l = ([], 0, 3) := by unfold openB; rw [if_pos (by omega)]
      unfold wrongB wrongE
      rw [e, show decide (4 ≤ l.length) = false by simp; omega]
      rfl
    rw [hw]
    clear h hm hle hmax hnil hel h4 hw
    go_enter Tryz.func89, Tryz.ntmps89
    go_wp2_with fail
    go_ret
    exact ⟨rfl, Keep.refl _ _⟩
  · have j4 : ¬ (m : Int) < 4 := by omega
    obtain ⟨b, off, h1, -, -, q0, -, r0, r0'⟩ := hel 0 (by omega)
    obtain ⟨b1, off1, h11, -, -, q1, -, r1, r1'⟩ := hel 1 (by omega)
    obtain ⟨b2, off2, h12, -, -, q2, -, r2, r2'⟩ := hel 2 (by omega)
    obtain ⟨b3, off3, h13, -, -, q3, -, r3, r3'⟩ := hel 3 (by omega)
    rw [h1] at h11 h12 h13
    cases h11; cases h12; cases h13
    obtain ⟨g, hg⟩ : ∃ g, get4B l = g := ⟨_, rfl⟩
    have hg' : get4B l = l[0] + l[1] * 256 + l[2] * 65536 + l[3] * 16777216 := by
      unfold get4B
      simp [List.getD_eq_getElem?_getD, List.getElem?_eq_getElem, show 0 < l.length by omega, show 1 < l.length by omega, show 2 < l.length by omega, show 3 < l.length by omega]
    rw [hg] at hg'
    have hop := rOpen_any
    obtain ⟨ld, tk, er, ho⟩ : ∃ ld tk er, openB l = (ld, tk, er) := ⟨_, _, _, rfl⟩
    have hw : wrongB l = (decide (1024 < g) || decide (er = 1) || decide (er = 12)) := by
      unfold wrongB wrongE
      rw [ho, hg, show decide (4 ≤ l.length) = true by simp; omega]
      simp only [Bool.true_and]
      cases decide (1024 < g) <;> cases decide (er = 1) <;> cases decide (er = 12) <;> rfl
    rw [hw]
    have HR := Lib.hid (And.intro h.rd (And.intro hm ho))
    generalize l[0] = y0 at *
    generalize l[1] = y1 at *
    generalize l[2] = y2 at *
    generalize l[3] = y3 at *
    have hor : bits BinOp.or IntKind.u32 (bits BinOp.or IntKind.u32 (bits BinOp.or IntKind.u32 y0 (y1 * 256)) (y2 * 65536)) (y3 * 16777216) = g := by
      rw [hg', u32_or8 (y := y0) (x := y1 * 256) r0 r0' (by omega) (by omega) (by omega), u32_or16 (y := y0 + y1 * 256) (x := y2 * 65536) (by omega) (by omega) (by omega) (by omega) (by omega),
        u32_or24 (y := y0 + y1 * 256 + y2 * 65536) (x := y3 * 16777216) (by omega) (by omega) (by omega) (by omega) (by omega)]
      rfl
    have HG := Lib.hid hor
    rw [Nat.add_zero] at q0
    subst h1
    have j0 : (0 : Int) < m := by omega
    have j1 : (1 : Int) < m := by omega
    have j2 : (2 : Int) < m := by omega
    have j3 : (3 : Int) < m := by omega
    clear hg hg' hw ho hor hop hel hnil hmax hle hm h h4
    go_enter Tryz.func89, Tryz.ntmps89
    go_wp2
    go_quiet (fail)
    rw [HG.out]
    have hopen := (rOpen_any (w.drewN nq) _ _ m c l (HR.out.1.agree _ ((Keep.refl No w).drewN nq).agreeNo) HR.out.2.1.symm).mono (R' := fun e w3 => ∃ a1 n1 c1, e = .returned (.tuple #[.slice a1 n1 c1, .int .i64 tk, .int .i64 er]) ∧ RowKit.Hid (Keep No w w3)) (by
      rw [HR.out.2.2]
      rintro e w3 ⟨a1, n1, c1, rfl, ho⟩
      exact ⟨a1, n1, c1, rfl, ((Keep.refl No w).drewN nq).trans ho.2⟩)
    have q' : (w.drewN nq).cell? ⟨s, 0, none⟩ = some (.slice (some ⟨b, off, none⟩) m c) := q
    clear HG q q0 q1 q2 q3 r0 r0' r1 r1' r2 r2' r3 r3' j0 j1 j2 j3 j4
    go_wp2_with fail
    refine hopen.mono ?_
    clear hopen
    rintro e w3 ⟨a1, n1, c1, rfl, H3⟩
    by_cases h1024 : (1024 : Int) < g
    · go_wp2_with fail
      go_ret
      exact ⟨by simp [h1024], H3.out⟩
    · by_cases e1 : er = 1
      · subst e1
        go_wp2_with fail
        go_ret
        exact ⟨by simp, H3.out⟩
      · have e1' : (er == 1) = false := by simpa using e1
        have HE := Lib.hid (And.intro e1 h1024)
        clear e1
        by_cases e12 : er = 12
        · subst e12
          go_wp2_with fail
          go_ret
          exact ⟨by simp, H3.out⟩
        · have e12' : (er == 12) = false := by simpa using e12
          have HE2 := Lib.hid e12
          clear e12
          go_wp2_with fail
          go_ret
          exact ⟨by simp [HE.out.1, HE.out.2, HE2.out], H3.out⟩
end Go.Proofs.YtpjcebajkfeacaaGreatDoor

namespace Go.Proofs.YtpjcebajkfeacaaGreatDoor
set_option linter.unusedVariables false
set_option linter.unusedSimpArgs false
open Go Go.RowKit Go.Deep

theorem wrong_len {l : Bytes} (h : wrongB l = true) : 4 ≤ l.length := by
  by_cases h4 : 4 ≤ l.length
  · exact h4
  · have e : openB l = ([], 0, 3) := by unfold openB; rw [if_pos (by omega)]
    unfold wrongB wrongE at h
    rw [e, show decide (4 ≤ l.length) = false by simp; omega] at h
    simp at h
theorem drop_one (l : Bytes) (k : Nat) : (l.drop k).drop 1 = l.drop (k + 1) := by rw [List.drop_drop]

/-- what the document's Next gives back -/
def RNextOf (w : World) (s : Nat) (A : Nat → Prop) (n : Int) (x : (Req × Int × Bool) × Bytes × Nat) (e : Ending) (w' : World) : Prop :=
  ∃ a c, e = .returned (.tuple #[.agg #[.int .i64 x.1.1.client, .int .u64 x.1.1.token, .string x.1.1.name, .slice a x.1.1.args.length c], .int .i64 x.1.2.1, .bool x.1.2.2]) ∧
    RowKit.Hid (Rd requestSh w' (Fr w.heap.size w'.heap.size) [.int .i64 x.1.1.client, .int .u64 x.1.1.token, .string x.1.1.name, .slice a x.1.1.args.length c] x.1.1 ∧ RStreamIn w' s A x.2.1 (n + x.2.2) ∧ Keep (One s) w w')
/-- within Next -/
structure RNxI (w : World) (s : Nat) (A : Nat → Prop) (l : Bytes) (n : Int) (T2 : Nat) (k t : Nat) (y0 y1 y2 y3 : Value) (W : World) : Prop where
  st : RStreamIn W s A (l.drop t) (n + k)
  t2 : W.heap[T2]? = some (.cells #[y0, y1, y2, y3] 29 (0, 0))
  keep : Keep (One s) w W
theorem RNxI.more {w : World} {s : Nat} {A : Nat → Prop} {l : Bytes} {n : Int} {T2 k t : Nat} {y0 y1 y2 y3 : Value} {W W' : World} (h : RNxI w s A l n T2 k t y0 y1 y2 y3 W) (hk : Keep No W W') : RNxI w s A l n T2 k t y0 y1 y2 y3 W' :=
  ⟨h.st.keep hk (fun x => x) (fun _ _ x => x), hk.blk h.t2 (fun x => x), h.keep.thenNo hk⟩
theorem RNxI.put {w : World} {s : Nat} {A : Nat → Prop} {l : Bytes} {n : Int} {T2 k t : Nat} {x0 x1 x2 x3 : Value} {W : World} (h : RNxI w s A l n T2 k t x0 x1 x2 x3 W) (hA : ∀ k, A k → k < w.heap.size) (h2 : w.heap.size ≤ T2) (e2 : ¬ T2 = s) (y0 y1 y2 y3 : Value) :
    RNxI w s A l n T2 k t y0 y1 y2 y3 ((((W.setCell ⟨T2, 0, none⟩ y0).setCell ⟨T2, 1, none⟩ y1).setCell ⟨T2, 2, none⟩ y2).setCell ⟨T2, 3, none⟩ y3) := by
  have kf := keep_four W T2 y0 y1 y2 y3
  refine ⟨h.st.keep kf (fun e => e2 e.symm) (fun i hi e => by have : i = T2 := e; have := hA i hi; omega), blk_four h.t2 y0 y1 y2 y3, h.keep.then kf fun i hi e => by have : i = T2 := e; omega⟩

set_option maxRecDepth 10000 in
set_option maxHeartbeats 4000000 in
theorem rNext_any (w : World) (s : Nat) (A : Nat → Prop) (l : Bytes) (n : Int) (h : RStreamIn w s A l n) (hA : ∀ k, A k → k < w.heap.size) (hl : l.length ≤ 1048576) (h0 : 0 ≤ n) (hn : n ≤ 1048576000000) :
    Calls Tryz.prog 39 #[.pointer (some ⟨s, 0, none⟩)] w (RNextOf w s A n (nextB l)) := by
  have hs : s < w.heap.size := by obtain ⟨a, m, c, h⟩ := h; exact blk_lt h.blk
  have HB := Lib.hid (And.intro hl (And.intro h0 (And.intro hn (And.intro hA hs))))
  have HI0 : RowKit.Hid (RNxI w s A l n w.heap.size 0 0 (.int .i64 0) (.int .u64 0) (.string ⟨#[]⟩) (.slice none 0 0) (w.alloc (.cells #[.int .i64 0, .int .u64 0, .string ⟨#[]⟩, .slice none 0 0] 29))) := by
    have k1 : Keep No w (w.alloc (.cells #[.int .i64 0, .int .u64 0, .string ⟨#[]⟩, .slice none 0 0] 29)) := (Keep.refl No w).alloc _
    exact ⟨by simpa using h.keep k1 (fun x => x) (fun _ _ x => x), blk_new _ _, k1.mono fun _ _ x => x.elim⟩
  clear h hl h0 hn hA hs
  go_enter Tryz.func39, Tryz.ntmps39
  go_wp2_with fail
  generalize (w.alloc (.cells #[.int .i64 0, .int .u64 0, .string ⟨#[]⟩, .slice none 0 0] 29)) = w0 at *
  obtain ⟨T2, hT2⟩ : ∃ T2, w.heap.size = T2 := ⟨_, rfl⟩
  rw [hT2] at HI0 ⊢
  have n2 : ¬ T2 = s := by have := HB.out.2.2.2.2; omega
  have HT := Lib.hid (And.intro hT2 n2)
  clear hT2 n2
  go_loopg [12] l.length (fun g v wr => ∃ k, k ≤ l.length ∧ g = l.length - k ∧ RowKit.Hid (RNxI w s A l n T2 k k (.int .i64 0) (.int .u64 0) (.string ⟨#[]⟩) (.slice none 0 0) wr ∧ ∀ j, j < k → wrongB (l.drop j) = true))
  case atStart => exact ⟨0, by omega, by omega, HI0.out, fun j hj => absurd hj (Nat.not_lt_zero _)⟩
  case round =>
    obtain ⟨k, hk, rfl, HI⟩ := hrel
    clear HI0
    obtain ⟨wb, hwb⟩ : ∃ wb, wrongB (l.drop k) = wb := ⟨_, rfl⟩
    have hwr := (rWrong_any wr s A (l.drop k) (n + k) HI.out.1.st).mono (R' := fun e w1 => e = .returned (.bool wb) ∧ RowKit.Hid (RNxI w s A l n T2 k k (.int .i64 0) (.int .u64 0) (.string ⟨#[]⟩) (.slice none 0 0) w1)) (by
      rw [hwb]
      rintro e w1 ⟨rfl, hk⟩
      exact ⟨rfl, HI.out.1.more hk⟩)
    have HW := Lib.hid (And.intro hwb (And.intro HI.out.2 hk))
    clear hwb HI hk
    cases wb with
    | true =>
      go_upto_region 2 with (go_at_call 89; refine hwr.mono ?_; clear hwr; rintro e w1 ⟨rfl, H1⟩)
      have hlen := wrong_len HW.out.1
      obtain ⟨a, m, c, hst⟩ := H1.out.st
      have hm := hst.len
      obtain ⟨a', c', hv, hle, hmax, hnil, hel⟩ := bytes_at hst.rd
      simp only [Value.slice.injEq] at hv
      obtain ⟨rfl, -, rfl⟩ := hv
      obtain ⟨b, off, rfl, -⟩ := hel 0 (by omega)
      have qs := blk_cell hst.blk
      have fs := blk_fro hst.blk
      have hkl : k < l.length := by simp at hlen; omega
      have j0 : (1 : Int) ≤ (m : Int) := by omega
      have j1 : (m : Int) ≤ (c : Int) := by omega
      have j2 : ¬ c = 1 := by omega
      have g0 : (0 : Int) ≤ n + (k : Int) := by have := HB.out.2.1; omega
      have g1 : n + (k : Int) ≤ 1048578000000 := by have := HB.out.2.2.1; have := HB.out.1; omega
      have hrd := rdb_drop hst.rd 1 (by omega)
      rw [drop_one] at hrd
      have b2 := blk_set (blk_set hst.blk 0 (.slice (some ⟨b, off + 1, none⟩) (m - 1) (c - 1))) 1 (.int .i64 (n + k + 1))
      have ks := (keep_set w1 s 0 (.slice (some ⟨b, off + 1, none⟩) (m - 1) (c - 1))).trans (keep_set _ s 1 (.int .i64 (n + k + 1)))
      have b1 := blk_set hst.blk 0 (.slice (some ⟨b, off + 1, none⟩) (m - 1) (c - 1))
      have H2 : RowKit.Hid (RNxI w s A l n T2 (k + 1) (k + 1) (.int .i64 0) (.int .u64 0) (.string ⟨#[]⟩) (.slice none 0 0) ((w1.setCell ⟨s, 0, none⟩ (.slice (some ⟨b, off + 1, none⟩) (m - 1) (c - 1))).setCell ⟨s, 1, none⟩ (.int .i64 (n + k + 1)))) := by
        have ec : n + ((k + 1 : Nat) : Int) = n + k + 1 := by omega
        refine ⟨⟨some ⟨b, off + 1, none⟩, m - 1, c - 1, ?_, ?_, hst.nA⟩, ks.blk H1.out.t2 (fun e => HT.out.2 e), H1.out.keep.trans ks⟩
        · rw [ec]; simpa using b2
        · exact hrd.agree _ (ks.agree fun i _ hi e => by have : i = s := e; exact hst.nA (this ▸ hi))
      have HL := Lib.hid hkl
      have q1 := blk_cell b1
      have f1 := blk_fro b1
      clear hlen hle hmax hnil hel hkl hrd b1 b2 ks hst hm H1
      go_wp2_with fail
      go_roundg (l.length - (k + 1))
      case measure => have := HL.out; omega
      case rel => exact ⟨k + 1, HL.out, rfl, H2.out, fun j hj => by
        by_cases hjk : j < k
        · exact HW.out.2.1 j hjk
        · obtain rfl : j = k := by omega
          exact HW.out.1⟩
    | false =>
      have hsk : skipB l = k := skip_is HW.out.2.1 HW.out.1
      go_upto_region 4 with (go_at_call 89; refine hwr.mono ?_; clear hwr; rintro e w1 ⟨rfl, H1⟩)
      obtain ⟨ld, tk, er, hop⟩ : ∃ ld tk er, openB (l.drop k) = (ld, tk, er) := ⟨_, _, _, rfl⟩
      obtain ⟨a, m, c, hst⟩ := H1.out.st
      have qs := blk_cell hst.blk
      have hopen := (rOpen_any w1 A a m c (l.drop k) hst.rd hst.len.symm).mono (R' := fun e w2 => ∃ a1 n1 c1, e = .returned (.tuple #[.slice a1 n1 c1, .int .i64 tk, .int .i64 er]) ∧ RowKit.Hid (Rd bytesSh w2 (Fr w1.heap.size w2.heap.size) [.slice a1 n1 c1] ld ∧ RNxI w s A l n T2 k k (.int .i64 0) (.int .u64 0) (.string ⟨#[]⟩) (.slice none 0 0) w2)) (by
        rw [hop]
        rintro e w2 ⟨a1, n1, c1, rfl, ho⟩
        exact ⟨a1, n1, c1, rfl, ho.rd, H1.out.more ho.2⟩)
      have HW1 := Lib.hid (And.intro (blk_lt H1.out.t2) (blk_lt hst.blk))
      clear hst H1
      by_cases he : er = 0
      · subst he
        have hnx := next_some hsk hop
        have htk := open_took (l.drop k) (by rw [hop])
        rw [hop] at htk
        have ht1 : tk ≤ (l.drop k).length := htk.2.1
        have HX := Lib.hid (And.intro hnx ht1)
        clear hnx htk ht1 hop hsk
        go_upto_region 7 with (go_at_call 90; refine hopen.mono ?_; clear hopen qs; rintro e w2 ⟨a1, n1, c1, rfl, H2⟩)
        go_cut [48] (fun t wx => RowKit.Hid (Rd bytesSh wx (Fr w1.heap.size wx.heap.size) [.slice a1 n1 c1] ld ∧ RNxI w s A l n T2 k (k + tk) (.int .i64 0) (.int .u64 0) (.string ⟨#[]⟩) (.slice none 0 0) wx))
        case first =>
          obtain ⟨a2, m2, c2, hst⟩ := H2.out.2.st
          have hm := hst.len
          have hrd := rdb_from hst.rd tk HX.out.2
          obtain ⟨_, _, hv, hle, hmax, -⟩ := bytes_at hst.rd
          simp only [Value.slice.injEq] at hv
          obtain ⟨-, -, rfl⟩ := hv
          have htm : tk ≤ m2 := by have := HX.out.2; omega
          have hsr : RowKit.Hid (∀ av cv, Rd bytesSh w2 A [.slice av (m2 - tk) cv] ((l.drop k).drop tk) → Rd bytesSh (w2.setCell ⟨s, 0, none⟩ (.slice av (m2 - tk) cv)) (Fr w1.heap.size (w2.setCell ⟨s, 0, none⟩ (.slice av (m2 - tk) cv)).heap.size) [.slice a1 n1 c1] ld ∧ RNxI w s A l n T2 k (k + tk) (.int .i64 0) (.int .u64 0) (.string ⟨#[]⟩) (.slice none 0 0) (w2.setCell ⟨s, 0, none⟩ (.slice av (m2 - tk) cv))) := by
            intro av cv hr
            have b := blk_set hst.blk 0 (.slice av (m2 - tk) cv)
            have ks := keep_set w2 s 0 (.slice av (m2 - tk) cv)
            have hz : (w2.setCell ⟨s, 0, none⟩ (.slice av (m2 - tk) cv)).heap.size = w2.heap.size := by simp
            rw [List.drop_drop] at hr
            refine ⟨?_, ⟨av, m2 - tk, cv, by simpa using b, hr.agree _ (agree_set hst.nA 0 _), hst.nA⟩, ks.blk H2.out.2.t2 (fun e => HT.out.2 e), H2.out.2.keep.trans ks⟩
            rw [hz]
            exact H2.out.1.agree _ (agree_set (fun hh => by have := hh.1; have := HW1.out.2; omega) 0 _)
          have qs := blk_cell hst.blk
          have fs := blk_fro hst.blk
          have j0 : (0 : Int) ≤ (tk : Int) := by omega
          have j1 : (tk : Int) ≤ (m2 : Int) := by omega
          have j2 : (m2 : Int) ≤ (c2 : Int) := by omega
          have HR := Lib.hid hrd
          clear hst hm hrd hle hmax htm H2
          by_cases hc : c2 = tk
          · have hr := HR.out
            rw [if_pos hc] at hr
            have hrel := hsr.out _ _ hr
            have HREL := Lib.hid hrel
            subst hc
            rw [Nat.sub_self] at HREL
            clear hr hrel
            go_wp2_with fail
            go_meet
            case rel => exact HREL.out
          · have hr := HR.out
            rw [if_neg hc] at hr
            have hrel := hsr.out _ _ hr
            have HREL := Lib.hid hrel
            clear hr hrel
            go_wp2_with fail
            go_meet
            case rel => exact HREL.out
        case rest =>
          have H3 := Lib.hid hcut.out
          clear hcut H2
          generalize wc = w3 at *
          obtain ⟨z, ez, zt, hz⟩ : ∃ z ez zt, reqGet ld = (z, ez, zt) := ⟨_, _, _, rfl⟩
          have hget : Calls Tryz.prog 19 #[.slice a1 n1 c1] w3 fun e w4 => ∃ az cz, e = .returned (.tuple #[.agg #[.int .i64 z.client, .int .u64 z.token, .string z.name, .slice az z.args.length cz], .int .i64 ez, .int .i64 zt]) ∧ RowKit.Hid (Rd requestSh w4 (Fr w3.heap.size w4.heap.size) [.int .i64 z.client, .int .u64 z.token, .string z.name, .slice az z.args.length cz] z ∧ RNxI w s A l n T2 k (k + tk) (.int .i64 0) (.int .u64 0) (.string ⟨#[]⟩) (.slice none 0 0) w4) := by
            refine (rrqGet_any w3 _ _ ld H3.out.1).mono fun e w4 h => ?_
            rw [reqGetR_eq] at h
            obtain ⟨az, cz, rfl, hg⟩ := givesZ (bytes_all H3.out.1) hz h
            exact ⟨az, cz, rfl, hg.out.1, H3.out.2.more hg.out.2⟩
          have HX2 : RowKit.Hid (nextB l = ((z, ez, true), l.drop (k + tk), k)) := by
            have := HX.out.1
            rw [hz] at this
            exact this
          clear hz HX
          go_upto_region 9 with (go_at_call 19; refine hget.mono ?_; clear hget; rintro e w4 ⟨az, cz, rfl, H4⟩)
          have K5 := (Keep.refl No w4).alloc (.cells #[.int .i64 z.client, .int .u64 z.token, .string z.name, .slice az z.args.length cz] 29)
          have z5 := blk_new w4 (.cells #[.int .i64 z.client, .int .u64 z.token, .string z.name, .slice az z.args.length cz] 29)
          generalize (w4.alloc (.cells #[.int .i64 z.client, .int .u64 z.token, .string z.name, .slice az z.args.length cz] 29)) = w5 at *
          generalize w4.heap.size = Z at *
          have H5 : RowKit.Hid (Rd requestSh w5 (Fr w3.heap.size w5.heap.size) [.int .i64 z.client, .int .u64 z.token, .string z.name, .slice az z.args.length cz] z ∧ RNxI w s A l n T2 k (k + tk) (.int .i64 0) (.int .u64 0) (.string ⟨#[]⟩) (.slice none 0 0) w5 ∧ T2 < w3.heap.size ∧ w.heap.size ≤ w3.heap.size) := by
            have hs := K5.size
            exact ⟨(H4.out.1.mono requestSh fun i _ hi => ⟨hi.1, by have := hi.2; omega⟩).agree _ K5.agreeNo, H4.out.2.more K5, blk_lt H3.out.2.t2, H3.out.2.keep.size⟩
          clear H4 K5 H3
          have q5 := blk_cell z5
          have q2 := blk_cell H5.out.2.1.t2
          have f2 := blk_fro H5.out.2.1.t2
          have HP : RowKit.Hid (RNxI w s A l n T2 k (k + tk) (.int .i64 z.client) (.int .u64 z.token) (.string z.name) (.slice az z.args.length cz) ((((w5.setCell ⟨T2, 0, none⟩ (.int .i64 z.client)).setCell ⟨T2, 1, none⟩ (.int .u64 z.token)).setCell ⟨T2, 2, none⟩ (.string z.name)).setCell ⟨T2, 3, none⟩ (.slice az z.args.length cz)) ∧
              Rd requestSh ((((w5.setCell ⟨T2, 0, none⟩ (.int .i64 z.client)).setCell ⟨T2, 1, none⟩ (.int .u64 z.token)).setCell ⟨T2, 2, none⟩ (.string z.name)).setCell ⟨T2, 3, none⟩ (.slice az z.args.length cz)) (Fr w.heap.size ((((w5.setCell ⟨T2, 0, none⟩ (.int .i64 z.client)).setCell ⟨T2, 1, none⟩ (.int .u64 z.token)).setCell ⟨T2, 2, none⟩ (.string z.name)).setCell ⟨T2, 3, none⟩ (.slice az z.args.length cz)).heap.size) [.int .i64 z.client, .int .u64 z.token, .string z.name, .slice az z.args.length cz] z) := by
            refine ⟨H5.out.2.1.put HB.out.2.2.2.1 (by have := HT.out.1; omega) HT.out.2 _ _ _ _, ?_⟩
            have kf := keep_four w5 T2 (.int .i64 z.client) (.int .u64 z.token) (.string z.name) (.slice az z.args.length cz)
            have hsz := kf.size
            refine Rd.mono requestSh (H5.out.1.agree requestSh (kf.agree fun i _ hi e => ?_)) fun i _ hi => ⟨?_, ?_⟩
            · have h1 : i = T2 := e
              have h2 := hi.1
              have h3 := H5.out.2.2.1
              omega
            · exact Nat.le_trans H5.out.2.2.2 hi.1
            · exact Nat.lt_of_lt_of_le hi.2 hsz
          clear H5 z5
          go_wp2_with fail
          clear q2 f2 q5
          generalize ((((w5.setCell ⟨T2, 0, none⟩ (.int .i64 z.client)).setCell ⟨T2, 1, none⟩ (.int .u64 z.token)).setCell ⟨T2, 2, none⟩ (.string z.name)).setCell ⟨T2, 3, none⟩ (.slice az z.args.length cz)) = w6 at *
          have c6 := blk_cell HP.out.1.t2
          refine bodyPost_ret (v := .tuple #[.agg #[.int .i64 z.client, .int .u64 z.token, .string z.name, .slice az z.args.length cz], .int .i64 ez, .bool true]) (by simp [results, Tryz.results39, go_sem, c6]) rfl ?_
          rw [HX2.out]
          exact ⟨az, cz, rfl, HP.out.2, HP.out.1.st, HP.out.1.keep⟩
      · have hnx := next_none hsk hop he
        have he' : (er != 0) = true := by simpa using he
        have HX := Lib.hid hnx
        clear hnx he hop hsk
        go_upto_region 6 with (go_at_call 90; refine hopen.mono ?_; clear hopen qs; rintro e w2 ⟨a1, n1, c1, rfl, H2⟩)
        have HR := Lib.hid (H2.out.2.put HB.out.2.2.2.1 (by have := HT.out.1; omega) HT.out.2 (.int .i64 0) (.int .u64 0) (.string ⟨#[]⟩) (.slice none 0 0))
        have q2 := blk_cell H2.out.2.t2
        have f2 := blk_fro H2.out.2.t2
        clear H2
        go_wp2_with fail
        clear q2 f2
        generalize ((((w2.setCell ⟨T2, 0, none⟩ (.int .i64 0)).setCell ⟨T2, 1, none⟩ (.int .u64 0)).setCell ⟨T2, 2, none⟩ (.string ⟨#[]⟩)).setCell ⟨T2, 3, none⟩ (.slice none 0 0)) = w3 at *
        have c3 := blk_cell HR.out.t2
        refine bodyPost_ret (v := .tuple #[.agg #[.int .i64 req0.client, .int .u64 req0.token, .string req0.name, .slice none req0.args.length 0], .int .i64 0, .bool false]) (by simp [results, Tryz.results39, go_sem, c3, req0, mkReq, noText]; rfl) rfl ?_
        rw [HX.out]
        exact ⟨none, 0, rfl, req0_rd _ _, HR.out.st, HR.out.keep⟩
end Go.Proofs.YtpjcebajkfeacaaGreatDoor
