/-
  Parts of what is proved for this claim; each declaration is one of the seat's texts.
-/
import Derived.Test.YtpjcebajkfeacaaGreatDoorBGA
import Derived.Test.YtpjcebajkfeacaaGreatDoorBGB
import Derived.Test.YtpjcebajkfeacaaGreatDoorBGC
import Derived.Test.YtpjcebajkfeacaaGreatDoorBGF
import Derived.Test.YtpjcebajkfeacaaGreatDoorBGK
import Derived.Test.YtpjcebajkfeacaaGreatDoorBGO
import Derived.Test.YtpjcebajkfeacaaGreatDoorBGU
import Derived.Test.YtpjcebajkfeacaaGreatDoorBGV
import Derived.Test.YtpjcebajkfeacaaGreatDoorBHA
import Derived.Test.YtpjcebajkfeacaaGreatDoorBHB
import Derived.Test.YtpjcebajkfeacaaGreatDoorBHC
import Derived.WalkKit
import Derived.WalkSpells
import Derived.WalkLawsBesides
import Derived.ProofKit
import Derived.Deep.Slices
import Derived.Deep.AppendSrc
import Derived.Lib.Hide
import Derived.Lib.ItoaNum
import Derived.Lib.Join
import Derived.Still
import Derived.StillTactics
import Derived.Recover
import Derived.Defers
import Derived.Deep.QuietTactic
import Derived.BigQuiet
import Derived.Handy
import Derived.Laws.Bits64b
import Derived.Lib.Zigzag
import Derived.OwnWalk
import Derived.Deep.DeepCutAuto
import Derived.Deep.LoopGhost
import Derived.Lib.Bytealg
import Derived.Laws.Externs
import Derived.Laws.CopyRow
import Derived.Laws.IdiomCopy
import Derived.Maps.OwnSet
import Derived.Maps.RangeWalk
import Derived.Shelf.SortM.Plain
import Derived.Shelf.SortM.SortNone
import Derived.Ground.SlgmProg
import Derived.Deep.WholeRow
import Derived.Maps.OwnOps
import Derived.Maps.Views
set_option linter.unusedVariables false
set_option linter.unusedSimpArgs false
namespace Go.Proofs.YtpjcebajkfeacaaGreatDoor
open Go Go.RowKit Go.Deep
structure Prc.Home (p : Prc) : Prop where
  ok : p.Ok
  consts : p.pgm.consts = []
  code : p.pgm.code = [((31 : Int), (0 : Int), ())]
theorem pgOk_rd {w : World} {S : Nat → Prop} {a4 a5 : Option Addr} {c4 c5 : Nat} {p : Prc} (hh : p.Home) (h5 : Rd (.slice instrSh) w S [.slice a5 p.pgm.code.length c5] p.pgm.code) :
    PgOk w (.int .i64 p.pgm.args) (.slice a4 p.pgm.consts.length c4) (.slice a5 p.pgm.code.length c5) := by
  have hk := hh.ok.kinds
  have ha := hh.ok.args
  rw [hh.consts]
  rw [hh.code] at h5 ⊢
  obtain ⟨b, off, row, rfl, -, hb, hS, -, hrow, hx⟩ := h5.elem' 0 (by simp)
  obtain ⟨_, _, rfl, ⟨rfl, w1⟩, _, _, rfl, ⟨rfl, w2⟩, rfl⟩ := hx
  have p0 := (hrow 0 (by simp)).1
  have p1 := (hrow 1 (by simp)).1
  simp [Sh.size] at p0 p1
  exact pgCheck_any w p.pgm.args (by omega) (by omega) a4 c4 b off c5 p0 p1
theorem Prc.Home.lens {p : Prc} (h : p.Home) : p.kinds.length ≤ 1048576 ∧ p.reads.length ≤ 1048576 ∧ p.writes.length ≤ 1048576 ∧ p.pgm.consts.length ≤ 1048576 ∧ p.pgm.code.length ≤ 1048576 := by
  have h1 := h.ok.kinds
  have h2 := h.ok.nr
  have h3 := h.ok.nw
  rw [h.consts, h.code]
  exact ⟨by omega, by omega, by omega, by simp, by simp⟩
abbrev DVp := DataW Value
def heldP (v : Value) : Option (DVp × List MemPlace) := some (.held v, [])
def zeroP : Value := .agg #[.string ⟨#[]⟩, .slice none 0 0, .bool false, .slice none 0 0, .slice none 0 0, .int .i64 0, .slice none 0 0, .slice none 0 0]
def keyN (n : ByteArray) : Lit := .string n.data.toList
theorem keyN_inj {a b : ByteArray} (h : keyN a = keyN b) : a = b := by
  simp only [keyN, Lit.string.injEq] at h
  exact ByteArray.ext (Array.toList_inj.1 h)
def LibMap (w : World) (S : Nat → Prop) (m : Nat) (L : List Prc) : Prop :=
  ∃ D : DVp, w.ownsMap Tryz.prog 9 heldP m L.length D ∧ S m ∧ m < w.heap.size ∧
    ∀ n : ByteArray, match findP L n with
      | some p => Maps.has D (keyN n) = true ∧ ∃ cs : Array Value, D.atKey (keyN n) (.held zeroP) = .held (.agg cs) ∧ Rd procSh w (fun k => S k ∧ k ≠ m) cs.toList p
      | none => Maps.has D (keyN n) = false ∧ D.atKey (keyN n) (.held zeroP) = .held zeroP
theorem LibMap.keep {w w' : World} {S : Nat → Prop} {m : Nat} {L : List Prc} (h : LibMap w S m L) {M : Nat → Prop} (hk : Keep M w w') (hM : ∀ k, S k → ¬ M k) : LibMap w' S m L := by
  obtain ⟨D, ⟨es, clock, h1, h1'⟩, h2, h3, h4⟩ := h
  refine ⟨D, ⟨es, clock, (hk.block m (blk_lt h1) (hM m h2)).trans h1, h1'⟩, h2, Nat.lt_of_lt_of_le h3 hk.size, fun n => ?_⟩
  have := h4 n
  cases hf : findP L n with
  | none => rw [hf] at this; exact this
  | some p =>
    rw [hf] at this
    obtain ⟨a, cs, b, c⟩ := this
    exact ⟨a, cs, b, c.agree procSh (hk.agree fun k _ hs => hM k hs.1)⟩
theorem LibMap.new (w : World) (S : Nat → Prop) (h : S w.heap.size) : LibMap (w.alloc (.map #[] 0)) S w.heap.size [] := by
  refine ⟨.map [], World.ownsMap_made _ _ _ _, h, by simp, fun n => ?_⟩
  simp only [findP, List.find?_nil]
  exact ⟨rfl, rfl⟩
structure LibAt (w : World) (S : Nat → Prop) (B m : Nat) (L : List Prc) : Prop where
  blk : w.heap[B]? = some (.cells #[.map (some m)] 194 (0, 0))
  inS : S B
  ne : B ≠ m
  map : LibMap w (fun k => S k ∧ k ≠ B) m L
  home : ∀ p ∈ L, p.Home
  size : L.length ≤ 60
theorem LibAt.keep {w w' : World} {S : Nat → Prop} {B m : Nat} {L : List Prc} (h : LibAt w S B m L) {M : Nat → Prop} (hk : Keep M w w') (hM : ∀ k, S k → ¬ M k) : LibAt w' S B m L :=
  ⟨hk.blk h.blk (hM B h.inS), h.inS, h.ne, h.map.keep hk fun k hs => hM k hs.1, h.home, h.size⟩
theorem Tryz.zeroProc (w : World) : (zeroValue 130).run Tryz.prog w = .ok zeroP w := by kernel_rfl
theorem look_lib {w : World} {S : Nat → Prop} {m : Nat} {L : List Prc} (h : LibMap w S m L) (n : ByteArray) (hn : n.size ≤ 9223372036854775806) :
    ∃ v : Value, (∀ W, Keep No w W → (Instr.lookup 192 (.map (some m)) (.string n) true).run Tryz.prog W = .ok (.tuple #[v, .bool (findP L n).isSome]) W) ∧ ∃ cs : Array Value, v = .agg cs ∧ Rd procSh w S cs.toList ((findP L n).getD prc0) := by
  obtain ⟨D, hown, hS, hm, hall⟩ := h
  have hall := hall n
  have key : ∀ W, Keep No w W → ∃ v ps, (Instr.lookup 192 (.map (some m)) (.string n) true).run Tryz.prog W = .ok (.tuple #[v, .bool (Maps.has D (keyN n))]) W ∧ heldP v = some (D.atKey (keyN n) (.held zeroP), ps) := fun W hW => by
    obtain ⟨es, clock, h1, h1'⟩ := hown
    exact World.ownsMap.look_ok (R := heldP) ⟨es, clock, (hW.block m (blk_lt h1) (fun x => x)).trans h1, h1'⟩ (Maps.string_keyed Tryz.underlying9) Tryz.underlying192 (Tryz.zeroProc W) (zd := .held zeroP) rfl (WideMaps.keyOf_string_mk Tryz.underlying9 (by rw [maxLen_is]; omega))
  cases hf : findP L n with
  | none =>
    rw [hf] at hall
    refine ⟨zeroP, fun W hW => ?_, _, rfl, ?_⟩
    · obtain ⟨v, ps, hrun, hv⟩ := key W hW
      rw [hall.2] at hv
      simp only [heldP, Option.some.injEq, Prod.mk.injEq, DataW.held.injEq] at hv
      rw [hall.1, hv.1] at hrun
      exact hrun
    · have hz : ∀ s : Sh, Rd (.slice s) w S [.slice none 0 0] [] := fun s => ⟨none, 0, rfl, Nat.le_refl _, by rw [maxLen_is]; omega, fun _ => ⟨rfl, rfl⟩, fun i hi => absurd hi (by simp)⟩
      exact proc_mk prc0 (hz _) (hz _) (hz _) (hz _) (hz _) (by rw [maxLen_is]; show (0 : Nat) ≤ _; omega) (by decide)
  | some p =>
    rw [hf] at hall
    obtain ⟨a, cs, b, c⟩ := hall
    refine ⟨.agg cs, fun W hW => ?_, cs, rfl, c.mono procSh fun k _ hs => hs.1⟩
    obtain ⟨v, ps, hrun, hv⟩ := key W hW
    rw [b] at hv
    simp only [heldP, Option.some.injEq, Prod.mk.injEq, DataW.held.injEq] at hv
    rw [a, hv.1] at hrun
    exact hrun
theorem findP_mem {L : List Prc} {n : ByteArray} {p : Prc} (h : findP L n = some p) : p ∈ L ∧ p.name = n := by
  unfold findP at h
  exact ⟨List.mem_of_find?_eq_some h, by have := List.find?_some h; exact of_decide_eq_true this⟩
theorem blk_eight {w : World} {b : Nat} {x0 x1 x2 x3 x4 x5 x6 x7 : Value} {t : TypeId} (h : w.heap[b]? = some (.cells #[x0, x1, x2, x3, x4, x5, x6, x7] t (0, 0))) (y0 y1 y2 y3 y4 y5 y6 y7 : Value) :
    ((((((((w.setCell ⟨b, 0, none⟩ y0).setCell ⟨b, 1, none⟩ y1).setCell ⟨b, 2, none⟩ y2).setCell ⟨b, 3, none⟩ y3).setCell ⟨b, 4, none⟩ y4).setCell ⟨b, 5, none⟩ y5).setCell ⟨b, 6, none⟩ y6).setCell ⟨b, 7, none⟩ y7).heap[b]? = some (.cells #[y0, y1, y2, y3, y4, y5, y6, y7] t (0, 0)) := by
  have := blk_set (blk_set (blk_set (blk_set (blk_set (blk_set (blk_set (blk_set h 0 y0) 1 y1) 2 y2) 3 y3) 4 y4) 5 y5) 6 y6) 7 y7
  simpa using this
theorem keep_eight {M : Nat → Prop} {a w : World} (h : Keep M a w) {b : Nat} (hb : a.heap.size ≤ b) (y0 y1 y2 y3 y4 y5 y6 y7 : Value) : Keep M a ((((((((w.setCell ⟨b, 0, none⟩ y0).setCell ⟨b, 1, none⟩ y1).setCell ⟨b, 2, none⟩ y2).setCell ⟨b, 3, none⟩ y3).setCell ⟨b, 4, none⟩ y4).setCell ⟨b, 5, none⟩ y5).setCell ⟨b, 6, none⟩ y6).setCell ⟨b, 7, none⟩ y7) := by
  repeat (refine Keep.setNew ?_ (by exact hb) _)
  exact h
theorem agree_eight {S : Nat → Prop} {w : World} {b : Nat} (hb : ¬ S b) (y0 y1 y2 y3 y4 y5 y6 y7 : Value) : Agree S w ((((((((w.setCell ⟨b, 0, none⟩ y0).setCell ⟨b, 1, none⟩ y1).setCell ⟨b, 2, none⟩ y2).setCell ⟨b, 3, none⟩ y3).setCell ⟨b, 4, none⟩ y4).setCell ⟨b, 5, none⟩ y5).setCell ⟨b, 6, none⟩ y6).setCell ⟨b, 7, none⟩ y7) :=
  ((((((((keep_set w b 0 y0).trans (keep_set _ b 1 y1)).trans (keep_set _ b 2 y2)).trans (keep_set _ b 3 y3)).trans (keep_set _ b 4 y4)).trans (keep_set _ b 5 y5)).trans (keep_set _ b 6 y6)).trans (keep_set _ b 7 y7)).agree fun k _ hk e => hb (by have : k = b := e; rw [← this]; exact hk)
def Found (w : World) (L : List Prc) (n : ByteArray) (e : Ending) (w' : World) : Prop :=
  ∃ cs : Array Value, e = .returned (.tuple #[.agg cs, .bool (findP L n).isSome]) ∧ Rd procSh w' (Fr w.heap.size w'.heap.size) cs.toList ((findP L n).getD prc0) ∧ Keep No w w'
set_option maxRecDepth 10000 in
set_option maxHeartbeats 2000000 in
theorem find_lib (w : World) (S : Nat → Prop) (B m : Nat) (L : List Prc) (h : LibAt w S B m L) (n : ByteArray) (hn : n.size ≤ 9223372036854775806) :
    Calls Tryz.prog 74 #[.pointer (some ⟨B, 0, none⟩), .string n] w (Found w L n) := by
  obtain ⟨v, hrun, cs, rfl, hrd⟩ := look_lib h.map n hn
  have hl : ((findP L n).getD prc0).Home ∨ (findP L n).getD prc0 = prc0 := by
    cases hf : findP L n with
    | none => exact .inr rfl
    | some p => exact .inl (h.home p (findP_mem hf).1)
  have hlens : ((findP L n).getD prc0).kinds.length ≤ 1048576 ∧ ((findP L n).getD prc0).reads.length ≤ 1048576 ∧ ((findP L n).getD prc0).writes.length ≤ 1048576 ∧ ((findP L n).getD prc0).pgm.consts.length ≤ 1048576 ∧ ((findP L n).getD prc0).pgm.code.length ≤ 1048576 := by
    rcases hl with hl | hl
    · exact hl.lens
    · rw [hl]; decide
  generalize hpp : (findP L n).getD prc0 = p at *
  generalize hbb : (findP L n).isSome = bb at *
  have HPB := Lib.hid (And.intro hpp hbb)
  clear hpp hbb
  obtain ⟨a1, c1, a2, c2, a3, c3, a4, c4, a5, c5, hcs, h1, h2, h3, h4, h5, w1, w2⟩ := proc_cells hrd
  obtain rfl : cs = #[.string p.name, .slice a1 p.kinds.length c1, .bool p.dep, .slice a2 p.reads.length c2, .slice a3 p.writes.length c3, .int .i64 p.pgm.args, .slice a4 p.pgm.consts.length c4, .slice a5 p.pgm.code.length c5] := by
    cases cs; simp at hcs; rw [hcs]
  clear hcs h1 h2 h3 h4 h5 w1 w2 hl
  have K1 := (Keep.refl No w).alloc (.cells #[.string ⟨#[]⟩, .slice none 0 0, .bool false, .slice none 0 0, .slice none 0 0, .int .i64 0, .slice none 0 0, .slice none 0 0] 130)
  have q0 := blk_cell (blk_alloc (o' := .cells #[.string ⟨#[]⟩, .slice none 0 0, .bool false, .slice none 0 0, .slice none 0 0, .int .i64 0, .slice none 0 0, .slice none 0 0] 130) h.blk) 0
  have hr1 := hrun _ K1
  simp only [List.getElem?_toArray, List.getElem?_cons_zero] at q0
  go_enter Tryz.func74, Tryz.ntmps74
  go_wp2_with fail
  have K2 := Lib.hid (K1.alloc (.cells #[.string p.name, .slice a1 p.kinds.length c1, .bool p.dep, .slice a2 p.reads.length c2, .slice a3 p.writes.length c3, .int .i64 p.pgm.args, .slice a4 p.pgm.consts.length c4, .slice a5 p.pgm.code.length c5] 130))
  refine (ownPrc_any _ _ _ p (hrd.agree procSh K2.out.agreeNo) hlens.1 hlens.2.1 hlens.2.2.1 hlens.2.2.2.1 hlens.2.2.2.2).mono ?_
  rintro e w5 ⟨cs5, rfl, hr5, hk5⟩
  obtain ⟨b1, d1, b2, d2, b3, d3, b4, d4, b5, d5, hcs, -⟩ := proc_cells hr5
  obtain rfl : cs5 = #[.string p.name, .slice b1 p.kinds.length d1, .bool p.dep, .slice b2 p.reads.length d2, .slice b3 p.writes.length d3, .int .i64 p.pgm.args, .slice b4 p.pgm.consts.length d4, .slice b5 p.pgm.code.length d5] := by
    cases cs5; simp at hcs; rw [hcs]
  have x5 := hk5.blk (blk_alloc (o' := .cells #[.string p.name, .slice a1 p.kinds.length c1, .bool p.dep, .slice a2 p.reads.length c2, .slice a3 p.writes.length c3, .int .i64 p.pgm.args, .slice a4 p.pgm.consts.length c4, .slice a5 p.pgm.code.length c5] 130) (blk_new w (.cells #[.string ⟨#[]⟩, .slice none 0 0, .bool false, .slice none 0 0, .slice none 0 0, .int .i64 0, .slice none 0 0, .slice none 0 0] 130))) (fun x => x)
  have H5 := Lib.hid (And.intro hr5 (K2.out.trans hk5))
  have q5 := blk_cell x5
  have z5 := blk_fro x5
  have X5 := Lib.hid x5
  have hs5 := hk5.size
  simp only [World.size_alloc] at hs5
  have HS5 := Lib.hid hs5
  clear hr5 hk5 x5 hs5 hcs hr1 hrun q0 K1 hlens
  go_wp2_with fail
  have y5 := blk_eight X5.out (.string p.name) (.slice b1 p.kinds.length d1) (.bool p.dep) (.slice b2 p.reads.length d2) (.slice b3 p.writes.length d3) (.int .i64 p.pgm.args) (.slice b4 p.pgm.consts.length d4) (.slice b5 p.pgm.code.length d5)
  have k5 := keep_eight H5.out.2 (b := w.heap.size) (Nat.le_refl _) (.string p.name) (.slice b1 p.kinds.length d1) (.bool p.dep) (.slice b2 p.reads.length d2) (.slice b3 p.writes.length d3) (.int .i64 p.pgm.args) (.slice b4 p.pgm.consts.length d4) (.slice b5 p.pgm.code.length d5)
  have r5 : Rd procSh (((((((((w5.setCell ⟨w.heap.size, 0, none⟩ (.string p.name)).setCell ⟨w.heap.size, 1, none⟩ (.slice b1 p.kinds.length d1)).setCell ⟨w.heap.size, 2, none⟩ (.bool p.dep)).setCell ⟨w.heap.size, 3, none⟩ (.slice b2 p.reads.length d2)).setCell ⟨w.heap.size, 4, none⟩ (.slice b3 p.writes.length d3)).setCell ⟨w.heap.size, 5, none⟩ (.int .i64 p.pgm.args)).setCell ⟨w.heap.size, 6, none⟩ (.slice b4 p.pgm.consts.length d4)).setCell ⟨w.heap.size, 7, none⟩ (.slice b5 p.pgm.code.length d5))) (Fr w.heap.size w5.heap.size) #[.string p.name, .slice b1 p.kinds.length d1, .bool p.dep, .slice b2 p.reads.length d2, .slice b3 p.writes.length d3, .int .i64 p.pgm.args, .slice b4 p.pgm.consts.length d4, .slice b5 p.pgm.code.length d5].toList p := by
    have hm : Rd procSh w5 (Fr (w.heap.size + 1) w5.heap.size) #[.string p.name, .slice b1 p.kinds.length d1, .bool p.dep, .slice b2 p.reads.length d2, .slice b3 p.writes.length d3, .int .i64 p.pgm.args, .slice b4 p.pgm.consts.length d4, .slice b5 p.pgm.code.length d5].toList p := H5.out.1.mono procSh fun k _ hk => ⟨by have := hk.1; simp only [World.size_alloc] at this; omega, hk.2⟩
    have hag := agree_eight (S := Fr (w.heap.size + 1) w5.heap.size) (w := w5) (b := w.heap.size) (fun h => by have := h.1; omega) (.string p.name) (.slice b1 p.kinds.length d1) (.bool p.dep) (.slice b2 p.reads.length d2) (.slice b3 p.writes.length d3) (.int .i64 p.pgm.args) (.slice b4 p.pgm.consts.length d4) (.slice b5 p.pgm.code.length d5)
    exact (hm.agree procSh hag).mono procSh fun k _ hk => ⟨by have := hk.1; omega, hk.2⟩
  have s2 := blk_cell y5
  refine bodyPost_ret (v := .tuple #[.agg #[.string p.name, .slice b1 p.kinds.length d1, .bool p.dep, .slice b2 p.reads.length d2, .slice b3 p.writes.length d3, .int .i64 p.pgm.args, .slice b4 p.pgm.consts.length d4, .slice b5 p.pgm.code.length d5], .bool bb]) (by simp [results, Tryz.results74, go_sem, s2]) rfl ?_
  refine ⟨_, by rw [HPB.out.2], ?_, k5⟩
  rw [HPB.out.1]
  simpa using r5
end Go.Proofs.YtpjcebajkfeacaaGreatDoor
namespace Go.Proofs.YtpjcebajkfeacaaGreatDoor
open Go Go.RowKit Go.Deep
theorem findP_snoc (L : List Prc) (p : Prc) (n : ByteArray) (hp : findP L p.name = none) : findP (L ++ [p]) n = if p.name = n then some p else findP L n := by
  unfold findP at *
  rw [List.find?_append]
  by_cases e : p.name = n
  · subst e
    rw [hp, if_pos rfl]
    simp
  · rw [if_neg e]
    simp [e]
theorem put_lib {w : World} {S : Nat → Prop} {m : Nat} {L : List Prc} (h : LibMap w S m L) (hL : L.length ≤ 60) (p : Prc) (hp : findP L p.name = none) (hn : p.name.size ≤ 9223372036854775806) :
    (∃ z : Int, 0 ≤ z ∧ z ≤ 60 ∧ ∀ W ty, Keep No w W → (Builtin.len_ #[192] ty #[.map (some m)]).run Tryz.prog W = .ok (.int .i64 z) W) ∧
    ∀ W, Keep No w W → ∀ cs : Array Value, Rd procSh W (Fr w.heap.size W.heap.size) cs.toList p → ∃ w', (Instr.mapUpdate 192 (.map (some m)) (.string p.name) (.agg cs)).run Tryz.prog W = .ok () w' ∧
      LibMap w' (fun k => S k ∨ (w.heap.size ≤ k ∧ k < w'.heap.size)) m (L ++ [p]) ∧ Keep (One m) W w' := by
  obtain ⟨D, hown, hS, hm, hall⟩ := h
  have hmk : ∀ W, Keep No w W → W.ownsMap Tryz.prog 9 heldP m L.length D := fun W hW => by
    obtain ⟨es, clock, h1, h1'⟩ := hown
    exact ⟨es, clock, (hW.block m (blk_lt h1) (fun x => x)).trans h1, h1'⟩
  refine ⟨⟨Maps.size D, by omega, by have := hown.size_le; omega, fun W ty hW => (hmk W hW).len Tryz.underlying192 ty⟩, fun W hW cs hcs => ?_⟩
  have hkey : keyOf Tryz.prog 9 (.string p.name) = some (keyN p.name) := WideMaps.keyOf_string_mk Tryz.underlying9 (by rw [maxLen_is]; omega)
  have K := Maps.string_keyed Tryz.underlying9
  obtain ⟨w', hrun, ho, ht⟩ := (hmk W hW).store K Tryz.underlying192 (by rw [maxLen_is]; omega) (val := .agg cs) (d := .held (.agg cs)) hkey rfl
  have k2 : Keep (One m) W w' := (Keep.grown ht.grown).mono fun i _ hi => Option.some.inj hi
  refine ⟨w', hrun, ⟨D.put (keyN p.name) (.held (.agg cs)), by simpa using ho, .inl hS, Nat.lt_of_lt_of_le hm (Nat.le_trans hW.size k2.size), fun n => ?_⟩, k2⟩
  rw [findP_snoc L p n hp]
  by_cases e : p.name = n
  · subst e
    simp only [if_true]
    refine ⟨?_, cs, ?_, (hcs.agree procSh (k2.agree fun k _ hk e => by have : k = m := e; have := hk.1; omega)).mono procSh fun k _ hk => ⟨.inr ⟨hk.1, Nat.lt_of_lt_of_le hk.2 k2.size⟩, fun e => by have := hk.1; omega⟩⟩
    · exact Maps.has_put_same (hmk W hW).isMap (K.key hkey) _
    · rw [Maps.atKey_put_same (hmk W hW).isMap (K.key hkey)]
  · have hne : keyN n ≠ keyN p.name := fun h => e (keyN_inj h).symm
    have := hall n
    rw [if_neg e]
    cases hf : findP L n with
    | none =>
      rw [hf] at this
      refine ⟨?_, ?_⟩
      · rw [Maps.has_put_other hne]; exact this.1
      · rw [Maps.atKey_put_other hne]; exact this.2
    | some q =>
      rw [hf] at this
      obtain ⟨a, ds, b, c⟩ := this
      refine ⟨?_, ds, ?_, ((c.agree procSh hW.agreeNo).agree procSh (k2.agree fun k _ hk e => hk.2 e)).mono procSh fun k _ hk => ⟨.inl hk.1, hk.2⟩⟩
      · rw [Maps.has_put_other hne]; exact a
      · rw [Maps.atKey_put_other hne]; exact b
def AddedP (w : World) (S : Nat → Prop) (B m : Nat) (L : List Prc) (e : Ending) (w' : World) : Prop :=
  e = .returned (.int .i64 0) ∧ LibAt w' (fun k => S k ∨ (w.heap.size ≤ k ∧ k < w'.heap.size)) B m L ∧ Keep (One m) w w'
set_option maxRecDepth 10000 in
set_option maxHeartbeats 4000000 in
theorem add_lib (w : World) (S T : Nat → Prop) (B m : Nat) (L : List Prc) (h : LibAt w S B m L) (cs : List Value) (p : Prc) (hr : Rd procSh w T cs p) (hh : p.Home) (hp : findP L p.name = none) (hL : L.length + 1 ≤ 60) :
    Calls Tryz.prog 132 #[.pointer (some ⟨B, 0, none⟩), .agg cs.toArray] w (AddedP w S B m (L ++ [p])) := by
  have hn : p.name.size ≤ 9223372036854775806 := by have := nameOk_size hh.ok.name; omega
  obtain ⟨a1, c1, a2, c2, a3, c3, a4, c4, a5, c5, rfl, h1, h2, h3, h4, h5, w1, w2⟩ := proc_cells hr
  obtain ⟨v0, hlook, cs0, rfl, hrd0⟩ := look_lib h.map p.name hn
  rw [hp] at hlook hrd0
  simp only [Option.getD_none, Option.isSome_none] at hlook hrd0
  obtain ⟨z1, d1, z2, d2, z3, d3, z4, d4, z5, d5, hcs, -⟩ := proc_cells hrd0
  obtain rfl : cs0 = #[.string prc0.name, .slice z1 prc0.kinds.length d1, .bool prc0.dep, .slice z2 prc0.reads.length d2, .slice z3 prc0.writes.length d3, .int .i64 prc0.pgm.args, .slice z4 prc0.pgm.consts.length d4, .slice z5 prc0.pgm.code.length d5] := by
    cases cs0; simp at hcs; rw [hcs]
  obtain ⟨⟨z, hz0, hz1, hlen⟩, hput⟩ := put_lib h.map (by omega) p hp hn
  have K1 := (Keep.refl No w).alloc (.cells #[.string p.name, .slice a1 p.kinds.length c1, .bool p.dep, .slice a2 p.reads.length c2, .slice a3 p.writes.length c3, .int .i64 p.pgm.args, .slice a4 p.pgm.consts.length c4, .slice a5 p.pgm.code.length c5] 130)
  have x1 := blk_new w (.cells #[.string p.name, .slice a1 p.kinds.length c1, .bool p.dep, .slice a2 p.reads.length c2, .slice a3 p.writes.length c3, .int .i64 p.pgm.args, .slice a4 p.pgm.consts.length c4, .slice a5 p.pgm.code.length c5] 130)
  have hch := (libCheck_ok _ T p.kinds.length p.reads.length p.writes.length c1 c2 c3 a1 a2 a3 (.slice a4 p.pgm.consts.length c4) (.slice a5 p.pgm.code.length c5) p rfl rfl rfl (h1.agree _ K1.agreeNo) (h2.agree _ K1.agreeNo) (h3.agree _ K1.agreeNo) hh.ok (pgOk_rd hh (h5.agree _ K1.agreeNo))).mono (R' := fun e w2 => e = .returned (.int .i64 0) ∧ RowKit.Hid (Keep No (w.alloc (.cells #[.string p.name, .slice a1 p.kinds.length c1, .bool p.dep, .slice a2 p.reads.length c2, .slice a3 p.writes.length c3, .int .i64 p.pgm.args, .slice a4 p.pgm.consts.length c4, .slice a5 p.pgm.code.length c5] 130)) w2)) (by
    rintro e w2 ⟨rfl, hk⟩
    exact ⟨rfl, hk⟩)
  have HX := Lib.hid (And.intro K1 (And.intro x1 (And.intro h.blk hr)))
  have HLK := Lib.hid hlook
  have HLN := Lib.hid hlen
  have HPUT := Lib.hid hput
  have HH := Lib.hid (And.intro h (And.intro hh (And.intro hp hL)))
  have q1 := blk_cell x1
  clear hcs hrd0 hlook hlen hput K1 x1 h h1 h2 h3 h4 h5 w1 w2 hr hh hp hL
  go_enter Tryz.func132, Tryz.ntmps132
  go_wp2_with (go_at_call 136; refine hch.mono ?_; clear hch; rintro e w3 ⟨rfl, HK3⟩)
  have k3 := HX.out.1.trans HK3.out
  have K4 := Lib.hid (k3.drew)
  have x3 := (HK3.out.blk HX.out.2.1 (fun x => x))
  have b3 := k3.blk HX.out.2.2.1 (fun x => x)
  have hl3 := HLK.out w3.drew k3.drew
  have hl4 := HLK.out (w3.drew.alloc (.cells #[.string ⟨#[]⟩, .slice none 0 0, .bool false, .slice none 0 0, .slice none 0 0, .int .i64 0, .slice none 0 0, .slice none 0 0] 130)) (k3.drew.alloc _)
  have q3 := blk_cell (w := w3.drew) x3
  have q4 := blk_cell (blk_alloc (w := w3.drew) (o' := .cells #[.string ⟨#[]⟩, .slice none 0 0, .bool false, .slice none 0 0, .slice none 0 0, .int .i64 0, .slice none 0 0, .slice none 0 0] 130) x3)
  have r3 := blk_cell (w := w3.drew) b3
  have r4 := blk_cell (blk_alloc (w := w3.drew) (o' := .cells #[.string ⟨#[]⟩, .slice none 0 0, .bool false, .slice none 0 0, .slice none 0 0, .int .i64 0, .slice none 0 0, .slice none 0 0] 130) b3)
  have X4 := Lib.hid (And.intro (show w3.drew.heap[w.heap.size]? = _ from x3) (show w3.drew.heap[B]? = _ from b3))
  clear k3 q1 x3 b3
  go_upto_region 4 with fail
  refine wp_region_canw [0, 1, 2, 3, 4, 5, 6, 7, 8, 9, 10, 11, 12] [10, 11] [(0, 10), (1, 10), (2, 10), (3, 10), (4, 10), (5, 10), (6, 10), (7, 10), (8, 10), (9, 10), (9, 11)] (by kernel_rfl) (by kernel_rfl) (by kernel_rfl) (by kernel_rfl) (by intro c a d v w h; cases d <;> exact h) ?_
  generalize w3.drew = w4 at *
  iterate 10 (refine canw_sil rfl rfl (fun K hK => ?_); go_simp; refine hK _ ?_; clear hK K)
  refine canw_loud [0, 1, 2, 3, 4, 5, 6, 7, 8, 9] rfl rfl rfl (fun K hK => ?_)
  go_wp2_with fail
  refine Mid.normal (hK _ _ ?_ ?_)
  · simp only [List.forall_mem_cons]
    refine ⟨?_, ?_, ?_, ?_, ?_, ?_, ?_, ?_, ?_, ?_, stabs_nil⟩ <;> exact stab_of rfl (fun K hK => by go_simp; exact hK)
  clear hK K
  refine canw_loud [9] rfl rfl rfl (fun K hK => ?_)
  go_wp2_with fail
  refine Mid.normal (hK _ _ ?_ ?_)
  · simp only [List.forall_mem_cons]
    refine ⟨?_, stabs_nil⟩ <;> exact stab_of rfl (fun K hK => by go_simp; exact hK)
  clear hK K
  iterate 1 (refine canw_sil rfl rfl (fun K hK => ?_); go_simp; refine hK _ ?_; clear hK K)
  refine canw_nil ?_
  have K5 := Lib.hid (K4.out.alloc (.cells #[.string prc0.name, .slice z1 prc0.kinds.length d1, .bool prc0.dep, .slice z2 prc0.reads.length d2, .slice z3 prc0.writes.length d3, .int .i64 prc0.pgm.args, .slice z4 prc0.pgm.consts.length d4, .slice z5 prc0.pgm.code.length d5] 130))
  have X5 := Lib.hid (And.intro (blk_alloc (o' := .cells #[.string prc0.name, .slice z1 prc0.kinds.length d1, .bool prc0.dep, .slice z2 prc0.reads.length d2, .slice z3 prc0.writes.length d3, .int .i64 prc0.pgm.args, .slice z4 prc0.pgm.consts.length d4, .slice z5 prc0.pgm.code.length d5] 130) X4.out.1) (blk_alloc (o' := .cells #[.string prc0.name, .slice z1 prc0.kinds.length d1, .bool prc0.dep, .slice z2 prc0.reads.length d2, .slice z3 prc0.writes.length d3, .int .i64 prc0.pgm.args, .slice z4 prc0.pgm.consts.length d4, .slice z5 prc0.pgm.code.length d5] 130) X4.out.2))
  have q5 := blk_cell X5.out.1
  have r5 := blk_cell X5.out.2
  have hlen := fun ty => HLN.out _ ty K5.out
  have z64 : ¬ z = 64 := by omega
  have z64' : (z == 64) = false := by simpa using z64
  clear hl3 hl4 q3 q4 r3 r4 K4 X4
  generalize w4.alloc (.cells #[.string prc0.name, .slice z1 prc0.kinds.length d1, .bool prc0.dep, .slice z2 prc0.reads.length d2, .slice z3 prc0.writes.length d3, .int .i64 prc0.pgm.args, .slice z4 prc0.pgm.consts.length d4, .slice z5 prc0.pgm.code.length d5] 130) = w5 at *
  go_upto_region 9 with fail
  clear hlen z64 z64' q5 r5
  have K6 := Lib.hid (K5.out.drew)
  have X6 := Lib.hid (And.intro (show w5.drew.heap[w.heap.size]? = _ from X5.out.1) (show w5.drew.heap[B]? = _ from X5.out.2))
  have q6 := blk_cell X6.out.1
  have r6 := blk_cell X6.out.2
  have hl := HH.out.2.1.lens
  have hown := (ownPrc_any w5.drew T _ p (HX.out.2.2.2.agree procSh K6.out.agreeNo) hl.1 hl.2.1 hl.2.2.1 hl.2.2.2.1 hl.2.2.2.2).mono (R' := fun e w7 => ∃ cs : Array Value, e = .returned (.agg cs) ∧ RowKit.Hid (Rd procSh w7 (Fr w.heap.size w7.heap.size) cs.toList p ∧ Keep No w5.drew w7)) (by
    rintro e w7 ⟨cs, rfl, hr7, hk7⟩
    exact ⟨cs, rfl, hr7.mono procSh fun k _ hk => ⟨Nat.le_trans K6.out.size hk.1, hk.2⟩, hk7⟩)
  clear hl K5 X5
  refine wp_region_canw [0, 1, 2, 3, 4, 5, 6, 7, 8] [7, 8] [(0, 7), (1, 7), (2, 7), (3, 7), (4, 7), (5, 7)] (by kernel_rfl) (by kernel_rfl) (by kernel_rfl) (by kernel_rfl) (by intro c a d v w h; cases d <;> exact h) ?_
  generalize w5.drew = w6 at *
  iterate 7 (refine canw_sil rfl rfl (fun K hK => ?_); go_simp; refine hK _ ?_; clear hK K)
  refine canw_loud [0, 1, 2, 3, 4, 5] rfl rfl rfl (fun K hK => ?_)
  go_wp2_with (go_at_call 135; refine hown.mono ?_; clear hown; rintro e w7 ⟨cs7, rfl, H7⟩)
  have X7 := Lib.hid (And.intro (H7.out.2.blk X6.out.1 (fun x => x)) (H7.out.2.blk X6.out.2 (fun x => x)))
  have q7 := blk_cell X7.out.1
  have r7 := blk_cell X7.out.2
  refine Mid.normal (hK _ _ ?_ ?_)
  · simp only [List.forall_mem_cons]
    refine ⟨?_, ?_, ?_, ?_, ?_, ?_, stabs_nil⟩ <;> exact stab_of rfl (fun K hK => by go_simp; exact hK)
  clear hK K q6 r6
  obtain ⟨w8, hrun, hmap, hk8⟩ := HPUT.out w7 (K6.out.trans H7.out.2) cs7 H7.out.1
  have H8 := Lib.hid (And.intro hmap hk8)
  clear hmap hk8
  refine canw_loud [] rfl rfl rfl (fun K hK => ?_)
  go_wp2_with fail
  refine Mid.normal (hK _ _ stabs_nil ?_)
  clear hK K hrun
  refine canw_nil ?_
  go_wp2_with fail
  go_ret
  have hk78 : Keep (One m) w w8 := ((Keep.refl (One m) w).thenNo (K6.out.trans H7.out.2)).trans H8.out.2
  have hLA := HH.out.1
  refine ⟨rfl, ⟨H8.out.2.blk X7.out.2 (fun e => hLA.ne e), .inl hLA.inS, hLA.ne, ?_, ?_, by have := HH.out.2.2.2; simp; omega⟩, hk78⟩
  · obtain ⟨D, ho, hs, hm, hall⟩ := H8.out.1
    have hBw : B < w.heap.size := blk_lt hLA.blk
    have hsub : ∀ k, ((S k ∧ k ≠ B) ∨ (w.heap.size ≤ k ∧ k < w8.heap.size)) → ((S k ∨ (w.heap.size ≤ k ∧ k < w8.heap.size)) ∧ k ≠ B) := fun k hk => hk.elim (fun h => ⟨.inl h.1, h.2⟩) (fun h => ⟨.inr h, fun e => by omega⟩)
    refine ⟨D, ho, hsub m hs, hm, fun n => ?_⟩
    have := hall n
    cases hf : findP (L ++ [p]) n with
    | none => rw [hf] at this; exact this
    | some q =>
      rw [hf] at this
      obtain ⟨a, ds, b, c⟩ := this
      exact ⟨a, ds, b, c.mono procSh fun k _ hk => ⟨hsub k hk.1, hk.2⟩⟩
  · intro q hq
    rcases List.mem_append.1 hq with hq | hq
    · exact hLA.home q hq
    · simp at hq; subst hq; exact HH.out.2.1
end Go.Proofs.YtpjcebajkfeacaaGreatDoor
