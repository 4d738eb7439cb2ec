/-
  Parts of what is proved for this claim; each declaration is one of the seat's texts.
-/
import Derived.Test.YtfgdnakfikpmpaaGreatDoorFPG
set_option linter.unusedVariables false
set_option linter.unusedSimpArgs false
namespace Go.Proofs.YtfgdnakfikpmpaaGreatDoor
open Go Go.RowKit Go.Deep
structure Prc.Home (p : Prc) : Prop where
  ok : p.Ok
  pgm : pgmE p.pgm.args p.pgm.consts p.pgm.code = (0, 0)
theorem Prc.Home.lens {p : Prc} (h : p.Home) : p.kinds.length ≤ 1048576 ∧ p.reads.length ≤ 1048576 ∧ p.writes.length ≤ 1048576 ∧ p.pgm.consts.length ≤ 1048576 ∧ p.pgm.code.length ≤ 1048576 := by
  have h1 := h.ok.kinds
  have h2 := h.ok.nr
  have h3 := h.ok.nw
  have h4 := pgmE_len h.pgm
  exact ⟨by omega, by omega, by omega, by omega, by omega⟩
theorem pgOk_rd {w : World} {S : Nat → Prop} {a4 a5 : Option Addr} {c4 c5 : Nat} {p : Prc} (hh : p.Home) (h4 : Rd (.slice valueSh) w S [.slice a4 p.pgm.consts.length c4] p.pgm.consts) (h5 : Rd (.slice instrSh) w S [.slice a5 p.pgm.code.length c5] p.pgm.code) :
    PgOk w (.int .i64 p.pgm.args) (.slice a4 p.pgm.consts.length c4) (.slice a5 p.pgm.code.length c5) := fun W hW => by
  have := pgCheck_g (args := p.pgm.args) h4 h5 W hW
  rw [hh.pgm] at this
  exact this
abbrev DVp := DataW Value
def heldP (v : Value) : Option (DVp × List MemPlace) := some (.held v, [])
def zeroP : Value := .agg #[.string ⟨#[]⟩, .slice none 0 0, .bool false, .slice none 0 0, .slice none 0 0, .int .i64 0, .slice none 0 0, .slice none 0 0]
def keyN (n : ByteArray) : Lit := .string n.data.toList
theorem keyN_inj {a b : ByteArray} (h : keyN a = keyN b) : a = b := by
  simp only [keyN, Lit.string.injEq] at h
  exact ByteArray.ext (Array.toList_inj.1 h)
def LibMap (w : World) (S : Nat → Prop) (m : Nat) (L : List Prc) : Prop :=
  ∃ D : DVp, w.ownsMap Tryz.prog 9 heldP m L.length D ∧ S m ∧ m < w.heap.size ∧ Maps.size D = L.length ∧
    ∀ n : ByteArray, match findP L n with
      | some p => Maps.has D (keyN n) = true ∧ ∃ cs : Array Value, D.atKey (keyN n) (.held zeroP) = .held (.agg cs) ∧ Rd procSh w (fun k => S k ∧ k ≠ m) cs.toList p
      | none => Maps.has D (keyN n) = false ∧ D.atKey (keyN n) (.held zeroP) = .held zeroP
theorem LibMap.keep {w w' : World} {S : Nat → Prop} {m : Nat} {L : List Prc} (h : LibMap w S m L) {M : Nat → Prop} (hk : Keep M w w') (hM : ∀ k, S k → ¬ M k) : LibMap w' S m L := by
  obtain ⟨D, ⟨es, clock, h1, h1'⟩, h2, h3, hsz, h4⟩ := h
  refine ⟨D, ⟨es, clock, (hk.block m (blk_lt h1) (hM m h2)).trans h1, h1'⟩, h2, Nat.lt_of_lt_of_le h3 hk.size, hsz, fun n => ?_⟩
  have := h4 n
  cases hf : findP L n with
  | none => rw [hf] at this; exact this
  | some p =>
    rw [hf] at this
    obtain ⟨a, cs, b, c⟩ := this
    exact ⟨a, cs, b, c.agree procSh (hk.agree fun k _ hs => hM k hs.1)⟩
theorem LibMap.new (w : World) (S : Nat → Prop) (h : S w.heap.size) : LibMap (w.alloc (.map #[] 0)) S w.heap.size [] := by
  refine ⟨.map [], World.ownsMap_made _ _ _ _, h, by simp, rfl, fun n => ?_⟩
  simp only [findP, List.find?_nil]
  exact ⟨rfl, rfl⟩
structure LibAt (w : World) (S : Nat → Prop) (B m : Nat) (L : List Prc) : Prop where
  blk : w.heap[B]? = some (.cells #[.map (some m)] 101 (0, 0))
  inS : S B
  ne : B ≠ m
  map : LibMap w (fun k => S k ∧ k ≠ B) m L
  home : ∀ p ∈ L, p.Home
  size : L.length ≤ 64
theorem LibAt.keep {w w' : World} {S : Nat → Prop} {B m : Nat} {L : List Prc} (h : LibAt w S B m L) {M : Nat → Prop} (hk : Keep M w w') (hM : ∀ k, S k → ¬ M k) : LibAt w' S B m L :=
  ⟨hk.blk h.blk (hM B h.inS), h.inS, h.ne, h.map.keep hk fun k hs => hM k hs.1, h.home, h.size⟩
theorem Tryz.zeroProc (w : World) : (zeroValue 29).run Tryz.prog w = .ok zeroP w := by kernel_rfl
theorem look_lib {w : World} {S : Nat → Prop} {m : Nat} {L : List Prc} (h : LibMap w S m L) (n : ByteArray) (hn : n.size ≤ 9223372036854775806) :
    ∃ v : Value, (∀ W, Keep No w W → (Instr.lookup 99 (.map (some m)) (.string n) true).run Tryz.prog W = .ok (.tuple #[v, .bool (findP L n).isSome]) W) ∧ ∃ cs : Array Value, v = .agg cs ∧ Rd procSh w S cs.toList ((findP L n).getD prc0) := by
  obtain ⟨D, hown, hS, hm, hsz, hall⟩ := h
  have hall := hall n
  have key : ∀ W, Keep No w W → ∃ v ps, (Instr.lookup 99 (.map (some m)) (.string n) true).run Tryz.prog W = .ok (.tuple #[v, .bool (Maps.has D (keyN n))]) W ∧ heldP v = some (D.atKey (keyN n) (.held zeroP), ps) := fun W hW => by
    obtain ⟨es, clock, h1, h1'⟩ := hown
    exact World.ownsMap.look_ok (R := heldP) ⟨es, clock, (hW.block m (blk_lt h1) (fun x => x)).trans h1, h1'⟩ (Maps.string_keyed Tryz.underlying9) Tryz.underlying99 (Tryz.zeroProc W) (zd := .held zeroP) rfl (WideMaps.keyOf_string_mk Tryz.underlying9 (by rw [maxLen_is]; omega))
  cases hf : findP L n with
  | none =>
    rw [hf] at hall
    refine ⟨zeroP, fun W hW => ?_, _, rfl, ?_⟩
    · obtain ⟨v, ps, hrun, hv⟩ := key W hW
      rw [hall.2] at hv
      simp only [heldP, Option.some.injEq, Prod.mk.injEq, DataW.held.injEq] at hv
      rw [hall.1, hv.1] at hrun
      exact hrun
    · have hz : ∀ s : Sh, Rd (.slice s) w S [.slice none 0 0] [] := fun s => ⟨none, 0, rfl, Nat.le_refl _, by rw [maxLen_is]; omega, fun _ => ⟨rfl, rfl⟩, fun i hi => absurd hi (by simp)⟩
      exact proc_mk prc0 (hz _) (hz _) (hz _) (hz _) (hz _) (by rw [maxLen_is]; show (0 : Nat) ≤ _; omega) (by decide)
  | some p =>
    rw [hf] at hall
    obtain ⟨a, cs, b, c⟩ := hall
    refine ⟨.agg cs, fun W hW => ?_, cs, rfl, c.mono procSh fun k _ hs => hs.1⟩
    obtain ⟨v, ps, hrun, hv⟩ := key W hW
    rw [b] at hv
    simp only [heldP, Option.some.injEq, Prod.mk.injEq, DataW.held.injEq] at hv
    rw [a, hv.1] at hrun
    exact hrun
theorem findP_mem {L : List Prc} {n : ByteArray} {p : Prc} (h : findP L n = some p) : p ∈ L ∧ p.name = n := by
  unfold findP at h
  exact ⟨List.mem_of_find?_eq_some h, by have := List.find?_some h; exact of_decide_eq_true this⟩
theorem blk_eight {w : World} {b : Nat} {x0 x1 x2 x3 x4 x5 x6 x7 : Value} {t : TypeId} (h : w.heap[b]? = some (.cells #[x0, x1, x2, x3, x4, x5, x6, x7] t (0, 0))) (y0 y1 y2 y3 y4 y5 y6 y7 : Value) :
    ((((((((w.setCell ⟨b, 0, none⟩ y0).setCell ⟨b, 1, none⟩ y1).setCell ⟨b, 2, none⟩ y2).setCell ⟨b, 3, none⟩ y3).setCell ⟨b, 4, none⟩ y4).setCell ⟨b, 5, none⟩ y5).setCell ⟨b, 6, none⟩ y6).setCell ⟨b, 7, none⟩ y7).heap[b]? = some (.cells #[y0, y1, y2, y3, y4, y5, y6, y7] t (0, 0)) := by
  have := blk_set (blk_set (blk_set (blk_set (blk_set (blk_set (blk_set (blk_set h 0 y0) 1 y1) 2 y2) 3 y3) 4 y4) 5 y5) 6 y6) 7 y7
  simpa using this
theorem keep_eight {M : Nat → Prop} {a w : World} (h : Keep M a w) {b : Nat} (hb : a.heap.size ≤ b) (y0 y1 y2 y3 y4 y5 y6 y7 : Value) : Keep M a ((((((((w.setCell ⟨b, 0, none⟩ y0).setCell ⟨b, 1, none⟩ y1).setCell ⟨b, 2, none⟩ y2).setCell ⟨b, 3, none⟩ y3).setCell ⟨b, 4, none⟩ y4).setCell ⟨b, 5, none⟩ y5).setCell ⟨b, 6, none⟩ y6).setCell ⟨b, 7, none⟩ y7) := by
  repeat (refine Keep.setNew ?_ (by exact hb) _)
  exact h
theorem agree_eight {S : Nat → Prop} {w : World} {b : Nat} (hb : ¬ S b) (y0 y1 y2 y3 y4 y5 y6 y7 : Value) : Agree S w ((((((((w.setCell ⟨b, 0, none⟩ y0).setCell ⟨b, 1, none⟩ y1).setCell ⟨b, 2, none⟩ y2).setCell ⟨b, 3, none⟩ y3).setCell ⟨b, 4, none⟩ y4).setCell ⟨b, 5, none⟩ y5).setCell ⟨b, 6, none⟩ y6).setCell ⟨b, 7, none⟩ y7) :=
  ((((((((keep_set w b 0 y0).trans (keep_set _ b 1 y1)).trans (keep_set _ b 2 y2)).trans (keep_set _ b 3 y3)).trans (keep_set _ b 4 y4)).trans (keep_set _ b 5 y5)).trans (keep_set _ b 6 y6)).trans (keep_set _ b 7 y7)).agree fun k _ hk e => hb (by have : k = b := e; rw [← this]; exact hk)
def Found (w : World) (L : List Prc) (n : ByteArray) (e : Ending) (w' : World) : Prop :=
  ∃ cs : Array Value, e = .returned (.tuple #[.agg cs, .bool (findP L n).isSome]) ∧ Rd procSh w' (Fr w.heap.size w'.heap.size) cs.toList ((findP L n).getD prc0) ∧ Keep No w w'
set_option maxRecDepth 10000 in
set_option maxHeartbeats 2000000 in
theorem find_lib (w : World) (S : Nat → Prop) (B m : Nat) (L : List Prc) (h : LibAt w S B m L) (n : ByteArray) (hn : n.size ≤ 9223372036854775806) :
    Calls Tryz.prog 31 #[.pointer (some ⟨B, 0, none⟩), .string n] w (Found w L n) := by
  obtain ⟨v, hrun, cs, rfl, hrd⟩ := look_lib h.map n hn
  have hl : ((findP L n).getD prc0).Home ∨ (findP L n).getD prc0 = prc0 := by
    cases hf : findP L n with
    | none => exact .inr rfl
    | some p => exact .inl (h.home p (findP_mem hf).1)
  have hlens : ((findP L n).getD prc0).kinds.length ≤ 1048576 ∧ ((findP L n).getD prc0).reads.length ≤ 1048576 ∧ ((findP L n).getD prc0).writes.length ≤ 1048576 ∧ ((findP L n).getD prc0).pgm.consts.length ≤ 1048576 ∧ ((findP L n).getD prc0).pgm.code.length ≤ 1048576 := by
    rcases hl with hl | hl
    · exact hl.lens
    · rw [hl]; decide
  generalize hpp : (findP L n).getD prc0 = p at *
  generalize hbb : (findP L n).isSome = bb at *
  have HPB := Lib.hid (And.intro hpp hbb)
  clear hpp hbb
  obtain ⟨a1, c1, a2, c2, a3, c3, a4, c4, a5, c5, hcs, h1, h2, h3, h4, h5, w1, w2⟩ := proc_cells hrd
  obtain rfl : cs = #[.string p.name, .slice a1 p.kinds.length c1, .bool p.dep, .slice a2 p.reads.length c2, .slice a3 p.writes.length c3, .int .i64 p.pgm.args, .slice a4 p.pgm.consts.length c4, .slice a5 p.pgm.code.length c5] := by
    cases cs; simp at hcs; rw [hcs]
  clear hcs h1 h2 h3 h4 h5 w1 w2 hl
  have K1 := (Keep.refl No w).alloc (.cells #[.string ⟨#[]⟩, .slice none 0 0, .bool false, .slice none 0 0, .slice none 0 0, .int .i64 0, .slice none 0 0, .slice none 0 0] 29)
  have q0 := blk_cell (blk_alloc (o' := .cells #[.string ⟨#[]⟩, .slice none 0 0, .bool false, .slice none 0 0, .slice none 0 0, .int .i64 0, .slice none 0 0, .slice none 0 0] 29) h.blk) 0
  have hr1 := hrun _ K1
  simp only [List.getElem?_toArray, List.getElem?_cons_zero] at q0
  go_enter Tryz.func31, Tryz.ntmps31
  go_wp2_with fail
  have K2 := Lib.hid (K1.alloc (.cells #[.string p.name, .slice a1 p.kinds.length c1, .bool p.dep, .slice a2 p.reads.length c2, .slice a3 p.writes.length c3, .int .i64 p.pgm.args, .slice a4 p.pgm.consts.length c4, .slice a5 p.pgm.code.length c5] 29))
  refine (ownPrc_any _ _ _ p (hrd.agree procSh K2.out.agreeNo) hlens.1 hlens.2.1 hlens.2.2.1 hlens.2.2.2.1 hlens.2.2.2.2).mono ?_
  rintro e w5 ⟨cs5, rfl, hr5, hk5⟩
  obtain ⟨b1, d1, b2, d2, b3, d3, b4, d4, b5, d5, hcs, -⟩ := proc_cells hr5
  obtain rfl : cs5 = #[.string p.name, .slice b1 p.kinds.length d1, .bool p.dep, .slice b2 p.reads.length d2, .slice b3 p.writes.length d3, .int .i64 p.pgm.args, .slice b4 p.pgm.consts.length d4, .slice b5 p.pgm.code.length d5] := by
    cases cs5; simp at hcs; rw [hcs]
  have x5 := hk5.blk (blk_alloc (o' := .cells #[.string p.name, .slice a1 p.kinds.length c1, .bool p.dep, .slice a2 p.reads.length c2, .slice a3 p.writes.length c3, .int .i64 p.pgm.args, .slice a4 p.pgm.consts.length c4, .slice a5 p.pgm.code.length c5] 29) (blk_new w (.cells #[.string ⟨#[]⟩, .slice none 0 0, .bool false, .slice none 0 0, .slice none 0 0, .int .i64 0, .slice none 0 0, .slice none 0 0] 29))) (fun x => x)
  have H5 := Lib.hid (And.intro hr5 (K2.out.trans hk5))
  have q5 := blk_cell x5
  have z5 := blk_fro x5
  have X5 := Lib.hid x5
  have hs5 := hk5.size
  simp only [World.size_alloc] at hs5
  have HS5 := Lib.hid hs5
  clear hr5 hk5 x5 hs5 hcs hr1 hrun q0 K1 hlens
  go_wp2_with fail
  have y5 := blk_eight X5.out (.string p.name) (.slice b1 p.kinds.length d1) (.bool p.dep) (.slice b2 p.reads.length d2) (.slice b3 p.writes.length d3) (.int .i64 p.pgm.args) (.slice b4 p.pgm.consts.length d4) (.slice b5 p.pgm.code.length d5)
  have k5 := keep_eight H5.out.2 (b := w.heap.size) (Nat.le_refl _) (.string p.name) (.slice b1 p.kinds.length d1) (.bool p.dep) (.slice b2 p.reads.length d2) (.slice b3 p.writes.length d3) (.int .i64 p.pgm.args) (.slice b4 p.pgm.consts.length d4) (.slice b5 p.pgm.code.length d5)
  have r5 : Rd procSh (((((((((w5.setCell ⟨w.heap.size, 0, none⟩ (.string p.name)).setCell ⟨w.heap.size, 1, none⟩ (.slice b1 p.kinds.length d1)).setCell ⟨w.heap.size, 2, none⟩ (.bool p.dep)).setCell ⟨w.heap.size, 3, none⟩ (.slice b2 p.reads.length d2)).setCell ⟨w.heap.size, 4, none⟩ (.slice b3 p.writes.length d3)).setCell ⟨w.heap.size, 5, none⟩ (.int .i64 p.pgm.args)).setCell ⟨w.heap.size, 6, none⟩ (.slice b4 p.pgm.consts.length d4)).setCell ⟨w.heap.size, 7, none⟩ (.slice b5 p.pgm.code.length d5))) (Fr w.heap.size w5.heap.size) #[.string p.name, .slice b1 p.kinds.length d1, .bool p.dep, .slice b2 p.reads.length d2, .slice b3 p.writes.length d3, .int .i64 p.pgm.args, .slice b4 p.pgm.consts.length d4, .slice b5 p.pgm.code.length d5].toList p := by
    have hm : Rd procSh w5 (Fr (w.heap.size + 1) w5.heap.size) #[.string p.name, .slice b1 p.kinds.length d1, .bool p.dep, .slice b2 p.reads.length d2, .slice b3 p.writes.length d3, .int .i64 p.pgm.args, .slice b4 p.pgm.consts.length d4, .slice b5 p.pgm.code.length d5].toList p := H5.out.1.mono procSh fun k _ hk => ⟨by have := hk.1; simp only [World.size_alloc] at this; omega, hk.2⟩
    have hag := agree_eight (S := Fr (w.heap.size + 1) w5.heap.size) (w := w5) (b := w.heap.size) (fun h => by have := h.1; omega) (.string p.name) (.slice b1 p.kinds.length d1) (.bool p.dep) (.slice b2 p.reads.length d2) (.slice b3 p.writes.length d3) (.int .i64 p.pgm.args) (.slice b4 p.pgm.consts.length d4) (.slice b5 p.pgm.code.length d5)
    exact (hm.agree procSh hag).mono procSh fun k _ hk => ⟨by have := hk.1; omega, hk.2⟩
  have s2 := blk_cell y5
  refine bodyPost_ret (v := .tuple #[.agg #[.string p.name, .slice b1 p.kinds.length d1, .bool p.dep, .slice b2 p.reads.length d2, .slice b3 p.writes.length d3, .int .i64 p.pgm.args, .slice b4 p.pgm.consts.length d4, .slice b5 p.pgm.code.length d5], .bool bb]) (by simp [results, Tryz.results31, go_sem, s2]) rfl ?_
  refine ⟨_, by rw [HPB.out.2], ?_, k5⟩
  rw [HPB.out.1]
  simpa using r5
end Go.Proofs.YtfgdnakfikpmpaaGreatDoor
namespace Go.Proofs.YtfgdnakfikpmpaaGreatDoor
open Go Go.RowKit Go.Deep
theorem findP_snoc (L : List Prc) (p : Prc) (n : ByteArray) (hp : findP L p.name = none) : findP (L ++ [p]) n = if p.name = n then some p else findP L n := by
  unfold findP at *
  rw [List.find?_append]
  by_cases e : p.name = n
  · subst e
    rw [hp, if_pos rfl]
    simp
  · rw [if_neg e]
    simp [e]
theorem len_lib {w : World} {S : Nat → Prop} {m : Nat} {L : List Prc} (h : LibMap w S m L) : ∀ W ty, Keep No w W → (Builtin.len_ #[99] ty #[.map (some m)]).run Tryz.prog W = .ok (.int .i64 L.length) W := by
  obtain ⟨D, hown, hS, hm, hsz, hall⟩ := h
  intro W ty hW
  obtain ⟨es, clock, h1, h1'⟩ := hown
  have := World.ownsMap.len (P := Tryz.prog) (k := 9) (R := heldP) (w := W) (n := L.length) (D := D) ⟨es, clock, (hW.block m (blk_lt h1) (fun x => x)).trans h1, h1'⟩ Tryz.underlying99 ty
  rw [hsz] at this
  exact this
theorem put_lib {w : World} {S : Nat → Prop} {m : Nat} {L : List Prc} (h : LibMap w S m L) (hL : L.length ≤ 64) (p : Prc) (hp : findP L p.name = none) (hn : p.name.size ≤ 9223372036854775806) :
    ∀ W, Keep No w W → ∀ cs : Array Value, Rd procSh W (Fr w.heap.size W.heap.size) cs.toList p → ∃ w', (Instr.mapUpdate 99 (.map (some m)) (.string p.name) (.agg cs)).run Tryz.prog W = .ok () w' ∧
      LibMap w' (fun k => S k ∨ (w.heap.size ≤ k ∧ k < w'.heap.size)) m (L ++ [p]) ∧ Keep (One m) W w' := by
  obtain ⟨D, hown, hS, hm, hsz, hall⟩ := h
  have hmk : ∀ W, Keep No w W → W.ownsMap Tryz.prog 9 heldP m L.length D := fun W hW => by
    obtain ⟨es, clock, h1, h1'⟩ := hown
    exact ⟨es, clock, (hW.block m (blk_lt h1) (fun x => x)).trans h1, h1'⟩
  intro W hW cs hcs
  have hkey : keyOf Tryz.prog 9 (.string p.name) = some (keyN p.name) := WideMaps.keyOf_string_mk Tryz.underlying9 (by rw [maxLen_is]; omega)
  have K := Maps.string_keyed Tryz.underlying9
  obtain ⟨w', hrun, ho, ht⟩ := (hmk W hW).store K Tryz.underlying99 (by rw [maxLen_is]; omega) (val := .agg cs) (d := .held (.agg cs)) hkey rfl
  have k2 : Keep (One m) W w' := (Keep.grown ht.grown).mono fun i _ hi => Option.some.inj hi
  have hno : Maps.has D (keyN p.name) = false := by
    have := hall p.name
    rw [hp] at this
    exact this.1
  have hsz2 : Maps.size (D.put (keyN p.name) (.held (.agg cs))) = (L ++ [p]).length := by
    rw [Maps.size_put ((hmk W hW).tidy K), hno, hsz]
    simp
  refine ⟨w', hrun, ⟨D.put (keyN p.name) (.held (.agg cs)), by simpa using ho, .inl hS, Nat.lt_of_lt_of_le hm (Nat.le_trans hW.size k2.size), hsz2, fun n => ?_⟩, k2⟩
  rw [findP_snoc L p n hp]
  by_cases e : p.name = n
  · subst e
    simp only [if_true]
    refine ⟨?_, cs, ?_, (hcs.agree procSh (k2.agree fun k _ hk e => by have : k = m := e; have := hk.1; omega)).mono procSh fun k _ hk => ⟨.inr ⟨hk.1, Nat.lt_of_lt_of_le hk.2 k2.size⟩, fun e => by have := hk.1; omega⟩⟩
    · exact Maps.has_put_same (hmk W hW).isMap (K.key hkey) _
    · rw [Maps.atKey_put_same (hmk W hW).isMap (K.key hkey)]
  · have hne : keyN n ≠ keyN p.name := fun h => e (keyN_inj h).symm
    have := hall n
    rw [if_neg e]
    cases hf : findP L n with
    | none =>
      rw [hf] at this
      refine ⟨?_, ?_⟩
      · rw [Maps.has_put_other hne]; exact this.1
      · rw [Maps.atKey_put_other hne]; exact this.2
    | some q =>
      rw [hf] at this
      obtain ⟨a, ds, b, c⟩ := this
      refine ⟨?_, ds, ?_, ((c.agree procSh hW.agreeNo).agree procSh (k2.agree fun k _ hk e => hk.2 e)).mono procSh fun k _ hk => ⟨.inl hk.1, hk.2⟩⟩
      · rw [Maps.has_put_other hne]; exact a
      · rw [Maps.atKey_put_other hne]; exact b
def AddedP (w : World) (S : Nat → Prop) (B m : Nat) (L : List Prc) (e : Ending) (w' : World) : Prop :=
  e = .returned (.int .i64 0) ∧ LibAt w' (fun k => S k ∨ (w.heap.size ≤ k ∧ k < w'.heap.size)) B m L ∧ Keep (One m) w w'
def Prc.chk (p : Prc) : Int := p.check (pgmE p.pgm.args p.pgm.consts p.pgm.code).1
theorem all_get {α : Type} {l : List α} {q : α → Bool} (h : l.all q = true) (i : Nat) (hi : i < l.length) : q l[i] = true := List.all_eq_true.1 h _ (List.getElem_mem hi)
theorem chk_home {p : Prc} (h : p.chk = 0) : p.Home := by
  unfold Prc.chk Prc.check at h
  generalize hpg : (pgmE p.pgm.args p.pgm.consts p.pgm.code).1 = pg at h
  split at h
  · cases h
  · rename_i h1
    split at h
    · cases h
    · rename_i h2
      split at h
      · cases h
      · rename_i h3
        split at h
        · cases h
        · rename_i h4
          split at h
          · cases h
          · rename_i h5
            split at h
            · rename_i h6; exact absurd h h6
            · rename_i h6
              split at h
              · cases h
              · rename_i h7
                have hb : ∀ b : Bool, ¬ b = false → b = true := fun b => by cases b <;> simp
                have e6 : pg = 0 := Classical.byContradiction h6
                have e7 : p.pgm.args = p.kinds.length := Classical.byContradiction h7
                refine ⟨⟨hb _ fun e => h1 (.inl e), Nat.le_of_not_lt fun e => h1 (.inr e), all_get (hb _ h2), fun hd => ?_, Nat.le_of_not_lt fun e => h4 (.inl e), Nat.le_of_not_lt fun e => h4 (.inr e), all_get (hb _ fun e => h5 (.inl e)), all_get (hb _ fun e => h5 (.inr e)), e7⟩, (pgmE_zero (by rw [hpg, e6])).1⟩
                have : ¬ 0 < p.reads.length + p.writes.length := fun e => h3 ⟨hd, e⟩
                exact ⟨List.length_eq_zero_iff.1 (by omega), List.length_eq_zero_iff.1 (by omega)⟩
def addE (L : List Prc) (p : Prc) : Int := if p.chk ≠ 0 then p.chk else if (findP L p.name).isSome then 8 else if L.length = 64 then 6 else 0
def AddR (w : World) (S : Nat → Prop) (B m : Nat) (L : List Prc) (p : Prc) (e : Ending) (w' : World) : Prop :=
  if addE L p = 0 then AddedP w S B m (L ++ [p]) e w' else e = .returned (.int .i64 (addE L p)) ∧ Keep No w w'
set_option maxRecDepth 10000 in
set_option maxHeartbeats 8000000 in
theorem add_any (w : World) (S T : Nat → Prop) (B m : Nat) (L : List Prc) (h : LibAt w S B m L) (cs : List Value) (p : Prc) (hr : Rd procSh w T cs p) (hn : p.name.size ≤ 9223372036854775806) (hsum : p.reads.length + p.writes.length ≤ 9223372036854775807) :
    Calls Tryz.prog 60 #[.pointer (some ⟨B, 0, none⟩), .agg cs.toArray] w (AddR w S B m L p) := by
  obtain ⟨a1, c1, a2, c2, a3, c3, a4, c4, a5, c5, rfl, h1, h2, h3, h4, h5, w1, w2⟩ := proc_cells hr
  obtain ⟨v0, hlook, cs0, rfl, hrd0⟩ := look_lib h.map p.name hn
  have hlen := len_lib h.map
  have hls := h.size
  obtain ⟨fb, hfb⟩ : ∃ fb, (findP L p.name).isSome = fb := ⟨_, rfl⟩
  rw [hfb] at hlook
  obtain ⟨q0, hq0⟩ : ∃ q0, (findP L p.name).getD prc0 = q0 := ⟨_, rfl⟩
  rw [hq0] at hrd0
  obtain ⟨z1, d1, z2, d2, z3, d3, z4, d4, z5, d5, hcs, -⟩ := proc_cells hrd0
  obtain rfl : cs0 = #[.string q0.name, .slice z1 q0.kinds.length d1, .bool q0.dep, .slice z2 q0.reads.length d2, .slice z3 q0.writes.length d3, .int .i64 q0.pgm.args, .slice z4 q0.pgm.consts.length d4, .slice z5 q0.pgm.code.length d5] := by
    cases cs0; simp at hcs; rw [hcs]
  have K1 := (Keep.refl No w).alloc (.cells #[.string p.name, .slice a1 p.kinds.length c1, .bool p.dep, .slice a2 p.reads.length c2, .slice a3 p.writes.length c3, .int .i64 p.pgm.args, .slice a4 p.pgm.consts.length c4, .slice a5 p.pgm.code.length c5] 29)
  have x1 := blk_new w (.cells #[.string p.name, .slice a1 p.kinds.length c1, .bool p.dep, .slice a2 p.reads.length c2, .slice a3 p.writes.length c3, .int .i64 p.pgm.args, .slice a4 p.pgm.consts.length c4, .slice a5 p.pgm.code.length c5] 29)
  obtain ⟨ce, hce⟩ : ∃ ce, p.chk = ce := ⟨_, rfl⟩
  have hch := (libCheck_any _ T p.kinds.length p.reads.length p.writes.length c1 c2 c3 a1 a2 a3 (.slice a4 p.pgm.consts.length c4) (.slice a5 p.pgm.code.length c5) p _ rfl rfl rfl (h1.agree _ K1.agreeNo) (h2.agree _ K1.agreeNo) (h3.agree _ K1.agreeNo) (by omega) hsum (pgSays_any (h4.agree _ K1.agreeNo) (h5.agree _ K1.agreeNo))).mono (R' := fun e w2 => e = .returned (.int .i64 ce) ∧ RowKit.Hid (Keep No (w.alloc (.cells #[.string p.name, .slice a1 p.kinds.length c1, .bool p.dep, .slice a2 p.reads.length c2, .slice a3 p.writes.length c3, .int .i64 p.pgm.args, .slice a4 p.pgm.consts.length c4, .slice a5 p.pgm.code.length c5] 29)) w2)) (by
    rintro e w2 ⟨rfl, hk⟩
    exact ⟨by rw [← hce]; rfl, hk⟩)
  have HX := Lib.hid (And.intro K1 (And.intro x1 (And.intro h.blk hr)))
  have HLK := Lib.hid hlook
  have HLN := Lib.hid hlen
  have HH := Lib.hid (And.intro h (And.intro hce (And.intro hfb hls)))
  have q1 := blk_cell x1
  obtain ⟨ex, hex⟩ : ∃ ex, addE L p = ex := ⟨_, rfl⟩
  unfold AddR
  rw [hex]
  have hE := hex
  unfold addE at hE
  rw [hce, hfb] at hE
  clear hcs hrd0 hlook hlen K1 x1 h1 h2 h3 h4 h5 w1 w2 hr hls hfb hq0
  by_cases hc0 : ce = 0
  · subst hc0
    rw [if_neg (fun x => x rfl)] at hE
    have HE := Lib.hid hE
    clear hE
    go_enter Tryz.func60, Tryz.ntmps60
    go_wp2_with (go_at_call 17; refine hch.mono ?_; clear hch; rintro e w3 ⟨rfl, HK3⟩)
    have k3 := HX.out.1.trans HK3.out
    have K4 := Lib.hid (k3.drew)
    have x3 := (HK3.out.blk HX.out.2.1 (fun x => x))
    have b3 := k3.blk HX.out.2.2.1 (fun x => x)
    have hl3 := HLK.out w3.drew k3.drew
    have hl4 := HLK.out (w3.drew.alloc (.cells #[.string ⟨#[]⟩, .slice none 0 0, .bool false, .slice none 0 0, .slice none 0 0, .int .i64 0, .slice none 0 0, .slice none 0 0] 29)) (k3.drew.alloc _)
    have q3 := blk_cell (w := w3.drew) x3
    have q4 := blk_cell (blk_alloc (w := w3.drew) (o' := .cells #[.string ⟨#[]⟩, .slice none 0 0, .bool false, .slice none 0 0, .slice none 0 0, .int .i64 0, .slice none 0 0, .slice none 0 0] 29) x3)
    have r3 := blk_cell (w := w3.drew) b3
    have r4 := blk_cell (blk_alloc (w := w3.drew) (o' := .cells #[.string ⟨#[]⟩, .slice none 0 0, .bool false, .slice none 0 0, .slice none 0 0, .int .i64 0, .slice none 0 0, .slice none 0 0] 29) b3)
    have X4 := Lib.hid (And.intro (show w3.drew.heap[w.heap.size]? = _ from x3) (show w3.drew.heap[B]? = _ from b3))
    clear k3 q1 x3 b3
    go_upto_region 4 with fail
    refine wp_region_canw [0, 1, 2, 3, 4, 5, 6, 7, 8, 9, 10, 11, 12] [10, 11] [(0, 10), (1, 10), (2, 10), (3, 10), (4, 10), (5, 10), (6, 10), (7, 10), (8, 10), (9, 10), (9, 11)] (by kernel_rfl) (by kernel_rfl) (by kernel_rfl) (by kernel_rfl) (by intro c a d v w h; cases d <;> exact h) ?_
    generalize w3.drew = w4 at *
    iterate 10 (refine canw_sil rfl rfl (fun K hK => ?_); go_simp; refine hK _ ?_; clear hK K)
    refine canw_loud [0, 1, 2, 3, 4, 5, 6, 7, 8, 9] rfl rfl rfl (fun K hK => ?_)
    go_wp2_with fail
    refine Mid.normal (hK _ _ ?_ ?_)
    · simp only [List.forall_mem_cons]
      refine ⟨?_, ?_, ?_, ?_, ?_, ?_, ?_, ?_, ?_, ?_, stabs_nil⟩ <;> exact stab_of rfl (fun K hK => by go_simp; exact hK)
    clear hK K
    refine canw_loud [9] rfl rfl rfl (fun K hK => ?_)
    go_wp2_with fail
    refine Mid.normal (hK _ _ ?_ ?_)
    · simp only [List.forall_mem_cons]
      refine ⟨?_, stabs_nil⟩ <;> exact stab_of rfl (fun K hK => by go_simp; exact hK)
    clear hK K
    iterate 1 (refine canw_sil rfl rfl (fun K hK => ?_); go_simp; refine hK _ ?_; clear hK K)
    refine canw_nil ?_
    have K5 := Lib.hid (K4.out.alloc (.cells #[.string q0.name, .slice z1 q0.kinds.length d1, .bool q0.dep, .slice z2 q0.reads.length d2, .slice z3 q0.writes.length d3, .int .i64 q0.pgm.args, .slice z4 q0.pgm.consts.length d4, .slice z5 q0.pgm.code.length d5] 29))
    have X5 := Lib.hid (And.intro (blk_alloc (o' := .cells #[.string q0.name, .slice z1 q0.kinds.length d1, .bool q0.dep, .slice z2 q0.reads.length d2, .slice z3 q0.writes.length d3, .int .i64 q0.pgm.args, .slice z4 q0.pgm.consts.length d4, .slice z5 q0.pgm.code.length d5] 29) X4.out.1) (blk_alloc (o' := .cells #[.string q0.name, .slice z1 q0.kinds.length d1, .bool q0.dep, .slice z2 q0.reads.length d2, .slice z3 q0.writes.length d3, .int .i64 q0.pgm.args, .slice z4 q0.pgm.consts.length d4, .slice z5 q0.pgm.code.length d5] 29) X4.out.2))
    have q5 := blk_cell X5.out.1
    have r5 := blk_cell X5.out.2
    have hlen := fun ty => HLN.out _ ty K5.out
    clear hl3 hl4 q3 q4 r3 r4 K4 X4
    generalize w4.alloc (.cells #[.string q0.name, .slice z1 q0.kinds.length d1, .bool q0.dep, .slice z2 q0.reads.length d2, .slice z3 q0.writes.length d3, .int .i64 q0.pgm.args, .slice z4 q0.pgm.consts.length d4, .slice z5 q0.pgm.code.length d5] 29) = w5 at *
    cases fb with
    | true =>
      have e8 : ex = 8 := by rw [← HE.out]; rfl
      subst e8
      clear hlen q5 r5
      go_wp2_with fail
      go_ret
      exact ⟨rfl, K5.out⟩
    | false =>
      have hE2 := HE.out
      rw [if_neg (fun x => by cases x)] at hE2
      by_cases h64 : L.length = 64
      · rw [if_pos h64] at hE2
        subst hE2
        have z64 : ((L.length : Int) == 64) = true := by rw [h64]; rfl
        clear q5 h64 HE
        generalize L.length = n9 at *
        go_wp2_with fail
        go_ret
        exact ⟨rfl, K5.out⟩
      · rw [if_neg h64] at hE2
        subst hE2
        have hh : p.Home := chk_home HH.out.2.1
        have hp : findP L p.name = none := by
          have := HH.out.2.2.1
          cases hf : findP L p.name with
          | none => rfl
          | some x => rw [hf] at this; cases this
        have HPUT := Lib.hid (put_lib HH.out.1.map HH.out.2.2.2 p hp hn)
        have HG := Lib.hid (And.intro hh h64)
        have z64' : ((L.length : Int) == 64) = false := by simpa using (show ¬ (L.length : Int) = 64 by omega)
        clear HE hp hh h64
        generalize hn9 : L.length = n9 at *
        have HN9 := Lib.hid hn9
        clear hn9
        go_upto_region 9 with fail
        clear hlen z64' q5 r5
        have K6 := Lib.hid (K5.out.drew)
        have X6 := Lib.hid (And.intro (show w5.drew.heap[w.heap.size]? = _ from X5.out.1) (show w5.drew.heap[B]? = _ from X5.out.2))
        have q6 := blk_cell X6.out.1
        have r6 := blk_cell X6.out.2
        have hl := HG.out.1.lens
        have hown := (ownPrc_any w5.drew T _ p (HX.out.2.2.2.agree procSh K6.out.agreeNo) hl.1 hl.2.1 hl.2.2.1 hl.2.2.2.1 hl.2.2.2.2).mono (R' := fun e w7 => ∃ cs : Array Value, e = .returned (.agg cs) ∧ RowKit.Hid (Rd procSh w7 (Fr w.heap.size w7.heap.size) cs.toList p ∧ Keep No w5.drew w7)) (by
          rintro e w7 ⟨cs, rfl, hr7, hk7⟩
          exact ⟨cs, rfl, hr7.mono procSh fun k _ hk => ⟨Nat.le_trans K6.out.size hk.1, hk.2⟩, hk7⟩)
        clear hl K5 X5
        refine wp_region_canw [0, 1, 2, 3, 4, 5, 6, 7, 8] [7, 8] [(0, 7), (1, 7), (2, 7), (3, 7), (4, 7), (5, 7)] (by kernel_rfl) (by kernel_rfl) (by kernel_rfl) (by kernel_rfl) (by intro c a d v w h; cases d <;> exact h) ?_
        generalize w5.drew = w6 at *
        iterate 7 (refine canw_sil rfl rfl (fun K hK => ?_); go_simp; refine hK _ ?_; clear hK K)
        refine canw_loud [0, 1, 2, 3, 4, 5] rfl rfl rfl (fun K hK => ?_)
        go_wp2_with (go_at_call 81; refine hown.mono ?_; clear hown; rintro e w7 ⟨cs7, rfl, H7⟩)
        have X7 := Lib.hid (And.intro (H7.out.2.blk X6.out.1 (fun x => x)) (H7.out.2.blk X6.out.2 (fun x => x)))
        have q7 := blk_cell X7.out.1
        have r7 := blk_cell X7.out.2
        refine Mid.normal (hK _ _ ?_ ?_)
        · simp only [List.forall_mem_cons]
          refine ⟨?_, ?_, ?_, ?_, ?_, ?_, stabs_nil⟩ <;> exact stab_of rfl (fun K hK => by go_simp; exact hK)
        clear hK K q6 r6
        obtain ⟨w8, hrun, hmap, hk8⟩ := HPUT.out w7 (K6.out.trans H7.out.2) cs7 H7.out.1
        have H8 := Lib.hid (And.intro hmap hk8)
        clear hmap hk8
        refine canw_loud [] rfl rfl rfl (fun K hK => ?_)
        go_wp2_with fail
        refine Mid.normal (hK _ _ stabs_nil ?_)
        clear hK K hrun
        refine canw_nil ?_
        go_wp2_with fail
        go_ret
        have hk78 : Keep (One m) w w8 := ((Keep.refl (One m) w).thenNo (K6.out.trans H7.out.2)).trans H8.out.2
        have hLA := HH.out.1
        refine ⟨rfl, ⟨H8.out.2.blk X7.out.2 (fun e => hLA.ne e), .inl hLA.inS, hLA.ne, ?_, ?_, by have := HH.out.2.2.2; have := HG.out.2; have := HN9.out; simp; omega⟩, hk78⟩
        · obtain ⟨D, ho, hs, hm, hsz, hall⟩ := H8.out.1
          have hBw : B < w.heap.size := blk_lt hLA.blk
          have hsub : ∀ k, ((S k ∧ k ≠ B) ∨ (w.heap.size ≤ k ∧ k < w8.heap.size)) → ((S k ∨ (w.heap.size ≤ k ∧ k < w8.heap.size)) ∧ k ≠ B) := fun k hk => hk.elim (fun h => ⟨.inl h.1, h.2⟩) (fun h => ⟨.inr h, fun e => by omega⟩)
          refine ⟨D, ho, hsub m hs, hm, hsz, fun n => ?_⟩
          have := hall n
          cases hf : findP (L ++ [p]) n with
          | none => rw [hf] at this; exact this
          | some q =>
            rw [hf] at this
            obtain ⟨a, ds, b, c⟩ := this
            exact ⟨a, ds, b, c.mono procSh fun k _ hk => ⟨hsub k hk.1, hk.2⟩⟩
        · intro q hq
          rcases List.mem_append.1 hq with hq | hq
          · exact hLA.home q hq
          · simp at hq; subst hq; exact HG.out.1
  · rw [if_pos hc0] at hE
    have b1 : (ce != 0) = true := by simpa using hc0
    have b2 : ¬ ex = 0 := by rw [← hE]; exact hc0
    subst hE
    clear hc0
    go_enter Tryz.func60, Tryz.ntmps60
    go_wp2_with (go_at_call 17; refine hch.mono ?_; clear hch; rintro e w3 ⟨rfl, HK3⟩)
    go_ret
    exact ⟨rfl, HX.out.1.trans HK3.out⟩
end Go.Proofs.YtfgdnakfikpmpaaGreatDoor
