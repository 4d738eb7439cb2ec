/-
  Parts of what is proved for this claim; each declaration is one of the seat's texts.
-/
import Derived.Test.YtcallmnhaikfpaaGreatDoorTGA
import Derived.Test.YtcallmnhaikfpaaGreatDoorTGC
import Derived.Test.YtcallmnhaikfpaaGreatDoorTGD
import Derived.Test.YtcallmnhaikfpaaGreatDoorTGK
import Derived.Test.YtcallmnhaikfpaaGreatDoorTGU
import Derived.Test.YtcallmnhaikfpaaGreatDoorTGZ
import Derived.WalkKit
import Derived.WalkSpells
import Derived.WalkLawsBesides
import Derived.ProofKit
import Derived.Deep.Slices
import Derived.Deep.AppendSrc
import Derived.Lib.Hide
import Derived.Still
import Derived.StillTactics
import Derived.Recover
import Derived.Defers
import Derived.Deep.QuietTactic
import Derived.BigQuiet
import Derived.Handy
import Derived.Laws.Bits64b
import Derived.Lib.Zigzag
import Derived.OwnWalk
import Derived.Deep.DeepCutAuto
import Derived.Lib.Bytealg
import Derived.Laws.Externs
import Derived.Deep.LoopGhost
import Derived.Laws.CopyRow
import Derived.Laws.IdiomCopy
import Derived.Maps.OwnSet
import Derived.Maps.RangeWalk
import Derived.Shelf.SortM.Plain
import Derived.Shelf.SortM.SortNone
import Derived.Ground.SlgmProg
import Derived.Maps.OwnOps
set_option linter.unusedVariables false
set_option linter.unusedSimpArgs false
namespace Go.Proofs.YtcallmnhaikfpaaGreatDoor
open Go Go.RowKit Go.Deep
def LogAt (T : TypeId) (w : World) (B : Nat) (S : Nat → Prop) (x : Lg) : Prop :=
  ∃ (ov : Value) (SO : Nat → Prop), w.heap[B]? = some (.cells #[ov, .int .i64 x.epoch] T (0, 0)) ∧ Own entrySh 58 w SO ov x.l ∧ S B ∧ (∀ k, SO k → S k ∧ k ≠ B) ∧ (Lit.int .i64 x.epoch).wf = true ∧ (∀ k, S k → k < w.heap.size)
theorem LogAt.agree {T : TypeId} {w w' : World} {B : Nat} {S : Nat → Prop} {x : Lg} (h : LogAt T w B S x) (k : Agree S w w') (hs : w.heap.size ≤ w'.heap.size) : LogAt T w' B S x := by
  obtain ⟨ov, SO, h1, h2, h3, h4, h5, h6⟩ := h
  exact ⟨ov, SO, by rw [k B (blk_lt h1) h3]; exact h1, h2.agree (k.mono fun i hi => (h4 i hi).1), h3, h4, h5, fun i hi => Nat.lt_of_lt_of_le (h6 i hi) hs⟩
structure Lg.Few (x : Lg) : Prop where
  l : x.l.length ≤ 65536
  e : ∀ e ∈ x.l, e.plan.Few
theorem logNew_any (w : World) : Calls Tryz.prog 7 #[] w fun e w' => e = .returned (.pointer (some ⟨w.heap.size, 0, none⟩)) ∧ LogAt 80 w' w.heap.size (One w.heap.size) lg0 ∧ Keep No w w' ∧ w'.heap.size = w.heap.size + 1 := by
  go_enter Tryz.func7, Tryz.ntmps7
  go_wp2
  go_ret
  exact ⟨rfl, ⟨_, No, blk_new _ _, Own.nil _ _ _ _, rfl, fun _ h => h.elim, rfl, fun k hk => by have : k = w.heap.size := hk; simp; omega⟩, (Keep.refl _ _).alloc _, by simp⟩
theorem logLen_any (w : World) (B : Nat) (S : Nat → Prop) (x : Lg) (h : LogAt 80 w B S x) : Calls Tryz.prog 12 #[.pointer (some ⟨B, 0, none⟩)] w fun e w' => e = .returned (.int .i64 x.l.length) ∧ w = w' := by
  obtain ⟨ov, SO, h1, h2, -⟩ := h
  obtain ⟨a1, d1, rfl, _⟩ := h2.form
  have c0 := blk_cell h1
  go_enter Tryz.func12, Tryz.ntmps12
  go_wp2
  go_ret
  exact ⟨rfl, rfl⟩
theorem logEpoch_any (w : World) (B : Nat) (S : Nat → Prop) (x : Lg) (h : LogAt 80 w B S x) : Calls Tryz.prog 20 #[.pointer (some ⟨B, 0, none⟩)] w fun e w' => e = .returned (.int .i64 x.epoch) ∧ w = w' := by
  obtain ⟨ov, SO, h1, h2, -⟩ := h
  have c0 := blk_cell h1
  go_enter Tryz.func20, Tryz.ntmps20
  go_wp2
  go_ret
  exact ⟨rfl, rfl⟩
theorem ents_get {w : World} {S : Nat → Prop} {a : Option Addr} {n c : Nat} {l : List Ent} (h : Rd (.slice entrySh) w S [.slice a n c] l) (i : Nat) (hi : i < l.length) :
    ∃ b off a1 c1 a2 c2 a3 c3, a = some ⟨b, off, none⟩ ∧ b < w.heap.size ∧ S b ∧
      RowAt w b (off + i * 9) [.int .i64 l[i].seq, .int .i64 l[i].epoch, .int .i64 l[i].plan.client, .int .u64 l[i].plan.token, .string l[i].plan.name, .slice a1 l[i].plan.args.length c1, .int .i64 l[i].plan.how, .slice a2 l[i].plan.reads.length c2, .slice a3 l[i].plan.writes.length c3] ∧
      Rd entrySh w S [.int .i64 l[i].seq, .int .i64 l[i].epoch, .int .i64 l[i].plan.client, .int .u64 l[i].plan.token, .string l[i].plan.name, .slice a1 l[i].plan.args.length c1, .int .i64 l[i].plan.how, .slice a2 l[i].plan.reads.length c2, .slice a3 l[i].plan.writes.length c3] l[i] := by
  obtain ⟨b, off, row, ha, -, hb, hS, -, hrow, hx⟩ := h.elem' i hi
  obtain ⟨ps, rfl, h3, w1, w2⟩ := ent_cells hx
  obtain ⟨a1, c1, a2, c2, a3, c3, rfl, -⟩ := plan_form h3
  exact ⟨b, off, a1, c1, a2, c2, a3, c3, ha, hb, hS, hrow, hx⟩
theorem row_nine {w : World} {b o : Nat} {x0 x1 x2 x3 x4 x5 x6 x7 x8 : Value} (h : RowAt w b o [x0, x1, x2, x3, x4, x5, x6, x7, x8]) :
    w.cell? ⟨b, o, none⟩ = some x0 ∧ w.cell? ⟨b, o + 1, none⟩ = some x1 ∧ w.cell? ⟨b, o + 2, none⟩ = some x2 ∧ w.cell? ⟨b, o + 3, none⟩ = some x3 ∧ w.cell? ⟨b, o + 4, none⟩ = some x4 ∧ w.cell? ⟨b, o + 5, none⟩ = some x5 ∧ w.cell? ⟨b, o + 6, none⟩ = some x6 ∧ w.cell? ⟨b, o + 7, none⟩ = some x7 ∧ w.cell? ⟨b, o + 8, none⟩ = some x8 :=
  ⟨(h 0 (by simp)).1, (h 1 (by simp)).1, (h 2 (by simp)).1, (h 3 (by simp)).1, (h 4 (by simp)).1, (h 5 (by simp)).1, (h 6 (by simp)).1, (h 7 (by simp)).1, (h 8 (by simp)).1⟩
def GivesEB (w : World) (x : Ent × Bool) (e : Ending) (w' : World) : Prop := ∃ cs : Array Value, e = .returned (.tuple #[.agg cs, .bool x.2]) ∧ Rd entrySh w' (Fr w.heap.size w'.heap.size) cs.toList x.1 ∧ Keep No w w'
theorem rd_ent0 (w : World) (S : Nat → Prop) : Rd entrySh w S [.int .i64 0, .int .i64 0, .int .i64 0, .int .u64 0, .string ⟨#[]⟩, .slice none 0 0, .int .i64 0, .slice none 0 0, .slice none 0 0] ent0 := by
  have hn : ∀ s : Sh, Rd (.slice s) w S [.slice none 0 0] [] := fun s => ⟨none, 0, rfl, by simp, by simp, fun _ => ⟨rfl, rfl⟩, fun i hi => absurd hi (by simp)⟩
  exact ⟨[_], _, rfl, ⟨rfl, rfl⟩, [_], _, rfl, ⟨rfl, rfl⟩, _, [], by simp; exact ⟨rfl, rfl, rfl, rfl⟩, ⟨[_, _, _, _], [_, _, _], rfl, ⟨[_], _, rfl, ⟨rfl, rfl⟩, [_], _, rfl, ⟨rfl, rfl⟩, [_], _, rfl, ⟨rfl, Nat.zero_le _⟩, [_], [], rfl, hn _, rfl⟩, [_], _, rfl, ⟨rfl, rfl⟩, [_, _], [], rfl, ⟨[_], _, rfl, hn _, [_], [], rfl, hn _, rfl⟩, rfl⟩, rfl⟩
theorem logAt_out (w : World) (pv : Value) (n s : Int) (hl : ∀ W, Keep No w W → Calls Tryz.prog 12 #[pv] W fun e w' => e = .returned (.int .i64 n) ∧ W = w') (hs : s < 0 ∨ n ≤ s) : Calls Tryz.prog 15 #[pv, .int .i64 s] w (GivesEB w (ent0, false)) := by
  by_cases h0 : s < 0
  · have d : decide (s < 0) = true := by simpa using h0
    clear h0 hs hl
    go_enter Tryz.func15, Tryz.ntmps15
    go_wp2_with fail
    refine bodyPost_ret (v := .tuple #[.agg #[.int .i64 0, .int .i64 0, .int .i64 0, .int .u64 0, .string ⟨#[]⟩, .slice none 0 0, .int .i64 0, .slice none 0 0, .slice none 0 0], .bool false]) (by simp [results, Tryz.results15, go_sem]) rfl ⟨_, rfl, rd_ent0 _ _, ?_⟩
    exact (Keep.refl _ _).alloc _
  · have d : decide (s < 0) = false := by simpa using h0
    have d2 : decide (n ≤ s) = true := by simpa using hs.resolve_left h0
    clear h0 hs
    go_enter Tryz.func15, Tryz.ntmps15
    go_wp2_with (go_at_call 12; refine (hl _ ((Keep.refl No w).alloc _)).mono ?_; clear hl; rintro e w5 ⟨rfl, rfl⟩)
    refine bodyPost_ret (v := .tuple #[.agg #[.int .i64 0, .int .i64 0, .int .i64 0, .int .u64 0, .string ⟨#[]⟩, .slice none 0 0, .int .i64 0, .slice none 0 0, .slice none 0 0], .bool false]) (by simp [results, Tryz.results15, go_sem]) rfl ⟨_, rfl, rd_ent0 _ _, ?_⟩
    exact (Keep.refl _ _).alloc _
theorem logAt_in (w : World) (B : Nat) (S : Nat → Prop) (x : Lg) (h : LogAt 80 w B S x) (hf : x.Few) (i : Nat) (hi : i < x.l.length) : Calls Tryz.prog 15 #[.pointer (some ⟨B, 0, none⟩), .int .i64 i] w (GivesEB w (x.l[i], true)) := by
  have hl := fun W (hk : Keep No w W) => logLen_any W B S x (h.agree hk.agreeNo hk.size)
  obtain ⟨ov, SO, h1, h2, -⟩ := h
  obtain ⟨a, d1, rfl, _⟩ := h2.form
  obtain ⟨b, off, a1, c1, a2, c2, a3, c3, rfl, hb, -, hrow, hx⟩ := ents_get h2.rd i hi
  have K1 : Keep No w (w.alloc (.cells #[.int .i64 0, .int .i64 0, .int .i64 0, .int .u64 0, .string ⟨#[]⟩, .slice none 0 0, .int .i64 0, .slice none 0 0, .slice none 0 0] 58)) := (Keep.refl No w).alloc _
  have hlen := hl _ K1
  have ht := (told_any _ SO _ x.l[i] (hx.agree _ K1.agreeNo) (hf.e _ (List.getElem_mem hi))).mono (R' := fun e w5 => ∃ b1 d1 b2 d2 b3 d3, e = .returned (.agg #[.int .i64 x.l[i].seq, .int .i64 x.l[i].epoch, .int .i64 x.l[i].plan.client, .int .u64 x.l[i].plan.token, .string x.l[i].plan.name, .slice b1 x.l[i].plan.args.length d1, .int .i64 x.l[i].plan.how, .slice b2 x.l[i].plan.reads.length d2, .slice b3 x.l[i].plan.writes.length d3]) ∧
      w5.heap[w.heap.size]? = some (.cells #[.int .i64 0, .int .i64 0, .int .i64 0, .int .u64 0, .string ⟨#[]⟩, .slice none 0 0, .int .i64 0, .slice none 0 0, .slice none 0 0] 58 (0, 0)) ∧
      RowKit.Hid (Keep No w w5 ∧ Rd entrySh w5 (Fr (w.heap.size + 1) w5.heap.size) [.int .i64 x.l[i].seq, .int .i64 x.l[i].epoch, .int .i64 x.l[i].plan.client, .int .u64 x.l[i].plan.token, .string x.l[i].plan.name, .slice b1 x.l[i].plan.args.length d1, .int .i64 x.l[i].plan.how, .slice b2 x.l[i].plan.reads.length d2, .slice b3 x.l[i].plan.writes.length d3] x.l[i])) (by
    rintro e w5 ⟨⟨cs⟩, rfl, hr, hk⟩
    simp only [World.size_alloc] at hr
    obtain ⟨ps, e1, h3, w1, w2⟩ := ent_cells hr
    obtain ⟨b1, d1, b2, d2, b3, d3, e3, -⟩ := plan_form h3
    subst e3
    subst e1
    exact ⟨b1, d1, b2, d2, b3, d3, rfl, hk.blk (blk_new _ _) (fun x => x), K1.trans hk, hr⟩)
  obtain ⟨r0, r1, r2, r3, r4, r5, r6, r7, r8⟩ := row_nine hrow
  have c0 := blk_cell h1
  have hB := blk_lt h1
  have hil : (i : Int) < (x.l.length : Int) := by omega
  have d0 : decide ((i : Int) < 0) = false := by simp
  have d2 : decide ((x.l.length : Int) ≤ (i : Int)) = false := by simpa using hi
  have HX := Lib.hid hx
  clear hl hx hrow h1 h2 K1 hf
  generalize hxi : x.l[i] = xi at *
  go_enter Tryz.func15, Tryz.ntmps15
  go_wp2_with (go_at_call 12; refine hlen.mono ?_; clear hlen; rintro e w5 ⟨rfl, rfl⟩)
  refine ht.mono ?_
  clear ht
  rintro e w5 ⟨b1, d1, b2, d2, b3, d3, rfl, y1, HK⟩
  have c2 := blk_cell y1
  have f2 := blk_fro y1
  go_wp2_with fail
  have u2 := blk_all9 y1 (.int .i64 xi.seq) (.int .i64 xi.epoch) (.int .i64 xi.plan.client) (.int .u64 xi.plan.token) (.string xi.plan.name) (.slice b1 xi.plan.args.length d1) (.int .i64 xi.plan.how) (.slice b2 xi.plan.reads.length d2) (.slice b3 xi.plan.writes.length d3)
  have k2 := keep_all9 w5 w.heap.size (.int .i64 xi.seq) (.int .i64 xi.epoch) (.int .i64 xi.plan.client) (.int .u64 xi.plan.token) (.string xi.plan.name) (.slice b1 xi.plan.args.length d1) (.int .i64 xi.plan.how) (.slice b2 xi.plan.reads.length d2) (.slice b3 xi.plan.writes.length d3)
  clear c2 f2
  have HK2 := Lib.hid k2
  clear k2
  generalize (((((((((w5.setCell ⟨w.heap.size, 0, none⟩ (.int .i64 xi.seq)).setCell ⟨w.heap.size, 1, none⟩ (.int .i64 xi.epoch)).setCell ⟨w.heap.size, 2, none⟩ (.int .i64 xi.plan.client)).setCell ⟨w.heap.size, 3, none⟩ (.int .u64 xi.plan.token)).setCell ⟨w.heap.size, 4, none⟩ (.string xi.plan.name)).setCell ⟨w.heap.size, 5, none⟩ (.slice b1 xi.plan.args.length d1)).setCell ⟨w.heap.size, 6, none⟩ (.int .i64 xi.plan.how)).setCell ⟨w.heap.size, 7, none⟩ (.slice b2 xi.plan.reads.length d2)).setCell ⟨w.heap.size, 8, none⟩ (.slice b3 xi.plan.writes.length d3)) = w6 at *
  have c5 := blk_cell u2
  have h2 := HK2.out
  have hs2 := h2.size
  have hr := (HK.out.2.agree _ (h2.agree fun i _ hi e => by have : i = w.heap.size := e; have := hi.1; omega)).mono _ (T := Fr w.heap.size w6.heap.size) fun i _ hi => ⟨by have := hi.1; omega, by have := hi.2; omega⟩
  exact bodyPost_ret (v := .tuple #[.agg #[.int .i64 xi.seq, .int .i64 xi.epoch, .int .i64 xi.plan.client, .int .u64 xi.plan.token, .string xi.plan.name, .slice b1 xi.plan.args.length d1, .int .i64 xi.plan.how, .slice b2 xi.plan.reads.length d2, .slice b3 xi.plan.writes.length d3], .bool true]) (by simp [results, Tryz.results15, go_sem, c5]) rfl ⟨_, rfl, hr, HK.out.1.then h2 fun i hi e => by have : i = w.heap.size := e; omega⟩
theorem logAt_any (w : World) (B : Nat) (S : Nat → Prop) (x : Lg) (h : LogAt 80 w B S x) (hf : x.Few) (s : Int) : Calls Tryz.prog 15 #[.pointer (some ⟨B, 0, none⟩), .int .i64 s] w (GivesEB w (x.at' s)) := by
  unfold Lg.at'
  by_cases hc : s < 0 ∨ (x.l.length : Int) ≤ s
  · rw [if_pos hc]
    exact logAt_out w _ _ s (fun W hk => logLen_any W B S x (h.agree hk.agreeNo hk.size)) hc
  · rw [if_neg hc]
    obtain ⟨k, rfl⟩ := Int.eq_ofNat_of_zero_le (a := s) (by omega)
    have hk : k < x.l.length := by omega
    have := logAt_in w B S x h hf k hk
    simpa [hk] using this
end Go.Proofs.YtcallmnhaikfpaaGreatDoor
namespace Go.Proofs.YtcallmnhaikfpaaGreatDoor
open Go Go.RowKit Go.Deep
theorem layAt_length : ∀ (n : Nat) (e : Int) (ps : List Plan), (layAt n e ps).length = ps.length
  | _, _, [] => rfl
  | n, e, p :: ps => by simp [layAt, layAt_length (n + 1) e ps]
theorem layAt_snoc : ∀ (n : Nat) (e : Int) (ps : List Plan) (p : Plan), layAt n e (ps ++ [p]) = layAt n e ps ++ [mkEnt ((n + ps.length : Nat) : Int) e p]
  | n, e, [], p => rfl
  | n, e, q :: ps, p => by
    have := layAt_snoc (n + 1) e ps p
    simp only [List.cons_append, layAt, this, List.length_cons]
    rw [show n + 1 + ps.length = n + (ps.length + 1) by omega]
theorem badAt_at {k : Nat} {ps : List Plan} (hk : k < ps.length) : badAt k (ps.drop k) = if ps[k].right ≠ 0 then some (ps[k].right, k) else badAt (k + 1) (ps.drop (k + 1)) := by
  rw [List.drop_eq_getElem_cons hk]
  rfl
theorem badAt_end {k : Nat} {ps : List Plan} (hk : ps.length ≤ k) : badAt k (ps.drop k) = none := by
  rw [List.drop_eq_nil_of_le hk]
  rfl
theorem Tryz.infoEnt : (Tryz.prog.info? 58).map (fun i => (i.zero, i.size, i.bytes)) = some (some (.agg #[.int .i64 0, .int .i64 0, .int .i64 0, .int .u64 0, .string ⟨#[]⟩, .slice none 0 0, .int .i64 0, .slice none 0 0, .slice none 0 0]), 9, 128) := by kernel_rfl
theorem app_fin {w w1 w2 : World} {B : Nat} {S SO T : Nat → Prop} {x : Lg} {e : Ent} {v : Value}
    (h1 : w2.heap[B]? = some (.cells #[v, .int .i64 x.epoch] 80 (0, 0))) (h3 : S B) (h4 : ∀ k, SO k → S k ∧ k ≠ B) (h5 : (Lit.int .i64 x.epoch).wf = true) (h6 : ∀ k, S k → k < w.heap.size)
    (ho : Own entrySh 58 w1 (fun k => SO k ∨ T k) v (x.l ++ [e])) (hT : ∀ k, T k → w.heap.size ≤ k ∧ k < w1.heap.size) (hk : Keep SO w w1) (hk2 : Keep (One B) w1 w2) :
    LogAt 80 w2 B (fun k => S k ∨ (w.heap.size ≤ k ∧ k < w2.heap.size)) ⟨x.l ++ [e], x.epoch⟩ ∧ Keep S w w2 := by
  have kw : Keep (fun k => SO k ∨ k = B) w w2 := (hk.mono fun _ _ h => .inl h).then hk2 fun _ _ h => .inr h
  have hs1 := hk.size
  have hs2 := hk2.size
  have hBl := h6 B h3
  refine ⟨⟨v, fun k => SO k ∨ T k, h1, ho.agree (hk2.agree fun k _ hk e => ?_), .inl h3, fun k hk => ?_, h5, fun k hk => ?_⟩, kw.mono fun k _ h => h.elim (fun h => (h4 k h).1) (fun e => e ▸ h3)⟩
  · have : k = B := e
    rcases hk with h | h
    · exact (h4 k h).2 this
    · have := hT k h; omega
  · rcases hk with h | h
    · exact ⟨.inl (h4 k h).1, (h4 k h).2⟩
    · have h1 := hT k h
      exact ⟨.inr ⟨h1.1, by omega⟩, by omega⟩
  · rcases hk with h | h
    · have := h6 k h; omega
    · exact h.2
def Appended (w : World) (B : Nat) (S : Nat → Prop) (r : Said3 × Lg) (e : Ending) (w' : World) : Prop :=
  e = .returned (.tuple #[.int .i64 r.1.n, .int .i64 r.1.err, .int .i64 r.1.at']) ∧ ∃ S' : Nat → Prop, LogAt 80 w' B S' r.2 ∧ (∀ k, S' k → S k ∨ w.heap.size ≤ k) ∧ Keep S w w'
theorem logAppend_epoch (w : World) (B : Nat) (S : Nat → Prop) (x : Lg) (h : LogAt 80 w B S x) (ep : Int) (v : Value) (he : ep < x.epoch ∨ ep < 0) :
    Calls Tryz.prog 11 #[.pointer (some ⟨B, 0, none⟩), .int .i64 ep, v] w (Appended w B S (⟨0, 120, 0⟩, x)) := by
  have h0 := h
  obtain ⟨ov, SO, h1, h2, -⟩ := h
  have c0 := blk_cell h1
  by_cases d1 : ep < x.epoch
  · clear he h1 h2
    have d2 : decide (ep < x.epoch) = true := by simpa using d1
    clear d1
    go_enter Tryz.func11, Tryz.ntmps11
    go_wp2_with fail
    refine bodyPost_ret (v := .tuple #[.int .i64 0, .int .i64 120, .int .i64 0]) (by simp [results, Tryz.results11, go_sem]) rfl ?_
    exact ⟨rfl, S, h0, fun k hk => .inl hk, Keep.refl _ _⟩
  · have d2 : decide (ep < x.epoch) = false := by simpa using d1
    have d3 : decide (ep < 0) = true := by simpa using he.resolve_left d1
    clear he h1 h2 d1
    go_enter Tryz.func11, Tryz.ntmps11
    go_wp2_with fail
    refine bodyPost_ret (v := .tuple #[.int .i64 0, .int .i64 120, .int .i64 0]) (by simp [results, Tryz.results11, go_sem]) rfl ?_
    exact ⟨rfl, S, h0, fun k hk => .inl hk, Keep.refl _ _⟩
theorem logAppend_many (w : World) (B : Nat) (S : Nat → Prop) (x : Lg) (h : LogAt 80 w B S x) (ep : Int) (a : Option Addr) (m c : Nat) (he : ¬ (ep < x.epoch ∨ ep < 0)) (hx : x.l.length ≤ 65536) (hm : 65536 < x.l.length + m) (h63 : m ≤ 4611686018427387904) :
    Calls Tryz.prog 11 #[.pointer (some ⟨B, 0, none⟩), .int .i64 ep, .slice a m c] w (Appended w B S (⟨0, 6, 0⟩, x)) := by
  have h0 := h
  obtain ⟨ov, SO, h1, h2, -⟩ := h
  obtain ⟨a1, d1, rfl, _⟩ := h2.form
  have c0 := blk_cell h1
  have e1 : ¬ ep < x.epoch := fun hh => he (.inl hh)
  have e2 : ¬ ep < 0 := fun hh => he (.inr hh)
  have e3 : (65536 : Int) < (x.l.length : Int) + (m : Int) := by omega
  clear he hm h1 h2
  go_enter Tryz.func11, Tryz.ntmps11
  go_wp2_with fail
  refine bodyPost_ret (v := .tuple #[.int .i64 0, .int .i64 6, .int .i64 0]) (by simp [results, Tryz.results11, go_sem]) rfl ?_
  exact ⟨rfl, S, h0, fun k hk => .inl hk, Keep.refl _ _⟩
end Go.Proofs.YtcallmnhaikfpaaGreatDoor
