/-
  Logs as they should be: small enough; entries put behind entries.
  LogBack: what holds between its statements.
-/
import Derived.Test.YtnknihmchmmenaaGreatGA
import Derived.Test.YtnknihmchmmenaaGreatGC
import Derived.Test.YtnknihmchmmenaaGreatGD
import Derived.Test.YtnknihmchmmenaaGreatGE
import Derived.Test.YtnknihmchmmenaaGreatGU
import Derived.Test.YtnknihmchmmenaaGreatGZ
import Derived.Test.YtnknihmchmmenaaGreatHA
import Derived.Test.YtnknihmchmmenaaGreatHB
import Derived.Test.YtnknihmchmmenaaGreatHE
import Derived.Test.YtnknihmchmmenaaGreatHF
import Derived.Test.YtnknihmchmmenaaGreatHI
import Derived.Still
import Derived.StillTactics
import Derived.WalkKit
import Derived.WalkSpells
import Derived.WalkLawsBesides
import Derived.ProofKit
import Derived.Deep.Slices
import Derived.Deep.AppendSrc
import Derived.Lib.Hide
import Derived.Recover
import Derived.Defers
import Derived.Deep.QuietTactic
import Derived.BigQuiet
import Derived.Handy
import Derived.Laws.Bits64b
import Derived.Lib.Zigzag
import Derived.OwnWalk
import Derived.Deep.DeepCutAuto
import Derived.Lib.Bytealg
import Derived.Laws.Externs
import Derived.Deep.LoopGhost
import Derived.Laws.CopyRow
import Derived.Laws.IdiomCopy
import Derived.Maps.OwnSet
import Derived.Maps.RangeWalk
import Derived.Shelf.SortM.Plain
import Derived.Shelf.SortM.SortNone
import Derived.Ground.SlgmProg
import Derived.Maps.OwnOps
import Derived.RangeFuncNested
import Derived.RangeFuncBound
import Derived.RangeFuncCalls
import Derived.RangeFuncLeaves
import Derived.Shelf.Abstract
import Derived.Shelf.RegionOpen
import Derived.OwnWalkIn
import Derived.TacticsInMore
import Derived.LoopNIn
import Derived.LoopIn
import Derived.Lib.ConvBytes
import Derived.OrdersIn
namespace Go.Proofs.YtnknihmchmmenaaGreat
set_option linter.unusedVariables false
set_option linter.unusedSimpArgs false
open Go Go.RowKit Go.Deep

theorem fp_few {f : Fp} (h : f.Is) : f.rs.length ≤ 64 ∧ f.ws.length ≤ 64 := by
  have h1 : f.pairs.length ≤ 64 := by simpa [Fp.pairs] using h.many
  have h2 := Fp.addUs_pairs h
  rw [addUs_eq] at h2
  constructor
  · have : f.rs = (f.pairs.filter fun p => p.2 % 2 = 1).map Prod.fst := (congrArg (fun g : Fp => g.rs) h2).symm
    rw [this]
    have := List.length_filter_le (fun p : ByteArray × Int => decide (p.2 % 2 = 1)) f.pairs
    simp
    simpa using Nat.le_trans this h1
  · have : f.ws = (f.pairs.filter fun p => decide (2 ≤ p.2 % 4)).map Prod.fst := (congrArg (fun g : Fp => g.ws) h2).symm
    rw [this]
    have := List.length_filter_le (fun p : ByteArray × Int => decide (2 ≤ p.2 % 4)) f.pairs
    simp
    simpa using Nat.le_trans this h1
theorem right_fit {p : Plan} (h : p.right = 0) : p.Fit ∧ p.Few := by
  obtain ⟨h1, h2, h3⟩ := (Plan.right_iff p).1 h
  obtain ⟨c1, c2, c3, c4, c5⟩ := (Req.check_iff _).1 h1
  have h4 := fp_few h3
  have h5 := nameOk_size c3
  have e1 : p.fp.rs.length = p.reads.length := rfl
  have e2 : p.fp.ws.length = p.writes.length := rfl
  have e3 : p.req.args.length = p.args.length := rfl
  have e4 : p.req.name.size = p.name.size := rfl
  rw [e1, e2] at h4
  rw [e3] at c4
  rw [e4] at h5
  exact ⟨⟨by omega, by omega⟩, ⟨by omega, by omega, by omega⟩⟩
theorem Lg.Good.fit {x : Lg} (h : x.Good) : ∀ e ∈ x.l, e.plan.Fit ∧ e.err = 0 := fun e he =>
  ⟨(right_fit ((Ent.err_iff e).1 (h.ok e he).1).2.2).1, (h.ok e he).1⟩
theorem Lg.Good.few {x : Lg} (h : x.Good) : x.Few := ⟨h.len, fun e he => (right_fit ((Ent.err_iff e).1 (h.ok e he).1).2.2).2⟩

theorem rd_plan_in {w : World} {S : Nat → Prop} {cs : List Value} {p : Plan} (h : Rd planSh w S cs p) : p.req.In := by
  obtain ⟨a1, c1, a2, c2, a3, c3, rfl, h1, h2, h3, w1, w2, w3, w4⟩ := plan_cells h
  simp [Lit.wf, IntKind.min, IntKind.max, IntKind.signed, IntKind.bits] at w1 w2
  refine ⟨w1.1, by have := w1.2; show p.client ≤ _; omega, w2.1, by have := w2.2; show p.token < _; omega, fun v hv => ?_⟩
  obtain ⟨i, hi, rfl⟩ := List.getElem_of_mem hv
  obtain ⟨b, off, row, -, -, -, -, -, -, hx⟩ := h1.elem' i hi
  exact (val_cells hx).2.1
theorem rd_plans_in {w : World} {S : Nat → Prop} {v : Value} {l : List Plan} (h : Rd (.slice planSh) w S [v] l) : ∀ p ∈ l, p.req.In := fun p hp => by
  obtain ⟨i, hi, rfl⟩ := List.getElem_of_mem hp
  obtain ⟨a, c, e, -, -, -, hx⟩ := id h
  obtain ⟨b, off, row, -, -, -, -, -, hx⟩ := hx i hi
  exact rd_plan_in hx
/-! bulk -/
theorem len_bulk (s : Sh) (l : List s.T) (h : ∀ x, 1 ≤ s.bulk x) : l.length ≤ (l.map s.bulk).sum := by
  induction l with
  | nil => simp
  | cons x l ih => have := h x; simp; omega
theorem mem_bulk (s : Sh) {l : List s.T} {x : s.T} (h : x ∈ l) : s.bulk x ≤ (l.map s.bulk).sum := by
  induction l with
  | nil => cases h
  | cons y l ih =>
    rcases List.mem_cons.1 h with rfl | h
    · simp
    · have := ih h; simp; omega
theorem plan_bulk (p : Plan) : partsN p + p.name.size ≤ planSh.bulk p := by
  have h1 := len_bulk valueSh p.args (fun y => by simp [Sh.bulk])
  have h2 := len_bulk .str p.reads (fun y => by simp [Sh.bulk])
  have h3 := len_bulk .str p.writes (fun y => by simp [Sh.bulk])
  have e : planSh.bulk p = ((1 + (1 + ((p.name.size + 1) + (((p.args.map valueSh.bulk).sum + 1) + 0))) + 1) + (1 + ((((p.reads.map Sh.str.bulk).sum + 1) + (((p.writes.map Sh.str.bulk).sum + 1) + 0)) + 1 + 0))) + 1 := rfl
  rw [e]
  unfold partsN
  omega
theorem plans_bulk (l : List Plan) : partsL l ≤ (l.map planSh.bulk).sum := by
  unfold partsL
  induction l with
  | nil => simp
  | cons p l ih => have := plan_bulk p; simp at ih ⊢; omega
theorem act_bulk (x : Act') : (x.plans.map planSh.bulk).sum + 2 ≤ actSh.bulk x := by
  have e : actSh.bulk x = (1 + (((x.plans.map planSh.bulk).sum + 1) + 0)) + 1 := rfl
  rw [e]; omega
theorem acts_bulk (l : List Act') : partsA l + l.length ≤ (l.map actSh.bulk).sum := by
  unfold partsA
  induction l with
  | nil => simp
  | cons x l ih => have := act_bulk x; have := plans_bulk x.plans; simp at ih ⊢; omega
theorem plansOk_of {l : List Plan} (hb : (l.map planSh.bulk).sum ≤ 1048576) : PlansOk l := fun p hp => by
  have h1 := mem_bulk planSh hp
  have h2 := plan_bulk p
  have h3 : partsN p = 1 + p.args.length + p.reads.length + p.writes.length := rfl
  exact ⟨⟨by omega, by omega⟩, parts_few (n := partsN p) (Nat.le_refl _) (by omega)⟩

/-- entries put behind entries, in whatever blocks these lie -/
theorem app_entsA {w : World} {A T : Nat → Prop} {v : Value} {l : List Ent} (h : Own entrySh 40 w A v l) {u : Value} {xs : List Ent} (hr : Rd (.slice entrySh) w T [u] xs) (hAT : ∀ k, A k → ¬ T k) (hl : l.length + xs.length ≤ 1048576) :
    ∃ a m c w', (Builtin.append_ #[41, 41] 41 #[v, u]).run Tryz.prog w = .ok (.slice a m c) w' ∧ Own entrySh 40 w' (fun i => (A i ∨ T i ∨ i = w.heap.size) ∧ i < w'.heap.size) (.slice a m c) (l ++ xs) ∧ Keep A w w' ∧ w'.heap.size ≤ w.heap.size + 1 := by
  obtain ⟨i0, hi, hz0, hz1, hz2⟩ := info_parts Tryz.infoEnt
  obtain ⟨rows0, hrl, hrr, hsrc⟩ := Rd.rows hr
  have hs := hsrc Tryz.prog 41 40 Tryz.underlying41 w (Agree.refl _ _)
  obtain ⟨g, rows, U, h1, h2, h3, h4, h5⟩ := h
  have hlen0 : ∀ r ∈ rows0, r.length = entrySh.size := fun r hr' => by
    obtain ⟨j, hj, rfl⟩ := List.getElem_of_mem hr'
    exact (hrr j hj (by omega)).length entrySh
  obtain ⟨a, c, w', g', hr', ho', hg', hk', hsz⟩ := own_append h1 41 41 41 i0 _ 128 Tryz.underlying41 hi hz0 hz1 hz2 rfl (x := u) (news := rows0) hs hlen0 (by omega) (by omega)
  rw [hrl, h2] at hr' ho'
  refine ⟨a, _, c, w', hr', ⟨g', rows ++ rows0, fun k => (U k ∨ T k) ∧ k < w.heap.size, ho', by simp [h2, hrl], fun i hi hi' => ?_, fun b hb => ⟨?_, fun hx => ?_⟩, fun k hk => ⟨?_, Nat.lt_of_lt_of_le hk.2 hk'.size⟩⟩, hk'.mono fun i _ hg => (h4 i hg).1, hsz⟩
  · by_cases hlt : i < rows.length
    · rw [List.getElem_append_left hlt, List.getElem_append_left (by omega)]
      refine ((h3 i hlt (by omega)).mono entrySh fun k hk hu => ⟨.inl hu, hk⟩).agree entrySh (hk'.agree fun k hk hu hg => ?_)
      rcases hu.1 with hu | hu
      · exact (h4 k hg).2 hu
      · exact hAT k (h4 k hg).1 hu
    · simp only [List.length_append] at hi hi'
      have e1 : (rows ++ rows0)[i]'(by simp; omega) = rows0[i - rows.length]'(by omega) := List.getElem_append_right (by omega)
      have e2 : (l ++ xs)[i]'(by simp; omega) = xs[i - l.length]'(by omega) := List.getElem_append_right (by omega)
      rw [e1, e2]
      have e3 : xs[i - l.length]'(by omega) = xs[i - rows.length]'(by omega) := by simp only [h2]
      rw [e3]
      refine ((hrr (i - rows.length) (by omega) (by omega)).mono entrySh fun k hk hu => ⟨.inr hu, hk⟩).agree entrySh (hk'.agree fun k hk hu hg => ?_)
      rcases hu.1 with hu | hu
      · exact (h4 k hg).2 hu
      · exact hAT k (h4 k hg).1 hu
  · have hlt := ho'.lt hb
    rcases hg' with rfl | rfl
    · exact ⟨.inl (h4 b hb).1, hlt⟩
    · cases hb; exact ⟨.inr (.inr rfl), hlt⟩
  · rcases hg' with rfl | rfl
    · rcases hx.1 with hu | hu
      · exact (h4 b hb).2 hu
      · exact hAT b (h4 b hb).1 hu
    · cases hb
      exact Nat.lt_irrefl _ hx.2
  · rcases hk.1 with hu | hu
    · exact .inl (h5 k hu)
    · exact .inr (.inl hu)
end Go.Proofs.YtnknihmchmmenaaGreat

namespace Go.Proofs.YtnknihmchmmenaaGreat
set_option linter.unusedVariables false
set_option linter.unusedSimpArgs false
open Go Go.RowKit Go.Deep

/-- a log that is new since w, and a list of entries beside it -/
def BackAt (w : World) (B : Nat) (x : Lg) (v : Value) (l : List Ent) (W : World) : Prop :=
  ∃ S A : Nat → Prop, LogAt 117 W B S x ∧ Own entrySh 40 W A v l ∧ (∀ k, S k → ¬ A k) ∧ (∀ k, S k → w.heap.size ≤ k) ∧ (∀ k, A k → w.heap.size ≤ k ∧ k < W.heap.size) ∧ Keep No w W
theorem BackAt.keep {w : World} {B : Nat} {x : Lg} {v : Value} {l : List Ent} {W : World} (h : BackAt w B x v l W) : Keep No w W := by
  obtain ⟨S, A, h1, h2, h3, h4, h5, h6⟩ := h
  exact h6
theorem BackAt.more {w : World} {B : Nat} {x : Lg} {v : Value} {l : List Ent} {W W' : World} (h : BackAt w B x v l W) (hk : Keep No W W') : BackAt w B x v l W' := by
  obtain ⟨S, A, h1, h2, h3, h4, h5, h6⟩ := h
  exact ⟨S, A, h1.agree hk.agreeNo hk.size, h2.agree hk.agreeNo, h3, h4, fun k hk' => ⟨(h5 k hk').1, Nat.lt_of_lt_of_le (h5 k hk').2 hk.size⟩, h6.trans hk⟩
theorem BackAt.new {w w1 : World} (h : LogAt 117 w1 w.heap.size (One w.heap.size) lg0) (hk : Keep No w w1) : BackAt w w.heap.size lg0 (.slice none 0 0) [] w1 :=
  ⟨_, No, h, Own.nil _ _ _ _, fun _ _ h => h, fun k hk => by have : k = w.heap.size := hk; omega, fun _ h => h.elim, hk⟩
theorem BackAt.log {w : World} {B : Nat} {x : Lg} {v : Value} {l : List Ent} {W : World} (h : BackAt w B x v l W) : ∃ S, LogAt 117 W B S x := by
  obtain ⟨S, A, h1, -⟩ := h
  exact ⟨S, h1⟩
theorem BackAt.list {w : World} {B : Nat} {x : Lg} {v : Value} {l : List Ent} {W : World} (h : BackAt w B x v l W) : ∃ A, Own entrySh 40 W A v l := by
  obtain ⟨S, A, h1, h2, -⟩ := h
  exact ⟨A, h2⟩

theorem BackAt.append {w : World} {B : Nat} {x : Lg} {v : Value} {l : List Ent} {W W' : World} (h : BackAt w B x v l W) (hk : Keep No W W') (hx : x.l.length ≤ 65536) (ep : Int) (hwe : (Lit.int .i64 ep).wf = true) {u : Value} {ps : List Plan} (hps : Rd (.slice planSh) W' (Fr W.heap.size W'.heap.size) [u] ps)
    (hok : PlansOk ps) (hm : ps.length ≤ 4611686018427387904) :
    Calls Tryz.prog 14 #[.pointer (some ⟨B, 0, none⟩), .int .i64 ep, u] W' fun e w' => e = .returned (.tuple #[.int .i64 (x.append ep ps).1.n, .int .i64 (x.append ep ps).1.err, .int .i64 (x.append ep ps).1.at']) ∧ RowKit.Hid (BackAt w B (x.append ep ps).2 v l w' ∧ Keep No w w') := by
  obtain ⟨S, A, h1, h2, h3, h4, h5, h6⟩ := h
  obtain ⟨-, -, -, -, -, -, -, hSW⟩ := id h1
  have h1' := h1.agree hk.agreeNo hk.size
  refine (logAppend_any W' B S _ x h1' hx ep hwe u ps hps (fun k hk1 hS => by have := hSW k hS; have := hk1.1; omega) hok hm).mono ?_
  rintro e w' ⟨rfl, S', g1, g2, g3⟩
  have hkw : Keep No w w' := (h6.trans hk).then g3 fun k hk1 hS => by have := h4 k hS; omega
  have hs1 := hk.size
  have hs2 := g3.size
  refine ⟨rfl, ⟨S', A, g1, (h2.agree hk.agreeNo).agree (g3.agree fun k hk1 hA hS => h3 k hS hA), fun k hS hA => ?_, fun k hS => ?_, fun k hA => ⟨(h5 k hA).1, by have := (h5 k hA).2; omega⟩, hkw⟩, hkw⟩
  · rcases g2 k hS with h | h
    · exact h3 k h hA
    · have := (h5 k hA).2; omega
  · rcases g2 k hS with h | h
    · exact h4 k h
    · have := h6.size; omega

/-- what From tells is put behind -/
theorem BackAt.put {w : World} {B : Nat} {x : Lg} {v : Value} {l : List Ent} {W W' : World} (h : BackAt w B x v l W) (hk : Keep No W W') {u : Value} {xs : List Ent} (hu : Rd (.slice entrySh) W' (Fr W.heap.size W'.heap.size) [u] xs) (hl : l.length + xs.length ≤ 1048576) :
    ∃ a m c w', (Builtin.append_ #[41, 41] 41 #[v, u]).run Tryz.prog W' = .ok (.slice a m c) w' ∧ BackAt w B x (.slice a m c) (l ++ xs) w' := by
  obtain ⟨S, A, h1, h2, h3, h4, h5, h6⟩ := h
  obtain ⟨-, -, -, -, -, -, -, hSW⟩ := id h1
  obtain ⟨a, m, c, w', hr, ho, hk2, -⟩ := app_entsA (h2.agree hk.agreeNo) hu (fun k hA hT => by have := (h5 k hA).2; have := hT.1; omega) hl
  have hs1 := hk.size
  have hs2 := hk2.size
  have hs6 := h6.size
  refine ⟨a, m, c, w', hr, S, _, (h1.agree hk.agreeNo hk.size).agree (hk2.agree fun k hk1 hS hA => h3 k hS hA) hk2.size, ho, fun k hS hA => ?_, h4, fun k hA => ⟨?_, hA.2⟩, (h6.trans hk).then hk2 fun k hk1 hA => by have := (h5 k hA).1; omega⟩
  · have hSk := hSW k hS
    rcases hA.1 with h | h | h
    · exact h3 k hS h
    · have := h.1; omega
    · omega
  · rcases hA.1 with h | h | h
    · exact (h5 k h).1
    · have := h.1; omega
    · omega
end Go.Proofs.YtnknihmchmmenaaGreat
