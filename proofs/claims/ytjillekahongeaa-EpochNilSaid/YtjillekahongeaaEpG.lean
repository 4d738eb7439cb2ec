/-
  What the law writes into copies: spoil.
-/
import Derived.Test.YtjillekahongeaaEpF
namespace Go.Proofs.Ytjillekahongeaa
open Go Go.RowKit Go.Deep
set_option linter.unusedVariables false

/-- Cells of S may hold other things; none is gone, none frozen. -/
structure Tame (S : Nat → Prop) (w w' : World) : Prop where
  keep : Keep S w w'
  there : ∀ b o, (w.cell? ⟨b, o, none⟩).isSome = true → (w'.cell? ⟨b, o, none⟩).isSome = true
  fro : ∀ b o, b < w.heap.size → w'.frozen? ⟨b, o, none⟩ = w.frozen? ⟨b, o, none⟩

theorem Tame.refl (S : Nat → Prop) (w : World) : Tame S w w := ⟨Keep.refl _ _, fun _ _ h => h, fun _ _ _ => rfl⟩
theorem Tame.trans {S : Nat → Prop} {a b c : World} (h : Tame S a b) (k : Tame S b c) : Tame S a c :=
  ⟨h.keep.trans k.keep, fun x o hx => k.there x o (h.there x o hx), fun x o hx => (k.fro x o (Nat.lt_of_lt_of_le hx h.keep.size)).trans (h.fro x o hx)⟩
theorem Tame.set {S : Nat → Prop} (w : World) (b i : Nat) (v : Value) (hb : S b) : Tame S w (w.setCell ⟨b, i, none⟩ v) := by
  refine ⟨(keep_set w b i v).mono fun k _ e => e ▸ hb, fun x o hx => ?_, fun x o _ => World.frozen?_setCell ..⟩
  obtain ⟨u, hu⟩ := Option.isSome_iff_exists.1 hx
  by_cases e : (⟨b, i, none⟩ : Addr) = ⟨x, o, none⟩
  · cases e
    rw [World.cell?_setCell_same _ _ _ hu]; rfl
  · rw [World.cell?_setCell_other _ _ _ _ e]; exact hx
theorem Tame.alloc {S : Nat → Prop} {a w : World} (h : Tame S a w) (o : Obj) : Tame S a (w.alloc o) := by
  refine ⟨h.keep.alloc o, fun x y hx => ?_, fun x y hx => ?_⟩
  · have h1 := h.there x y hx
    obtain ⟨u, hu⟩ := Option.isSome_iff_exists.1 h1
    rw [World.cell?_alloc_lt _ _ _ (World.block_lt_of_cell? _ _ hu)]
    exact h1
  · rw [World.frozen?_alloc_old _ _ _ (by have := h.keep.size; show x ≠ _; omega)]
    exact h.fro x y hx
theorem Tame.drew {S : Nat → Prop} {a w : World} (h : Tame S a w) : Tame S a w.drew := ⟨h.keep.drew, h.there, h.fro⟩

/-- the cells of a row are there, in a world that is tame -/
theorem RowAt.tame {S : Nat → Prop} {w w' : World} {b o : Nat} {cs : List Value} (h : RowAt w b o cs) (t : Tame S w w') (hb : b < w.heap.size) (j : Nat) (hj : j < cs.length) :
    ∃ v, w'.cell? ⟨b, o + j, none⟩ = some v ∧ w'.frozen? ⟨b, o + j, none⟩ = false := by
  obtain ⟨h1, h2⟩ := h j hj
  have h3 := t.there b (o + j) (by rw [h1, List.getElem?_eq_getElem hj]; rfl)
  obtain ⟨v, hv⟩ := Option.isSome_iff_exists.1 h3
  exact ⟨v, hv, (t.fro b (o + j) hb).trans h2⟩

set_option maxHeartbeats 1000000 in
theorem spoil_any (w : World) (S : Nat → Prop) (cs : List Value) (p : Plan) (h : Rd planSh w S cs p) (hS : ∀ k, S k → k < w.heap.size) (hp : p.Small) :
    Calls Try.prog 25 #[.agg cs.toArray] w fun e w' => e = .returned (.tuple #[]) ∧ Tame S w w' := by
  obtain ⟨a1, c1, a2, c2, a3, c3, rfl, h1, h2, h3, -⟩ := plan_cells h
  obtain ⟨l1, l2, l3⟩ := hp
  clear h
  have hB : ¬ S w.heap.size := fun x => Nat.lt_irrefl _ (hS _ x)
  go_enter Try.func25, Try.ntmps25
  go_wp2_with fail
  go_loopw [2] (fun i wr => ∃ k : Nat, k ≤ p.args.length ∧ i = .int .i64 k ∧ Tame S (w.alloc (.cells #[.int .i64 p.client, .int .u64 p.token, .string p.name, .slice a1 p.args.length c1, .int .i64 p.how, .slice a2 p.reads.length c2, .slice a3 p.writes.length c3] 37)) wr) (fun i _ => p.args.length - (intOf i).toNat)
  case atStart => exact ⟨0, Nat.zero_le _, rfl, Tame.refl _ _⟩
  case round =>
    obtain ⟨k, hk, rfl, tw⟩ := hrel
    have g0 := blk_cell (tw.keep.blk (blk_new w _) hB)
    have T0 : Tame S w wr := ((Tame.refl S w).alloc _).trans tw
    by_cases hlt : k < p.args.length
    · obtain ⟨b1, o1, r1, rfl, -, hb1, hs1, hr1, hrow1, hx1⟩ := h1.elem k hlt
      obtain ⟨v0, p0, f0⟩ := hrow1.tame T0 hb1 0 (by rw [hr1]; decide)
      obtain ⟨v1, p1, f1⟩ := hrow1.tame T0 hb1 1 (by rw [hr1]; decide)
      obtain ⟨v2, p2, f2⟩ := hrow1.tame T0 hb1 2 (by rw [hr1]; decide)
      simp [Sh.size] at p0 p1 p2 f0 f1 f2
      have j0 : (0 : Int) ≤ (k : Int) := by omega
      have j1 : (k : Int) < (p.args.length : Int) := by omega
      clear hrow1 hx1 h1 h2 h3
      go_wp2_with fail
      go_roundw
      case rel => exact ⟨k + 1, by omega, by go_num, ((tw.trans (Tame.set _ _ _ _ hs1)).trans (Tame.set _ _ _ _ hs1)).trans (Tame.set _ _ _ _ hs1)⟩
      case measure => simp [intOf]; omega
    · go_wp2_with fail
      go_loopw [3] (fun i wr => ∃ k : Nat, k ≤ p.reads.length ∧ i = .int .i64 k ∧ Tame S (w.alloc (.cells #[.int .i64 p.client, .int .u64 p.token, .string p.name, .slice a1 p.args.length c1, .int .i64 p.how, .slice a2 p.reads.length c2, .slice a3 p.writes.length c3] 37)) wr) (fun i _ => p.reads.length - (intOf i).toNat)
      case atStart => exact ⟨0, Nat.zero_le _, rfl, tw⟩
      case round =>
        obtain ⟨k, hk, rfl, tw⟩ := hrel
        have g0 := blk_cell (tw.keep.blk (blk_new w _) hB)
        have T0 : Tame S w wr := ((Tame.refl S w).alloc _).trans tw
        by_cases hlt : k < p.reads.length
        · obtain ⟨b1, o1, r1, rfl, -, hb1, hs1, hr1, hrow1, hx1⟩ := h2.elem k hlt
          obtain ⟨v0, p0, f0⟩ := hrow1.tame T0 hb1 0 (by rw [hr1]; decide)
          simp [Sh.size] at p0 f0
          have j0 : (0 : Int) ≤ (k : Int) := by omega
          have j1 : (k : Int) < (p.reads.length : Int) := by omega
          clear hrow1 hx1 h1 h2 h3
          go_wp2_with fail
          go_roundw
          case rel => exact ⟨k + 1, by omega, by go_num, tw.trans (Tame.set _ _ _ _ hs1)⟩
          case measure => simp [intOf]; omega
        · go_wp2_with fail
          go_loopw [4] (fun i wr => ∃ k : Nat, k ≤ p.writes.length ∧ i = .int .i64 k ∧ Tame S (w.alloc (.cells #[.int .i64 p.client, .int .u64 p.token, .string p.name, .slice a1 p.args.length c1, .int .i64 p.how, .slice a2 p.reads.length c2, .slice a3 p.writes.length c3] 37)) wr) (fun i _ => p.writes.length - (intOf i).toNat)
          case atStart => exact ⟨0, Nat.zero_le _, rfl, tw⟩
          case round =>
            obtain ⟨k, hk, rfl, tw⟩ := hrel
            have g0 := blk_cell (tw.keep.blk (blk_new w _) hB)
            have T0 : Tame S w wr := ((Tame.refl S w).alloc _).trans tw
            by_cases hlt : k < p.writes.length
            · obtain ⟨b1, o1, r1, rfl, -, hb1, hs1, hr1, hrow1, hx1⟩ := h3.elem k hlt
              obtain ⟨v0, p0, f0⟩ := hrow1.tame T0 hb1 0 (by rw [hr1]; decide)
              simp [Sh.size] at p0 f0
              have j0 : (0 : Int) ≤ (k : Int) := by omega
              have j1 : (k : Int) < (p.writes.length : Int) := by omega
              clear hrow1 hx1 h1 h2 h3
              go_wp2_with fail
              go_roundw
              case rel => exact ⟨k + 1, by omega, by go_num, tw.trans (Tame.set _ _ _ _ hs1)⟩
              case measure => simp [intOf]; omega
            · go_wp2_with fail
              go_end0
              exact ⟨rfl, ((Tame.refl S w).alloc _).trans tw⟩

end Go.Proofs.Ytjillekahongeaa
