/-
  What the law writes into copies: spoil.
-/
import Derived.Test.YtjillekahongeaaEpF
namespace Go.Proofs.Ytjillekahongeaa
open Go Go.RowKit Go.Deep
set_option linter.unusedVariables false

/-- Cells of S may hold other things; none is gone, none frozen. -/
structure Tame (S : Nat → Prop) (w w' : World) : Prop where
  keep : Keep S w w'
  there : ∀ b o, (w.cell? ⟨b, o, none⟩).isSome = true → (w'.cell? ⟨b, o, none⟩).isSome = true
  fro : ∀ b o, b < w.heap.size → w'.frozen? ⟨b, o, none⟩ = w.frozen? ⟨b, o, none⟩

theorem Tame.refl (S : Nat → Prop) (w : World) : Tame S w w := ⟨Keep.refl _ _, fun _ _ h => h, fun _ _ _ => rfl⟩
theorem Tame.trans {S : Nat → Prop} {a b c : World} (h : Tame S a b) (k : Tame S b c) : Tame S a c :=
  ⟨h.keep.trans k.keep, fun x o hx => k.there x o (h.there x o hx), fun x o hx => (k.fro x o (Nat.lt_of_lt_of_le hx h.keep.size)).trans (h.fro x o hx)⟩
theorem Tame.set {S : Nat → Prop} (w : World) (b i : Nat) (v : Value) (hb : S b) : Tame S w (w.setCell ⟨b, i, none⟩ v) := by
  refine ⟨(keep_set w b i v).mono fun k _ e => e ▸ hb, fun x o hx => ?_, fun x o _ => World.frozen?_setCell ..⟩
  obtain ⟨u, hu⟩ := Option.isSome_iff_exists.1 hx
  by_cases e : (⟨b, i, none⟩ : Addr) = ⟨x, o, none⟩
  · cases e
    rw [World.cell?_setCell_same _ _ _ hu]; rfl
  · rw [World.cell?_setCell_other _ _ _ _ e]; exact hx
theorem Tame.alloc {S : Nat → Prop} {a w : World} (h : Tame S a w) (o : Obj) : Tame S a (w.alloc o) := by
  refine ⟨h.keep.alloc o, fun x y hx => ?_, fun x y hx => ?_⟩
  · have h1 := h.there x y hx
    obtain ⟨u, hu⟩ := Option.isSome_iff_exists.1 h1
    rw [World.cell?_alloc_lt _ _ _ (World.block_lt_of_cell? _ _ hu)]
    exact h1
  · rw [World.frozen?_alloc_old _ _ _ (by have := h.keep.size; show x ≠ _; omega)]
    exact h.fro x y hx
theorem Tame.drew {S : Nat → Prop} {a w : World} (h : Tame S a w) : Tame S a w.drew := ⟨h.keep.drew, h.there, h.fro⟩

/-- the cells of a row are there, in a world that is tame -/
theorem RowAt.tame {S : Nat → Prop} {w w' : World} {b o : Nat} {cs : List Value} (h : RowAt w b o cs) (t : Tame S w w') (hb : b < w.heap.size) (j : Nat) (hj : j < cs.length) :
    ∃ v, w'.cell? ⟨b, o + j, none⟩ = some v ∧ w'.frozen? ⟨b, o + j, none⟩ = false := by
  obtain ⟨h1, h2⟩ := h j hj
  have h3 := t.there b (o + j) (by rw [h1, List.getElem?_eq_getElem hj]; rfl)
  obtain ⟨v, hv⟩ := Option.isSome_iff_exists.1 h3
  exact ⟨v, hv, (t.fro b (o + j) hb).trans h2⟩

/-- the cells of a slice's elements are there, and not frozen -/
def There (w : World) (S : Nat → Prop) (a : Option Addr) (n sz : Nat) : Prop :=
  ∀ i, i < n → ∃ b off, a = some ⟨b, off, none⟩ ∧ b < w.heap.size ∧ S b ∧ ∀ j, j < sz → (w.cell? ⟨b, off + i * sz + j, none⟩).isSome = true ∧ w.frozen? ⟨b, off + i * sz + j, none⟩ = false
theorem There.tame {w w' : World} {S T : Nat → Prop} {a : Option Addr} {n sz : Nat} (h : There w S a n sz) (t : Tame T w w') : There w' S a n sz := fun i hi => by
  obtain ⟨b, off, h1, h2, h3, h4⟩ := h i hi
  exact ⟨b, off, h1, Nat.lt_of_lt_of_le h2 t.keep.size, h3, fun j hj => ⟨t.there _ _ (h4 j hj).1, (t.fro _ _ h2).trans (h4 j hj).2⟩⟩
theorem There.mono {w : World} {S T : Nat → Prop} {a : Option Addr} {n sz : Nat} (h : There w S a n sz) (hs : ∀ k, S k → T k) : There w T a n sz := fun i hi => by
  obtain ⟨b, off, h1, h2, h3, h4⟩ := h i hi
  exact ⟨b, off, h1, h2, hs b h3, h4⟩
theorem Rd.there {s : Sh} {w : World} {S : Nat → Prop} {a : Option Addr} {n c : Nat} {l : List s.T} (h : Rd (.slice s) w S [.slice a n c] l) : There w S a n s.size := fun i hi => by
  obtain ⟨a', c', hv, _, _, _, hx⟩ := h
  simp only [List.cons.injEq, Value.slice.injEq, and_true] at hv
  obtain ⟨rfl, rfl, rfl⟩ := hv
  obtain ⟨b, off, row, h1, h2, h3, h4, h5, _⟩ := hx i hi
  exact ⟨b, off, h1, h2, h3, fun j hj => by rw [(h5 j (by omega)).1, (h5 j (by omega)).2, List.getElem?_eq_getElem (by omega)]; exact ⟨rfl, rfl⟩⟩
theorem Tame.mono {S T : Nat → Prop} {w w' : World} (h : Tame S w w') (hs : ∀ k, S k → T k) : Tame T w w' := ⟨h.keep.mono fun k _ => hs k, h.there, h.fro⟩

set_option maxHeartbeats 1000000 in
theorem spoil_th (w : World) (S : Nat → Prop) (x1 x2 x4 : Int) (x3 : ByteArray) (a1 a2 a3 : Option Addr) (n1 n2 n3 c1 c2 c3 : Nat) (h1 : There w S a1 n1 3) (h2 : There w S a2 n2 1) (h3 : There w S a3 n3 1) (hS : ∀ k, S k → k < w.heap.size) (l1 : n1 ≤ 1048576) (l2 : n2 ≤ 1048576) (l3 : n3 ≤ 1048576) :
    Calls Try.prog 25 #[.agg #[.int .i64 x1, .int .u64 x2, .string x3, .slice a1 n1 c1, .int .i64 x4, .slice a2 n2 c2, .slice a3 n3 c3]] w fun e w' => e = .returned (.tuple #[]) ∧ Tame S w w' := by
  have hB : ¬ S w.heap.size := fun x => Nat.lt_irrefl _ (hS _ x)
  go_enter Try.func25, Try.ntmps25
  go_wp2_with fail
  go_loopw [2] (fun i wr => ∃ k : Nat, k ≤ n1 ∧ i = .int .i64 k ∧ Tame S (w.alloc (.cells #[.int .i64 x1, .int .u64 x2, .string x3, .slice a1 n1 c1, .int .i64 x4, .slice a2 n2 c2, .slice a3 n3 c3] 37)) wr) (fun i _ => n1 - (intOf i).toNat)
  case atStart => exact ⟨0, Nat.zero_le _, rfl, Tame.refl _ _⟩
  case round =>
    obtain ⟨k, hk, rfl, tw⟩ := hrel
    have g0 := blk_cell (tw.keep.blk (blk_new w _) hB)
    have T0 : Tame S w wr := ((Tame.refl S w).alloc _).trans tw
    by_cases hlt : k < n1
    · obtain ⟨b1, o1, rfl, hb1, hs1, hx1⟩ := h1.tame T0 k hlt
      obtain ⟨p0, f0⟩ := hx1 0 (by decide)
      obtain ⟨p1, f1⟩ := hx1 1 (by decide)
      obtain ⟨p2, f2⟩ := hx1 2 (by decide)
      obtain ⟨v0, p0⟩ := Option.isSome_iff_exists.1 p0
      obtain ⟨v1, p1⟩ := Option.isSome_iff_exists.1 p1
      obtain ⟨v2, p2⟩ := Option.isSome_iff_exists.1 p2
      simp at p0 p1 p2 f0 f1 f2
      have j0 : (0 : Int) ≤ (k : Int) := by omega
      have j1 : (k : Int) < (n1 : Int) := by omega
      clear hx1 h1 h2 h3
      go_wp2_with fail
      go_roundw
      case rel => exact ⟨k + 1, by omega, by go_num, ((tw.trans (Tame.set _ _ _ _ hs1)).trans (Tame.set _ _ _ _ hs1)).trans (Tame.set _ _ _ _ hs1)⟩
      case measure => simp [intOf]; omega
    · go_wp2_with fail
      go_loopw [3] (fun i wr => ∃ k : Nat, k ≤ n2 ∧ i = .int .i64 k ∧ Tame S (w.alloc (.cells #[.int .i64 x1, .int .u64 x2, .string x3, .slice a1 n1 c1, .int .i64 x4, .slice a2 n2 c2, .slice a3 n3 c3] 37)) wr) (fun i _ => n2 - (intOf i).toNat)
      case atStart => exact ⟨0, Nat.zero_le _, rfl, tw⟩
      case round =>
        obtain ⟨k, hk, rfl, tw⟩ := hrel
        have g0 := blk_cell (tw.keep.blk (blk_new w _) hB)
        have T0 : Tame S w wr := ((Tame.refl S w).alloc _).trans tw
        by_cases hlt : k < n2
        · obtain ⟨b1, o1, rfl, hb1, hs1, hx1⟩ := h2.tame T0 k hlt
          obtain ⟨p0, f0⟩ := hx1 0 (by decide)
          obtain ⟨v0, p0⟩ := Option.isSome_iff_exists.1 p0
          simp at p0 f0
          have j0 : (0 : Int) ≤ (k : Int) := by omega
          have j1 : (k : Int) < (n2 : Int) := by omega
          clear hx1 h1 h2 h3
          go_wp2_with fail
          go_roundw
          case rel => exact ⟨k + 1, by omega, by go_num, tw.trans (Tame.set _ _ _ _ hs1)⟩
          case measure => simp [intOf]; omega
        · go_wp2_with fail
          go_loopw [4] (fun i wr => ∃ k : Nat, k ≤ n3 ∧ i = .int .i64 k ∧ Tame S (w.alloc (.cells #[.int .i64 x1, .int .u64 x2, .string x3, .slice a1 n1 c1, .int .i64 x4, .slice a2 n2 c2, .slice a3 n3 c3] 37)) wr) (fun i _ => n3 - (intOf i).toNat)
          case atStart => exact ⟨0, Nat.zero_le _, rfl, tw⟩
          case round =>
            obtain ⟨k, hk, rfl, tw⟩ := hrel
            have g0 := blk_cell (tw.keep.blk (blk_new w _) hB)
            have T0 : Tame S w wr := ((Tame.refl S w).alloc _).trans tw
            by_cases hlt : k < n3
            · obtain ⟨b1, o1, rfl, hb1, hs1, hx1⟩ := h3.tame T0 k hlt
              obtain ⟨p0, f0⟩ := hx1 0 (by decide)
              obtain ⟨v0, p0⟩ := Option.isSome_iff_exists.1 p0
              simp at p0 f0
              have j0 : (0 : Int) ≤ (k : Int) := by omega
              have j1 : (k : Int) < (n3 : Int) := by omega
              clear hx1 h1 h2 h3
              go_wp2_with fail
              go_roundw
              case rel => exact ⟨k + 1, by omega, by go_num, tw.trans (Tame.set _ _ _ _ hs1)⟩
              case measure => simp [intOf]; omega
            · go_wp2_with fail
              go_end0
              exact ⟨rfl, ((Tame.refl S w).alloc _).trans tw⟩

theorem spoil_any (w : World) (S : Nat → Prop) (cs : List Value) (p : Plan) (h : Rd planSh w S cs p) (hS : ∀ k, S k → k < w.heap.size) (hp : p.Small) :
    Calls Try.prog 25 #[.agg cs.toArray] w fun e w' => e = .returned (.tuple #[]) ∧ Tame S w w' := by
  obtain ⟨a1, c1, a2, c2, a3, c3, rfl, h1, h2, h3, -⟩ := plan_cells h
  exact spoil_th w S _ _ _ _ a1 a2 a3 _ _ _ c1 c2 c3 (Rd.there h1) (Rd.there h2) (Rd.there h3) hS hp.1 hp.2.1 hp.2.2

end Go.Proofs.Ytjillekahongeaa
