/-
  The front of bytes.
-/
import Derived.Test.YtnknihmchmmenaaGreatGJ
namespace Go.Proofs.YtnknihmchmmenaaGreat
open Go Go.RowKit Go.Deep
set_option linter.unusedVariables false

/-- some bytes, seen as their front: where the block is there -/
theorem rd_front {w : World} {S : Nat → Prop} {a : Addr} {n k c : Nat} {l r : Bytes} (h : Rd bytesSh w S [.slice (some a) n c] (l ++ r)) (hk : l.length = k) : Rd bytesSh w S [.slice (some a) k c] l := by
  obtain ⟨a', c', hv, hle, hmax, hnil, hel⟩ := h
  simp only [List.cons.injEq, Value.slice.injEq, and_true] at hv
  obtain ⟨rfl, rfl, rfl⟩ := hv
  rw [List.length_append] at hle
  refine ⟨some a, c, by rw [hk], by omega, hmax, fun h => (by cases h), fun i hi => ?_⟩
  obtain ⟨b, off, row, h1, h2, h3, h4, h5, h6⟩ := hel i (by rw [List.length_append]; omega)
  refine ⟨b, off, row, h1, h2, h3, h4, h5, ?_⟩
  rw [List.getElem_append_left hi] at h6
  exact h6
end Go.Proofs.YtnknihmchmmenaaGreat
