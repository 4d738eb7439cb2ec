/-
  LogIndexed: what the law does.
-/
import Derived.Test.YtnknihmchmmenaaGreatIxH
import Derived.Test.YtnknihmchmmenaaGreatHJ
import Derived.Test.YtnknihmchmmenaaGreatGM
namespace Go.Proofs.YtnknihmchmmenaaGreat
open Go Go.RowKit Go.Deep
set_option linter.unusedVariables false
set_option linter.unusedSimpArgs false

theorem lensX_succ (l : List Act') (k : Nat) (h : k < l.length) : lensA (l.take (k + 1)) = lensA (l.take k) + l[k].plans.length := by
  unfold lensA
  rw [List.take_succ_eq_append_getElem h, List.map_append, List.sum_append]; simp
theorem lensX_take (l : List Act') (k : Nat) : lensA (l.take k) ≤ lensA l := by
  unfold lensA
  conv => rhs; rw [← List.take_append_drop k l, List.map_append, List.sum_append]
  omega
theorem cntI_append (l m : List Ent) : cntI (l ++ m) = cntI l + cntI m := by simp [cntI]
theorem cntI_layAt : ∀ (n : Nat) (e : Int) (ps : List Plan), cntI (layAt n e ps) ≤ partsL ps
  | _, _, [] => Nat.le_refl _
  | n, e, p :: ps => by
    have ih := cntI_layAt (n + 1) e ps
    have h1 : partsN p = 1 + p.args.length + p.reads.length + p.writes.length := rfl
    have h2 : cntI (layAt n e (p :: ps)) = (1 + p.reads.length + p.writes.length) + cntI (layAt (n + 1) e ps) := by simp [cntI, layAt, mkEnt, Ent.plan]
    have h3 : partsL (p :: ps) = partsN p + partsL ps := by simp [partsL]
    omega
/-- one Append more: how many entries, how many keys -/
theorem app_cnt (x : Lg) (ep : Int) (ps : List Plan) : (x.append ep ps).2.l.length ≤ x.l.length + ps.length ∧ cntI (x.append ep ps).2.l ≤ cntI x.l + partsL ps := by
  rcases append_cases x ep ps with ⟨-, e, -⟩ | ⟨e, -⟩
  · rw [e]; exact ⟨by omega, by omega⟩
  · rw [e]
    have h1 := layAt_len x.l.length ep ps
    have h2 := cntI_layAt x.l.length ep ps
    exact ⟨by show (x.l ++ layAt x.l.length ep ps).length ≤ _; rw [List.length_append]; omega, by show cntI (x.l ++ layAt x.l.length ep ps) ≤ _; rw [cntI_append]; omega⟩

/-- a good log's entries go into an index, one by one -/
theorem addI_good {x : Lg} (h : x.Good) {k : Nat} (hk : k < x.l.length) : addI (x.l.take k) x.l[k] = (0, x.l.take (k + 1)) := by
  have hl : (x.l.take k).length = k := by rw [List.length_take]; omega
  have hmem := List.getElem_mem hk
  have herr := (Ent.err_iff x.l[k]).1 (h.ok _ hmem).1
  unfold addI
  rw [if_neg (fun hh => hh (by rw [hl, h.seq k hk])), if_neg (by
    rintro (hh | ⟨hne, hh⟩)
    · have := herr.2.1; omega
    · have hk0 : 0 < k := by
        rcases Nat.eq_zero_or_pos k with h0 | h0
        · exact absurd (by rw [h0]; rfl) hne
        · exact h0
      rw [List.getLast_eq_getElem] at hh
      simp only [hl, List.getElem_take] at hh
      have := (List.pairwise_iff_getElem.1 h.rise) (k - 1) k (by omega) hk (by omega)
      omega), if_neg (fun hh => hh herr.2.2), List.take_succ_eq_append_getElem hk]
end Go.Proofs.YtnknihmchmmenaaGreat
