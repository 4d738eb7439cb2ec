/-
  Parts of what is proved for this claim; each declaration is one of the seat's texts.
-/
import Derived.Test.YtfgdnakfikpmpaaGreatDoorFLC
set_option linter.unusedVariables false
set_option linter.unusedSimpArgs false
namespace Go.Proofs.YtfgdnakfikpmpaaGreatDoor
open Go Go.RowKit Go.Deep
structure Prc.Lens (p : Prc) : Prop where
  name : p.name.size ≤ 1048576
  kinds : p.kinds.length ≤ 1048576
  reads : p.reads.length ≤ 1048576
  writes : p.writes.length ≤ 1048576
  consts : p.pgm.consts.length ≤ 1048576
  code : p.pgm.code.length ≤ 1048576
theorem sum_len {α : Type} (f : α → Nat) (h : ∀ x, 1 ≤ f x) : ∀ l : List α, l.length ≤ (l.map f).sum
  | [] => Nat.le_refl _
  | x :: l => by have := sum_len f h l; have := h x; simp only [List.length_cons, List.map_cons, List.sum_cons]; omega
theorem sum_mem {α : Type} (f : α → Nat) : ∀ (l : List α) (x : α), x ∈ l → f x ≤ (l.map f).sum
  | y :: l, x, hx => by
    rcases List.mem_cons.1 hx with rfl | h
    · simp only [List.map_cons, List.sum_cons]; omega
    · have := sum_mem f l x h; simp only [List.map_cons, List.sum_cons]; omega
theorem prc_lens {p : Prc} (h : procSh.bulk p ≤ 1048576) : p.Lens := by
  have e : procSh.bulk p = ((p.name.size + 1) + (((p.kinds.map (Sh.int .i64).bulk).sum + 1) + (1 + (((p.reads.map Sh.str.bulk).sum + 1) + (((p.writes.map Sh.str.bulk).sum + 1) + (((1 + (((p.pgm.consts.map valueSh.bulk).sum + 1) + (((p.pgm.code.map instrSh.bulk).sum + 1) + 0))) + 1) + 0)))))) + 1 := rfl
  have h1 := sum_len (Sh.int .i64).bulk (fun _ => Nat.le_refl 1) p.kinds
  have h2 := sum_len Sh.str.bulk (fun x => Nat.le_add_left 1 _) p.reads
  have h3 := sum_len Sh.str.bulk (fun x => Nat.le_add_left 1 _) p.writes
  have h4 := sum_len valueSh.bulk (fun x => Nat.le_add_left 1 _) p.pgm.consts
  have h5 := sum_len instrSh.bulk (fun x => Nat.le_add_left 1 _) p.pgm.code
  exact ⟨by omega, by omega, by omega, by omega, by omega, by omega⟩
end Go.Proofs.YtfgdnakfikpmpaaGreatDoor
