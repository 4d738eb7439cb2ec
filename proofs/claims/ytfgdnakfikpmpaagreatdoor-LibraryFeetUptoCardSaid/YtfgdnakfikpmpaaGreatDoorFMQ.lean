/-
  Parts of what is proved for this claim; each declaration is one of the seat's texts.
-/
import Derived.Test.YtfgdnakfikpmpaaGreatDoorFMA
import Derived.Test.YtfgdnakfikpmpaaGreatDoorFMD
set_option linter.unusedVariables false
set_option linter.unusedSimpArgs false
namespace Go.Proofs.YtfgdnakfikpmpaaGreatDoor
open Go Go.RowKit Go.Deep
theorem own8_cells (w : World) (S : Nat → Prop) (cs : Array Value) (p : Prc) (h : Rd procSh w S cs.toList p) (hl : p.Lens) :
    Calls Tryz.prog 15 #[.agg cs] w fun e w2 => ∃ b1 d1 b2 d2 b3 d3 b4 d4 b5 d5, e = .returned (.agg #[.string p.name, .slice b1 p.kinds.length d1, .bool p.dep, .slice b2 p.reads.length d2, .slice b3 p.writes.length d3, .int .i64 p.pgm.args, .slice b4 p.pgm.consts.length d4, .slice b5 p.pgm.code.length d5]) ∧ RowKit.Hid (Rd procSh w2 (Fr w.heap.size w2.heap.size) #[.string p.name, .slice b1 p.kinds.length d1, .bool p.dep, .slice b2 p.reads.length d2, .slice b3 p.writes.length d3, .int .i64 p.pgm.args, .slice b4 p.pgm.consts.length d4, .slice b5 p.pgm.code.length d5].toList p ∧ Keep No w w2) := by
  have hh := own8_any w S cs.toList p h hl.kinds hl.reads hl.writes hl.consts hl.code
  rw [Array.toArray_toList] at hh
  refine hh.mono ?_
  rintro e w2 ⟨ds, rfl, hr, hk⟩
  obtain ⟨b1, d1, b2, d2, b3, d3, b4, d4, b5, d5, hcs, -⟩ := proc_cells hr
  obtain rfl : ds = #[.string p.name, .slice b1 p.kinds.length d1, .bool p.dep, .slice b2 p.reads.length d2, .slice b3 p.writes.length d3, .int .i64 p.pgm.args, .slice b4 p.pgm.consts.length d4, .slice b5 p.pgm.code.length d5] := by
    cases ds; simp at hcs; rw [hcs]
  exact ⟨b1, d1, b2, d2, b3, d3, b4, d4, b5, d5, rfl, hr, hk⟩
theorem num8_eq (n : Int) (w : World) : Calls Tryz.prog 16 #[.int .i64 n] w fun e w' => e = .returned (.int .i64 n) ∧ w = w' :=
  (num8_any n w).mono fun e w' h => ⟨h.1, h.2.symm⟩
end Go.Proofs.YtfgdnakfikpmpaaGreatDoor
