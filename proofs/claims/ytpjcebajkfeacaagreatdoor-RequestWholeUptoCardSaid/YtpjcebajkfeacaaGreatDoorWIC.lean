/-
  Parts of what is proved for this claim; each declaration is one of the seat's texts.
-/
import Derived.Test.YtpjcebajkfeacaaGreatDoorWGA
import Derived.Test.YtpjcebajkfeacaaGreatDoorWGC
import Derived.Test.YtpjcebajkfeacaaGreatDoorWGK
import Derived.Test.YtpjcebajkfeacaaGreatDoorWGU
import Derived.Test.YtpjcebajkfeacaaGreatDoorWHB
import Derived.Test.YtpjcebajkfeacaaGreatDoorWHC
import Derived.Test.YtpjcebajkfeacaaGreatDoorWHD
import Derived.Test.YtpjcebajkfeacaaGreatDoorWHT
import Derived.Test.YtpjcebajkfeacaaGreatDoorWHU
import Derived.Test.YtpjcebajkfeacaaGreatDoorWHV
import Derived.Test.YtpjcebajkfeacaaGreatDoorWIA
import Derived.Test.YtpjcebajkfeacaaGreatDoorWIB
import Derived.Still
import Derived.StillTactics
import Derived.WalkKit
import Derived.Recover
import Derived.Defers
import Derived.Deep.QuietTactic
import Derived.BigQuiet
import Derived.Handy
import Derived.Laws.Bits64b
import Derived.Lib.Zigzag
import Derived.WalkSpells
import Derived.WalkLawsBesides
import Derived.ProofKit
import Derived.Deep.Slices
import Derived.Deep.AppendSrc
import Derived.Lib.Hide
import Derived.Lib.EndianBits
import Derived.OpenShut
import Derived.Deep.LoopGhost
import Derived.Deep.DeepCutAuto
import Derived.OwnWalk
import Derived.Lib.Bytealg
import Derived.Laws.Externs
import Derived.Laws.CopyRow
import Derived.Laws.IdiomCopy
import Derived.Maps.OwnSet
import Derived.Maps.RangeWalk
import Derived.Shelf.SortM.Plain
import Derived.Shelf.SortM.SortNone
import Derived.Ground.SlgmProg
import Derived.Maps.OwnOps
import Derived.Lib.ItoaNum
import Derived.Lib.Join
import Derived.Deep.WholeRow
import Derived.Shelf.Strconv.Itoa4
import Derived.Shelf.Strings.BuilderK
import Derived.Shelf.Strings.OnBuilder
import Derived.Ground.NamesProg
import Derived.Lib.AppendIntMem
import Derived.Lib.UnsafeStr
import Derived.Maps.Views
set_option linter.unusedVariables false
set_option linter.unusedSimpArgs false
namespace Go.Proofs.YtpjcebajkfeacaaGreatDoor
open Go Go.RowKit Go.Deep
theorem StreamIn.mono {W : World} {s : Nat} {A B : Nat → Prop} {l : Bytes} {n : Int} (h : StreamIn W s A l n) (hs : ∀ k, A k → B k) (hb : ¬ B s) : StreamIn W s B l n := by
  obtain ⟨a, m, c, h1, h2, h3⟩ := h
  exact ⟨a, m, c, h1, h2.mono hs, hb⟩
section
variable {w : World} {s t : Nat} {col : Nat → Nat} {cur : Bytes} {n : Nat} {T : Bytes} {va ve : Value} {A : List Req} {E : List Int} {W W' : World}
def paint (col : Nat → Nat) (a b c : Nat) : Nat → Nat := fun k => if a ≤ k ∧ k < b then c else col k
theorem paint_old {col : Nat → Nat} {a b c k : Nat} (h : k < a) : paint col a b c k = col k := by unfold paint; rw [if_neg (by omega)]
theorem paint_in {col : Nat → Nat} {a b c k : Nat} (h : a ≤ k ∧ k < b) : paint col a b c k = c := by unfold paint; rw [if_pos h]
theorem paint_out {col : Nat → Nat} {a b c k : Nat} (h : b ≤ k) : paint col a b c k = col k := by unfold paint; rw [if_neg (by omega)]
end
end Go.Proofs.YtpjcebajkfeacaaGreatDoor
namespace Go.Proofs.YtpjcebajkfeacaaGreatDoor
open Go Go.RowKit Go.Deep
theorem app_rows {s : Sh} {e : TypeId} {w : World} {A T : Nat → Prop} {v : Value} {l : List s.T} (h : Own s e w A v l) {u : Value} {xs : List s.T} (hr : Rd (.slice s) w T [u] xs) (hAT : ∀ k, A k → ¬ T k)
    (ty : TypeId) (i0 : TypeInfo) (z : Value) (bytes : Nat) (hu : Tryz.prog.underlying ty = some (.slice e)) (hi : Tryz.prog.info? e = some i0) (hz0 : i0.zero = some z) (hz1 : i0.size = s.size) (hz2 : i0.bytes = bytes) (hzs : z.cells.size = s.size)
    (hl : l.length + xs.length ≤ 9223372036854775807) (hb : (l.length + xs.length) * bytes ≤ 140737488355328) :
    ∃ a c w', (Builtin.append_ #[ty, ty] ty #[v, u]).run Tryz.prog w = .ok (.slice a (l.length + xs.length) c) w' ∧ Own s e w' (fun i => (A i ∨ T i ∨ i = w.heap.size) ∧ i < w'.heap.size) (.slice a (l.length + xs.length) c) (l ++ xs) ∧ Keep A w w' := by
  obtain ⟨rows0, hrl, hrr, hsrc⟩ := Rd.rows hr
  have hs := hsrc Tryz.prog ty e hu w (Agree.refl _ _)
  obtain ⟨g, rows, U, h1, h2, h3, h4, h5⟩ := h
  have hlen0 : ∀ r ∈ rows0, r.length = s.size := fun r hr' => by
    obtain ⟨j, hj, rfl⟩ := List.getElem_of_mem hr'
    exact (hrr j hj (by omega)).length s
  obtain ⟨a, c, w', g', hr', ho', hg', hk', hsz⟩ := own_append h1 ty ty ty i0 _ bytes hu hi hz0 hz1 hz2 hzs (x := u) (news := rows0) hs hlen0 (by omega) (by rw [h2, hrl]; exact hb)
  rw [hrl, h2] at hr' ho'
  refine ⟨a, c, w', hr', ⟨g', rows ++ rows0, fun k => (U k ∨ T k) ∧ k < w.heap.size, ho', by simp [h2, hrl], fun i hi hi' => ?_, fun b hb => ⟨?_, fun hx => ?_⟩, fun k hk => ⟨?_, Nat.lt_of_lt_of_le hk.2 hk'.size⟩⟩, hk'.mono fun i _ hg => (h4 i hg).1⟩
  · by_cases hlt : i < rows.length
    · rw [List.getElem_append_left hlt, List.getElem_append_left (by omega)]
      refine ((h3 i hlt (by omega)).mono s fun k hk hu => ⟨.inl hu, hk⟩).agree s (hk'.agree fun k hk hu hg => ?_)
      rcases hu.1 with hu | hu
      · exact (h4 k hg).2 hu
      · exact hAT k (h4 k hg).1 hu
    · simp only [List.length_append] at hi hi'
      have e1 : (rows ++ rows0)[i]'(by simp; omega) = rows0[i - rows.length]'(by omega) := List.getElem_append_right (by omega)
      have e2 : (l ++ xs)[i]'(by simp; omega) = xs[i - l.length]'(by omega) := List.getElem_append_right (by omega)
      rw [e1, e2]
      have e3 : xs[i - l.length]'(by omega) = xs[i - rows.length]'(by omega) := by simp only [h2]
      rw [e3]
      refine ((hrr (i - rows.length) (by omega) (by omega)).mono s fun k hk hu => ⟨.inr hu, hk⟩).agree s (hk'.agree fun k hk hu hg => ?_)
      rcases hu.1 with hu | hu
      · exact (h4 k hg).2 hu
      · exact hAT k (h4 k hg).1 hu
  · have hlt := ho'.lt hb
    rcases hg' with rfl | rfl
    · exact ⟨.inl (h4 b hb).1, hlt⟩
    · cases hb; exact ⟨.inr (.inr rfl), hlt⟩
  · rcases hg' with rfl | rfl
    · rcases hx.1 with hu | hu
      · exact (h4 b hb).2 hu
      · exact hAT b (h4 b hb).1 hu
    · cases hb
      exact Nat.lt_irrefl _ hx.2
  · rcases hk.1 with hu | hu
    · exact .inl (h5 k hu)
    · exact .inr (.inl hu)
theorem app_reqs {w : World} {A T : Nat → Prop} {v : Value} {l : List Req} (h : Own requestSh 29 w A v l) {u : Value} {xs : List Req} (hr : Rd (.slice requestSh) w T [u] xs) (hAT : ∀ k, A k → ¬ T k) (hl : l.length + xs.length ≤ 1048576) :
    ∃ a c w', (Builtin.append_ #[65, 65] 65 #[v, u]).run Tryz.prog w = .ok (.slice a (l.length + xs.length) c) w' ∧ Own requestSh 29 w' (fun i => (A i ∨ T i ∨ i = w.heap.size) ∧ i < w'.heap.size) (.slice a (l.length + xs.length) c) (l ++ xs) ∧ Keep A w w' := by
  obtain ⟨i0, hi, hz0, hz1, hz2⟩ := info_parts Tryz.infoRq
  exact app_rows h hr hAT 65 i0 _ 56 Tryz.underlying65 hi hz0 hz1 hz2 rfl (by omega) (by omega)
section
variable {w : World} {s t : Nat} {col : Nat → Nat} {cur : Bytes} {n : Nat} {T : Bytes} {va ve : Value} {A : List Req} {E : List Int} {W W' : World}
def turn (col : Nat → Nat) (x y : Nat) : Nat → Nat := fun k => if col k = x then y else col k
theorem turn_is {col : Nat → Nat} {x y k : Nat} (h : col k = x) : turn col x y k = y := by unfold turn; rw [if_pos h]
theorem turn_no {col : Nat → Nat} {x y k : Nat} (h : col k ≠ x) : turn col x y k = col k := by unfold turn; rw [if_neg h]
end
end Go.Proofs.YtpjcebajkfeacaaGreatDoor
namespace Go.Proofs.YtpjcebajkfeacaaGreatDoor
open Go Go.RowKit Go.Deep
section
variable {w : World} {s t : Nat} {col : Nat → Nat} {cur : Bytes} {n : Nat} {T : Bytes} {va ve : Value} {A : List Req} {E : List Int} {W W' : World}
end
theorem reqs_get {w : World} {S : Nat → Prop} {a : Option Addr} {n c : Nat} {l : List Req} (h : Rd (.slice requestSh) w S [.slice a n c] l) (i : Nat) (hi : i < l.length) :
    ∃ b off a1 c1, a = some ⟨b, off, none⟩ ∧ w.cell? ⟨b, off + i * 4, none⟩ = some (.int .i64 l[i].client) ∧ w.cell? ⟨b, off + i * 4 + 1, none⟩ = some (.int .u64 l[i].token) ∧ w.cell? ⟨b, off + i * 4 + 2, none⟩ = some (.string l[i].name) ∧ w.cell? ⟨b, off + i * 4 + 3, none⟩ = some (.slice a1 l[i].args.length c1) ∧
      Rd requestSh w S [.int .i64 l[i].client, .int .u64 l[i].token, .string l[i].name, .slice a1 l[i].args.length c1] l[i] := by
  obtain ⟨b, off, row, ha, -, hb, hS, -, hrow, hx⟩ := h.elem' i hi
  obtain ⟨a1, c1, rfl, -⟩ := req_cells hx
  have p0 := (hrow 0 (by simp)).1
  have p1 := (hrow 1 (by simp)).1
  have p2 := (hrow 2 (by simp)).1
  have p3 := (hrow 3 (by simp)).1
  simp [Sh.size] at p0 p1 p2 p3
  exact ⟨b, off, a1, c1, ha, p0, p1, p2, p3, hx⟩
end Go.Proofs.YtpjcebajkfeacaaGreatDoor
