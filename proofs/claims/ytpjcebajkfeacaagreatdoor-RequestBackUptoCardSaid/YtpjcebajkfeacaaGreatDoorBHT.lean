/-
  Parts of what is proved for this claim; each declaration is one of the seat's texts.
-/
import Derived.Test.YtpjcebajkfeacaaGreatDoorBGA
import Derived.Test.YtpjcebajkfeacaaGreatDoorBGB
import Derived.Test.YtpjcebajkfeacaaGreatDoorBGC
import Derived.Test.YtpjcebajkfeacaaGreatDoorBGF
import Derived.Test.YtpjcebajkfeacaaGreatDoorBGI
import Derived.Test.YtpjcebajkfeacaaGreatDoorBGJ
import Derived.Test.YtpjcebajkfeacaaGreatDoorBGQ
import Derived.Test.YtpjcebajkfeacaaGreatDoorBHD
import Derived.Test.YtpjcebajkfeacaaGreatDoorBHL
import Derived.WalkKit
import Derived.WalkSpells
import Derived.WalkLawsBesides
import Derived.ProofKit
import Derived.Deep.Slices
import Derived.Deep.AppendSrc
import Derived.Lib.Hide
import Derived.Lib.EndianBits
import Derived.OpenShut
import Derived.Still
import Derived.StillTactics
import Derived.Recover
import Derived.Defers
import Derived.Deep.QuietTactic
import Derived.BigQuiet
import Derived.Handy
import Derived.Laws.Bits64b
import Derived.Lib.Zigzag
import Derived.Deep.LoopGhost
import Derived.Deep.DeepCutAuto
import Derived.OwnWalk
import Derived.Lib.Bytealg
import Derived.Laws.Externs
import Derived.Laws.CopyRow
import Derived.Laws.IdiomCopy
import Derived.Maps.OwnSet
import Derived.Maps.RangeWalk
import Derived.Shelf.SortM.Plain
import Derived.Shelf.SortM.SortNone
import Derived.Ground.SlgmProg
import Derived.Maps.OwnOps
import Derived.Lib.ItoaNum
import Derived.Lib.Join
import Derived.Deep.WholeRow
import Derived.Shelf.Strconv.Itoa4
import Derived.Shelf.Strings.BuilderK
import Derived.Shelf.Strings.OnBuilder
import Derived.Ground.NamesProg
import Derived.Lib.AppendIntMem
import Derived.Lib.UnsafeStr
import Derived.Maps.Views
set_option linter.unusedVariables false
set_option linter.unusedSimpArgs false
namespace Go.Proofs.YtpjcebajkfeacaaGreatDoor
open Go Go.RowKit Go.Deep
theorem own_bytes {w : World} {S : Nat → Prop} {v : Value} {l : Bytes} (h : Own (.int .u8) 5 w S v l) {T : Nat → Prop} {u : Value} {xs : Bytes} (hr : Rd bytesSh w T [u] xs) (hl : l.length + xs.length ≤ 140737488355328) :
    ∃ a c w', (Builtin.append_ #[25, 25] 25 #[v, u]).run Tryz.prog w = .ok (.slice a (l.length + xs.length) c) w' ∧ Own (.int .u8) 5 w' (fun k => S k ∨ Fr w.heap.size w'.heap.size k) (.slice a (l.length + xs.length) c) (l ++ xs) ∧ Keep S w w' := by
  obtain ⟨i0, hi, hz0, hz1, hz2⟩ := info_parts Tryz.infoByte
  obtain ⟨g, rows, U, h1, h2, h3, h4, h5⟩ := h
  have hx := bytes_all hr
  have hxr := flat_flatten xs
  have hs : Src Tryz.prog 1 25 u xs.length (xs.map (Value.int .u8)) w := by
    obtain ⟨rs, hrl, hrr, hsrc⟩ := Rd.rows hr
    have := hsrc Tryz.prog 25 5 Tryz.underlying25 w (Agree.refl _ _)
    have e : rs.flatten = xs.map (Value.int .u8) := by
      have : rs = xs.map fun x => [Value.int .u8 x] := by
        apply List.ext_getElem (by simp [hrl])
        intro i h1 h2
        have := hrr i h1 (by simpa using h2)
        rw [List.getElem_map]
        exact this.1
      rw [this, flat_flatten]
    rw [e, hrl] at this
    exact this
  obtain ⟨a, c, w', g', hr', ho', hg', hk', hsz⟩ := own_append h1 25 25 25 i0 _ 1 Tryz.underlying25 hi hz0 hz1 hz2 rfl (x := u) (news := xs.map fun x => [Value.int .u8 x]) (by
    rw [List.length_map, hxr]; exact hs) (fun r hr => by obtain ⟨y, -, rfl⟩ := List.mem_map.1 hr; rfl) (by rw [List.length_map, h2]; omega) (by rw [List.length_map, h2]; omega)
  rw [List.length_map, h2] at hr' ho'
  refine ⟨a, c, w', hr', ⟨g', rows ++ xs.map (fun x => [Value.int .u8 x]), No, ho', by simp [h2], fun i hi hi' => ?_, fun b hb => ⟨?_, fun x => x⟩, fun _ x => x.elim⟩, hk'.mono fun k _ hgk => (h4 k hgk).1⟩
  · by_cases hlt : i < rows.length
    · rw [List.getElem_append_left hlt, List.getElem_append_left (by omega)]
      exact Rd.ofFlat _ rfl (h3 i hlt (by omega))
    · simp only [List.length_append, List.length_map] at hi hi'
      have e1 : (rows ++ xs.map fun x => [Value.int .u8 x])[i]'(by simp; omega) = (xs.map fun x => [Value.int .u8 x])[i - rows.length]'(by simp; omega) := List.getElem_append_right (by omega)
      have e2 : (l ++ xs)[i]'(by simp; omega) = xs[i - l.length]'(by omega) := List.getElem_append_right (by omega)
      rw [e1, e2]
      have e3 : xs[i - l.length]'(by omega) = xs[i - rows.length]'(by omega) := by simp only [h2]
      rw [e3]
      exact flat_rows xs hx _ _ _
  · have hlt := ho'.lt hb
    rcases hg' with rfl | rfl
    · exact .inl (h4 b hb).1
    · cases hb; exact .inr ⟨Nat.le_refl _, hlt⟩
end Go.Proofs.YtpjcebajkfeacaaGreatDoor
