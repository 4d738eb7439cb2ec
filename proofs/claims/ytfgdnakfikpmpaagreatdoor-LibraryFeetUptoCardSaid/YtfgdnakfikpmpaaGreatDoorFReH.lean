/-
  Parts of what is proved for this claim; each declaration is one of the seat's texts.
-/
import Derived.Test.YtfgdnakfikpmpaaGreatDoorFLF
import Derived.Test.YtfgdnakfikpmpaaGreatDoorCards
import Derived.Test.YtfgdnakfikpmpaaGreatDoorTie
import Derived.Deep.DeepHandedRow
import Derived.LaidMore
set_option linter.unusedVariables false
set_option linter.unusedSimpArgs false
namespace Go.Proofs.YtfgdnakfikpmpaaGreatDoor
open Go Go.RowKit Go.Deep Go.ChangeShapes Go.WideShapes Go.ChangeAt
theorem cells_of_strs {H : Type} {enc : TypeId × Value → H} {P : Program} {w : World} {base : Nat} {sp : Nat → Bool} {held : Bool} {fuel : Nat} {t e : TypeId} {n : Nat} {cs : List Value} {zs : List ByteArray} {p : List MemPlace}
    (ht : P.underlying t = some (.array n e)) (he : P.underlying e = some .string) (hce : P.cellsOf e = 1) (hct : P.cellsOf t = n)
    (h : DataW.trod enc P w base sp held fuel t cs = some (.agg (zs.map fun z => .lit (.string z.data.toList)), p)) : cs = zs.map fun z => Value.string z := by
  cases fuel with
  | zero => simp [DataW.trod] at h
  | succ fuel =>
    simp only [DataW.trod, ht, hce, hct, Nat.mul_one] at h
    split at h
    · rename_i hl
      obtain ⟨xs, hm, hx⟩ := Option.map_eq_some_iff.1 h
      have hxs : xs.map (·.1) = zs.map fun z => (DataW.lit (.string z.data.toList) : DataW H) := by
        have := congrArg Prod.fst hx
        simpa using this
      have hxl : xs.length = n := by simpa using Lib.mapM_length hm
      have hzl : zs.length = n := by
        have := congrArg List.length hxs
        simp at this
        omega
      apply List.ext_getElem?
      intro i
      by_cases hi : i < n
      · obtain ⟨b, hb, hf⟩ := Lib.mapM_at hm i i (by simp [hi])
        obtain ⟨z, hc, rfl, _⟩ := DataW.trod_string he hf
        have h1 : cs[i]? = some (.string z) := by
          have := congrArg (·[0]?) hc
          simpa [List.getElem?_take, List.getElem?_drop] using this
        have h2 : (xs.map (·.1))[i]? = some (DataW.lit (.string z.data.toList) : DataW H) := by simp [hb]
        rw [hxs] at h2
        simp only [List.getElem?_map, Option.map_eq_some_iff, DataW.lit.injEq, Lit.string.injEq] at h2
        obtain ⟨z', hz', hzz⟩ := h2
        have : z' = z := by
          cases z with | mk d => cases z' with | mk d' => exact congrArg ByteArray.mk (Array.toList_inj.1 hzz)
        subst this
        simp [h1, hz']
      · rw [List.getElem?_eq_none (by omega), List.getElem?_eq_none (by simp; omega)]
    · cases h
theorem tPow : (Tryz.prog.globalNamed "internal/strconv.uint64pow10").bind (fun g => (Tryz.prog.globals[g]?).map (·.type)) = some 313 := by kernel_rfl
theorem cPow : Tryz.prog.cellsOf 313 = 20 := by kernel_rfl
theorem cPow1 : Tryz.prog.cellsOf 207 = 1 := by kernel_rfl
theorem tRange : (Tryz.prog.globalNamed "strconv.ErrRange").bind (fun g => (Tryz.prog.globals[g]?).map (·.type)) = some 129 := by kernel_rfl
theorem tSyntax : (Tryz.prog.globalNamed "strconv.ErrSyntax").bind (fun g => (Tryz.prog.globals[g]?).map (·.type)) = some 129 := by kernel_rfl
theorem gRange : Tryz.prog.globalNamed "strconv.ErrRange" = some 9 := by kernel_rfl
theorem gSyntax : Tryz.prog.globalNamed "strconv.ErrSyntax" = some 8 := by kernel_rfl
theorem tKinds : (Tryz.prog.globalNamed "tranche/library.kinds").bind (fun g => (Tryz.prog.globals[g]?).map (·.type)) = some 141 := by kernel_rfl
theorem gKinds : Tryz.prog.globalNamed "tranche/library.kinds" = some 0 := by kernel_rfl
theorem cKinds : Tryz.prog.cellsOf 141 = 4 := by kernel_rfl
theorem cKinds1 : Tryz.prog.cellsOf 9 = 1 := by kernel_rfl
theorem libEnv_of_laid {W : World} (h : laidMetH Tryz.prog Rows.libraryNilRow.laid W) : Tab W ∧ Errs W ∧ KindsW W := by
  have h' : laidMet Tryz.prog Rows.libraryNilRow.laid W := h
  obtain ⟨ps, ⟨g0, t0, cs0, f0, p0, q0, hg0, ht0, hv0, hd0, ⟨g1, t1, cs1, f1, p1, q1, hg1, ht1, hv1, hd1, ⟨g2, t2, cs2, f2, p2, q2, hg2, ht2, hv2, hd2, ⟨g3, t3, cs3, f3, p3, q3, hg3, ht3, hv3, hd3, ⟨g4, t4, cs4, f4, p4, q4, hg4, ht4, hv4, hd4, ⟨g5, t5, cs5, f5, p5, q5, hg5, ht5, hv5, hd5, ⟨g6, t6, cs6, f6, p6, q6, hg6, ht6, hv6, hd6, ⟨g7, t7, cs7, f7, p7, q7, hg7, ht7, hv7, hd7, _, _⟩, _⟩, _⟩, _⟩, _⟩, _⟩, _⟩, _⟩, _⟩ := h'
  refine ⟨?_, ⟨?_, ?_⟩, ?_⟩
  · have ht := tPow
    rw [hg2, Option.bind_some] at ht
    obtain rfl := Option.some.inj (ht.symm.trans ht2)
    show W.var? Tryz.prog "internal/strconv.uint64pow10" = _
    rw [hv2, ← Lib.cells_of_tab (zs := Lib.pow10Tab) Tryz.underlying313 Tryz.underlying207 cPow1 cPow hd2]
  · have ht := tSyntax
    rw [hg5, Option.bind_some] at ht
    obtain rfl := Option.some.inj (ht.symm.trans ht5)
    obtain ⟨_, u, v, e, -, -⟩ := iface_of_trod Tryz.underlying129 hd5
    refine ⟨u, v, ?_⟩
    rw [World.var?_cell gSyntax hv5 0]
    obtain ⟨l5⟩ := cs5
    have e' : l5 = [.iface u v] := e
    rw [e']
    rfl
  · have ht := tRange
    rw [hg4, Option.bind_some] at ht
    obtain rfl := Option.some.inj (ht.symm.trans ht4)
    obtain ⟨_, u, v, e, -, -⟩ := iface_of_trod Tryz.underlying129 hd4
    refine ⟨u, v, ?_⟩
    rw [World.var?_cell gRange hv4 0]
    obtain ⟨l4⟩ := cs4
    have e' : l4 = [.iface u v] := e
    rw [e']
    rfl
  · have ht := tKinds
    rw [hg6, Option.bind_some] at ht
    obtain rfl := Option.some.inj (ht.symm.trans ht6)
    have hcs := cells_of_strs (zs := kindsL) Tryz.underlying141 Tryz.underlying9 cKinds1 cKinds hd6
    intro j hj
    refine ⟨_, _, rfl, ?_⟩
    rw [World.var?_cell gKinds hv6 (0 + j)]
    obtain ⟨l6⟩ := cs6
    have e' : l6 = kindsL.map fun z => Value.string z := hcs
    rw [e']
    simp [hj]
end Go.Proofs.YtfgdnakfikpmpaaGreatDoor
