/-
  Parts of what is proved for this claim; each declaration is one of the seat's texts.
-/
import Derived.Test.YtpjcebajkfeacaaGreatDoorBGA
import Derived.Test.YtpjcebajkfeacaaGreatDoorBGC
import Derived.Test.YtpjcebajkfeacaaGreatDoorBGK
import Derived.Test.YtpjcebajkfeacaaGreatDoorBGU
import Derived.Test.YtpjcebajkfeacaaGreatDoorBGV
import Derived.Test.YtpjcebajkfeacaaGreatDoorBHA
import Derived.Test.YtpjcebajkfeacaaGreatDoorBHB
import Derived.Test.YtpjcebajkfeacaaGreatDoorBStL
import Derived.WalkKit
import Derived.WalkSpells
import Derived.WalkLawsBesides
import Derived.ProofKit
import Derived.Deep.Slices
import Derived.Deep.AppendSrc
import Derived.Lib.Hide
import Derived.Shelf.Strconv.Itoa4
import Derived.Shelf.Strings.BuilderK
import Derived.Shelf.Strings.OnBuilder
import Derived.Ground.NamesProg
import Derived.Lib.AppendIntMem
import Derived.Lib.UnsafeStr
import Derived.Lib.ItoaNum
import Derived.Lib.Join
import Derived.Still
import Derived.StillTactics
import Derived.Recover
import Derived.Defers
import Derived.Deep.QuietTactic
import Derived.BigQuiet
import Derived.Handy
import Derived.Laws.Bits64b
import Derived.Lib.Zigzag
import Derived.OwnWalk
import Derived.Deep.DeepCutAuto
import Derived.Deep.LoopGhost
import Derived.Lib.Bytealg
import Derived.Laws.Externs
import Derived.Laws.CopyRow
import Derived.Laws.IdiomCopy
import Derived.Maps.OwnSet
import Derived.Maps.RangeWalk
import Derived.Shelf.SortM.Plain
import Derived.Shelf.SortM.SortNone
import Derived.Ground.SlgmProg
import Derived.Maps.OwnOps
set_option linter.unusedVariables false
set_option linter.unusedSimpArgs false
namespace Go.Proofs.YtpjcebajkfeacaaGreatDoor
open Go Go.RowKit Go.Deep
def tabN : String := Rows.requestNamesRow.named.headD default
def Tab (w : World) : Prop := Lib.TabIs Tryz.prog w tabN .u64 Lib.pow10Tab
theorem Tab.keep {w w' : World} (h : Tab w) (hk : Keep No w w') : Tab w' := Lib.tabBelow_of_tabIs h w' hk.below
theorem keep_grow (w : World) (k : Nat) (os : Array Obj) : Keep No w (Sort.grow (w.drewN k) os) :=
  ⟨rfl, rfl, rfl, by simp [Sort.grow, World.drewN], fun i hi _ => by
    show (w.heap ++ os)[i]? = w.heap[i]?
    rw [Array.getElem?_append_left hi]⟩
def SaysU (w : World) (l : List UInt8) (e : Ending) (w' : World) : Prop := e = .returned (.string ⟨l.toArray⟩) ∧ Keep No w w'
theorem itoa_any (n : Int) (h0 : -9223372036854775808 ≤ n) (h1 : n ≤ 9223372036854775807) (w : World) (ht : Tab w) : Calls Tryz.prog 91 #[.int .i64 n] w (SaysU w (Lib.itoa n)) :=
  (Any.strconv_Itoa Tryz.laysItoa n h0 h1 w ht).mono (by
    rintro e w' ⟨rfl, k, os, rfl⟩
    exact ⟨rfl, keep_grow w k os⟩)
theorem formatInt_any (n : Int) (h0 : -9223372036854775808 ≤ n) (h1 : n ≤ 9223372036854775807) (w : World) (ht : Tab w) : Calls Tryz.prog 204 #[.int .i64 n, .int .i64 10] w (SaysU w (Lib.itoa n)) :=
  (Any.strconv_FormatInt_10 Tryz.laysFormatInt n h0 h1 w ht).mono (by
    rintro e w' ⟨rfl, k, os, rfl⟩
    exact ⟨rfl, keep_grow w k os⟩)
theorem Tryz.buildX : Builder.Extra Tryz.prog Tryz.laysJoin_ren := {
  sizeBuilder := by kernel_rfl
  liesBuilder := by kernel_rfl
  t5 := Tryz.underlying5
  a5 := Tryz.isAgg5
  z5 := Tryz.sizeOf5
  v5 := Tryz.zeroValue5
  infoByte := by kernel_rfl
  cellsByte := by kernel_rfl
  sizeByte := by kernel_rfl
  neB5 := by decide }
def Bld (B b : Nat) (l : List UInt8) (w : World) : Prop := Lib.IsBuilderF 226 5 B b (Lib.byteCells l) w
theorem bldWrite (B b : Nat) (l : List UInt8) (s : ByteArray) (w : World) (h : Bld B b l w) (hlen : l.length + s.size ≤ 140737488355328) (hBw : B ≤ w.heap.size) :
    Calls Tryz.prog 156 #[.pointer (some ⟨b, 0, none⟩), .string s] w fun e w' => (∃ v, e = .returned v) ∧ Bld B b (l ++ s.data.toList) w' ∧ Below B w w' := by
  have := Any.Builder_WriteString_k { Tryz.laysJoin with } Tryz.buildX B b (Lib.byteCells l) s w h (by simpa [Lib.byteCells] using hlen) hBw
  refine this.mono ?_
  rintro e w' ⟨rfl, h1, h2, -⟩
  refine ⟨⟨_, rfl⟩, ?_, h2⟩
  have h3 : Lib.byteCells (l ++ s.data.toList) = Lib.byteCells l ++ Lib.strCells s := by rw [Lib.byteCells_append, Lib.strCells_eq]
  unfold Bld
  rw [h3]
  exact .inr h1
theorem bldString (B b : Nat) (l : List UInt8) (w : World) (h : Bld B b l w) (hBw : B ≤ w.heap.size) :
    Calls Tryz.prog 157 #[.pointer (some ⟨b, 0, none⟩)] w fun e w' => e = .returned (.string ⟨l.toArray⟩) ∧ Bld B b l w' ∧ Below B w w' :=
  (Any.Builder_String_any_k { Tryz.laysJoin with } Tryz.buildX B b l w h hBw).mono (by
    rintro e w' ⟨rfl, h1, h2, -⟩
    exact ⟨rfl, h1, h2⟩)
theorem strs_cells {w : World} {S : Nat → Prop} {a : Option Addr} {n c : Nat} {l : List ByteArray} (h : Rd (.slice .str) w S [.slice a n c] l) (i : Nat) (hi : i < l.length) :
    ∃ b off, a = some ⟨b, off, none⟩ ∧ w.cell? ⟨b, off + i, none⟩ = some (.string l[i]) ∧ b < w.heap.size := by
  obtain ⟨a', c', e, _, _, _, hx⟩ := h
  simp only [List.cons.injEq, Value.slice.injEq, and_true] at e
  obtain ⟨rfl, rfl, rfl⟩ := e
  obtain ⟨b, off, row, h1, h2, h3, h4, h5, h6⟩ := hx i hi
  obtain ⟨rfl, -⟩ := h6
  have p0 := (h5 0 (by simp)).1
  simp [Sh.size] at p0
  exact ⟨b, off, h1, p0, h2⟩
theorem join_any (w : World) (S : Nat → Prop) (a : Option Addr) (c : Nat) (xs : List ByteArray) (h : Rd (.slice .str) w S [.slice a xs.length c] xs) (sep : ByteArray) (hn : xs ≠ []) (hlen : (Lib.join (xs.map (·.data.toList)) sep.data.toList).length ≤ 140737488355328) (hN : xs.length ≤ 1048576) :
    Calls Tryz.prog 94 #[.slice a xs.length c, .string sep] w (SaysU w (Lib.join (xs.map (·.data.toList)) sep.data.toList)) := by
  have hf := fun i hi => strs_cells h i hi
  cases xs with
  | nil => exact absurd rfl hn
  | cons x r =>
    obtain ⟨bk, o, rfl, -, hb⟩ := hf 0 (by simp)
    have hc := Rd.sliceForm h
    obtain ⟨a', c', e, hcap, -⟩ := hc
    simp only [List.cons.injEq, Value.slice.injEq, and_true] at e
    refine (Any.strings_Join Tryz.laysJoin Tryz.buildX bk o c (x :: r) sep w (fun j y hj => ?_) hb (by omega) (by rw [e.2.2]; exact hcap) hlen).mono ?_
    · have hjl : j < (x :: r).length := (List.getElem?_eq_some_iff.1 hj).1
      obtain ⟨b2, o2, e2, hcell, -⟩ := hf j hjl
      simp only [Option.some.injEq, Addr.mk.injEq, and_true] at e2
      obtain ⟨rfl, rfl⟩ := e2
      rw [List.getElem?_eq_getElem hjl] at hj
      rw [hcell]
      simpa using hj
    · rintro e w' ⟨rfl, hk⟩
      exact ⟨rfl, Keep.ofBelow hk⟩
set_option maxHeartbeats 6400000 in
set_option maxRecDepth 100000 in
theorem fmtUintI_any (u : Nat) (hu64 : u < 18446744073709551616) (w : World) (ht : Tab w) : Calls Tryz.prog 153 #[.int .u64 u, .int .i64 10] w (SaysU w (Lib.decDigits u)) := by
  by_cases hs : u < 100
  · have hsm := Any.internal_strconv_small (ρ := Tryz.laysItoa_ren) { Tryz.laysItoa with } u hs w
    have i1 : (u : Int) < 100 := by omega
    go_enter Tryz.func153, Tryz.ntmps153
    go_wp2_with (go_at_call 200; refine hsm.mono ?_; rintro e w' ⟨rfl, rfl⟩)
    go_ret
    exact ⟨rfl, Keep.refl No _⟩
  · have hu1 : 1 ≤ u := by omega
    have i1 : ¬ (u : Int) < 100 := by omega
    have hnd20 : Lib.nDigits u ≤ 20 := by have := Lib.numDigits_eq u hu1 hu64; split at this <;> omega
    have hal : Tryz.prog.arrayLen 255 = 24 := by kernel_rfl
    have hsl : ∀ W, (Instr.sliceAt 255 (.pointer (some ⟨w.heap.size, 0, none⟩)) none (some (.int .i64 (Lib.nDigits u : Int))) none).run Tryz.prog W = .ok (.slice (some ⟨w.heap.size, 0, none⟩) (Lib.nDigits u) 24) W := fun W => by
      rw [run_sliceAt_array_h W 255 ⟨w.heap.size, 0, none⟩ (by simp [Program.arrayLen, Program.elem, Tryz.underlying255]) .i64 (Lib.nDigits u : Int) (by omega) (by rw [hal]; omega)]
      go_simp
    have hH0 := Lib.holds_zero0 w 255 (Lib.nDigits u) (by omega)
    have hfmt := Any.internal_strconv_formatBase10 (ρ := Tryz.laysItoa_ren) { Tryz.laysItoa with } w.heap.size 0 24 u (Array.replicate (Lib.nDigits u) 0) (w.alloc (.cells Lib.zeros24 255)) hH0 (by rw [Array.size_replicate]; exact Lib.lt_pow_nDigits u) hu64 (by rw [Array.size_replicate]; omega)
    rw [Array.size_replicate] at hfmt
    have hnum := Any.internal_strconv_numDigits (ρ := Tryz.laysItoa_ren) { Tryz.laysItoa with } u hu1 hu64 (w.alloc (.cells Lib.zeros24 255)) (Lib.tabIs_alloc ht _)
    have HH0 := Lib.hid hH0
    clear hH0 hal
    go_enter Tryz.func153, Tryz.ntmps153
    go_wp2_with (first | (go_at_call 201; refine hnum.mono ?_; clear hnum; rintro e w' ⟨rfl, rfl⟩))
    refine hfmt.mono ?_
    rintro e w' ⟨rfl, k, v', dk, rfl, hF⟩
    have hcv : (convert 25 9 (.slice (some ⟨w.heap.size, 0, none⟩) (Lib.nDigits u) 24)).run Tryz.prog ((Sort.putRow (fun (b : UInt8) => Value.int .u8 (b.toNat : Int)) (w.alloc (.cells Lib.zeros24 255)) w.heap.size 0 dk).drewN k) = .ok (.string ⟨(Lib.decDigits u).toArray⟩) ((Sort.putRow (fun (b : UInt8) => Value.int .u8 (b.toNat : Int)) (w.alloc (.cells Lib.zeros24 255)) w.heap.size 0 dk).drewN k) := by
      have h := run_convert_bytes_back (P := Tryz.prog) ((Sort.putRow (fun (b : UInt8) => Value.int .u8 (b.toNat : Int)) (w.alloc (.cells Lib.zeros24 255)) w.heap.size 0 dk).drewN k) 25 9 5 ⟨w.heap.size, 0, none⟩ 24 (Lib.decDigits u) Tryz.underlying25 Tryz.underlying5 Tryz.underlying9 (fun j hj => by
        rw [Lib.row_is_numeral hF j hj, Lib.add_plain, World.cell?_drewN]
        exact Sort.cell?_putRow (fun (b : UInt8) => Value.int .u8 (b.toNat : Int)) _ w.heap.size 0 _ dk HH0.out (by rw [hF.size, Array.size_replicate]) j (by rw [hF.size]; rw [Lib.decDigits_length] at hj; exact hj))
      rw [Lib.decDigits_length] at h
      exact h
    go_wp2_with fail
    go_ret
    obtain ⟨os, eo⟩ := Lib.fin_at w (.cells Lib.zeros24 255) dk k 0
    rw [eo]
    exact ⟨rfl, keep_grow w k os⟩
set_option maxRecDepth 10000 in
theorem fmtUint_any (u : Nat) (hu64 : u < 18446744073709551616) (w : World) (ht : Tab w) : Calls Tryz.prog 92 #[.int .u64 u, .int .i64 10] w (SaysU w (Lib.decDigits u)) := by
  have h := fmtUintI_any u hu64 w ht
  go_enter Tryz.func92, Tryz.ntmps92
  go_wp2_with (go_at_call 153; refine h.mono ?_; rintro e w2 ⟨rfl, hk⟩)
  go_ret
  exact ⟨rfl, hk⟩
end Go.Proofs.YtpjcebajkfeacaaGreatDoor
namespace Go.Proofs.YtpjcebajkfeacaaGreatDoor
open Go Go.RowKit Go.Deep
def suitTo (ks : List Int) (args : List Val) (k : Nat) : Prop := ∀ i (h1 : i < ks.length) (h2 : i < args.length), i < k → suitB ks[i] args[i] = true
theorem suits_yes {ks : List Int} {args : List Val} (hl : args.length = ks.length) (h : suitTo ks args args.length) : suitsB ks args = true := by
  unfold suitsB
  rw [decide_eq_true hl, Bool.true_and, List.all_eq_true]
  intro x hx
  obtain ⟨i, hi, rfl⟩ := List.getElem_of_mem hx
  simp only [List.length_zip] at hi
  rw [List.getElem_zip]
  exact h i (by omega) (by omega) (by omega)
theorem suits_no {ks : List Int} {args : List Val} {i : Nat} (h1 : i < ks.length) (h2 : i < args.length) (h : suitB ks[i] args[i] = false) : suitsB ks args = false := by
  unfold suitsB
  rw [Bool.and_eq_false_iff]
  refine .inr (List.all_eq_false.2 ⟨(ks[i], args[i]), ?_, by simp [h]⟩)
  exact List.mem_iff_getElem.2 ⟨i, by simp; omega, by rw [List.getElem_zip]⟩
set_option maxRecDepth 10000 in
set_option maxHeartbeats 4000000 in
theorem suits_any (w : World) (S T : Nat → Prop) (m0 m2 m3 m4 m5 m6 m7 : Value) (o : m0.oneCell' = true ∧ m2.oneCell' = true ∧ m3.oneCell' = true ∧ m4.oneCell' = true ∧ m5.oneCell' = true ∧ m6.oneCell' = true ∧ m7.oneCell' = true) (a1 a2 : Option Addr) (c1 c2 : Nat) (ks : List Int) (args : List Val) (h1 : Rd (.slice (.int .i64)) w S [.slice a1 ks.length c1] ks) (h2 : Rd (.slice valueSh) w T [.slice a2 args.length c2] args) :
    Calls Tryz.prog 75 #[.agg #[m0, .slice a1 ks.length c1, m2, m3, m4, m5, m6, m7], .slice a2 args.length c2] w (GivesI w (if suitsB ks args then 0 else 82)) := by
  obtain ⟨o0, o2, o3, o4, o5, o6, o7⟩ := o
  obtain ⟨res, hres⟩ : ∃ res : Int, res = (if suitsB ks args then 0 else 82) := ⟨_, rfl⟩
  rw [← hres]
  have HRES := Lib.hid hres
  clear hres
  have hl63 := slice_len h2
  have K1 := (Keep.refl No w).alloc (.cells #[m0, .slice a1 ks.length c1, m2, m3, m4, m5, m6, m7] 130)
  have x1 := blk_new w (.cells #[m0, .slice a1 ks.length c1, m2, m3, m4, m5, m6, m7] 130)
  have q1 := blk_cell x1
  by_cases hl : args.length = ks.length
  · have e0 : ((args.length : Int) != (ks.length : Int)) = false := by simp; exact_mod_cast hl
    have HX := Lib.hid (And.intro K1 (And.intro x1 (And.intro hl (And.intro h1 h2))))
    clear K1 x1 hl h1 h2
    go_enter Tryz.func75, Tryz.ntmps75
    go_wp2_with fail
    go_loopg [16] args.length (fun g i wr => ∃ k : Nat, k ≤ args.length ∧ g = args.length - k ∧ i = .int .i64 k ∧ RowKit.Hid (Keep No (w.alloc (.cells #[m0, .slice a1 ks.length c1, m2, m3, m4, m5, m6, m7] 130)) wr ∧ suitTo ks args k))
    case atStart => exact ⟨0, by omega, by omega, rfl, Keep.refl No _, fun i _ _ h => absurd h (Nat.not_lt_zero _)⟩
    case round =>
      obtain ⟨k, hk, rfl, rfl, HR⟩ := hrel
      by_cases hlt : k < args.length
      · have hlk : k < ks.length := by rw [← HX.out.2.2.1]; exact hlt
        have j1 : (k : Int) < args.length := by omega
        have j2 : (k : Int) < ks.length := by omega
        have j0 : (0 : Int) ≤ k := by omega
        have j3 : (k : Int) ≤ 9223372036854775806 := by omega
        have kw := HX.out.1.trans HR.out.1
        obtain ⟨b2, f2, rfl, -, -, s0, s1, s2, hI, hs⟩ := vals_get (HX.out.2.2.2.2.agree _ kw.agreeNo) k hlt
        obtain ⟨b1, f1, rfl, hb1, -, r0, -⟩ := ints_get (HX.out.2.2.2.1.agree _ kw.agreeNo) k hlk
        have hv := (Valid_any args[k].kind args[k].num args[k].text hs (wr.alloc (.cells #[.int .i64 args[k].kind, .int .i64 args[k].num, .string args[k].text] 96))).mono (R' := fun e w3 => e = .returned (.bool args[k].ok) ∧ w3.heap[wr.heap.size]? = some (.cells #[.int .i64 args[k].kind, .int .i64 args[k].num, .string args[k].text] 96 (0, 0)) ∧ RowKit.Hid (Keep No (w.alloc (.cells #[m0, .slice (some ⟨b1, f1, none⟩) ks.length c1, m2, m3, m4, m5, m6, m7] 130)) w3)) (by
          rintro e w3 ⟨rfl, hk3⟩
          exact ⟨rfl, hk3.blk (blk_new _ _) (fun x => x), (HR.out.1.alloc _).trans hk3⟩)
        have x2 := HR.out.1.blk HX.out.2.1 (fun x => x)
        have q2 := blk_cell x2
        have q2a := blk_cell (blk_alloc (o' := .cells #[.int .i64 args[k].kind, .int .i64 args[k].num, .string args[k].text] 96) x2)
        have r0a : (wr.alloc (.cells #[.int .i64 args[k].kind, .int .i64 args[k].num, .string args[k].text] 96)).cell? ⟨b1, f1 + k, none⟩ = some (.int .i64 ks[k]) := (((Keep.refl No wr).alloc _).cell hb1 (fun x => x)).trans r0
        have hsb : suitB ks[k] args[k] = (args[k].ok && decide (args[k].kind ≠ 0) && (decide (ks[k] = args[k].kind) || decide (ks[k] = 3))) := rfl
        have hyes : suitB ks[k] args[k] = true → suitTo ks args (k + 1) := fun h i h1 h2 hi => by
          by_cases e : i = k
          · subst e; exact h
          · exact HR.out.2 i h1 h2 (by omega)
        have hno : suitB ks[k] args[k] = false → suitsB ks args = false := fun h => suits_no hlk hlt h
        rw [hsb] at hyes hno
        have HS := Lib.hid (And.intro hlt (And.intro hyes hno))
        clear x2 kw hI hyes hno hb1 hsb hs
        generalize args[k].ok = g1 at *
        generalize args[k].kind = y1 at *
        generalize args[k].num = y2 at *
        generalize args[k].text = y3 at *
        generalize ks[k] = y0 at *
        clear hlt hlk hk hl63
        cases g1 with
        | false =>
          go_wp2_with (go_at_call 107; refine hv.mono ?_; clear hv; rintro e w3 ⟨rfl, z3, HK3⟩)
          go_ret
          exact ⟨by rw [HRES.out, HS.out.2.2 (by simp)]; rfl, HX.out.1.trans HK3.out⟩
        | true =>
          by_cases hz : y1 = 0
          · subst hz
            go_wp2_with (go_at_call 107; refine hv.mono ?_; clear hv; rintro e w3 ⟨rfl, z3, HK3⟩; have z4 := blk_cell z3)
            go_ret
            exact ⟨by rw [HRES.out, HS.out.2.2 (by simp)]; rfl, HX.out.1.trans HK3.out⟩
          · have hz' : (y1 == 0) = false := by simpa using hz
            have HZ := Lib.hid hz
            clear hz
            by_cases hkk : y0 = y1
            · subst hkk
              go_wp2_with (go_at_call 107; refine hv.mono ?_; clear hv; rintro e w3 ⟨rfl, z3, HK3⟩; have z4 := blk_cell z3)
              go_roundg (args.length - (k + 1))
              case measure => have := HS.out.1; omega
              case rel => exact ⟨k + 1, by have := HS.out.1; omega, rfl, by simp, HK3.out, HS.out.2.1 (by simp [HZ.out])⟩
            · have hkk' : (y0 != y1) = true := by simpa using hkk
              have HKK := Lib.hid hkk
              clear hkk
              by_cases h3 : y0 = 3
              · subst h3
                go_wp2_with (go_at_call 107; refine hv.mono ?_; clear hv; rintro e w3 ⟨rfl, z3, HK3⟩; have z4 := blk_cell z3)
                go_roundg (args.length - (k + 1))
                case measure => have := HS.out.1; omega
                case rel => exact ⟨k + 1, by have := HS.out.1; omega, rfl, by simp, HK3.out, HS.out.2.1 (by simp [HZ.out])⟩
              · have h3' : (y0 != 3) = true := by simpa using h3
                have H3 := Lib.hid h3
                clear h3
                go_wp2_with (go_at_call 107; refine hv.mono ?_; clear hv; rintro e w3 ⟨rfl, z3, HK3⟩; have z4 := blk_cell z3)
                go_ret
                exact ⟨by rw [HRES.out, HS.out.2.2 (by simp [HKK.out, H3.out])]; rfl, HX.out.1.trans HK3.out⟩
      · obtain rfl : k = args.length := by omega
        have hy := suits_yes HX.out.2.2.1 HR.out.2
        have j1 : ¬ (args.length : Int) < args.length := by omega
        have HY := Lib.hid hy
        clear hy hlt hk
        go_wp2_with fail
        go_ret
        exact ⟨by rw [HRES.out, HY.out]; rfl, HX.out.1.trans HR.out.1⟩
  · have e0 : ((args.length : Int) != (ks.length : Int)) = true := by simp; exact_mod_cast hl
    have hno : suitsB ks args = false := by unfold suitsB; rw [decide_eq_false hl, Bool.false_and]
    have HX := Lib.hid (And.intro K1 hno)
    clear K1 x1 hl h1 h2 hno
    go_enter Tryz.func75, Tryz.ntmps75
    go_wp2_with fail
    go_ret
    exact ⟨by rw [HRES.out, HX.out.2]; rfl, HX.out.1⟩
end Go.Proofs.YtpjcebajkfeacaaGreatDoor
