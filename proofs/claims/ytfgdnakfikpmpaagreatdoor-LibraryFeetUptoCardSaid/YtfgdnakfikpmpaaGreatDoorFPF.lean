/-
  Parts of what is proved for this claim; each declaration is one of the seat's texts.
-/
import Derived.Test.YtfgdnakfikpmpaaGreatDoorFPB
import Derived.Test.YtfgdnakfikpmpaaGreatDoorFStL
import Derived.Lib.AppendIntMem
set_option linter.unusedVariables false
set_option linter.unusedSimpArgs false
namespace Go.Proofs.YtfgdnakfikpmpaaGreatDoor
open Go Go.RowKit Go.Deep
def suitTo (ks : List Int) (args : List Val) (k : Nat) : Prop := ∀ i (h1 : i < ks.length) (h2 : i < args.length), i < k → suitB ks[i] args[i] = true
theorem suits_yes {ks : List Int} {args : List Val} (hl : args.length = ks.length) (h : suitTo ks args args.length) : suitsB ks args = true := by
  unfold suitsB
  rw [decide_eq_true hl, Bool.true_and, List.all_eq_true]
  intro x hx
  obtain ⟨i, hi, rfl⟩ := List.getElem_of_mem hx
  simp only [List.length_zip] at hi
  rw [List.getElem_zip]
  exact h i (by omega) (by omega) (by omega)
theorem suits_no {ks : List Int} {args : List Val} {i : Nat} (h1 : i < ks.length) (h2 : i < args.length) (h : suitB ks[i] args[i] = false) : suitsB ks args = false := by
  unfold suitsB
  rw [Bool.and_eq_false_iff]
  refine .inr (List.all_eq_false.2 ⟨(ks[i], args[i]), ?_, by simp [h]⟩)
  exact List.mem_iff_getElem.2 ⟨i, by simp; omega, by rw [List.getElem_zip]⟩
set_option maxRecDepth 10000 in
set_option maxHeartbeats 4000000 in
theorem suits_any (w : World) (S T : Nat → Prop) (m0 m2 m3 m4 m5 m6 m7 : Value) (o : m0.oneCell' = true ∧ m2.oneCell' = true ∧ m3.oneCell' = true ∧ m4.oneCell' = true ∧ m5.oneCell' = true ∧ m6.oneCell' = true ∧ m7.oneCell' = true) (a1 a2 : Option Addr) (c1 c2 : Nat) (ks : List Int) (args : List Val) (h1 : Rd (.slice (.int .i64)) w S [.slice a1 ks.length c1] ks) (h2 : Rd (.slice valueSh) w T [.slice a2 args.length c2] args) :
    Calls Tryz.prog 28 #[.agg #[m0, .slice a1 ks.length c1, m2, m3, m4, m5, m6, m7], .slice a2 args.length c2] w (GivesI w (if suitsB ks args then 0 else 82)) := by
  obtain ⟨o0, o2, o3, o4, o5, o6, o7⟩ := o
  obtain ⟨res, hres⟩ : ∃ res : Int, res = (if suitsB ks args then 0 else 82) := ⟨_, rfl⟩
  rw [← hres]
  have HRES := Lib.hid hres
  clear hres
  have hl63 := slice_len h2
  have K1 := (Keep.refl No w).alloc (.cells #[m0, .slice a1 ks.length c1, m2, m3, m4, m5, m6, m7] 29)
  have x1 := blk_new w (.cells #[m0, .slice a1 ks.length c1, m2, m3, m4, m5, m6, m7] 29)
  have q1 := blk_cell x1
  by_cases hl : args.length = ks.length
  · have e0 : ((args.length : Int) != (ks.length : Int)) = false := by simp; exact_mod_cast hl
    have HX := Lib.hid (And.intro K1 (And.intro x1 (And.intro hl (And.intro h1 h2))))
    clear K1 x1 hl h1 h2
    go_enter Tryz.func28, Tryz.ntmps28
    go_wp2_with fail
    go_loopg [16] args.length (fun g i wr => ∃ k : Nat, k ≤ args.length ∧ g = args.length - k ∧ i = .int .i64 k ∧ RowKit.Hid (Keep No (w.alloc (.cells #[m0, .slice a1 ks.length c1, m2, m3, m4, m5, m6, m7] 29)) wr ∧ suitTo ks args k))
    case atStart => exact ⟨0, by omega, by omega, rfl, Keep.refl No _, fun i _ _ h => absurd h (Nat.not_lt_zero _)⟩
    case round =>
      obtain ⟨k, hk, rfl, rfl, HR⟩ := hrel
      by_cases hlt : k < args.length
      · have hlk : k < ks.length := by rw [← HX.out.2.2.1]; exact hlt
        have j1 : (k : Int) < args.length := by omega
        have j2 : (k : Int) < ks.length := by omega
        have j0 : (0 : Int) ≤ k := by omega
        have j3 : (k : Int) ≤ 9223372036854775806 := by omega
        have kw := HX.out.1.trans HR.out.1
        obtain ⟨b2, f2, rfl, -, -, s0, s1, s2, hI, hs⟩ := vals_get (HX.out.2.2.2.2.agree _ kw.agreeNo) k hlt
        obtain ⟨b1, f1, rfl, hb1, -, r0, -⟩ := ints_get (HX.out.2.2.2.1.agree _ kw.agreeNo) k hlk
        have hv := (Valid_any args[k].kind args[k].num args[k].text hs (wr.alloc (.cells #[.int .i64 args[k].kind, .int .i64 args[k].num, .string args[k].text] 47))).mono (R' := fun e w3 => e = .returned (.bool args[k].ok) ∧ w3.heap[wr.heap.size]? = some (.cells #[.int .i64 args[k].kind, .int .i64 args[k].num, .string args[k].text] 47 (0, 0)) ∧ RowKit.Hid (Keep No (w.alloc (.cells #[m0, .slice (some ⟨b1, f1, none⟩) ks.length c1, m2, m3, m4, m5, m6, m7] 29)) w3)) (by
          rintro e w3 ⟨rfl, hk3⟩
          exact ⟨rfl, hk3.blk (blk_new _ _) (fun x => x), (HR.out.1.alloc _).trans hk3⟩)
        have x2 := HR.out.1.blk HX.out.2.1 (fun x => x)
        have q2 := blk_cell x2
        have q2a := blk_cell (blk_alloc (o' := .cells #[.int .i64 args[k].kind, .int .i64 args[k].num, .string args[k].text] 47) x2)
        have r0a : (wr.alloc (.cells #[.int .i64 args[k].kind, .int .i64 args[k].num, .string args[k].text] 47)).cell? ⟨b1, f1 + k, none⟩ = some (.int .i64 ks[k]) := (((Keep.refl No wr).alloc _).cell hb1 (fun x => x)).trans r0
        have hsb : suitB ks[k] args[k] = (args[k].ok && decide (args[k].kind ≠ 0) && (decide (ks[k] = args[k].kind) || decide (ks[k] = 3))) := rfl
        have hyes : suitB ks[k] args[k] = true → suitTo ks args (k + 1) := fun h i h1 h2 hi => by
          by_cases e : i = k
          · subst e; exact h
          · exact HR.out.2 i h1 h2 (by omega)
        have hno : suitB ks[k] args[k] = false → suitsB ks args = false := fun h => suits_no hlk hlt h
        rw [hsb] at hyes hno
        have HS := Lib.hid (And.intro hlt (And.intro hyes hno))
        clear x2 kw hI hyes hno hb1 hsb hs
        generalize args[k].ok = g1 at *
        generalize args[k].kind = y1 at *
        generalize args[k].num = y2 at *
        generalize args[k].text = y3 at *
        generalize ks[k] = y0 at *
        clear hlt hlk hk hl63
        cases g1 with
        | false =>
          go_wp2_with (go_at_call 72; refine hv.mono ?_; clear hv; rintro e w3 ⟨rfl, z3, HK3⟩)
          go_ret
          exact ⟨by rw [HRES.out, HS.out.2.2 (by simp)]; rfl, HX.out.1.trans HK3.out⟩
        | true =>
          by_cases hz : y1 = 0
          · subst hz
            go_wp2_with (go_at_call 72; refine hv.mono ?_; clear hv; rintro e w3 ⟨rfl, z3, HK3⟩; have z4 := blk_cell z3)
            go_ret
            exact ⟨by rw [HRES.out, HS.out.2.2 (by simp)]; rfl, HX.out.1.trans HK3.out⟩
          · have hz' : (y1 == 0) = false := by simpa using hz
            have HZ := Lib.hid hz
            clear hz
            by_cases hkk : y0 = y1
            · subst hkk
              go_wp2_with (go_at_call 72; refine hv.mono ?_; clear hv; rintro e w3 ⟨rfl, z3, HK3⟩; have z4 := blk_cell z3)
              go_roundg (args.length - (k + 1))
              case measure => have := HS.out.1; omega
              case rel => exact ⟨k + 1, by have := HS.out.1; omega, rfl, by simp, HK3.out, HS.out.2.1 (by simp [HZ.out])⟩
            · have hkk' : (y0 != y1) = true := by simpa using hkk
              have HKK := Lib.hid hkk
              clear hkk
              by_cases h3 : y0 = 3
              · subst h3
                go_wp2_with (go_at_call 72; refine hv.mono ?_; clear hv; rintro e w3 ⟨rfl, z3, HK3⟩; have z4 := blk_cell z3)
                go_roundg (args.length - (k + 1))
                case measure => have := HS.out.1; omega
                case rel => exact ⟨k + 1, by have := HS.out.1; omega, rfl, by simp, HK3.out, HS.out.2.1 (by simp [HZ.out])⟩
              · have h3' : (y0 != 3) = true := by simpa using h3
                have H3 := Lib.hid h3
                clear h3
                go_wp2_with (go_at_call 72; refine hv.mono ?_; clear hv; rintro e w3 ⟨rfl, z3, HK3⟩; have z4 := blk_cell z3)
                go_ret
                exact ⟨by rw [HRES.out, HS.out.2.2 (by simp [HKK.out, H3.out])]; rfl, HX.out.1.trans HK3.out⟩
      · obtain rfl : k = args.length := by omega
        have hy := suits_yes HX.out.2.2.1 HR.out.2
        have j1 : ¬ (args.length : Int) < args.length := by omega
        have HY := Lib.hid hy
        clear hy hlt hk
        go_wp2_with fail
        go_ret
        exact ⟨by rw [HRES.out, HY.out]; rfl, HX.out.1.trans HR.out.1⟩
  · have e0 : ((args.length : Int) != (ks.length : Int)) = true := by simp; exact_mod_cast hl
    have hno : suitsB ks args = false := by unfold suitsB; rw [decide_eq_false hl, Bool.false_and]
    have HX := Lib.hid (And.intro K1 hno)
    clear K1 x1 hl h1 h2 hno
    go_enter Tryz.func28, Tryz.ntmps28
    go_wp2_with fail
    go_ret
    exact ⟨by rw [HRES.out, HX.out.2]; rfl, HX.out.1⟩
end Go.Proofs.YtfgdnakfikpmpaaGreatDoor
namespace Go.Proofs.YtfgdnakfikpmpaaGreatDoor
open Go Go.RowKit Go.Deep
def tabN : String := "internal/strconv.uint64pow10"
def Tab (w : World) : Prop := Lib.TabIs Tryz.prog w tabN .u64 Lib.pow10Tab
theorem Tab.keep {w w' : World} (h : Tab w) (hk : Keep No w w') : Tab w' := Lib.tabBelow_of_tabIs h w' hk.below
theorem keep_grow (w : World) (k : Nat) (os : Array Obj) : Keep No w (Sort.grow (w.drewN k) os) :=
  ⟨rfl, rfl, rfl, by simp [Sort.grow, World.drewN], fun i hi _ => by
    show (w.heap ++ os)[i]? = w.heap[i]?
    rw [Array.getElem?_append_left hi]⟩
def SaysU (w : World) (l : List UInt8) (e : Ending) (w' : World) : Prop := e = .returned (.string ⟨l.toArray⟩) ∧ Keep No w w'
theorem formatInt_any (n : Int) (h0 : -9223372036854775808 ≤ n) (h1 : n ≤ 9223372036854775807) (w : World) (ht : Tab w) : Calls Tryz.prog 117 #[.int .i64 n, .int .i64 10] w (SaysU w (Lib.itoa n)) :=
  (Any.strconv_FormatInt_10 Tryz.laysFormatInt n h0 h1 w ht).mono (by
    rintro e w' ⟨rfl, k, os, rfl⟩
    exact ⟨rfl, keep_grow w k os⟩)
theorem Tryz.buildX : Builder.Extra Tryz.prog Tryz.laysJoin_ren := {
  sizeBuilder := by kernel_rfl
  liesBuilder := by kernel_rfl
  t5 := Tryz.underlying5
  a5 := Tryz.isAgg5
  z5 := Tryz.sizeOf5
  v5 := Tryz.zeroValue5
  infoByte := by kernel_rfl
  cellsByte := by kernel_rfl
  sizeByte := by kernel_rfl
  neB5 := by decide }
def Bld (B b : Nat) (l : List UInt8) (w : World) : Prop := Lib.IsBuilderF 125 5 B b (Lib.byteCells l) w
theorem bldWrite (B b : Nat) (l : List UInt8) (s : ByteArray) (w : World) (h : Bld B b l w) (hlen : l.length + s.size ≤ 140737488355328) (hBw : B ≤ w.heap.size) :
    Calls Tryz.prog 71 #[.pointer (some ⟨b, 0, none⟩), .string s] w fun e w' => (∃ v, e = .returned v) ∧ Bld B b (l ++ s.data.toList) w' ∧ Below B w w' := by
  have := Any.Builder_WriteString_k { Tryz.laysJoin with } Tryz.buildX B b (Lib.byteCells l) s w h (by simpa [Lib.byteCells] using hlen) hBw
  refine this.mono ?_
  rintro e w' ⟨rfl, h1, h2, -⟩
  refine ⟨⟨_, rfl⟩, ?_, h2⟩
  have h3 : Lib.byteCells (l ++ s.data.toList) = Lib.byteCells l ++ Lib.strCells s := by rw [Lib.byteCells_append, Lib.strCells_eq]
  unfold Bld
  rw [h3]
  exact .inr h1
theorem bldString (B b : Nat) (l : List UInt8) (w : World) (h : Bld B b l w) (hBw : B ≤ w.heap.size) :
    Calls Tryz.prog 75 #[.pointer (some ⟨b, 0, none⟩)] w fun e w' => e = .returned (.string ⟨l.toArray⟩) ∧ Bld B b l w' ∧ Below B w w' :=
  (Any.Builder_String_any_k { Tryz.laysJoin with } Tryz.buildX B b l w h hBw).mono (by
    rintro e w' ⟨rfl, h1, h2, -⟩
    exact ⟨rfl, h1, h2⟩)
theorem strs_cells {w : World} {S : Nat → Prop} {a : Option Addr} {n c : Nat} {l : List ByteArray} (h : Rd (.slice .str) w S [.slice a n c] l) (i : Nat) (hi : i < l.length) :
    ∃ b off, a = some ⟨b, off, none⟩ ∧ w.cell? ⟨b, off + i, none⟩ = some (.string l[i]) ∧ b < w.heap.size := by
  obtain ⟨a', c', e, _, _, _, hx⟩ := h
  simp only [List.cons.injEq, Value.slice.injEq, and_true] at e
  obtain ⟨rfl, rfl, rfl⟩ := e
  obtain ⟨b, off, row, h1, h2, h3, h4, h5, h6⟩ := hx i hi
  obtain ⟨rfl, -⟩ := h6
  have p0 := (h5 0 (by simp)).1
  simp [Sh.size] at p0
  exact ⟨b, off, h1, p0, h2⟩
end Go.Proofs.YtfgdnakfikpmpaaGreatDoor
namespace Go.Proofs.YtfgdnakfikpmpaaGreatDoor
open Go Go.RowKit Go.Deep
theorem Keep.ofB {B : Nat} {w w' : World} (h : Below B w w') : Keep (Up B) w w' := ⟨h.os, h.tape, h.output, h.size, fun k hk hn => h.block k (Nat.lt_of_not_le hn)⟩
theorem Keep.thenUp {B : Nat} {a b c : World} (h : Keep No a b) (hB : a.heap.size ≤ B) (k : Keep (Up B) b c) : Keep No a c := h.then k fun i hi hu => by have : B ≤ i := hu; omega
theorem Bld.keep {B b : Nat} {l : List UInt8} {w w' : World} (h : Bld B b l w) (hk : Keep No w w') : Bld B b l w' := by
  have key : ∀ p, Lib.BuilderAtF 125 5 B b p (Lib.byteCells l) w → Lib.BuilderAtF 125 5 B b p (Lib.byteCells l) w' := by
    rintro p ⟨h1, v, h2, ⟨h3, h4⟩, h5⟩
    refine ⟨h1, v, hk.blk h2 (fun x => x), ⟨h3, ?_⟩, h5⟩
    rcases h4 with h4 | ⟨g, cap, cur, fz, e1, e2, e3, e4⟩
    · exact .inl h4
    · exact .inr ⟨g, cap, cur, fz, e1, e2, hk.blk e3 (fun x => x), e4⟩
  rcases h with h | h
  · exact .inl (key _ h)
  · exact .inr (key _ h)
theorem bld_new (w : World) : Bld w.heap.size w.heap.size [] (w.alloc (.cells #[.pointer none, .slice none 0 0] 125)) := Lib.IsBuilderF.of (Lib.fresh_isBuilder _ _ w)
set_option maxRecDepth 10000 in
theorem digits_any (n : Int) (h0 : -9223372036854775808 ≤ n) (h1 : n ≤ 9223372036854775807) (w : World) (ht : Tab w) : Calls Tryz.prog 73 #[.int .i64 n] w (SaysU w (Lib.itoa n)) := by
  have h := formatInt_any n h0 h1 w ht
  clear h0 h1
  go_enter Tryz.func73, Tryz.ntmps73
  go_wp2_with (go_at_call 117; refine h.mono ?_; rintro e w2 ⟨rfl, hk⟩)
  go_ret
  exact ⟨rfl, hk⟩
def KeyTo (args : List Val) (l : List Prt) (k : Nat) (acc : List UInt8) : Prop := keyLs args l = (keyLs args (l.drop k)).map (acc ++ ·) ∧ acc.length ≤ k * 64
theorem given_kinds {v : Val} (h : givenV v = true) : v.ok = true ∧ v.kind ≠ 0 ∧ (v.kind = 1 ∨ (v.kind ≠ 1 ∧ v.text.size ≤ 64)) := by
  unfold givenV at h
  rw [Bool.and_eq_true, decide_eq_true_eq] at h
  refine ⟨h.1, h.2, ?_⟩
  by_cases h1 : v.kind = 1
  · exact .inl h1
  · refine .inr ⟨h1, ?_⟩
    have hk := h.1
    unfold Val.ok at hk
    rw [if_neg h.2, if_neg h1] at hk
    split at hk
    · simp only [Bool.and_eq_true, decide_eq_true_eq] at hk; exact hk.1.2
    · cases hk
theorem itoa_len (n : Int) (h0 : -9223372036854775808 ≤ n) (h1 : n ≤ 9223372036854775807) : (Lib.itoa n).length ≤ 21 := by
  have hd : ∀ u : Nat, u < 18446744073709551616 → (Lib.decDigits u).length ≤ 20 := fun u hu => by
    rw [Lib.decDigits_length]
    by_cases h : 1 ≤ u
    · have := Lib.numDigits_eq u h hu; split at this <;> omega
    · have : u = 0 := by omega
      subst this
      rw [Lib.nDigits_small (by omega)]
      omega
  unfold Lib.itoa
  split
  · have := hd n.natAbs (by omega); simp; omega
  · have := hd n.toNat (by omega); omega
theorem KeyTo.text {args : List Val} {l : List Prt} {k : Nat} {acc : List UInt8} (h : KeyTo args l k acc) (hk : k < l.length) (hn : l[k].arg < 0) (hs : l[k].text.size ≤ 1) : KeyTo args l (k + 1) (acc ++ l[k].text.data.toList) := by
  refine ⟨?_, ?_⟩
  · rw [h.1, List.drop_eq_getElem_cons hk]
    conv => lhs; rw [keyLs]
    rw [if_pos hn, Option.map_map]
    congr 1
    funext r
    simp
  · have : l[k].text.data.toList.length = l[k].text.size := by simp
    rw [List.length_append, this]; have := h.2; omega
theorem KeyTo.arg {args : List Val} {l : List Prt} {k j : Nat} {acc : List UInt8} (h : KeyTo args l k acc) (hk : k < l.length) (hn : l[k].arg = j) (hj : j < args.length) (hg : givenV args[j] = true) (hs : (argText args[j]).length ≤ 64) : KeyTo args l (k + 1) (acc ++ argText args[j]) := by
  have hget : args.getD l[k].arg.toNat val0 = args[j] := by rw [hn]; simp [List.getD, hj]
  refine ⟨?_, ?_⟩
  · rw [h.1, List.drop_eq_getElem_cons hk]
    conv => lhs; rw [keyLs]
    rw [if_neg (by omega), hget, if_neg (by rw [hg]; exact Bool.false_ne_true.symm), Option.map_map]
    congr 1
    funext r
    simp
  · rw [List.length_append]; have := h.2; omega
def KeyIs (w : World) (s : ByteArray) (e : Ending) (w' : World) : Prop :=
  e = .returned (if keyOk s then .tuple #[.string s, .int .i64 0] else .tuple #[.string noText, .int .i64 30]) ∧ Keep No w w'
set_option maxRecDepth 10000 in
set_option maxHeartbeats 4000000 in
theorem key_ok (t : ByteArray) (l : List Prt) (args : List Val) (hl : cutT t = some l) (hb : below args.length l = true) (hg : ∀ v ∈ args, givenV v = true) (b : List UInt8) (hkb : keyLs args l = some b) (w : World) (S : Nat → Prop) (a : Option Addr) (c : Nat)
    (h : Rd (.slice valueSh) w S [.slice a args.length c] args) (ht : Tab w) (ha : args.length ≤ 8) :
    Calls Tryz.prog 25 #[.string t, .slice a args.length c] w (KeyIs w ⟨b.toArray⟩) := by
  have hcut := (cut_ok t l hl w).mono (R' := fun e w2 => ∃ a2 c2, e = .returned (.tuple #[.slice a2 l.length c2, .bool true]) ∧ RowKit.Hid (OwnP w.heap.size w2 (.slice a2 l.length c2) l ∧ Keep No w w2)) (by
    rintro e w2 ⟨a2, c2, rfl, h1, h2⟩
    exact ⟨a2, c2, rfl, h1, h2⟩)
  have htm : tmplOk t args.length = true := by unfold tmplOk; rw [hl]; exact hb
  have harg := cutT_arg hl
  have HX := Lib.hid (And.intro h (And.intro ht (And.intro hg (And.intro hkb (And.intro harg hb)))))
  have HT : RowKit.Hid (∀ W, Calls Tryz.prog 48 #[.string t, .int .i64 args.length] W fun e w2 => e = .returned (.bool true) ∧ RowKit.Hid (Keep No W w2)) := fun W => template_ok t args.length htm W
  have HL := Lib.hid (And.intro ha harg.2)
  clear h ht hg hkb harg hb htm hl
  go_enter Tryz.func25, Tryz.ntmps25
  go_wp2_with (first | (go_at_call 70; refine hcut.mono ?_; clear hcut; rintro e w2 ⟨a2, c2, rfl, H2⟩) | (go_at_call 48; refine (HT.out _).mono ?_; rintro e w3 ⟨rfl, HK3⟩))
  have K3 := Lib.hid (H2.out.2.trans HK3.out)
  have hrd2 : Rd (.slice partSh) w3 (Fr w.heap.size w2.heap.size) [.slice a2 l.length c2] l := H2.out.1.rd.agree (.slice partSh) HK3.out.agreeNo
  have HP := Lib.hid hrd2
  have HB0 := Lib.hid (bld_new w3)
  clear hrd2 H2 HK3 HT
  have K4 := Lib.hid ((Keep.refl No w3).alloc (.cells #[.pointer none, .slice none 0 0] 125))
  generalize w3.alloc (.cells #[.pointer none, .slice none 0 0] 125) = w4 at *
  obtain ⟨B, hB⟩ : ∃ B, B = w3.heap.size := ⟨_, rfl⟩
  rw [← hB] at HB0 ⊢
  have HBB := Lib.hid hB
  clear hB
  go_loopg [28] l.length (fun g i wr => ∃ (k : Nat) (acc : List UInt8), k ≤ l.length ∧ g = l.length - k ∧ i = .int .i64 k ∧ RowKit.Hid (KeyTo args l k acc ∧ Bld B B acc wr ∧ Keep No w3 wr))
  case atStart => exact ⟨0, [], by omega, by omega, rfl, ⟨by simp, Nat.zero_le _⟩, HB0.out, K4.out⟩
  case round =>
    obtain ⟨k, acc, hk, rfl, rfl, HR⟩ := hrel
    by_cases hlt : k < l.length
    · have j1 : (k : Int) < l.length := by omega
      have j0 : (0 : Int) ≤ k := by omega
      have j3 : (k : Int) ≤ 64 := by have := HL.out.2; omega
      obtain ⟨bp, fp, rfl, -, -, p0, p1, ps⟩ := parts_get (HP.out.agree _ HR.out.2.2.agreeNo) k hlt
      have hpa := HX.out.2.2.2.2.1.1 l[k] (List.getElem_mem hlt)
      have hbe : l[k].arg < args.length := by
        have := HX.out.2.2.2.2.2
        unfold below at this
        rw [List.all_eq_true] at this
        exact of_decide_eq_true (this _ (List.getElem_mem hlt))
      have hacc : acc.length ≤ 4096 := by have := HR.out.1.2; have := HL.out.2; omega
      have hBw : B ≤ wr.heap.size := by rw [HBB.out]; exact HR.out.2.2.size
      by_cases hn : l[k].arg < 0
      · have hnext := HR.out.1.text hlt hn hpa.2.2
        have hwr := (bldWrite B B acc l[k].text (wr.alloc (.cells #[.string l[k].text, .int .i64 l[k].arg] 127)) (HR.out.2.1.keep ((Keep.refl No wr).alloc _)) (by have := hpa.2.2; omega) (by simp only [World.size_alloc]; omega)).mono (R' := fun e w6 => ∃ v, e = .returned v ∧ RowKit.Hid (Bld B B (acc ++ l[k].text.data.toList) w6 ∧ Keep No w3 w6)) (by
          rintro e w6 ⟨⟨v, rfl⟩, hb6, hk6⟩
          exact ⟨v, rfl, hb6, (HR.out.2.2.alloc _).thenUp (by rw [HBB.out]; exact Nat.le_refl _) (Keep.ofB hk6)⟩)
        have HS := Lib.hid (And.intro hlt hnext)
        clear hnext hbe hpa ps hBw hacc
        generalize l[k].text = x1 at *
        generalize l[k].arg = x2 at *
        clear hlt hk
        go_wp2_with (go_at_call 71; refine hwr.mono ?_; clear hwr; rintro e w6 ⟨v, rfl, H6⟩)
        go_roundg (l.length - (k + 1))
        case measure => have := HS.out.1; omega
        case rel => exact ⟨k + 1, _, by have := HS.out.1; omega, rfl, by simp, HS.out.2, H6.out.1, H6.out.2⟩
      · obtain ⟨j, hj⟩ : ∃ j : Nat, l[k].arg = j := ⟨l[k].arg.toNat, by omega⟩
        have hjl : j < args.length := by omega
        have i1 : (j : Int) < args.length := by omega
        have i0 : (0 : Int) ≤ j := by omega
        have i2 : (j : Int) ≤ 9 := by omega
        have i3 : ¬ (j : Int) < 0 := by omega
        obtain ⟨bv, fv, rfl, hbv, -, s0, s1, s2, hI, hs⟩ := vals_get ((HX.out.1.agree _ K3.out.agreeNo).agree _ HR.out.2.2.agreeNo) j hjl
        have hgj := HX.out.2.2.1 args[j] (List.getElem_mem hjl)
        obtain ⟨hok, hk0, hkk⟩ := given_kinds hgj
        have hlen : (argText args[j]).length ≤ 64 := by
          unfold argText
          rcases hkk with h1 | h1
          · rw [if_pos h1]; have := itoa_len args[j].num hI.n0 hI.n1; omega
          · rw [if_neg h1.1]
            have : args[j].text.data.toList.length = args[j].text.size := by simp
            omega
        have hnext := HR.out.1.arg hlt hj hjl hgj hlen
        rw [hj] at p1
        have ka := ((Keep.refl No wr).alloc (.cells #[.string l[k].text, .int .i64 j] 127))
        have s0a := (ka.cell hbv (o := fv + j * 3) (fun x => x)).trans s0
        have s1a := (ka.cell hbv (o := fv + j * 3 + 1) (fun x => x)).trans s1
        have s2a := (ka.cell hbv (o := fv + j * 3 + 2) (fun x => x)).trans s2
        have kb := ka.alloc (.cells #[.int .i64 args[j].kind, .int .i64 args[j].num, .string args[j].text] 47)
        have hv := (Valid_any args[j].kind args[j].num args[j].text hs ((wr.alloc (.cells #[.string l[k].text, .int .i64 j] 127)).alloc (.cells #[.int .i64 args[j].kind, .int .i64 args[j].num, .string args[j].text] 47))).mono (R' := fun e w5 => e = .returned (.bool true) ∧ w5.heap[wr.heap.size + 1]? = some (.cells #[.int .i64 args[j].kind, .int .i64 args[j].num, .string args[j].text] 47 (0, 0)) ∧ RowKit.Hid (Keep No wr w5)) (by
          rintro e w5 ⟨rfl, hk5⟩
          refine ⟨by rw [show (mkVal args[j].kind args[j].num args[j].text).ok = true from hok], ?_, kb.trans hk5⟩
          have := hk5.blk (blk_new (wr.alloc (.cells #[.string l[k].text, .int .i64 j] 127)) (.cells #[.int .i64 args[j].kind, .int .i64 args[j].num, .string args[j].text] 47)) (fun x => x)
          simpa using this)
        have HDI : RowKit.Hid (∀ W, Keep No wr W → Calls Tryz.prog 73 #[.int .i64 args[j].num] W fun e w6 => e = .returned (.string ⟨(Lib.itoa args[j].num).toArray⟩) ∧ RowKit.Hid (Keep No wr w6)) := fun W hW =>
          (digits_any args[j].num hI.n0 hI.n1 W (((HX.out.2.1.keep K3.out).keep HR.out.2.2).keep hW)).mono (by rintro e w6 ⟨rfl, hk6⟩; exact ⟨rfl, hW.trans hk6⟩)
        have HWS : RowKit.Hid (∀ W (x : ByteArray), Keep No wr W → x.size ≤ 64 → Calls Tryz.prog 71 #[.pointer (some ⟨B, 0, none⟩), .string x] W fun e w6 => ∃ v, e = .returned v ∧ RowKit.Hid (Bld B B (acc ++ x.data.toList) w6 ∧ Keep No w3 w6)) := fun W x hW hx => by
          refine (bldWrite B B acc x W (HR.out.2.1.keep hW) (by omega) (Nat.le_trans hBw hW.size)).mono ?_
          rintro e w6 ⟨⟨v, rfl⟩, hb6, hk6⟩
          exact ⟨v, rfl, hb6, (HR.out.2.2.trans hW).thenUp (by rw [HBB.out]; exact Nat.le_refl _) (Keep.ofB hk6)⟩
        have HS := Lib.hid (And.intro hlt (And.intro hnext hlen))
        clear hnext hbe hpa ps hBw hacc ka kb hgj hok hlen hn hI hs
        have hk0' : (args[j].kind == 0) = false := by simpa using hk0
        unfold argText at HS
        rcases hkk with h1 | h1
        · rw [if_pos h1] at HS
          generalize args[j].kind = y1 at *
          generalize args[j].num = y2 at *
          generalize args[j].text = y3 at *
          generalize l[k].text = x1 at *
          generalize l[k].arg = x2 at *
          subst h1
          clear hlt hk hj hjl hk0 hk0'
          go_wp2_with (first | (go_at_call 72; refine hv.mono ?_; clear hv; rintro e w5 ⟨rfl, z5, HK5⟩; have z6 := blk_cell z5) | (go_at_call 73; refine (HDI.out _ HK5.out).mono ?_; rintro e w6 ⟨rfl, HK6⟩) | (go_at_call 71; refine (HWS.out _ _ HK6.out (by have := HS.out.2.2; simpa [ByteArray.size] using this)).mono ?_; rintro e w7 ⟨v7, rfl, H7⟩))
          go_roundg (l.length - (k + 1))
          case measure => have := HS.out.1; omega
          case rel => exact ⟨k + 1, _, by have := HS.out.1; omega, rfl, by simp, HS.out.2.1, by simpa using H7.out.1, H7.out.2⟩
        · rw [if_neg h1.1] at HS
          have h1' : (args[j].kind == 1) = false := by simpa using h1.1
          have hx := h1.2
          generalize args[j].kind = y1 at *
          generalize args[j].num = y2 at *
          generalize args[j].text = y3 at *
          generalize l[k].text = x1 at *
          generalize l[k].arg = x2 at *
          clear hlt hk hj hjl hk0 h1
          go_wp2_with (first | (go_at_call 72; refine hv.mono ?_; clear hv; rintro e w5 ⟨rfl, z5, HK5⟩; have z6 := blk_cell z5) | (go_at_call 71; refine (HWS.out _ _ HK5.out hx).mono ?_; rintro e w7 ⟨v7, rfl, H7⟩))
          go_roundg (l.length - (k + 1))
          case measure => have := HS.out.1; omega
          case rel => exact ⟨k + 1, _, by have := HS.out.1; omega, rfl, by simp, HS.out.2.1, H7.out.1, H7.out.2⟩
    · obtain rfl : k = l.length := by omega
      have hd : keyLs args l = some acc := by
        have := HR.out.1.1
        rw [List.drop_length] at this
        simpa [keyLs] using this
      rw [HX.out.2.2.2.1] at hd
      obtain rfl := Option.some.inj hd
      have j1 : ¬ (l.length : Int) < l.length := by omega
      have hacc : b.length ≤ 4096 := by have := HR.out.1.2; have := HL.out.2; omega
      have HS0 : RowKit.Hid (∀ W, Bld B B b W → Keep No w3 W → Calls Tryz.prog 75 #[.pointer (some ⟨B, 0, none⟩)] W fun e w6 => e = .returned (.string ⟨b.toArray⟩) ∧ RowKit.Hid (Bld B B b w6 ∧ Keep No w3 w6)) := fun W hbW hW => by
        refine (bldString B B b W hbW (by rw [HBB.out]; exact hW.size)).mono ?_
        rintro e w6 ⟨rfl, hb6, hk6⟩
        exact ⟨rfl, hb6, hW.thenUp (by rw [HBB.out]; exact Nat.le_refl _) (Keep.ofB hk6)⟩
      have hko := fun W => keyOk_any ⟨b.toArray⟩ (by show b.toArray.size ≤ _; simp; omega) W
      have hfin : ∀ W, Keep No w3 W → Keep No w W := fun W hW => K3.out.trans hW
      have HF := Lib.hid hfin
      clear hfin hd hlt hk hacc
      unfold KeyIs
      cases hkk : keyOk ⟨b.toArray⟩ with
      | false =>
        rw [hkk] at hko
        simp only [Bool.false_eq_true, if_false]
        go_wp2_with (first | (go_at_call 75; refine (HS0.out _ HR.out.2.1 HR.out.2.2).mono ?_; rintro e w5 ⟨rfl, H5⟩) | (go_at_call 74; refine (hko _).mono ?_; rintro e w6 ⟨rfl, rfl⟩))
        go_ret2
        exact ⟨by rw [hkk]; rfl, HF.out _ H5.out.2⟩
      | true =>
        rw [hkk] at hko
        simp only [if_true]
        go_upto_region 19 with (first | (go_at_call 75; refine (HS0.out _ HR.out.2.1 HR.out.2.2).mono ?_; rintro e w5 ⟨rfl, H5⟩) | (go_at_call 74; refine (hko _).mono ?_; rintro e w6 ⟨rfl, rfl⟩))
        go_wp2_with (go_at_call 75; refine (HS0.out _ H5.out.1 H5.out.2).mono ?_; rintro e w7 ⟨rfl, H7⟩)
        go_ret2
        exact ⟨by rw [hkk]; rfl, HF.out _ H7.out.2⟩
end Go.Proofs.YtfgdnakfikpmpaaGreatDoor
