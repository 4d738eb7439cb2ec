/-
  Parts of what is proved for this claim; each declaration is one of the seat's texts.
-/
import Derived.Test.YtpjcebajkfeacaaGreatDoorBGA
import Derived.Test.YtpjcebajkfeacaaGreatDoorBGC
import Derived.Test.YtpjcebajkfeacaaGreatDoorBGD
import Derived.Test.YtpjcebajkfeacaaGreatDoorBGF
import Derived.Test.YtpjcebajkfeacaaGreatDoorBGK
import Derived.Test.YtpjcebajkfeacaaGreatDoorBGM
import Derived.Test.YtpjcebajkfeacaaGreatDoorBGO
import Derived.Test.YtpjcebajkfeacaaGreatDoorBGQ
import Derived.Test.YtpjcebajkfeacaaGreatDoorBGU
import Derived.Test.YtpjcebajkfeacaaGreatDoorBHA
import Derived.Test.YtpjcebajkfeacaaGreatDoorBHF
import Derived.WalkKit
import Derived.WalkSpells
import Derived.WalkLawsBesides
import Derived.ProofKit
import Derived.Deep.Slices
import Derived.Deep.AppendSrc
import Derived.Lib.Hide
import Derived.Lib.ItoaNum
import Derived.Lib.Join
import Derived.Still
import Derived.StillTactics
import Derived.Recover
import Derived.Defers
import Derived.Deep.QuietTactic
import Derived.BigQuiet
import Derived.Handy
import Derived.Laws.Bits64b
import Derived.Lib.Zigzag
import Derived.OwnWalk
import Derived.Deep.DeepCutAuto
import Derived.Deep.LoopGhost
import Derived.Lib.Bytealg
import Derived.Laws.Externs
import Derived.Laws.CopyRow
import Derived.Laws.IdiomCopy
import Derived.Maps.OwnSet
import Derived.Maps.RangeWalk
import Derived.Shelf.SortM.Plain
import Derived.Shelf.SortM.SortNone
import Derived.Ground.SlgmProg
import Derived.Maps.OwnOps
import Derived.Shelf.Strconv.Itoa4
import Derived.Shelf.Strings.BuilderK
import Derived.Shelf.Strings.OnBuilder
import Derived.Ground.NamesProg
import Derived.Lib.AppendIntMem
import Derived.Lib.UnsafeStr
set_option linter.unusedVariables false
set_option linter.unusedSimpArgs false
namespace Go.Proofs.YtpjcebajkfeacaaGreatDoor
open Go Go.RowKit Go.Deep
theorem Keep.ofB {B : Nat} {w w' : World} (h : Below B w w') : Keep (Up B) w w' := ⟨h.os, h.tape, h.output, h.size, fun k hk hn => h.block k (Nat.lt_of_not_le hn)⟩
theorem Keep.thenUp {B : Nat} {a b c : World} (h : Keep No a b) (hB : a.heap.size ≤ B) (k : Keep (Up B) b c) : Keep No a c := h.then k fun i hi hu => by have : B ≤ i := hu; omega
theorem Bld.keep {B b : Nat} {l : List UInt8} {w w' : World} (h : Bld B b l w) (hk : Keep No w w') : Bld B b l w' := by
  have key : ∀ p, Lib.BuilderAtF 226 5 B b p (Lib.byteCells l) w → Lib.BuilderAtF 226 5 B b p (Lib.byteCells l) w' := by
    rintro p ⟨h1, v, h2, ⟨h3, h4⟩, h5⟩
    refine ⟨h1, v, hk.blk h2 (fun x => x), ⟨h3, ?_⟩, h5⟩
    rcases h4 with h4 | ⟨g, cap, cur, fz, e1, e2, e3, e4⟩
    · exact .inl h4
    · exact .inr ⟨g, cap, cur, fz, e1, e2, hk.blk e3 (fun x => x), e4⟩
  rcases h with h | h
  · exact .inl (key _ h)
  · exact .inr (key _ h)
theorem bld_new (w : World) : Bld w.heap.size w.heap.size [] (w.alloc (.cells #[.pointer none, .slice none 0 0] 226)) := Lib.IsBuilderF.of (Lib.fresh_isBuilder _ _ w)
set_option maxRecDepth 10000 in
theorem digits_any (n : Int) (h0 : -9223372036854775808 ≤ n) (h1 : n ≤ 9223372036854775807) (w : World) (ht : Tab w) : Calls Tryz.prog 154 #[.int .i64 n] w (SaysU w (Lib.itoa n)) := by
  have h := formatInt_any n h0 h1 w ht
  clear h0 h1
  go_enter Tryz.func154, Tryz.ntmps154
  go_wp2_with (go_at_call 204; refine h.mono ?_; rintro e w2 ⟨rfl, hk⟩)
  go_ret
  exact ⟨rfl, hk⟩
def KeyTo (args : List Val) (l : List Prt) (k : Nat) (acc : List UInt8) : Prop := keyLs args l = (keyLs args (l.drop k)).map (acc ++ ·) ∧ acc.length ≤ k * 64
theorem given_kinds {v : Val} (h : givenV v = true) : v.ok = true ∧ v.kind ≠ 0 ∧ (v.kind = 1 ∨ (v.kind ≠ 1 ∧ v.text.size ≤ 64)) := by
  unfold givenV at h
  rw [Bool.and_eq_true, decide_eq_true_eq] at h
  refine ⟨h.1, h.2, ?_⟩
  by_cases h1 : v.kind = 1
  · exact .inl h1
  · refine .inr ⟨h1, ?_⟩
    have hk := h.1
    unfold Val.ok at hk
    rw [if_neg h.2, if_neg h1] at hk
    split at hk
    · simp only [Bool.and_eq_true, decide_eq_true_eq] at hk; exact hk.1.2
    · cases hk
theorem itoa_len (n : Int) (h0 : -9223372036854775808 ≤ n) (h1 : n ≤ 9223372036854775807) : (Lib.itoa n).length ≤ 21 := by
  have hd : ∀ u : Nat, u < 18446744073709551616 → (Lib.decDigits u).length ≤ 20 := fun u hu => by
    rw [Lib.decDigits_length]
    by_cases h : 1 ≤ u
    · have := Lib.numDigits_eq u h hu; split at this <;> omega
    · have : u = 0 := by omega
      subst this
      rw [Lib.nDigits_small (by omega)]
      omega
  unfold Lib.itoa
  split
  · have := hd n.natAbs (by omega); simp; omega
  · have := hd n.toNat (by omega); omega
theorem KeyTo.text {args : List Val} {l : List Prt} {k : Nat} {acc : List UInt8} (h : KeyTo args l k acc) (hk : k < l.length) (hn : l[k].arg < 0) (hs : l[k].text.size ≤ 1) : KeyTo args l (k + 1) (acc ++ l[k].text.data.toList) := by
  refine ⟨?_, ?_⟩
  · rw [h.1, List.drop_eq_getElem_cons hk]
    conv => lhs; rw [keyLs]
    rw [if_pos hn, Option.map_map]
    congr 1
    funext r
    simp
  · have : l[k].text.data.toList.length = l[k].text.size := by simp
    rw [List.length_append, this]; have := h.2; omega
theorem KeyTo.arg {args : List Val} {l : List Prt} {k j : Nat} {acc : List UInt8} (h : KeyTo args l k acc) (hk : k < l.length) (hn : l[k].arg = j) (hj : j < args.length) (hg : givenV args[j] = true) (hs : (argText args[j]).length ≤ 64) : KeyTo args l (k + 1) (acc ++ argText args[j]) := by
  have hget : args.getD l[k].arg.toNat val0 = args[j] := by rw [hn]; simp [List.getD, hj]
  refine ⟨?_, ?_⟩
  · rw [h.1, List.drop_eq_getElem_cons hk]
    conv => lhs; rw [keyLs]
    rw [if_neg (by omega), hget, if_neg (by rw [hg]; exact Bool.false_ne_true.symm), Option.map_map]
    congr 1
    funext r
    simp
  · rw [List.length_append]; have := h.2; omega
def KeyIs (w : World) (s : ByteArray) (e : Ending) (w' : World) : Prop :=
  e = .returned (if keyOk s then .tuple #[.string s, .int .i64 0] else .tuple #[.string noText, .int .i64 30]) ∧ Keep No w w'
set_option maxRecDepth 10000 in
set_option maxHeartbeats 4000000 in
theorem key_ok (t : ByteArray) (l : List Prt) (args : List Val) (hl : cutT t = some l) (hb : below args.length l = true) (hg : ∀ v ∈ args, givenV v = true) (b : List UInt8) (hkb : keyLs args l = some b) (w : World) (S : Nat → Prop) (a : Option Addr) (c : Nat)
    (h : Rd (.slice valueSh) w S [.slice a args.length c] args) (ht : Tab w) (ha : args.length ≤ 8) :
    Calls Tryz.prog 137 #[.string t, .slice a args.length c] w (KeyIs w ⟨b.toArray⟩) := by
  have hcut := (cut_ok t l hl w).mono (R' := fun e w2 => ∃ a2 c2, e = .returned (.tuple #[.slice a2 l.length c2, .bool true]) ∧ RowKit.Hid (OwnP w.heap.size w2 (.slice a2 l.length c2) l ∧ Keep No w w2)) (by
    rintro e w2 ⟨a2, c2, rfl, h1, h2⟩
    exact ⟨a2, c2, rfl, h1, h2⟩)
  have htm : tmplOk t args.length = true := by unfold tmplOk; rw [hl]; exact hb
  have harg := cutT_arg hl
  have HX := Lib.hid (And.intro h (And.intro ht (And.intro hg (And.intro hkb (And.intro harg hb)))))
  have HT : RowKit.Hid (∀ W, Calls Tryz.prog 191 #[.string t, .int .i64 args.length] W fun e w2 => e = .returned (.bool true) ∧ RowKit.Hid (Keep No W w2)) := fun W => template_ok t args.length htm W
  have HL := Lib.hid (And.intro ha harg.2)
  clear h ht hg hkb harg hb htm hl
  go_enter Tryz.func137, Tryz.ntmps137
  go_wp2_with (first | (go_at_call 194; refine hcut.mono ?_; clear hcut; rintro e w2 ⟨a2, c2, rfl, H2⟩) | (go_at_call 191; refine (HT.out _).mono ?_; rintro e w3 ⟨rfl, HK3⟩))
  have K3 := Lib.hid (H2.out.2.trans HK3.out)
  have hrd2 : Rd (.slice partSh) w3 (Fr w.heap.size w2.heap.size) [.slice a2 l.length c2] l := H2.out.1.rd.agree (.slice partSh) HK3.out.agreeNo
  have HP := Lib.hid hrd2
  have HB0 := Lib.hid (bld_new w3)
  clear hrd2 H2 HK3 HT
  have K4 := Lib.hid ((Keep.refl No w3).alloc (.cells #[.pointer none, .slice none 0 0] 226))
  generalize w3.alloc (.cells #[.pointer none, .slice none 0 0] 226) = w4 at *
  obtain ⟨B, hB⟩ : ∃ B, B = w3.heap.size := ⟨_, rfl⟩
  rw [← hB] at HB0 ⊢
  have HBB := Lib.hid hB
  clear hB
  go_loopg [28] l.length (fun g i wr => ∃ (k : Nat) (acc : List UInt8), k ≤ l.length ∧ g = l.length - k ∧ i = .int .i64 k ∧ RowKit.Hid (KeyTo args l k acc ∧ Bld B B acc wr ∧ Keep No w3 wr))
  case atStart => exact ⟨0, [], by omega, by omega, rfl, ⟨by simp, Nat.zero_le _⟩, HB0.out, K4.out⟩
  case round =>
    obtain ⟨k, acc, hk, rfl, rfl, HR⟩ := hrel
    by_cases hlt : k < l.length
    · have j1 : (k : Int) < l.length := by omega
      have j0 : (0 : Int) ≤ k := by omega
      have j3 : (k : Int) ≤ 64 := by have := HL.out.2; omega
      obtain ⟨bp, fp, rfl, -, -, p0, p1, ps⟩ := parts_get (HP.out.agree _ HR.out.2.2.agreeNo) k hlt
      have hpa := HX.out.2.2.2.2.1.1 l[k] (List.getElem_mem hlt)
      have hbe : l[k].arg < args.length := by
        have := HX.out.2.2.2.2.2
        unfold below at this
        rw [List.all_eq_true] at this
        exact of_decide_eq_true (this _ (List.getElem_mem hlt))
      have hacc : acc.length ≤ 4096 := by have := HR.out.1.2; have := HL.out.2; omega
      have hBw : B ≤ wr.heap.size := by rw [HBB.out]; exact HR.out.2.2.size
      by_cases hn : l[k].arg < 0
      · have hnext := HR.out.1.text hlt hn hpa.2.2
        have hwr := (bldWrite B B acc l[k].text (wr.alloc (.cells #[.string l[k].text, .int .i64 l[k].arg] 249)) (HR.out.2.1.keep ((Keep.refl No wr).alloc _)) (by have := hpa.2.2; omega) (by simp only [World.size_alloc]; omega)).mono (R' := fun e w6 => ∃ v, e = .returned v ∧ RowKit.Hid (Bld B B (acc ++ l[k].text.data.toList) w6 ∧ Keep No w3 w6)) (by
          rintro e w6 ⟨⟨v, rfl⟩, hb6, hk6⟩
          exact ⟨v, rfl, hb6, (HR.out.2.2.alloc _).thenUp (by rw [HBB.out]; exact Nat.le_refl _) (Keep.ofB hk6)⟩)
        have HS := Lib.hid (And.intro hlt hnext)
        clear hnext hbe hpa ps hBw hacc
        generalize l[k].text = x1 at *
        generalize l[k].arg = x2 at *
        clear hlt hk
        go_wp2_with (go_at_call 156; refine hwr.mono ?_; clear hwr; rintro e w6 ⟨v, rfl, H6⟩)
        go_roundg (l.length - (k + 1))
        case measure => have := HS.out.1; omega
        case rel => exact ⟨k + 1, _, by have := HS.out.1; omega, rfl, by simp, HS.out.2, H6.out.1, H6.out.2⟩
      · obtain ⟨j, hj⟩ : ∃ j : Nat, l[k].arg = j := ⟨l[k].arg.toNat, by omega⟩
        have hjl : j < args.length := by omega
        have i1 : (j : Int) < args.length := by omega
        have i0 : (0 : Int) ≤ j := by omega
        have i2 : (j : Int) ≤ 9 := by omega
        have i3 : ¬ (j : Int) < 0 := by omega
        obtain ⟨bv, fv, rfl, hbv, -, s0, s1, s2, hI, hs⟩ := vals_get ((HX.out.1.agree _ K3.out.agreeNo).agree _ HR.out.2.2.agreeNo) j hjl
        have hgj := HX.out.2.2.1 args[j] (List.getElem_mem hjl)
        obtain ⟨hok, hk0, hkk⟩ := given_kinds hgj
        have hlen : (argText args[j]).length ≤ 64 := by
          unfold argText
          rcases hkk with h1 | h1
          · rw [if_pos h1]; have := itoa_len args[j].num hI.n0 hI.n1; omega
          · rw [if_neg h1.1]
            have : args[j].text.data.toList.length = args[j].text.size := by simp
            omega
        have hnext := HR.out.1.arg hlt hj hjl hgj hlen
        rw [hj] at p1
        have ka := ((Keep.refl No wr).alloc (.cells #[.string l[k].text, .int .i64 j] 249))
        have s0a := (ka.cell hbv (o := fv + j * 3) (fun x => x)).trans s0
        have s1a := (ka.cell hbv (o := fv + j * 3 + 1) (fun x => x)).trans s1
        have s2a := (ka.cell hbv (o := fv + j * 3 + 2) (fun x => x)).trans s2
        have kb := ka.alloc (.cells #[.int .i64 args[j].kind, .int .i64 args[j].num, .string args[j].text] 96)
        have hv := (Valid_any args[j].kind args[j].num args[j].text hs ((wr.alloc (.cells #[.string l[k].text, .int .i64 j] 249)).alloc (.cells #[.int .i64 args[j].kind, .int .i64 args[j].num, .string args[j].text] 96))).mono (R' := fun e w5 => e = .returned (.bool true) ∧ w5.heap[wr.heap.size + 1]? = some (.cells #[.int .i64 args[j].kind, .int .i64 args[j].num, .string args[j].text] 96 (0, 0)) ∧ RowKit.Hid (Keep No wr w5)) (by
          rintro e w5 ⟨rfl, hk5⟩
          refine ⟨by rw [show (mkVal args[j].kind args[j].num args[j].text).ok = true from hok], ?_, kb.trans hk5⟩
          have := hk5.blk (blk_new (wr.alloc (.cells #[.string l[k].text, .int .i64 j] 249)) (.cells #[.int .i64 args[j].kind, .int .i64 args[j].num, .string args[j].text] 96)) (fun x => x)
          simpa using this)
        have HDI : RowKit.Hid (∀ W, Keep No wr W → Calls Tryz.prog 154 #[.int .i64 args[j].num] W fun e w6 => e = .returned (.string ⟨(Lib.itoa args[j].num).toArray⟩) ∧ RowKit.Hid (Keep No wr w6)) := fun W hW =>
          (digits_any args[j].num hI.n0 hI.n1 W (((HX.out.2.1.keep K3.out).keep HR.out.2.2).keep hW)).mono (by rintro e w6 ⟨rfl, hk6⟩; exact ⟨rfl, hW.trans hk6⟩)
        have HWS : RowKit.Hid (∀ W (x : ByteArray), Keep No wr W → x.size ≤ 64 → Calls Tryz.prog 156 #[.pointer (some ⟨B, 0, none⟩), .string x] W fun e w6 => ∃ v, e = .returned v ∧ RowKit.Hid (Bld B B (acc ++ x.data.toList) w6 ∧ Keep No w3 w6)) := fun W x hW hx => by
          refine (bldWrite B B acc x W (HR.out.2.1.keep hW) (by omega) (Nat.le_trans hBw hW.size)).mono ?_
          rintro e w6 ⟨⟨v, rfl⟩, hb6, hk6⟩
          exact ⟨v, rfl, hb6, (HR.out.2.2.trans hW).thenUp (by rw [HBB.out]; exact Nat.le_refl _) (Keep.ofB hk6)⟩
        have HS := Lib.hid (And.intro hlt (And.intro hnext hlen))
        clear hnext hbe hpa ps hBw hacc ka kb hgj hok hlen hn hI hs
        have hk0' : (args[j].kind == 0) = false := by simpa using hk0
        unfold argText at HS
        rcases hkk with h1 | h1
        · rw [if_pos h1] at HS
          generalize args[j].kind = y1 at *
          generalize args[j].num = y2 at *
          generalize args[j].text = y3 at *
          generalize l[k].text = x1 at *
          generalize l[k].arg = x2 at *
          subst h1
          clear hlt hk hj hjl hk0 hk0'
          go_wp2_with (first | (go_at_call 107; refine hv.mono ?_; clear hv; rintro e w5 ⟨rfl, z5, HK5⟩; have z6 := blk_cell z5) | (go_at_call 154; refine (HDI.out _ HK5.out).mono ?_; rintro e w6 ⟨rfl, HK6⟩) | (go_at_call 156; refine (HWS.out _ _ HK6.out (by have := HS.out.2.2; simpa [ByteArray.size] using this)).mono ?_; rintro e w7 ⟨v7, rfl, H7⟩))
          go_roundg (l.length - (k + 1))
          case measure => have := HS.out.1; omega
          case rel => exact ⟨k + 1, _, by have := HS.out.1; omega, rfl, by simp, HS.out.2.1, by simpa using H7.out.1, H7.out.2⟩
        · rw [if_neg h1.1] at HS
          have h1' : (args[j].kind == 1) = false := by simpa using h1.1
          have hx := h1.2
          generalize args[j].kind = y1 at *
          generalize args[j].num = y2 at *
          generalize args[j].text = y3 at *
          generalize l[k].text = x1 at *
          generalize l[k].arg = x2 at *
          clear hlt hk hj hjl hk0 h1
          go_wp2_with (first | (go_at_call 107; refine hv.mono ?_; clear hv; rintro e w5 ⟨rfl, z5, HK5⟩; have z6 := blk_cell z5) | (go_at_call 156; refine (HWS.out _ _ HK5.out hx).mono ?_; rintro e w7 ⟨v7, rfl, H7⟩))
          go_roundg (l.length - (k + 1))
          case measure => have := HS.out.1; omega
          case rel => exact ⟨k + 1, _, by have := HS.out.1; omega, rfl, by simp, HS.out.2.1, H7.out.1, H7.out.2⟩
    · obtain rfl : k = l.length := by omega
      have hd : keyLs args l = some acc := by
        have := HR.out.1.1
        rw [List.drop_length] at this
        simpa [keyLs] using this
      rw [HX.out.2.2.2.1] at hd
      obtain rfl := Option.some.inj hd
      have j1 : ¬ (l.length : Int) < l.length := by omega
      have hacc : b.length ≤ 4096 := by have := HR.out.1.2; have := HL.out.2; omega
      have HS0 : RowKit.Hid (∀ W, Bld B B b W → Keep No w3 W → Calls Tryz.prog 157 #[.pointer (some ⟨B, 0, none⟩)] W fun e w6 => e = .returned (.string ⟨b.toArray⟩) ∧ RowKit.Hid (Bld B B b w6 ∧ Keep No w3 w6)) := fun W hbW hW => by
        refine (bldString B B b W hbW (by rw [HBB.out]; exact hW.size)).mono ?_
        rintro e w6 ⟨rfl, hb6, hk6⟩
        exact ⟨rfl, hb6, hW.thenUp (by rw [HBB.out]; exact Nat.le_refl _) (Keep.ofB hk6)⟩
      have hko := fun W => keyOk_any ⟨b.toArray⟩ (by show b.toArray.size ≤ _; simp; omega) W
      have hfin : ∀ W, Keep No w3 W → Keep No w W := fun W hW => K3.out.trans hW
      have HF := Lib.hid hfin
      clear hfin hd hlt hk hacc
      unfold KeyIs
      cases hkk : keyOk ⟨b.toArray⟩ with
      | false =>
        rw [hkk] at hko
        simp only [Bool.false_eq_true, if_false]
        go_wp2_with (first | (go_at_call 157; refine (HS0.out _ HR.out.2.1 HR.out.2.2).mono ?_; rintro e w5 ⟨rfl, H5⟩) | (go_at_call 195; refine (hko _).mono ?_; rintro e w6 ⟨rfl, rfl⟩))
        go_ret2
        exact ⟨by rw [hkk]; rfl, HF.out _ H5.out.2⟩
      | true =>
        rw [hkk] at hko
        simp only [if_true]
        go_upto_region 19 with (first | (go_at_call 157; refine (HS0.out _ HR.out.2.1 HR.out.2.2).mono ?_; rintro e w5 ⟨rfl, H5⟩) | (go_at_call 195; refine (hko _).mono ?_; rintro e w6 ⟨rfl, rfl⟩))
        go_wp2_with (go_at_call 157; refine (HS0.out _ H5.out.1 H5.out.2).mono ?_; rintro e w7 ⟨rfl, H7⟩)
        go_ret2
        exact ⟨by rw [hkk]; rfl, HF.out _ H7.out.2⟩
end Go.Proofs.YtpjcebajkfeacaaGreatDoor
namespace Go.Proofs.YtpjcebajkfeacaaGreatDoor
open Go Go.RowKit Go.Deep
def TwoS (lo : Nat) (w : World) (F i : Nat) (ov : Value) (l : List ByteArray) : Prop := ∃ v, w.heap[F]? = some (.cells (if i = 0 then #[v, ov] else #[ov, v]) 48 (0, 0)) ∧ OwnL lo w v l
theorem TwoS.keep {lo : Nat} {w w' : World} {F i : Nat} {ov : Value} {l : List ByteArray} (h : TwoS lo w F i ov l) (hk : Keep No w w') : TwoS lo w' F i ov l := by
  obtain ⟨v, h1, h2⟩ := h
  exact ⟨v, hk.blk h1 (fun x => x), h2.keep hk (fun _ _ x => x)⟩
def MayS (F lo : Nat) : Nat → Prop := fun k => k = F ∨ lo ≤ k
theorem TwoS.look {lo : Nat} {w : World} {F i : Nat} {ov : Value} {l : List ByteArray} (h : TwoS lo w F i ov l) (hF : F < lo) (hlo : lo ≤ w.heap.size) (hi : i < 2) (hl : l.length + 1 ≤ 1000) :
    ∃ a n c, w.cell? ⟨F, i, none⟩ = some (.slice a n c) ∧ ∀ x : ByteArray, x.size ≤ 9223372036854775807 →
      ∃ a' n' c' w2, (Builtin.append_ #[46, 46] 46 #[.slice a n c, .slice (some ⟨w.heap.size, 0, none⟩) 1 1]).run Tryz.prog (w.alloc (.cells #[.string x] 9)) = .ok (.slice a' n' c') w2 ∧
        w2.cell? ⟨F, i, none⟩ = some (.slice a n c) ∧ w2.frozen? ⟨F, i, none⟩ = false ∧ TwoS lo (w2.setCell ⟨F, i, none⟩ (.slice a' n' c')) F i ov (l ++ [x]) ∧ Keep (MayS F lo) w w2 ∧ Keep (MayS F lo) w (w2.setCell ⟨F, i, none⟩ (.slice a' n' c')) := by
  obtain ⟨v, h1, h2⟩ := h
  obtain ⟨a, c, rfl, -⟩ := Own.form h2
  have hcase : i = 0 ∨ i = 1 := by omega
  have hfin : ∀ (w2 : World) (u : Value), Keep (Fr lo w.heap.size) w w2 → Keep (MayS F lo) w (w2.setCell ⟨F, i, none⟩ u) := fun w2 u hk => (hk.mono fun k _ hh => .inr hh.1).then (keep_set w2 F i u) (fun k _ e => .inl e)
  refine ⟨a, l.length, c, ?_, fun x hx => ?_⟩
  · rcases hcase with rfl | rfl
    · exact (blk_cell h1 0).trans rfl
    · exact (blk_cell h1 1).trans rfl
  · obtain ⟨a2, c2, w2, hr, ht, hk⟩ := h2.app hlo x (by rw [maxLen_is]; exact hx) (by omega)
    have h3 := hk.blk h1 (fun hh => by have := hh.1; omega)
    refine ⟨a2, _, c2, w2, hr, ?_, blk_fro h3 i, ⟨.slice a2 (l.length + 1) c2, ?_, ht.keep (keep_set w2 F i _) (fun k hk e => by have : k = F := e; omega)⟩, hk.mono fun k _ hh => .inr hh.1, hfin w2 _ hk⟩
    · rcases hcase with rfl | rfl
      · exact (blk_cell h3 0).trans rfl
      · exact (blk_cell h3 1).trans rfl
    · have h4 := blk_set h3 i (.slice a2 (l.length + 1) c2)
      rcases hcase with rfl | rfl
      · simpa using h4
      · simpa using h4
def sideT (p : Prc) (i : Nat) : List ByteArray := if i = 0 then p.reads else p.writes
def keysOf (args : List Val) (l : List ByteArray) : List ByteArray := l.map fun t => (keyT t args).1
def okTo (p : Prc) (args : List Val) (i k : Nat) : Prop := (∀ j, j < i → ∀ t ∈ sideT p j, (keyT t args).2 = 0) ∧ ∀ t ∈ (sideT p i).take k, (keyT t args).2 = 0
theorem keysOf_add (args : List Val) (l : List ByteArray) (k : Nat) (hk : k < l.length) : keysOf args (l.take (k + 1)) = keysOf args (l.take k) ++ [(keyT l[k] args).1] := by
  unfold keysOf
  rw [List.take_succ_eq_append_getElem hk, List.map_append]
  rfl
theorem keysT_ok (args : List Val) : ∀ l : List ByteArray, (∀ t ∈ l, (keyT t args).2 = 0) → keysT args l = (keysOf args l, 0)
  | [], _ => rfl
  | t :: l, h => by
    have h1 := h t (List.mem_cons_self ..)
    have h2 := keysT_ok args l fun t ht => h t (List.mem_cons_of_mem _ ht)
    unfold keysT
    rw [if_neg (fun hh => hh h1), h2]
    simp [keysOf]
theorem keysT_bad (args : List Val) (e : Int) (he : e ≠ 0) : ∀ (l : List ByteArray) (k : Nat) (hk : k < l.length), (∀ t ∈ l.take k, (keyT t args).2 = 0) → (keyT l[k] args).2 = e → keysT args l = ([], e)
  | [], k, hk, _, _ => absurd hk (Nat.not_lt_zero _)
  | t :: l, 0, hk, _, h => by
    have h : (keyT t args).2 = e := h
    unfold keysT
    rw [if_pos (by rw [h]; exact he), h]
  | t :: l, k + 1, hk, h1, h2 => by
    have h0 := h1 t (by simp)
    have ih := keysT_bad args e he l k (by simpa using hk) (fun t ht => h1 t (by simp [ht])) (by simpa using h2)
    unfold keysT
    rw [if_neg (fun hh => hh h0), ih, if_pos he]
theorem foot_ok {p : Prc} {args : List Val} (hd : p.dep = false) (hs : suitsB p.kinds args = true) (h : okTo p args 2 0) : p.foot args = (mkFp (keysOf args p.reads) (keysOf args p.writes)).norm := by
  have h0 := keysT_ok args p.reads (h.1 0 (by omega))
  have h1 := keysT_ok args p.writes (h.1 1 (by omega))
  unfold Prc.foot
  rw [hd, if_neg (by simp), if_neg (by rw [hs]; simp), h0, h1]
  simp
theorem foot_bad {p : Prc} {args : List Val} (hd : p.dep = false) (hs : suitsB p.kinds args = true) {i k : Nat} (hi : i < 2) (hk : k < (sideT p i).length) (h : okTo p args i k) (e : Int) (he : e ≠ 0) (hb : (keyT (sideT p i)[k] args).2 = e) : p.foot args = (mkFp [] [], e) := by
  have hcase : i = 0 ∨ i = 1 := by omega
  unfold Prc.foot
  rw [hd, if_neg (by simp), if_neg (by rw [hs]; simp)]
  rcases hcase with rfl | rfl
  · have h0 := keysT_bad args e he p.reads k hk h.2 hb
    rw [h0, if_pos he]
  · have h0 := keysT_ok args p.reads (h.1 0 (by omega))
    have h1 := keysT_bad args e he p.writes k hk h.2 hb
    rw [h0, h1, if_neg (by simp), if_pos he]
end Go.Proofs.YtpjcebajkfeacaaGreatDoor
