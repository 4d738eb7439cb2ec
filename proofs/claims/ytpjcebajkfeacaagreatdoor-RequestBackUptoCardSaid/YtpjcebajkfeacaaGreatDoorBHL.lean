/-
  Parts of what is proved for this claim; each declaration is one of the seat's texts.
-/
import Derived.Test.YtpjcebajkfeacaaGreatDoorBGA
import Derived.Test.YtpjcebajkfeacaaGreatDoorBGB
import Derived.Test.YtpjcebajkfeacaaGreatDoorBGC
import Derived.Test.YtpjcebajkfeacaaGreatDoorBGK
import Derived.Test.YtpjcebajkfeacaaGreatDoorBGU
import Derived.Test.YtpjcebajkfeacaaGreatDoorBGX
import Derived.Test.YtpjcebajkfeacaaGreatDoorBHA
import Derived.Test.YtpjcebajkfeacaaGreatDoorBHB
import Derived.Test.YtpjcebajkfeacaaGreatDoorBHD
import Derived.Test.YtpjcebajkfeacaaGreatDoorBHE
import Derived.Test.YtpjcebajkfeacaaGreatDoorBHF
import Derived.Test.YtpjcebajkfeacaaGreatDoorBHK
import Derived.WalkKit
import Derived.WalkSpells
import Derived.WalkLawsBesides
import Derived.ProofKit
import Derived.Deep.Slices
import Derived.Deep.AppendSrc
import Derived.Lib.Hide
import Derived.Lib.ItoaNum
import Derived.Lib.Join
import Derived.Still
import Derived.StillTactics
import Derived.Recover
import Derived.Defers
import Derived.Deep.QuietTactic
import Derived.BigQuiet
import Derived.Handy
import Derived.Laws.Bits64b
import Derived.Lib.Zigzag
import Derived.OwnWalk
import Derived.Deep.DeepCutAuto
import Derived.Deep.LoopGhost
import Derived.Lib.Bytealg
import Derived.Laws.Externs
import Derived.Laws.CopyRow
import Derived.Laws.IdiomCopy
import Derived.Maps.OwnSet
import Derived.Maps.RangeWalk
import Derived.Shelf.SortM.Plain
import Derived.Shelf.SortM.SortNone
import Derived.Ground.SlgmProg
import Derived.Deep.WholeRow
import Derived.Maps.OwnOps
import Derived.Shelf.Strconv.Itoa4
import Derived.Shelf.Strings.BuilderK
import Derived.Shelf.Strings.OnBuilder
import Derived.Ground.NamesProg
import Derived.Lib.AppendIntMem
import Derived.Lib.UnsafeStr
import Derived.Maps.Views
set_option linter.unusedVariables false
set_option linter.unusedSimpArgs false
namespace Go.Proofs.YtpjcebajkfeacaaGreatDoor
open Go Go.RowKit Go.Deep
def RPgOk (w : World) (v1 v2 v3 : Value) : Prop := ∀ W, Keep No w W → Calls Tryz.prog 183 #[.agg #[v1, v2, v3]] W fun e w2 => e = .returned (.tuple #[.int .i64 0, .int .i64 0]) ∧ RowKit.Hid (Keep No W w2)
set_option maxRecDepth 10000 in
set_option maxHeartbeats 4000000 in
theorem rLibCheck_ok (w : World) (S : Nat → Prop) (n1 n2 n3 c1 c2 c3 : Nat) (a1 a2 a3 : Option Addr) (v4 v5 : Value) (o4 : v4.oneCell' = true) (o5 : v5.oneCell' = true) (p : Prc) (e1 : n1 = p.kinds.length) (e2 : n2 = p.reads.length) (e3 : n3 = p.writes.length)
    (h1 : Rd (.slice (.int .i64)) w S [.slice a1 n1 c1] p.kinds) (h2 : Rd (.slice .str) w S [.slice a2 n2 c2] p.reads) (h3 : Rd (.slice .str) w S [.slice a3 n3 c3] p.writes) (hp : p.Ok) (hpg : RPgOk w (.int .i64 p.pgm.args) v4 v5) :
    Calls Tryz.prog 133 #[.agg #[.string p.name, .slice a1 n1 c1, .bool p.dep, .slice a2 n2 c2, .slice a3 n3 c3, .int .i64 p.pgm.args, v4, v5]] w (GivesI w 0) := by
  have K1 := (Keep.refl No w).alloc (.cells #[.string p.name, .slice a1 n1 c1, .bool p.dep, .slice a2 n2 c2, .slice a3 n3 c3, .int .i64 p.pgm.args, v4, v5] 130)
  have x1 := blk_new w (.cells #[.string p.name, .slice a1 n1 c1, .bool p.dep, .slice a2 n2 c2, .slice a3 n3 c3, .int .i64 p.pgm.args, v4, v5] 130)
  have hargs : p.pgm.args = n1 := by rw [hp.args, e1]
  rw [hargs] at hpg x1 K1 ⊢
  have HN : RowKit.Hid (∀ W, Calls Tryz.prog 67 #[.string p.name] W fun e w2 => e = .returned (.bool true) ∧ w2 = W) := fun W => by
    have := rName_any p.name (by have := nameOk_size hp.name; omega) W
    rw [hp.name] at this
    exact this
  have HT : RowKit.Hid (∀ (t : ByteArray), tmplOk t p.kinds.length = true → ∀ W, Calls Tryz.prog 182 #[.string t, .int .i64 n1] W fun e w2 => e = .returned (.bool true) ∧ RowKit.Hid (Keep No W w2)) := fun t ht W => by
    rw [e1]
    exact (rTemplate_ok t _ ht W).mono (by rintro e w2 ⟨rfl, hk⟩; exact ⟨rfl, hk⟩)
  have HP : RowKit.Hid (∀ W, Keep No w W → Calls Tryz.prog 183 #[.agg #[.int .i64 n1, v4, v5]] W fun e w2 => e = .returned (.tuple #[.int .i64 0, .int .i64 0]) ∧ RowKit.Hid (Keep No W w2)) := hpg
  have HA := Lib.hid (And.intro h1 (And.intro h2 (And.intro h3 (And.intro hp.kind (And.intro hp.reads (And.intro hp.writes (And.intro e1 (And.intro e2 e3))))))))
  have HK1 := Lib.hid K1
  have i1 : (n1 : Int) ≤ 8 := by have := hp.kinds; omega
  have i2 : (n2 : Int) ≤ 32 := by have := hp.nr; omega
  have i3 : (n3 : Int) ≤ 32 := by have := hp.nw; omega
  have hdep := hp.dep
  rw [show p.reads = [] ↔ n2 = 0 from by rw [e2, List.length_eq_zero_iff], show p.writes = [] ↔ n3 = 0 from by rw [e3, List.length_eq_zero_iff]] at hdep
  have q1 := blk_cell x1
  have HX := Lib.hid x1
  clear hpg h1 h2 h3 hp e1 e2 e3 hargs K1 x1
  generalize p.name = s0 at *
  generalize p.dep = d0 at *
  have HD := Lib.hid hdep
  clear hdep
  go_enter Tryz.func133, Tryz.ntmps133
  go_upto_region 3 with (go_at_call 67; refine (HN.out _).mono ?_; rintro e w2 ⟨rfl, rfl⟩)
  generalize w.alloc (.cells #[.string s0, .slice a1 n1 c1, .bool d0, .slice a2 n2 c2, .slice a3 n3 c3, .int .i64 n1, v4, v5] 130) = wa at *
  go_wp2_with fail
  go_loopg [3] n1 (fun g i wr => ∃ k : Nat, k ≤ n1 ∧ g = n1 - k ∧ i = .int .i64 k ∧ wr = wa)
  case atStart => exact ⟨0, by omega, by omega, rfl, rfl⟩
  case round =>
    obtain ⟨k, hk, rfl, rfl, hww⟩ := hrel
    subst wr
    by_cases hlt : k < n1
    · have j1 : (k : Int) < n1 := by omega
      have j0 : (0 : Int) ≤ k := by omega
      have hlt' : k < p.kinds.length := by rw [← HA.out.2.2.2.2.2.2.1]; exact hlt
      obtain ⟨b, off, rfl, -, -, q2, -⟩ := ints_get (HA.out.1.agree _ HK1.out.agreeNo) k hlt'
      have hko := HA.out.2.2.2.1 k hlt'
      unfold kindOk at hko
      simp only [Bool.and_eq_true, decide_eq_true_eq] at hko
      have m1 : ¬ p.kinds[k] < 1 := by omega
      have m2 : ¬ 3 < p.kinds[k] := by omega
      have HL := Lib.hid hlt
      generalize p.kinds[k] = x at *
      clear hlt hk hlt' hko
      go_wp2_with fail
      go_roundg (n1 - (k + 1))
      case measure => have := HL.out; omega
      case rel => exact ⟨k + 1, by have := HL.out; omega, rfl, by simp, rfl⟩
    · have j1 : ¬ (k : Int) < n1 := by omega
      clear hlt hk
      go_upto_region 8 with fail
      go_cut [50] (fun c wx => c = .bool false ∧ wx = wa)
      case first =>
        cases d0 with
        | true =>
          obtain ⟨rfl, rfl⟩ := HD.out rfl
          go_wp2_with fail
          go_meet
          case rel => exact ⟨rfl, rfl⟩
        | false =>
          go_wp2_with fail
          go_meet
          case rel => exact ⟨rfl, rfl⟩
      case rest =>
        obtain ⟨rfl, hwc⟩ := hcut
        rw [hwc]
        clear hwc
        go_wp2_with fail
        go_loopg [4] n2 (fun g i wr => ∃ k : Nat, k ≤ n2 ∧ g = n2 - k ∧ i = .int .i64 k ∧ RowKit.Hid (Keep No wa wr))
        case atStart => exact ⟨0, by omega, by omega, rfl, Keep.refl No _⟩
        case round =>
          obtain ⟨k, hk, rfl, rfl, HR⟩ := hrel
          by_cases hlt : k < n2
          · have j1 : (k : Int) < n2 := by omega
            have j0 : (0 : Int) ≤ k := by omega
            have j3 : (k : Int) ≤ 9223372036854775806 := by omega
            have hlt' : k < p.reads.length := by rw [← HA.out.2.2.2.2.2.2.2.1]; exact hlt
            have k2 := (HR.out.trans (Keep.refl No wr).drew)
            obtain ⟨b, off, ea, q2, -⟩ := strs_cells (HA.out.2.1.agree _ (HK1.out.trans k2).agreeNo) k hlt'
            have hq0 := blk_cell (HR.out.blk HX.out (fun x => x))
            have hcall := HT.out p.reads[k] (HA.out.2.2.2.2.1 k hlt')
            have HL := Lib.hid hlt
            have q3 := blk_cell (k2.blk HX.out (fun x => x))
            have HR2 := Lib.hid k2
            generalize p.reads[k] = x at *
            subst ea
            clear hlt hk hlt' k2
            go_upto_region 15 with fail
            refine wp_region_canw [0, 1, 2, 3, 4, 5, 6, 7, 8, 9] [8] [] (by kernel_rfl) (by kernel_rfl) (by kernel_rfl) (by kernel_rfl) (by intro c a d v w h; cases d <;> exact h) ?_
            generalize wr.drew = w6 at *
            clear hq0
            iterate 8 (refine canw_sil rfl rfl (fun K hK => ?_); go_simp; refine hK _ ?_; clear hK K)
            refine canw_loud [] rfl rfl rfl (fun K hK => ?_)
            go_wp2_with (go_at_call 182; refine (hcall _).mono ?_; clear hcall; rintro e w7 ⟨rfl, HK7⟩)
            refine Mid.normal (hK _ _ stabs_nil ?_)
            clear hK K
            iterate 1 (refine canw_sil rfl rfl (fun K hK => ?_); go_simp; refine hK _ ?_; clear hK K)
            refine canw_nil ?_
            go_wp2_with fail
            go_roundg (n2 - (k + 1))
            case measure => have := HL.out; omega
            case rel => exact ⟨k + 1, by have := HL.out; omega, rfl, by simp, HR2.out.trans HK7.out⟩
          · have j1 : ¬ (k : Int) < n2 := by omega
            have hq0 := blk_cell (HR.out.blk HX.out (fun x => x))
            clear hlt hk
            go_wp2_with fail
            have HR0 := HR
            go_loopg [5] n3 (fun g i wr => ∃ k : Nat, k ≤ n3 ∧ g = n3 - k ∧ i = .int .i64 k ∧ RowKit.Hid (Keep No wa wr))
            case atStart => exact ⟨0, by omega, by omega, rfl, HR0.out⟩
            case round =>
              obtain ⟨k, hk, rfl, rfl, HR⟩ := hrel
              by_cases hlt : k < n3
              · have j1 : (k : Int) < n3 := by omega
                have j0 : (0 : Int) ≤ k := by omega
                have j3 : (k : Int) ≤ 9223372036854775806 := by omega
                have hlt' : k < p.writes.length := by rw [← HA.out.2.2.2.2.2.2.2.2]; exact hlt
                have k2 := (HR.out.trans (Keep.refl No wr).drew)
                obtain ⟨b, off, ea, q2, -⟩ := strs_cells (HA.out.2.2.1.agree _ (HK1.out.trans k2).agreeNo) k hlt'
                have hq0 := blk_cell (HR.out.blk HX.out (fun x => x))
                have hcall := HT.out p.writes[k] (HA.out.2.2.2.2.2.1 k hlt')
                have HL := Lib.hid hlt
                have q3 := blk_cell (k2.blk HX.out (fun x => x))
                have HR2 := Lib.hid k2
                generalize p.writes[k] = x at *
                subst ea
                clear hlt hk hlt' k2
                go_upto_region 20 with fail
                refine wp_region_canw [0, 1, 2, 3, 4, 5, 6, 7, 8, 9] [8] [] (by kernel_rfl) (by kernel_rfl) (by kernel_rfl) (by kernel_rfl) (by intro c a d v w h; cases d <;> exact h) ?_
                generalize wr.drew = w6 at *
                clear hq0
                iterate 8 (refine canw_sil rfl rfl (fun K hK => ?_); go_simp; refine hK _ ?_; clear hK K)
                refine canw_loud [] rfl rfl rfl (fun K hK => ?_)
                go_wp2_with (go_at_call 182; refine (hcall _).mono ?_; clear hcall; rintro e w7 ⟨rfl, HK7⟩)
                refine Mid.normal (hK _ _ stabs_nil ?_)
                clear hK K
                iterate 1 (refine canw_sil rfl rfl (fun K hK => ?_); go_simp; refine hK _ ?_; clear hK K)
                refine canw_nil ?_
                go_wp2_with fail
                go_roundg (n3 - (k + 1))
                case measure => have := HL.out; omega
                case rel => exact ⟨k + 1, by have := HL.out; omega, rfl, by simp, HR2.out.trans HK7.out⟩
              · have j1 : ¬ (k : Int) < n3 := by omega
                have hq0 := blk_cell (HR.out.blk HX.out (fun x => x))
                clear hlt hk
                have hc9 := (HP.out _ (HK1.out.trans HR.out)).mono (R' := fun e w9 => e = .returned (.tuple #[.int .i64 0, .int .i64 0]) ∧ w9.heap[w.heap.size]? = some (.cells #[.string s0, .slice a1 n1 c1, .bool d0, .slice a2 n2 c2, .slice a3 n3 c3, .int .i64 n1, v4, v5] 130 (0, 0)) ∧ RowKit.Hid (Keep No w w9)) (by
                  rintro e w9 ⟨rfl, hk9⟩
                  exact ⟨rfl, hk9.out.blk (HR.out.blk HX.out (fun x => x)) (fun x => x), HK1.out.trans (HR.out.trans hk9.out)⟩)
                go_wp2_with (go_at_call 183; refine hc9.mono ?_; clear hc9; rintro e w9 ⟨rfl, x9, HK9⟩; have q9 := blk_cell x9)
                go_ret
                exact ⟨rfl, HK9.out⟩
end Go.Proofs.YtpjcebajkfeacaaGreatDoor
namespace Go.Proofs.YtpjcebajkfeacaaGreatDoor
open Go Go.RowKit Go.Deep
structure RLib (w : World) (S : Nat → Prop) (B : Nat) (a : Option Addr) (c : Nat) (L : List Prc) : Prop where
  blk : w.heap[B]? = some (.cells #[.slice a L.length c] 199 (0, 0))
  rd : Rd (.slice procSh) w S [.slice a L.length c] L
  nB : ¬ S B
theorem RLib.keep {w w' : World} {S : Nat → Prop} {B : Nat} {a : Option Addr} {c : Nat} {L : List Prc} (h : RLib w S B a c L) {M : Nat → Prop} (hk : Keep M w w') (hM : ∀ k, S k → ¬ M k) (hB : ¬ M B) : RLib w' S B a c L :=
  ⟨hk.blk h.blk hB, h.rd.agree _ (hk.agree fun k _ => hM k), h.nB⟩
def RFound (w : World) (S : Nat → Prop) (L : List Prc) (n : ByteArray) (e : Ending) (w' : World) : Prop :=
  ∃ cs : Array Value, e = .returned (.tuple #[.agg cs, .bool (findP L n).isSome]) ∧ Rd procSh w' S cs.toList ((findP L n).getD prc0) ∧ Keep No w w'
theorem findP_at {L : List Prc} {n : ByteArray} {k : Nat} (hk : k < L.length) (hn : ∀ i (hi : i < L.length), i < k → L[i].name ≠ n) (he : L[k].name = n) : findP L n = some L[k] := by
  unfold findP
  rw [List.find?_eq_some_iff_append]
  refine ⟨decide_eq_true he, L.take k, L.drop (k + 1), ?_, fun x hx => ?_⟩
  · rw [← List.drop_eq_getElem_cons hk, List.take_append_drop]
  · obtain ⟨i, hi, rfl⟩ := List.getElem_of_mem hx
    have hik : i < k := by simp at hi; omega
    have := hn i (by omega) hik
    simpa [List.getElem_take] using this
theorem findP_off {L : List Prc} {n : ByteArray} (hn : ∀ i (hi : i < L.length), L[i].name ≠ n) : findP L n = none := by
  unfold findP
  rw [List.find?_eq_none]
  intro p hp
  obtain ⟨i, hi, rfl⟩ := List.getElem_of_mem hp
  simpa using hn i hi
theorem bs_ne {a b : ByteArray} (h : a ≠ b) : (a.toList == b.toList) = false := by
  rw [beq_eq_false_iff_ne]
  intro e
  simp only [ByteArray.toList_eq] at e
  exact h (ByteArray.ext (Array.toList_inj.1 e))
theorem prc0_rd (w : World) (S : Nat → Prop) : Rd procSh w S [.string ⟨#[]⟩, .slice none 0 0, .bool false, .slice none 0 0, .slice none 0 0, .int .i64 0, .slice none 0 0, .slice none 0 0] prc0 :=
  proc_mk prc0 (rd_nil _ w S) (rd_nil _ w S) (rd_nil _ w S) (rd_nil _ w S) (rd_nil _ w S) (Nat.zero_le _) (by decide)
set_option maxRecDepth 10000 in
set_option maxHeartbeats 2000000 in
theorem rFind_lib (w : World) (S : Nat → Prop) (B : Nat) (a : Option Addr) (c : Nat) (L : List Prc) (h : RLib w S B a c L) (n : ByteArray) :
    Calls Tryz.prog 79 #[.pointer (some ⟨B, 0, none⟩), .string n] w (RFound w S L n) := by
  have K1 := (Keep.refl No w).alloc (.cells #[.string ⟨#[]⟩, .slice none 0 0, .bool false, .slice none 0 0, .slice none 0 0, .int .i64 0, .slice none 0 0, .slice none 0 0] 130)
  have x1 := blk_new w (.cells #[.string ⟨#[]⟩, .slice none 0 0, .bool false, .slice none 0 0, .slice none 0 0, .int .i64 0, .slice none 0 0, .slice none 0 0] 130)
  have h1 := h.keep K1 (fun _ _ x => x) (fun x => x)
  have h63 := slice_len h.rd
  have q1 := blk_cell h1.blk
  have HS := Lib.hid h.rd
  have HX := Lib.hid (And.intro K1 (And.intro x1 h1))
  clear K1 x1
  go_enter Tryz.func79, Tryz.ntmps79
  go_upto_region 1 with fail
  generalize w.alloc (.cells #[.string ⟨#[]⟩, .slice none 0 0, .bool false, .slice none 0 0, .slice none 0 0, .int .i64 0, .slice none 0 0, .slice none 0 0] 130) = wa at *
  go_wp2_with fail
  go_loopg [6] L.length (fun g i wr => ∃ k : Nat, k ≤ L.length ∧ g = L.length - k ∧ i = .int .i64 k ∧ wr = wa ∧ RowKit.Hid (∀ i (hi : i < L.length), i < k → L[i].name ≠ n))
  case atStart => exact ⟨0, by omega, by omega, rfl, rfl, fun _ _ h => absurd h (Nat.not_lt_zero _)⟩
  case round =>
    obtain ⟨k, hk, rfl, rfl, hww, HN⟩ := hrel
    rw [hww]
    clear hww
    by_cases hlt : k < L.length
    · have j1 : (k : Int) < L.length := by omega
      have j0 : (0 : Int) ≤ k := by omega
      have j3 : (k : Int) ≤ 9223372036854775806 := by omega
      obtain ⟨b, off, a1, c1, a2, c2, a3, c3, a4, c4, a5, c5, ea, r0, r1, r2, r3, r4, r5, r6, r7, hrk⟩ := procs_get HS.out k hlt
      subst ea
      have lb : b < w.heap.size := World.block_lt_of_cell? _ _ r0
      have p0 := (HX.out.1.cell lb (fun x => x)).trans r0
      have p1 := (HX.out.1.cell lb (fun x => x)).trans r1
      have p2 := (HX.out.1.cell lb (fun x => x)).trans r2
      have p3 := (HX.out.1.cell lb (fun x => x)).trans r3
      have p4 := (HX.out.1.cell lb (fun x => x)).trans r4
      have p5 := (HX.out.1.cell lb (fun x => x)).trans r5
      have p6 := (HX.out.1.cell lb (fun x => x)).trans r6
      have p7 := (HX.out.1.cell lb (fun x => x)).trans r7
      clear lb r0 r1 r2 r3 r4 r5 r6 r7
      by_cases he : L[k].name = n
      · have hf := findP_at hlt HN.out he
        have HF := Lib.hid (And.intro hf (And.intro hlt hrk))
        generalize L[k] = p at *
        clear hf hrk hlt h63 hk h h1
        subst he
        have x2 := HX.out.2.1
        have q2 := blk_cell x2
        have z2 := blk_fro x2
        go_wp2_with fail
        have y5 := blk_eight x2 (.string p.name) (.slice a1 p.kinds.length c1) (.bool p.dep) (.slice a2 p.reads.length c2) (.slice a3 p.writes.length c3) (.int .i64 p.pgm.args) (.slice a4 p.pgm.consts.length c4) (.slice a5 p.pgm.code.length c5)
        have k5 := keep_eight HX.out.1 (b := w.heap.size) (Nat.le_refl _) (.string p.name) (.slice a1 p.kinds.length c1) (.bool p.dep) (.slice a2 p.reads.length c2) (.slice a3 p.writes.length c3) (.int .i64 p.pgm.args) (.slice a4 p.pgm.consts.length c4) (.slice a5 p.pgm.code.length c5)
        have s2 := blk_cell y5
        refine bodyPost_ret (v := .tuple #[.agg #[.string p.name, .slice a1 p.kinds.length c1, .bool p.dep, .slice a2 p.reads.length c2, .slice a3 p.writes.length c3, .int .i64 p.pgm.args, .slice a4 p.pgm.consts.length c4, .slice a5 p.pgm.code.length c5], .bool true]) (by simp [results, Tryz.results79, go_sem, s2]) rfl ?_
        refine ⟨_, by rw [HF.out.1]; rfl, ?_, k5⟩
        rw [HF.out.1]
        exact HF.out.2.2.agree procSh k5.agreeNo
      · have HF := Lib.hid (And.intro (show ∀ i (hi : i < L.length), i < k + 1 → L[i].name ≠ n from fun i hi hik => by
          by_cases hik' : i < k
          · exact HN.out i hi hik'
          · obtain rfl : i = k := by omega
            exact he) hlt)
        have he' := bs_ne he
        clear p1 p2 p3 p4 p5 p6 p7
        generalize L[k].name = pn at *
        clear hrk hlt hk h63 h h1 he
        go_wp2_with fail
        go_roundg (L.length - (k + 1))
        case measure => have := HF.out.2; omega
        case rel =>
          exact ⟨k + 1, HF.out.2, rfl, by simp, rfl, HF.out.1⟩
    · obtain rfl : k = L.length := by omega
      have hf := findP_off fun i hi => HN.out i hi hi
      have j1 : ¬ (L.length : Int) < L.length := by omega
      have HF := Lib.hid hf
      clear hf hlt h63 hk h h1
      have x2 := HX.out.2.1
      have q2 := blk_cell x2
      have z2 := blk_fro x2
      go_wp2_with fail
      have y5 := blk_eight x2 (.string ⟨#[]⟩) (.slice none 0 0) (.bool false) (.slice none 0 0) (.slice none 0 0) (.int .i64 0) (.slice none 0 0) (.slice none 0 0)
      have k5 := keep_eight HX.out.1 (b := w.heap.size) (Nat.le_refl _) (.string ⟨#[]⟩) (.slice none 0 0) (.bool false) (.slice none 0 0) (.slice none 0 0) (.int .i64 0) (.slice none 0 0) (.slice none 0 0)
      have s2 := blk_cell y5
      refine bodyPost_ret (v := .tuple #[.agg #[.string ⟨#[]⟩, .slice none 0 0, .bool false, .slice none 0 0, .slice none 0 0, .int .i64 0, .slice none 0 0, .slice none 0 0], .bool false]) (by simp [results, Tryz.results79, go_sem, s2]) rfl ?_
      refine ⟨_, by rw [HF.out]; rfl, ?_, k5⟩
      rw [HF.out]
      exact prc0_rd _ _
end Go.Proofs.YtpjcebajkfeacaaGreatDoor
namespace Go.Proofs.YtpjcebajkfeacaaGreatDoor
open Go Go.RowKit Go.Deep
theorem rd_drop {s : Sh} {w : World} {S : Nat → Prop} {b off n c : Nat} {l : List s.T} (h : Rd (.slice s) w S [.slice (some ⟨b, off, none⟩) n c] l) (k : Nat) (hk : k ≤ l.length) : Rd (.slice s) w S [.slice (some ⟨b, off + k * s.size, none⟩) (l.length - k) (c - k)] (l.drop k) := by
  obtain ⟨a, c', e, h1, h2, h3, h4⟩ := h
  simp only [List.cons.injEq, Value.slice.injEq, and_true] at e
  obtain ⟨rfl, rfl, rfl⟩ := e
  refine ⟨_, c - k, by rw [List.length_drop], by rw [List.length_drop]; omega, by omega, fun e => (by cases e), fun i hi => ?_⟩
  rw [List.length_drop] at hi
  obtain ⟨b', off', row, q1, q2, q3, q4, q5, q6⟩ := h4 (k + i) (by omega)
  simp only [Option.some.injEq, Addr.mk.injEq, and_true] at q1
  obtain ⟨rfl, rfl⟩ := q1
  refine ⟨b, off + k * s.size, row, rfl, q2, q3, q4, ?_, by rw [List.getElem_drop]; exact q6⟩
  rw [show off + k * s.size + i * s.size = off + (k + i) * s.size by rw [Nat.add_mul]; omega]
  exact q5
theorem Tryz.infoProc : (Tryz.prog.info? 130).map (fun i => (i.zero, i.size, i.bytes)) = some (some (.agg #[.string ⟨#[]⟩, .slice none 0 0, .bool false, .slice none 0 0, .slice none 0 0, .int .i64 0, .slice none 0 0, .slice none 0 0]), 8, 152) := by kernel_rfl
def restA (b off k c : Nat) : Addr := if c = k then ⟨b, off, none⟩ else ⟨b, off + k * 8, none⟩
theorem rd_rest {w : World} {S : Nat → Prop} {b off n c : Nat} {l : List Prc} (h : Rd (.slice procSh) w S [.slice (some ⟨b, off, none⟩) n c] l) (hn : n = l.length) (k : Nat) (hk : k ≤ n) : Rd (.slice procSh) w S [.slice (some (restA b off k c)) (n - k) (c - k)] (l.drop k) := by
  subst hn
  unfold restA
  split
  · rename_i hc
    obtain ⟨a', c', e1, h1, h2, h3, h4⟩ := h
    simp only [List.cons.injEq, Value.slice.injEq, and_true, true_and] at e1
    obtain ⟨rfl, rfl⟩ := e1
    have hl : k = l.length := by omega
    subst hl
    rw [List.drop_length, Nat.sub_self]
    exact ⟨_, _, rfl, Nat.zero_le _, by omega, fun hh => by (cases hh), fun j hj => absurd hj (Nat.not_lt_zero _)⟩
  · exact rd_drop h k hk
theorem rd_takeO {w : World} {S : Nat → Prop} {a : Option Addr} {c : Nat} {l : List Prc} (h : Rd (.slice procSh) w S [.slice a l.length c] l) (k : Nat) (hk : k ≤ l.length) : Rd (.slice procSh) w S [.slice a k c] (l.take k) := by
  obtain ⟨a', c', e, h1, h2, h3, h4⟩ := h
  simp only [List.cons.injEq, Value.slice.injEq, and_true, true_and] at e
  obtain ⟨rfl, rfl⟩ := e
  have hlen : (l.take k).length = k := by simp; omega
  refine ⟨_, c, by rw [hlen], by omega, h2, fun e => ?_, fun i hi => ?_⟩
  · obtain ⟨e1, e2⟩ := h3 e
    exact ⟨by rw [e1]; simp, e2⟩
  · obtain ⟨b', off', row, q1, q2, q3, q4, q5, q6⟩ := h4 i (by omega)
    exact ⟨b', off', row, q1, q2, q3, q4, q5, by rw [List.getElem_take]; exact q6⟩
theorem rd_restO {w : World} {S : Nat → Prop} {a : Option Addr} {c : Nat} {l : List Prc} (h : Rd (.slice procSh) w S [.slice a l.length c] l) (k : Nat) (hk : k ≤ l.length) : Rd (.slice procSh) w S [.slice (if c = k then a else Option.map (fun x => x.add (k * 8)) a) (l.length - k) (c - k)] (l.drop k) := by
  by_cases hl : l = []
  · subst hl
    obtain rfl : k = 0 := by simpa using hk
    obtain ⟨a', c', e, h1, h2, h3, h4⟩ := h
    simp only [List.cons.injEq, Value.slice.injEq, and_true, true_and] at e
    obtain ⟨rfl, rfl⟩ := e
    refine ⟨_, _, rfl, Nat.zero_le _, by omega, fun e => ?_, fun i hi => absurd hi (Nat.not_lt_zero _)⟩
    have : a = none := by split at e <;> simpa using e
    exact ⟨rfl, by have := (h3 this).2; omega⟩
  · have hp : 0 < l.length := List.length_pos_iff.2 hl
    obtain ⟨b, off, row, rfl, -⟩ := h.elem' 0 hp
    have := rd_rest h rfl k hk
    unfold restA at this
    split
    · rename_i hc
      rw [if_pos hc] at this
      exact this
    · rename_i hc
      rw [if_neg hc] at this
      simpa only [Option.map_some, Addr.add_lit] using this
def OwR (w0 : World) (S : Nat → Prop) (w : World) (v : Value) (l : List Prc) : Prop :=
  (∃ (g : Option Nat) (rows : List (List Value)), OwnRows w 130 8 v g rows ∧ rows.length = l.length ∧ (∀ i (h : i < rows.length) (h' : i < l.length), Rd procSh w0 S rows[i] l[i]) ∧ (∀ b, g = some b → w0.heap.size ≤ b ∧ b < w.heap.size)) ∧ Keep No w0 w
theorem OwR.more {w0 : World} {S : Nat → Prop} {w w1 : World} {v : Value} {l : List Prc} (h : OwR w0 S w v l) (hk : Keep No w w1) : OwR w0 S w1 v l := by
  obtain ⟨⟨g, rows, h1, h2, h3, h4⟩, h5⟩ := h
  exact ⟨⟨g, rows, h1.agree fun b hb => hk.block b (h4 b hb).2 (fun x => x), h2, h3, fun b hb => ⟨(h4 b hb).1, Nat.lt_of_lt_of_le (h4 b hb).2 hk.size⟩⟩, h5.trans hk⟩
theorem OwR.app {w0 : World} {S : Nat → Prop} {w : World} {v : Value} {l : List Prc} (h : OwR w0 S w v l) {x : Value} {xs : List Prc} {news : List (List Value)} (hs : Src Tryz.prog 8 122 x news.length news.flatten w) (hn : news.length = xs.length)
    (hr : ∀ i (h : i < news.length) (h' : i < xs.length), Rd procSh w0 S news[i] xs[i]) (hl : l.length + xs.length ≤ 1048576) :
    ∃ a c w', (Builtin.append_ #[122, 122] 122 #[v, x]).run Tryz.prog w = .ok (.slice a (l.length + xs.length) c) w' ∧ OwR w0 S w' (.slice a (l.length + xs.length) c) (l ++ xs) ∧ ∀ b off n c, v = .slice (some ⟨b, off, none⟩) n c → Keep (One b) w w' := by
  obtain ⟨⟨g, rows, h1, h2, h3, h4⟩, h5⟩ := h
  obtain ⟨i0, hi, hz0, hz1, hz2⟩ := info_parts Tryz.infoProc
  obtain ⟨a, c, w', g', hrun, ho', hg', hk', hsz⟩ := own_append h1 122 122 122 i0 _ 152 Tryz.underlying122 hi hz0 hz1 hz2 rfl (x := x) (news := news) hs (fun r hrm => by
    obtain ⟨i, hi, rfl⟩ := List.getElem_of_mem hrm
    exact (hr i hi (by omega)).length procSh) (by omega) (by omega)
  rw [h2, hn] at hrun ho'
  have hkeep : ∀ b off n c, v = .slice (some ⟨b, off, none⟩) n c → Keep (One b) w w' := fun b off n cc hv => hk'.mono fun i hi hg => by
    obtain ⟨a', c', e, -, -, -, e2⟩ := h1.form
    rw [hv] at e
    simp only [Value.slice.injEq] at e
    obtain ⟨b', off', e3, e4⟩ := e2 (by rw [← e.1]; simp)
    rw [e4] at hg
    rw [← e.1] at e3
    simp only [Option.some.injEq, Addr.mk.injEq] at e3 hg
    exact hg.symm.trans e3.1.symm
  have hrows : ∀ i (hi : i < (rows ++ news).length) (hi' : i < (l ++ xs).length), Rd procSh w0 S (rows ++ news)[i] (l ++ xs)[i] := fun i hi hi' => by
    by_cases hlt : i < rows.length
    · rw [List.getElem_append_left hlt, List.getElem_append_left (by omega)]
      exact h3 i hlt (by omega)
    · simp only [List.length_append] at hi hi'
      have e1 : (rows ++ news)[i]'(by simp; omega) = news[i - rows.length]'(by omega) := List.getElem_append_right (by omega)
      have e2 : (l ++ xs)[i]'(by simp; omega) = xs[i - l.length]'(by omega) := List.getElem_append_right (by omega)
      rw [e1, e2]
      have e3 : xs[i - l.length]'(by omega) = xs[i - rows.length]'(by omega) := by simp only [h2]
      rw [e3]
      exact hr _ _ _
  refine ⟨a, c, w', hrun, ⟨⟨g', rows ++ news, ho', by simp [h2, hn], hrows, fun b hb => ⟨?_, ho'.lt hb⟩⟩, h5.then hk' fun i hi hg => by have := (h4 i hg).1; omega⟩, hkeep⟩
  rcases hg' with rfl | rfl
  · exact (h4 b hb).1
  · cases hb; exact h5.size
theorem OwR.one {w0 : World} {S : Nat → Prop} {w : World} {v : Value} {l : List Prc} (h : OwR w0 S w v l) {q : Nat} {cs : Array Value} {t : TypeId} {c : Nat} (hq : w.heap[q]? = some (.cells cs t (0, 0))) {p : Prc} (hr : Rd procSh w0 S cs.toList p) (hl : l.length + 1 ≤ 1048576) :
    ∃ a c' w', (Builtin.append_ #[122, 122] 122 #[v, .slice (some ⟨q, 0, none⟩) 1 c]).run Tryz.prog w = .ok (.slice a (l.length + 1) c') w' ∧ OwR w0 S w' (.slice a (l.length + 1) c') (l ++ [p]) := by
  suffices hh : ∃ a c' w', (Builtin.append_ #[122, 122] 122 #[v, .slice (some ⟨q, 0, none⟩) 1 c]).run Tryz.prog w = .ok (.slice a (l.length + 1) c') w' ∧ OwR w0 S w' (.slice a (l.length + 1) c') (l ++ [p]) ∧ ∀ b off n c, v = .slice (some ⟨b, off, none⟩) n c → Keep (One b) w w' by
    obtain ⟨a, c', w', h1, h2, -⟩ := hh; exact ⟨a, c', w', h1, h2⟩
  have hlen : cs.toList.length = 8 := hr.length procSh
  refine h.app (xs := [p]) (news := [cs.toList]) ?_ rfl (fun i hi hi' => ?_) hl
  · simp only [List.flatten_cons, List.flatten_nil, List.append_nil]
    exact Src.ofBlock Tryz.underlying122 q 1 c cs t _ hq (by simpa using hlen) (hr.one procSh)
  · have : i = 0 := by simp at hi; omega
    subst this
    exact hr
theorem OwR.list {w0 : World} {S : Nat → Prop} {w : World} {v : Value} {l : List Prc} (h : OwR w0 S w v l) {u : Value} {xs : List Prc} (hr : Rd (.slice procSh) w0 S [u] xs) (hl : l.length + xs.length ≤ 1048576) :
    ∃ a c w', (Builtin.append_ #[122, 122] 122 #[v, u]).run Tryz.prog w = .ok (.slice a (l.length + xs.length) c) w' ∧ OwR w0 S w' (.slice a (l.length + xs.length) c) (l ++ xs) ∧ ∀ b off n c, v = .slice (some ⟨b, off, none⟩) n c → Keep (One b) w w' := by
  obtain ⟨rows, hrl, hrr, hsrc⟩ := Rd.rows hr
  exact h.app (hsrc Tryz.prog 122 130 Tryz.underlying122 w h.2.agreeNo) hrl hrr hl
theorem OwR.rd {w0 : World} {S : Nat → Prop} {w : World} {v : Value} {l : List Prc} (h : OwR w0 S w v l) : Rd (.slice procSh) w (fun k => (S k ∧ k < w0.heap.size) ∨ Fr w0.heap.size w.heap.size k) [v] l := by
  obtain ⟨⟨g, rows, h1, h2, h3, h4⟩, h5⟩ := h
  refine Own.rd (e := 130) ⟨g, rows, fun k => S k ∧ k < w0.heap.size, h1, h2, fun i hi hi' => ?_, fun b hb => ⟨.inr (h4 b hb), fun hn => by have := (h4 b hb).1; omega⟩, fun k hk => .inl hk⟩
  have h6 : Rd procSh w0 (fun k => S k ∧ k < w0.heap.size) rows[i] l[i] := (h3 i hi hi').mono procSh fun k hk hS => ⟨hS, hk⟩
  exact h6.agree procSh h5.agreeNo
theorem OwR.empty {w0 w : World} (S : Nat → Prop) (hk : Keep No w0 w) {q : Nat} (hq : w.heap[q]? = some (.cells #[] 130 (0, 0))) (h0 : w0.heap.size ≤ q) : OwR w0 S w (.slice (some ⟨q, 0, none⟩) 0 0) [] :=
  ⟨⟨some q, [], ⟨fun _ h => (by cases h), .inr ⟨q, 0, 0, #[], rfl, rfl, hq, Nat.le_refl _, Nat.zero_le _, by simp, by simp⟩⟩, rfl, fun i h => absurd h (Nat.not_lt_zero _), fun b h => by cases h; exact ⟨h0, blk_lt hq⟩⟩, hk⟩
def RPuts (w : World) (S : Nat → Prop) (B : Nat) (L : List Prc) (p : Prc) (w' : World) : Prop :=
  ∃ a c i, i ≤ L.length ∧ RLib w' (fun k => (S k ∧ k < w.heap.size) ∨ Fr w.heap.size w'.heap.size k) B a c (L.take i ++ [p] ++ L.drop i) ∧ Keep (One B) w w'
theorem RPuts.mk {w w2 w6 : World} {S : Nat → Prop} {B n k : Nat} {a a' : Option Addr} {c c' : Nat} {L : List Prc} {p : Prc} (hk : Keep No w w2) (hk2 : k ≤ L.length) (h2 : RLib w2 S B a c L) (hB : B < w.heap.size) (h : OwR w2 S w6 (.slice a' n c') (L.take k ++ [p] ++ L.drop k)) : RPuts w S B L p (w6.setCell ⟨B, 0, none⟩ (.slice a' n c')) := by
  have ks := keep_set w6 B 0 (.slice a' n c')
  have hb6 := blk_set (h.2.blk h2.blk (fun x => x)) 0 (.slice a' n c')
  have hn : n = (L.take k ++ [p] ++ L.drop k).length := by
    obtain ⟨a'', c'', e, -⟩ := h.rd
    simp only [List.cons.injEq, Value.slice.injEq, and_true] at e
    exact e.2.1
  have hsz := hk.size
  have hsz2 := h.2.size
  refine ⟨a', c', k, hk2, ⟨?_, ?_, ?_⟩, ((hk.trans h.2).mono fun _ _ x => x.elim).trans ks⟩
  · rw [← hn]
    simpa using hb6
  · rw [← hn]
    have hag : Rd (.slice procSh) (w6.setCell ⟨B, 0, none⟩ (.slice a' n c')) (fun k => (S k ∧ k < w2.heap.size) ∨ Fr w2.heap.size w6.heap.size k) [.slice a' n c'] (L.take k ++ [p] ++ L.drop k) := h.rd.agree _ (ks.agree fun q _ hq e => by
      have e : q = B := e
      subst e
      rcases hq with hq | hq
      · exact h2.nB hq.1
      · have := hq.1; omega)
    refine hag.mono _ fun q hq hh => ?_
    rcases hh with hh | hh
    · by_cases hlt : q < w.heap.size
      · exact .inl ⟨hh.1, hlt⟩
      · exact .inr ⟨by omega, hq⟩
    · exact .inr ⟨by have := hh.1; omega, hq⟩
  · rintro (hh | hh)
    · exact h2.nB hh.1
    · have := hh.1; omega
end Go.Proofs.YtpjcebajkfeacaaGreatDoor
