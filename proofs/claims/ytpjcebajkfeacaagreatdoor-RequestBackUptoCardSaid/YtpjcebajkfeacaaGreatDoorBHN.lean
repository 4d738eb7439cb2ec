/-
  Parts of what is proved for this claim; each declaration is one of the seat's texts.
-/
import Derived.Test.YtpjcebajkfeacaaGreatDoorBGA
import Derived.Test.YtpjcebajkfeacaaGreatDoorBGC
import Derived.Test.YtpjcebajkfeacaaGreatDoorBGF
import Derived.Test.YtpjcebajkfeacaaGreatDoorBGJ
import Derived.Test.YtpjcebajkfeacaaGreatDoorBGK
import Derived.Test.YtpjcebajkfeacaaGreatDoorBGM
import Derived.Test.YtpjcebajkfeacaaGreatDoorBGU
import Derived.Test.YtpjcebajkfeacaaGreatDoorBGV
import Derived.Test.YtpjcebajkfeacaaGreatDoorBGW
import Derived.Test.YtpjcebajkfeacaaGreatDoorBGX
import Derived.Test.YtpjcebajkfeacaaGreatDoorBHA
import Derived.Test.YtpjcebajkfeacaaGreatDoorBHB
import Derived.Test.YtpjcebajkfeacaaGreatDoorBHD
import Derived.Test.YtpjcebajkfeacaaGreatDoorBHE
import Derived.Test.YtpjcebajkfeacaaGreatDoorBHF
import Derived.Test.YtpjcebajkfeacaaGreatDoorBHG
import Derived.Test.YtpjcebajkfeacaaGreatDoorBHI
import Derived.Test.YtpjcebajkfeacaaGreatDoorBHJ
import Derived.Test.YtpjcebajkfeacaaGreatDoorBHK
import Derived.Test.YtpjcebajkfeacaaGreatDoorBHL
import Derived.Test.YtpjcebajkfeacaaGreatDoorBHM
import Derived.WalkKit
import Derived.WalkSpells
import Derived.WalkLawsBesides
import Derived.ProofKit
import Derived.Deep.Slices
import Derived.Deep.AppendSrc
import Derived.Lib.Hide
import Derived.Lib.ItoaNum
import Derived.Lib.Join
import Derived.Still
import Derived.StillTactics
import Derived.Recover
import Derived.Defers
import Derived.Deep.QuietTactic
import Derived.BigQuiet
import Derived.Handy
import Derived.Laws.Bits64b
import Derived.Lib.Zigzag
import Derived.OwnWalk
import Derived.Deep.DeepCutAuto
import Derived.Deep.LoopGhost
import Derived.Lib.Bytealg
import Derived.Laws.Externs
import Derived.Laws.CopyRow
import Derived.Laws.IdiomCopy
import Derived.Maps.OwnSet
import Derived.Maps.RangeWalk
import Derived.Shelf.SortM.Plain
import Derived.Shelf.SortM.SortNone
import Derived.Ground.SlgmProg
import Derived.Deep.WholeRow
import Derived.Maps.OwnOps
import Derived.Shelf.Strconv.Itoa4
import Derived.Shelf.Strings.BuilderK
import Derived.Shelf.Strings.OnBuilder
import Derived.Ground.NamesProg
import Derived.Lib.AppendIntMem
import Derived.Lib.UnsafeStr
import Derived.Maps.Views
set_option linter.unusedVariables false
set_option linter.unusedSimpArgs false
namespace Go.Proofs.YtpjcebajkfeacaaGreatDoor
open Go Go.RowKit Go.Deep
theorem rpgOk_rd {w : World} {S : Nat → Prop} {a4 a5 : Option Addr} {c4 c5 : Nat} {p : Prc} (hh : p.Home) (h5 : Rd (.slice instrSh) w S [.slice a5 p.pgm.code.length c5] p.pgm.code) :
    RPgOk w (.int .i64 p.pgm.args) (.slice a4 p.pgm.consts.length c4) (.slice a5 p.pgm.code.length c5) := fun W hW => by
  have hk := hh.ok.kinds
  have ha := hh.ok.args
  rw [hh.consts]
  rw [hh.code] at h5 ⊢
  obtain ⟨b, off, row, rfl, -, hb, hS, -, hrow, hx⟩ := h5.elem' 0 (by simp)
  obtain ⟨_, _, rfl, ⟨rfl, w1⟩, _, _, rfl, ⟨rfl, w2⟩, rfl⟩ := hx
  have p0 := (hrow 0 (by simp)).1
  have p1 := (hrow 1 (by simp)).1
  simp [Sh.size] at p0 p1
  exact rpCheck_any W p.pgm.args (by omega) (by omega) a4 c4 b off c5 ((hW.cell hb (fun x => x)).trans p0) ((hW.cell hb (fun x => x)).trans p1)
def RSet (w : World) (S : Nat → Prop) (B n : Nat) : Nat → Prop := fun k => (S k ∧ k < w.heap.size) ∨ (Fr w.heap.size n k ∧ k ≠ B)
def ROf (w : World) (S : Nat → Prop) (L : List Prc) (e : Ending) (w' : World) : Prop :=
  ∃ B a c L', e = .returned (.tuple #[.pointer (some ⟨B, 0, none⟩), .int .i64 0, .int .i64 0]) ∧ RLib w' (RSet w S B w'.heap.size) B a c L' ∧ L'.Perm L ∧ w.heap.size ≤ B ∧ Keep No w w'
theorem perm_put {L L' M : List Prc} {p : Prc} {i : Nat} (h : L'.Perm L) (hM : M = L'.take i ++ [p] ++ L'.drop i) : M.Perm (L ++ [p]) := by
  subst hM
  have h1 : (L'.take i ++ [p] ++ L'.drop i).Perm (p :: L') := by
    rw [List.append_assoc]
    refine List.perm_middle.trans ?_
    show (p :: (L'.take i ++ L'.drop i)).Perm (p :: L')
    rw [List.take_append_drop]
  exact h1.trans ((List.Perm.cons p h).trans (List.perm_append_singleton p L).symm)
theorem rCheck_rd (w : World) (S : Nat → Prop) (cs : List Value) (p : Prc) (hr : Rd procSh w S cs p) (hh : p.Home) : Calls Tryz.prog 133 #[.agg cs.toArray] w (GivesI w 0) := by
  obtain ⟨a1, c1, a2, c2, a3, c3, a4, c4, a5, c5, rfl, h1, h2, h3, h4, h5, w1, w2⟩ := proc_cells hr
  exact rLibCheck_ok w S _ _ _ c1 c2 c3 a1 a2 a3 _ _ rfl rfl p rfl rfl rfl h1 h2 h3 hh.ok (rpgOk_rd hh h5)
theorem RLib.mono {w : World} {S S' : Nat → Prop} {B : Nat} {a : Option Addr} {c : Nat} {L : List Prc} (h : RLib w S B a c L) (hs : ∀ k, k < w.heap.size → S k → S' k) (hB : ¬ S' B) : RLib w S' B a c L := ⟨h.blk, h.rd.mono _ hs, hB⟩
theorem findP_perm {L1 L : List Prc} {n : ByteArray} (hp : L1.Perm L) (h : findP L n = none) : findP L1 n = none := by
  unfold findP at *
  rw [List.find?_eq_none] at *
  exact fun x hx => h x (hp.mem_iff.1 hx)
theorem rput_of {w w4 w5 : World} {S : Nat → Prop} {L L1 : List Prc} {k : Nat} (hlt : k < L.length) (hp : L1.Perm (L.take k)) (hk : Keep No w w4) (hB : w.heap.size < w4.heap.size) (h : RPuts w4 (RSet w S w.heap.size w4.heap.size) w.heap.size L1 L[k] w5) :
    ∃ a c L2, RLib w5 (RSet w S w.heap.size w5.heap.size) w.heap.size a c L2 ∧ L2.Perm (L.take (k + 1)) ∧ Keep No w w5 := by
  obtain ⟨a, c, i, hi, hl, hk5⟩ := h
  have hs := hk.size
  have hs5 := hk5.size
  refine ⟨a, c, _, hl.mono (fun q hq hh => ?_) (fun hh => ?_), ?_, hk.then hk5 fun i hi e => by have : i = w.heap.size := e; omega⟩
  · rcases hh with ⟨hh, -⟩ | hh
    · exact hh.imp id fun h => ⟨⟨h.1.1, hq⟩, h.2⟩
    · by_cases e : q = w.heap.size
      · subst e; have := hh.1; omega
      · exact .inr ⟨⟨by have := hh.1; omega, hq⟩, e⟩
  · exact hh.elim (fun h => by omega) (fun h => h.2 rfl)
  · rw [List.take_succ_eq_append_getElem hlt]
    exact perm_put hp rfl
set_option maxRecDepth 10000 in
set_option maxHeartbeats 4000000 in
theorem rLibOf_any (w : World) (S : Nat → Prop) (a : Option Addr) (c : Nat) (L : List Prc) (h : Rd (.slice procSh) w S [.slice a L.length c] L) (hh : ∀ p ∈ L, p.Home) (hd : (L.map Prc.name).Nodup) (hL : L.length ≤ 60) :
    Calls Tryz.prog 73 #[.slice a L.length c] w (ROf w S L) := by
  have K0 : Keep No w (w.alloc (.cells #[.slice none 0 0] 199)) := (Keep.refl No w).alloc _
  have hA : RLib (w.alloc (.cells #[.slice none 0 0] 199)) (RSet w S w.heap.size (w.heap.size + 1)) w.heap.size none 0 [] :=
    ⟨blk_new w _, rd_nil _ _ _, fun hh => hh.elim (fun h => by omega) (fun h => h.2 rfl)⟩
  have HX := Lib.hid (And.intro h (And.intro hh (And.intro hd hL)))
  have HA := Lib.hid (And.intro K0 hA)
  clear h hh hd K0 hA
  go_enter Tryz.func73, Tryz.ntmps73
  go_wp2_with fail
  go_loopg [6] L.length (fun g i wr => ∃ (k : Nat) (a1 : Option Addr) (c1 : Nat) (L1 : List Prc), k ≤ L.length ∧ g = L.length - k ∧ i = .int .i64 k ∧ RowKit.Hid (RLib wr (RSet w S w.heap.size wr.heap.size) w.heap.size a1 c1 L1 ∧ L1.Perm (L.take k) ∧ Keep No w wr))
  case atStart => exact ⟨0, none, 0, [], by omega, by omega, rfl, by simpa using HA.out.2, by simp, HA.out.1⟩
  case round =>
    obtain ⟨k, a1, c1, L1, hk, rfl, rfl, HR⟩ := hrel
    by_cases hlt : k < L.length
    · have j1 : (k : Int) < L.length := by omega
      have j0 : (0 : Int) ≤ k := by omega
      have j3 : (k : Int) ≤ 60 := by omega
      have j4 : ¬ k = 64 := by omega
      have j5 : ((k : Int) == 64) = false := by simp; omega
      obtain ⟨b, off, x1, d1, x2, d2, x3, d3, x4, d4, x5, d5, ea, r0, r1, r2, r3, r4, r5, r6, r7, hrk⟩ := procs_get HX.out.1 k hlt
      subst ea
      have lb : b < w.heap.size := World.block_lt_of_cell? _ _ r0
      have K1 := HR.out.2.2
      have p0 := (K1.cell lb (fun x => x)).trans r0
      have p1 := (K1.cell lb (fun x => x)).trans r1
      have p2 := (K1.cell lb (fun x => x)).trans r2
      have p3 := (K1.cell lb (fun x => x)).trans r3
      have p4 := (K1.cell lb (fun x => x)).trans r4
      have p5 := (K1.cell lb (fun x => x)).trans r5
      have p6 := (K1.cell lb (fun x => x)).trans r6
      have p7 := (K1.cell lb (fun x => x)).trans r7
      have hhome := HX.out.2.1 _ (List.getElem_mem hlt)
      have hfn := findP_perm HR.out.2.1 (findP_take L HX.out.2.2.1 k hlt)
      have hch := (rCheck_rd wr S _ L[k] (hrk.agree procSh K1.agreeNo) hhome).mono (R' := fun e w2 => e = .returned (.int .i64 0) ∧ w2.cell? ⟨b, off + k * 8, none⟩ = some (.string L[k].name) ∧ RowKit.Hid (Keep No wr w2 ∧ RLib w2 (RSet w S w.heap.size wr.heap.size) w.heap.size a1 c1 L1)) (by
        rintro e w2 ⟨rfl, hk2⟩
        exact ⟨rfl, ((K1.trans hk2).cell lb (fun x => x)).trans r0, hk2, HR.out.1.keep hk2 (fun _ _ x => x) (fun x => x)⟩)
      have HF : RowKit.Hid (∀ w2, Keep No wr w2 → RLib w2 (RSet w S w.heap.size wr.heap.size) w.heap.size a1 c1 L1 → Calls Tryz.prog 79 #[.pointer (some ⟨w.heap.size, 0, none⟩), .string L[k].name] w2 fun e w3 => ∃ z1 e1 z2 e2 z3 e3 z4 e4 z5 e5, e = .returned (.tuple #[.agg #[.string prc0.name, .slice z1 prc0.kinds.length e1, .bool prc0.dep, .slice z2 prc0.reads.length e2, .slice z3 prc0.writes.length e3, .int .i64 prc0.pgm.args, .slice z4 prc0.pgm.consts.length e4, .slice z5 prc0.pgm.code.length e5], .bool false]) ∧ RowKit.Hid (Keep No wr w3)) := fun w2 hk2 hl2 => by
        refine (rFind_lib w2 _ _ a1 c1 L1 hl2 L[k].name).mono ?_
        rintro e w3 ⟨cs, rfl, hrd, hk3⟩
        rw [hfn] at hrd ⊢
        simp only [Option.getD_none, Option.isSome_none] at hrd ⊢
        obtain ⟨z1, d1, z2, d2, z3, d3, z4, d4, z5, d5, hcs, -⟩ := proc_cells hrd
        obtain rfl : cs = #[.string prc0.name, .slice z1 prc0.kinds.length d1, .bool prc0.dep, .slice z2 prc0.reads.length d2, .slice z3 prc0.writes.length d3, .int .i64 prc0.pgm.args, .slice z4 prc0.pgm.consts.length d4, .slice z5 prc0.pgm.code.length d5] := by
          cases cs; simp at hcs; rw [hcs]
        exact ⟨z1, d1, z2, d2, z3, d3, z4, d4, z5, d5, rfl, hk2.trans hk3⟩
      have HC := Lib.hid (And.intro lb (And.intro r0 (And.intro r1 (And.intro r2 (And.intro r3 (And.intro r4 (And.intro r5 (And.intro r6 r7))))))))
      have HPUT : RowKit.Hid (∀ w4, Keep No wr w4 → Calls Tryz.prog 134 #[.pointer (some ⟨w.heap.size, 0, none⟩), .agg #[.string L[k].name, .slice x1 L[k].kinds.length d1, .bool L[k].dep, .slice x2 L[k].reads.length d2, .slice x3 L[k].writes.length d3, .int .i64 L[k].pgm.args, .slice x4 L[k].pgm.consts.length d4, .slice x5 L[k].pgm.code.length d5]] w4 fun e w5 => e = .returned (.tuple #[]) ∧ RowKit.Hid (∃ a c L2, RLib w5 (RSet w S w.heap.size w5.heap.size) w.heap.size a c L2 ∧ L2.Perm (L.take (k + 1)) ∧ Keep No w w5)) := fun w4 hk4 => by
        have hK := K1.trans hk4
        have hs4 := hk4.size
        have hrl := (HR.out.1.keep hk4 (fun _ _ x => x) (fun x => x)).mono (S' := RSet w S w.heap.size w4.heap.size) (fun q hq hh => hh.imp id fun h => ⟨⟨h.1.1, hq⟩, h.2⟩) (fun hh => hh.elim (fun h => by omega) (fun h => h.2 rfl))
        have hr4 : Rd procSh w4 (RSet w S w.heap.size w4.heap.size) _ L[k] := (hrk.mono procSh (T := fun q => S q ∧ q < w.heap.size) fun q hq hS => ⟨hS, hq⟩).agree procSh hK.agreeNo |>.mono procSh fun q _ hh => .inl hh
        have hl1 : L1.length ≤ 60 := by
          have := HX.out.2.2.2
          rw [HR.out.2.1.length_eq]; simp; omega
        refine (rPut_lib w4 _ _ a1 c1 L1 hrl _ L[k] hr4 hl1).mono ?_
        rintro e w5 ⟨rfl, hp5⟩
        exact ⟨rfl, rput_of hlt HR.out.2.1 hK (by have := blk_lt HR.out.1.blk; omega) hp5⟩
      have HL := Lib.hid hlt
      clear hrk hhome hfn K1 r0 r1 r2 r3 r4 r5 r6 r7 lb
      generalize L[k] = p at *
      clear hlt hk
      go_upto_region 8 with (go_at_call 133; refine hch.mono ?_; clear hch; rintro e w2 ⟨rfl, q0, H2⟩)
      clear p0 p1 p2 p3 p4 p5 p6 p7
      go_upto_region 9 with (go_at_call 79; refine (HF.out _ H2.out.1 H2.out.2).mono ?_; clear HF; rintro e w3 ⟨z1, e1, z2, e2, z3, e3, z4, e4, z5, e5, rfl, HK3⟩)
      have K4 := Lib.hid (HK3.out.alloc (.cells #[.string prc0.name, .slice z1 prc0.kinds.length e1, .bool prc0.dep, .slice z2 prc0.reads.length e2, .slice z3 prc0.writes.length e3, .int .i64 prc0.pgm.args, .slice z4 prc0.pgm.consts.length e4, .slice z5 prc0.pgm.code.length e5] 130))
      generalize w3.alloc (.cells #[.string prc0.name, .slice z1 prc0.kinds.length e1, .bool prc0.dep, .slice z2 prc0.reads.length e2, .slice z3 prc0.writes.length e3, .int .i64 prc0.pgm.args, .slice z4 prc0.pgm.consts.length e4, .slice z5 prc0.pgm.code.length e5] 130) = w4 at *
      have KK := HR.out.2.2.trans K4.out
      have p0 := (KK.cell HC.out.1 (fun x => x)).trans HC.out.2.1
      have p1 := (KK.cell HC.out.1 (fun x => x)).trans HC.out.2.2.1
      have p2 := (KK.cell HC.out.1 (fun x => x)).trans HC.out.2.2.2.1
      have p3 := (KK.cell HC.out.1 (fun x => x)).trans HC.out.2.2.2.2.1
      have p4 := (KK.cell HC.out.1 (fun x => x)).trans HC.out.2.2.2.2.2.1
      have p5 := (KK.cell HC.out.1 (fun x => x)).trans HC.out.2.2.2.2.2.2.1
      have p6 := (KK.cell HC.out.1 (fun x => x)).trans HC.out.2.2.2.2.2.2.2.1
      have p7 := (KK.cell HC.out.1 (fun x => x)).trans HC.out.2.2.2.2.2.2.2.2
      clear KK q0
      go_wp2_with (go_at_call 134; refine (HPUT.out _ K4.out).mono ?_; clear HPUT; rintro e w5 ⟨rfl, H5⟩)
      obtain ⟨a9, c9, L9, h9⟩ := H5.out
      have H9 := Lib.hid h9
      clear h9
      go_roundg (L.length - (k + 1))
      case measure => have := HL.out; omega
      case rel => exact ⟨k + 1, a9, c9, L9, HL.out, rfl, by simp, H9.out⟩
    · obtain rfl : k = L.length := by omega
      have hp := HR.out.2.1
      rw [List.take_length] at hp
      have HL := Lib.hid (And.intro HR.out.1 (And.intro hp HR.out.2.2))
      have j1 : ¬ (L.length : Int) < L.length := by omega
      clear hp hlt hk
      go_wp2_with fail
      go_ret3
      exact ⟨_, _, _, _, rfl, HL.out.1, HL.out.2.1, Nat.le_refl _, HL.out.2.2⟩
end Go.Proofs.YtpjcebajkfeacaaGreatDoor
namespace Go.Proofs.YtpjcebajkfeacaaGreatDoor
open Go Go.RowKit Go.Deep
theorem num9_any (w : World) (e : Int) : Calls Tryz.prog 12 #[.int .i64 e] w fun en w' => en = .returned (.int .i64 e) ∧ w' = w := by
  go_enter Tryz.func12, Tryz.ntmps12
  go_wp2
  go_ret
  exact ⟨rfl, rfl⟩
structure LibsW (n : Nat) (w : World) (B m R : Nat) (a : Option Addr) (c : Nat) (L : List Prc) : Prop where
  lib : ∃ S, LibAt w S B m homeL ∧ ∀ k, S k → n ≤ k
  ref : ∃ S, RLib w S R a c L ∧ ∀ k, S k → n ≤ k
  perm : L.Perm homeL
  new : n ≤ R
def GivesLs (w : World) (e : Ending) (w' : World) : Prop :=
  ∃ B m R a c L, e = .returned (.tuple #[.pointer (some ⟨B, 0, none⟩), .pointer (some ⟨R, 0, none⟩)]) ∧ RowKit.Hid (LibsW w.heap.size w' B m R a c L ∧ Keep No w w')
set_option maxRecDepth 10000 in
set_option maxHeartbeats 1000000 in
theorem libs_any (w : World) : Calls Tryz.prog 22 #[] w (GivesLs w) := by
  have hh1 := (home_any w).mono (R' := fun e w1 => ∃ a1 c1, e = .returned (.slice a1 2 c1) ∧ RowKit.Hid (Rd (.slice procSh) w1 (Fr w.heap.size w1.heap.size) [.slice a1 2 c1] homeL ∧ Keep No w w1)) (by
    rintro e w1 ⟨a1, c1, rfl, h, hk⟩
    exact ⟨a1, c1, rfl, h, hk⟩)
  go_enter Tryz.func22, Tryz.ntmps22
  go_wp2_with fail
  refine hh1.mono ?_
  clear hh1
  rintro e w1 ⟨a1, c1, rfl, h1⟩
  have hof := (libOf_any w1 _ a1 c1 homeL h1.out.1 homeL_home homeL_names (by decide)).mono (R' := fun e w2 => ∃ B m, e = .returned (.tuple #[.pointer (some ⟨B, 0, none⟩), .int .i64 0, .int .i64 0]) ∧ RowKit.Hid (LibAt w2 (Fr w1.heap.size w2.heap.size) B m homeL ∧ Keep No w w2 ∧ w.heap.size ≤ w1.heap.size)) (by
    rintro e w2 ⟨B, m, rfl, hl, hk⟩
    exact ⟨B, m, rfl, hl, h1.out.2.trans hk, h1.out.2.size⟩)
  clear h1
  go_wp2_with fail
  refine hof.mono ?_
  clear hof
  rintro e w2 ⟨B, m, rfl, h2⟩
  go_wp2_with fail
  have hh3 := (home_any w2).mono (R' := fun e w3 => ∃ a3 c3, e = .returned (.slice a3 2 c3) ∧ RowKit.Hid (Rd (.slice procSh) w3 (Fr w2.heap.size w3.heap.size) [.slice a3 2 c3] homeL ∧ LibAt w3 (Fr w1.heap.size w2.heap.size) B m homeL ∧ Keep No w w3 ∧ w.heap.size ≤ w1.heap.size ∧ w.heap.size ≤ w2.heap.size)) (by
    rintro e w3 ⟨a3, c3, rfl, h, hk⟩
    exact ⟨a3, c3, rfl, h, h2.out.1.keep hk fun _ _ x => x, h2.out.2.1.trans hk, h2.out.2.2, h2.out.2.1.size⟩)
  clear h2
  refine hh3.mono ?_
  clear hh3
  rintro e w3 ⟨a3, c3, rfl, h3⟩
  have hro := (rLibOf_any w3 _ a3 c3 homeL h3.out.1 homeL_home homeL_names (by decide)).mono (R' := fun e w4 => ∃ R, e = .returned (.tuple #[.pointer (some ⟨R, 0, none⟩), .int .i64 0, .int .i64 0]) ∧ RowKit.Hid (∃ a c L, LibsW w.heap.size w4 B m R a c L ∧ Keep No w w4)) (by
    rintro e w4 ⟨R, a, c, L, rfl, hl, hp, hR, hk⟩
    obtain ⟨h31, h32, h33, h34, h35⟩ := h3.out
    refine ⟨R, rfl, a, c, L, ⟨⟨_, h32.keep hk fun _ _ x => x, fun k hk => Nat.le_trans h34 hk.1⟩, ⟨_, hl, fun k hk' => ?_⟩, hp, Nat.le_trans h33.size hR⟩, h33.trans hk⟩
    rcases hk' with ⟨x, -⟩ | ⟨x, -⟩
    · exact Nat.le_trans h35 x.1
    · exact Nat.le_trans h33.size x.1)
  clear h3
  go_wp2_with fail
  refine hro.mono ?_
  clear hro
  rintro e w4 ⟨R, rfl, h4⟩
  go_wp2_with (go_at_call 12; refine (num9_any _ _).mono ?_; rintro e w20 ⟨rfl, rfl⟩)
  go_ret2
  obtain ⟨a, c, L, h5, h6⟩ := h4.out
  exact ⟨B, m, R, a, c, L, rfl, h5, h6⟩
end Go.Proofs.YtpjcebajkfeacaaGreatDoor
namespace Go.Proofs.YtpjcebajkfeacaaGreatDoor
open Go Go.RowKit Go.Deep
def liveQ : Req := mkReq 3 300 payN [mkVal 1 1 noText, mkVal 2 0 ⟨#[97]⟩]
def livePl : Plan := mkPlan liveQ 1 (mkFp [⟨#[114, 47, 49]⟩] [⟨#[97, 99, 99, 116, 47, 97]⟩, tN])
theorem liveQ_check : liveQ.check = 0 := by kernel_rfl
theorem liveQ_get : reqGet liveQ.bytes = (liveQ, 0, 0) := by kernel_rfl
theorem liveQ_len : liveQ.bytes.length = 13 := by kernel_rfl
theorem liveQ_judge : judgeL homeL liveQ 9 = (livePl, 0) := by kernel_rfl
theorem liveQ_print : txt liveQ.print = ⟨#[51, 32, 51, 48, 48, 32, 112, 97, 121, 32, 49, 32, 34, 97, 34]⟩ := by kernel_rfl
theorem liveQ_eq : liveQ.eqb liveQ = true := by kernel_rfl
theorem liveQ_ne : liveQ.eqb req0 = false := by kernel_rfl
theorem liveQ_rd {w : World} {X : Nat} (h : w.heap[X]? = some (.cells #[.int .i64 1, .int .i64 1, .string ⟨#[]⟩, .int .i64 2, .int .i64 0, .string ⟨#[97]⟩] 96 (0, 0))) : Rd requestSh w (One X) [.int .i64 3, .int .u64 300, .string payN, .slice (some ⟨X, 0, none⟩) 2 2] liveQ := by
  have hv : Rd (.slice valueSh) w (One X) [.slice (some ⟨X, 0, none⟩) 2 2] liveQ.args := by
    refine rd_block (s := valueSh) (S := One X) h rfl liveQ.args 2 2 rfl (by omega) (by omega) fun i hi => ?_
    have : i = 0 ∨ i = 1 := by have : i < 2 := hi; omega
    have e0 : (Lit.int .i64 0).wf = true := by decide
    have e1 : (Lit.int .i64 1).wf = true := by decide
    have e2 : (Lit.int .i64 2).wf = true := by decide
    rcases this with rfl | rfl
    · exact ⟨[.int .i64 1], _, rfl, ⟨rfl, e1⟩, [.int .i64 1], _, rfl, ⟨rfl, e1⟩, [.string ⟨#[]⟩], [], rfl, ⟨rfl, by rw [maxLen_is]; show (0 : Nat) ≤ _; omega⟩, rfl⟩
    · exact ⟨[.int .i64 2], _, rfl, ⟨rfl, e2⟩, [.int .i64 0], _, rfl, ⟨rfl, e0⟩, [.string ⟨#[97]⟩], [], rfl, ⟨rfl, by rw [maxLen_is]; show (1 : Nat) ≤ _; omega⟩, rfl⟩
  exact ⟨[.int .i64 3], _, rfl, ⟨rfl, by decide⟩, [.int .u64 300], _, rfl, ⟨rfl, by decide⟩, [.string payN], _, rfl, ⟨rfl, by rw [maxLen_is]; show (3 : Nat) ≤ _; omega⟩, [.slice (some ⟨X, 0, none⟩) 2 2], [], rfl, hv, rfl⟩
theorem req0_rd (w : World) (S : Nat → Prop) : Rd requestSh w S [.int .i64 0, .int .u64 0, .string ⟨#[]⟩, .slice none 0 0] req0 :=
  ⟨[.int .i64 0], _, rfl, ⟨rfl, by decide⟩, [.int .u64 0], _, rfl, ⟨rfl, by decide⟩, [.string ⟨#[]⟩], _, rfl, ⟨rfl, by rw [maxLen_is]; show (0 : Nat) ≤ _; omega⟩, [.slice none 0 0], [], rfl, rd_nil _ _ _, rfl⟩
theorem liveW_rd {w : World} {Y : Nat} (h : w.heap[Y]? = some (.cells #[.string ⟨#[97, 99, 99, 116, 47, 97]⟩, .string ⟨#[110]⟩] 9 (0, 0))) : Rd (.slice .str) w (One Y) [.slice (some ⟨Y, 0, none⟩) 2 2] livePl.writes := by
  refine rd_block (s := .str) (S := One Y) h rfl livePl.writes 2 2 rfl (by omega) (by omega) fun i hi => ?_
  have : i = 0 ∨ i = 1 := by have : i < 2 := hi; omega
  rcases this with rfl | rfl
  · exact ⟨rfl, by rw [maxLen_is]; show (6 : Nat) ≤ _; omega⟩
  · exact ⟨rfl, by rw [maxLen_is]; show (1 : Nat) ≤ _; omega⟩
structure LiveW (w : World) (X Q : Nat) (W : World) : Prop where
  keep : Keep No w W
  tab : Tab W
  q : W.heap[Q]? = some (.cells #[.int .i64 3, .int .u64 300, .string payN, .slice (some ⟨X, 0, none⟩) 2 2] 29 (0, 0))
  x : W.heap[X]? = some (.cells #[.int .i64 1, .int .i64 1, .string ⟨#[]⟩, .int .i64 2, .int .i64 0, .string ⟨#[97]⟩] 96 (0, 0))
theorem LiveW.more {w : World} {X Q : Nat} {W W' : World} (h : LiveW w X Q W) (hk : Keep No W W') : LiveW w X Q W' :=
  ⟨h.keep.trans hk, h.tab.keep hk, hk.blk h.q (fun x => x), hk.blk h.x (fun x => x)⟩
structure LivePW (w : World) (X P : Nat) (a4 : Option Addr) (c4 : Nat) (a5 : Option Addr) (c5 : Nat) (a6 : Option Addr) (c6 : Nat) (W : World) : Prop where
  live : LiveW w X (X + 1) W
  plan : W.heap[P]? = some (.cells #[.int .i64 3, .int .u64 300, .string ⟨#[112, 97, 121]⟩, .slice a4 2 c4, .int .i64 1, .slice a5 1 c5, .slice a6 2 c6] 50 (0, 0))
  rd : ∃ S, Rd requestSh W S [.int .i64 3, .int .u64 300, .string ⟨#[112, 97, 121]⟩, .slice a4 2 c4] liveQ ∧ Rd (.slice .str) W S [.slice a6 2 c6] livePl.writes
theorem LivePW.more {w : World} {X P : Nat} {a4 : Option Addr} {c4 : Nat} {a5 : Option Addr} {c5 : Nat} {a6 : Option Addr} {c6 : Nat} {W W' : World} (h : LivePW w X P a4 c4 a5 c5 a6 c6 W) (hk : Keep No W W') : LivePW w X P a4 c4 a5 c5 a6 c6 W' := by
  obtain ⟨S, h1, h2⟩ := h.rd
  exact ⟨h.live.more hk, hk.blk h.plan (fun x => x), S, h1.agree _ hk.agreeNo, h2.agree _ hk.agreeNo⟩
set_option maxRecDepth 10000 in
set_option maxHeartbeats 2000000 in
theorem live9_any (w : World) (ht : Tab w) : Calls Tryz.prog 13 #[] w fun e w' => e = .returned (.bool true) ∧ Keep No w w' := by
  have hl := (libs_any w).mono (R' := fun e w1 => ∃ B R, e = .returned (.tuple #[.pointer (some ⟨B, 0, none⟩), .pointer (some ⟨R, 0, none⟩)]) ∧ RowKit.Hid (∃ S m, LibAt w1 S B m homeL ∧ Keep No w w1 ∧ Tab w)) (by
    rintro e w1 ⟨B, m, R, a, c, L, rfl, h⟩
    obtain ⟨⟨⟨S, h1, h2⟩, -⟩, hk⟩ := h.out
    exact ⟨B, R, rfl, S, m, h1, hk, ht⟩)
  clear ht
  go_enter Tryz.func13, Tryz.ntmps13
  go_wp2_with fail
  refine hl.mono ?_
  clear hl
  rintro e w1 ⟨B, R, rfl, h1⟩
  go_wp2_with fail
  have K2 := ((Keep.refl No w1).alloc (.cells #[.int .i64 1, .int .i64 1, .string ⟨#[]⟩, .int .i64 2, .int .i64 0, .string ⟨#[97]⟩] 96)).alloc (.cells #[.int .i64 3, .int .u64 300, .string ⟨#[112, 97, 121]⟩, .slice (some ⟨w1.heap.size, 0, none⟩) 2 2] 29)
  have x2 := blk_alloc (o' := .cells #[.int .i64 3, .int .u64 300, .string ⟨#[112, 97, 121]⟩, .slice (some ⟨w1.heap.size, 0, none⟩) 2 2] 29) (blk_new w1 (.cells #[.int .i64 1, .int .i64 1, .string ⟨#[]⟩, .int .i64 2, .int .i64 0, .string ⟨#[97]⟩] 96))
  have y2 := blk_new (w1.alloc (.cells #[.int .i64 1, .int .i64 1, .string ⟨#[]⟩, .int .i64 2, .int .i64 0, .string ⟨#[97]⟩] 96)) (.cells #[.int .i64 3, .int .u64 300, .string ⟨#[112, 97, 121]⟩, .slice (some ⟨w1.heap.size, 0, none⟩) 2 2] 29)
  rw [World.size_alloc] at y2
  generalize ((w1.alloc (.cells #[.int .i64 1, .int .i64 1, .string ⟨#[]⟩, .int .i64 2, .int .i64 0, .string ⟨#[97]⟩] 96)).alloc (.cells #[.int .i64 3, .int .u64 300, .string ⟨#[112, 97, 121]⟩, .slice (some ⟨w1.heap.size, 0, none⟩) 2 2] 29)) = w2 at *
  obtain ⟨X, hX⟩ : ∃ X, w1.heap.size = X := ⟨_, rfl⟩
  rw [hX] at x2 y2 ⊢
  have H2 : RowKit.Hid (LiveW w X (X + 1) w2 ∧ ∃ S m, LibAt w2 S B m homeL) := by
    obtain ⟨S, m, h, hk, ht⟩ := h1.out
    exact ⟨⟨hk.trans K2, (ht.keep hk).keep K2, y2, x2⟩, S, m, h.keep K2 fun _ _ x => x⟩
  clear h1 hX K2 x2 y2
  have hput := (rqPut_any w2 (One X) No (.slice none 0 0) [] (rd_nil _ _ _) (by simp) _ liveQ (liveQ_rd H2.out.1.x) (by decide)).mono (R' := fun e w3 => ∃ a c, e = .returned (.tuple #[.slice a 13 c, .int .i64 0]) ∧ RowKit.Hid (OwnB w2 w3 (.slice a 13 c) liveQ.bytes ∧ LiveW w X (X + 1) w3 ∧ ∃ S m, LibAt w3 S B m homeL)) (by
    rintro e w3 ⟨a, n, c, rfl, ho⟩
    rw [if_pos liveQ_check, List.nil_append] at ho
    obtain rfl : n = 13 := ho.len.trans liveQ_len
    rw [liveQ_check]
    obtain ⟨S, m, h⟩ := H2.out.2
    exact ⟨a, c, rfl, ho, H2.out.1.more ho.2, S, m, h.keep ho.2 fun _ _ x => x⟩)
  refine hput.mono ?_
  clear hput H2
  rintro e w3 ⟨a3, c3, rfl, H3⟩
  go_wp2_with fail
  obtain ⟨S3, m3, hl3⟩ := H3.out.2.2
  have hacc := (accept_any w3 S3 _ B m3 homeL hl3 (.slice a3 13 c3) liveQ.bytes H3.out.1.rd (by rw [liveQ_get]; exact ⟨by decide, by decide, by decide⟩) 9 H3.out.2.1.tab).mono (R' := fun e w4 => ∃ a4 c4 a5 c5 a6 c6, e = .returned (.tuple #[.agg #[.int .i64 3, .int .u64 300, .string ⟨#[112, 97, 121]⟩, .slice a4 2 c4, .int .i64 1, .slice a5 1 c5, .slice a6 2 c6], .int .i64 0]) ∧
      RowKit.Hid (∃ S, Rd requestSh w4 S [.int .i64 3, .int .u64 300, .string ⟨#[112, 97, 121]⟩, .slice a4 2 c4] liveQ ∧ Rd (.slice .str) w4 S [.slice a6 2 c6] livePl.writes ∧ LiveW w X (X + 1) w4)) (by
    rintro e w4 ⟨cs, rfl, hr, hk⟩
    rw [liveQ_get, if_neg (by decide), liveQ_judge] at hr ⊢
    obtain ⟨a4, c4, a5, c5, a6, c6, e1, h4, h5, h6, n1, n2, n3, n4⟩ := plan_cells hr
    obtain ⟨cs⟩ := cs
    simp only at e1
    subst e1
    exact ⟨a4, c4, a5, c5, a6, c6, rfl, _, ⟨[.int .i64 3], _, rfl, ⟨rfl, n1⟩, [.int .u64 300], _, rfl, ⟨rfl, n2⟩, [.string payN], _, rfl, ⟨rfl, n3⟩, [.slice a4 2 c4], [], rfl, h4, rfl⟩, h6, H3.out.2.1.more hk⟩)
  clear hl3
  refine hacc.mono ?_
  clear hacc H3
  rintro e w4 ⟨a4, c4, a5, c5, a6, c6, rfl, H4⟩
  go_upto_region 5 with fail
  have K5 := (Keep.refl No w4).alloc (.cells #[.int .i64 3, .int .u64 300, .string ⟨#[112, 97, 121]⟩, .slice a4 2 c4, .int .i64 1, .slice a5 1 c5, .slice a6 2 c6] 50)
  have z5 := blk_new w4 (.cells #[.int .i64 3, .int .u64 300, .string ⟨#[112, 97, 121]⟩, .slice a4 2 c4, .int .i64 1, .slice a5 1 c5, .slice a6 2 c6] 50)
  generalize (w4.alloc (.cells #[.int .i64 3, .int .u64 300, .string ⟨#[112, 97, 121]⟩, .slice a4 2 c4, .int .i64 1, .slice a5 1 c5, .slice a6 2 c6] 50)) = w5 at *
  generalize w4.heap.size = P at *
  have H5 : RowKit.Hid (LivePW w X P a4 c4 a5 c5 a6 c6 w5) := by
    obtain ⟨S, h1, h2, h3⟩ := H4.out
    exact ⟨h3.more K5, z5, S, h1.agree _ K5.agreeNo, h2.agree _ K5.agreeNo⟩
  clear H4 K5 z5
  have q5 := blk_cell H5.out.live.q
  go_wp2_with fail
  have hpr := (rqPrint_any w5 (One X) _ liveQ (liveQ_rd H5.out.live.x) (by decide) H5.out.live.tab).mono (R' := fun e w6 => e = .returned (.tuple #[.string ⟨#[51, 32, 51, 48, 48, 32, 112, 97, 121, 32, 49, 32, 34, 97, 34]⟩, .int .i64 0]) ∧ RowKit.Hid (LivePW w X P a4 c4 a5 c5 a6 c6 w6)) (by
    rintro e w6 ⟨rfl, hk⟩
    rw [liveQ_check, if_pos rfl, liveQ_print]
    exact ⟨rfl, H5.out.more hk⟩)
  refine hpr.mono ?_
  clear hpr H5 q5
  rintro e w6 ⟨rfl, H6⟩
  have q6 := blk_cell H6.out.live.q
  have p6 := blk_cell H6.out.plan
  go_wp2_with (first | (go_at_call 12; refine (num9_any _ _).mono ?_; rintro e w20 ⟨rfl, rfl⟩))
  have K7 := (Keep.refl No w20).alloc (.cells #[.string ⟨#[97, 99, 99, 116, 47, 97]⟩, .string ⟨#[110]⟩] 9)
  have y7 := blk_new w20 (.cells #[.string ⟨#[97, 99, 99, 116, 47, 97]⟩, .string ⟨#[110]⟩] 9)
  generalize (w20.alloc (.cells #[.string ⟨#[97, 99, 99, 116, 47, 97]⟩, .string ⟨#[110]⟩] 9)) = w7 at *
  generalize w20.heap.size = Y at *
  obtain ⟨S7, -, hr7⟩ := (H6.out.more K7).rd
  have htx := (rTexts_any w7 S7 _ _ _ _ _ hr7 (liveW_rd y7)).mono (R' := fun e w8 => e = .returned (.bool true) ∧ RowKit.Hid (LivePW w X P a4 c4 a5 c5 a6 c6 w8)) (by
    rintro e w8 ⟨n, rfl, rfl⟩
    exact ⟨by simp, H6.out.more (K7.trans ((Keep.refl No w7).drewN n))⟩)
  clear hr7 H6 K7 y7 q6 p6
  refine htx.mono ?_
  clear htx
  rintro e w8 ⟨rfl, H8⟩
  have q8 := blk_cell H8.out.live.q
  have p8 := blk_cell H8.out.plan
  obtain ⟨S8, hq8, -⟩ := H8.out.rd
  have he1 := (rqEqual_any w8 S8 (One X) _ _ liveQ liveQ hq8 (liveQ_rd H8.out.live.x)).mono (R' := fun e w9 => e = .returned (.bool true) ∧ w9.heap[X + 1]? = some (.cells #[.int .i64 3, .int .u64 300, .string payN, .slice (some ⟨X, 0, none⟩) 2 2] 29 (0, 0)) ∧ RowKit.Hid (LivePW w X P a4 c4 a5 c5 a6 c6 w9)) (by
    rintro e w9 ⟨rfl, hk⟩
    have h := H8.out.more hk
    exact ⟨by rw [liveQ_eq], h.live.q, h⟩)
  clear hq8
  go_wp2_with (first | (go_at_call 12; refine (num9_any _ _).mono ?_; rintro e w20 ⟨rfl, rfl⟩))
  refine he1.mono ?_
  clear he1 q8 p8 H8
  rintro e w9 ⟨rfl, x9, H9⟩
  have q9 := blk_cell x9
  have he2 := (rqEqual_any w9 (One X) No _ _ liveQ req0 (liveQ_rd H9.out.live.x) (req0_rd _ _)).mono (R' := fun e w10 => e = .returned (.bool false) ∧ RowKit.Hid (Keep No w w10)) (by
    rintro e w10 ⟨rfl, hk⟩
    exact ⟨by rw [liveQ_ne], H9.out.live.keep.trans hk⟩)
  go_wp2_with fail
  refine he2.mono ?_
  clear he2 H9 q9
  rintro e w10 ⟨rfl, H10⟩
  go_wp2_with fail
  go_ret
  exact ⟨rfl, H10.out⟩
end Go.Proofs.YtpjcebajkfeacaaGreatDoor
