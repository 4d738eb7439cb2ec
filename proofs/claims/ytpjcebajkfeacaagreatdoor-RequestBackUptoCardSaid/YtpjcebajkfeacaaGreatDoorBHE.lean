/-
  Parts of what is proved for this claim; each declaration is one of the seat's texts.
-/
import Derived.Test.YtpjcebajkfeacaaGreatDoorBGA
import Derived.Test.YtpjcebajkfeacaaGreatDoorBGC
import Derived.Test.YtpjcebajkfeacaaGreatDoorBGF
import Derived.Test.YtpjcebajkfeacaaGreatDoorBGU
import Derived.Test.YtpjcebajkfeacaaGreatDoorBHA
import Derived.Test.YtpjcebajkfeacaaGreatDoorBHB
import Derived.Test.YtpjcebajkfeacaaGreatDoorBHD
import Derived.WalkKit
import Derived.WalkSpells
import Derived.WalkLawsBesides
import Derived.ProofKit
import Derived.Deep.Slices
import Derived.Deep.AppendSrc
import Derived.Lib.Hide
import Derived.Lib.ItoaNum
import Derived.Lib.Join
import Derived.Still
import Derived.StillTactics
import Derived.Recover
import Derived.Defers
import Derived.Deep.QuietTactic
import Derived.BigQuiet
import Derived.Handy
import Derived.Laws.Bits64b
import Derived.Lib.Zigzag
import Derived.OwnWalk
import Derived.Deep.DeepCutAuto
import Derived.Deep.LoopGhost
import Derived.Lib.Bytealg
import Derived.Laws.Externs
import Derived.Laws.CopyRow
import Derived.Laws.IdiomCopy
import Derived.Maps.OwnSet
import Derived.Maps.RangeWalk
import Derived.Shelf.SortM.Plain
import Derived.Shelf.SortM.SortNone
import Derived.Ground.SlgmProg
import Derived.Deep.WholeRow
import Derived.Maps.OwnOps
import Derived.Maps.Views
set_option linter.unusedVariables false
set_option linter.unusedSimpArgs false
namespace Go.Proofs.YtpjcebajkfeacaaGreatDoor
open Go Go.RowKit Go.Deep
theorem procs_get {w : World} {S : Nat → Prop} {a : Option Addr} {n c : Nat} {l : List Prc} (h : Rd (.slice procSh) w S [.slice a n c] l) (i : Nat) (hi : i < l.length) :
    ∃ b off a1 c1 a2 c2 a3 c3 a4 c4 a5 c5, a = some ⟨b, off, none⟩ ∧ w.cell? ⟨b, off + i * 8, none⟩ = some (.string l[i].name) ∧ w.cell? ⟨b, off + i * 8 + 1, none⟩ = some (.slice a1 l[i].kinds.length c1) ∧ w.cell? ⟨b, off + i * 8 + 2, none⟩ = some (.bool l[i].dep) ∧
      w.cell? ⟨b, off + i * 8 + 3, none⟩ = some (.slice a2 l[i].reads.length c2) ∧ w.cell? ⟨b, off + i * 8 + 4, none⟩ = some (.slice a3 l[i].writes.length c3) ∧ w.cell? ⟨b, off + i * 8 + 5, none⟩ = some (.int .i64 l[i].pgm.args) ∧ w.cell? ⟨b, off + i * 8 + 6, none⟩ = some (.slice a4 l[i].pgm.consts.length c4) ∧ w.cell? ⟨b, off + i * 8 + 7, none⟩ = some (.slice a5 l[i].pgm.code.length c5) ∧
      Rd procSh w S [.string l[i].name, .slice a1 l[i].kinds.length c1, .bool l[i].dep, .slice a2 l[i].reads.length c2, .slice a3 l[i].writes.length c3, .int .i64 l[i].pgm.args, .slice a4 l[i].pgm.consts.length c4, .slice a5 l[i].pgm.code.length c5] l[i] := by
  obtain ⟨b, off, row, ha, -, hb, hS, -, hrow, hx⟩ := h.elem' i hi
  obtain ⟨a1, c1, a2, c2, a3, c3, a4, c4, a5, c5, rfl, -⟩ := proc_cells hx
  have p0 := (hrow 0 (by simp)).1
  have p1 := (hrow 1 (by simp)).1
  have p2 := (hrow 2 (by simp)).1
  have p3 := (hrow 3 (by simp)).1
  have p4 := (hrow 4 (by simp)).1
  have p5 := (hrow 5 (by simp)).1
  have p6 := (hrow 6 (by simp)).1
  have p7 := (hrow 7 (by simp)).1
  simp [Sh.size] at p0 p1 p2 p3 p4 p5 p6 p7
  exact ⟨b, off, a1, c1, a2, c2, a3, c3, a4, c4, a5, c5, ha, p0, p1, p2, p3, p4, p5, p6, p7, hx⟩
def MadeLib (w : World) (L : List Prc) (e : Ending) (w' : World) : Prop :=
  ∃ B m, e = .returned (.tuple #[.pointer (some ⟨B, 0, none⟩), .int .i64 0, .int .i64 0]) ∧ LibAt w' (Fr w.heap.size w'.heap.size) B m L ∧ Keep No w w'
theorem findP_take (L : List Prc) (hd : (L.map Prc.name).Nodup) (k : Nat) (hk : k < L.length) : findP (L.take k) L[k].name = none := by
  unfold findP
  rw [List.find?_eq_none]
  intro p hp
  obtain ⟨j, hj, rfl⟩ := List.getElem_of_mem hp
  have hjk : j < k := by simp at hj; omega
  simp only [List.getElem_take, decide_eq_true_eq]
  intro e
  have h1 : (L.map Prc.name)[j]'(by simp; omega) = (L.map Prc.name)[k]'(by simpa using hk) := by simpa using e
  exact List.pairwise_iff_getElem.1 hd j k (by simp; omega) (by simpa using hk) hjk h1
set_option maxRecDepth 10000 in
set_option maxHeartbeats 4000000 in
theorem libOf_any (w : World) (S : Nat → Prop) (a : Option Addr) (c : Nat) (L : List Prc) (h : Rd (.slice procSh) w S [.slice a L.length c] L) (hh : ∀ p ∈ L, p.Home) (hd : (L.map Prc.name).Nodup) (hL : L.length ≤ 60) :
    Calls Tryz.prog 71 #[.slice a L.length c] w (MadeLib w L) := by
  have K0 : Keep No w ((w.alloc (.map #[] 0)).alloc (.cells #[.map (some w.heap.size)] 194)) := ((Keep.refl No w).alloc _).alloc _
  have hA : LibAt ((w.alloc (.map #[] 0)).alloc (.cells #[.map (some w.heap.size)] 194)) (Fr w.heap.size (w.heap.size + 2)) (w.heap.size + 1) w.heap.size [] := by
    have h1 := blk_new (w.alloc (.map #[] 0)) (.cells #[.map (some w.heap.size)] 194)
    simp only [World.size_alloc] at h1
    refine ⟨h1, ⟨by omega, by omega⟩, by omega, ?_, (fun p hp => by cases hp), Nat.zero_le _⟩
    exact (LibMap.new w (fun k => Fr w.heap.size (w.heap.size + 2) k ∧ k ≠ w.heap.size + 1) ⟨⟨by omega, by omega⟩, by omega⟩).keep ((Keep.refl No _).alloc _) (fun _ _ x => x)
  have HX := Lib.hid (And.intro h (And.intro hh hd))
  have HA := Lib.hid (And.intro K0 hA)
  clear h hh hd K0 hA
  have hmm := @run_makeMap Tryz.prog
  go_enter Tryz.func71, Tryz.ntmps71
  go_wp2_with fail
  go_loopg [14] L.length (fun g i wr => ∃ k : Nat, k ≤ L.length ∧ g = L.length - k ∧ i = .int .i64 k ∧ RowKit.Hid (LibAt wr (Fr w.heap.size wr.heap.size) (w.heap.size + 1) w.heap.size (L.take k) ∧ Keep No w wr))
  case atStart => exact ⟨0, by omega, by omega, rfl, ⟨by simpa using HA.out.2, HA.out.1⟩⟩
  case round =>
    obtain ⟨k, hk, rfl, rfl, HR⟩ := hrel
    by_cases hlt : k < L.length
    · have j1 : (k : Int) < L.length := by omega
      have j0 : (0 : Int) ≤ k := by omega
      have j3 : (k : Int) ≤ 60 := by omega
      obtain ⟨b, off, a1, c1, a2, c2, a3, c3, a4, c4, a5, c5, rfl, p0, p1, p2, p3, p4, p5, p6, p7, hrk⟩ := procs_get (HX.out.1.agree _ HR.out.2.agreeNo) k hlt
      have hadd := (add_lib _ _ _ _ _ (L.take k) (HR.out.1.keep ((Keep.refl No wr).alloc (.cells #[.string L[k].name, .slice a1 L[k].kinds.length c1, .bool L[k].dep, .slice a2 L[k].reads.length c2, .slice a3 L[k].writes.length c3, .int .i64 L[k].pgm.args, .slice a4 L[k].pgm.consts.length c4, .slice a5 L[k].pgm.code.length c5] 130)) (fun _ _ x => x)) _ L[k] (hrk.agree procSh ((Keep.refl No wr).alloc (.cells #[.string L[k].name, .slice a1 L[k].kinds.length c1, .bool L[k].dep, .slice a2 L[k].reads.length c2, .slice a3 L[k].writes.length c3, .int .i64 L[k].pgm.args, .slice a4 L[k].pgm.consts.length c4, .slice a5 L[k].pgm.code.length c5] 130)).agreeNo) (HX.out.2.1 _ (List.getElem_mem hlt)) (findP_take L HX.out.2.2 k hlt) (by simp; omega)).mono (R' := fun e w2 => e = .returned (.int .i64 0) ∧ RowKit.Hid (LibAt w2 (Fr w.heap.size w2.heap.size) (w.heap.size + 1) w.heap.size (L.take (k + 1)) ∧ Keep No w w2)) (by
        rintro e w2 ⟨rfl, hl, hk2⟩
        have hs := HR.out.2.size
        have hs2 := hk2.size
        simp only [World.size_alloc] at hs2
        refine ⟨rfl, ?_, (HR.out.2.alloc _).then hk2 fun i hi e => by have : i = w.heap.size := e; omega⟩
        rw [List.take_succ_eq_append_getElem hlt]
        have hsub : ∀ k, (Fr w.heap.size wr.heap.size k ∨ (wr.heap.size + 1 ≤ k ∧ k < w2.heap.size)) → Fr w.heap.size w2.heap.size k := fun k hk => hk.elim (fun h => ⟨h.1, by have := h.2; omega⟩) (fun h => ⟨by omega, h.2⟩)
        simp only [World.size_alloc] at hl
        obtain ⟨x1, x2, x3, ⟨D, ho, hs', hm, hall⟩, x5, x6⟩ := hl
        refine ⟨x1, hsub _ x2, x3, ⟨D, ho, ⟨hsub _ hs'.1, hs'.2⟩, hm, fun n => ?_⟩, x5, x6⟩
        have := hall n
        cases hf : findP (L.take k ++ [L[k]]) n with
        | none => rw [hf] at this; exact this
        | some q =>
          rw [hf] at this
          obtain ⟨a, ds, b, c⟩ := this
          exact ⟨a, ds, b, c.mono procSh fun k _ hk => ⟨⟨hsub k hk.1.1, hk.1.2⟩, hk.2⟩⟩)
      have HK := Lib.hid hlt
      clear hrk
      generalize L[k] = p at *
      clear hlt hk
      go_wp2_with (go_at_call 132; refine hadd.mono ?_; clear hadd; rintro e w2 ⟨rfl, H2⟩)
      go_roundg (L.length - (k + 1))
      case measure => have := HK.out; omega
      case rel => exact ⟨k + 1, HK.out, rfl, by simp, H2.out⟩
    · obtain rfl : k = L.length := by omega
      have hl := HR.out.1
      rw [List.take_length] at hl
      have HL := Lib.hid (And.intro hl HR.out.2)
      have j1 : ¬ (L.length : Int) < L.length := by omega
      clear hl hlt hk
      go_wp2_with fail
      go_ret3
      exact ⟨_, _, rfl, HL.out.1, HL.out.2⟩
end Go.Proofs.YtpjcebajkfeacaaGreatDoor
namespace Go.Proofs.YtpjcebajkfeacaaGreatDoor
open Go Go.RowKit Go.Deep
def depN : ByteArray := ⟨#[100, 101, 112]⟩
def payN : ByteArray := ⟨#[112, 97, 121]⟩
def tR : ByteArray := ⟨#[114, 47, 123, 48, 125]⟩
def tA : ByteArray := ⟨#[97, 99, 99, 116, 47, 123, 49, 125]⟩
def tN : ByteArray := ⟨#[110]⟩
def retG : Pgm := mkPgm 2 [] [((31 : Int), (0 : Int), ())]
def depP : Prc := mkPrc depN [3, 3] true [] [] retG
def payP : Prc := mkPrc payN [1, 2] false [tR] [tA, tN] retG
def homeL : List Prc := [depP, payP]
theorem depP_home : depP.Home := by
  refine ⟨⟨by kernel_rfl, by decide, ?_, fun _ => ⟨rfl, rfl⟩, by decide, by decide, fun i hi => absurd hi (Nat.not_lt_zero _), fun i hi => absurd hi (Nat.not_lt_zero _), rfl⟩, rfl, rfl⟩
  intro i hi
  have : i = 0 ∨ i = 1 := by have : i < 2 := hi; omega
  rcases this with rfl | rfl <;> rfl
theorem tR_ok : tmplOk tR 2 = true := by kernel_rfl
theorem tA_ok : tmplOk tA 2 = true := by kernel_rfl
theorem tN_ok : tmplOk tN 2 = true := by kernel_rfl
theorem payP_home : payP.Home := by
  refine ⟨⟨by kernel_rfl, by decide, ?_, (fun h => by cases h), by decide, by decide, ?_, ?_, rfl⟩, rfl, rfl⟩
  · intro i hi
    have : i = 0 ∨ i = 1 := by have : i < 2 := hi; omega
    rcases this with rfl | rfl <;> rfl
  · intro i hi
    have : i = 0 := by have : i < 1 := hi; omega
    subst this
    exact tR_ok
  · intro i hi
    have : i = 0 ∨ i = 1 := by have : i < 2 := hi; omega
    rcases this with rfl | rfl
    · exact tA_ok
    · exact tN_ok
theorem homeL_home : ∀ p ∈ homeL, p.Home := fun p hp => by
  simp only [homeL, List.mem_cons, List.not_mem_nil, or_false] at hp
  rcases hp with rfl | rfl
  · exact depP_home
  · exact payP_home
theorem homeL_names : (homeL.map Prc.name).Nodup := by
  show [depN, payN].Nodup
  refine List.pairwise_cons.2 ⟨fun x hx => ?_, List.pairwise_singleton _ _⟩
  simp at hx
  subst hx
  intro e
  have := congrArg (fun b : ByteArray => b.data[0]!) e
  simp [depN, payN] at this
theorem home_blocks (w : World) : ∃ W, W = (((((((w.alloc (.cells #[.int .i64 31, .int .i64 0] 197)).alloc (.cells #[.int .i64 2, .slice none 0 0, .slice (some ⟨w.heap.size, 0, none⟩) 1 1] 128)).alloc (.cells #[.int .i64 3, .int .i64 3] 3)).alloc (.cells #[.int .i64 1, .int .i64 2] 3)).alloc (.cells #[.string tR] 9)).alloc (.cells #[.string tA, .string tN] 9)).alloc (.cells #[.string depN, .slice (some ⟨w.heap.size + 1 + 1, 0, none⟩) 2 2, .bool true, .slice none 0 0, .slice none 0 0, .int .i64 2, .slice none 0 0, .slice (some ⟨w.heap.size, 0, none⟩) 1 1, .string payN, .slice (some ⟨w.heap.size + 1 + 1 + 1, 0, none⟩) 2 2, .bool false, .slice (some ⟨w.heap.size + 1 + 1 + 1 + 1, 0, none⟩) 1 1, .slice (some ⟨w.heap.size + 1 + 1 + 1 + 1 + 1, 0, none⟩) 2 2, .int .i64 2, .slice none 0 0, .slice (some ⟨w.heap.size, 0, none⟩) 1 1] 130)) ∧ W.heap[w.heap.size]? = some (.cells #[.int .i64 31, .int .i64 0] 197 (0, 0)) ∧ W.heap[w.heap.size + 1 + 1]? = some (.cells #[.int .i64 3, .int .i64 3] 3 (0, 0)) ∧ W.heap[w.heap.size + 1 + 1 + 1]? = some (.cells #[.int .i64 1, .int .i64 2] 3 (0, 0)) ∧ W.heap[w.heap.size + 1 + 1 + 1 + 1]? = some (.cells #[.string tR] 9 (0, 0)) ∧ W.heap[w.heap.size + 1 + 1 + 1 + 1 + 1]? = some (.cells #[.string tA, .string tN] 9 (0, 0)) ∧ W.heap[w.heap.size + 1 + 1 + 1 + 1 + 1 + 1]? = some (.cells #[.string depN, .slice (some ⟨w.heap.size + 1 + 1, 0, none⟩) 2 2, .bool true, .slice none 0 0, .slice none 0 0, .int .i64 2, .slice none 0 0, .slice (some ⟨w.heap.size, 0, none⟩) 1 1, .string payN, .slice (some ⟨w.heap.size + 1 + 1 + 1, 0, none⟩) 2 2, .bool false, .slice (some ⟨w.heap.size + 1 + 1 + 1 + 1, 0, none⟩) 1 1, .slice (some ⟨w.heap.size + 1 + 1 + 1 + 1 + 1, 0, none⟩) 2 2, .int .i64 2, .slice none 0 0, .slice (some ⟨w.heap.size, 0, none⟩) 1 1] 130 (0, 0)) ∧ Keep No w W ∧ W.heap.size = w.heap.size + 7 := by
  refine ⟨_, rfl, ?_, ?_, ?_, ?_, ?_, ?_, ?_, by simp⟩
  · have := blk_alloc (o' := .cells #[.string depN, .slice (some ⟨w.heap.size + 1 + 1, 0, none⟩) 2 2, .bool true, .slice none 0 0, .slice none 0 0, .int .i64 2, .slice none 0 0, .slice (some ⟨w.heap.size, 0, none⟩) 1 1, .string payN, .slice (some ⟨w.heap.size + 1 + 1 + 1, 0, none⟩) 2 2, .bool false, .slice (some ⟨w.heap.size + 1 + 1 + 1 + 1, 0, none⟩) 1 1, .slice (some ⟨w.heap.size + 1 + 1 + 1 + 1 + 1, 0, none⟩) 2 2, .int .i64 2, .slice none 0 0, .slice (some ⟨w.heap.size, 0, none⟩) 1 1] 130) (blk_alloc (o' := .cells #[.string tA, .string tN] 9) (blk_alloc (o' := .cells #[.string tR] 9) (blk_alloc (o' := .cells #[.int .i64 1, .int .i64 2] 3) (blk_alloc (o' := .cells #[.int .i64 3, .int .i64 3] 3) (blk_alloc (o' := .cells #[.int .i64 2, .slice none 0 0, .slice (some ⟨w.heap.size, 0, none⟩) 1 1] 128) (blk_new w (.cells #[.int .i64 31, .int .i64 0] 197)))))))
    simpa using this
  · have := blk_alloc (o' := .cells #[.string depN, .slice (some ⟨w.heap.size + 1 + 1, 0, none⟩) 2 2, .bool true, .slice none 0 0, .slice none 0 0, .int .i64 2, .slice none 0 0, .slice (some ⟨w.heap.size, 0, none⟩) 1 1, .string payN, .slice (some ⟨w.heap.size + 1 + 1 + 1, 0, none⟩) 2 2, .bool false, .slice (some ⟨w.heap.size + 1 + 1 + 1 + 1, 0, none⟩) 1 1, .slice (some ⟨w.heap.size + 1 + 1 + 1 + 1 + 1, 0, none⟩) 2 2, .int .i64 2, .slice none 0 0, .slice (some ⟨w.heap.size, 0, none⟩) 1 1] 130) (blk_alloc (o' := .cells #[.string tA, .string tN] 9) (blk_alloc (o' := .cells #[.string tR] 9) (blk_alloc (o' := .cells #[.int .i64 1, .int .i64 2] 3) (blk_new ((w.alloc (.cells #[.int .i64 31, .int .i64 0] 197)).alloc (.cells #[.int .i64 2, .slice none 0 0, .slice (some ⟨w.heap.size, 0, none⟩) 1 1] 128)) (.cells #[.int .i64 3, .int .i64 3] 3)))))
    simpa using this
  · have := blk_alloc (o' := .cells #[.string depN, .slice (some ⟨w.heap.size + 1 + 1, 0, none⟩) 2 2, .bool true, .slice none 0 0, .slice none 0 0, .int .i64 2, .slice none 0 0, .slice (some ⟨w.heap.size, 0, none⟩) 1 1, .string payN, .slice (some ⟨w.heap.size + 1 + 1 + 1, 0, none⟩) 2 2, .bool false, .slice (some ⟨w.heap.size + 1 + 1 + 1 + 1, 0, none⟩) 1 1, .slice (some ⟨w.heap.size + 1 + 1 + 1 + 1 + 1, 0, none⟩) 2 2, .int .i64 2, .slice none 0 0, .slice (some ⟨w.heap.size, 0, none⟩) 1 1] 130) (blk_alloc (o' := .cells #[.string tA, .string tN] 9) (blk_alloc (o' := .cells #[.string tR] 9) (blk_new (((w.alloc (.cells #[.int .i64 31, .int .i64 0] 197)).alloc (.cells #[.int .i64 2, .slice none 0 0, .slice (some ⟨w.heap.size, 0, none⟩) 1 1] 128)).alloc (.cells #[.int .i64 3, .int .i64 3] 3)) (.cells #[.int .i64 1, .int .i64 2] 3))))
    simpa using this
  · have := blk_alloc (o' := .cells #[.string depN, .slice (some ⟨w.heap.size + 1 + 1, 0, none⟩) 2 2, .bool true, .slice none 0 0, .slice none 0 0, .int .i64 2, .slice none 0 0, .slice (some ⟨w.heap.size, 0, none⟩) 1 1, .string payN, .slice (some ⟨w.heap.size + 1 + 1 + 1, 0, none⟩) 2 2, .bool false, .slice (some ⟨w.heap.size + 1 + 1 + 1 + 1, 0, none⟩) 1 1, .slice (some ⟨w.heap.size + 1 + 1 + 1 + 1 + 1, 0, none⟩) 2 2, .int .i64 2, .slice none 0 0, .slice (some ⟨w.heap.size, 0, none⟩) 1 1] 130) (blk_alloc (o' := .cells #[.string tA, .string tN] 9) (blk_new ((((w.alloc (.cells #[.int .i64 31, .int .i64 0] 197)).alloc (.cells #[.int .i64 2, .slice none 0 0, .slice (some ⟨w.heap.size, 0, none⟩) 1 1] 128)).alloc (.cells #[.int .i64 3, .int .i64 3] 3)).alloc (.cells #[.int .i64 1, .int .i64 2] 3)) (.cells #[.string tR] 9)))
    simpa using this
  · have := blk_alloc (o' := .cells #[.string depN, .slice (some ⟨w.heap.size + 1 + 1, 0, none⟩) 2 2, .bool true, .slice none 0 0, .slice none 0 0, .int .i64 2, .slice none 0 0, .slice (some ⟨w.heap.size, 0, none⟩) 1 1, .string payN, .slice (some ⟨w.heap.size + 1 + 1 + 1, 0, none⟩) 2 2, .bool false, .slice (some ⟨w.heap.size + 1 + 1 + 1 + 1, 0, none⟩) 1 1, .slice (some ⟨w.heap.size + 1 + 1 + 1 + 1 + 1, 0, none⟩) 2 2, .int .i64 2, .slice none 0 0, .slice (some ⟨w.heap.size, 0, none⟩) 1 1] 130) (blk_new (((((w.alloc (.cells #[.int .i64 31, .int .i64 0] 197)).alloc (.cells #[.int .i64 2, .slice none 0 0, .slice (some ⟨w.heap.size, 0, none⟩) 1 1] 128)).alloc (.cells #[.int .i64 3, .int .i64 3] 3)).alloc (.cells #[.int .i64 1, .int .i64 2] 3)).alloc (.cells #[.string tR] 9)) (.cells #[.string tA, .string tN] 9))
    simpa using this
  · have := blk_new ((((((w.alloc (.cells #[.int .i64 31, .int .i64 0] 197)).alloc (.cells #[.int .i64 2, .slice none 0 0, .slice (some ⟨w.heap.size, 0, none⟩) 1 1] 128)).alloc (.cells #[.int .i64 3, .int .i64 3] 3)).alloc (.cells #[.int .i64 1, .int .i64 2] 3)).alloc (.cells #[.string tR] 9)).alloc (.cells #[.string tA, .string tN] 9)) (.cells #[.string depN, .slice (some ⟨w.heap.size + 1 + 1, 0, none⟩) 2 2, .bool true, .slice none 0 0, .slice none 0 0, .int .i64 2, .slice none 0 0, .slice (some ⟨w.heap.size, 0, none⟩) 1 1, .string payN, .slice (some ⟨w.heap.size + 1 + 1 + 1, 0, none⟩) 2 2, .bool false, .slice (some ⟨w.heap.size + 1 + 1 + 1 + 1, 0, none⟩) 1 1, .slice (some ⟨w.heap.size + 1 + 1 + 1 + 1 + 1, 0, none⟩) 2 2, .int .i64 2, .slice none 0 0, .slice (some ⟨w.heap.size, 0, none⟩) 1 1] 130)
    simpa using this
  · exact ((((((((Keep.refl No w).alloc _).alloc _).alloc _).alloc _).alloc _).alloc _).alloc _)
theorem rd_block {s : Sh} {w : World} {S : Nat → Prop} {b : Nat} {cs : Array Value} {t : TypeId} (h : w.heap[b]? = some (.cells cs t (0, 0))) (hS : S b) (l : List s.T) (n c : Nat) (hn : n = l.length) (hc : n ≤ c) (hm : c ≤ 1048576)
    (hr : ∀ i (hi : i < l.length), Rd s w S ((cs.toList.drop (0 + i * s.size)).take s.size) l[i]) : Rd (.slice s) w S [.slice (some ⟨b, 0, none⟩) n c] l := by
  subst hn
  exact ⟨some ⟨b, 0, none⟩, c, rfl, hc, by rw [maxLen_is]; omega, (fun h => by cases h), fun i hi => ⟨b, 0, _, rfl, blk_lt h, hS, (hr i hi).length s, RowAt.ofBlock h _ _, hr i hi⟩⟩
theorem rd_nil (s : Sh) (w : World) (S : Nat → Prop) : Rd (.slice s) w S [.slice none 0 0] [] := ⟨none, 0, rfl, Nat.le_refl _, by rw [maxLen_is]; omega, fun _ => ⟨rfl, rfl⟩, fun i hi => absurd hi (by simp)⟩
set_option maxRecDepth 10000 in
theorem home_rd (w : World) : ∃ W, W = (((((((w.alloc (.cells #[.int .i64 31, .int .i64 0] 197)).alloc (.cells #[.int .i64 2, .slice none 0 0, .slice (some ⟨w.heap.size, 0, none⟩) 1 1] 128)).alloc (.cells #[.int .i64 3, .int .i64 3] 3)).alloc (.cells #[.int .i64 1, .int .i64 2] 3)).alloc (.cells #[.string tR] 9)).alloc (.cells #[.string tA, .string tN] 9)).alloc (.cells #[.string depN, .slice (some ⟨w.heap.size + 1 + 1, 0, none⟩) 2 2, .bool true, .slice none 0 0, .slice none 0 0, .int .i64 2, .slice none 0 0, .slice (some ⟨w.heap.size, 0, none⟩) 1 1, .string payN, .slice (some ⟨w.heap.size + 1 + 1 + 1, 0, none⟩) 2 2, .bool false, .slice (some ⟨w.heap.size + 1 + 1 + 1 + 1, 0, none⟩) 1 1, .slice (some ⟨w.heap.size + 1 + 1 + 1 + 1 + 1, 0, none⟩) 2 2, .int .i64 2, .slice none 0 0, .slice (some ⟨w.heap.size, 0, none⟩) 1 1] 130)) ∧ Rd (.slice procSh) W (Fr w.heap.size W.heap.size) [.slice (some ⟨w.heap.size + 1 + 1 + 1 + 1 + 1 + 1, 0, none⟩) 2 2] homeL ∧ Keep No w W := by
  obtain ⟨W, hW, b0, b2, b3, b4, b5, b6, hk, hs⟩ := home_blocks w
  refine ⟨W, hW, ?_, hk⟩
  clear hW
  have two : ∀ {α : Type} (p : α → α → Prop), True := fun _ => trivial
  have hcode : Rd (.slice instrSh) W (Fr w.heap.size W.heap.size) [.slice (some ⟨w.heap.size, 0, none⟩) 1 1] retG.code := by
    refine rd_block (s := instrSh) b0 ⟨by omega, by omega⟩ retG.code 1 1 rfl (by omega) (by omega) fun i hi => ?_
    have : i = 0 := by have : i < 1 := hi; omega
    subst this
    exact ⟨[.int .i64 31], [.int .i64 0], rfl, ⟨rfl, show (Lit.int .i64 31).wf = true by decide⟩, [.int .i64 0], [], rfl, ⟨rfl, show (Lit.int .i64 0).wf = true by decide⟩, rfl⟩
  have hk1 : Rd (.slice (.int .i64)) W (Fr w.heap.size W.heap.size) [.slice (some ⟨w.heap.size + 1 + 1, 0, none⟩) 2 2] depP.kinds := by
    have e1 : (Lit.int .i64 3).wf = true := by decide
    refine rd_block (s := .int .i64) b2 ⟨by omega, by omega⟩ depP.kinds 2 2 rfl (by omega) (by omega) fun i hi => ?_
    have : i = 0 ∨ i = 1 := by have : i < 2 := hi; omega
    rcases this with rfl | rfl <;> first | exact ⟨rfl, e1⟩ | exact ⟨rfl, e2⟩
  have hk2 : Rd (.slice (.int .i64)) W (Fr w.heap.size W.heap.size) [.slice (some ⟨w.heap.size + 1 + 1 + 1, 0, none⟩) 2 2] payP.kinds := by
    have e1 : (Lit.int .i64 1).wf = true := by decide
    have e2 : (Lit.int .i64 2).wf = true := by decide
    refine rd_block (s := .int .i64) b3 ⟨by omega, by omega⟩ payP.kinds 2 2 rfl (by omega) (by omega) fun i hi => ?_
    have : i = 0 ∨ i = 1 := by have : i < 2 := hi; omega
    rcases this with rfl | rfl <;> first | exact ⟨rfl, e1⟩ | exact ⟨rfl, e2⟩
  have hr : Rd (.slice .str) W (Fr w.heap.size W.heap.size) [.slice (some ⟨w.heap.size + 1 + 1 + 1 + 1, 0, none⟩) 1 1] payP.reads := by
    refine rd_block (s := .str) b4 ⟨by omega, by omega⟩ payP.reads 1 1 rfl (by omega) (by omega) fun i hi => ?_
    have : i = 0 := by have : i < 1 := hi; omega
    subst this
    exact ⟨rfl, by rw [maxLen_is]; show (5 : Nat) ≤ _; omega⟩
  have hw : Rd (.slice .str) W (Fr w.heap.size W.heap.size) [.slice (some ⟨w.heap.size + 1 + 1 + 1 + 1 + 1, 0, none⟩) 2 2] payP.writes := by
    refine rd_block (s := .str) b5 ⟨by omega, by omega⟩ payP.writes 2 2 rfl (by omega) (by omega) fun i hi => ?_
    have : i = 0 ∨ i = 1 := by have : i < 2 := hi; omega
    rcases this with rfl | rfl
    · exact ⟨rfl, by rw [maxLen_is]; show (8 : Nat) ≤ _; omega⟩
    · exact ⟨rfl, by rw [maxLen_is]; show (1 : Nat) ≤ _; omega⟩
  refine rd_block (s := procSh) b6 ⟨by omega, by omega⟩ homeL 2 2 rfl (by omega) (by omega) fun i hi => ?_
  have : i = 0 ∨ i = 1 := by have : i < 2 := hi; omega
  rcases this with rfl | rfl
  · exact proc_mk depP hk1 (rd_nil _ _ _) (rd_nil _ _ _) (rd_nil _ _ _) hcode (by rw [maxLen_is]; show (3 : Nat) ≤ _; omega) (by decide)
  · exact proc_mk payP hk2 hr hw (rd_nil _ _ _) hcode (by rw [maxLen_is]; show (3 : Nat) ≤ _; omega) (by decide)
def MadeL (w : World) (e : Ending) (w' : World) : Prop := ∃ a c, e = .returned (.slice a 2 c) ∧ Rd (.slice procSh) w' (Fr w.heap.size w'.heap.size) [.slice a 2 c] homeL ∧ Keep No w w'
set_option maxRecDepth 10000 in
set_option maxHeartbeats 2000000 in
theorem home_any (w : World) : Calls Tryz.prog 72 #[] w (MadeL w) := by
  go_enter Tryz.func72, Tryz.ntmps72
  obtain ⟨W, hW, hrd, hk⟩ := home_rd w
  have HW := Lib.hid (And.intro hW (And.intro hrd hk))
  clear hW hrd hk
  go_wp2_with fail
  go_ret
  obtain ⟨h1, h2, h3⟩ := HW.out
  rw [h1] at h2 h3
  exact ⟨_, _, rfl, h2, h3⟩
end Go.Proofs.YtpjcebajkfeacaaGreatDoor
