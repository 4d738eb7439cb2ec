/-
  Parts of what is proved for this claim; each declaration is one of the seat's texts.
-/
import Derived.Test.YtfgdnakfikpmpaaGreatDoorUGA
import Derived.Test.YtfgdnakfikpmpaaGreatDoorUGC
import Derived.Test.YtfgdnakfikpmpaaGreatDoorUGD
import Derived.Test.YtfgdnakfikpmpaaGreatDoorUGK
import Derived.Test.YtfgdnakfikpmpaaGreatDoorUGM
import Derived.Test.YtfgdnakfikpmpaaGreatDoorUPB
import Derived.Test.YtfgdnakfikpmpaaGreatDoorUGQ
import Derived.Test.YtfgdnakfikpmpaaGreatDoorUPH
import Derived.Test.YtfgdnakfikpmpaaGreatDoorUPF
import Derived.Test.YtfgdnakfikpmpaaGreatDoorUPT
import Derived.Test.YtfgdnakfikpmpaaGreatDoorUKB
import Derived.Test.YtfgdnakfikpmpaaGreatDoorULA
import Derived.Test.YtfgdnakfikpmpaaGreatDoorULC
import Derived.Test.YtfgdnakfikpmpaaGreatDoorULF
import Derived.Test.YtfgdnakfikpmpaaGreatDoorULN
import Derived.Test.YtfgdnakfikpmpaaGreatDoorULH
import Derived.Test.YtfgdnakfikpmpaaGreatDoorULI
import Derived.Test.YtfgdnakfikpmpaaGreatDoorULK
import Derived.Test.YtfgdnakfikpmpaaGreatDoorUMA
import Derived.WalkKit
import Derived.WalkSpells
import Derived.WalkLawsBesides
import Derived.ProofKit
import Derived.Deep.Slices
import Derived.Deep.AppendSrc
import Derived.Lib.Hide
import Derived.Lib.ItoaNum
import Derived.Lib.Join
import Derived.Still
import Derived.StillTactics
import Derived.Recover
import Derived.Defers
import Derived.Deep.QuietTactic
import Derived.BigQuiet
import Derived.Handy
import Derived.Laws.Bits64b
import Derived.Lib.Zigzag
import Derived.OwnWalk
import Derived.Deep.DeepCutAuto
import Derived.Deep.LoopGhost
import Derived.Lib.Bytealg
import Derived.Laws.Externs
import Derived.Laws.CopyRow
import Derived.Laws.IdiomCopy
import Derived.Maps.OwnSet
import Derived.Maps.RangeWalk
import Derived.Shelf.SortM.Plain
import Derived.Shelf.SortM.SortNone
import Derived.Ground.SlgmProg
import Derived.Deep.WholeRow
import Derived.Maps.OwnOps
import Derived.Maps.Views
import Derived.Lib.ParseIntB
import Derived.Lib.Split
import Derived.Lib.SplitLaws
import Derived.Lib.IndexBytes
import Derived.Shelf.Strconv.Itoa4
import Derived.Shelf.Strings.BuilderK
import Derived.Shelf.Strings.OnBuilder
import Derived.Ground.NamesProg
import Derived.Lib.AppendIntMem
import Derived.Lib.UnsafeStr
import Derived.Shelf.Pu.ParseUintPublic10
import Derived.Shelf.Strconv.ParseIntPublic10
import Derived.Shelf.Strings.Search2
import Derived.Shelf.Strings.Prefix
import Derived.Ground.MpProg
import Derived.Lib.ParseIntBCases
import Derived.Lib.ParseIntBTie
import Derived.Deep.CutBlock
import Derived.Shelf.Strings.SplitCore
import Derived.Shelf.Strings.Search3
import Derived.Shelf.Strings.Count
import Derived.Shelf.SlIter.Nil
import Derived.Ground.GgzProg
import Derived.Sort.KeysCollected
import Derived.Laws.OwnMore
set_option linter.unusedVariables false
set_option linter.unusedSimpArgs false
namespace Go.Proofs.YtfgdnakfikpmpaaGreatDoor
open Go Go.RowKit Go.Deep
def rotL (L : List Prc) (t : Nat) : List Prc := L.drop t ++ L.take t
theorem rot_perm (L : List Prc) (t : Nat) : L.Perm (rotL L t) := by
  have h : (L.take t ++ L.drop t).Perm (L.drop t ++ L.take t) := List.perm_append_comm
  rwa [List.take_append_drop] at h
theorem rot_length (L : List Prc) (t : Nat) : (rotL L t).length = L.length := (rot_perm L t).length_eq.symm
theorem rot_get (L : List Prc) (t i : Nat) (ht : t < L.length) (hi : i < L.length) (hi' : i < (rotL L t).length) : (rotL L t)[i] = L[(i + t) % L.length]'(Nat.mod_lt _ (by omega)) := by
  have h1 : (rotL L t)[i]? = L[(i + t) % L.length]? := by
    unfold rotL
    by_cases h : i < L.length - t
    · rw [List.getElem?_append_left (by simp; omega), List.getElem?_drop, Nat.mod_eq_of_lt (by omega), Nat.add_comm]
    · have e : (i + t) % L.length = i - (L.length - t) := by
        rw [Nat.mod_eq_sub_mod (by omega), Nat.mod_eq_of_lt (by omega)]; omega
      rw [List.getElem?_append_right (by simp; omega), List.getElem?_take, List.length_drop, if_pos (by omega), e]
  rw [List.getElem?_eq_getElem hi', List.getElem?_eq_getElem (Nat.mod_lt _ (by omega))] at h1
  exact Option.some.inj h1
theorem textF_eq {L M : List Prc} (h : ∀ n, findP L n = findP M n) : ∀ l, textF L l = textF M l
  | [] => rfl
  | n :: l => by unfold textF; rw [h n, textF_eq h l]
theorem libS_perm {L M : List Prc} (h : L.Perm M) (hd : (L.map Prc.name).Nodup) : libS L = libS M := by
  unfold libS
  rw [namesL_perm h]
  exact textF_eq (findP_perm h hd) _
structure Prc.Lens (p : Prc) : Prop where
  name : p.name.size ≤ 1048576
  kinds : p.kinds.length ≤ 1048576
  reads : p.reads.length ≤ 1048576
  writes : p.writes.length ≤ 1048576
  consts : p.pgm.consts.length ≤ 1048576
  code : p.pgm.code.length ≤ 1048576
theorem sum_len {α : Type} (f : α → Nat) (h : ∀ x, 1 ≤ f x) : ∀ l : List α, l.length ≤ (l.map f).sum
  | [] => Nat.le_refl _
  | x :: l => by have := sum_len f h l; have := h x; simp only [List.length_cons, List.map_cons, List.sum_cons]; omega
theorem sum_mem {α : Type} (f : α → Nat) : ∀ (l : List α) (x : α), x ∈ l → f x ≤ (l.map f).sum
  | y :: l, x, hx => by
    rcases List.mem_cons.1 hx with rfl | h
    · simp only [List.map_cons, List.sum_cons]; omega
    · have := sum_mem f l x h; simp only [List.map_cons, List.sum_cons]; omega
theorem prc_lens {p : Prc} (h : procSh.bulk p ≤ 1048576) : p.Lens := by
  have e : procSh.bulk p = ((p.name.size + 1) + (((p.kinds.map (Sh.int .i64).bulk).sum + 1) + (1 + (((p.reads.map Sh.str.bulk).sum + 1) + (((p.writes.map Sh.str.bulk).sum + 1) + (((1 + (((p.pgm.consts.map valueSh.bulk).sum + 1) + (((p.pgm.code.map instrSh.bulk).sum + 1) + 0))) + 1) + 0)))))) + 1 := rfl
  have h1 := sum_len (Sh.int .i64).bulk (fun _ => Nat.le_refl 1) p.kinds
  have h2 := sum_len Sh.str.bulk (fun x => Nat.le_add_left 1 _) p.reads
  have h3 := sum_len Sh.str.bulk (fun x => Nat.le_add_left 1 _) p.writes
  have h4 := sum_len valueSh.bulk (fun x => Nat.le_add_left 1 _) p.pgm.consts
  have h5 := sum_len instrSh.bulk (fun x => Nat.le_add_left 1 _) p.pgm.code
  exact ⟨by omega, by omega, by omega, by omega, by omega, by omega⟩
theorem prcs_lens {L : List Prc} (h : (Sh.slice procSh).bulk L ≤ 1048576) : L.length ≤ 1048576 ∧ ∀ p ∈ L, p.Lens := by
  have e : (Sh.slice procSh).bulk L = (L.map procSh.bulk).sum + 1 := rfl
  refine ⟨?_, fun p hp => prc_lens ?_⟩
  · have := sum_len procSh.bulk (fun x => Nat.le_add_left 1 _) L
    omega
  · have := sum_mem procSh.bulk L p hp
    omega
theorem Tryz.infoPr : (Tryz.prog.info? 29).map (fun i => (i.zero, i.size, i.bytes)) = some (some (.agg #[.string ⟨#[]⟩, .slice none 0 0, .bool false, .slice none 0 0, .slice none 0 0, .int .i64 0, .slice none 0 0, .slice none 0 0]), 8, 152) := by kernel_rfl
def TwoP (lo : Nat) (w : World) (v : Value) (l : List Prc) (u : Value) (m : List Prc) : Prop :=
  ∃ A B : Nat → Prop, Own procSh 29 w A v l ∧ Own procSh 29 w B u m ∧ (∀ j, A j → ¬ B j) ∧ (∀ j, A j ∨ B j → lo ≤ j ∧ j < w.heap.size)
theorem TwoP.swap {lo : Nat} {w : World} {v u : Value} {l m : List Prc} (h : TwoP lo w v l u m) : TwoP lo w u m v l := by
  obtain ⟨A, B, h1, h2, h3, h4⟩ := h
  exact ⟨B, A, h2, h1, fun j hb ha => h3 j ha hb, fun j h => h4 j h.symm⟩
theorem TwoP.keep {lo : Nat} {w w' : World} {v u : Value} {l m : List Prc} (h : TwoP lo w v l u m) (hk : Keep No w w') : TwoP lo w' v l u m := by
  obtain ⟨A, B, h1, h2, h3, h4⟩ := h
  exact ⟨A, B, h1.agree hk.agreeNo, h2.agree hk.agreeNo, h3, fun j h => ⟨(h4 j h).1, Nat.lt_of_lt_of_le (h4 j h).2 hk.size⟩⟩
theorem TwoP.rd {lo : Nat} {w : World} {v u : Value} {l m : List Prc} (h : TwoP lo w v l u m) : Rd (.slice procSh) w (Up lo) [v] l := by
  obtain ⟨A, B, h1, -, -, h4⟩ := h
  exact h1.rd.mono (.slice procSh) fun k _ hk => (h4 k (.inl hk)).1
theorem TwoP.add {lo : Nat} {w w2 : World} {v u : Value} {l m : List Prc} (h : TwoP lo w v l u m) (hlo : lo ≤ w.heap.size) (hk : Keep No w w2) {cs : Array Value} {p : Prc} (hr : Rd procSh w2 (Fr w.heap.size w2.heap.size) cs.toList p) (hn : l.length + 1 ≤ 1048576) {n : Nat} (hln : l.length = n) :
    ∃ a c w3, (Builtin.append_ #[68, 68] 68 #[v, .slice (some ⟨w2.heap.size, 0, none⟩) 1 1]).run Tryz.prog (w2.alloc (.cells cs 29)) = .ok (.slice a (n + 1) c) w3 ∧ RowKit.Hid (TwoP lo w3 (.slice a (n + 1) c) (l ++ [p]) u m ∧ Keep (Up lo) w w3) := by
  subst hln
  obtain ⟨A, B, h1, h2, h3, h4⟩ := h
  have hka : Keep No w (w2.alloc (.cells cs 29)) := hk.alloc _
  obtain ⟨i0, hi0, hz0, hz1, hz2⟩ := info_parts Tryz.infoPr
  obtain ⟨a, c, w3, hrun, ho, hk3, -⟩ := Own.append (P := Tryz.prog) (h1.agree hka.agreeNo) 68 68 i0 _ 152 Tryz.underlying68 hi0 hz0 hz1 hz2 rfl (blk_new w2 (.cells cs 29)) (hr.agree procSh ((Keep.refl No w2).alloc _).agreeNo)
    (fun k ha hf => by have := (h4 k (.inl ha)).2; have := hf.1; omega) (by omega) (by omega) 1
  have hs := hk3.size
  have hs2 := hk.size
  simp only [World.size_alloc] at hs
  refine ⟨a, c, w3, hrun, ⟨_, B, ho.live, h2.agree fun k hkl hb => ?_, fun j hj hb => ?_, fun j hj => ?_⟩, (Keep.refl (Up lo) w |>.thenNo hka).then hk3 fun i _ ha => (h4 i (.inl ha)).1⟩
  · have hb2 := (h4 k (.inr hb)).2
    rw [hk3.block k (by simp only [World.size_alloc]; omega) (fun ha => h3 k ha hb), hka.block k hb2 (fun x => x)]
  · have hb2 := (h4 j (.inr hb)).2
    rcases hj.1 with ha | ha | ha
    · exact h3 j ha hb
    · have := ha.1; omega
    · simp only [World.size_alloc] at ha; omega
  · rcases hj with ⟨ha, hl⟩ | hb
    · refine ⟨?_, hl⟩
      rcases ha with ha | ha | ha
      · exact (h4 j (.inl ha)).1
      · have := ha.1; omega
      · simp only [World.size_alloc] at ha; omega
    · have := h4 j (.inr hb); exact ⟨this.1, by omega⟩
theorem ofBad_ne {L : List Prc} {x : Nat × Int} (h : ofBad L 0 = some x) : x.2 ≠ 0 := by
  unfold ofBad at h
  rw [Option.map_eq_some_iff] at h
  obtain ⟨i, hf, rfl⟩ := h
  have := List.find?_some hf
  exact of_decide_eq_true this
end Go.Proofs.YtfgdnakfikpmpaaGreatDoor
namespace Go.Proofs.YtfgdnakfikpmpaaGreatDoor
open Go Go.RowKit Go.Deep
theorem own8_cells (w : World) (S : Nat → Prop) (cs : Array Value) (p : Prc) (h : Rd procSh w S cs.toList p) (hl : p.Lens) :
    Calls Tryz.prog 15 #[.agg cs] w fun e w2 => ∃ b1 d1 b2 d2 b3 d3 b4 d4 b5 d5, e = .returned (.agg #[.string p.name, .slice b1 p.kinds.length d1, .bool p.dep, .slice b2 p.reads.length d2, .slice b3 p.writes.length d3, .int .i64 p.pgm.args, .slice b4 p.pgm.consts.length d4, .slice b5 p.pgm.code.length d5]) ∧ RowKit.Hid (Rd procSh w2 (Fr w.heap.size w2.heap.size) #[.string p.name, .slice b1 p.kinds.length d1, .bool p.dep, .slice b2 p.reads.length d2, .slice b3 p.writes.length d3, .int .i64 p.pgm.args, .slice b4 p.pgm.consts.length d4, .slice b5 p.pgm.code.length d5].toList p ∧ Keep No w w2) := by
  have hh := own8_any w S cs.toList p h hl.kinds hl.reads hl.writes hl.consts hl.code
  rw [Array.toArray_toList] at hh
  refine hh.mono ?_
  rintro e w2 ⟨ds, rfl, hr, hk⟩
  obtain ⟨b1, d1, b2, d2, b3, d3, b4, d4, b5, d5, hcs, -⟩ := proc_cells hr
  obtain rfl : ds = #[.string p.name, .slice b1 p.kinds.length d1, .bool p.dep, .slice b2 p.reads.length d2, .slice b3 p.writes.length d3, .int .i64 p.pgm.args, .slice b4 p.pgm.consts.length d4, .slice b5 p.pgm.code.length d5] := by
    cases ds; simp at hcs; rw [hcs]
  exact ⟨b1, d1, b2, d2, b3, d3, b4, d4, b5, d5, rfl, hr, hk⟩
theorem num8_eq (n : Int) (w : World) : Calls Tryz.prog 16 #[.int .i64 n] w fun e w' => e = .returned (.int .i64 n) ∧ w = w' :=
  (num8_any n w).mono fun e w' h => ⟨h.1, h.2.symm⟩
theorem cell_kp {w w' : World} {b o : Nat} {v : Value} (hk : Keep No w w') (p : w.cell? ⟨b, o, none⟩ = some v) : w'.cell? ⟨b, o, none⟩ = some v :=
  (hk.cell (World.block_lt_of_cell? _ _ p) (fun x => x)).trans p
set_option maxRecDepth 10000 in
set_option maxHeartbeats 4000000 in
theorem LibraryOrder_main (w : World) (ht : Tab w ∧ Errs w ∧ KindsW w) (S : Nat → Prop) (a : Option Addr) (c : Nat) (L : List Prc) (h : Rd (.slice procSh) w S [.slice a L.length c] L) (hL : ∀ p ∈ L, p.Lens) (turn : Int) :
    Calls Tryz.prog 10 #[.slice a L.length c, .int .i64 turn] w fun e w' => e = .returned (.bool true) ∧ Keep No w w' := by
  have HLV : RowKit.Hid (∀ W, Keep No w W → Calls Tryz.prog 14 #[] W fun e w' => e = .returned (.bool true) ∧ RowKit.Hid (Keep No w w')) := fun W hW => (live8_any W (ht.1.keep hW) (ht.2.1.keep hW) (ht.2.2.keep hW (fun x => x))).mono (by rintro e w' ⟨rfl, hk⟩; exact ⟨rfl, hW.trans hk.out⟩)
  by_cases g1 : L.length = 0
  · have i1 : ((L.length : Int) == 0) = true := by simp [g1]
    clear ht h hL g1
    go_enter Tryz.func10, Tryz.ntmps10
    go_wp2_with (go_at_call 14; refine (HLV.out _ (Keep.refl _ _)).mono ?_; rintro e w4 ⟨rfl, HK4⟩)
    go_ret
    exact ⟨rfl, HK4.out⟩
  have i1 : ((L.length : Int) == 0) = false := by rw [beq_eq_false_iff_ne]; omega
  by_cases g2 : 64 < L.length
  · have i2 : (64 : Int) < L.length := by omega
    clear ht h hL g1 g2
    go_enter Tryz.func10, Tryz.ntmps10
    go_wp2_with (go_at_call 14; refine (HLV.out _ (Keep.refl _ _)).mono ?_; rintro e w4 ⟨rfl, HK4⟩)
    go_ret
    exact ⟨rfl, HK4.out⟩
  have i2 : ¬ (64 : Int) < L.length := by omega
  by_cases g3 : turn < 0
  · clear ht h hL g1 g2
    go_enter Tryz.func10, Tryz.ntmps10
    go_wp2_with (go_at_call 14; refine (HLV.out _ (Keep.refl _ _)).mono ?_; rintro e w4 ⟨rfl, HK4⟩)
    go_ret
    exact ⟨rfl, HK4.out⟩
  have g4 : 0 ≤ turn := Int.not_lt.1 g3
  obtain ⟨T, rfl⟩ : ∃ T : Nat, turn = T := ⟨turn.toNat, (Int.toNat_of_nonneg g4).symm⟩
  obtain ⟨t, htm⟩ : ∃ t, T % L.length = t := ⟨_, rfl⟩
  have htl : t < L.length := by rw [← htm]; exact Nat.mod_lt _ (by omega)
  have e1 : (T : Int).tmod (L.length : Int) = (t : Int) := by rw [← htm]; rfl
  have HX := Lib.hid (And.intro h (And.intro hL (And.intro ht htl)))
  have HG := Lib.hid (And.intro g1 g2)
  have n64 : (L.length : Int) ≤ 64 := by omega
  have n0 : ¬ (L.length : Int) = 0 := by omega
  have hn1 : ¬ (L.length : Int) = -1 := by omega
  have t64 : (t : Int) ≤ 64 := by omega
  have t0 : (0 : Int) ≤ t := by omega
  clear h hL ht htl htm g1 g2
  go_enter Tryz.func10, Tryz.ntmps10
  go_wp2_with fail
  have HO0 := Lib.hid (show TwoP w.heap.size w (.slice none 0 0) (L.take 0) (.slice none 0 0) ((rotL L t).take 0) from ⟨No, No, Own.nil _ _ _ _, Own.nil _ _ _ _, fun _ h => h.elim, fun _ h => h.elim (fun x => x.elim) (fun x => x.elim)⟩)
  go_loopg [5, 6, 7] L.length (fun g va vb i wr => ∃ k : Nat, k ≤ L.length ∧ g = L.length - k ∧ i = .int .i64 k ∧ (∃ a1 c1, va = .slice a1 k c1) ∧ (∃ a1 c1, vb = .slice a1 k c1) ∧ RowKit.Hid (TwoP w.heap.size wr va (L.take k) vb ((rotL L t).take k) ∧ Keep No w wr))
  case atStart => exact ⟨0, by omega, by omega, rfl, ⟨_, _, rfl⟩, ⟨_, _, rfl⟩, HO0.out, Keep.refl _ _⟩
  case round =>
    obtain ⟨k, hk, rfl, rfl, ⟨x1, y1, rfl⟩, ⟨x2, y2, rfl⟩, HR⟩ := hrel
    by_cases hlt : k < L.length
    · have j1 : (k : Int) < L.length := by omega
      have j0 : (0 : Int) ≤ k := by omega
      have j3 : (k : Int) ≤ 64 := by omega
      have hrl := rot_length L t
      have htl := HX.out.2.2.2
      have hq : (k + t) % L.length < L.length := Nat.mod_lt _ (by omega)
      have hrg := rot_get L t k htl hlt (by omega)
      obtain ⟨b, off, a1, c1, a2, c2, a3, c3, a4, c4, a5, c5, rfl, p0, p1, p2, p3, p4, p5, p6, p7, hrk⟩ := procs_get (HX.out.1.agree _ HR.out.2.agreeNo) k hlt
      have hlk := HX.out.2.1 _ (List.getElem_mem hlt)
      obtain ⟨lb, hlb⟩ : ∃ lb, largeB L[k] = lb := ⟨_, rfl⟩
      have hlg := (large_any wr a1 a2 a3 a4 a5 c1 c2 c3 c4 c5 L[k] (by have := hlk.kinds; have := hlk.reads; have := hlk.writes; have := hlk.consts; have := hlk.code; omega)).mono (R' := fun e w2 => e = .returned (.bool lb) ∧ RowKit.Hid (Keep No wr w2)) (by
        rintro e w2 ⟨rfl, hk⟩
        exact ⟨by rw [hlb], hk⟩)
      cases lb with
      | true =>
        clear hrl htl hq hrg hrk hlk hlb
        generalize L[k] = p at *
        clear hlt hk
        go_wp2_with (first | (go_at_call 13; refine hlg.mono ?_; clear hlg; rintro e w3 ⟨rfl, HK3⟩) | (go_at_call 14; refine (HLV.out _ (HR.out.2.trans HK3.out)).mono ?_; rintro e w4 ⟨rfl, HK4⟩))
        go_ret
        exact ⟨rfl, HK4.out⟩
      | false =>
        obtain ⟨q, hqq⟩ : ∃ q, (k + t) % L.length = q := ⟨_, rfl⟩
        have e2 : ((k : Int) + t).tmod (L.length : Int) = (q : Int) := by rw [← hqq]; rfl
        have HOW : RowKit.Hid (∀ W, Keep No wr W → Calls Tryz.prog 15 #[.agg #[.string L[k].name, .slice a1 L[k].kinds.length c1, .bool L[k].dep, .slice a2 L[k].reads.length c2, .slice a3 L[k].writes.length c3, .int .i64 L[k].pgm.args, .slice a4 L[k].pgm.consts.length c4, .slice a5 L[k].pgm.code.length c5]] W fun e w2 => ∃ b1 d1 b2 d2 b3 d3 b4 d4 b5 d5, e = .returned (.agg #[.string L[k].name, .slice b1 L[k].kinds.length d1, .bool L[k].dep, .slice b2 L[k].reads.length d2, .slice b3 L[k].writes.length d3, .int .i64 L[k].pgm.args, .slice b4 L[k].pgm.consts.length d4, .slice b5 L[k].pgm.code.length d5]) ∧ RowKit.Hid (Rd procSh w2 (Fr W.heap.size w2.heap.size) #[.string L[k].name, .slice b1 L[k].kinds.length d1, .bool L[k].dep, .slice b2 L[k].reads.length d2, .slice b3 L[k].writes.length d3, .int .i64 L[k].pgm.args, .slice b4 L[k].pgm.consts.length d4, .slice b5 L[k].pgm.code.length d5].toList L[k] ∧ Keep No W w2)) := fun W hW =>
          own8_cells W S #[.string L[k].name, .slice a1 L[k].kinds.length c1, .bool L[k].dep, .slice a2 L[k].reads.length c2, .slice a3 L[k].writes.length c3, .int .i64 L[k].pgm.args, .slice a4 L[k].pgm.consts.length c4, .slice a5 L[k].pgm.code.length c5] L[k] (hrk.agree procSh hW.agreeNo) hlk
        have HG5 : RowKit.Hid (∃ qh : q < L.length, (rotL L t).take k ++ [L[q]] = (rotL L t).take (k + 1)) := by
          subst hqq
          exact ⟨hq, by rw [List.take_succ_eq_append_getElem (by omega), hrg]⟩
        have hH := Lib.hid hlt
        have hklen : (L.take k).length = k := by rw [List.length_take]; omega
        have hklen2 : ((rotL L t).take k).length = k := by rw [List.length_take]; omega
        have HKL := Lib.hid (And.intro hklen hklen2)
        clear hrk hlk hlb hrg hrl htl hq hklen hklen2 hk hqq
        have hsucc : RowKit.Hid (L.take k ++ [L[k]] = L.take (k + 1)) := List.take_succ_eq_append_getElem hlt |>.symm
        generalize hpk : L[k] = p at *
        clear hlt hpk
        go_upto_region 10 with (first | (go_at_call 13; refine hlg.mono ?_; clear hlg; rintro e w3 ⟨rfl, HK3⟩; have r0 := cell_kp HK3.out p0; have r1 := cell_kp HK3.out p1; have r2 := cell_kp HK3.out p2; have r3 := cell_kp HK3.out p3; have r4 := cell_kp HK3.out p4; have r5 := cell_kp HK3.out p5; have r6 := cell_kp HK3.out p6; have r7 := cell_kp HK3.out p7) | (go_at_call 15; refine (HOW.out _ HK3.out).mono ?_; rintro e w4 ⟨b1, d1, b2, d2, b3, d3, b4, d4, b5, d5, rfl, H4⟩; obtain ⟨x3, y3, w5, hrun, H5⟩ := (HR.out.1.keep HK3.out).add (by have := HR.out.2.size; have := HK3.out.size; omega) H4.out.2 H4.out.1 (by have := HKL.out; omega) HKL.out.1) | (at_builtin; refine wpList_app rfl (.tmp 39) (.tmp 45) 68 68 rfl rfl rfl hrun ?_))
        have K5 := (HR.out.2.trans HK3.out).then H5.out.2 fun i hi hh => by have : w.heap.size ≤ i := hh; omega
        obtain ⟨hqn, HG6⟩ := HG5.out
        obtain ⟨b', off', a1', c1', a2', c2', a3', c3', a4', c4', a5', c5', e', p0', p1', p2', p3', p4', p5', p6', p7', hrk⟩ := procs_get (HX.out.1.agree _ K5.agreeNo) q hqn
        simp only [Option.some.injEq, Addr.mk.injEq, and_true] at e'
        obtain ⟨rfl, rfl⟩ := e'
        have hlq := HX.out.2.1 _ (List.getElem_mem hqn)
        have hown := own8_cells w5 S #[.string L[q].name, .slice a1' L[q].kinds.length c1', .bool L[q].dep, .slice a2' L[q].reads.length c2', .slice a3' L[q].writes.length c3', .int .i64 L[q].pgm.args, .slice a4' L[q].pgm.consts.length c4', .slice a5' L[q].pgm.code.length c5'] L[q] hrk hlq
        have q1 : (q : Int) < L.length := by omega
        have q0 : (0 : Int) ≤ q := by omega
        have HS := Lib.hid (And.intro HG6 (And.intro hqn K5))
        clear hrk hlq HG6 p0 p1 p2 p3 p4 p5 p6 p7 K5 hrun
        generalize L[q] = z at *
        clear hqn
        go_wp2_with (first | (go_at_call 15; refine hown.mono ?_; clear hown; rintro e w6 ⟨b1, d1, b2, d2, b3, d3, b4, d4, b5, d5, rfl, H6⟩; obtain ⟨x4, y4, w7, hrun, H7⟩ := H5.out.1.swap.add (HS.out.2.2.size) H6.out.2 H6.out.1 (by have := HKL.out; omega) HKL.out.2) | (at_builtin; refine wpList_app rfl (.tmp 47) (.tmp 61) 68 68 rfl rfl rfl hrun ?_))
        go_roundg (L.length - (k + 1))
        case measure => have := hH.out; omega
        case rel =>
          refine ⟨k + 1, hH.out, rfl, by simp, ⟨_, _, rfl⟩, ⟨_, _, rfl⟩, ?_, HS.out.2.2.then H7.out.2 fun i hi hh => by have : w.heap.size ≤ i := hh; omega⟩
          have hfin := H7.out.1.swap
          rw [hsucc.out, HS.out.1] at hfin
          exact hfin
    · obtain rfl : k = L.length := by omega
      have j1 : ¬ (L.length : Int) < L.length := by omega
      have hTP := HR.out.1
      rw [List.take_length, List.take_of_length_le (by rw [rot_length]; omega)] at hTP
      have hM : (rotL L t).length = L.length := rot_length L t
      have hmem : ∀ p ∈ rotL L t, p ∈ L := fun p hp => (rot_perm L t).mem_iff.2 hp
      have hsz : ∀ p ∈ L, p.name.size ≤ 9223372036854775806 ∧ p.reads.length + p.writes.length ≤ 9223372036854775807 := fun p hp => by
        have := HX.out.2.1 p hp
        have h1 := this.name; have h2 := this.reads; have h3 := this.writes
        exact ⟨by omega, by omega⟩
      have hof := libOf_gen wr _ x1 y1 L hTP.rd hsz (by have := HG.out; omega)
      have HOF2 : RowKit.Hid (∀ W, Keep No wr W → Calls Tryz.prog 34 #[.slice x2 L.length y2] W (GivesLb W (rotL L t))) := fun W hW => by
        have := libOf_gen W _ x2 y2 (rotL L t) (by rw [hM]; exact (hTP.keep hW).swap.rd) (fun p hp => hsz p (hmem p hp)) (by rw [hM]; have := HG.out; omega)
        rw [hM] at this
        exact this
      have HM := Lib.hid hM
      clear hTP hmem hsz hlt hk hM
      have hpm := ofBad_perm (rot_perm L t)
      cases hbad : ofBad L 0 with
      | some x =>
        cases hbad2 : ofBad (rotL L t) 0 with
        | none => rw [hpm.2 hbad2] at hbad; cases hbad
        | some y =>
          have hx := ofBad_ne hbad
          have hy := ofBad_ne hbad2
          have hof1 := hof.mono (R' := fun e w2 => e = .returned (.tuple #[.pointer none, .int .i64 x.2, .int .i64 x.1]) ∧ RowKit.Hid (Keep No wr w2)) (fun e w2 hh => by unfold GivesLb at hh; rw [hbad] at hh; exact hh)
          have HOF3 : RowKit.Hid (∀ W, Keep No wr W → Calls Tryz.prog 34 #[.slice x2 L.length y2] W fun e w2 => e = .returned (.tuple #[.pointer none, .int .i64 y.2, .int .i64 y.1]) ∧ RowKit.Hid (Keep No W w2)) := fun W hW => (HOF2.out W hW).mono (fun e w2 hh => by unfold GivesLb at hh; rw [hbad2] at hh; exact hh)
          have hxb : (x.2 == 0) = false := by rw [beq_eq_false_iff_ne]; exact hx
          have hyb : (y.2 == 0) = false := by rw [beq_eq_false_iff_ne]; exact hy
          clear hof HOF2 hbad hbad2 hx hy hpm
          generalize x.2 = ex at *
          generalize y.2 = ey at *
          generalize (x.1 : Int) = px at *
          generalize (y.1 : Int) = py at *
          go_wp2_with (first | (go_at_call 34; refine hof1.mono ?_; clear hof1; rintro e w2 ⟨rfl, HK2⟩) | (go_at_call 34; refine (HOF3.out _ HK2.out).mono ?_; clear HOF3; rintro e w3 ⟨rfl, HK3⟩) | (go_at_call 16; refine (num8_eq _ _).mono ?_; rintro e w6 ⟨rfl, rfl⟩) | (go_at_call 14; refine (HLV.out _ ((HR.out.2.trans HK2.out).trans HK3.out)).mono ?_; rintro e w7 ⟨rfl, HK7⟩))
          go_ret
          exact ⟨rfl, HK7.out⟩
      | none =>
        have hbad2 := hpm.1 hbad
        have hnd := (ofBad_none_iff.1 hbad).2.1
        have hls := libS_perm (rot_perm L t) hnd
        have hns := namesL_perm (rot_perm L t)
        have hof1 := hof.mono (R' := fun e w2 => ∃ B m, e = .returned (.tuple #[.pointer (some ⟨B, 0, none⟩), .int .i64 0, .int .i64 0]) ∧ RowKit.Hid (LibAt w2 (Fr wr.heap.size w2.heap.size) B m L ∧ Keep No wr w2)) (fun e w2 hh => by unfold GivesLb at hh; rw [hbad] at hh; exact hh)
        have HOF3 : RowKit.Hid (∀ W, Keep No wr W → Calls Tryz.prog 34 #[.slice x2 L.length y2] W fun e w2 => ∃ B m, e = .returned (.tuple #[.pointer (some ⟨B, 0, none⟩), .int .i64 0, .int .i64 0]) ∧ RowKit.Hid (LibAt w2 (Fr W.heap.size w2.heap.size) B m (rotL L t) ∧ Keep No W w2)) := fun W hW => (HOF2.out W hW).mono (fun e w2 hh => by unfold GivesLb at hh; rw [hbad2] at hh; exact hh)
        clear hof HOF2 hbad hbad2 hnd hpm
        go_upto_region 15 with (first | (go_at_call 34; refine hof1.mono ?_; clear hof1; rintro e w2 ⟨B1, m1, rfl, H2⟩) | (go_at_call 34; refine (HOF3.out _ H2.out.2).mono ?_; clear HOF3; rintro e w3 ⟨B2, m2, rfl, H3⟩) | (go_at_call 16; refine (num8_eq _ _).mono ?_; rintro e w6 ⟨rfl, rfl⟩))
        have K3 := Lib.hid ((HR.out.2.trans H2.out.2).trans H3.out.2)
        have htx := libText_any (H2.out.1.keep H3.out.2 (fun _ _ x => x)) (HX.out.2.2.1.1.keep K3.out) (HX.out.2.2.1.2.2.keep K3.out (fun x => x))
        have HTY : RowKit.Hid (∀ W, Keep No w3 W → Calls Tryz.prog 33 #[.pointer (some ⟨B2, 0, none⟩)] W fun e w' => e = .returned (.string ⟨(libS L).toArray⟩) ∧ RowKit.Hid (Keep No W w')) := fun W hW => by
          have := libText_any (H3.out.1.keep hW (fun _ _ x => x)) (HX.out.2.2.1.1.keep (K3.out.trans hW)) (HX.out.2.2.1.2.2.keep (K3.out.trans hW) (fun x => x))
          rw [← hls] at this
          exact this
        have HN1 : RowKit.Hid (∀ W, Keep No w3 W → Calls Tryz.prog 32 #[.pointer (some ⟨B1, 0, none⟩)] W fun e w' => ∃ a c, e = .returned (.slice a (namesL L).length c) ∧ RowKit.Hid (Keep No W w' ∧ Rd (.slice .str) w' (Fr W.heap.size w'.heap.size) [.slice a (namesL L).length c] (namesL L))) := fun W hW => by
          refine (libNames_any (H2.out.1.keep (H3.out.2.trans hW) (fun _ _ x => x))).mono ?_
          rintro e w' ⟨a, c, rfl, hh⟩
          exact ⟨a, c, rfl, hh.out.1, hh.out.2.1⟩
        have HN2 : RowKit.Hid (∀ W, Keep No w3 W → Calls Tryz.prog 32 #[.pointer (some ⟨B2, 0, none⟩)] W fun e w' => ∃ a c, e = .returned (.slice a (namesL L).length c) ∧ RowKit.Hid (Keep No W w' ∧ Rd (.slice .str) w' (Fr W.heap.size w'.heap.size) [.slice a (namesL L).length c] (namesL L))) := fun W hW => by
          have := libNames_any (H3.out.1.keep hW (fun _ _ x => x))
          rw [← hns] at this
          refine this.mono ?_
          rintro e w' ⟨a, c, rfl, hh⟩
          exact ⟨a, c, rfl, hh.out.1, hh.out.2.1⟩
        clear hls hns
        generalize hnl : namesL L = nl at *
        generalize nl.length = nn at *
        generalize libS L = tx at *
        go_wp2_with (first | (go_at_call 33; refine htx.mono ?_; clear htx; rintro e w4 ⟨rfl, HK4⟩) | (go_at_call 33; refine (HTY.out _ HK4.out).mono ?_; clear HTY; rintro e w5 ⟨rfl, HK5⟩) | (go_at_call 32; refine (HN1.out _ (HK4.out.trans HK5.out)).mono ?_; clear HN1; rintro e w6 ⟨a6, c6, rfl, H6⟩) | (go_at_call 32; refine (HN2.out _ ((HK4.out.trans HK5.out).trans H6.out.1)).mono ?_; clear HN2; rintro e w7 ⟨a7, c7, rfl, H7⟩) | (go_at_call 38; refine (rTexts_any _ _ _ _ _ nl nl (H6.out.2.agree _ H7.out.1.agreeNo) H7.out.2).mono ?_; rintro e w8 ⟨n8, rfl, rfl⟩; have K8 := Lib.hid (((((K3.out.trans HK4.out).trans HK5.out).trans H6.out.1).trans H7.out.1).drewN n8)) | (go_at_call 14; refine (HLV.out _ K8.out).mono ?_; rintro e w9 ⟨rfl, HK9⟩))
        go_ret
        exact ⟨rfl, HK9.out⟩
theorem LibraryOrder_calls (w : World) (ht : Tab w ∧ Errs w ∧ KindsW w) (v : Value) (L : List Prc) (h : Rd (.slice procSh) w (Lt w.heap.size) [v] L) (hb : (Sh.slice procSh).bulk L ≤ 1048576) (x1 : Int) (w1 : (Lit.int .i64 x1).wf = true) :
    Calls Tryz.prog 10 #[v, .int .i64 x1] w fun e w' => e = .returned (.bool true) ∧ Keep No w w' := by
  obtain ⟨a, c, e, -⟩ := id h
  simp only [List.cons.injEq, and_true] at e
  subst e
  exact LibraryOrder_main w ht _ a c L h (prcs_lens hb).2 x1
end Go.Proofs.YtfgdnakfikpmpaaGreatDoor
