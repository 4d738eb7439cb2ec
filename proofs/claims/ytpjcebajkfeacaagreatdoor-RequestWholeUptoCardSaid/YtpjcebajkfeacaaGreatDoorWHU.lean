/-
  Parts of what is proved for this claim; each declaration is one of the seat's texts.
-/
import Derived.Test.YtpjcebajkfeacaaGreatDoorWGA
import Derived.Test.YtpjcebajkfeacaaGreatDoorWGB
import Derived.Test.YtpjcebajkfeacaaGreatDoorWGC
import Derived.Test.YtpjcebajkfeacaaGreatDoorWGD
import Derived.Test.YtpjcebajkfeacaaGreatDoorWGF
import Derived.Test.YtpjcebajkfeacaaGreatDoorWGG
import Derived.Test.YtpjcebajkfeacaaGreatDoorWGI
import Derived.Test.YtpjcebajkfeacaaGreatDoorWHD
import Derived.Test.YtpjcebajkfeacaaGreatDoorWHT
import Derived.Still
import Derived.StillTactics
import Derived.WalkKit
import Derived.Recover
import Derived.Defers
import Derived.Deep.QuietTactic
import Derived.BigQuiet
import Derived.Handy
import Derived.Laws.Bits64b
import Derived.Lib.Zigzag
import Derived.WalkSpells
import Derived.WalkLawsBesides
import Derived.ProofKit
import Derived.Deep.Slices
import Derived.Deep.AppendSrc
import Derived.Lib.Hide
import Derived.Lib.EndianBits
import Derived.OpenShut
import Derived.Deep.LoopGhost
import Derived.Deep.DeepCutAuto
import Derived.OwnWalk
import Derived.Lib.Bytealg
import Derived.Laws.Externs
import Derived.Laws.CopyRow
import Derived.Laws.IdiomCopy
import Derived.Maps.OwnSet
import Derived.Maps.RangeWalk
import Derived.Shelf.SortM.Plain
import Derived.Shelf.SortM.SortNone
import Derived.Ground.SlgmProg
import Derived.Maps.OwnOps
import Derived.Lib.ItoaNum
import Derived.Lib.Join
import Derived.Deep.WholeRow
import Derived.Shelf.Strconv.Itoa4
import Derived.Shelf.Strings.BuilderK
import Derived.Shelf.Strings.OnBuilder
import Derived.Ground.NamesProg
import Derived.Lib.AppendIntMem
import Derived.Lib.UnsafeStr
import Derived.Maps.Views
set_option linter.unusedVariables false
set_option linter.unusedSimpArgs false
namespace Go.Proofs.YtpjcebajkfeacaaGreatDoor
open Go Go.RowKit Go.Deep
def wrongB (l : Bytes) : Bool := wrongE l (openB l).2.2
theorem wrong_nil : wrongB [] = false := by decide
def skipB : Bytes → Nat
  | [] => 0
  | x :: l => if wrongB (x :: l) then skipB l + 1 else 0
theorem skip_le : ∀ l : Bytes, skipB l ≤ l.length
  | [] => Nat.le_refl _
  | x :: l => by
    unfold skipB
    have := skip_le l
    split
    · simp only [List.length_cons]; omega
    · exact Nat.zero_le _
theorem skip_stop : ∀ l : Bytes, wrongB (l.drop (skipB l)) = false
  | [] => wrong_nil
  | x :: l => by
    unfold skipB
    split
    · simpa using skip_stop l
    · rename_i h; simpa using h
theorem skip_wrong : ∀ (l : Bytes) (j : Nat), j < skipB l → wrongB (l.drop j) = true
  | [], j, h => absurd h (Nat.not_lt_zero _)
  | x :: l, j, h => by
    unfold skipB at h
    split at h
    · rename_i hw
      cases j with
      | zero => simpa using hw
      | succ j => simpa using skip_wrong l j (by omega)
    · exact absurd h (Nat.not_lt_zero _)
theorem skip_is {l : Bytes} {k : Nat} (hk : ∀ j, j < k → wrongB (l.drop j) = true) (hs : wrongB (l.drop k) = false) : skipB l = k := by
  rcases Nat.lt_trichotomy (skipB l) k with h | h | h
  · have := hk _ h
    rw [skip_stop] at this
    cases this
  · exact h
  · rw [skip_wrong l k h] at hs
    cases hs
def nextB (l : Bytes) : (Req × Int × Bool) × Bytes × Nat :=
  let r := l.drop (skipB l)
  if (openB r).2.2 ≠ 0 then ((req0, 0, false), r, skipB l)
  else (((reqGet (openB r).1).1, (reqGet (openB r).1).2.1, true), r.drop (openB r).2.1, skipB l)
theorem next_none {l ld : Bytes} {k tk : Nat} {er : Int} (hs : skipB l = k) (ho : openB (l.drop k) = (ld, tk, er)) (he : er ≠ 0) : nextB l = ((req0, 0, false), l.drop k, k) := by
  unfold nextB
  simp only [hs, ho]
  rw [if_pos he]
theorem next_some {l ld : Bytes} {k tk : Nat} (hs : skipB l = k) (ho : openB (l.drop k) = (ld, tk, 0)) : nextB l = (((reqGet ld).1, (reqGet ld).2.1, true), l.drop (k + tk), k) := by
  unfold nextB
  simp only [hs, ho]
  rw [if_neg (by simp), List.drop_drop]
theorem next_end {l : Bytes} {k : Nat} (hk : ∀ j, j < k → wrongB (l.drop j) = true) (h : l.length = k) : nextB l = ((req0, 0, false), l.drop k, k) := by
  have hd : l.drop k = [] := List.drop_eq_nil_iff.2 (by omega)
  exact next_none (ld := []) (tk := 0) (er := 3) (skip_is hk (by rw [hd]; exact wrong_nil)) (by rw [hd]; rfl) (by decide)
end Go.Proofs.YtpjcebajkfeacaaGreatDoor
namespace Go.Proofs.YtpjcebajkfeacaaGreatDoor
open Go Go.RowKit Go.Deep
theorem rdb_from {w : World} {S : Nat → Prop} {a : Option Addr} {m c : Nat} {l : Bytes} (h : Rd bytesSh w S [.slice a m c] l) (k : Nat) (hk : k ≤ l.length) :
    Rd bytesSh w S [.slice (if c = k then a else Option.map (fun x => x.add k) a) (m - k) (c - k)] (l.drop k) := by
  have h' := h
  obtain ⟨a', c', hv, hle, hmax, hnil, hel⟩ := bytes_at h
  simp only [Value.slice.injEq] at hv
  obtain ⟨rfl, rfl, rfl⟩ := hv
  cases a with
  | none =>
    obtain ⟨hl, hc⟩ := hnil rfl
    subst hl
    have hk0 : k = 0 := by simpa using hk
    subst hk0
    subst hc
    exact h'
  | some p =>
    by_cases hck : c = k
    · rw [if_pos hck]
      have hd : l.drop k = [] := List.drop_eq_nil_iff.2 (by omega)
      rw [hd]
      exact ⟨_, _, by rw [show l.length - k = 0 by omega]; rfl, Nat.zero_le _, by omega, (fun e => by cases e), fun i hi => absurd hi (by simp)⟩
    · rw [if_neg hck]
      by_cases h0 : 0 < l.length
      · obtain ⟨b, off, e, -⟩ := hel 0 h0
        cases e
        simpa [Addr.add_lit] using rdb_drop h' k hk
      · have hl : l = [] := List.length_eq_zero_iff.1 (by omega)
        subst hl
        have hk0 : k = 0 := by simpa using hk
        subst hk0
        exact ⟨_, _, rfl, Nat.zero_le _, by omega, (fun e => by cases e), fun i hi => absurd hi (by simp)⟩
set_option maxRecDepth 10000 in
set_option maxHeartbeats 2000000 in
theorem next1_any (w : World) (T1 T5 s : Nat) (A : Nat → Prop) (l : Bytes) (n : Int) (k : Nat) (h : StreamIn w s A l n) (h1 : w.cell? ⟨T1, 0, none⟩ = some (.pointer (some ⟨s, 0, none⟩))) (h5 : w.cell? ⟨T5, 0, none⟩ = some (.int .i64 k)) (hk : k ≤ l.length) (hl : l.length ≤ 140737488355328) :
    CallsD Tryz.prog 83 #[.pointer (some ⟨T1, 0, none⟩), .pointer (some ⟨T5, 0, none⟩)] .returning w fun e u' w' => u' = .returning ∧ e = .returned (.tuple #[]) ∧ StreamIn w' s (Fr w.heap.size w'.heap.size) (l.drop k) n ∧ Keep (One s) w w' := by
  obtain ⟨a, m, c, h⟩ := h
  have hm := h.len
  have q0 := (blk_cell h.blk) 0
  have f0 := blk_fro h.blk
  simp only [List.getElem?_toArray, List.getElem?_cons_zero] at q0
  have i0 : (0 : Int) ≤ (k : Int) := by omega
  have i1 : (k : Int) ≤ (m : Int) := by omega
  have hr := Own.rd h.own
  have HH := Lib.hid (And.intro h (And.intro hm (And.intro hk (And.intro h1 (And.intro h5 hl)))))
  obtain ⟨a', c', hv, hle, hmax, hnil, hel⟩ := bytes_at hr
  simp only [Value.slice.injEq] at hv
  obtain ⟨rfl, -, rfl⟩ := hv
  have i2 : (m : Int) ≤ (c : Int) := by omega
  clear h hm hk hr hle hmax hnil hel
  refine callsD_of_wp (R := fun e w' => e = .returned (.tuple #[]) ∧ StreamIn w' s (Fr w.heap.size w'.heap.size) (l.drop k) n ∧ Keep (One s) w w') Tryz.func83 rfl ?_
  simp only [Tryz.ntmps83, List.size_toArray, List.length_cons, List.length_nil, Nat.reduceAdd, Nat.reduceSub, Array.replicate_succ, Array.replicate_zero, List.push_toArray, List.append_toArray, List.nil_append, List.cons_append]
  refine wp_region_canw [0, 1, 2, 3, 4, 5, 6, 7, 8, 9, 10] [7, 10] [(0, 7)] (by kernel_rfl) (by kernel_rfl) (by kernel_rfl) (by kernel_rfl) (by intro c a d v w h; cases d <;> exact h) ?_
  have K1 : Keep No w w.drew := (Keep.refl No w).drew
  have HK := Lib.hid K1
  clear K1
  have h1' : w.drew.cell? ⟨T1, 0, none⟩ = some (.pointer (some ⟨s, 0, none⟩)) := h1
  have h5' : w.drew.cell? ⟨T5, 0, none⟩ = some (.int .i64 k) := h5
  have q0' : w.drew.cell? ⟨s, 0, none⟩ = some (.slice a m c) := q0
  clear h1 h5 q0 f0
  generalize w.drew = w1 at *
  iterate 7 (refine canw_sil rfl rfl (fun K hK => ?_); go_simp; refine hK _ ?_; clear hK K)
  have hcl := (clone_bytes w1 _ _ (l.drop k) (rdb_from (h := (Own.rd HH.out.1.own).agree _ HK.out.agreeNo) k HH.out.2.2.1) (by have := HH.out.2.2.2.2.2; simp; omega)).mono (R' := fun e w2 => ∃ a2 n2 c2, e = .returned (.slice a2 n2 c2) ∧ w2.cell? ⟨T1, 0, none⟩ = some (.pointer (some ⟨s, 0, none⟩)) ∧ w2.heap[s]? = some (.cells #[.slice a m c, .int .i64 n] 144 (0, 0)) ∧ RowKit.Hid (Own (.int .u8) 5 w2 (Fr w.heap.size w2.heap.size) (.slice a2 n2 c2) (l.drop k) ∧ Keep No w w2 ∧ s < w.heap.size)) (by
    rintro e w2 ⟨a2, c2, rfl, ho, hk⟩
    have hk' := HK.out.trans hk
    refine ⟨a2, _, c2, rfl, by rw [hk'.cell (World.block_lt_of_cell? _ _ HH.out.2.2.2.1) (fun x => x)]; exact HH.out.2.2.2.1, hk'.blk HH.out.1.blk (fun x => x), ho.mono fun i hi => ⟨Nat.le_trans HK.out.size hi.1, hi.2⟩, hk', blk_lt HH.out.1.blk⟩)
  generalize (if c = k then a else Option.map (fun x => x.add k) a) = av at hcl ⊢
  refine canw_loud [0] rfl rfl rfl (fun K hK => ?_)
  go_wp2_with (go_at_call 84; refine hcl.mono ?_; clear hcl h1' h5' q0'; rintro e w2 ⟨a2, n2, c2, rfl, hp, hb, H2⟩)
  refine Mid.normal (hK _ _ ?_ ?_)
  · simp only [List.forall_mem_cons]
    refine ⟨?_, stabs_nil⟩ <;> exact stab_of rfl (fun K hK => by go_simp; exact hK)
  clear hK K hp
  have q2 := blk_cell hb
  have f2 := blk_fro hb
  iterate 2 (refine canw_sil rfl rfl (fun K hK => ?_); go_simp; refine hK _ ?_; clear hK K)
  refine canw_loud [] rfl rfl rfl (fun K hK => ?_)
  go_wp2_with fail
  refine Mid.normal (hK _ _ stabs_nil ?_)
  clear hK K
  refine canw_nil ?_
  have b3 := blk_set hb 0 (.slice a2 n2 c2)
  have k3 := keep_set w2 s 0 (.slice a2 n2 c2)
  have hz : (w2.setCell ⟨s, 0, none⟩ (.slice a2 n2 c2)).heap.size = w2.heap.size := by simp
  refine ⟨rfl, .tuple #[], by simp [results, Tryz.results83, go_sem], rfl, ⟨a2, n2, c2, by simpa using b3, ?_, ?_⟩, ?_⟩
  · rw [hz]
    exact H2.out.1.agree (agree_set (fun hh => by have := hh.1; have := H2.out.2.2; omega) 0 _)
  · exact fun hh => by have := hh.1; have := H2.out.2.2; omega
  · exact (H2.out.2.1.mono fun _ _ x => x.elim).trans k3
end Go.Proofs.YtpjcebajkfeacaaGreatDoor
