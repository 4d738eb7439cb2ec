/-
  Parts of what is proved for this claim; each declaration is one of the seat's texts.
-/
import Derived.Test.YtpjcebajkfeacaaGreatDoorWGA
import Derived.Test.YtpjcebajkfeacaaGreatDoorWGC
import Derived.Test.YtpjcebajkfeacaaGreatDoorWGU
import Derived.Test.YtpjcebajkfeacaaGreatDoorWHD
import Derived.Test.YtpjcebajkfeacaaGreatDoorWHQ
import Derived.Test.YtpjcebajkfeacaaGreatDoorWHT
import Derived.Test.YtpjcebajkfeacaaGreatDoorWHU
import Derived.WalkKit
import Derived.WalkSpells
import Derived.WalkLawsBesides
import Derived.ProofKit
import Derived.Deep.Slices
import Derived.Deep.AppendSrc
import Derived.Lib.Hide
import Derived.Lib.ItoaNum
import Derived.Lib.Join
import Derived.Still
import Derived.StillTactics
import Derived.Recover
import Derived.Defers
import Derived.Deep.QuietTactic
import Derived.BigQuiet
import Derived.Handy
import Derived.Laws.Bits64b
import Derived.Lib.Zigzag
import Derived.OwnWalk
import Derived.Deep.DeepCutAuto
import Derived.Deep.LoopGhost
import Derived.Lib.Bytealg
import Derived.Laws.Externs
import Derived.Laws.CopyRow
import Derived.Laws.IdiomCopy
import Derived.Maps.OwnSet
import Derived.Maps.RangeWalk
import Derived.Shelf.SortM.Plain
import Derived.Shelf.SortM.SortNone
import Derived.Ground.SlgmProg
import Derived.Deep.WholeRow
import Derived.Maps.OwnOps
import Derived.Maps.Views
import Derived.Lib.EndianBits
import Derived.OpenShut
import Derived.Shelf.Strconv.Itoa4
import Derived.Shelf.Strings.BuilderK
import Derived.Shelf.Strings.OnBuilder
import Derived.Ground.NamesProg
import Derived.Lib.AppendIntMem
import Derived.Lib.UnsafeStr
set_option linter.unusedVariables false
set_option linter.unusedSimpArgs false
namespace Go.Proofs.YtpjcebajkfeacaaGreatDoor
open Go Go.RowKit Go.Deep
def allF : Nat → Bytes → List (Req × Int) × Bytes × Nat
  | 0, l => ([], l, 0)
  | f + 1, l => if (nextB l).1.2.2 = true then (((nextB l).1.1, (nextB l).1.2.1) :: (allF f (nextB l).2.1).1, (allF f (nextB l).2.1).2.1, (nextB l).2.2 + (allF f (nextB l).2.1).2.2)
    else ([], (nextB l).2.1, (nextB l).2.2)
theorem next_ok {l : Bytes} (h : (nextB l).1.2.2 = true) : (openB (l.drop (skipB l))).2.2 = 0 ∧ nextB l = (((reqGet (openB (l.drop (skipB l))).1).1, (reqGet (openB (l.drop (skipB l))).1).2.1, true), l.drop (skipB l + (openB (l.drop (skipB l))).2.1), skipB l) := by
  have h0 : (openB (l.drop (skipB l))).2.2 = 0 := by
    by_cases h0 : (openB (l.drop (skipB l))).2.2 = 0
    · exact h0
    · have := next_none (l := l) (ld := (openB (l.drop (skipB l))).1) (tk := (openB (l.drop (skipB l))).2.1) (er := (openB (l.drop (skipB l))).2.2) rfl rfl h0
      rw [this] at h
      cases h
  refine ⟨h0, next_some rfl ?_⟩
  rw [← h0]
theorem next_no {l : Bytes} (h : (nextB l).1.2.2 = false) : (openB (l.drop (skipB l))).2.2 ≠ 0 ∧ nextB l = ((req0, 0, false), l.drop (skipB l), skipB l) := by
  have h0 : (openB (l.drop (skipB l))).2.2 ≠ 0 := fun h0 => by
    have := next_some (l := l) (ld := (openB (l.drop (skipB l))).1) (tk := (openB (l.drop (skipB l))).2.1) rfl (by rw [← h0])
    rw [this] at h
    cases h
  exact ⟨h0, next_none rfl rfl h0⟩
theorem next_took {l : Bytes} (h : (nextB l).1.2.2 = true) : (nextB l).2.1.length + 8 ≤ l.length := by
  obtain ⟨h0, e⟩ := next_ok h
  have ht := open_took _ h0
  rw [e]
  simp only [List.length_drop] at ht ⊢
  omega
theorem wrong_more {l : Bytes} (h : wrongB l = true) (c : Bytes) : wrongB (l ++ c) = true := by
  unfold wrongB at h ⊢
  by_cases h3 : (openB l).2.2 = 3
  · unfold wrongE at h
    rw [h3] at h
    simp only [show decide ((3 : Int) = 1) = false from rfl, show decide ((3 : Int) = 12) = false from rfl, Bool.false_or, Bool.and_eq_true, decide_eq_true_eq] at h
    unfold wrongE
    rw [get4_more h.1, show decide (4 ≤ (l ++ c).length) = true by simp; omega, show decide (1024 < get4B l) = true by simp; exact h.2]
    simp
  · rw [open_more h3]
    unfold wrongE at h ⊢
    by_cases h4 : 4 ≤ l.length
    · rw [get4_more h4, show decide (4 ≤ (l ++ c).length) = true by simp; omega]
      rwa [show decide (4 ≤ l.length) = true by simp; omega] at h
    · rw [show decide (4 ≤ l.length) = false by simp; omega, Bool.false_and, Bool.or_false] at h
      rw [h, Bool.true_or]
theorem right_more {l : Bytes} (h : wrongB l = false) (h0 : (openB l).2.2 = 0) (c : Bytes) : wrongB (l ++ c) = false := by
  have ht := open_took l h0
  unfold wrongB at h ⊢
  rw [open_more (by rw [h0]; decide)]
  unfold wrongE at h ⊢
  rw [get4_more (by omega), show decide (4 ≤ (l ++ c).length) = true by simp; omega]
  rwa [show decide (4 ≤ l.length) = true by simp; omega] at h
theorem drop_app {l : Bytes} {k : Nat} (h : k ≤ l.length) (c : Bytes) : (l ++ c).drop k = l.drop k ++ c := List.drop_append_of_le_length h
theorem next_more {l : Bytes} (h : (nextB l).1.2.2 = true) (c : Bytes) : nextB (l ++ c) = ((nextB l).1, (nextB l).2.1 ++ c, (nextB l).2.2) := by
  obtain ⟨h0, e⟩ := next_ok h
  have hk := skip_le l
  have ht := open_took _ h0
  have hs : skipB (l ++ c) = skipB l := skip_is (fun j hj => by rw [drop_app (by omega)]; exact wrong_more (skip_wrong l j hj) c) (by
    rw [drop_app hk]
    exact right_more (skip_stop l) h0 c)
  have ho : openB ((l ++ c).drop (skipB l)) = openB (l.drop (skipB l)) := by
    rw [drop_app hk]
    exact open_more (by rw [h0]; decide) c
  have e2 := next_some (l := l ++ c) (ld := (openB (l.drop (skipB l))).1) (tk := (openB (l.drop (skipB l))).2.1) hs (by rw [ho, ← h0])
  rw [e2, e]
  simp only
  rw [drop_app (by have := ht.2.1; simp only [List.length_drop] at this; omega)]
theorem next_then {l : Bytes} (h : (nextB l).1.2.2 = false) (c : Bytes) : nextB (l ++ c) = ((nextB ((nextB l).2.1 ++ c)).1, (nextB ((nextB l).2.1 ++ c)).2.1, (nextB l).2.2 + (nextB ((nextB l).2.1 ++ c)).2.2) := by
  obtain ⟨-, e⟩ := next_no h
  rw [e]
  simp only
  have hk := skip_le l
  obtain ⟨k, hk'⟩ : ∃ k, skipB l = k := ⟨_, rfl⟩
  rw [hk'] at hk ⊢
  have hd : (l ++ c).drop k = l.drop k ++ c := drop_app hk c
  have hs : skipB (l ++ c) = k + skipB (l.drop k ++ c) := by
    refine skip_is (fun j hj => ?_) ?_
    · by_cases hjk : j < k
      · rw [drop_app (by omega)]; exact wrong_more (skip_wrong l j (by omega)) c
      · have := skip_wrong (l.drop k ++ c) (j - k) (by omega)
        rw [← hd, List.drop_drop, show k + (j - k) = j by omega] at this
        exact this
    · rw [← List.drop_drop, hd]
      exact skip_stop _
  unfold nextB
  simp only
  have hdd : (l ++ c).drop (k + skipB (l.drop k ++ c)) = (l.drop k ++ c).drop (skipB (l.drop k ++ c)) := by rw [← hd, List.drop_drop]
  rw [hs, hdd]
  split <;> rfl
theorem allF_enough : ∀ (f : Nat) (l : Bytes), l.length ≤ f → allF f l = allF l.length l := by
  suffices H : ∀ (m f g : Nat) (l : Bytes), l.length ≤ m → l.length ≤ f → l.length ≤ g → allF f l = allF g l from fun f l h => H l.length f l.length l (Nat.le_refl _) h (Nat.le_refl _)
  intro m
  induction m with
  | zero =>
    intro f g l hm hf hg
    have hl : l = [] := List.length_eq_zero_iff.1 (by omega)
    subst hl
    have hn : (nextB []).1.2.2 = false := by
      by_cases h : (nextB []).1.2.2 = true
      · have := next_took h; simp at this
      · simpa using h
    have e : ∀ f, allF f [] = ([], [], 0) := fun f => by
      cases f with
      | zero => rfl
      | succ f =>
        unfold allF
        rw [if_neg (by rw [hn]; decide), (next_no hn).2]
        simp [skipB]
    rw [e, e]
  | succ m ih =>
    intro f g l hm hf hg
    by_cases h : (nextB l).1.2.2 = true
    · have ht := next_took h
      obtain ⟨f, rfl⟩ : ∃ f', f = f' + 1 := ⟨f - 1, by omega⟩
      obtain ⟨g, rfl⟩ : ∃ g', g = g' + 1 := ⟨g - 1, by omega⟩
      unfold allF
      rw [if_pos h, if_pos h, ih f g _ (by omega) (by omega) (by omega)]
    · by_cases h0 : l.length = 0
      · exact ih f g l (by omega) hf hg
      · obtain ⟨f, rfl⟩ : ∃ f', f = f' + 1 := ⟨f - 1, by omega⟩
        obtain ⟨g, rfl⟩ : ∃ g', g = g' + 1 := ⟨g - 1, by omega⟩
        unfold allF
        rw [if_neg h, if_neg h]
def tellB (l : Bytes) : List (Req × Int) × Bytes × Nat := allF l.length l
theorem tell_all {f : Nat} {l : Bytes} (h : l.length ≤ f) : allF f l = tellB l := allF_enough f l h
theorem tell_ok {l : Bytes} (h : (nextB l).1.2.2 = true) : tellB l = (((nextB l).1.1, (nextB l).1.2.1) :: (tellB (nextB l).2.1).1, (tellB (nextB l).2.1).2.1, (nextB l).2.2 + (tellB (nextB l).2.1).2.2) := by
  have ht := next_took h
  rw [← tell_all (f := l.length + 1) (by omega)]
  conv => lhs; unfold allF
  rw [if_pos h, tell_all (f := l.length) (by omega)]
theorem tell_no {l : Bytes} (h : (nextB l).1.2.2 = false) : tellB l = ([], (nextB l).2.1, (nextB l).2.2) := by
  rw [← tell_all (f := l.length + 1) (by omega)]
  conv => lhs; unfold allF
  rw [if_neg (by rw [h]; decide)]
theorem tell_ok_more {l : Bytes} (h : (nextB l).1.2.2 = true) (c : Bytes) : tellB (l ++ c) = (((nextB l).1.1, (nextB l).1.2.1) :: (tellB ((nextB l).2.1 ++ c)).1, (tellB ((nextB l).2.1 ++ c)).2.1, (nextB l).2.2 + (tellB ((nextB l).2.1 ++ c)).2.2) := by
  have e := next_more h c
  rw [tell_ok (by rw [e]; exact h), e]
theorem tell_no_more {l : Bytes} (h : (nextB l).1.2.2 = false) (c : Bytes) : tellB (l ++ c) = ((tellB ((nextB l).2.1 ++ c)).1, (tellB ((nextB l).2.1 ++ c)).2.1, (nextB l).2.2 + (tellB ((nextB l).2.1 ++ c)).2.2) := by
  have e := next_then h c
  cases hb : (nextB ((nextB l).2.1 ++ c)).1.2.2 with
  | true =>
    rw [tell_ok (l := l ++ c) (by rw [e]; exact hb), tell_ok (l := (nextB l).2.1 ++ c) hb, e]
    simp only [Nat.add_assoc]
  | false =>
    rw [tell_no (l := l ++ c) (by rw [e]; exact hb), tell_no (l := (nextB l).2.1 ++ c) hb, e]
def Asked (T : Bytes) (a : List (Req × Int)) (cur : Bytes) (n : Nat) : Prop :=
  ∀ c, tellB (T ++ c) = (a ++ (tellB (cur ++ c)).1, (tellB (cur ++ c)).2.1, n + (tellB (cur ++ c)).2.2)
theorem Asked.nil : Asked [] [] [] 0 := fun c => by simp
theorem Asked.feed {T : Bytes} {a : List (Req × Int)} {cur : Bytes} {n : Nat} (h : Asked T a cur n) (x : Bytes) : Asked (T ++ x) a (cur ++ x) n := fun c => by
  have := h (x ++ c)
  simpa [List.append_assoc] using this
theorem Asked.ok {T : Bytes} {a : List (Req × Int)} {cur : Bytes} {n : Nat} (h : Asked T a cur n) (hk : (nextB cur).1.2.2 = true) : Asked T (a ++ [((nextB cur).1.1, (nextB cur).1.2.1)]) (nextB cur).2.1 (n + (nextB cur).2.2) := fun c => by
  rw [h c, tell_ok_more hk c]
  simp [Nat.add_assoc]
theorem Asked.no {T : Bytes} {a : List (Req × Int)} {cur : Bytes} {n : Nat} (h : Asked T a cur n) (hk : (nextB cur).1.2.2 = false) : Asked T a (nextB cur).2.1 (n + (nextB cur).2.2) := fun c => by
  rw [h c, tell_no_more hk c]
  simp [Nat.add_assoc]
theorem Asked.all {T : Bytes} {a : List (Req × Int)} {cur : Bytes} {n : Nat} (h : Asked T a cur n) : tellB T = (a ++ (tellB cur).1, (tellB cur).2.1, n + (tellB cur).2.2) := by
  have := h []
  simpa using this
end Go.Proofs.YtpjcebajkfeacaaGreatDoor
