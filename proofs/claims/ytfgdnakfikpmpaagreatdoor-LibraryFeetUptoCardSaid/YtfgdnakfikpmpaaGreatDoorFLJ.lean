/-
  Parts of what is proved for this claim; each declaration is one of the seat's texts.
-/
import Derived.Test.YtfgdnakfikpmpaaGreatDoorFLD
import Derived.Shelf.SlIter.Nil
set_option linter.unusedVariables false
set_option linter.unusedSimpArgs false
namespace Go.Proofs.YtfgdnakfikpmpaaGreatDoor
open Go Go.RowKit Go.Deep
theorem joinC_any (w : World) (S : Nat → Prop) (a : Option Addr) (c : Nat) (xs : List ByteArray) (h : Rd (.slice .str) w S [.slice a xs.length c] xs) (sep : ByteArray) (hlen : (Lib.join (xs.map (·.data.toList)) sep.data.toList).length ≤ 140737488355328) (hN : xs.length ≤ 1073741824) :
    Calls Tryz.prog 59 #[.slice a xs.length c, .string sep] w (SaysU w (Lib.join (xs.map (·.data.toList)) sep.data.toList)) := by
  have hf := fun i hi => strs_cells h i hi
  cases xs with
  | nil =>
    clear h hlen hN hf
    go_enter Tryz.func59, Tryz.ntmps59
    go_wp2_with fail
    go_ret
    exact ⟨rfl, Keep.refl _ _⟩
  | cons x r =>
    obtain ⟨bk, o, rfl, -, hb⟩ := hf 0 (by simp)
    have hc := Rd.sliceForm h
    obtain ⟨a', c', e, hcap, -⟩ := hc
    simp only [List.cons.injEq, Value.slice.injEq, and_true] at e
    refine (Any.strings_Join Tryz.laysJoin Tryz.buildX bk o c (x :: r) sep w (fun j y hj => ?_) hb (by omega) (by rw [e.2.2]; exact hcap) hlen).mono ?_
    · have hjl : j < (x :: r).length := (List.getElem?_eq_some_iff.1 hj).1
      obtain ⟨b2, o2, e2, hcell, -⟩ := hf j hjl
      simp only [Option.some.injEq, Addr.mk.injEq, and_true] at e2
      obtain ⟨rfl, rfl⟩ := e2
      rw [List.getElem?_eq_getElem hjl] at hj
      rw [hcell]
      simpa using hj
    · rintro e w' ⟨rfl, hk⟩
      exact ⟨rfl, Keep.ofBelow hk⟩
def PsAt (w : World) (P : Nat) (S : Nat → Prop) (nm : ByteArray) (ks : List Int) (dep : Bool) (rs ws : List ByteArray) : Prop :=
  ∃ a1 c1 a2 c2 a3 c3, w.heap[P]? = some (.cells #[.string nm, .slice a1 ks.length c1, .bool dep, .slice a2 rs.length c2, .slice a3 ws.length c3, .int .i64 0, .slice none 0 0, .slice none 0 0] 29 (0, 0)) ∧
    Rd (.slice (.int .i64)) w S [.slice a1 ks.length c1] ks ∧ Rd (.slice .str) w S [.slice a2 rs.length c2] rs ∧ Rd (.slice .str) w S [.slice a3 ws.length c3] ws
theorem PsAt.keep {w w' : World} {P : Nat} {S : Nat → Prop} {nm : ByteArray} {ks : List Int} {dep : Bool} {rs ws : List ByteArray} (h : PsAt w P S nm ks dep rs ws) {M : Nat → Prop} (hk : Keep M w w') (hP : ¬ M P) (hM : ∀ k, S k → ¬ M k) : PsAt w' P S nm ks dep rs ws := by
  obtain ⟨a1, c1, a2, c2, a3, c3, h0, h1, h2, h3⟩ := h
  have hag : Agree S w w' := hk.agree fun k _ hs hm => hM k hs hm
  exact ⟨a1, c1, a2, c2, a3, c3, hk.blk h0 hP, h1.agree _ hag, h2.agree _ hag, h3.agree _ hag⟩
theorem parseF_end {f : Nat} {L : List Prc} {lines : List ByteArray} {i : Nat} (h : lines.length ≤ i) : parseF f L lines i = .inl L := by
  cases f with
  | zero => rfl
  | succ f => rw [parseF, if_pos h]
theorem parseF_err {f : Nat} {L : List Prc} {lines : List ByteArray} {i : Nat} {e : Int × Int} (h : i < lines.length) (hf : lines.length - i ≤ f) (hb : blockT L lines i = .inr e) : parseF f L lines i = .inr e := by
  obtain ⟨g, rfl⟩ : ∃ g, f = g + 1 := ⟨f - 1, by omega⟩
  rw [parseF, if_neg (by omega), hb]
theorem parseF_more {f : Nat} {L : List Prc} {lines : List ByteArray} {i : Nat} {x : Prc × Nat} (h : i < lines.length) (hf : lines.length - i ≤ f) (hb : blockT L lines i = .inl x) (hx : i < x.2) : ∃ g, lines.length - x.2 ≤ g ∧ parseF f L lines i = parseF g (L ++ [x.1]) lines x.2 := by
  obtain ⟨g, rfl⟩ : ∃ g, f = g + 1 := ⟨f - 1, by omega⟩
  refine ⟨g, by omega, ?_⟩
  rw [parseF, if_neg (by omega), hb]
theorem endAt_stop {lines : List ByteArray} {i : Nat} (h : lines.length ≤ i ∨ ∃ hi : i < lines.length, isW lines[i] endW = true) : endAt lines i = i := by
  unfold endAt
  rcases h with h | ⟨hi, h⟩
  · rw [List.drop_of_length_le h]; rfl
  · rw [List.drop_eq_getElem_cons hi, List.takeWhile_cons_of_neg (by simp [h])]; rfl
theorem endAt_step {lines : List ByteArray} {i : Nat} (hi : i < lines.length) (h : isW lines[i] endW = false) : endAt lines i = endAt lines (i + 1) := by
  unfold endAt
  rw [List.drop_eq_getElem_cons hi, List.takeWhile_cons_of_pos (by simp [h])]
  simp
  omega
theorem getD_at {lines : List ByteArray} {i : Nat} (hi : i < lines.length) : lines.getD i noText = lines[i] := by simp [List.getD, hi]
theorem Rd.midT {w : World} {S : Nat → Prop} {b off n c : Nat} {l : List ByteArray} (h : Rd (.slice .str) w S [.slice (some ⟨b, off, none⟩) n c] l) (i j : Nat) (hij : i ≤ j) (hj : j ≤ l.length) : Rd (.slice .str) w S [.slice (some ⟨b, off + i, none⟩) ((l.drop i).take (j - i)).length (c - i)] ((l.drop i).take (j - i)) := by
  obtain ⟨a', c', e, h1, h2, h3, h4⟩ := h
  simp only [List.cons.injEq, Value.slice.injEq, and_true] at e
  obtain ⟨rfl, rfl, rfl⟩ := e
  have hlen : ((l.drop i).take (j - i)).length = j - i := by simp; omega
  refine ⟨_, _, rfl, by rw [hlen]; omega, by omega, fun e => (by cases e), fun q hq => ?_⟩
  rw [hlen] at hq
  obtain ⟨b', off', row, e, g1, g2, g3, g4, g5⟩ := h4 (i + q) (by omega)
  simp only [Option.some.injEq, Addr.mk.injEq, and_true] at e
  obtain ⟨rfl, rfl⟩ := e
  refine ⟨b, off + i, row, rfl, g1, g2, g3, by simp only [Sh.size, Nat.mul_one] at g4 ⊢; rw [Nat.add_assoc]; exact g4, ?_⟩
  have hge : ((l.drop i).take (j - i))[q]'(by rw [hlen]; exact hq) = l[i + q]'(by omega) := by rw [List.getElem_take, List.getElem_drop]
  rw [hge]
  exact g5
end Go.Proofs.YtfgdnakfikpmpaaGreatDoor
namespace Go.Proofs.YtfgdnakfikpmpaaGreatDoor
open Go Go.RowKit Go.Deep
def lensP (l : List ByteArray) : Nat := (l.map fun x => x.size + 1).sum
theorem lensP_cut (c : UInt8) (s : ByteArray) : lensP (cutT' c s) = s.size + 1 := by
  have : ∀ l : List UInt8, ((cutL c l).map fun x => x.length + 1).sum = l.length + 1 := by
    intro l
    induction l with
    | nil => simp [cutL]
    | cons b l ih =>
      unfold cutL
      by_cases h : b = c
      · rw [if_pos h]; simp; omega
      · rw [if_neg h]
        cases hq : cutL c l with
        | nil => exact absurd hq (cutL_ne c l)
        | cons a t =>
          rw [hq] at ih
          simp at ih ⊢
          omega
  have h := this s.data.toList
  unfold lensP cutT'
  rw [List.map_map]
  have e : ((fun x : ByteArray => x.size + 1) ∘ fun l : List UInt8 => (⟨l.toArray⟩ : ByteArray)) = fun x => x.length + 1 := by
    funext x
    show x.toArray.size + 1 = x.length + 1
    rw [List.size_toArray]
  rw [e, h]
  rfl
theorem lensP_sub {l m : List ByteArray} (h : l.Sublist m) : lensP l ≤ lensP m := by
  unfold lensP
  induction h with
  | slnil => exact Nat.le_refl _
  | cons a h ih => simp; omega
  | cons_cons a h ih => simp; omega
theorem join_le (xs : List ByteArray) (c : UInt8) : (Lib.join (xs.map (·.data.toList)) [c]).length ≤ lensP xs := by
  cases xs with
  | nil => exact Nat.zero_le _
  | cons x r =>
    rw [List.map_cons, Lib.join_cons, List.length_append]
    unfold lensP Lib.joinTail
    have hx : x.data.toList.length = x.size := rfl
    have : ∀ r : List ByteArray, ((r.map (·.data.toList)).map ([c] ++ ·)).flatten.length ≤ (r.map fun x => x.size + 1).sum := by
      intro r
      induction r with
      | nil => simp
      | cons y r ih =>
        have hy : y.data.toList.length = y.size := rfl
        simp at ih ⊢
        omega
    have h2 := this r
    simp only [List.map_cons, List.sum_cons]
    omega
theorem headS_name {s : ByteArray} {p : Prc} (h : headS s = some p) : nameOk p.name = true := by
  unfold headS at h
  split at h
  · cases h
  · rename_i hn
    split at h
    · simp only [Option.some.injEq] at h
      subst h
      cases hq : nameOk ((wordsT s).getD 1 noText) with
      | true => exact hq
      | false => exact absurd (.inr (.inr hq)) hn
    · cases h
theorem asmT_args (s : ByteArray) : 0 ≤ (asmT s).1.args ∧ (asmT s).1.args ≤ 8 := by
  have h0 : (0 : Int) ≤ pgm0.args ∧ pgm0.args ≤ 8 := ⟨Int.le_refl _, by decide⟩
  rw [asmT_rd]
  split
  · exact h0
  · split
    · exact h0
    · cases linkS (rdS s).1.labs (rdS s).1.code.length (rdS s).1.uses (rdS s).1.code (rdS s).1.wher with
      | inr e => exact h0
      | inl code =>
        simp only
        split
        · exact h0
        · rename_i hz
          have := (pgmE_zero (Classical.not_not.1 hz)).2
          exact (formL_ok this).1
def AsmS.Wb (x : AsmS) (M : Int) : Prop := ∀ w ∈ x.wher, 0 ≤ w ∧ w ≤ M
theorem pushS_wb {x : AsmS} {M : Int} (h : x.Wb M) (op k : Int) (t : ByteArray) {at' : Int} (ha : 0 ≤ at' ∧ at' ≤ M) : (pushS x op k t at').1.Wb M := by
  unfold pushS
  split
  · exact h
  · intro w hw
    rcases List.mem_append.1 hw with hw | hw
    · exact h w hw
    · simp only [List.mem_singleton] at hw
      subst hw
      exact ha
theorem constS_wb {x : AsmS} {M : Int} (h : x.Wb M) (t : ByteArray) : (constS x t).1.Wb M := by
  unfold constS
  cases valOf t with
  | none => exact h
  | some v =>
    simp only
    split
    · exact h
    · cases x.consts.findIdx? (fun c => decide (c = v)) with
      | some i => exact h
      | none =>
        simp only
        split
        · exact h
        · exact h
theorem instrS_wb {x : AsmS} {M : Int} (h : x.Wb M) (l : List ByteArray) {at' : Int} (ha : 0 ≤ at' ∧ at' ≤ M) : (instrS x l at').1.Wb M := by
  unfold instrS
  simp only
  split
  · exact h
  · split
    · exact h
    · split
      · split
        · exact h
        · exact pushS_wb (constS_wb h _) _ _ _ ha
      · split
        · cases numOf (l.getD 1 noText) with
          | none => exact h
          | some n =>
            simp only
            split
            · exact h
            · exact pushS_wb h _ _ _ ha
        · split
          · split
            · exact h
            · exact pushS_wb h _ _ _ ha
          · exact pushS_wb h _ _ _ ha
theorem labelS_wb {x : AsmS} {M : Int} (h : x.Wb M) (s : ByteArray) : (labelS x s).1.Wb M := by
  unfold labelS
  split
  · exact h
  · split
    · exact h
    · exact h
theorem argsS_wb {x : AsmS} {M : Int} (h : x.Wb M) (l : List ByteArray) : (argsS x l).1.Wb M := by
  unfold argsS
  split
  · exact h
  · match l with
    | [] => exact h
    | [t] =>
      simp only
      cases numOf t with
      | none => exact h
      | some k =>
        simp only
        split
        · exact h
        · exact h
    | _ :: _ :: _ => exact h
theorem lineS_wb {x : AsmS} {M : Int} (h : x.Wb M) (s : ByteArray) {k : Int} (ha : 0 ≤ k ∧ k ≤ M) : (lineS x s k).1.Wb M := by
  unfold lineS
  split
  · exact h
  · cases toks s with
    | nil => exact h
    | cons t l =>
      simp only
      split
      · split
        · exact h
        · cases l with
          | nil => exact labelS_wb h _
          | cons a l => exact instrS_wb (labelS_wb h _) _ ha
      · split
        · exact argsS_wb h _
        · exact instrS_wb h _ ha
theorem readS_wb {M : Int} : ∀ (l : List ByteArray) (x : AsmS) (k : Int), x.Wb M → 0 ≤ k → k + l.length ≤ M → (readS x l k).1.Wb M ∧ 0 ≤ (readS x l k).2.2 ∧ (readS x l k).2.2 ≤ M
  | [], x, k, h, h0, h1 => ⟨h, Int.le_refl _, by simp at h1; show (0 : Int) ≤ M; omega⟩
  | s :: l, x, k, h, h0, h1 => by
    simp only [List.length_cons] at h1
    rw [readS_step]
    split
    · exact ⟨h, by show 0 ≤ k + 1; omega, by show k + 1 ≤ M; omega⟩
    · exact readS_wb l _ _ (lineS_wb h s ⟨by omega, by omega⟩) (by omega) (by omega)
theorem linkS_at (labs : List (ByteArray × Nat)) (len : Nat) : ∀ (us : List ByteArray) (cs : List Ins) (ws : List Int) (e : Int × Int), linkS labs len us cs ws = .inr e → e.2 ∈ ws
  | [], cs, ws, e, h => by simp [linkS] at h
  | u :: us, [], ws, e, h => by simp [linkS] at h
  | u :: us, c :: cs, [], e, h => by simp [linkS] at h
  | u :: us, c :: cs, w :: ws, e, h => by
    rw [linkS_cons] at h
    split at h
    · cases hr : linkS labs len us cs ws with
      | inl r => rw [hr] at h; cases h
      | inr e' => rw [hr] at h; cases h; exact List.mem_cons_of_mem _ (linkS_at labs len us cs ws e hr)
    · cases hl : labAt labs u with
      | none => rw [hl] at h; cases h; exact List.mem_cons_self
      | some n =>
        rw [hl] at h
        simp only at h
        split at h
        · cases h; exact List.mem_cons_self
        · cases hr : linkS labs len us cs ws with
          | inl r => rw [hr] at h; cases h
          | inr e' => rw [hr] at h; cases h; exact List.mem_cons_of_mem _ (linkS_at labs len us cs ws e hr)
theorem asmT_line (s : ByteArray) : 0 ≤ (asmT s).2.2 ∧ (asmT s).2.2 ≤ 65537 := by
  have hw : (rdS s).1.Wb 65537 ∧ 0 ≤ (rdS s).2.2 ∧ (rdS s).2.2 ≤ 65537 := by
    unfold rdS
    split
    · exact ⟨fun w hw => (by cases hw), Int.le_refl _, by decide⟩
    · have h1 := (pcs_bd 10 s).1
      exact readS_wb (linesT s) asm0 0 (fun w hw => by cases hw) (Int.le_refl _) (by have : (linesT s).length ≤ s.size + 1 := h1; omega)
  rw [asmT_rd]
  split
  · exact hw.2
  · split
    · exact ⟨Int.le_refl _, by decide⟩
    · cases hl : linkS (rdS s).1.labs (rdS s).1.code.length (rdS s).1.uses (rdS s).1.code (rdS s).1.wher with
      | inr e => exact hw.1 _ (linkS_at _ _ _ _ _ _ hl)
      | inl code =>
        simp only
        split
        · simp only
          rw [List.getD_eq_getElem?_getD]
          cases hg : (rdS s).1.wher[((pgmE (rdS s).1.args (rdS s).1.consts code).2).toNat]? with
          | none => exact ⟨Int.le_refl _, by decide⟩
          | some v => exact hw.1 v (List.mem_of_getElem? hg)
        · exact ⟨Int.le_refl _, by show (0 : Int) ≤ 65537; decide⟩
theorem joinT_size (xs : List ByteArray) : (joinT xs).size = (Lib.join (xs.map (·.data.toList)) [10]).length := by
  show (Lib.join (xs.map (·.data.toList)) [10]).toArray.size = _
  rw [List.size_toArray]
end Go.Proofs.YtfgdnakfikpmpaaGreatDoor
