/-
  Parts of what is proved for this claim; each declaration is one of the seat's texts.
-/
import Derived.Test.YtfgdnakfikpmpaaGreatDoorFLQ
import Derived.Test.YtfgdnakfikpmpaaGreatDoorFStS
import Derived.Test.YtfgdnakfikpmpaaGreatDoorFLB
set_option linter.unusedVariables false
set_option linter.unusedSimpArgs false
namespace Go.Proofs.YtfgdnakfikpmpaaGreatDoor
open Go Go.RowKit Go.Deep
def isTgt (code : List Ins) (k : Nat) : Bool := code.any fun i => decide ((opAt i.1).2.1 = 3) && decide (i.2.1 = (k : Int))
def lblNo (code : List Ins) (k : Nat) : Nat := ((List.range k).filter (isTgt code)).length
def lblW (n : Nat) : List UInt8 := 108 :: Lib.itoa n
def lblS (code : List Ins) (k : Nat) : List UInt8 := if isTgt code k then lblW (lblNo code k) else []
def headA (code : List Ins) (k : Nat) : List UInt8 := if isTgt code k then lblS code k ++ [58, 32] else []
def operS (cs : List Val) (code : List Ins) (i : Ins) : List UInt8 :=
  if (opAt i.1).2.1 = 1 then 32 :: (cs.getD i.2.1.toNat val0).print
  else if (opAt i.1).2.1 = 2 then 32 :: Lib.itoa i.2.1
  else if (opAt i.1).2.1 = 3 then 32 :: lblS code i.2.1.toNat else []
def insS (cs : List Val) (code : List Ins) (k : Nat) (i : Ins) : List UInt8 := headA code k ++ (opAt i.1).1.data.toList ++ operS cs code i ++ [10]
def insF (cs : List Val) (code : List Ins) : Nat → List Ins → List UInt8
  | _, [] => []
  | k, i :: l => insS cs code k i ++ insF cs code (k + 1) l
def argsHd (n : Int) : List UInt8 := if 0 < n then [97, 114, 103, 115, 32] ++ Lib.itoa n ++ [10] else []
def disS (g : Pgm) : List UInt8 := argsHd g.args ++ insF g.consts g.code 0 g.code
def kindW (k : Int) : List UInt8 := if k = 1 then [105, 110, 116] else if k = 2 then [116, 101, 120, 116] else [97, 110, 121]
def kindsS : List Int → List UInt8
  | [] => []
  | k :: l => 32 :: kindW k ++ kindsS l
def depW : List UInt8 := [100, 101, 112, 101, 110, 100, 101, 110, 116]
def procW : List UInt8 := [112, 114, 111, 99]
def readsW : List UInt8 := [114, 101, 97, 100, 115]
def writesW : List UInt8 := [119, 114, 105, 116, 101, 115]
def endW : List UInt8 := [101, 110, 100]
def tmplsS (word : List UInt8) (l : List ByteArray) : List UInt8 := if l.length = 0 then [] else word ++ [32] ++ Lib.join (l.map (·.data.toList)) [32] ++ [10]
def blockS (p : Prc) : List UInt8 := procW ++ [32] ++ p.name.data.toList ++ kindsS p.kinds ++ (if p.dep then 32 :: depW else []) ++ [10] ++ tmplsS readsW p.reads ++ tmplsS writesW p.writes ++ disS p.pgm
def textF (L : List Prc) : List ByteArray → List UInt8
  | [] => []
  | n :: l => blockS ((findP L n).getD prc0) ++ endW ++ [10] ++ textF L l
def libS (L : List Prc) : List UInt8 := textF L (namesL L)
def wordsT (s : ByteArray) : List ByteArray := cutT' 32 s
def kindOf (s : ByteArray) : Int := if s.data.toList = kindW 1 then 1 else if s.data.toList = kindW 2 then 2 else if s.data.toList = kindW 3 then 3 else 0
def isW (s : ByteArray) (w : List UInt8) : Bool := decide (s.data.toList = w)
def headK (l : List ByteArray) : List ByteArray × Bool := if 0 < l.length ∧ isW (l.getD (l.length - 1) noText) depW = true then (l.take (l.length - 1), true) else (l, false)
def headS (s : ByteArray) : Option Prc :=
  if (wordsT s).length < 2 ∨ isW ((wordsT s).getD 0 noText) procW = false ∨ nameOk ((wordsT s).getD 1 noText) = false then none else
  if (headK ((wordsT s).drop 2)).1.all (fun x => decide (kindOf x ≠ 0)) = true then
    some (mkPrc ((wordsT s).getD 1 noText) ((headK ((wordsT s).drop 2)).1.map kindOf) (headK ((wordsT s).drop 2)).2 [] [] pgm0)
  else none
def hasPre (w : List UInt8) (s : ByteArray) : Bool := decide (s.data.toList.take w.length = w)
def tmplsT (w : List UInt8) (s : ByteArray) : List ByteArray × Bool × Bool :=
  if hasPre (w ++ [32]) s = false then ([], false, true) else
  (wordsT (s.extract (w.length + 1) s.size), true, (wordsT (s.extract (w.length + 1) s.size)).all fun x => decide (0 < x.size))
def linesL (s : ByteArray) : List ByteArray := if ((linesT s).getD ((linesT s).length - 1) noText).size = 0 then (linesT s).take ((linesT s).length - 1) else linesT s
def sideT' (w : List UInt8) (lines : List ByteArray) (i : Nat) : (List ByteArray × Nat) ⊕ Nat :=
  if lines.length ≤ i then .inl ([], i) else
  if (tmplsT w (lines.getD i noText)).2.2 = false then .inr (i + 1) else
  if (tmplsT w (lines.getD i noText)).2.1 = true then .inl ((tmplsT w (lines.getD i noText)).1, i + 1) else .inl ([], i)
def endAt (lines : List ByteArray) (i : Nat) : Nat := i + ((lines.drop i).takeWhile fun s => !isW s endW).length
def joinT (l : List ByteArray) : ByteArray := ⟨(Lib.join (l.map (·.data.toList)) [10]).toArray⟩
noncomputable def blockT (L : List Prc) (lines : List ByteArray) (i : Nat) : (Prc × Nat) ⊕ (Int × Int) :=
  match headS (lines.getD i noText) with
  | none => .inr (84, (i : Int) + 1)
  | some p =>
    match sideT' readsW lines (i + 1) with
    | .inr k => .inr (84, k)
    | .inl r =>
      match sideT' writesW lines r.2 with
      | .inr k => .inr (84, k)
      | .inl wr =>
        let j := endAt lines wr.2
        if lines.length ≤ j then .inr (84, (lines.length : Int) + 1) else
        let a := asmT (joinT ((lines.drop wr.2).take (j - wr.2)))
        if a.2.1 ≠ 0 then .inr (a.2.1, if a.2.2 = 0 then (i : Int) + 1 else wr.2 + a.2.2) else
        let q := mkPrc p.name p.kinds p.dep r.1 wr.1 a.1
        if addE L q ≠ 0 then .inr (addE L q, (i : Int) + 1) else .inl (q, j + 1)
noncomputable def parseF : Nat → List Prc → List ByteArray → Nat → List Prc ⊕ (Int × Int)
  | 0, L, _, _ => .inl L
  | f + 1, L, lines, i => if lines.length ≤ i then .inl L else
    match blockT L lines i with
    | .inr e => .inr e
    | .inl x => parseF f (L ++ [x.1]) lines x.2
noncomputable def parseT (s : ByteArray) : List Prc ⊕ (Int × Int) := parseF (linesL s).length [] (linesL s) 0
end Go.Proofs.YtfgdnakfikpmpaaGreatDoor
namespace Go.Proofs.YtfgdnakfikpmpaaGreatDoor
open Go Go.RowKit Go.Deep
theorem valOf_ok {s : ByteArray} {v : Val} (h : valOf s = some v) : v.ok = true ∧ v.In ∧ s.data.toList = v.print := by
  unfold valOf at h
  split at h
  · rename_i hx
    simp only [Option.some.injEq] at h
    subst h
    exact hx.choose_spec
  · cases h
def AsmS.Cg (x : AsmS) : Prop := ∀ v ∈ x.consts, badC v = false
theorem labelS_cg {x : AsmS} (h : x.Cg) (s : ByteArray) : (labelS x s).1.Cg := by
  unfold labelS
  split
  · exact h
  · split
    · exact h
    · exact h
theorem argsS_cg {x : AsmS} (h : x.Cg) (l : List ByteArray) : (argsS x l).1.Cg := by
  unfold argsS
  split
  · exact h
  · match l with
    | [] => exact h
    | [t] =>
      simp only
      cases numOf t with
      | none => exact h
      | some k =>
        simp only
        split
        · exact h
        · exact h
    | _ :: _ :: _ => exact h
theorem constS_cg {x : AsmS} (h : x.Cg) (t : ByteArray) : (constS x t).1.Cg := by
  unfold constS
  cases hv : valOf t with
  | none => exact h
  | some v =>
    simp only
    split
    · exact h
    · rename_i hk
      cases x.consts.findIdx? (fun c => decide (c = v)) with
      | some i => exact h
      | none =>
        simp only
        split
        · exact h
        · intro u hu
          rcases List.mem_append.1 hu with hu | hu
          · exact h u hu
          · simp only [List.mem_singleton] at hu
            subst hu
            unfold badC
            rw [(valOf_ok hv).1]
            simpa using hk
theorem pushS_cg {x : AsmS} (h : x.Cg) (op k : Int) (t : ByteArray) (at' : Int) : (pushS x op k t at').1.Cg := by
  unfold pushS
  split
  · exact h
  · exact h
theorem instrS_cg {x : AsmS} (h : x.Cg) (l : List ByteArray) (at' : Int) : (instrS x l at').1.Cg := by
  unfold instrS
  simp only
  split
  · exact h
  · split
    · exact h
    · split
      · split
        · exact h
        · exact pushS_cg (constS_cg h _) _ _ _ _
      · split
        · cases numOf (l.getD 1 noText) with
          | none => exact h
          | some n =>
            simp only
            split
            · exact h
            · exact pushS_cg h _ _ _ _
        · split
          · split
            · exact h
            · exact pushS_cg h _ _ _ _
          · exact pushS_cg h _ _ _ _
theorem lineS_cg {x : AsmS} (h : x.Cg) (s : ByteArray) (k : Int) : (lineS x s k).1.Cg := by
  unfold lineS
  split
  · exact h
  · cases toks s with
    | nil => exact h
    | cons t l =>
      simp only
      split
      · split
        · exact h
        · cases l with
          | nil => exact labelS_cg h _
          | cons a l => exact instrS_cg (labelS_cg h _) _ _
      · split
        · exact argsS_cg h _
        · exact instrS_cg h _ _
theorem readS_cg : ∀ (l : List ByteArray) (x : AsmS) (k : Int), x.Cg → (readS x l k).1.Cg
  | [], x, k, h => h
  | s :: l, x, k, h => by
    show (if (lineS x s (k + 1)).2 ≠ 0 then (x, (lineS x s (k + 1)).2, k + 1) else readS (lineS x s (k + 1)).1 l (k + 1)).1.Cg
    split
    · exact h
    · exact readS_cg l _ _ (lineS_cg h s _)
def AsmS.Lp (x : AsmS) : Prop := ∀ p ∈ x.labs, p.2 ≤ x.code.length
theorem labelS_lp {x : AsmS} (h : x.Lp) (s : ByteArray) : (labelS x s).1.Lp := by
  unfold labelS
  split
  · exact h
  · split
    · exact h
    · intro p hp
      rcases List.mem_append.1 hp with hp | hp
      · exact h p hp
      · simp only [List.mem_singleton] at hp
        subst hp
        exact Nat.le_refl _
theorem argsS_lp {x : AsmS} (h : x.Lp) (l : List ByteArray) : (argsS x l).1.Lp := by
  unfold argsS
  split
  · exact h
  · match l with
    | [] => exact h
    | [t] =>
      simp only
      cases numOf t with
      | none => exact h
      | some k =>
        simp only
        split
        · exact h
        · exact h
    | _ :: _ :: _ => exact h
theorem constS_lp {x : AsmS} (h : x.Lp) (t : ByteArray) : (constS x t).1.Lp := by
  unfold constS
  cases hv : valOf t with
  | none => exact h
  | some v =>
    simp only
    split
    · exact h
    · cases x.consts.findIdx? (fun c => decide (c = v)) with
      | some i => exact h
      | none =>
        simp only
        split
        · exact h
        · exact h
theorem pushS_lp {x : AsmS} (h : x.Lp) (op k : Int) (t : ByteArray) (at' : Int) : (pushS x op k t at').1.Lp := by
  unfold pushS
  split
  · exact h
  · intro p hp
    have := h p hp
    simp
    omega
theorem instrS_lp {x : AsmS} (h : x.Lp) (l : List ByteArray) (at' : Int) : (instrS x l at').1.Lp := by
  unfold instrS
  simp only
  split
  · exact h
  · split
    · exact h
    · split
      · split
        · exact h
        · exact pushS_lp (constS_lp h _) _ _ _ _
      · split
        · cases numOf (l.getD 1 noText) with
          | none => exact h
          | some n =>
            simp only
            split
            · exact h
            · exact pushS_lp h _ _ _ _
        · split
          · split
            · exact h
            · exact pushS_lp h _ _ _ _
          · exact pushS_lp h _ _ _ _
theorem lineS_lp {x : AsmS} (h : x.Lp) (s : ByteArray) (k : Int) : (lineS x s k).1.Lp := by
  unfold lineS
  split
  · exact h
  · cases toks s with
    | nil => exact h
    | cons t l =>
      simp only
      split
      · split
        · exact h
        · cases l with
          | nil => exact labelS_lp h _
          | cons a l => exact instrS_lp (labelS_lp h _) _ _
      · split
        · exact argsS_lp h _
        · exact instrS_lp h _ _
theorem readS_lp : ∀ (l : List ByteArray) (x : AsmS) (k : Int), x.Lp → (readS x l k).1.Lp
  | [], x, k, h => h
  | s :: l, x, k, h => by
    show (if (lineS x s (k + 1)).2 ≠ 0 then (x, (lineS x s (k + 1)).2, k + 1) else readS (lineS x s (k + 1)).1 l (k + 1)).1.Lp
    split
    · exact h
    · exact readS_lp l _ _ (lineS_lp h s _)
theorem labAt_mem {L : List (ByteArray × Nat)} {u : ByteArray} {q : Nat} (h : labAt L u = some q) : ∃ p ∈ L, p.2 = q := by
  unfold labAt at h
  cases hf : L.find? fun x => decide (x.1 = u) with
  | none => rw [hf] at h; cases h
  | some p =>
    rw [hf] at h
    exact ⟨p, List.mem_of_find?_eq_some hf, by simpa using h⟩
theorem leadsP_at {n : Nat} {D : List Int} {f t : Nat} {x : Int} {r : Int × Int} (h : leadsP n D f t x = .inl r) : r.2 = f := by
  unfold leadsP at h
  split at h
  · cases h; rfl
  · split at h
    · cases h
    · split at h
      · cases h; rfl
      · cases h
theorem lookP_at {code : List Ins} {D : List Int} {k : Nat} {r : Int × Int} (h : lookP code D k = .inl r) : r.2 = k := by
  unfold lookP at h
  simp only at h
  split at h
  · cases h; rfl
  · split at h
    · cases h
    · split at h
      · exact leadsP_at h
      · split at h
        · split at h
          · rename_i hl; cases h; exact leadsP_at hl
          · exact leadsP_at h
        · exact leadsP_at h
theorem runP_at {code : List Ins} : ∀ (f : Nat) {D : List Int} {L : List Bool} {r : Int × Int}, runP code f D L = .inl r → 0 ≤ r.2 ∧ r.2 < code.length
  | 0, D, L, r, h => by cases h
  | f + 1, D, L, r, h => by
    unfold runP at h
    split at h
    · cases h
    · rename_i k hk
      have hn := (nextP_spec hk).1
      split at h
      · rename_i hl
        cases h
        rw [lookP_at hl]
        omega
      · exact runP_at f h
theorem pgmE_at {args : Int} {consts : List Val} {code : List Ins} (h0 : 0 ≤ args ∧ args ≤ 8) (h1 : consts.length ≤ 32) (h2 : ∀ v ∈ consts, badC v = false) (h3 : code.length ≠ 0) (he : (pgmE args consts code).1 ≠ 0) :
    0 ≤ (pgmE args consts code).2 ∧ (pgmE args consts code).2 < code.length := by
  unfold pgmE at he ⊢
  by_cases hf : (formL args consts code).1 ≠ 0
  · rw [if_pos hf]
    clear he
    unfold formL at hf ⊢
    rw [if_neg (by omega), if_neg (by omega)] at hf ⊢
    have hn : consts.findIdx? badC = none := List.findIdx?_eq_none_iff.2 fun v hv => h2 v hv
    rw [hn] at hf ⊢
    simp only at hf ⊢
    split
    · simp only; omega
    · rename_i hc
      rw [if_neg hc] at hf
      cases hi : code.findIdx? (badI args consts.length code.length) with
      | none => rw [hi] at hf; exact absurd rfl hf
      | some i =>
        have := (List.findIdx?_eq_some_iff_getElem.1 hi).1
        simp only
        omega
  · rw [if_neg hf] at he ⊢
    cases hr : runP code 257 dep0 lk0 with
    | inl x => rw [hr] at he; exact runP_at _ hr
    | inr D => rw [hr] at he; exact absurd rfl he
theorem rdS_cg (s : ByteArray) : (if 65536 < s.size then (asm0, (1 : Int), (0 : Int)) else readS asm0 (linesT s) 0).1.Cg ∧ (if 65536 < s.size then (asm0, (1 : Int), (0 : Int)) else readS asm0 (linesT s) 0).1.Lp := by
  split
  · exact ⟨fun v hv => (by cases hv), fun v hv => (by cases hv)⟩
  · exact ⟨readS_cg _ _ _ (fun v hv => by cases hv), readS_lp _ _ _ (fun v hv => by cases hv)⟩
end Go.Proofs.YtfgdnakfikpmpaaGreatDoor
namespace Go.Proofs.YtfgdnakfikpmpaaGreatDoor
open Go Go.RowKit Go.Deep
def pcsAt (c : UInt8) (s : ByteArray) : List ByteArray := Lib.splitB ⟨#[c]⟩ 0 (Lib.countB s ⟨#[c]⟩) s
theorem splitC_any (s : ByteArray) (c : UInt8) (hs : s.size ≤ 1073741824) (w : World) : Calls Tryz.prog 55 #[.string s, .string ⟨#[c]⟩] w fun e w' =>
    e = .returned (.slice (some ⟨w.heap.size, 0, none⟩) (pcsAt c s).length (pcsAt c s).length) ∧ w' = w.alloc (.cells ((pcsAt c s).map Value.string).toArray 9) := by
  have hle := Lib.countB_le ⟨#[c]⟩ (Nat.le_refl 1) s.size s (Nat.le_refl _)
  have hlen := Lib.splitB_all ⟨#[c]⟩ (Nat.le_refl 1) 0 _ s rfl
  have hix : ∀ x : ByteArray, Lib.indexB x ⟨#[c]⟩ = Lib.indexByte x.data.toList c := fun x => Lib.index_one _ _
  have hct : Lib.countB s ⟨#[c]⟩ = Lib.countByte s.data.toList c := Lib.count_one _ _
  have hc := Any.strings_genSplit_core Tryz.laysGenSplit (by kernel_rfl) s ⟨#[c]⟩ 0 (-1) (Lib.countB s ⟨#[c]⟩ + 1) w (by omega) (Nat.le_refl 1) (Nat.zero_le _) (fun x cs hx => by rw [hix x]; exact Any.strings_Index_one Tryz.laysSIndex x c _) (by rw [hct]; exact Any.strings_Count_one Tryz.laysSCount s c w) (by decide) (by decide) (by rw [if_pos (by decide)]; omega)
  rw [Nat.add_sub_cancel, hlen] at hc
  have e2 : Lib.cellsOf (pcsAt c s) (Lib.countB s ⟨#[c]⟩ + 1) = ((pcsAt c s).map Value.string).toArray := by rw [← hlen]; exact Lib.cellsOf_full _
  have hl : (pcsAt c s).length = Lib.countB s ⟨#[c]⟩ + 1 := hlen
  unfold pcsAt at e2 hl ⊢
  rw [e2, ← hl] at hc
  clear e2 hl hlen hle hix hct
  go_enter Tryz.func55, Tryz.ntmps55
  go_wp2_with (go_at_call 102; refine hc.mono ?_; clear hc; rintro e w' ⟨rfl, hw⟩; rw [hw])
  go_ret
  exact ⟨rfl, rfl⟩
end Go.Proofs.YtfgdnakfikpmpaaGreatDoor
namespace Go.Proofs.YtfgdnakfikpmpaaGreatDoor
open Go Go.RowKit Go.Deep
theorem pushS_fit {x : AsmS} {n : Nat} (h : x.Fit n) (op k : Int) (t : ByteArray) (at' : Int) : (pushS x op k t at').1.Fit n := by
  unfold pushS
  split
  · exact h
  · exact ⟨h.cs, by have := h.cd; simp; omega, by have := h.us; simp; omega, by have := h.wh; simp; omega, h.lb, h.a0, h.a8⟩
theorem instrS_fit {x : AsmS} {n : Nat} (h : x.Fit n) (l : List ByteArray) (at' : Int) : (instrS x l at').1.Fit n := by
  unfold instrS
  simp only
  split
  · exact h
  · split
    · exact h
    · split
      · split
        · exact h
        · exact pushS_fit (constS_fit h _) _ _ _ _
      · split
        · cases numOf (l.getD 1 noText) with
          | none => exact h
          | some n =>
            simp only
            split
            · exact h
            · exact pushS_fit h _ _ _ _
        · split
          · split
            · exact h
            · exact pushS_fit h _ _ _ _
          · exact pushS_fit h _ _ _ _
theorem argsS_fit {x : AsmS} {n : Nat} (h : x.Fit n) (l : List ByteArray) : (argsS x l).1.Fit n := by
  unfold argsS
  split
  · exact h
  · match l with
    | [] => exact h
    | [t] =>
      simp only
      cases numOf t with
      | none => exact h
      | some k =>
        simp only
        split
        · exact h
        · rename_i hk
          exact ⟨h.cs, h.cd, h.us, h.wh, h.lb, by show 0 ≤ k; omega, by show k ≤ 8; omega⟩
    | _ :: _ :: _ => exact h
theorem AsmS.Fit.more {x : AsmS} {n : Nat} (h : x.Fit n) : x.Fit (n + 1) := ⟨h.cs, h.cd, h.us, h.wh, by have := h.lb; omega, h.a0, h.a8⟩
theorem lineS_fit {x : AsmS} {n : Nat} (h : x.Fit n) (s : ByteArray) (k : Int) : (lineS x s k).1.Fit (n + 1) := by
  unfold lineS
  split
  · exact h.more
  · cases toks s with
    | nil => exact h.more
    | cons t l =>
      simp only
      split
      · split
        · exact h.more
        · cases l with
          | nil => exact labelS_fit h _
          | cons a l => exact instrS_fit (labelS_fit h _) _ _
      · split
        · exact (argsS_fit h _).more
        · exact (instrS_fit h _ _).more
theorem asm0_fit (n : Nat) : asm0.Fit n := ⟨Nat.zero_le _, Nat.zero_le _, rfl, rfl, Nat.zero_le _, Int.le_refl _, by decide⟩
noncomputable def rdS (s : ByteArray) : AsmS × Int × Int := if 65536 < s.size then (asm0, 1, 0) else readS asm0 (linesT s) 0
theorem readS_step (x : AsmS) (s : ByteArray) (l : List ByteArray) (k : Int) : readS x (s :: l) k = if (lineS x s (k + 1)).2 ≠ 0 then (x, (lineS x s (k + 1)).2, k + 1) else readS (lineS x s (k + 1)).1 l (k + 1) := rfl
theorem readS_drop {x : AsmS} {l : List ByteArray} {k : Nat} (hk : k < l.length) : readS x (l.drop k) (k : Int) = if (lineS x l[k] ((k : Int) + 1)).2 ≠ 0 then (x, (lineS x l[k] ((k : Int) + 1)).2, (k : Int) + 1) else readS (lineS x l[k] ((k : Int) + 1)).1 (l.drop (k + 1)) (((k + 1 : Nat)) : Int) := by
  rw [List.drop_eq_getElem_cons hk, readS_step]
  rfl
def SrcIn (w w' : World) (B : Nat) (x : AsmS) : Prop := ∃ lab m v1 v2 v4 v5, SrcAt w' lab B m x v1 v2 v4 v5 ∧ (∀ k, k < w.heap.size → lab k = 0)
def GivesRd (w : World) (y : AsmS × Int × Int) (e : Ending) (w' : World) : Prop :=
  ∃ B, e = .returned (.tuple #[.pointer (some ⟨B, 0, none⟩), .int .i64 y.2.1, .int .i64 y.2.2]) ∧ RowKit.Hid (Keep No w w' ∧ (y.2.1 = 0 → SrcIn w w' B y.1 ∧ y.1.Fit 1048576))
theorem src_new (w : World) : SrcAt ((w.alloc (.map #[] 0)).alloc (.cells #[.int .i64 0, .slice none 0 0, .slice none 0 0, .map (some w.heap.size), .slice none 0 0, .slice none 0 0, .bool false] 190)) (lab1 (lab1 (fun _ => 0) w.heap.size 2) (w.heap.size + 1) 1) (w.heap.size + 1) w.heap.size asm0 (.slice none 0 0) (.slice none 0 0) (.slice none 0 0) (.slice none 0 0) := by
  have h1 := blk_new (w.alloc (.map #[] 0)) (.cells #[.int .i64 0, .slice none 0 0, .slice none 0 0, .map (some w.heap.size), .slice none 0 0, .slice none 0 0, .bool false] 190)
  simp only [World.size_alloc] at h1
  refine ⟨h1, lab1_new, by rw [lab1_old (by omega)]; exact lab1_new, fun k hk => ?_, Own.nil _ _ _ _, Own.nil _ _ _ _, Own.nil _ _ _ _, Own.nil _ _ _ _, (IntMap.new w).keep ((Keep.refl No _).alloc _) (fun x => x)⟩
  simp only [World.size_alloc]
  rcases lab1_ne hk with h | h
  · rcases lab1_ne h with h | h
    · exact absurd rfl h
    · omega
  · omega
theorem cutL_bd (c : UInt8) : ∀ l : List UInt8, (cutL c l).length ≤ l.length + 1 ∧ ∀ x ∈ cutL c l, x.length ≤ l.length
  | [] => by simp [cutL]
  | b :: l => by
    obtain ⟨h1, h2⟩ := cutL_bd c l
    unfold cutL
    by_cases h : b = c
    · rw [if_pos h]
      refine ⟨by simp; omega, fun x hx => ?_⟩
      rcases List.mem_cons.1 hx with rfl | hx
      · simp
      · have := h2 x hx; simp; omega
    · rw [if_neg h]
      cases hq : cutL c l with
      | nil => exact absurd hq (cutL_ne c l)
      | cons a t =>
        rw [hq] at h1 h2
        simp only [List.length_cons] at h1 ⊢
        refine ⟨by omega, fun x hx => ?_⟩
        rcases List.mem_cons.1 hx with rfl | hx
        · have := h2 a (by simp); simp; omega
        · have := h2 x (by simp [hx]); omega
theorem pcs_bd (c : UInt8) (s : ByteArray) : (pcsAt c s).length ≤ s.size + 1 ∧ 1 ≤ (pcsAt c s).length ∧ ∀ x ∈ pcsAt c s, x.size ≤ s.size := by
  unfold pcsAt
  rw [splitB_cut]
  obtain ⟨h1, h2⟩ := cutL_bd c s.data.toList
  have hsz : s.data.toList.length = s.size := rfl
  unfold cutT'
  refine ⟨by rw [List.length_map]; omega, ?_, fun x hx => ?_⟩
  · rw [List.length_map]
    exact List.length_pos_iff.2 (cutL_ne c _)
  · obtain ⟨l, hl, rfl⟩ := List.mem_map.1 hx
    have := h2 l hl
    show l.toArray.size ≤ _
    simp
    omega
def RdTo (w1 : World) (lab0 : Nat → Nat) (B m : Nat) (L : List ByteArray) (y : AsmS × Int × Int) (k : Nat) (x : AsmS) (wr : World) : Prop :=
  SrcTo w1 lab0 B m x wr ∧ readS x (L.drop k) (k : Int) = y ∧ x.Fit k
theorem row_str {w : World} {b : Nat} {L : List ByteArray} {e : TypeId} (h : w.heap[b]? = some (.cells (L.map Value.string).toArray e (0, 0))) (k : Nat) (hk : k < L.length) : w.cell? ⟨b, k, none⟩ = some (.string L[k]) := by
  rw [blk_cell h k]
  simp [hk]
set_option maxRecDepth 10000 in
set_option maxHeartbeats 4000000 in
theorem asRead_any (s : ByteArray) (hs : s.size ≤ 9223372036854775806) (w : World) (he : Errs w) : Calls Tryz.prog 106 #[.string s] w (GivesRd w (rdS s)) := by
  obtain ⟨y, hy⟩ : ∃ y, rdS s = y := ⟨_, rfl⟩
  rw [hy]
  have hS := src_new w
  have K0 : Keep No w ((w.alloc (.map #[] 0)).alloc (.cells #[.int .i64 0, .slice none 0 0, .slice none 0 0, .map (some w.heap.size), .slice none 0 0, .slice none 0 0, .bool false] 190)) := ((Keep.refl No w).alloc _).alloc _
  have hmm := @run_makeMap Tryz.prog
  by_cases hl : 65536 < s.size
  · have e : y = (asm0, 1, 0) := by rw [← hy]; exact if_pos hl
    subst e
    have i1 : (65536 : Int) < s.size := by omega
    have HX := Lib.hid K0
    clear hS he hy hl K0 hs
    go_enter Tryz.func106, Tryz.ntmps106
    go_wp2_with fail
    go_ret3
    exact ⟨w.heap.size + 1, rfl, HX.out, fun h => by cases h⟩
  · have hy2 : readS asm0 (linesT s) 0 = y := by rw [← hy]; exact (if_neg hl).symm
    have i1 : ¬ (65536 : Int) < s.size := by omega
    have hsp := splitC_any s 10 (by omega) ((w.alloc (.map #[] 0)).alloc (.cells #[.int .i64 0, .slice none 0 0, .slice none 0 0, .map (some w.heap.size), .slice none 0 0, .slice none 0 0, .bool false] 190))
    obtain ⟨L, hL⟩ : ∃ L, pcsAt 10 s = L := ⟨_, rfl⟩
    have hbd := pcs_bd 10 s
    have hy3 : readS asm0 L 0 = y := by rw [← hL]; exact hy2
    rw [hL] at hsp hbd
    have hg1 := World.block_lt_of_cell? _ _ he.1.choose_spec.choose_spec
    have hg2 := World.block_lt_of_cell? _ _ he.2.choose_spec.choose_spec
    have hlen := hbd.1
    have HX := Lib.hid (And.intro hS (And.intro K0 (And.intro he (And.intro hy3 (And.intro hbd (And.intro (show s.size ≤ 65536 by omega) (And.intro hg1 hg2)))))))
    clear hS he hy hy2 hl K0 hbd hy3 hL hs hg1 hg2 hlen
    simp only [World.size_alloc] at hsp
    have h1 := HX.out.1.keep ((Keep.refl No _).alloc (.cells (L.map Value.string).toArray 9)) (fun _ _ x => x)
    have k1 := HX.out.2.1.alloc (.cells (L.map Value.string).toArray 9)
    have r1 := blk_new ((w.alloc (.map #[] 0)).alloc (.cells #[.int .i64 0, .slice none 0 0, .slice none 0 0, .map (some w.heap.size), .slice none 0 0, .slice none 0 0, .bool false] 190)) (.cells (L.map Value.string).toArray 9)
    simp only [World.size_alloc] at r1
    have HB := Lib.hid (And.intro h1 (And.intro k1 r1))
    clear h1 k1 r1
    go_enter Tryz.func106, Tryz.ntmps106
    go_wp2_with (go_at_call 55; refine hsp.mono ?_; clear hsp; rintro e w8 ⟨rfl, rfl⟩)
    generalize ((w.alloc (.map #[] 0)).alloc (.cells #[.int .i64 0, .slice none 0 0, .slice none 0 0, .map (some w.heap.size), .slice none 0 0, .slice none 0 0, .bool false] 190)).alloc (.cells (L.map Value.string).toArray 9) = w1 at *
    go_loopg [19] L.length (fun g i wr => ∃ k : Nat, k ≤ L.length ∧ g = L.length - k ∧ i = .int .i64 k ∧ RowKit.Hid (∃ x, RdTo w1 (lab1 (lab1 (fun _ => 0) w.heap.size 2) (w.heap.size + 1) 1) (w.heap.size + 1) w.heap.size L y k x wr))
    case atStart => exact ⟨0, by omega, by omega, rfl, asm0, SrcTo.same HB.out.1 (Keep.refl No _), by simpa using HX.out.2.2.2.1, asm0_fit 0⟩
    case round =>
      obtain ⟨k, hk, rfl, rfl, HR⟩ := hrel
      by_cases hlt : k < L.length
      · have j1 : (k : Int) < L.length := by omega
        have j0 : (0 : Int) ≤ k := by omega
        have hbd := HX.out.2.2.2.2.1
        have hsz := HX.out.2.2.2.2.2.1
        have j3 : (k : Int) ≤ 65537 := by omega
        obtain ⟨x, ⟨lab', u1, u2, u4, u5, hsr, hlb, hkp⟩, hrd, hfit⟩ := HR.out
        have hb2 : lab1 (lab1 (fun _ => 0) w.heap.size 2) (w.heap.size + 1) 1 (w.heap.size + 2) = 0 := by rw [lab1_old (by omega), lab1_old (by omega)]
        have hcell := row_str (hkp.blk HB.out.2.2 (fun h => h hb2)) k hlt
        have hg1 := HX.out.2.2.2.2.2.2.1
        have hg2 := HX.out.2.2.2.2.2.2.2
        have hz1 : lab1 (lab1 (fun _ => 0) w.heap.size 2) (w.heap.size + 1) 1 8 = 0 := by rw [lab1_old (by omega), lab1_old (by omega)]
        have hz2 : lab1 (lab1 (fun _ => 0) w.heap.size 2) (w.heap.size + 1) 1 9 = 0 := by rw [lab1_old (by omega), lab1_old (by omega)]
        have hk1 := HB.out.2.1.size
        obtain ⟨z, hz⟩ : ∃ z, lineS x L[k] ((k : Int) + 1) = z := ⟨_, rfl⟩
        obtain ⟨x2, er⟩ := z
        have hline := (line_any wr lab' (w.heap.size + 1) w.heap.size x u1 u2 u4 u5 hsr k hfit (by omega) ((HX.out.2.2.1.keep HB.out.2.1).keepL hkp (fun h => h hz1) (fun h => h hz2)) L[k] (by have := hbd.2.2 _ (List.getElem_mem hlt); omega) ((k : Int) + 1) ⟨by omega, by omega⟩ ⟨by rw [hlb _ (by omega)]; exact hz1, by rw [hlb _ (by omega)]; exact hz2⟩).mono (R' := fun e w2 => e = .returned (.int .i64 er) ∧ RowKit.Hid (SrcTo w1 (lab1 (lab1 (fun _ => 0) w.heap.size 2) (w.heap.size + 1) 1) (w.heap.size + 1) w.heap.size x2 w2)) (by
          rw [hz]
          rintro e w2 ⟨rfl, h2⟩
          exact ⟨rfl, SrcTo.step hlb hkp h2.out⟩)
        rw [readS_drop hlt, hz] at hrd
        have hft := lineS_fit hfit L[k] ((k : Int) + 1)
        rw [hz] at hft
        have HK := Lib.hid (And.intro hlt (And.intro hrd (And.intro hft hbd)))
        clear hrd hft hfit hsr hlb hkp hz hbd hsz hb2 hg1 hg2 hz1 hz2 hk1
        generalize L[k] = sk at *
        by_cases her : er = 0
        · subst her
          clear hlt hk
          go_wp2_with (go_at_call 153; refine hline.mono ?_; clear hline; rintro e w2 ⟨rfl, H2⟩)
          go_roundg (L.length - (k + 1))
          case measure => have := HK.out.1; omega
          case rel => exact ⟨k + 1, HK.out.1, rfl, by simp, x2, H2.out, by have := HK.out.2.1; rwa [if_neg (fun h => h rfl)] at this, HK.out.2.2.1⟩
        · have b1 : (er != 0) = true := by simpa using her
          have HE := Lib.hid her
          clear hlt hk her
          go_wp2_with (go_at_call 153; refine hline.mono ?_; clear hline; rintro e w2 ⟨rfl, H2⟩)
          go_ret3
          have hyy := HK.out.2.1
          rw [if_pos HE.out] at hyy
          subst hyy
          obtain ⟨_, _, _, _, _, _, _, hkk⟩ := H2.out
          exact ⟨w.heap.size + 1, rfl, HB.out.2.1.then hkk (fun i hi h => h (by rw [lab1_old (by omega), lab1_old (by omega)])), fun h => absurd h HE.out⟩
      · have hkn : k = L.length := by omega
        subst hkn
        obtain ⟨x, hto, hrd, hfit⟩ := HR.out
        rw [List.drop_length] at hrd
        have hrd : (x, (0 : Int), (0 : Int)) = y := hrd
        subst hrd
        have HZ := Lib.hid (And.intro hto hfit)
        clear hto hfit hk hlt
        go_wp2_with fail
        go_ret3
        obtain ⟨lab', u1, u2, u4, u5, hsr, hlb, hkp⟩ := HZ.out.1
        refine ⟨w.heap.size + 1, rfl, HB.out.2.1.then hkp (fun i hi h => h (by rw [lab1_old (by omega), lab1_old (by omega)])), fun _ => ⟨⟨lab', w.heap.size, u1, u2, u4, u5, hsr, fun i hi => ?_⟩, ?_⟩⟩
        · have := HB.out.2.1.size
          rw [hlb i (by omega), lab1_old (by omega), lab1_old (by omega)]
        · have := HX.out.2.2.2.2.1.1
          have := HX.out.2.2.2.2.2.1
          have h9 := HZ.out.2
          have h8 := h9.lb
          show x.Fit 1048576
          exact ⟨h9.cs, h9.cd, h9.us, h9.wh, by omega, h9.a0, h9.a8⟩
end Go.Proofs.YtfgdnakfikpmpaaGreatDoor
