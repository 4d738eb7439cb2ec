/-
  Parts of what is proved for this claim; each declaration is one of the seat's texts.
-/
import Derived.Test.YtfgdnakfikpmpaaGreatDoorFPG
import Derived.Test.YtfgdnakfikpmpaaGreatDoorFPT
import Derived.Lib.SplitLaws
set_option linter.unusedVariables false
set_option linter.unusedSimpArgs false
namespace Go.Proofs.YtfgdnakfikpmpaaGreatDoor
open Go Go.RowKit Go.Deep
def byA (s : ByteArray) (i : Nat) : Int := (bytesOf s).getD i 0
theorem byA_get {s : ByteArray} {i : Nat} (h : i < s.size) : byA s i = (s[i].toNat : Int) := by
  unfold byA
  have hl : i < (bytesOf s).length := by rw [bytesOf_length]; exact h
  rw [List.getD_eq_getElem?_getD, List.getElem?_eq_getElem hl, Option.getD_some, bytesOf_get s i hl h]
def quoF (s : ByteArray) : Nat → Nat → Nat → Nat
  | 0, i, _ => i
  | f + 1, i, n => if s.size ≤ i then i else if byA s i = 34 ∧ n % 2 = 0 then i + 1 else quoF s f (i + 1) (if byA s i = 92 then n + 1 else 0)
def quoE (s : ByteArray) (at' : Nat) : Nat := quoF s (s.size - (at' + 1)) (at' + 1) 0
theorem quoF_bd (s : ByteArray) : ∀ (f i n : Nat), f = s.size - i → i ≤ s.size → i ≤ quoF s f i n ∧ quoF s f i n ≤ s.size
  | 0, i, n, _, h => ⟨Nat.le_refl _, h⟩
  | f + 1, i, n, hf, h => by
    unfold quoF
    rw [if_neg (by omega)]
    split
    · omega
    · have := quoF_bd s f (i + 1) (if byA s i = 92 then n + 1 else 0) (by omega) (by omega)
      omega
theorem quoF_step {s : ByteArray} {i n : Nat} (h : i < s.size) : quoF s (s.size - i) i n = if byA s i = 34 ∧ n % 2 = 0 then i + 1 else quoF s (s.size - (i + 1)) (i + 1) (if byA s i = 92 then n + 1 else 0) := by
  obtain ⟨m, hm⟩ : ∃ m, s.size - i = m + 1 := ⟨s.size - i - 1, by omega⟩
  have h2 : s.size - (i + 1) = m := by omega
  rw [hm, h2, quoF, if_neg (by omega)]
theorem quoF_end {s : ByteArray} {i n : Nat} (h : s.size ≤ i) : quoF s (s.size - i) i n = i := by
  have : s.size - i = 0 := by omega
  rw [this]; rfl
theorem quoE_bd {s : ByteArray} {i : Nat} (h : i < s.size) : i + 1 ≤ quoE s i ∧ quoE s i ≤ s.size := quoF_bd s _ _ _ rfl h
def wrdF (s : ByteArray) : Nat → Nat → Nat
  | 0, i => i
  | f + 1, i => if s.size ≤ i then i else if byA s i = 32 ∨ byA s i = 9 ∨ byA s i = 59 then i else wrdF s f (i + 1)
def wrdE (s : ByteArray) (i : Nat) : Nat := wrdF s (s.size - i) i
theorem wrdE_step {s : ByteArray} {i : Nat} (h : i < s.size) : wrdE s i = if byA s i = 32 ∨ byA s i = 9 ∨ byA s i = 59 then i else wrdE s (i + 1) := by
  obtain ⟨m, hm⟩ : ∃ m, s.size - i = m + 1 := ⟨s.size - i - 1, by omega⟩
  have h2 : s.size - (i + 1) = m := by omega
  unfold wrdE
  rw [hm, h2, wrdF, if_neg (by omega)]
theorem wrdE_end {s : ByteArray} {i : Nat} (h : s.size ≤ i) : wrdE s i = i := by
  unfold wrdE
  have : s.size - i = 0 := by omega
  rw [this]; rfl
theorem wrdE_bd (s : ByteArray) : ∀ (k i : Nat), k = s.size - i → i ≤ s.size → i ≤ wrdE s i ∧ wrdE s i ≤ s.size
  | 0, i, hk, h => by rw [wrdE_end (by omega)]; omega
  | k + 1, i, hk, h => by
    rw [wrdE_step (by omega)]
    split
    · omega
    · have := wrdE_bd s k (i + 1) (by omega) (by omega)
      omega
def tokE (s : ByteArray) (i : Nat) : Nat := if byA s i = 34 then quoE s i else wrdE s i
theorem tokE_bd {s : ByteArray} {i : Nat} (h : i < s.size) (h2 : ¬ (byA s i = 32 ∨ byA s i = 9 ∨ byA s i = 59)) : i + 1 ≤ tokE s i ∧ tokE s i ≤ s.size := by
  unfold tokE
  split
  · exact quoE_bd h
  · rw [wrdE_step h, if_neg h2]
    exact wrdE_bd s _ _ rfl h
def tokF (s : ByteArray) : Nat → Nat → List ByteArray
  | 0, _ => []
  | f + 1, i => if s.size ≤ i ∨ byA s i = 59 then [] else if byA s i = 32 ∨ byA s i = 9 then tokF s f (i + 1) else s.extract i (tokE s i) :: tokF s f (tokE s i)
def toksA (s : ByteArray) (i : Nat) : List ByteArray := tokF s (s.size - i) i
theorem tokF_more (s : ByteArray) : ∀ (f i : Nat), s.size - i ≤ f → tokF s f i = toksA s i
  | 0, i, h => by unfold toksA; rw [show s.size - i = 0 by omega]
  | f + 1, i, h => by
    by_cases hi : s.size ≤ i
    · unfold toksA
      rw [tokF, if_pos (.inl hi), show s.size - i = 0 by omega]
      rfl
    · obtain ⟨m, hm⟩ : ∃ m, s.size - i = m + 1 := ⟨s.size - i - 1, by omega⟩
      unfold toksA
      rw [hm, tokF, tokF]
      split
      · rfl
      · rename_i h1
        split
        · rw [tokF_more s f (i + 1) (by omega), ← tokF_more s m (i + 1) (by omega)]
        · rename_i h2
          have hb := tokE_bd (s := s) (i := i) (by omega) (fun hh => hh.elim (fun e => h2 (.inl e)) (fun hh => hh.elim (fun e => h2 (.inr e)) (fun e => h1 (.inr e))))
          rw [tokF_more s f (tokE s i) (by omega), ← tokF_more s m (tokE s i) (by omega)]
theorem toksA_end {s : ByteArray} {i : Nat} (h : s.size ≤ i ∨ byA s i = 59) : toksA s i = [] := by
  rw [← tokF_more s (s.size - i + 1) i (by omega), tokF, if_pos h]
theorem toksA_blank {s : ByteArray} {i : Nat} (h : i < s.size) (hb : byA s i = 32 ∨ byA s i = 9) : toksA s i = toksA s (i + 1) := by
  rw [← tokF_more s (s.size - i + 1) i (by omega), tokF, if_neg (fun hh => hh.elim (by omega) (fun e => by rw [e] at hb; rcases hb with hb | hb <;> cases hb)), if_pos hb, tokF_more s _ (i + 1) (by omega)]
theorem toksA_tok {s : ByteArray} {i : Nat} (h : i < s.size) (hb : ¬ (byA s i = 32 ∨ byA s i = 9 ∨ byA s i = 59)) : toksA s i = s.extract i (tokE s i) :: toksA s (tokE s i) := by
  have hbd := tokE_bd h hb
  rw [← tokF_more s (s.size - i + 1) i (by omega), tokF, if_neg (fun hh => hh.elim (by omega) (fun e => hb (.inr (.inr e)))), if_neg (fun hh => hb (hh.elim .inl (fun e => .inr (.inl e)))), tokF_more s _ (tokE s i) (by omega)]
def toks (s : ByteArray) : List ByteArray := toksA s 0
def cleanB (s : ByteArray) : Bool := (bytesOf s).all fun c => decide (c = 9) || (decide (32 ≤ c) && decide (c ≤ 126))
noncomputable def valOf (s : ByteArray) : Option Val :=
  open Classical in if h : ∃ v : Val, v.ok = true ∧ v.In ∧ s.data.toList = v.print then some h.choose else none
noncomputable def numOf (s : ByteArray) : Option Int := match valOf s with
  | some v => if v.kind = 1 then some v.num else none
  | none => none
def opOf (w : ByteArray) : Int := match (opsL.drop 1).findIdx? fun x => decide (x.1 = w) with
  | some k => k + 1
  | none => 0
structure AsmS where
  args : Int
  consts : List Val
  code : List Ins
  labs : List (ByteArray × Nat)
  uses : List ByteArray
  wher : List Int
  given : Bool
def asm0 : AsmS := ⟨0, [], [], [], [], [], false⟩
def labAt (l : List (ByteArray × Nat)) (n : ByteArray) : Option Nat := (l.find? fun x => decide (x.1 = n)).map (·.2)
def labelS (x : AsmS) (nm : ByteArray) : AsmS × Int :=
  if nameOk nm = false then (x, 63) else if (labAt x.labs nm).isSome then (x, 64) else ({ x with labs := x.labs ++ [(nm, x.code.length)] }, 0)
noncomputable def argsS (x : AsmS) (l : List ByteArray) : AsmS × Int :=
  if x.given = true ∨ 0 < x.labs.length ∨ 0 < x.code.length then (x, 60) else
  match l with
  | [t] => (match numOf t with
    | some n => if n < 0 ∨ 8 < n then (x, 62) else ({ x with given := true, args := n }, 0)
    | none => (x, 62))
  | _ => (x, 62)
noncomputable def constS (x : AsmS) (t : ByteArray) : AsmS × Int × Int :=
  match valOf t with
  | none => (x, 0, 62)
  | some v => if v.kind = 0 then (x, 0, 62) else
    match x.consts.findIdx? fun c => decide (c = v) with
    | some i => (x, i, 0)
    | none => if x.consts.length = 32 then (x, 0, 6) else ({ x with consts := x.consts ++ [v] }, x.consts.length, 0)
def pushS (x : AsmS) (op n : Int) (tw : ByteArray) (at' : Int) : AsmS × Int :=
  if x.code.length = 256 then (x, 52) else ({ x with code := x.code ++ [(op, n, ())], uses := x.uses ++ [tw], wher := x.wher ++ [at'] }, 0)
noncomputable def instrS (x : AsmS) (l : List ByteArray) (at' : Int) : AsmS × Int :=
  let op := opOf (l.getD 0 noText)
  let kind := (opAt op).2.1
  if op = 0 then (x, 61) else if ((l.length : Int) - 1) ≠ min kind 1 then (x, 62) else
  if kind = 1 then (let c := constS x (l.getD 1 noText); if c.2.2 ≠ 0 then (x, c.2.2) else pushS c.1 op c.2.1 noText at')
  else if kind = 2 then (match numOf (l.getD 1 noText) with
    | some n => if n < 0 ∨ x.args ≤ n then (x, 62) else pushS x op n noText at'
    | none => (x, 62))
  else if kind = 3 then (if nameOk (l.getD 1 noText) = false then (x, 63) else pushS x op 0 (l.getD 1 noText) at')
  else pushS x op 0 noText at'
def argsW : ByteArray := ⟨#[97, 114, 103, 115]⟩
noncomputable def lineS (x : AsmS) (s : ByteArray) (at' : Int) : AsmS × Int :=
  if cleanB s = false then (x, 60) else
  match toks s with
  | [] => (x, 0)
  | t :: l =>
    if byA t 0 ≠ 34 ∧ byA t (t.size - 1) = 58 ∧ 0 < t.size then
      (let y := labelS x (t.extract 0 (t.size - 1)); if y.2 ≠ 0 then (x, y.2) else match l with | [] => y | _ => instrS y.1 l at')
    else if t = argsW then argsS x l
    else instrS x (t :: l) at'
noncomputable def readS : AsmS → List ByteArray → Int → AsmS × Int × Int
  | x, [], _ => (x, 0, 0)
  | x, s :: l, k => let y := lineS x s (k + 1); if y.2 ≠ 0 then (x, y.2, k + 1) else readS y.1 l (k + 1)
def linkS (labs : List (ByteArray × Nat)) (len : Nat) : List ByteArray → List Ins → List Int → List Ins ⊕ (Int × Int)
  | u :: us, c :: cs, w :: ws =>
    if u.size = 0 then (match linkS labs len us cs ws with | .inl r => .inl (c :: r) | .inr e => .inr e) else
    match labAt labs u with
    | none => .inr (63, w)
    | some n => if n = len then .inr (57, w) else (match linkS labs len us cs ws with | .inl r => .inl ((c.1, (n : Int), ()) :: r) | .inr e => .inr e)
  | _, cs, _ => .inl cs
def nlB : ByteArray := ⟨#[10]⟩
def linesT (s : ByteArray) : List ByteArray := Lib.splitB nlB 0 (Lib.countB s nlB) s
def pgm0 : Pgm := mkPgm 0 [] []
noncomputable def asmT (s : ByteArray) : Pgm × Int × Int :=
  if 65536 < s.size then (pgm0, 1, 0) else
  let r := readS asm0 (linesT s) 0
  if r.2.1 ≠ 0 then (pgm0, r.2.1, r.2.2) else
  if r.1.code.length = 0 then (pgm0, 52, 0) else
  match linkS r.1.labs r.1.code.length r.1.uses r.1.code r.1.wher with
  | .inr e => (pgm0, e.1, e.2)
  | .inl code => let c := pgmE r.1.args r.1.consts code; if c.1 ≠ 0 then (pgm0, c.1, r.1.wher.getD c.2.toNat 0) else (mkPgm r.1.args r.1.consts code, 0, 0)
end Go.Proofs.YtfgdnakfikpmpaaGreatDoor
namespace Go.Proofs.YtfgdnakfikpmpaaGreatDoor
open Go Go.RowKit Go.Deep
def cutL (c : UInt8) : List UInt8 → List (List UInt8)
  | [] => [[]]
  | b :: l => if b = c then [] :: cutL c l else match cutL c l with
    | h :: t => (b :: h) :: t
    | [] => [[b]]
theorem cutL_ne (c : UInt8) : ∀ l, cutL c l ≠ []
  | [] => by simp [cutL]
  | b :: l => by
    unfold cutL
    split
    · simp
    · split <;> simp
theorem idx_cons (b c : UInt8) (l : List UInt8) : Lib.indexByte (b :: l) c = if b = c then 0 else if Lib.indexByte l c = -1 then -1 else Lib.indexByte l c + 1 := by
  show (if (b == c) = true then 0 else if (Lib.indexByte l c == -1) = true then -1 else Lib.indexByte l c + 1) = _
  by_cases h : b = c
  · rw [if_pos (by simpa using h), if_pos h]
  · rw [if_neg (by simpa using h), if_neg h]
    by_cases h2 : Lib.indexByte l c = -1
    · rw [if_pos (by simpa using h2), if_pos h2]
    · rw [if_neg (by simpa using h2), if_neg h2]
theorem splitK_eq (c : UInt8) (k : Nat) (l : List UInt8) : Lib.splitK [c] 0 (k + 1) (c :: l) = [] :: Lib.splitK [c] 0 k l := by
  have h : Lib.index (c :: l) [c] = 0 := by rw [Lib.index_one, idx_cons, if_pos rfl]
  rw [Lib.splitK, h, if_neg (by decide)]
  rfl
theorem splitK_cons (b c : UInt8) (hb : b ≠ c) : ∀ (k : Nat) (l : List UInt8), Lib.splitK [c] 0 k (b :: l) = match Lib.splitK [c] 0 k l with
    | h :: t => (b :: h) :: t
    | [] => [[b]]
  | 0, l => rfl
  | k + 1, l => by
    have hi : Lib.index (b :: l) [c] = if Lib.indexByte l c = -1 then -1 else Lib.indexByte l c + 1 := by rw [Lib.index_one, idx_cons, if_neg hb]
    rw [Lib.splitK, Lib.splitK, hi, Lib.index_one]
    by_cases h2 : Lib.indexByte l c = -1
    · rw [if_pos h2, if_pos (by decide), if_pos (by rw [h2]; decide)]
    · have hge := Lib.indexByte_ge l c
      obtain ⟨i, hi'⟩ : ∃ i : Nat, Lib.indexByte l c = i := ⟨(Lib.indexByte l c).toNat, by omega⟩
      rw [if_neg h2, hi', if_neg (by simp <;> omega), if_neg (by simp <;> omega)]
      have e1 : ((i : Int) + 1).toNat = i + 1 := by omega
      have e2 : ((i : Int)).toNat = i := by omega
      rw [e1, e2]
      simp only [Nat.add_zero, List.length_cons, List.length_nil, Nat.zero_add, List.take_succ_cons, List.drop_succ_cons]
theorem split_cut (c : UInt8) : ∀ l : List UInt8, Lib.split l [c] = cutL c l
  | [] => by
    unfold Lib.split
    rw [Lib.count_one]
    rfl
  | b :: l => by
    have ih := split_cut c l
    unfold Lib.split at ih ⊢
    rw [Lib.count_one] at ih ⊢
    unfold cutL
    by_cases h : b = c
    · subst h
      rw [if_pos rfl, List.count_cons_self, splitK_eq, ih]
    · rw [if_neg h, List.count_cons_of_ne (by simpa using h), splitK_cons b c h, ih]
def cutT' (c : UInt8) (s : ByteArray) : List ByteArray := (cutL c s.data.toList).map fun l => ⟨l.toArray⟩
theorem ba_eq {l : List UInt8} {s : ByteArray} (h : s.data.toList = l) : s = ⟨l.toArray⟩ := by
  apply ByteArray.ext
  apply Array.toList_inj.1
  rw [h]
theorem map_back : ∀ (L : List ByteArray) (M : List (List UInt8)), L.map (·.data.toList) = M → L = M.map fun l => ⟨l.toArray⟩
  | [], M, h => by cases M with | nil => rfl | cons a b => cases h
  | s :: L, M, h => by
    cases M with
    | nil => cases h
    | cons a b =>
      simp only [List.map_cons, List.cons.injEq] at h
      rw [List.map_cons, ← map_back L b h.2, ← ba_eq h.1]
theorem splitB_cut (c : UInt8) (s : ByteArray) : Lib.splitB ⟨#[c]⟩ 0 (Lib.countB s ⟨#[c]⟩) s = cutT' c s := by
  refine map_back _ _ ?_
  rw [Lib.splitB_data]
  exact split_cut c s.data.toList
theorem linesT_cut (s : ByteArray) : linesT s = cutT' 10 s := splitB_cut 10 s
end Go.Proofs.YtfgdnakfikpmpaaGreatDoor
