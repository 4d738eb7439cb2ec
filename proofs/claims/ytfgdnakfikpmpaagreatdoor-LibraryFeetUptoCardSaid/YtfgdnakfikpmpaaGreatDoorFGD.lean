/-
  Parts of what is proved for this claim; each declaration is one of the seat's texts.
-/
import Derived.Test.YtfgdnakfikpmpaaGreatDoorFGC
import Derived.Lib.ItoaNum
import Derived.Lib.Join
set_option linter.unusedVariables false
set_option linter.unusedSimpArgs false
namespace Go.Proofs.YtfgdnakfikpmpaaGreatDoor
open Go Go.RowKit Go.Deep
theorem size0 {s : ByteArray} (h : s.size = 0) : s = noText := by
  cases s with
  | mk d =>
    have : d.size = 0 := h
    have : d = #[] := Array.eq_empty_of_size_eq_zero this
    rw [this]; rfl
theorem noText_size : noText.size = 0 := rfl
structure Val.In (v : Val) : Prop where
  k0 : -9223372036854775808 ≤ v.kind
  k1 : v.kind ≤ 9223372036854775807
  n0 : -9223372036854775808 ≤ v.num
  n1 : v.num ≤ 9223372036854775807
theorem Val.ok_cases {v : Val} (h : v.ok = true) : v = val0 ∨ (v.kind = 1 ∧ v = mkVal 1 v.num noText) ∨ (v.kind = 2 ∧ v = mkVal 2 0 v.text ∧ v.text.size ≤ 64 ∧ plainB v.text = true) := by
  obtain ⟨k, n, t, u⟩ := v
  simp only [Val.ok, Val.kind, Val.num, Val.text] at h ⊢
  split at h
  · rename_i hk
    simp at h
    left
    rw [hk, h.1, h.2]; rfl
  · split at h
    · rename_i hk
      simp at h
      right; left
      refine ⟨hk, ?_⟩
      rw [hk, h]; rfl
    · split at h
      · rename_i hk
        simp at h
        right; right
        refine ⟨hk, ?_, h.1.2, h.2⟩
        rw [hk, h.1.1]; rfl
      · cases h
theorem int_ok (n : Int) : (mkVal 1 n noText).ok = true := by simp [Val.ok, mkVal, Val.kind, Val.text, noText_size]
end Go.Proofs.YtfgdnakfikpmpaaGreatDoor
namespace Go.Proofs.YtfgdnakfikpmpaaGreatDoor
open Go Go.RowKit Go.Deep
theorem bytesLess_is : ∀ (x y : List UInt8), Op.bytesLess x y = decide (x < y)
  | [], [] => by simp [Op.bytesLess]
  | _ :: _, [] => by simp [Op.bytesLess]
  | [], _ :: _ => by simp [Op.bytesLess]
  | a :: x, b :: y => by
    rw [Op.bytesLess, bytesLess_is x y]
    simp only [List.cons_lt_cons_iff]
    by_cases h1 : a < b <;> by_cases h2 : a = b <;> by_cases h3 : x < y <;> simp [h1, h2, h3]
theorem toList_is (a : ByteArray) : a.toList = a.data.toList := ByteArray.toList_eq a
theorem ltT_iff (a b : ByteArray) : ltT a b = true ↔ a.data.toList < b.data.toList := by
  unfold ltT; rw [bytesLess_is, toList_is, toList_is]; simp
theorem text_ext {a b : ByteArray} (h : a.data.toList = b.data.toList) : a = b := by
  cases a; cases b; simp only [ByteArray.mk.injEq]; exact Array.toList_inj.1 h
theorem ltT_irrefl (a : ByteArray) : ¬ ltT a a = true := by rw [ltT_iff]; exact List.lt_irrefl _
theorem ltT_trans {a b c : ByteArray} (h : ltT a b = true) (k : ltT b c = true) : ltT a c = true := by
  rw [ltT_iff] at *; exact List.lt_trans h k
theorem ltT_asymm {a b : ByteArray} (h : ltT a b = true) : ¬ ltT b a = true := fun k => ltT_irrefl _ (ltT_trans h k)
theorem ltT_or (a b : ByteArray) : ltT a b = true ∨ a = b ∨ ltT b a = true := by
  rw [ltT_iff, ltT_iff]
  rcases List.le_total a.data.toList b.data.toList with h | h
  · rcases List.le_iff_lt_or_eq.1 h with h | h
    · exact .inl h
    · exact .inr (.inl (text_ext h))
  · rcases List.le_iff_lt_or_eq.1 h with h | h
    · exact .inr (.inr h)
    · exact .inr (.inl (text_ext h.symm))
def Rising (l : List ByteArray) : Prop := l.Pairwise fun a b => ltT a b = true
theorem insT_mem (x : ByteArray) (l : List ByteArray) (y : ByteArray) : y ∈ insT x l ↔ y = x ∨ y ∈ l := by
  induction l with
  | nil => simp [insT]
  | cons z l ih =>
    unfold insT
    split
    · simp [ih]; constructor
      · rintro (h | h | h)
        · exact .inr (.inl h)
        · exact .inl h
        · exact .inr (.inr h)
      · rintro (h | h | h)
        · exact .inr (.inl h)
        · exact .inl h
        · exact .inr (.inr h)
    · split
      · rename_i h; subst h; simp
      · simp
theorem insT_rising (x : ByteArray) {l : List ByteArray} (h : Rising l) : Rising (insT x l) := by
  induction l with
  | nil => simp [insT, Rising]
  | cons z l ih =>
    have hz := List.pairwise_cons.1 h
    unfold insT
    split
    · rename_i hlt
      refine List.pairwise_cons.2 ⟨fun y hy => ?_, ih hz.2⟩
      rcases (insT_mem x l y).1 hy with rfl | hy
      · exact hlt
      · exact hz.1 y hy
    · split
      · exact h
      · rename_i h1 h2
        have hxz : ltT x z = true := by
          rcases ltT_or z x with h | h | h
          · exact absurd h h1
          · exact absurd h h2
          · exact h
        refine List.pairwise_cons.2 ⟨fun y hy => ?_, h⟩
        rcases List.mem_cons.1 hy with rfl | hy
        · exact hxz
        · exact ltT_trans hxz (hz.1 y hy)
theorem setT_go (l s : List ByteArray) (hs : Rising s) : Rising (l.foldl (fun s x => insT x s) s) ∧ ∀ y, y ∈ l.foldl (fun s x => insT x s) s ↔ y ∈ s ∨ y ∈ l := by
  induction l generalizing s with
  | nil => exact ⟨hs, by simp⟩
  | cons x l ih =>
    obtain ⟨h1, h2⟩ := ih (insT x s) (insT_rising x hs)
    refine ⟨h1, fun y => ?_⟩
    rw [List.foldl_cons, h2, insT_mem, List.mem_cons]
    constructor
    · rintro ((h | h) | h)
      · exact .inr (.inl h)
      · exact .inl h
      · exact .inr (.inr h)
    · rintro (h | h | h)
      · exact .inl (.inr h)
      · exact .inl (.inl h)
      · exact .inr h
theorem setT_rising (l : List ByteArray) : Rising (setT l) := (setT_go l [] List.Pairwise.nil).1
theorem setT_mem (l : List ByteArray) (y : ByteArray) : y ∈ setT l ↔ y ∈ l := by
  have := (setT_go l [] List.Pairwise.nil).2 y
  simpa [setT] using this
theorem Rising.eq : ∀ {a b : List ByteArray}, Rising a → Rising b → (∀ y, y ∈ a ↔ y ∈ b) → a = b
  | [], [], _, _, _ => rfl
  | [], y :: b, _, _, h => absurd ((h y).2 List.mem_cons_self) (by simp)
  | x :: a, [], _, _, h => absurd ((h x).1 List.mem_cons_self) (by simp)
  | x :: a, y :: b, ha, hb, h => by
    have ha' := List.pairwise_cons.1 ha
    have hb' := List.pairwise_cons.1 hb
    have hxy : x = y := by
      rcases List.mem_cons.1 ((h x).1 List.mem_cons_self) with e | e
      · exact e
      · rcases List.mem_cons.1 ((h y).2 List.mem_cons_self) with k | k
        · exact k.symm
        · exact absurd (hb'.1 x e) (ltT_asymm (ha'.1 y k))
    subst hxy
    congr 1
    refine Rising.eq ha'.2 hb'.2 fun z => ?_
    constructor
    · intro hz
      rcases List.mem_cons.1 ((h z).1 (List.mem_cons_of_mem _ hz)) with e | e
      · subst e; exact absurd (ha'.1 z hz) (ltT_irrefl _)
      · exact e
    · intro hz
      rcases List.mem_cons.1 ((h z).2 (List.mem_cons_of_mem _ hz)) with e | e
      · subst e; exact absurd (hb'.1 z hz) (ltT_irrefl _)
      · exact e
theorem setT_len_le (l : List ByteArray) : (setT l).length ≤ l.length := by
  have : ∀ (l s : List ByteArray), (l.foldl (fun s x => insT x s) s).length ≤ s.length + l.length := by
    intro l
    induction l with
    | nil => simp
    | cons x l ih =>
      intro s
      have h1 := ih (insT x s)
      have h2 : (insT x s).length ≤ s.length + 1 := by
        clear ih h1
        induction s with
        | nil => simp [insT]
        | cons y s ih => unfold insT; split
                         · simp; omega
                         · split <;> simp
      simp at h1 ⊢
      omega
  simpa [setT] using this l []
theorem Rising.filter {l : List ByteArray} (h : Rising l) (p : ByteArray → Bool) : Rising (l.filter p) := List.Pairwise.filter p h
end Go.Proofs.YtfgdnakfikpmpaaGreatDoor
namespace Go.Proofs.YtfgdnakfikpmpaaGreatDoor
open Go Go.RowKit Go.Deep
theorem Fp.use_cases (f : Fp) (k : ByteArray) : (f.use k % 2 = 1 ↔ k ∈ f.rs) ∧ (2 ≤ f.use k % 4 ↔ k ∈ f.ws) ∧ 0 ≤ f.use k ∧ f.use k ≤ 3 := by
  unfold Fp.use
  rw [← hasT_iff, ← hasT_iff]
  cases hasT f.rs k <;> cases hasT f.ws k <;> simp
end Go.Proofs.YtfgdnakfikpmpaaGreatDoor
namespace Go.Proofs.YtfgdnakfikpmpaaGreatDoor
open Go Go.RowKit Go.Deep
theorem nameOk_size {s : ByteArray} (h : nameOk s = true) : s.size ≤ 16 := by
  unfold nameOk at h; rw [Bool.and_eq_true] at h; exact of_decide_eq_true h.2
end Go.Proofs.YtfgdnakfikpmpaaGreatDoor
namespace Go.Proofs.YtfgdnakfikpmpaaGreatDoor
open Go Go.RowKit Go.Deep
@[reducible] def instrSh : Sh := .struct (.cons (.int .i64) (.cons (.int .i64) .nil))
@[reducible] def progSh : Sh := .struct (.cons (.int .i64) (.cons (.slice valueSh) (.cons (.slice instrSh) .nil)))
@[reducible] def procSh : Sh := .struct (.cons .str (.cons (.slice (.int .i64)) (.cons .bool (.cons (.slice .str) (.cons (.slice .str) (.cons progSh .nil))))))
@[reducible] def partSh : Sh := .struct (.cons .str (.cons (.int .i64) .nil))
abbrev Ins := instrSh.T
abbrev Pgm := progSh.T
abbrev Pgm.args (p : Pgm) : Int := p.1
abbrev Pgm.consts (p : Pgm) : List Val := p.2.1
abbrev Pgm.code (p : Pgm) : List Ins := p.2.2.1
def mkPgm (a : Int) (c : List Val) (l : List Ins) : Pgm := (a, c, l, ())
abbrev Prc := procSh.T
abbrev Prc.name (p : Prc) : ByteArray := p.1
abbrev Prc.kinds (p : Prc) : List Int := p.2.1
abbrev Prc.dep (p : Prc) : Bool := p.2.2.1
abbrev Prc.reads (p : Prc) : List ByteArray := p.2.2.2.1
abbrev Prc.writes (p : Prc) : List ByteArray := p.2.2.2.2.1
abbrev Prc.pgm (p : Prc) : Pgm := p.2.2.2.2.2.1
def mkPrc (n : ByteArray) (k : List Int) (d : Bool) (r w : List ByteArray) (g : Pgm) : Prc := (n, k, d, r, w, g, ())
def prc0 : Prc := mkPrc noText [] false [] [] (mkPgm 0 [] [])
abbrev Prt := partSh.T
abbrev Prt.text (p : Prt) : ByteArray := p.1
abbrev Prt.arg (p : Prt) : Int := p.2.1
def mkPrt (t : ByteArray) (n : Int) : Prt := (t, n, ())
def cutU : Bytes → Option (List Prt)
  | [] => some []
  | c :: r =>
    if c = 123 then
      match r with
      | d :: e :: t => if 48 ≤ d ∧ d ≤ 57 ∧ e = 125 then (cutU t).map (mkPrt noText (d - 48) :: ·) else none
      | _ => none
    else if keyC c then (cutU r).map (mkPrt ⟨#[c.toNat.toUInt8]⟩ (-1) :: ·) else none
def cutT (t : ByteArray) : Option (List Prt) := if t.size = 0 ∨ 64 < t.size then none else cutU (bytesOf t)
def below (n : Nat) (l : List Prt) : Bool := l.all fun p => decide (p.arg < n)
def tmplOk (t : ByteArray) (n : Nat) : Bool := match cutT t with | some l => below n l | none => false
def argText (v : Val) : List UInt8 := if v.kind = 1 then Lib.itoa v.num else v.text.data.toList
def keyLs (args : List Val) : List Prt → Option (List UInt8)
  | [] => some []
  | p :: l =>
    if p.arg < 0 then (keyLs args l).map (p.text.data.toList ++ ·)
    else if givenV (args.getD p.arg.toNat val0) = false then none
    else (keyLs args l).map (argText (args.getD p.arg.toNat val0) ++ ·)
def keyT (t : ByteArray) (args : List Val) : ByteArray × Int :=
  match cutT t with
  | none => (noText, 81)
  | some l =>
    if below args.length l = false then (noText, 81) else
    match keyLs args l with
    | none => (noText, 82)
    | some b => if keyOk ⟨b.toArray⟩ then (⟨b.toArray⟩, 0) else (noText, 30)
def kindOk (k : Int) : Bool := decide (1 ≤ k) && decide (k ≤ 3)
def Prc.check (p : Prc) (pg : Int) : Int :=
  if nameOk p.name = false ∨ 8 < p.kinds.length then 80
  else if p.kinds.all kindOk = false then 80
  else if p.dep = true ∧ 0 < p.reads.length + p.writes.length then 80
  else if 32 < p.reads.length ∨ 32 < p.writes.length then 6
  else if p.reads.all (tmplOk · p.kinds.length) = false ∨ p.writes.all (tmplOk · p.kinds.length) = false then 81
  else if pg ≠ 0 then pg
  else if p.pgm.args ≠ p.kinds.length then 80
  else 0
def suitB (k : Int) (v : Val) : Bool := givenV v && (decide (k = v.kind) || decide (k = 3))
def suitsB (ks : List Int) (args : List Val) : Bool := decide (args.length = ks.length) && (ks.zip args).all fun x => suitB x.1 x.2
def keysT (args : List Val) : List ByteArray → List ByteArray × Int
  | [] => ([], 0)
  | t :: l => if (keyT t args).2 ≠ 0 then ([], (keyT t args).2) else if (keysT args l).2 ≠ 0 then ([], (keysT args l).2) else ((keyT t args).1 :: (keysT args l).1, 0)
def Prc.foot (p : Prc) (args : List Val) : Fp × Int :=
  if p.dep then (mkFp [] [], 83)
  else if suitsB p.kinds args = false then (mkFp [] [], 82)
  else if (keysT args p.reads).2 ≠ 0 then (mkFp [] [], (keysT args p.reads).2)
  else if (keysT args p.writes).2 ≠ 0 then (mkFp [] [], (keysT args p.writes).2)
  else (mkFp (keysT args p.reads).1 (keysT args p.writes).1).norm
def findP (L : List Prc) (n : ByteArray) : Option Prc := L.find? fun p => decide (p.name = n)
def quoted : List UInt8 → List UInt8
  | [] => []
  | c :: l => if c = 34 ∨ c = 92 then 92 :: c :: quoted l else c :: quoted l
def Val.print (v : Val) : List UInt8 :=
  if v.kind = 1 then Lib.itoa v.num else if v.kind = 0 then [110, 111, 110, 101] else 34 :: (quoted v.text.data.toList ++ [34])
end Go.Proofs.YtfgdnakfikpmpaaGreatDoor
