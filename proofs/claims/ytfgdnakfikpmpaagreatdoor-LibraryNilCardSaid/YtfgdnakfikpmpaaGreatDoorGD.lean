/-
  Values: what is written is read again; what was read is what would be written.
  The order of texts; rising lists; the unlike texts of a list.
  Footprints and requests: what is written is read again; what was read is what would be written.
  Requests: what is written is read again; what was read is what would be written.
  What the functions of package seqlog compute, in plain words; entries' bytes, there and back.
  What the functions of packages library and request compute of procedures, templates and keys, in plain words.
-/
import Derived.Test.YtfgdnakfikpmpaaGreatDoorGA
import Derived.Test.YtfgdnakfikpmpaaGreatDoorGC
import Derived.WalkKit
import Derived.WalkSpells
import Derived.WalkLawsBesides
import Derived.ProofKit
import Derived.Deep.Slices
import Derived.Deep.AppendSrc
import Derived.Lib.Hide
import Derived.Lib.ItoaNum
import Derived.Lib.Join
namespace Go.Proofs.YtfgdnakfikpmpaaGreatDoor
set_option linter.unusedVariables false
set_option linter.unusedSimpArgs false
open Go Go.RowKit Go.Deep

theorem size0 {s : ByteArray} (h : s.size = 0) : s = noText := by
  cases s with
  | mk d =>
    have : d.size = 0 := h
    have : d = #[] := Array.eq_empty_of_size_eq_zero this
    rw [this]; rfl
theorem noText_size : noText.size = 0 := rfl

/-- the ranges that a value's fields have in the model -/
structure Val.In (v : Val) : Prop where
  k0 : -9223372036854775808 ≤ v.kind
  k1 : v.kind ≤ 9223372036854775807
  n0 : -9223372036854775808 ≤ v.num
  n1 : v.num ≤ 9223372036854775807

theorem Val.ok_cases {v : Val} (h : v.ok = true) : v = val0 ∨ (v.kind = 1 ∧ v = mkVal 1 v.num noText) ∨ (v.kind = 2 ∧ v = mkVal 2 0 v.text ∧ v.text.size ≤ 64 ∧ plainB v.text = true) := by
  obtain ⟨k, n, t, u⟩ := v
  simp only [Val.ok, Val.kind, Val.num, Val.text] at h ⊢
  split at h
  · rename_i hk
    simp at h
    left
    rw [hk, h.1, h.2]; rfl
  · split at h
    · rename_i hk
      simp at h
      right; left
      refine ⟨hk, ?_⟩
      rw [hk, h]; rfl
    · split at h
      · rename_i hk
        simp at h
        right; right
        refine ⟨hk, ?_, h.1.2, h.2⟩
        rw [hk, h.1.1]; rfl
      · cases h
theorem val0_ok : val0.ok = true := by rfl
theorem int_ok (n : Int) : (mkVal 1 n noText).ok = true := by simp [Val.ok, mkVal, Val.kind, Val.text, noText_size]
theorem word_ok (t : ByteArray) (h1 : t.size ≤ 64) (h2 : plainB t = true) : (mkVal 2 0 t).ok = true := by simp [Val.ok, mkVal, Val.kind, Val.text, Val.num, h1, h2]
theorem val0_bytes : val0.bytes = [0] := by simp [Val.bytes, val0_ok]; simp [val0, mkVal, Val.kind]
theorem int_bytes (n : Int) : (mkVal 1 n noText).bytes = 1 :: uintB (zig n) := by simp [Val.bytes, int_ok]; simp [mkVal, Val.kind, Val.num]
theorem word_bytes (t : ByteArray) (h1 : t.size ≤ 64) (h2 : plainB t = true) : (mkVal 2 0 t).bytes = 2 :: textB t := by simp [Val.bytes, word_ok t h1 h2]; simp [mkVal, Val.kind, Val.text]

theorem sees_orNone {v : Val} {r : Rs} {t : Bytes} (h : r.Sees t) : orNone v r = (v, r) := by
  unfold orNone; rw [if_neg (by rw [h.err]; simp)]
theorem sees_takeV {r : Rs} {v : Val} {t : Bytes} (hv : v.ok = true) (hi : v.In) (h : r.Sees (v.bytes ++ t)) : (takeV r).1 = v ∧ (takeV r).2.Sees t := by
  rcases Val.ok_cases hv with rfl | ⟨-, e⟩ | ⟨-, e, h1, h2⟩
  · rw [val0_bytes] at h
    obtain ⟨b1, b2, -⟩ := sees_byte (c := 0) h
    unfold takeV
    rw [b1, if_neg (by decide), if_neg (by decide), if_pos rfl, sees_orNone b2]
    exact ⟨rfl, b2⟩
  · have i0 := hi.n0
    have i1 := hi.n1
    generalize v.num = n at e i0 i1
    clear hi hv
    subst e
    rw [int_bytes] at h
    obtain ⟨b1, b2, -⟩ := sees_byte (c := 1) h
    obtain ⟨c1, c2⟩ := sees_int b2 i0 i1
    unfold takeV
    rw [b1, if_pos rfl, sees_orNone c2, c1]
    rw [c1] at c2
    exact ⟨rfl, c2⟩
  · generalize v.text = w at e h1 h2
    clear hi hv
    subst e
    rw [word_bytes w h1 h2] at h
    obtain ⟨b1, b2, -⟩ := sees_byte (c := 2) h
    obtain ⟨c1, c2⟩ := sees_text (most := 64) b2 (by omega) h1
    have c1' : (r.byte.2.text 64) = _ := c1
    unfold takeV
    rw [b1, if_neg (by decide), if_pos rfl]
    simp only []
    rw [c1', if_pos h2]
    rw [c1] at c2
    rw [sees_orNone c2]
    exact ⟨rfl, c2⟩

theorem over_orNone {r s : Rs} {v : Val} {x : Bytes} (h : r.Over s x) : r.Over (orNone v s).2 x := by
  unfold orNone; split <;> exact h
theorem orNone_fst {v : Val} {s : Rs} (h : (orNone v s).2.err = 0) : (orNone v s).1 = v := by
  unfold orNone at h ⊢
  split
  · rename_i he; rw [if_pos he] at h; exact absurd h he
  · rfl
theorem Rs.Over.when {r s : Rs} {x y : Bytes} (h : r.Over s x) (e : s.err = 0 → x = y) : r.Over s y :=
  ⟨h.b, h.ok, h.err, fun o k => by rw [← e k]; exact h.over o k⟩

theorem over_takeV (r : Rs) (h63 : r.b.length < 2 ^ 64) : r.Over (takeV r).2 (takeV r).1.bytes := by
  unfold takeV
  have hb := over_byte r
  split
  · rename_i h1
    rw [h1] at hb
    refine (over_orNone (hb.trans (over_int _))).when fun h => ?_
    rw [orNone_fst h, int_bytes]
    rfl
  · split
    · rename_i h1 h2
      rw [h2] at hb
      simp only []
      have ht := over_text r.byte.2 64 (by rw [hb.b]; exact h63)
      have hle : (r.byte.2.text 64).1.size ≤ 64 := text_le r.byte.2 64
      split
      · rename_i hp
        refine (over_orNone (hb.trans ht)).when fun h => ?_
        rw [orNone_fst h, word_bytes _ hle hp]
        rfl
      · rename_i hp
        refine (over_orNone ((hb.trans ht).trans (.fail _ (by omega) (by omega)))).when fun h => ?_
        have : (orNone (mkVal 2 0 (r.byte.2.text 64).1) ((r.byte.2.text 64).2.fail 20)).2 = (r.byte.2.text 64).2.fail 20 := by unfold orNone; split <;> rfl
        rw [this] at h
        exact (Rs.fail_err (by omega) h).elim
    · split
      · rename_i h1 h2 h3
        rw [h3] at hb
        refine (over_orNone hb).when fun h => ?_
        rw [orNone_fst h, val0_bytes]
      · refine (over_orNone (hb.trans (.fail _ (e := 20) (by omega) (by omega)))).when fun h => ?_
        have : (orNone val0 (r.byte.2.fail 20)).2 = r.byte.2.fail 20 := by unfold orNone; split <;> rfl
        rw [this] at h
        exact (Rs.fail_err (by omega) h).elim
theorem orNone_ok {v : Val} {s : Rs} (h : v.ok = true) : (orNone v s).1.ok = true := by
  unfold orNone; split
  · exact val0_ok
  · exact h
theorem takeV_ok (r : Rs) : (takeV r).1.ok = true := by
  unfold takeV
  split
  · exact orNone_ok (int_ok _)
  · split
    · simp only []
      by_cases hp : plainB (r.byte.2.text 64).1 = true
      · rw [if_pos hp]; exact orNone_ok (word_ok _ (text_le _ 64) hp)
      · rw [if_neg hp]
        by_cases he : ((r.byte.2.text 64).2.fail 20).err = 0
        · exact (Rs.fail_err (by omega) he).elim
        · unfold orNone; rw [if_pos he]; exact val0_ok
    · split
      · exact orNone_ok val0_ok
      · exact orNone_ok val0_ok
theorem in_mk {k n : Int} (t : ByteArray) (h0 : -9223372036854775808 ≤ k) (h1 : k ≤ 9223372036854775807) (h2 : -9223372036854775808 ≤ n) (h3 : n ≤ 9223372036854775807) : (mkVal k n t).In := ⟨h0, h1, h2, h3⟩
theorem in_val0 : val0.In := in_mk _ (by decide) (by decide) (by decide) (by decide)
theorem orNone_in {v : Val} {s : Rs} (h : v.In) : (orNone v s).1.In := by
  unfold orNone; split
  · exact in_val0
  · exact h
theorem takeV_in (r : Rs) (h : r.Ok) : (takeV r).1.In := by
  unfold takeV
  split
  · have := int_lt ((over_byte r).ok h)
    exact orNone_in (in_mk _ (by decide) (by decide) this.1 this.2)
  · split
    · exact orNone_in (in_mk _ (by decide) (by decide) (by decide) (by decide))
    · split
      · exact orNone_in in_val0
      · exact orNone_in in_val0

end Go.Proofs.YtfgdnakfikpmpaaGreatDoor

namespace Go.Proofs.YtfgdnakfikpmpaaGreatDoor
set_option linter.unusedVariables false
set_option linter.unusedSimpArgs false
open Go Go.RowKit Go.Deep

theorem bytesLess_is : ∀ (x y : List UInt8), Op.bytesLess x y = decide (x < y)
  | [], [] => by simp [Op.bytesLess]
  | _ :: _, [] => by simp [Op.bytesLess]
  | [], _ :: _ => by simp [Op.bytesLess]
  | a :: x, b :: y => by
    rw [Op.bytesLess, bytesLess_is x y]
    simp only [List.cons_lt_cons_iff]
    by_cases h1 : a < b <;> by_cases h2 : a = b <;> by_cases h3 : x < y <;> simp [h1, h2, h3]
theorem toList_is (a : ByteArray) : a.toList = a.data.toList := ByteArray.toList_eq a
theorem ltT_iff (a b : ByteArray) : ltT a b = true ↔ a.data.toList < b.data.toList := by
  unfold ltT; rw [bytesLess_is, toList_is, toList_is]; simp
theorem text_ext {a b : ByteArray} (h : a.data.toList = b.data.toList) : a = b := by
  cases a; cases b; simp only [ByteArray.mk.injEq]; exact Array.toList_inj.1 h
theorem ltT_irrefl (a : ByteArray) : ¬ ltT a a = true := by rw [ltT_iff]; exact List.lt_irrefl _
theorem ltT_trans {a b c : ByteArray} (h : ltT a b = true) (k : ltT b c = true) : ltT a c = true := by
  rw [ltT_iff] at *; exact List.lt_trans h k
theorem ltT_asymm {a b : ByteArray} (h : ltT a b = true) : ¬ ltT b a = true := fun k => ltT_irrefl _ (ltT_trans h k)
theorem ltT_or (a b : ByteArray) : ltT a b = true ∨ a = b ∨ ltT b a = true := by
  rw [ltT_iff, ltT_iff]
  rcases List.le_total a.data.toList b.data.toList with h | h
  · rcases List.le_iff_lt_or_eq.1 h with h | h
    · exact .inl h
    · exact .inr (.inl (text_ext h))
  · rcases List.le_iff_lt_or_eq.1 h with h | h
    · exact .inr (.inr h)
    · exact .inr (.inl (text_ext h.symm))

def Rising (l : List ByteArray) : Prop := l.Pairwise fun a b => ltT a b = true
theorem insT_mem (x : ByteArray) (l : List ByteArray) (y : ByteArray) : y ∈ insT x l ↔ y = x ∨ y ∈ l := by
  induction l with
  | nil => simp [insT]
  | cons z l ih =>
    unfold insT
    split
    · simp [ih]; constructor
      · rintro (h | h | h)
        · exact .inr (.inl h)
        · exact .inl h
        · exact .inr (.inr h)
      · rintro (h | h | h)
        · exact .inr (.inl h)
        · exact .inl h
        · exact .inr (.inr h)
    · split
      · rename_i h; subst h; simp
      · simp
theorem insT_rising (x : ByteArray) {l : List ByteArray} (h : Rising l) : Rising (insT x l) := by
  induction l with
  | nil => simp [insT, Rising]
  | cons z l ih =>
    have hz := List.pairwise_cons.1 h
    unfold insT
    split
    · rename_i hlt
      refine List.pairwise_cons.2 ⟨fun y hy => ?_, ih hz.2⟩
      rcases (insT_mem x l y).1 hy with rfl | hy
      · exact hlt
      · exact hz.1 y hy
    · split
      · exact h
      · rename_i h1 h2
        have hxz : ltT x z = true := by
          rcases ltT_or z x with h | h | h
          · exact absurd h h1
          · exact absurd h h2
          · exact h
        refine List.pairwise_cons.2 ⟨fun y hy => ?_, h⟩
        rcases List.mem_cons.1 hy with rfl | hy
        · exact hxz
        · exact ltT_trans hxz (hz.1 y hy)
theorem setT_go (l s : List ByteArray) (hs : Rising s) : Rising (l.foldl (fun s x => insT x s) s) ∧ ∀ y, y ∈ l.foldl (fun s x => insT x s) s ↔ y ∈ s ∨ y ∈ l := by
  induction l generalizing s with
  | nil => exact ⟨hs, by simp⟩
  | cons x l ih =>
    obtain ⟨h1, h2⟩ := ih (insT x s) (insT_rising x hs)
    refine ⟨h1, fun y => ?_⟩
    rw [List.foldl_cons, h2, insT_mem, List.mem_cons]
    constructor
    · rintro ((h | h) | h)
      · exact .inr (.inl h)
      · exact .inl h
      · exact .inr (.inr h)
    · rintro (h | h | h)
      · exact .inl (.inr h)
      · exact .inl (.inl h)
      · exact .inr h
theorem setT_rising (l : List ByteArray) : Rising (setT l) := (setT_go l [] List.Pairwise.nil).1
theorem setT_mem (l : List ByteArray) (y : ByteArray) : y ∈ setT l ↔ y ∈ l := by
  have := (setT_go l [] List.Pairwise.nil).2 y
  simpa [setT] using this
theorem Rising.tail {x : ByteArray} {l : List ByteArray} (h : Rising (x :: l)) : Rising l := (List.pairwise_cons.1 h).2
/-- two rising lists with the same texts are one -/
theorem Rising.eq : ∀ {a b : List ByteArray}, Rising a → Rising b → (∀ y, y ∈ a ↔ y ∈ b) → a = b
  | [], [], _, _, _ => rfl
  | [], y :: b, _, _, h => absurd ((h y).2 List.mem_cons_self) (by simp)
  | x :: a, [], _, _, h => absurd ((h x).1 List.mem_cons_self) (by simp)
  | x :: a, y :: b, ha, hb, h => by
    have ha' := List.pairwise_cons.1 ha
    have hb' := List.pairwise_cons.1 hb
    have hxy : x = y := by
      rcases List.mem_cons.1 ((h x).1 List.mem_cons_self) with e | e
      · exact e
      · rcases List.mem_cons.1 ((h y).2 List.mem_cons_self) with k | k
        · exact k.symm
        · exact absurd (hb'.1 x e) (ltT_asymm (ha'.1 y k))
    subst hxy
    congr 1
    refine Rising.eq ha'.2 hb'.2 fun z => ?_
    constructor
    · intro hz
      rcases List.mem_cons.1 ((h z).1 (List.mem_cons_of_mem _ hz)) with e | e
      · subst e; exact absurd (ha'.1 z hz) (ltT_irrefl _)
      · exact e
    · intro hz
      rcases List.mem_cons.1 ((h z).2 (List.mem_cons_of_mem _ hz)) with e | e
      · subst e; exact absurd (hb'.1 z hz) (ltT_irrefl _)
      · exact e
theorem setT_of_rising {l : List ByteArray} (h : Rising l) : setT l = l := (setT_rising l).eq h (setT_mem l)
theorem setT_eq_iff (l : List ByteArray) : setT l = l ↔ Rising l := ⟨fun h => h ▸ setT_rising l, setT_of_rising⟩
theorem setT_len_le (l : List ByteArray) : (setT l).length ≤ l.length := by
  have : ∀ (l s : List ByteArray), (l.foldl (fun s x => insT x s) s).length ≤ s.length + l.length := by
    intro l
    induction l with
    | nil => simp
    | cons x l ih =>
      intro s
      have h1 := ih (insT x s)
      have h2 : (insT x s).length ≤ s.length + 1 := by
        clear ih h1
        induction s with
        | nil => simp [insT]
        | cons y s ih => unfold insT; split
                         · simp; omega
                         · split <;> simp
      simp at h1 ⊢
      omega
  simpa [setT] using this l []
theorem Rising.filter {l : List ByteArray} (h : Rising l) (p : ByteArray → Bool) : Rising (l.filter p) := List.Pairwise.filter p h

/-- in the normal form -/
structure Fp.Is (f : Fp) : Prop where
  ok : ∀ k, k ∈ f.rs ∨ k ∈ f.ws → keyOk k = true
  many : (setT (f.rs ++ f.ws)).length ≤ 64
  rs : Rising f.rs
  ws : Rising f.ws
theorem Fp.normal_iff (f : Fp) : f.normal = true ↔ f.Is := by
  unfold Fp.normal Fp.norm
  constructor
  · intro h
    split at h
    · simp at h
    · rename_i h1
      split at h
      · simp at h
      · rename_i h2
        rw [Bool.and_eq_true, Bool.and_eq_true] at h
        obtain ⟨⟨-, e1⟩, e2⟩ := h
        simp only [Bool.not_eq_false, List.all_append, Bool.and_eq_true, List.all_eq_true] at h1
        exact ⟨fun k hk => hk.elim (h1.1 k) (h1.2 k), by omega, (setT_eq_iff _).1 (of_decide_eq_true e1), (setT_eq_iff _).1 (of_decide_eq_true e2)⟩
  · intro h
    rw [if_neg (by simp only [Bool.not_eq_false, List.all_append, Bool.and_eq_true, List.all_eq_true]; exact ⟨fun k hk => h.ok k (.inl hk), fun k hk => h.ok k (.inr hk)⟩), if_neg (by have := h.many; omega)]
    rw [Bool.and_eq_true, Bool.and_eq_true]
    exact ⟨⟨rfl, decide_eq_true (setT_of_rising h.rs)⟩, decide_eq_true (setT_of_rising h.ws)⟩

end Go.Proofs.YtfgdnakfikpmpaaGreatDoor

namespace Go.Proofs.YtfgdnakfikpmpaaGreatDoor
set_option linter.unusedVariables false
set_option linter.unusedSimpArgs false
open Go Go.RowKit Go.Deep

theorem keyOk_size {k : ByteArray} (h : keyOk k = true) : 1 ≤ k.size ∧ k.size ≤ 32 := by
  unfold keyOk at h
  rw [Bool.and_eq_true, Bool.and_eq_true] at h
  exact ⟨of_decide_eq_true h.1.2, of_decide_eq_true h.2⟩
theorem keyOk_noText : keyOk noText = false := by rfl
/-- one key of a footprint's bytes, taken -/
def keyStep (f : Fp) (last : ByteArray) (r : Rs) : Fp × ByteArray × Rs :=
  let k := r.text 32
  let r1 := if keyOk k.1 then k.2 else k.2.fail 30
  let r2 := if ltT last k.1 then r1 else r1.fail 31
  let u := r2.byte
  let r3 := if 1 ≤ u.1 ∧ u.1 ≤ 3 then u.2 else u.2.fail 31
  (mkFp (if u.1 % 2 = 1 then f.rs ++ [k.1] else f.rs) (if 2 ≤ u.1 % 4 then f.ws ++ [k.1] else f.ws), k.1, r3)
theorem keysF_succ (n : Nat) (f : Fp) (last : ByteArray) (r : Rs) : keysF (n + 1) f last r = keysF n (keyStep f last r).1 (keyStep f last r).2.1 (keyStep f last r).2.2 := rfl

/-- a text and its use, laid to a footprint -/
def addU (f : Fp) (k : ByteArray) (u : Int) : Fp := mkFp (if u % 2 = 1 then f.rs ++ [k] else f.rs) (if 2 ≤ u % 4 then f.ws ++ [k] else f.ws)
theorem sees_keyStep {f : Fp} {last k : ByteArray} {u : Int} {r : Rs} {t : Bytes} (h : r.Sees (textB k ++ [u] ++ t)) (hk : keyOk k = true) (hl : ltT last k = true) (h1 : 1 ≤ u) (h3 : u ≤ 3) :
    (keyStep f last r).1 = addU f k u ∧ (keyStep f last r).2.1 = k ∧ (keyStep f last r).2.2.Sees t := by
  have hs := keyOk_size hk
  rw [List.append_assoc] at h
  obtain ⟨c1, c2⟩ := sees_text (most := 32) h (by omega) hs.2
  have e1 : (r.text 32).1 = k := by have := congrArg Prod.fst c1; exact this
  have c2' : (r.text 32).2.Sees ([u] ++ t) := c2
  unfold keyStep
  simp only [e1, hk, hl, if_true]
  obtain ⟨b1, b2, -⟩ := sees_byte (c := u) (t := t) c2'
  rw [b1]
  refine ⟨rfl, trivial, ?_⟩
  rw [if_pos ⟨h1, h3⟩]
  exact b2
theorem over_keyStep (f : Fp) (last : ByteArray) (r : Rs) (h63 : r.b.length < 2 ^ 64) :
    ∃ k u, (keyStep f last r).1 = addU f k u ∧ (keyStep f last r).2.1 = k ∧ r.Over (keyStep f last r).2.2 (textB k ++ [u]) ∧ ((keyStep f last r).2.2.err = 0 → keyOk k = true ∧ ltT last k = true ∧ 1 ≤ u ∧ u ≤ 3) := by
  unfold keyStep
  simp only []
  have ht := over_text r 32 h63
  generalize (r.text 32).1 = k at ht ⊢
  generalize (r.text 32).2 = r0 at ht ⊢
  have ho1 : r0.Over (if keyOk k = true then r0 else r0.fail 30) [] := by
    split
    · exact .refl _
    · exact .fail _ (by omega) (by omega)
  have hz1 : (if keyOk k = true then r0 else r0.fail 30).err = 0 → keyOk k = true := by
    split
    · intro; assumption
    · intro h; exact (Rs.fail_err (by omega) h).elim
  generalize (if keyOk k = true then r0 else r0.fail 30) = r1 at ho1 hz1 ⊢
  have ho2 : r1.Over (if ltT last k = true then r1 else r1.fail 31) [] := by
    split
    · exact .refl _
    · exact .fail _ (by omega) (by omega)
  have hz2 : (if ltT last k = true then r1 else r1.fail 31).err = 0 → ltT last k = true := by
    split
    · intro; assumption
    · intro h; exact (Rs.fail_err (by omega) h).elim
  generalize (if ltT last k = true then r1 else r1.fail 31) = r2 at ho2 hz2 ⊢
  have hb := over_byte r2
  generalize r2.byte.1 = u at hb ⊢
  generalize r2.byte.2 = r3 at hb ⊢
  have ho3 : r3.Over (if 1 ≤ u ∧ u ≤ 3 then r3 else r3.fail 31) [] := by
    split
    · exact .refl _
    · exact .fail _ (by omega) (by omega)
  have hz3 : (if 1 ≤ u ∧ u ≤ 3 then r3 else r3.fail 31).err = 0 → 1 ≤ u ∧ u ≤ 3 := by
    split
    · intro; assumption
    · intro h; exact (Rs.fail_err (by omega) h).elim
  generalize (if 1 ≤ u ∧ u ≤ 3 then r3 else r3.fail 31) = r4 at ho3 hz3 ⊢
  have back : ∀ {a b : Rs} {x : Bytes}, a.Over b x → b.err = 0 → a.err = 0 := fun h k => Classical.byContradiction fun e => h.err e k
  refine ⟨k, u, rfl, rfl, ?_, fun h => ?_⟩
  · have := (((ht.trans ho1).trans ho2).trans hb).trans ho3
    simpa using this
  · exact ⟨hz1 (back ho2 (back hb (back ho3 h))), hz2 (back hb (back ho3 h)), hz3 h⟩

/-- pairs laid to a footprint, one by one -/
def addUs (f : Fp) (l : List (ByteArray × Int)) : Fp := l.foldl (fun f p => addU f p.1 p.2) f
def pairB (p : ByteArray × Int) : Bytes := textB p.1 ++ [p.2]
/-- what pairs must be -/
def PairsOk (last : ByteArray) (l : List (ByteArray × Int)) : Prop := (∀ p ∈ l, keyOk p.1 = true ∧ 1 ≤ p.2 ∧ p.2 ≤ 3) ∧ Rising (last :: l.map Prod.fst)
theorem PairsOk.tail {last : ByteArray} {p : ByteArray × Int} {l : List (ByteArray × Int)} (h : PairsOk last (p :: l)) : PairsOk p.1 l :=
  ⟨fun q hq => h.1 q (List.mem_cons_of_mem _ hq), (List.pairwise_cons.1 h.2).2⟩
theorem sees_keys (l : List (ByteArray × Int)) (f : Fp) (last : ByteArray) (r : Rs) (t : Bytes) (hp : PairsOk last l) (h : r.Sees (l.flatMap pairB ++ t)) :
    (keysF l.length f last r).1 = addUs f l ∧ (keysF l.length f last r).2.Sees t := by
  induction l generalizing f last r with
  | nil => exact ⟨rfl, by simpa [keysF] using h⟩
  | cons p l ih =>
    have h' : r.Sees (textB p.1 ++ [p.2] ++ (l.flatMap pairB ++ t)) := by simpa [pairB] using h
    have hp1 := hp.1 p List.mem_cons_self
    obtain ⟨e1, e2, e3⟩ := sees_keyStep (f := f) (last := last) h' hp1.1 ((List.pairwise_cons.1 hp.2).1 p.1 (by simp)) hp1.2.1 hp1.2.2
    rw [List.length_cons, keysF_succ, e1, e2]
    exact ih _ _ _ hp.tail e3
theorem over_keys (n : Nat) (f : Fp) (last : ByteArray) (r : Rs) (h63 : r.b.length < 2 ^ 64) :
    ∃ l : List (ByteArray × Int), l.length = n ∧ (keysF n f last r).1 = addUs f l ∧ r.Over (keysF n f last r).2 (l.flatMap pairB) ∧ ((keysF n f last r).2.err = 0 → PairsOk last l) := by
  induction n generalizing f last r with
  | zero => exact ⟨[], rfl, rfl, .refl _, fun _ => ⟨by simp, by simp [Rising]⟩⟩
  | succ n ih =>
    obtain ⟨k, u, e1, e2, ho, hz⟩ := over_keyStep f last r h63
    obtain ⟨l, el, ef, hol, hzl⟩ := ih (keyStep f last r).1 (keyStep f last r).2.1 (keyStep f last r).2.2 (by rw [ho.b]; exact h63)
    rw [keysF_succ]
    refine ⟨(k, u) :: l, by simp [el], ?_, ?_, fun h => ?_⟩
    · rw [ef, e1]; rfl
    · have := ho.trans hol
      simpa [pairB] using this
    · have hk := hzl h
      have h1 := hz (Classical.byContradiction fun e => hol.err e h)
      rw [e2] at hk
      refine ⟨fun p hp => ?_, ?_⟩
      · rcases List.mem_cons.1 hp with rfl | hp
        · exact ⟨h1.1, h1.2.2⟩
        · exact hk.1 p hp
      · refine List.pairwise_cons.2 ⟨fun y hy => ?_, hk.2⟩
        rcases List.mem_cons.1 hy with rfl | hy
        · exact h1.2.1
        · exact ltT_trans h1.2.1 ((List.pairwise_cons.1 hk.2).1 y hy)

theorem addUs_eq (f : Fp) (l : List (ByteArray × Int)) : addUs f l = mkFp (f.rs ++ (l.filter fun p => p.2 % 2 = 1).map Prod.fst) (f.ws ++ (l.filter fun p => decide (2 ≤ p.2 % 4)).map Prod.fst) := by
  induction l generalizing f with
  | nil => simp [addUs, mkFp]
  | cons p l ih =>
    show addUs (addU f p.1 p.2) l = _
    rw [ih]
    by_cases h1 : p.2 % 2 = 1 <;> by_cases h2 : 2 ≤ p.2 % 4 <;> simp [addU, mkFp, h1, h2, Fp.rs, Fp.ws]

/-- the pairs of a footprint -/
def Fp.pairs (f : Fp) : List (ByteArray × Int) := (setT (f.rs ++ f.ws)).map fun k => (k, f.use k)
theorem Fp.body_pairs (f : Fp) : f.bytes = uintB f.pairs.length ++ f.pairs.flatMap pairB := by
  simp [Fp.bytes, Fp.body, Fp.pairs, List.flatMap_map, pairB]
theorem Fp.use_cases (f : Fp) (k : ByteArray) : (f.use k % 2 = 1 ↔ k ∈ f.rs) ∧ (2 ≤ f.use k % 4 ↔ k ∈ f.ws) ∧ 0 ≤ f.use k ∧ f.use k ≤ 3 := by
  unfold Fp.use
  rw [← hasT_iff, ← hasT_iff]
  cases hasT f.rs k <;> cases hasT f.ws k <;> simp
theorem rising_noText {l : List ByteArray} (h : Rising l) (hk : ∀ k ∈ l, keyOk k = true) : Rising (noText :: l) := by
  refine List.pairwise_cons.2 ⟨fun y hy => ?_, h⟩
  rcases ltT_or noText y with e | e | e
  · exact e
  · have := hk y hy; rw [← e, keyOk_noText] at this; cases this
  · rw [ltT_iff] at e
    exact absurd e (by simp [noText])
theorem Fp.pairs_ok {f : Fp} (h : f.Is) : PairsOk noText f.pairs := by
  have hkeys : f.pairs.map Prod.fst = setT (f.rs ++ f.ws) := by simp [Fp.pairs, Function.comp_def]
  refine ⟨fun p hp => ?_, ?_⟩
  · obtain ⟨k, hk, rfl⟩ := List.mem_map.1 hp
    rw [setT_mem, List.mem_append] at hk
    have := f.use_cases k
    refine ⟨h.ok k hk, ?_, this.2.2.2⟩
    show 1 ≤ f.use k
    rcases hk with hk | hk
    · have := this.1.2 hk; omega
    · have := this.2.1.2 hk; omega
  · rw [hkeys]
    exact rising_noText (setT_rising _) fun k hk => h.ok k (by rw [setT_mem, List.mem_append] at hk; exact hk)
theorem Fp.addUs_pairs {f : Fp} (h : f.Is) : addUs (mkFp [] []) f.pairs = f := by
  rw [addUs_eq]
  obtain ⟨rs, ws, u⟩ := f
  have e1 : ∀ (p : ByteArray × Int → Bool), (Fp.pairs (rs, ws, u)).filter p = ((setT (rs ++ ws)).filter fun k => p (k, Fp.use (rs, ws, u) k)).map fun k => (k, Fp.use (rs, ws, u) k) := fun p => by
    simp [Fp.pairs, List.filter_map, Function.comp_def]
  have e2 : ∀ l : List ByteArray, (l.map fun k => (k, Fp.use (rs, ws, u) k)).map Prod.fst = l := fun l => by simp [Function.comp_def]
  have hr : ((setT (rs ++ ws)).filter fun k => decide (Fp.use (rs, ws, u) k % 2 = 1)) = rs := by
    refine ((setT_rising _).filter _).eq h.rs fun y => ?_
    have := (Fp.use_cases (rs, ws, u) y).1
    rw [List.mem_filter, setT_mem, List.mem_append, decide_eq_true_iff]
    exact ⟨fun k => this.1 k.2, fun k => ⟨.inl k, this.2 k⟩⟩
  have hw : ((setT (rs ++ ws)).filter fun k => decide (2 ≤ Fp.use (rs, ws, u) k % 4)) = ws := by
    refine ((setT_rising _).filter _).eq h.ws fun y => ?_
    have := (Fp.use_cases (rs, ws, u) y).2.1
    rw [List.mem_filter, setT_mem, List.mem_append, decide_eq_true_iff]
    exact ⟨fun k => this.1 k.2, fun k => ⟨.inr k, this.2 k⟩⟩
  rw [e1, e1, e2, e2, hr, hw]
  rfl

theorem footGet_bytes (f : Fp) (h : f.Is) (t : Bytes) (hA : AllB (f.bytes ++ t)) (h63 : (f.bytes ++ t).length < 2 ^ 64) : footGet (f.bytes ++ t) = (f, f.bytes.length, 0) := by
  have hm : f.pairs.length ≤ 64 := by simpa [Fp.pairs] using h.many
  have hs := sees_new (f.bytes ++ t)
  have e0 : f.bytes ++ t = uintB f.pairs.length ++ (f.pairs.flatMap pairB ++ t) := by rw [Fp.body_pairs, List.append_assoc]
  rw [e0] at hs
  rw [← e0] at hs
  have hs' : (Rs.new (f.bytes ++ t)).Sees (uintB f.pairs.length ++ (f.pairs.flatMap pairB ++ t)) := by rw [← e0]; exact hs
  obtain ⟨c1, c2⟩ := sees_count (most := 64) hs' (by omega) hm
  have c2' : ((Rs.new (f.bytes ++ t)).count 64).2.Sees (f.pairs.flatMap pairB ++ t) := c2
  have hn : ((Rs.new (f.bytes ++ t)).count 64).1 = f.pairs.length := congrArg Prod.fst c1
  have ho := over_count (Rs.new (f.bytes ++ t)) 64
  unfold footGet
  simp only []
  rw [hn]
  generalize ((Rs.new (f.bytes ++ t)).count 64).2 = r at c2' ho
  obtain ⟨k1, k2⟩ := sees_keys f.pairs (mkFp [] []) noText r t (Fp.pairs_ok h) c2'
  obtain ⟨l, -, -, ho2, -⟩ := over_keys f.pairs.length (mkFp [] []) noText r (by rw [ho.b]; exact h63)
  rw [if_neg (by rw [k2.err]; simp), k1, Fp.addUs_pairs h]
  have hok := ho2.ok (ho.ok (.new hA))
  have hat := k2.at_eq hok.at_le
  rw [ho2.b, ho.b] at hat
  have : (Rs.new (f.bytes ++ t)).b.length = f.bytes.length + t.length := by show (f.bytes ++ t).length = _; simp
  rw [this] at hat
  have : (keysF f.pairs.length (mkFp [] []) noText r).2.at' = f.bytes.length := by omega
  rw [this]

theorem addUs_use {l : List (ByteArray × Int)} {last : ByteArray} (hp : PairsOk last l) (f : Fp) (hf : f = addUs (mkFp [] []) l) : f.pairs = l ∧ Rising f.rs ∧ Rising f.ws := by
  have hnd : (l.map Prod.fst).Pairwise fun a b => ltT a b = true := (List.pairwise_cons.1 hp.2).2
  have hrs : f.rs = (l.filter fun p => p.2 % 2 = 1).map Prod.fst := by rw [hf, addUs_eq]; rfl
  have hws : f.ws = (l.filter fun p => decide (2 ≤ p.2 % 4)).map Prod.fst := by rw [hf, addUs_eq]; rfl
  have sub : ∀ q : ByteArray × Int → Bool, Rising ((l.filter q).map Prod.fst) := fun q => by
    refine List.Pairwise.sublist ?_ hnd
    exact List.Sublist.map _ (List.filter_sublist)
  have inj : ∀ p ∈ l, ∀ q ∈ l, p.1 = q.1 → p = q := by
    clear hrs hws sub hf
    induction l generalizing last with
    | nil => intro p hp; cases hp
    | cons a l ih =>
      have hn := List.pairwise_cons.1 hnd
      intro p hp' q hq e
      rcases List.mem_cons.1 hp' with rfl | hp'' <;> rcases List.mem_cons.1 hq with rfl | hq'
      · rfl
      · have := hn.1 q.1 (List.mem_map_of_mem hq'); rw [e] at this; exact absurd this (ltT_irrefl _)
      · have := hn.1 p.1 (List.mem_map_of_mem hp''); rw [e] at this; exact absurd this (ltT_irrefl _)
      · exact ih hp.tail hn.2 p hp'' q hq' e
  have mrs : ∀ p ∈ l, (p.1 ∈ f.rs ↔ p.2 % 2 = 1) := fun p hp' => by
    rw [hrs]
    constructor
    · intro h
      obtain ⟨q, hq, e⟩ := List.mem_map.1 h
      rw [List.mem_filter] at hq
      rw [← inj q hq.1 p hp' e]
      exact of_decide_eq_true hq.2
    · intro h
      exact List.mem_map.2 ⟨p, List.mem_filter.2 ⟨hp', decide_eq_true h⟩, rfl⟩
  have mws : ∀ p ∈ l, (p.1 ∈ f.ws ↔ 2 ≤ p.2 % 4) := fun p hp' => by
    rw [hws]
    constructor
    · intro h
      obtain ⟨q, hq, e⟩ := List.mem_map.1 h
      rw [List.mem_filter] at hq
      rw [← inj q hq.1 p hp' e]
      exact of_decide_eq_true hq.2
    · intro h
      exact List.mem_map.2 ⟨p, List.mem_filter.2 ⟨hp', decide_eq_true h⟩, rfl⟩
  refine ⟨?_, by rw [hrs]; exact sub _, by rw [hws]; exact sub _⟩
  have huse : ∀ p ∈ l, f.use p.1 = p.2 := fun p hp' => by
    have h13 := (hp.1 p hp').2
    have h1 := mrs p hp'
    have h2 := mws p hp'
    unfold Fp.use
    rw [← hasT_iff] at h1 h2
    by_cases e1 : hasT f.rs p.1 = true <;> by_cases e2 : hasT f.ws p.1 = true
    · have := h1.1 e1; have := h2.1 e2; rw [if_pos e1, if_pos e2]; omega
    · have := h1.1 e1; have := mt h2.2 e2; rw [if_pos e1, if_neg e2]; omega
    · have := mt h1.2 e1; have := h2.1 e2; rw [if_neg e1, if_pos e2]; omega
    · have := mt h1.2 e1; have := mt h2.2 e2; rw [if_neg e1, if_neg e2]; omega
  have hset : setT (f.rs ++ f.ws) = l.map Prod.fst := by
    refine (setT_rising _).eq hnd fun y => ?_
    rw [setT_mem, List.mem_append]
    constructor
    · rintro (h | h)
      · rw [hrs] at h
        obtain ⟨q, hq, e⟩ := List.mem_map.1 h
        exact List.mem_map.2 ⟨q, (List.mem_filter.1 hq).1, e⟩
      · rw [hws] at h
        obtain ⟨q, hq, e⟩ := List.mem_map.1 h
        exact List.mem_map.2 ⟨q, (List.mem_filter.1 hq).1, e⟩
    · intro h
      obtain ⟨q, hq, e⟩ := List.mem_map.1 h
      subst e
      have h13 := (hp.1 q hq).2
      by_cases h1 : q.2 % 2 = 1
      · exact .inl ((mrs q hq).2 h1)
      · exact .inr ((mws q hq).2 (by omega))
  unfold Fp.pairs
  rw [hset, List.map_map]
  conv => rhs; rw [← List.map_id l]
  apply List.map_congr_left
  intro p hp'
  exact Prod.ext rfl (huse p hp')

theorem footGet_ok {b : Bytes} (hA : AllB b) (h63 : b.length < 2 ^ 63) (h : (footGet b).2.2 = 0) :
    (footGet b).1.Is ∧ b = (footGet b).1.bytes ++ b.drop (footGet b).2.1 ∧ (footGet b).2.1 = (footGet b).1.bytes.length := by
  have ho := over_count (Rs.new b) 64
  have hle := count_le (Rs.new b) 64
  unfold footGet at h ⊢
  simp only [] at h ⊢
  have hle' : ((Rs.new b).count 64).1 ≤ 64 := hle
  generalize ((Rs.new b).count 64).1 = n at ho hle' h ⊢
  generalize ((Rs.new b).count 64).2 = r at ho h ⊢
  clear hle
  obtain ⟨l, hl, hf, ho2, hz⟩ := over_keys n (mkFp [] []) noText r (by rw [ho.b]; show b.length < _; omega)
  split at h
  · rename_i hne; exact absurd h hne
  · rename_i he
    have he : (keysF n (mkFp [] []) noText r).2.err = 0 := by simpa using he
    rw [if_neg (by rw [he]; simp)]
    simp only []
    have hp := hz he
    obtain ⟨u1, u2, u3⟩ := addUs_use hp _ hf
    have hov := (ho.trans ho2).over (.new hA) he
    have hok := (ho.trans ho2).ok (.new hA)
    have hbb := (ho.trans ho2).b
    generalize (keysF n (mkFp [] []) noText r).1 = f at hf u1 u2 u3 ⊢
    generalize (keysF n (mkFp [] []) noText r).2 = r2 at hov hok hbb ⊢
    have hbytes : f.bytes = uintB n ++ l.flatMap pairB := by rw [Fp.body_pairs, u1, hl]
    have hrest : (Rs.new b).rest = b := rfl
    rw [hrest, ← hbytes] at hov
    have hb2 : r2.b = b := hbb
    have hr2 : r2.rest = b.drop r2.at' := by unfold Rs.rest; rw [hb2]
    have hat : r2.at' ≤ b.length := by have := hok.at_le; rwa [hb2] at this
    refine ⟨⟨fun k hk => ?_, ?_, u2, u3⟩, by rw [← hr2]; exact hov, ?_⟩
    · have : k ∈ setT (f.rs ++ f.ws) := by rw [setT_mem, List.mem_append]; exact hk
      have h2 : (k, f.use k) ∈ f.pairs := List.mem_map.2 ⟨k, this, rfl⟩
      rw [u1] at h2
      exact (hp.1 _ h2).1
    · have : f.pairs.length = (setT (f.rs ++ f.ws)).length := by simp [Fp.pairs]
      rw [← this, u1, hl]; exact hle'
    · have := congrArg List.length hov
      rw [hr2] at this
      simp at this
      omega

end Go.Proofs.YtfgdnakfikpmpaaGreatDoor

namespace Go.Proofs.YtfgdnakfikpmpaaGreatDoor
set_option linter.unusedVariables false
set_option linter.unusedSimpArgs false
open Go Go.RowKit Go.Deep

/-- the ranges that a request's fields have in the model -/
structure Req.In (q : Req) : Prop where
  c0 : -9223372036854775808 ≤ q.client
  c1 : q.client ≤ 9223372036854775807
  t0 : 0 ≤ q.token
  t1 : q.token < 18446744073709551616
  args : ∀ v ∈ q.args, v.In

theorem givenV_ok {v : Val} (h : givenV v = true) : v.ok = true ∧ v.kind ≠ 0 := by
  unfold givenV at h; rw [Bool.and_eq_true] at h; exact ⟨h.1, of_decide_eq_true h.2⟩
theorem givenV_mk {v : Val} (h : v.ok = true) (k : v.kind ≠ 0) : givenV v = true := by
  unfold givenV; rw [Bool.and_eq_true]; exact ⟨h, decide_eq_true k⟩

theorem sees_args (vs : List Val) (l : List Val) (r : Rs) (t : Bytes) (hv : ∀ v ∈ vs, givenV v = true) (hi : ∀ v ∈ vs, v.In) (h : r.Sees (vs.flatMap Val.bytes ++ t)) :
    ∃ r', argsF vs.length l r = .inl (l ++ vs, r') ∧ r'.Sees t := by
  induction vs generalizing l r with
  | nil => exact ⟨r, by simp [argsF], by simpa using h⟩
  | cons v vs ih =>
    have h' : r.Sees (v.bytes ++ (vs.flatMap Val.bytes ++ t)) := by simpa using h
    have hv1 := givenV_ok (hv v List.mem_cons_self)
    obtain ⟨e1, e2⟩ := sees_takeV hv1.1 (hi v List.mem_cons_self) h'
    obtain ⟨r', e3, e4⟩ := ih (l ++ [v]) (takeV r).2 (fun x hx => hv x (List.mem_cons_of_mem _ hx)) (fun x hx => hi x (List.mem_cons_of_mem _ hx)) e2
    refine ⟨r', ?_, e4⟩
    rw [List.length_cons]
    unfold argsF
    rw [if_neg (by rw [e1]; exact fun hh => hv1.2 hh.2), e1, e3]
    simp
theorem over_args (n : Nat) (l : List Val) (r : Rs) (h63 : r.b.length < 2 ^ 64) :
    (∃ a, argsF n l r = .inr a ∧ (r.Ok → a ≤ r.b.length)) ∨ ∃ vs r', argsF n l r = .inl (l ++ vs, r') ∧ vs.length = n ∧ r.Over r' (vs.flatMap Val.bytes) ∧ (r'.err = 0 → ∀ v ∈ vs, givenV v = true) ∧ (∀ v ∈ vs, v.ok = true) ∧ (r.Ok → ∀ v ∈ vs, v.In) := by
  induction n generalizing l r with
  | zero => exact .inr ⟨[], r, by simp [argsF], rfl, by simpa using Rs.Over.refl r, by simp, by simp, by simp⟩
  | succ n ih =>
    have ho := over_takeV r h63
    have hk := takeV_ok r
    have hi := takeV_in r
    unfold argsF
    generalize (takeV r).1 = v at ho hk hi ⊢
    generalize (takeV r).2 = s at ho ⊢
    by_cases h : s.err = 0 ∧ v.kind = 0
    · rw [if_pos h]; exact .inl ⟨r.at', rfl, fun o => o.at_le⟩
    · rw [if_neg h]
      rcases ih (l ++ [v]) s (by rw [ho.b]; exact h63) with ⟨a, e, ha⟩ | ⟨vs, r', e, e1, e2, e3, e4, e5⟩
      · exact .inl ⟨a, e, fun o => by have := ha (ho.ok o); rwa [ho.b] at this⟩
      · refine .inr ⟨v :: vs, r', by rw [e]; simp, by simp [e1], ?_, fun he x hx => ?_, fun x hx => ?_, fun o x hx => ?_⟩
        · have := ho.trans e2
          simpa using this
        · have hs : s.err = 0 := Classical.byContradiction fun hne => e2.err hne he
          rcases List.mem_cons.1 hx with rfl | hx
          · exact givenV_mk hk fun hk0 => h ⟨hs, hk0⟩
          · exact e3 he x hx
        · rcases List.mem_cons.1 hx with rfl | hx
          · exact hk
          · exact e4 x hx
        · rcases List.mem_cons.1 hx with rfl | hx
          · exact hi o
          · exact e5 (ho.ok o) x hx

theorem nameOk_size {s : ByteArray} (h : nameOk s = true) : s.size ≤ 16 := by
  unfold nameOk at h; rw [Bool.and_eq_true] at h; exact of_decide_eq_true h.2
theorem Req.check_iff (q : Req) : q.check = 0 ↔ 0 ≤ q.client ∧ q.client < 64 ∧ nameOk q.name = true ∧ q.args.length ≤ 8 ∧ ∀ v ∈ q.args, givenV v = true := by
  unfold Req.check
  constructor
  · intro h
    split at h
    · cases h
    · split at h
      · cases h
      · split at h
        · cases h
        · split at h
          · cases h
          · rename_i h1 h2 h3 h4
            exact ⟨by omega, by omega, by simpa using h2, by omega, by simpa using h4⟩
  · rintro ⟨h1, h2, h3, h4, h5⟩
    rw [if_neg (by omega), if_neg (by rw [h3]; simp), if_neg (by omega), if_neg (by rw [List.all_eq_true.2 h5]; simp)]

theorem Val.bytes_length (v : Val) : v.bytes.length ≤ 75 := by
  by_cases h : v.ok = true
  · rcases Val.ok_cases h with rfl | ⟨-, e⟩ | ⟨-, e, h1, h2⟩
    · rw [val0_bytes]; simp
    · rw [e, int_bytes]
      have := uintB_length (zig v.num)
      simp; omega
    · rw [e, word_bytes _ h1 h2]
      have := uintB_length v.text.size
      simp [textB, bytesOf_length]; omega
  · have : v.bytes = [] := by unfold Val.bytes; rw [if_pos (by simpa using h)]
    rw [this]; simp
theorem args_length (l : List Val) : (l.flatMap Val.bytes).length ≤ 75 * l.length := by
  induction l with
  | nil => simp
  | cons v l ih => have := Val.bytes_length v; simp at ih ⊢; omega
theorem Req.bytes_length {q : Req} (h : q.check = 0) : q.bytes.length ≤ 700 := by
  obtain ⟨h1, h2, h3, h4, h5⟩ := (Req.check_iff q).1 h
  have a1 := uintB_length q.client.toNat
  have a2 := uintB_length q.token.toNat
  have a3 := uintB_length q.name.size
  have a4 := uintB_length q.args.length
  have a5 := args_length q.args
  have a6 := nameOk_size h3
  simp only [Req.bytes, textB, List.length_append, bytesOf_length]
  omega

theorem reqGet_bytes (q : Req) (h : q.check = 0) (hi : q.In) : reqGet q.bytes = (q, 0, 0) := by
  obtain ⟨h1, h2, h3, h4, h5⟩ := (Req.check_iff q).1 h
  have hlen := Req.bytes_length h
  have hns := nameOk_size h3
  have e0 : q.bytes = uintB q.client.toNat ++ (uintB q.token.toNat ++ (textB q.name ++ (uintB q.args.length ++ (q.args.flatMap Val.bytes ++ [])))) := by simp [Req.bytes]
  have hs := sees_new q.bytes
  have hs' : (Rs.new q.bytes).Sees (uintB q.client.toNat ++ (uintB q.token.toNat ++ (textB q.name ++ (uintB q.args.length ++ (q.args.flatMap Val.bytes ++ []))))) := by rw [← e0]; exact hs
  obtain ⟨a1, a2⟩ := sees_count (most := 63) hs' (by omega) (by omega)
  have a1' : ((Rs.new q.bytes).count 63).1 = q.client.toNat := congrArg Prod.fst a1
  have a2' : ((Rs.new q.bytes).count 63).2.Sees _ := a2
  unfold reqGet
  rw [if_neg (by omega)]
  simp only []
  rw [a1']
  generalize ((Rs.new q.bytes).count 63).2 = r1 at a2' ⊢
  have ht := hi.t1
  have ht0 := hi.t0
  obtain ⟨b1, b2⟩ := sees_uint a2' (by omega)
  have b1' : r1.uint.1 = q.token.toNat := congrArg Prod.fst b1
  rw [b1']
  generalize r1.uint.2 = r2 at b2 ⊢
  obtain ⟨c1, c2⟩ := sees_text (most := 16) b2 (by omega) hns
  have c1' : (r2.text 16).1 = q.name := congrArg Prod.fst c1
  have c2' : (r2.text 16).2.Sees _ := c2
  rw [c1', h3]
  generalize (r2.text 16).2 = r3 at c2' ⊢
  simp only [if_true]
  obtain ⟨d1, d2⟩ := sees_count (most := 8) c2' (by omega) h4
  have d1' : (r3.count 8).1 = q.args.length := congrArg Prod.fst d1
  have d2' : (r3.count 8).2.Sees _ := d2
  rw [d1']
  generalize (r3.count 8).2 = r4 at d2' ⊢
  obtain ⟨r5, e1, e2⟩ := sees_args q.args [] r4 [] h5 hi.args d2'
  rw [e1]
  simp only []
  have hend : r5.end' = r5 := by
    unfold Rs.end'
    rw [if_neg]
    intro hh
    have := congrArg List.length e2.rest
    simp [Rs.rest] at this
    omega
  rw [hend, if_neg (by rw [e2.err]; simp), Int.toNat_of_nonneg h1, Int.toNat_of_nonneg ht0]
  rfl

theorem Req.In_req0 : req0.In := ⟨by decide, by decide, by decide, by decide, by simp [req0, mkReq, Req.args]⟩

/-- what comes out of a request's bytes -/
theorem reqGet_ok {b : Bytes} (hA : AllB b) : (reqGet b).1.In ∧ (reqGet b).1.name.size ≤ 16 ∧ (∀ v ∈ (reqGet b).1.args, v.ok = true) ∧ 0 ≤ (reqGet b).2.1 ∧ (reqGet b).2.1 < 1000 ∧ (reqGet b).2.2 ≤ b.length ∧ ((reqGet b).2.1 = 0 → b = (reqGet b).1.bytes ∧ (reqGet b).1.check = 0) := by
  unfold reqGet
  split
  · exact ⟨Req.In_req0, by decide, by simp [req0, mkReq, Req.args], by simp, by simp, by simp, by simp⟩
  · rename_i hlen
    simp only []
    have o1 := over_count (Rs.new b) 63
    have l1 := count_le (Rs.new b) 63
    have l1' : ((Rs.new b).count 63).1 ≤ 63 := l1
    generalize ((Rs.new b).count 63).1 = c at o1 l1' ⊢
    generalize ((Rs.new b).count 63).2 = r1 at o1 ⊢
    clear l1
    have k1 := o1.ok (.new hA)
    have o2 := over_uint r1
    have l2 := uint_lt k1
    generalize r1.uint.1 = tk at o2 l2 ⊢
    generalize r1.uint.2 = r2 at o2 ⊢
    have k2 := o2.ok k1
    have bb2 : r2.b.length < 2 ^ 64 := by rw [o2.b, o1.b]; show b.length < _; omega
    have o3 := over_text r2 16 bb2
    have l3' : (r2.text 16).1.size ≤ 16 := text_le r2 16
    generalize (r2.text 16).1 = nm at o3 l3' ⊢
    generalize (r2.text 16).2 = r3 at o3 ⊢
    have k3 := o3.ok k2
    have o4 : r3.Over (if nameOk nm = true then r3 else r3.fail 90) [] := by
      split
      · exact .refl _
      · exact .fail _ (by omega) (by omega)
    have z4 : (if nameOk nm = true then r3 else r3.fail 90).err = 0 → nameOk nm = true := by
      split
      · intro; assumption
      · intro h; exact (Rs.fail_err (by omega) h).elim
    generalize (if nameOk nm = true then r3 else r3.fail 90) = r4 at o4 z4 ⊢
    have k4 := o4.ok k3
    have o5 := over_count r4 8
    have l5' : (r4.count 8).1 ≤ 8 := count_le r4 8
    generalize (r4.count 8).1 = n at o5 l5' ⊢
    generalize (r4.count 8).2 = r5 at o5 ⊢
    have k5 := o5.ok k4
    have oo := (((o1.trans o2).trans o3).trans o4).trans o5
    have hb5 : r5.b = b := oo.b
    rcases over_args n [] r5 (by rw [hb5]; omega) with ⟨a, e, ha⟩ | ⟨vs, r6, e, e1, e2, e3, e4, e5⟩
    · rw [e]
      simp only []
      exact ⟨Req.In_req0, by decide, by simp [req0, mkReq, Req.args], by simp, by simp, by have := ha k5; rwa [hb5] at this, by simp⟩
    · rw [e]
      simp only []
      have k6 := (e2.ok k5).end'
      have hb6 : r6.end'.b = b := by
        have : r6.end'.b = r6.b := by unfold Rs.end'; split <;> rfl
        rw [this, e2.b, hb5]
      split
      · refine ⟨Req.In_req0, by show (0 : Nat) ≤ 16; omega, by simp [req0, mkReq, Req.args], k6.err0, k6.err1, by have := k6.spot_le; rwa [hb6] at this, fun hh => ?_⟩
        rename_i hne; exact absurd hh hne
      · rename_i hne
        have hz : r6.end'.err = 0 := by simpa using hne
        have hz6 : r6.err = 0 := by
          unfold Rs.end' at hz; split at hz
          · exact absurd hz (by simp [Rs.fails])
          · exact hz
        have hfull : ¬ r6.at' < r6.b.length := by
          intro hh
          unfold Rs.end' at hz; rw [if_pos ⟨hz6, hh⟩] at hz; exact absurd hz (by simp [Rs.fails])
        have hin : (mkReq c tk nm vs).In := ⟨by show -9223372036854775808 ≤ ((c : Nat) : Int); omega, by show ((c : Nat) : Int) ≤ _; omega, by show (0 : Int) ≤ ((tk : Nat) : Int); omega, by show ((tk : Nat) : Int) < _; omega, e5 k5⟩
        simp only [List.nil_append]
        refine ⟨hin, l3', e4, by simp, by simp, by simp, fun _ => ?_⟩
        have hov := (oo.trans e2).over (.new hA) hz6
        have back : ∀ {a b : Rs} {x : Bytes}, a.Over b x → b.err = 0 → a.err = 0 := fun h k => Classical.byContradiction fun e => h.err e k
        have hnm := z4 (back o5 (back e2 hz6))
        have hr6 : r6.rest = [] := by unfold Rs.rest; exact List.drop_eq_nil_of_le (by omega)
        rw [hr6] at hov
        refine ⟨?_, ?_⟩
        · have hrest : (Rs.new b).rest = b := rfl
          rw [hrest] at hov
          rw [hov]
          simp [Req.bytes, mkReq, Req.client, Req.token, Req.name, Req.args, e1]
        · rw [Req.check_iff]
          refine ⟨by show (0 : Int) ≤ ((c : Nat) : Int); omega, by show ((c : Nat) : Int) < 64; omega, hnm, by show vs.length ≤ 8; omega, e3 hz6⟩

end Go.Proofs.YtfgdnakfikpmpaaGreatDoor

namespace Go.Proofs.YtfgdnakfikpmpaaGreatDoor
set_option linter.unusedVariables false
set_option linter.unusedSimpArgs false
open Go Go.RowKit Go.Deep

@[reducible] def entrySh : Sh := .struct (.cons (.int .i64) (.cons (.int .i64) (.cons planSh .nil)))
abbrev Plan.req (p : Plan) : Req := p.1
abbrev Plan.fp (p : Plan) : Fp := p.2.2.1
def mkPlan (q : Req) (h : Int) (f : Fp) : Plan := (q, h, f, ())
def plan0 : Plan := mkPlan req0 0 (mkFp [] [])
def Plan.right (p : Plan) : Int :=
  if p.req.check ≠ 0 then p.req.check else if p.how ≠ 1 ∧ p.how ≠ 2 then 121 else if p.fp.normal = false then 31 else 0

abbrev Ent := entrySh.T
abbrev Ent.seq (e : Ent) : Int := e.1
abbrev Ent.epoch (e : Ent) : Int := e.2.1
abbrev Ent.plan (e : Ent) : Plan := e.2.2.1
def mkEnt (s e : Int) (p : Plan) : Ent := (s, e, p, ())
def ent0 : Ent := mkEnt 0 0 plan0
def Ent.err (e : Ent) : Int := if e.seq < 0 ∨ e.epoch < 0 then 2 else e.plan.right
def Ent.bytes (e : Ent) : Bytes := uintB e.seq.toNat ++ (uintB e.epoch.toNat ++ (uintB e.plan.req.bytes.length ++ e.plan.req.bytes ++ (e.plan.how :: e.plan.fp.bytes)))

/-- the entry of bytes; its request's text is at most so long -/
def entGetL (most : Int) (b : Bytes) : Ent × Int :=
  let s := (Rs.new b).uint
  let e := s.2.uint
  let t := e.2.text most
  let h := t.2.byte
  if h.2.err ≠ 0 ∨ 2 ^ 63 ≤ s.1 ∨ 2 ^ 63 ≤ e.1 ∨ (h.1 ≠ 1 ∧ h.1 ≠ 2) then (ent0, 123) else
  let q := reqGet (bytesOf t.1)
  let f := footGet h.2.rest
  if q.2.1 ≠ 0 ∨ f.2.2 ≠ 0 ∨ f.2.1 ≠ h.2.left then (ent0, 123) else (mkEnt s.1 e.1 (mkPlan q.1 h.1 f.1), 0)
def entGet (b : Bytes) : Ent × Int := entGetL b.length b

/-- a log -/
structure Lg where
  l : List Ent
  epoch : Int
def lg0 : Lg := ⟨[], 0⟩
/-- the first plan that may not stand in a log -/
def badAt : Nat → List Plan → Option (Int × Nat)
  | _, [] => none
  | i, p :: ps => if p.right ≠ 0 then some (p.right, i) else badAt (i + 1) ps
def layAt : Nat → Int → List Plan → List Ent
  | _, _, [] => []
  | n, e, p :: ps => mkEnt n e p :: layAt (n + 1) e ps
structure Said3 where
  n : Int
  err : Int
  at' : Int
def Lg.append (x : Lg) (ep : Int) (ps : List Plan) : Said3 × Lg :=
  if ep < x.epoch ∨ ep < 0 then (⟨0, 120, 0⟩, x)
  else if 65536 < x.l.length + ps.length then (⟨0, 6, 0⟩, x)
  else match badAt 0 ps with
    | some (e, i) => (⟨0, e, i⟩, x)
    | none => (⟨x.l.length, 0, 0⟩, ⟨x.l ++ layAt x.l.length ep ps, ep⟩)
def Lg.at' (x : Lg) (seq : Int) : Ent × Bool := if seq < 0 ∨ x.l.length ≤ seq then (ent0, false) else ((x.l[seq.toNat]?).getD ent0, true)
def Lg.from' (x : Lg) (seq : Int) (most : Int) : List Ent := (x.l.drop seq.toNat).take most.toNat
def Ent.framed (e : Ent) : Bytes := uintB e.bytes.length ++ e.bytes
def Lg.bytes (x : Lg) : Bytes := uintB x.epoch.toNat ++ uintB x.l.length ++ x.l.flatMap Ent.framed

/-- so many entries still to come -/
def loadF (most : Int → Int) (m : Int) (ep : Int) : Nat → Nat → Int → List Ent → Rs → (List Ent × Rs) ⊕ (Int × Nat)
  | 0, _, _, l, r => .inl (l, r)
  | n + 1, i, last, l, r =>
    let t := r.text m
    if t.2.err ≠ 0 then .inr (123, i) else
    let e := entGetL (most t.1.size) (bytesOf t.1)
    if e.2 ≠ 0 then .inr (e.2, i)
    else if e.1.seq ≠ i then .inr (122, i)
    else if e.1.epoch < last ∨ ep < e.1.epoch then .inr (120, i)
    else loadF most m ep n (i + 1) e.1.epoch (l ++ [e.1]) t.2
def loadL (most : Int → Int) (m : Int) (b : Bytes) : Option Lg × Int × Nat :=
  let e := (Rs.new b).uint
  let n := e.2.count 65536
  if n.2.err ≠ 0 ∨ 2 ^ 63 ≤ e.1 then (none, 123, 0) else
  match loadF most m e.1 n.1 0 0 [] n.2 with
  | .inr (x, i) => (none, x, i)
  | .inl (l, r) => if r.end'.err ≠ 0 then (none, 123, n.1) else (some ⟨l, e.1⟩, 0, 0)
def load (b : Bytes) : Option Lg × Int × Nat := loadL (fun n => n) b.length b

/-! entries' bytes, there and back -/
structure Ent.In (e : Ent) : Prop where
  s1 : e.seq ≤ 9223372036854775807
  e1 : e.epoch ≤ 9223372036854775807
  q : e.plan.req.In
theorem Plan.right_iff (p : Plan) : p.right = 0 ↔ p.req.check = 0 ∧ (p.how = 1 ∨ p.how = 2) ∧ p.fp.Is := by
  unfold Plan.right
  rw [← Fp.normal_iff]
  constructor
  · intro h
    split at h
    · rename_i h1; exact absurd h h1
    · split at h
      · cases h
      · split at h
        · cases h
        · rename_i h1 h2 h3
          exact ⟨by simpa using h1, by omega, by simpa using h3⟩
  · rintro ⟨h1, h2, h3⟩
    rw [if_neg (by simpa using h1), if_neg (by omega), if_neg (by rw [h3]; simp)]
theorem Ent.err_iff (e : Ent) : e.err = 0 ↔ 0 ≤ e.seq ∧ 0 ≤ e.epoch ∧ e.plan.right = 0 := by
  unfold Ent.err
  constructor
  · intro h
    split at h
    · cases h
    · exact ⟨by omega, by omega, h⟩
  · rintro ⟨h1, h2, h3⟩
    rw [if_neg (by omega)]; exact h3
theorem Fp.bytes_length {f : Fp} (h : f.Is) : f.bytes.length ≤ 10 + 64 * 43 := by
  have h1 := uintB_length f.pairs.length
  have h2 : f.pairs.length ≤ 64 := by simpa [Fp.pairs] using h.many
  have h3 : ∀ l : List (ByteArray × Int), (∀ p ∈ l, keyOk p.1 = true) → (l.flatMap pairB).length ≤ 43 * l.length := by
    intro l hl
    induction l with
    | nil => simp
    | cons p l ih =>
      have := ih fun q hq => hl q (List.mem_cons_of_mem _ hq)
      have h4 := uintB_length p.1.size
      have h5 := keyOk_size (hl p List.mem_cons_self)
      simp [pairB, textB, bytesOf_length] at this ⊢
      omega
  have h4 := h3 f.pairs fun p hp => ((Fp.pairs_ok h).1 p hp).1
  rw [Fp.body_pairs, List.length_append]
  omega
theorem Ent.bytes_length {e : Ent} (h : e.err = 0) : e.bytes.length ≤ 4000 := by
  obtain ⟨h1, h2, h3⟩ := (Ent.err_iff e).1 h
  obtain ⟨h4, h5, h6⟩ := (Plan.right_iff _).1 h3
  have a1 := uintB_length e.seq.toNat
  have a2 := uintB_length e.epoch.toNat
  have a3 := uintB_length e.plan.req.bytes.length
  have a4 := Req.bytes_length h4
  have a5 := Fp.bytes_length h6
  simp only [Ent.bytes, List.length_append, List.length_cons]
  omega
theorem Val.bytes_allB {v : Val} (hi : v.In) : AllB v.bytes := by
  by_cases h : v.ok = true
  · rcases Val.ok_cases h with rfl | ⟨-, e⟩ | ⟨-, e, h1, h2⟩
    · rw [val0_bytes]; exact AllB.cons (by omega) (by omega) .nil
    · rw [e, int_bytes]
      exact AllB.cons (by omega) (by omega) (uintB_allB _ (zig_lt hi.n0 hi.n1))
    · rw [e, word_bytes _ h1 h2]
      exact AllB.cons (by omega) (by omega) ((uintB_allB _ (by omega)).append (bytesOf_allB _))
  · have : v.bytes = [] := by unfold Val.bytes; rw [if_pos (by simpa using h)]
    rw [this]; exact .nil
theorem Req.bytes_allB {q : Req} (h : q.check = 0) (hi : q.In) : AllB q.bytes := by
  obtain ⟨h1, h2, h3, h4, h5⟩ := (Req.check_iff q).1 h
  have := nameOk_size h3
  have t1 := hi.t1
  refine ((((uintB_allB _ (by omega)).append (uintB_allB _ (by omega))).append ((uintB_allB _ (by omega)).append (bytesOf_allB _))).append (uintB_allB _ (by omega))).append ?_
  intro x hx
  obtain ⟨v, hv, hx⟩ := List.mem_flatMap.1 hx
  exact Val.bytes_allB (hi.args v hv) x hx
theorem Fp.bytes_allB {f : Fp} (h : f.Is) : AllB f.bytes := by
  have h2 : f.pairs.length ≤ 64 := by simpa [Fp.pairs] using h.many
  rw [Fp.body_pairs]
  refine (uintB_allB _ (by omega)).append fun x hx => ?_
  obtain ⟨p, hp, hx⟩ := List.mem_flatMap.1 hx
  have hp := (Fp.pairs_ok h).1 p hp
  have := keyOk_size hp.1
  exact (((uintB_allB _ (by omega)).append (bytesOf_allB _)).append (AllB.cons (by omega) (by omega) .nil)) x hx
theorem Ent.bytes_allB {e : Ent} (h : e.err = 0) (hi : e.In) : AllB e.bytes := by
  obtain ⟨h1, h2, h3⟩ := (Ent.err_iff e).1 h
  obtain ⟨h4, h5, h6⟩ := (Plan.right_iff _).1 h3
  have a4 := Req.bytes_length h4
  have s1 := hi.s1
  have e1 := hi.e1
  refine (uintB_allB _ (by omega)).append ((uintB_allB _ (by omega)).append (((uintB_allB _ (by omega)).append (Req.bytes_allB h4 hi.q)).append (AllB.cons (by omega) (by omega) (Fp.bytes_allB h6))))

theorem entGet_bytes {e : Ent} (h : e.err = 0) (hi : e.In) (most : Nat) (hm : 700 ≤ most ∨ e.bytes.length ≤ most) : entGetL most e.bytes = (e, 0) := by
  obtain ⟨h1, h2, h3⟩ := (Ent.err_iff e).1 h
  obtain ⟨h4, h5, h6⟩ := (Plan.right_iff _).1 h3
  have hlen := Ent.bytes_length h
  have hA := Ent.bytes_allB h hi
  have a4 := Req.bytes_length h4
  have hqA := Req.bytes_allB h4 hi.q
  have s1 := hi.s1
  have e1 := hi.e1
  have etx : textB (textOf e.plan.req.bytes) = uintB e.plan.req.bytes.length ++ e.plan.req.bytes := by unfold textB; rw [textOf_size, bytesOf_textOf hqA]
  have hle : e.plan.req.bytes.length ≤ e.bytes.length := by simp only [Ent.bytes, List.length_append, List.length_cons]; omega
  have hs : (Rs.new e.bytes).Sees (uintB e.seq.toNat ++ (uintB e.epoch.toNat ++ (textB (textOf e.plan.req.bytes) ++ (e.plan.how :: e.plan.fp.bytes)))) := by
    have := sees_new e.bytes
    rw [etx]; exact this
  obtain ⟨b1, b2⟩ := sees_uint hs (by omega)
  have b1' : (Rs.new e.bytes).uint.1 = e.seq.toNat := congrArg Prod.fst b1
  have o1 := over_uint (Rs.new e.bytes)
  unfold entGetL
  simp only []
  rw [b1']
  generalize (Rs.new e.bytes).uint.2 = r1 at b2 o1 ⊢
  obtain ⟨c1, c2⟩ := sees_uint b2 (by omega)
  have c1' : r1.uint.1 = e.epoch.toNat := congrArg Prod.fst c1
  have o2 := over_uint r1
  rw [c1']
  generalize r1.uint.2 = r2 at c2 o2 ⊢
  obtain ⟨d1, d2⟩ := sees_text (most := most) c2 (by rw [textOf_size]; omega) (by rw [textOf_size]; omega)
  have d1' : (r2.text most).1 = textOf e.plan.req.bytes := congrArg Prod.fst d1
  have o3 := over_text r2 most (by rw [o2.b, o1.b]; show e.bytes.length < _; omega)
  rw [d1']
  generalize (r2.text most).2 = r3 at d2 o3 ⊢
  obtain ⟨f1, f2, -⟩ := sees_byte d2
  have o4 := over_byte r3
  rw [f1]
  generalize r3.byte.2 = r4 at f2 o4 ⊢
  have hb4 : r4.b = e.bytes := (((o1.trans o2).trans o3).trans o4).b
  have k4 := (((o1.trans o2).trans o3).trans o4).ok (.new hA)
  have hat := f2.at_eq k4.at_le
  rw [if_neg (by rw [f2.err]; simp; omega), bytesOf_textOf hqA, reqGet_bytes _ h4 hi.q, f2.rest]
  have hfA := Fp.bytes_allB h6
  have hfl := Fp.bytes_length h6
  have hg := footGet_bytes e.plan.fp h6 [] (by rw [List.append_nil]; exact hfA) (by rw [List.append_nil]; omega)
  rw [List.append_nil] at hg
  rw [hg]
  have hleft : r4.left = e.plan.fp.bytes.length := by unfold Rs.left; rw [if_neg (by rw [f2.err]; simp)]; omega
  rw [if_neg (by rw [hleft]; simp), Int.toNat_of_nonneg h1, Int.toNat_of_nonneg h2]
  rfl

theorem entGet_ok {b : Bytes} (hA : AllB b) (h63 : b.length < 2 ^ 63) (most : Int) :
    ((entGetL most b).2 = 0 ∧ b = (entGetL most b).1.bytes ∧ (entGetL most b).1.err = 0 ∧ (entGetL most b).1.In) ∨ ((entGetL most b).2 = 123 ∧ (entGetL most b).1 = ent0) := by
  unfold entGetL
  simp only []
  have o1 := over_uint (Rs.new b)
  have l1 := uint_lt (Rs.Ok.new hA)
  generalize (Rs.new b).uint.1 = s at o1 l1 ⊢
  generalize (Rs.new b).uint.2 = r1 at o1 ⊢
  have o2 := over_uint r1
  have l2 := uint_lt (o1.ok (.new hA))
  generalize r1.uint.1 = ep at o2 l2 ⊢
  generalize r1.uint.2 = r2 at o2 ⊢
  have o3 := over_text r2 most (by rw [o2.b, o1.b]; show b.length < _; omega)
  generalize (r2.text most).1 = t at o3 ⊢
  generalize (r2.text most).2 = r3 at o3 ⊢
  have o4 := over_byte r3
  generalize r3.byte.1 = h at o4 ⊢
  generalize r3.byte.2 = r4 at o4 ⊢
  split
  · exact .inr ⟨rfl, rfl⟩
  · rename_i hc
    have k4 := (((o1.trans o2).trans o3).trans o4).ok (.new hA)
    have hb4 : r4.b = b := (((o1.trans o2).trans o3).trans o4).b
    have hz : r4.err = 0 := Classical.byContradiction fun hh => hc (.inl hh)
    have hov := (((o1.trans o2).trans o3).trans o4).over (.new hA) hz
    have hq := reqGet_ok (bytesOf_allB t)
    have hrl : r4.rest.length ≤ b.length := by unfold Rs.rest; rw [hb4]; simp
    have hf := footGet_ok (b := r4.rest) k4.rest (by omega)
    generalize reqGet (bytesOf t) = q at hq ⊢
    generalize footGet r4.rest = f at hf ⊢
    split
    · exact .inr ⟨rfl, rfl⟩
    · rename_i hd
      left
      have hq0 : q.2.1 = 0 := Classical.byContradiction fun hh => hd (.inl hh)
      have hf0 : f.2.2 = 0 := Classical.byContradiction fun hh => hd (.inr (.inl hh))
      have hfl : f.2.1 = r4.left := Classical.byContradiction fun hh => hd (.inr (.inr hh))
      obtain ⟨q1, q2⟩ := hq.2.2.2.2.2.2 hq0
      obtain ⟨f1, f2, f3⟩ := hf hf0
      have hleft : r4.left = r4.rest.length := by
        unfold Rs.left Rs.rest; rw [if_neg (by rw [hz]; simp)]; simp
      have hrest : r4.rest = f.1.bytes := by
        rw [f2, hfl, hleft, List.drop_length, List.append_nil]
      have hh : h = 1 ∨ h = 2 := Classical.byContradiction fun hh => hc (.inr (.inr (.inr (by omega))))
      refine ⟨rfl, ?_, ?_, ⟨?_, ?_, hq.1⟩⟩
      · have hn : (Rs.new b).rest = b := rfl
        rw [hn] at hov
        rw [hov, hrest]
        have : textB t = uintB q.1.bytes.length ++ q.1.bytes := by unfold textB; rw [← q1, bytesOf_length]
        rw [this]
        simp [Ent.bytes, mkEnt, mkPlan, Ent.seq, Ent.epoch, Ent.plan, Plan.req, Plan.fp, Plan.how]
      · rw [Ent.err_iff, Plan.right_iff]
        exact ⟨by show (0 : Int) ≤ ((s : Nat) : Int); omega, by show (0 : Int) ≤ ((ep : Nat) : Int); omega, q2, hh, f1⟩
      · show ((s : Nat) : Int) ≤ _
        have : ¬ 2 ^ 63 ≤ s := fun hh => hc (.inr (.inl hh))
        omega
      · show ((ep : Nat) : Int) ≤ _
        have : ¬ 2 ^ 63 ≤ ep := fun hh => hc (.inr (.inr (.inl hh)))
        omega
/-- how long a request's text may be has no part -/
theorem entGet_same {b : Bytes} (hA : AllB b) (h63 : b.length < 2 ^ 63) (m n : Nat) (hm : 700 ≤ m ∨ b.length ≤ m) (hn : 700 ≤ n ∨ b.length ≤ n) : entGetL m b = entGetL n b := by
  rcases entGet_ok hA h63 m with ⟨e0, e1, e2, e3⟩ | ⟨e0, e1⟩
  · have := entGet_bytes e2 e3 n (by rw [← e1]; exact hn)
    rw [← e1] at this
    rw [this, ← e0]
  · rcases entGet_ok hA h63 n with ⟨f0, f1, f2, f3⟩ | ⟨f0, f1⟩
    · have := entGet_bytes f2 f3 m (by rw [← f1]; exact hm)
      rw [← f1] at this
      rw [this, ← f0]
    · exact Prod.ext (e1.trans f1.symm) (e0.trans f0.symm)

end Go.Proofs.YtfgdnakfikpmpaaGreatDoor

namespace Go.Proofs.YtfgdnakfikpmpaaGreatDoor
set_option linter.unusedVariables false
set_option linter.unusedSimpArgs false
open Go Go.RowKit Go.Deep

@[reducible] def instrSh : Sh := .struct (.cons (.int .i64) (.cons (.int .i64) .nil))
@[reducible] def progSh : Sh := .struct (.cons (.int .i64) (.cons (.slice valueSh) (.cons (.slice instrSh) .nil)))
@[reducible] def procSh : Sh := .struct (.cons .str (.cons (.slice (.int .i64)) (.cons .bool (.cons (.slice .str) (.cons (.slice .str) (.cons progSh .nil))))))
@[reducible] def partSh : Sh := .struct (.cons .str (.cons (.int .i64) .nil))

abbrev Ins := instrSh.T
abbrev Pgm := progSh.T
abbrev Pgm.args (p : Pgm) : Int := p.1
abbrev Pgm.consts (p : Pgm) : List Val := p.2.1
abbrev Pgm.code (p : Pgm) : List Ins := p.2.2.1
def mkPgm (a : Int) (c : List Val) (l : List Ins) : Pgm := (a, c, l, ())

abbrev Prc := procSh.T
abbrev Prc.name (p : Prc) : ByteArray := p.1
abbrev Prc.kinds (p : Prc) : List Int := p.2.1
abbrev Prc.dep (p : Prc) : Bool := p.2.2.1
abbrev Prc.reads (p : Prc) : List ByteArray := p.2.2.2.1
abbrev Prc.writes (p : Prc) : List ByteArray := p.2.2.2.2.1
abbrev Prc.pgm (p : Prc) : Pgm := p.2.2.2.2.2.1
def mkPrc (n : ByteArray) (k : List Int) (d : Bool) (r w : List ByteArray) (g : Pgm) : Prc := (n, k, d, r, w, g, ())
def prc0 : Prc := mkPrc noText [] false [] [] (mkPgm 0 [] [])

/-! templates -/
abbrev Prt := partSh.T
abbrev Prt.text (p : Prt) : ByteArray := p.1
abbrev Prt.arg (p : Prt) : Int := p.2.1
def mkPrt (t : ByteArray) (n : Int) : Prt := (t, n, ())

/-- the parts of a template's bytes -/
def cutU : Bytes → Option (List Prt)
  | [] => some []
  | c :: r =>
    if c = 123 then
      match r with
      | d :: e :: t => if 48 ≤ d ∧ d ≤ 57 ∧ e = 125 then (cutU t).map (mkPrt noText (d - 48) :: ·) else none
      | _ => none
    else if keyC c then (cutU r).map (mkPrt ⟨#[c.toNat.toUInt8]⟩ (-1) :: ·) else none
def cutT (t : ByteArray) : Option (List Prt) := if t.size = 0 ∨ 64 < t.size then none else cutU (bytesOf t)
def below (n : Nat) (l : List Prt) : Bool := l.all fun p => decide (p.arg < n)
def tmplOk (t : ByteArray) (n : Nat) : Bool := match cutT t with | some l => below n l | none => false

/-- the letters of an argument -/
def argText (v : Val) : List UInt8 := if v.kind = 1 then Lib.itoa v.num else v.text.data.toList
def keyLs (args : List Val) : List Prt → Option (List UInt8)
  | [] => some []
  | p :: l =>
    if p.arg < 0 then (keyLs args l).map (p.text.data.toList ++ ·)
    else if givenV (args.getD p.arg.toNat val0) = false then none
    else (keyLs args l).map (argText (args.getD p.arg.toNat val0) ++ ·)
/-- what a template means -/
def keyT (t : ByteArray) (args : List Val) : ByteArray × Int :=
  match cutT t with
  | none => (noText, 81)
  | some l =>
    if below args.length l = false then (noText, 81) else
    match keyLs args l with
    | none => (noText, 82)
    | some b => if keyOk ⟨b.toArray⟩ then (⟨b.toArray⟩, 0) else (noText, 30)

/-! procedures; what the program in it is worth comes from outside -/
def kindOk (k : Int) : Bool := decide (1 ≤ k) && decide (k ≤ 3)
def Prc.check (p : Prc) (pg : Int) : Int :=
  if nameOk p.name = false ∨ 8 < p.kinds.length then 80
  else if p.kinds.all kindOk = false then 80
  else if p.dep = true ∧ 0 < p.reads.length + p.writes.length then 80
  else if 32 < p.reads.length ∨ 32 < p.writes.length then 6
  else if p.reads.all (tmplOk · p.kinds.length) = false ∨ p.writes.all (tmplOk · p.kinds.length) = false then 81
  else if pg ≠ 0 then pg
  else if p.pgm.args ≠ p.kinds.length then 80
  else 0

def suitB (k : Int) (v : Val) : Bool := givenV v && (decide (k = v.kind) || decide (k = 3))
def suitsB (ks : List Int) (args : List Val) : Bool := decide (args.length = ks.length) && (ks.zip args).all fun x => suitB x.1 x.2

/-- the keys of a list of templates; the first error -/
def keysT (args : List Val) : List ByteArray → List ByteArray × Int
  | [] => ([], 0)
  | t :: l => if (keyT t args).2 ≠ 0 then ([], (keyT t args).2) else if (keysT args l).2 ≠ 0 then ([], (keysT args l).2) else ((keyT t args).1 :: (keysT args l).1, 0)
/-- the footprint of a procedure that was checked -/
def Prc.foot (p : Prc) (args : List Val) : Fp × Int :=
  if p.dep then (mkFp [] [], 83)
  else if suitsB p.kinds args = false then (mkFp [] [], 82)
  else if (keysT args p.reads).2 ≠ 0 then (mkFp [] [], (keysT args p.reads).2)
  else if (keysT args p.writes).2 ≠ 0 then (mkFp [] [], (keysT args p.writes).2)
  else (mkFp (keysT args p.reads).1 (keysT args p.writes).1).norm

def findP (L : List Prc) (n : ByteArray) : Option Prc := L.find? fun p => decide (p.name = n)
/-- a request held against procedures -/
def judgeL (L : List Prc) (q : Req) (most : Int) : Plan × Int :=
  if q.check ≠ 0 then (plan0, q.check) else
  match findP L q.name with
  | none => (plan0, 92)
  | some p =>
    if suitsB p.kinds q.args = false then (plan0, 82)
    else if p.dep then (mkPlan q 0 (mkFp [] []), 0)
    else if (p.foot q.args).2 ≠ 0 then (plan0, (p.foot q.args).2)
    else if most < (setT ((p.foot q.args).1.rs ++ (p.foot q.args).1.ws)).length then (plan0, 93)
    else (mkPlan q 1 (p.foot q.args).1, 0)

/-! texts -/
def quoted : List UInt8 → List UInt8
  | [] => []
  | c :: l => if c = 34 ∨ c = 92 then 92 :: c :: quoted l else c :: quoted l
def Val.print (v : Val) : List UInt8 :=
  if v.kind = 1 then Lib.itoa v.num else if v.kind = 0 then [110, 111, 110, 101] else 34 :: (quoted v.text.data.toList ++ [34])
def Req.print (q : Req) : List UInt8 := Lib.join (Lib.itoa q.client :: Lib.itoa q.token :: q.name.data.toList :: q.args.map Val.print) [32]
end Go.Proofs.YtfgdnakfikpmpaaGreatDoor
