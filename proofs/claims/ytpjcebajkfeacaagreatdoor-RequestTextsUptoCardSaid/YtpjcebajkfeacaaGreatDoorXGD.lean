/-
  Parts of what is proved for this claim; each declaration is one of the seat's texts.
-/
import Derived.Test.YtpjcebajkfeacaaGreatDoorXGC
import Derived.WalkKit
import Derived.WalkSpells
import Derived.WalkLawsBesides
import Derived.ProofKit
import Derived.Deep.Slices
import Derived.Deep.AppendSrc
import Derived.Lib.Hide
set_option linter.unusedVariables false
set_option linter.unusedSimpArgs false
namespace Go.Proofs.YtpjcebajkfeacaaGreatDoor
open Go Go.RowKit Go.Deep
theorem size0 {s : ByteArray} (h : s.size = 0) : s = noText := by
  cases s with
  | mk d =>
    have : d.size = 0 := h
    have : d = #[] := Array.eq_empty_of_size_eq_zero this
    rw [this]; rfl
theorem noText_size : noText.size = 0 := rfl
structure Val.In (v : Val) : Prop where
  k0 : -9223372036854775808 ≤ v.kind
  k1 : v.kind ≤ 9223372036854775807
  n0 : -9223372036854775808 ≤ v.num
  n1 : v.num ≤ 9223372036854775807
theorem Val.ok_cases {v : Val} (h : v.ok = true) : v = val0 ∨ (v.kind = 1 ∧ v = mkVal 1 v.num noText) ∨ (v.kind = 2 ∧ v = mkVal 2 0 v.text ∧ v.text.size ≤ 64 ∧ plainB v.text = true) := by
  obtain ⟨k, n, t, u⟩ := v
  simp only [Val.ok, Val.kind, Val.num, Val.text] at h ⊢
  split at h
  · rename_i hk
    simp at h
    left
    rw [hk, h.1, h.2]; rfl
  · split at h
    · rename_i hk
      simp at h
      right; left
      refine ⟨hk, ?_⟩
      rw [hk, h]; rfl
    · split at h
      · rename_i hk
        simp at h
        right; right
        refine ⟨hk, ?_, h.1.2, h.2⟩
        rw [hk, h.1.1]; rfl
      · cases h
theorem val0_ok : val0.ok = true := by rfl
theorem int_ok (n : Int) : (mkVal 1 n noText).ok = true := by simp [Val.ok, mkVal, Val.kind, Val.text, noText_size]
theorem word_ok (t : ByteArray) (h1 : t.size ≤ 64) (h2 : plainB t = true) : (mkVal 2 0 t).ok = true := by simp [Val.ok, mkVal, Val.kind, Val.text, Val.num, h1, h2]
theorem val0_bytes : val0.bytes = [0] := by simp [Val.bytes, val0_ok]; simp [val0, mkVal, Val.kind]
theorem int_bytes (n : Int) : (mkVal 1 n noText).bytes = 1 :: uintB (zig n) := by simp [Val.bytes, int_ok]; simp [mkVal, Val.kind, Val.num]
theorem word_bytes (t : ByteArray) (h1 : t.size ≤ 64) (h2 : plainB t = true) : (mkVal 2 0 t).bytes = 2 :: textB t := by simp [Val.bytes, word_ok t h1 h2]; simp [mkVal, Val.kind, Val.text]
theorem over_orNone {r s : Rs} {v : Val} {x : Bytes} (h : r.Over s x) : r.Over (orNone v s).2 x := by
  unfold orNone; split <;> exact h
theorem orNone_fst {v : Val} {s : Rs} (h : (orNone v s).2.err = 0) : (orNone v s).1 = v := by
  unfold orNone at h ⊢
  split
  · rename_i he; rw [if_pos he] at h; exact absurd h he
  · rfl
theorem Rs.Over.when {r s : Rs} {x y : Bytes} (h : r.Over s x) (e : s.err = 0 → x = y) : r.Over s y :=
  ⟨h.b, h.ok, h.err, fun o k => by rw [← e k]; exact h.over o k⟩
theorem over_takeV (r : Rs) (h63 : r.b.length < 2 ^ 64) : r.Over (takeV r).2 (takeV r).1.bytes := by
  unfold takeV
  have hb := over_byte r
  split
  · rename_i h1
    rw [h1] at hb
    refine (over_orNone (hb.trans (over_int _))).when fun h => ?_
    rw [orNone_fst h, int_bytes]
    rfl
  · split
    · rename_i h1 h2
      rw [h2] at hb
      simp only []
      have ht := over_text r.byte.2 64 (by rw [hb.b]; exact h63)
      have hle : (r.byte.2.text 64).1.size ≤ 64 := text_le r.byte.2 64
      split
      · rename_i hp
        refine (over_orNone (hb.trans ht)).when fun h => ?_
        rw [orNone_fst h, word_bytes _ hle hp]
        rfl
      · rename_i hp
        refine (over_orNone ((hb.trans ht).trans (.fail _ (by omega) (by omega)))).when fun h => ?_
        have : (orNone (mkVal 2 0 (r.byte.2.text 64).1) ((r.byte.2.text 64).2.fail 20)).2 = (r.byte.2.text 64).2.fail 20 := by unfold orNone; split <;> rfl
        rw [this] at h
        exact (Rs.fail_err (by omega) h).elim
    · split
      · rename_i h1 h2 h3
        rw [h3] at hb
        refine (over_orNone hb).when fun h => ?_
        rw [orNone_fst h, val0_bytes]
      · refine (over_orNone (hb.trans (.fail _ (e := 20) (by omega) (by omega)))).when fun h => ?_
        have : (orNone val0 (r.byte.2.fail 20)).2 = r.byte.2.fail 20 := by unfold orNone; split <;> rfl
        rw [this] at h
        exact (Rs.fail_err (by omega) h).elim
theorem orNone_ok {v : Val} {s : Rs} (h : v.ok = true) : (orNone v s).1.ok = true := by
  unfold orNone; split
  · exact val0_ok
  · exact h
theorem takeV_ok (r : Rs) : (takeV r).1.ok = true := by
  unfold takeV
  split
  · exact orNone_ok (int_ok _)
  · split
    · simp only []
      by_cases hp : plainB (r.byte.2.text 64).1 = true
      · rw [if_pos hp]; exact orNone_ok (word_ok _ (text_le _ 64) hp)
      · rw [if_neg hp]
        by_cases he : ((r.byte.2.text 64).2.fail 20).err = 0
        · exact (Rs.fail_err (by omega) he).elim
        · unfold orNone; rw [if_pos he]; exact val0_ok
    · split
      · exact orNone_ok val0_ok
      · exact orNone_ok val0_ok
theorem in_mk {k n : Int} (t : ByteArray) (h0 : -9223372036854775808 ≤ k) (h1 : k ≤ 9223372036854775807) (h2 : -9223372036854775808 ≤ n) (h3 : n ≤ 9223372036854775807) : (mkVal k n t).In := ⟨h0, h1, h2, h3⟩
theorem in_val0 : val0.In := in_mk _ (by decide) (by decide) (by decide) (by decide)
theorem orNone_in {v : Val} {s : Rs} (h : v.In) : (orNone v s).1.In := by
  unfold orNone; split
  · exact in_val0
  · exact h
theorem takeV_in (r : Rs) (h : r.Ok) : (takeV r).1.In := by
  unfold takeV
  split
  · have := int_lt ((over_byte r).ok h)
    exact orNone_in (in_mk _ (by decide) (by decide) this.1 this.2)
  · split
    · exact orNone_in (in_mk _ (by decide) (by decide) (by decide) (by decide))
    · split
      · exact orNone_in in_val0
      · exact orNone_in in_val0
end Go.Proofs.YtpjcebajkfeacaaGreatDoor
namespace Go.Proofs.YtpjcebajkfeacaaGreatDoor
open Go Go.RowKit Go.Deep
theorem bytesLess_is : ∀ (x y : List UInt8), Op.bytesLess x y = decide (x < y)
  | [], [] => by simp [Op.bytesLess]
  | _ :: _, [] => by simp [Op.bytesLess]
  | [], _ :: _ => by simp [Op.bytesLess]
  | a :: x, b :: y => by
    rw [Op.bytesLess, bytesLess_is x y]
    simp only [List.cons_lt_cons_iff]
    by_cases h1 : a < b <;> by_cases h2 : a = b <;> by_cases h3 : x < y <;> simp [h1, h2, h3]
theorem toList_is (a : ByteArray) : a.toList = a.data.toList := ByteArray.toList_eq a
theorem ltT_iff (a b : ByteArray) : ltT a b = true ↔ a.data.toList < b.data.toList := by
  unfold ltT; rw [bytesLess_is, toList_is, toList_is]; simp
theorem text_ext {a b : ByteArray} (h : a.data.toList = b.data.toList) : a = b := by
  cases a; cases b; simp only [ByteArray.mk.injEq]; exact Array.toList_inj.1 h
theorem ltT_irrefl (a : ByteArray) : ¬ ltT a a = true := by rw [ltT_iff]; exact List.lt_irrefl _
theorem ltT_trans {a b c : ByteArray} (h : ltT a b = true) (k : ltT b c = true) : ltT a c = true := by
  rw [ltT_iff] at *; exact List.lt_trans h k
theorem ltT_asymm {a b : ByteArray} (h : ltT a b = true) : ¬ ltT b a = true := fun k => ltT_irrefl _ (ltT_trans h k)
theorem ltT_or (a b : ByteArray) : ltT a b = true ∨ a = b ∨ ltT b a = true := by
  rw [ltT_iff, ltT_iff]
  rcases List.le_total a.data.toList b.data.toList with h | h
  · rcases List.le_iff_lt_or_eq.1 h with h | h
    · exact .inl h
    · exact .inr (.inl (text_ext h))
  · rcases List.le_iff_lt_or_eq.1 h with h | h
    · exact .inr (.inr h)
    · exact .inr (.inl (text_ext h.symm))
def Rising (l : List ByteArray) : Prop := l.Pairwise fun a b => ltT a b = true
theorem insT_mem (x : ByteArray) (l : List ByteArray) (y : ByteArray) : y ∈ insT x l ↔ y = x ∨ y ∈ l := by
  induction l with
  | nil => simp [insT]
  | cons z l ih =>
    unfold insT
    split
    · simp [ih]; constructor
      · rintro (h | h | h)
        · exact .inr (.inl h)
        · exact .inl h
        · exact .inr (.inr h)
      · rintro (h | h | h)
        · exact .inr (.inl h)
        · exact .inl h
        · exact .inr (.inr h)
    · split
      · rename_i h; subst h; simp
      · simp
theorem insT_rising (x : ByteArray) {l : List ByteArray} (h : Rising l) : Rising (insT x l) := by
  induction l with
  | nil => simp [insT, Rising]
  | cons z l ih =>
    have hz := List.pairwise_cons.1 h
    unfold insT
    split
    · rename_i hlt
      refine List.pairwise_cons.2 ⟨fun y hy => ?_, ih hz.2⟩
      rcases (insT_mem x l y).1 hy with rfl | hy
      · exact hlt
      · exact hz.1 y hy
    · split
      · exact h
      · rename_i h1 h2
        have hxz : ltT x z = true := by
          rcases ltT_or z x with h | h | h
          · exact absurd h h1
          · exact absurd h h2
          · exact h
        refine List.pairwise_cons.2 ⟨fun y hy => ?_, h⟩
        rcases List.mem_cons.1 hy with rfl | hy
        · exact hxz
        · exact ltT_trans hxz (hz.1 y hy)
theorem setT_go (l s : List ByteArray) (hs : Rising s) : Rising (l.foldl (fun s x => insT x s) s) ∧ ∀ y, y ∈ l.foldl (fun s x => insT x s) s ↔ y ∈ s ∨ y ∈ l := by
  induction l generalizing s with
  | nil => exact ⟨hs, by simp⟩
  | cons x l ih =>
    obtain ⟨h1, h2⟩ := ih (insT x s) (insT_rising x hs)
    refine ⟨h1, fun y => ?_⟩
    rw [List.foldl_cons, h2, insT_mem, List.mem_cons]
    constructor
    · rintro ((h | h) | h)
      · exact .inr (.inl h)
      · exact .inl h
      · exact .inr (.inr h)
    · rintro (h | h | h)
      · exact .inl (.inr h)
      · exact .inl (.inl h)
      · exact .inr h
theorem setT_rising (l : List ByteArray) : Rising (setT l) := (setT_go l [] List.Pairwise.nil).1
theorem setT_mem (l : List ByteArray) (y : ByteArray) : y ∈ setT l ↔ y ∈ l := by
  have := (setT_go l [] List.Pairwise.nil).2 y
  simpa [setT] using this
theorem Rising.eq : ∀ {a b : List ByteArray}, Rising a → Rising b → (∀ y, y ∈ a ↔ y ∈ b) → a = b
  | [], [], _, _, _ => rfl
  | [], y :: b, _, _, h => absurd ((h y).2 List.mem_cons_self) (by simp)
  | x :: a, [], _, _, h => absurd ((h x).1 List.mem_cons_self) (by simp)
  | x :: a, y :: b, ha, hb, h => by
    have ha' := List.pairwise_cons.1 ha
    have hb' := List.pairwise_cons.1 hb
    have hxy : x = y := by
      rcases List.mem_cons.1 ((h x).1 List.mem_cons_self) with e | e
      · exact e
      · rcases List.mem_cons.1 ((h y).2 List.mem_cons_self) with k | k
        · exact k.symm
        · exact absurd (hb'.1 x e) (ltT_asymm (ha'.1 y k))
    subst hxy
    congr 1
    refine Rising.eq ha'.2 hb'.2 fun z => ?_
    constructor
    · intro hz
      rcases List.mem_cons.1 ((h z).1 (List.mem_cons_of_mem _ hz)) with e | e
      · subst e; exact absurd (ha'.1 z hz) (ltT_irrefl _)
      · exact e
    · intro hz
      rcases List.mem_cons.1 ((h z).2 (List.mem_cons_of_mem _ hz)) with e | e
      · subst e; exact absurd (hb'.1 z hz) (ltT_irrefl _)
      · exact e
theorem setT_len_le (l : List ByteArray) : (setT l).length ≤ l.length := by
  have : ∀ (l s : List ByteArray), (l.foldl (fun s x => insT x s) s).length ≤ s.length + l.length := by
    intro l
    induction l with
    | nil => simp
    | cons x l ih =>
      intro s
      have h1 := ih (insT x s)
      have h2 : (insT x s).length ≤ s.length + 1 := by
        clear ih h1
        induction s with
        | nil => simp [insT]
        | cons y s ih => unfold insT; split
                         · simp; omega
                         · split <;> simp
      simp at h1 ⊢
      omega
  simpa [setT] using this l []
theorem Rising.filter {l : List ByteArray} (h : Rising l) (p : ByteArray → Bool) : Rising (l.filter p) := List.Pairwise.filter p h
end Go.Proofs.YtpjcebajkfeacaaGreatDoor
namespace Go.Proofs.YtpjcebajkfeacaaGreatDoor
open Go Go.RowKit Go.Deep
theorem Fp.use_cases (f : Fp) (k : ByteArray) : (f.use k % 2 = 1 ↔ k ∈ f.rs) ∧ (2 ≤ f.use k % 4 ↔ k ∈ f.ws) ∧ 0 ≤ f.use k ∧ f.use k ≤ 3 := by
  unfold Fp.use
  rw [← hasT_iff, ← hasT_iff]
  cases hasT f.rs k <;> cases hasT f.ws k <;> simp
end Go.Proofs.YtpjcebajkfeacaaGreatDoor
namespace Go.Proofs.YtpjcebajkfeacaaGreatDoor
open Go Go.RowKit Go.Deep
theorem givenV_ok {v : Val} (h : givenV v = true) : v.ok = true ∧ v.kind ≠ 0 := by
  unfold givenV at h; rw [Bool.and_eq_true] at h; exact ⟨h.1, of_decide_eq_true h.2⟩
theorem nameOk_size {s : ByteArray} (h : nameOk s = true) : s.size ≤ 16 := by
  unfold nameOk at h; rw [Bool.and_eq_true] at h; exact of_decide_eq_true h.2
theorem Req.check_iff (q : Req) : q.check = 0 ↔ 0 ≤ q.client ∧ q.client < 64 ∧ nameOk q.name = true ∧ q.args.length ≤ 8 ∧ ∀ v ∈ q.args, givenV v = true := by
  unfold Req.check
  constructor
  · intro h
    split at h
    · cases h
    · split at h
      · cases h
      · split at h
        · cases h
        · split at h
          · cases h
          · rename_i h1 h2 h3 h4
            exact ⟨by omega, by omega, by simpa using h2, by omega, by simpa using h4⟩
  · rintro ⟨h1, h2, h3, h4, h5⟩
    rw [if_neg (by omega), if_neg (by rw [h3]; simp), if_neg (by omega), if_neg (by rw [List.all_eq_true.2 h5]; simp)]
theorem Val.bytes_length (v : Val) : v.bytes.length ≤ 75 := by
  by_cases h : v.ok = true
  · rcases Val.ok_cases h with rfl | ⟨-, e⟩ | ⟨-, e, h1, h2⟩
    · rw [val0_bytes]; simp
    · rw [e, int_bytes]
      have := uintB_length (zig v.num)
      simp; omega
    · rw [e, word_bytes _ h1 h2]
      have := uintB_length v.text.size
      simp [textB, bytesOf_length]; omega
  · have : v.bytes = [] := by unfold Val.bytes; rw [if_pos (by simpa using h)]
    rw [this]; simp
theorem args_length (l : List Val) : (l.flatMap Val.bytes).length ≤ 75 * l.length := by
  induction l with
  | nil => simp
  | cons v l ih => have := Val.bytes_length v; simp at ih ⊢; omega
theorem Req.bytes_length {q : Req} (h : q.check = 0) : q.bytes.length ≤ 700 := by
  obtain ⟨h1, h2, h3, h4, h5⟩ := (Req.check_iff q).1 h
  have a1 := uintB_length q.client.toNat
  have a2 := uintB_length q.token.toNat
  have a3 := uintB_length q.name.size
  have a4 := uintB_length q.args.length
  have a5 := args_length q.args
  have a6 := nameOk_size h3
  simp only [Req.bytes, textB, List.length_append, bytesOf_length]
  omega
end Go.Proofs.YtpjcebajkfeacaaGreatDoor
