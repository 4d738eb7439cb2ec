/-
  Parts of what is proved for this claim; each declaration is one of the seat's texts.
-/
import Derived.Test.YtpjcebajkfeacaaGreatDoorBGC
import Derived.WalkKit
import Derived.WalkSpells
import Derived.WalkLawsBesides
import Derived.ProofKit
import Derived.Deep.Slices
import Derived.Deep.AppendSrc
import Derived.Lib.Hide
set_option linter.unusedVariables false
set_option linter.unusedSimpArgs false
namespace Go.Proofs.YtpjcebajkfeacaaGreatDoor
open Go Go.RowKit Go.Deep
theorem size0 {s : ByteArray} (h : s.size = 0) : s = noText := by
  cases s with
  | mk d =>
    have : d.size = 0 := h
    have : d = #[] := Array.eq_empty_of_size_eq_zero this
    rw [this]; rfl
theorem noText_size : noText.size = 0 := rfl
structure Val.In (v : Val) : Prop where
  k0 : -9223372036854775808 ≤ v.kind
  k1 : v.kind ≤ 9223372036854775807
  n0 : -9223372036854775808 ≤ v.num
  n1 : v.num ≤ 9223372036854775807
theorem Val.ok_cases {v : Val} (h : v.ok = true) : v = val0 ∨ (v.kind = 1 ∧ v = mkVal 1 v.num noText) ∨ (v.kind = 2 ∧ v = mkVal 2 0 v.text ∧ v.text.size ≤ 64 ∧ plainB v.text = true) := by
  obtain ⟨k, n, t, u⟩ := v
  simp only [Val.ok, Val.kind, Val.num, Val.text] at h ⊢
  split at h
  · rename_i hk
    simp at h
    left
    rw [hk, h.1, h.2]; rfl
  · split at h
    · rename_i hk
      simp at h
      right; left
      refine ⟨hk, ?_⟩
      rw [hk, h]; rfl
    · split at h
      · rename_i hk
        simp at h
        right; right
        refine ⟨hk, ?_, h.1.2, h.2⟩
        rw [hk, h.1.1]; rfl
      · cases h
theorem val0_ok : val0.ok = true := by rfl
theorem int_ok (n : Int) : (mkVal 1 n noText).ok = true := by simp [Val.ok, mkVal, Val.kind, Val.text, noText_size]
theorem word_ok (t : ByteArray) (h1 : t.size ≤ 64) (h2 : plainB t = true) : (mkVal 2 0 t).ok = true := by simp [Val.ok, mkVal, Val.kind, Val.text, Val.num, h1, h2]
theorem val0_bytes : val0.bytes = [0] := by simp [Val.bytes, val0_ok]; simp [val0, mkVal, Val.kind]
theorem int_bytes (n : Int) : (mkVal 1 n noText).bytes = 1 :: uintB (zig n) := by simp [Val.bytes, int_ok]; simp [mkVal, Val.kind, Val.num]
theorem word_bytes (t : ByteArray) (h1 : t.size ≤ 64) (h2 : plainB t = true) : (mkVal 2 0 t).bytes = 2 :: textB t := by simp [Val.bytes, word_ok t h1 h2]; simp [mkVal, Val.kind, Val.text]
theorem sees_orNone {v : Val} {r : Rs} {t : Bytes} (h : r.Sees t) : orNone v r = (v, r) := by
  unfold orNone; rw [if_neg (by rw [h.err]; simp)]
theorem sees_takeV {r : Rs} {v : Val} {t : Bytes} (hv : v.ok = true) (hi : v.In) (h : r.Sees (v.bytes ++ t)) : (takeV r).1 = v ∧ (takeV r).2.Sees t := by
  rcases Val.ok_cases hv with rfl | ⟨-, e⟩ | ⟨-, e, h1, h2⟩
  · rw [val0_bytes] at h
    obtain ⟨b1, b2, -⟩ := sees_byte (c := 0) h
    unfold takeV
    rw [b1, if_neg (by decide), if_neg (by decide), if_pos rfl, sees_orNone b2]
    exact ⟨rfl, b2⟩
  · have i0 := hi.n0
    have i1 := hi.n1
    generalize v.num = n at e i0 i1
    clear hi hv
    subst e
    rw [int_bytes] at h
    obtain ⟨b1, b2, -⟩ := sees_byte (c := 1) h
    obtain ⟨c1, c2⟩ := sees_int b2 i0 i1
    unfold takeV
    rw [b1, if_pos rfl, sees_orNone c2, c1]
    rw [c1] at c2
    exact ⟨rfl, c2⟩
  · generalize v.text = w at e h1 h2
    clear hi hv
    subst e
    rw [word_bytes w h1 h2] at h
    obtain ⟨b1, b2, -⟩ := sees_byte (c := 2) h
    obtain ⟨c1, c2⟩ := sees_text (most := 64) b2 (by omega) h1
    have c1' : (r.byte.2.text 64) = _ := c1
    unfold takeV
    rw [b1, if_neg (by decide), if_pos rfl]
    simp only []
    rw [c1', if_pos h2]
    rw [c1] at c2
    rw [sees_orNone c2]
    exact ⟨rfl, c2⟩
theorem over_orNone {r s : Rs} {v : Val} {x : Bytes} (h : r.Over s x) : r.Over (orNone v s).2 x := by
  unfold orNone; split <;> exact h
theorem orNone_fst {v : Val} {s : Rs} (h : (orNone v s).2.err = 0) : (orNone v s).1 = v := by
  unfold orNone at h ⊢
  split
  · rename_i he; rw [if_pos he] at h; exact absurd h he
  · rfl
theorem Rs.Over.when {r s : Rs} {x y : Bytes} (h : r.Over s x) (e : s.err = 0 → x = y) : r.Over s y :=
  ⟨h.b, h.ok, h.err, fun o k => by rw [← e k]; exact h.over o k⟩
theorem over_takeV (r : Rs) (h63 : r.b.length < 2 ^ 64) : r.Over (takeV r).2 (takeV r).1.bytes := by
  unfold takeV
  have hb := over_byte r
  split
  · rename_i h1
    rw [h1] at hb
    refine (over_orNone (hb.trans (over_int _))).when fun h => ?_
    rw [orNone_fst h, int_bytes]
    rfl
  · split
    · rename_i h1 h2
      rw [h2] at hb
      simp only []
      have ht := over_text r.byte.2 64 (by rw [hb.b]; exact h63)
      have hle : (r.byte.2.text 64).1.size ≤ 64 := text_le r.byte.2 64
      split
      · rename_i hp
        refine (over_orNone (hb.trans ht)).when fun h => ?_
        rw [orNone_fst h, word_bytes _ hle hp]
        rfl
      · rename_i hp
        refine (over_orNone ((hb.trans ht).trans (.fail _ (by omega) (by omega)))).when fun h => ?_
        have : (orNone (mkVal 2 0 (r.byte.2.text 64).1) ((r.byte.2.text 64).2.fail 20)).2 = (r.byte.2.text 64).2.fail 20 := by unfold orNone; split <;> rfl
        rw [this] at h
        exact (Rs.fail_err (by omega) h).elim
    · split
      · rename_i h1 h2 h3
        rw [h3] at hb
        refine (over_orNone hb).when fun h => ?_
        rw [orNone_fst h, val0_bytes]
      · refine (over_orNone (hb.trans (.fail _ (e := 20) (by omega) (by omega)))).when fun h => ?_
        have : (orNone val0 (r.byte.2.fail 20)).2 = r.byte.2.fail 20 := by unfold orNone; split <;> rfl
        rw [this] at h
        exact (Rs.fail_err (by omega) h).elim
theorem orNone_ok {v : Val} {s : Rs} (h : v.ok = true) : (orNone v s).1.ok = true := by
  unfold orNone; split
  · exact val0_ok
  · exact h
theorem takeV_ok (r : Rs) : (takeV r).1.ok = true := by
  unfold takeV
  split
  · exact orNone_ok (int_ok _)
  · split
    · simp only []
      by_cases hp : plainB (r.byte.2.text 64).1 = true
      · rw [if_pos hp]; exact orNone_ok (word_ok _ (text_le _ 64) hp)
      · rw [if_neg hp]
        by_cases he : ((r.byte.2.text 64).2.fail 20).err = 0
        · exact (Rs.fail_err (by omega) he).elim
        · unfold orNone; rw [if_pos he]; exact val0_ok
    · split
      · exact orNone_ok val0_ok
      · exact orNone_ok val0_ok
theorem in_mk {k n : Int} (t : ByteArray) (h0 : -9223372036854775808 ≤ k) (h1 : k ≤ 9223372036854775807) (h2 : -9223372036854775808 ≤ n) (h3 : n ≤ 9223372036854775807) : (mkVal k n t).In := ⟨h0, h1, h2, h3⟩
theorem in_val0 : val0.In := in_mk _ (by decide) (by decide) (by decide) (by decide)
theorem orNone_in {v : Val} {s : Rs} (h : v.In) : (orNone v s).1.In := by
  unfold orNone; split
  · exact in_val0
  · exact h
theorem takeV_in (r : Rs) (h : r.Ok) : (takeV r).1.In := by
  unfold takeV
  split
  · have := int_lt ((over_byte r).ok h)
    exact orNone_in (in_mk _ (by decide) (by decide) this.1 this.2)
  · split
    · exact orNone_in (in_mk _ (by decide) (by decide) (by decide) (by decide))
    · split
      · exact orNone_in in_val0
      · exact orNone_in in_val0
end Go.Proofs.YtpjcebajkfeacaaGreatDoor
namespace Go.Proofs.YtpjcebajkfeacaaGreatDoor
open Go Go.RowKit Go.Deep
theorem bytesLess_is : ∀ (x y : List UInt8), Op.bytesLess x y = decide (x < y)
  | [], [] => by simp [Op.bytesLess]
  | _ :: _, [] => by simp [Op.bytesLess]
  | [], _ :: _ => by simp [Op.bytesLess]
  | a :: x, b :: y => by
    rw [Op.bytesLess, bytesLess_is x y]
    simp only [List.cons_lt_cons_iff]
    by_cases h1 : a < b <;> by_cases h2 : a = b <;> by_cases h3 : x < y <;> simp [h1, h2, h3]
theorem toList_is (a : ByteArray) : a.toList = a.data.toList := ByteArray.toList_eq a
theorem ltT_iff (a b : ByteArray) : ltT a b = true ↔ a.data.toList < b.data.toList := by
  unfold ltT; rw [bytesLess_is, toList_is, toList_is]; simp
theorem text_ext {a b : ByteArray} (h : a.data.toList = b.data.toList) : a = b := by
  cases a; cases b; simp only [ByteArray.mk.injEq]; exact Array.toList_inj.1 h
theorem ltT_irrefl (a : ByteArray) : ¬ ltT a a = true := by rw [ltT_iff]; exact List.lt_irrefl _
theorem ltT_trans {a b c : ByteArray} (h : ltT a b = true) (k : ltT b c = true) : ltT a c = true := by
  rw [ltT_iff] at *; exact List.lt_trans h k
theorem ltT_asymm {a b : ByteArray} (h : ltT a b = true) : ¬ ltT b a = true := fun k => ltT_irrefl _ (ltT_trans h k)
theorem ltT_or (a b : ByteArray) : ltT a b = true ∨ a = b ∨ ltT b a = true := by
  rw [ltT_iff, ltT_iff]
  rcases List.le_total a.data.toList b.data.toList with h | h
  · rcases List.le_iff_lt_or_eq.1 h with h | h
    · exact .inl h
    · exact .inr (.inl (text_ext h))
  · rcases List.le_iff_lt_or_eq.1 h with h | h
    · exact .inr (.inr h)
    · exact .inr (.inl (text_ext h.symm))
def Rising (l : List ByteArray) : Prop := l.Pairwise fun a b => ltT a b = true
theorem insT_mem (x : ByteArray) (l : List ByteArray) (y : ByteArray) : y ∈ insT x l ↔ y = x ∨ y ∈ l := by
  induction l with
  | nil => simp [insT]
  | cons z l ih =>
    unfold insT
    split
    · simp [ih]; constructor
      · rintro (h | h | h)
        · exact .inr (.inl h)
        · exact .inl h
        · exact .inr (.inr h)
      · rintro (h | h | h)
        · exact .inr (.inl h)
        · exact .inl h
        · exact .inr (.inr h)
    · split
      · rename_i h; subst h; simp
      · simp
theorem insT_rising (x : ByteArray) {l : List ByteArray} (h : Rising l) : Rising (insT x l) := by
  induction l with
  | nil => simp [insT, Rising]
  | cons z l ih =>
    have hz := List.pairwise_cons.1 h
    unfold insT
    split
    · rename_i hlt
      refine List.pairwise_cons.2 ⟨fun y hy => ?_, ih hz.2⟩
      rcases (insT_mem x l y).1 hy with rfl | hy
      · exact hlt
      · exact hz.1 y hy
    · split
      · exact h
      · rename_i h1 h2
        have hxz : ltT x z = true := by
          rcases ltT_or z x with h | h | h
          · exact absurd h h1
          · exact absurd h h2
          · exact h
        refine List.pairwise_cons.2 ⟨fun y hy => ?_, h⟩
        rcases List.mem_cons.1 hy with rfl | hy
        · exact hxz
        · exact ltT_trans hxz (hz.1 y hy)
theorem setT_go (l s : List ByteArray) (hs : Rising s) : Rising (l.foldl (fun s x => insT x s) s) ∧ ∀ y, y ∈ l.foldl (fun s x => insT x s) s ↔ y ∈ s ∨ y ∈ l := by
  induction l generalizing s with
  | nil => exact ⟨hs, by simp⟩
  | cons x l ih =>
    obtain ⟨h1, h2⟩ := ih (insT x s) (insT_rising x hs)
    refine ⟨h1, fun y => ?_⟩
    rw [List.foldl_cons, h2, insT_mem, List.mem_cons]
    constructor
    · rintro ((h | h) | h)
      · exact .inr (.inl h)
      · exact .inl h
      · exact .inr (.inr h)
    · rintro (h | h | h)
      · exact .inl (.inr h)
      · exact .inl (.inl h)
      · exact .inr h
theorem setT_rising (l : List ByteArray) : Rising (setT l) := (setT_go l [] List.Pairwise.nil).1
theorem setT_mem (l : List ByteArray) (y : ByteArray) : y ∈ setT l ↔ y ∈ l := by
  have := (setT_go l [] List.Pairwise.nil).2 y
  simpa [setT] using this
theorem Rising.eq : ∀ {a b : List ByteArray}, Rising a → Rising b → (∀ y, y ∈ a ↔ y ∈ b) → a = b
  | [], [], _, _, _ => rfl
  | [], y :: b, _, _, h => absurd ((h y).2 List.mem_cons_self) (by simp)
  | x :: a, [], _, _, h => absurd ((h x).1 List.mem_cons_self) (by simp)
  | x :: a, y :: b, ha, hb, h => by
    have ha' := List.pairwise_cons.1 ha
    have hb' := List.pairwise_cons.1 hb
    have hxy : x = y := by
      rcases List.mem_cons.1 ((h x).1 List.mem_cons_self) with e | e
      · exact e
      · rcases List.mem_cons.1 ((h y).2 List.mem_cons_self) with k | k
        · exact k.symm
        · exact absurd (hb'.1 x e) (ltT_asymm (ha'.1 y k))
    subst hxy
    congr 1
    refine Rising.eq ha'.2 hb'.2 fun z => ?_
    constructor
    · intro hz
      rcases List.mem_cons.1 ((h z).1 (List.mem_cons_of_mem _ hz)) with e | e
      · subst e; exact absurd (ha'.1 z hz) (ltT_irrefl _)
      · exact e
    · intro hz
      rcases List.mem_cons.1 ((h z).2 (List.mem_cons_of_mem _ hz)) with e | e
      · subst e; exact absurd (hb'.1 z hz) (ltT_irrefl _)
      · exact e
theorem setT_len_le (l : List ByteArray) : (setT l).length ≤ l.length := by
  have : ∀ (l s : List ByteArray), (l.foldl (fun s x => insT x s) s).length ≤ s.length + l.length := by
    intro l
    induction l with
    | nil => simp
    | cons x l ih =>
      intro s
      have h1 := ih (insT x s)
      have h2 : (insT x s).length ≤ s.length + 1 := by
        clear ih h1
        induction s with
        | nil => simp [insT]
        | cons y s ih => unfold insT; split
                         · simp; omega
                         · split <;> simp
      simp at h1 ⊢
      omega
  simpa [setT] using this l []
theorem Rising.filter {l : List ByteArray} (h : Rising l) (p : ByteArray → Bool) : Rising (l.filter p) := List.Pairwise.filter p h
end Go.Proofs.YtpjcebajkfeacaaGreatDoor
namespace Go.Proofs.YtpjcebajkfeacaaGreatDoor
open Go Go.RowKit Go.Deep
theorem Fp.use_cases (f : Fp) (k : ByteArray) : (f.use k % 2 = 1 ↔ k ∈ f.rs) ∧ (2 ≤ f.use k % 4 ↔ k ∈ f.ws) ∧ 0 ≤ f.use k ∧ f.use k ≤ 3 := by
  unfold Fp.use
  rw [← hasT_iff, ← hasT_iff]
  cases hasT f.rs k <;> cases hasT f.ws k <;> simp
end Go.Proofs.YtpjcebajkfeacaaGreatDoor
namespace Go.Proofs.YtpjcebajkfeacaaGreatDoor
open Go Go.RowKit Go.Deep
structure Req.In (q : Req) : Prop where
  c0 : -9223372036854775808 ≤ q.client
  c1 : q.client ≤ 9223372036854775807
  t0 : 0 ≤ q.token
  t1 : q.token < 18446744073709551616
  args : ∀ v ∈ q.args, v.In
theorem givenV_ok {v : Val} (h : givenV v = true) : v.ok = true ∧ v.kind ≠ 0 := by
  unfold givenV at h; rw [Bool.and_eq_true] at h; exact ⟨h.1, of_decide_eq_true h.2⟩
theorem givenV_mk {v : Val} (h : v.ok = true) (k : v.kind ≠ 0) : givenV v = true := by
  unfold givenV; rw [Bool.and_eq_true]; exact ⟨h, decide_eq_true k⟩
theorem sees_args (vs : List Val) (l : List Val) (r : Rs) (t : Bytes) (hv : ∀ v ∈ vs, givenV v = true) (hi : ∀ v ∈ vs, v.In) (h : r.Sees (vs.flatMap Val.bytes ++ t)) :
    ∃ r', argsF vs.length l r = .inl (l ++ vs, r') ∧ r'.Sees t := by
  induction vs generalizing l r with
  | nil => exact ⟨r, by simp [argsF], by simpa using h⟩
  | cons v vs ih =>
    have h' : r.Sees (v.bytes ++ (vs.flatMap Val.bytes ++ t)) := by simpa using h
    have hv1 := givenV_ok (hv v List.mem_cons_self)
    obtain ⟨e1, e2⟩ := sees_takeV hv1.1 (hi v List.mem_cons_self) h'
    obtain ⟨r', e3, e4⟩ := ih (l ++ [v]) (takeV r).2 (fun x hx => hv x (List.mem_cons_of_mem _ hx)) (fun x hx => hi x (List.mem_cons_of_mem _ hx)) e2
    refine ⟨r', ?_, e4⟩
    rw [List.length_cons]
    unfold argsF
    rw [if_neg (by rw [e1]; exact fun hh => hv1.2 hh.2), e1, e3]
    simp
theorem over_args (n : Nat) (l : List Val) (r : Rs) (h63 : r.b.length < 2 ^ 64) :
    (∃ a, argsF n l r = .inr a ∧ (r.Ok → a ≤ r.b.length)) ∨ ∃ vs r', argsF n l r = .inl (l ++ vs, r') ∧ vs.length = n ∧ r.Over r' (vs.flatMap Val.bytes) ∧ (r'.err = 0 → ∀ v ∈ vs, givenV v = true) ∧ (∀ v ∈ vs, v.ok = true) ∧ (r.Ok → ∀ v ∈ vs, v.In) := by
  induction n generalizing l r with
  | zero => exact .inr ⟨[], r, by simp [argsF], rfl, by simpa using Rs.Over.refl r, by simp, by simp, by simp⟩
  | succ n ih =>
    have ho := over_takeV r h63
    have hk := takeV_ok r
    have hi := takeV_in r
    unfold argsF
    generalize (takeV r).1 = v at ho hk hi ⊢
    generalize (takeV r).2 = s at ho ⊢
    by_cases h : s.err = 0 ∧ v.kind = 0
    · rw [if_pos h]; exact .inl ⟨r.at', rfl, fun o => o.at_le⟩
    · rw [if_neg h]
      rcases ih (l ++ [v]) s (by rw [ho.b]; exact h63) with ⟨a, e, ha⟩ | ⟨vs, r', e, e1, e2, e3, e4, e5⟩
      · exact .inl ⟨a, e, fun o => by have := ha (ho.ok o); rwa [ho.b] at this⟩
      · refine .inr ⟨v :: vs, r', by rw [e]; simp, by simp [e1], ?_, fun he x hx => ?_, fun x hx => ?_, fun o x hx => ?_⟩
        · have := ho.trans e2
          simpa using this
        · have hs : s.err = 0 := Classical.byContradiction fun hne => e2.err hne he
          rcases List.mem_cons.1 hx with rfl | hx
          · exact givenV_mk hk fun hk0 => h ⟨hs, hk0⟩
          · exact e3 he x hx
        · rcases List.mem_cons.1 hx with rfl | hx
          · exact hk
          · exact e4 x hx
        · rcases List.mem_cons.1 hx with rfl | hx
          · exact hi o
          · exact e5 (ho.ok o) x hx
theorem nameOk_size {s : ByteArray} (h : nameOk s = true) : s.size ≤ 16 := by
  unfold nameOk at h; rw [Bool.and_eq_true] at h; exact of_decide_eq_true h.2
theorem Req.check_iff (q : Req) : q.check = 0 ↔ 0 ≤ q.client ∧ q.client < 64 ∧ nameOk q.name = true ∧ q.args.length ≤ 8 ∧ ∀ v ∈ q.args, givenV v = true := by
  unfold Req.check
  constructor
  · intro h
    split at h
    · cases h
    · split at h
      · cases h
      · split at h
        · cases h
        · split at h
          · cases h
          · rename_i h1 h2 h3 h4
            exact ⟨by omega, by omega, by simpa using h2, by omega, by simpa using h4⟩
  · rintro ⟨h1, h2, h3, h4, h5⟩
    rw [if_neg (by omega), if_neg (by rw [h3]; simp), if_neg (by omega), if_neg (by rw [List.all_eq_true.2 h5]; simp)]
theorem Val.bytes_length (v : Val) : v.bytes.length ≤ 75 := by
  by_cases h : v.ok = true
  · rcases Val.ok_cases h with rfl | ⟨-, e⟩ | ⟨-, e, h1, h2⟩
    · rw [val0_bytes]; simp
    · rw [e, int_bytes]
      have := uintB_length (zig v.num)
      simp; omega
    · rw [e, word_bytes _ h1 h2]
      have := uintB_length v.text.size
      simp [textB, bytesOf_length]; omega
  · have : v.bytes = [] := by unfold Val.bytes; rw [if_pos (by simpa using h)]
    rw [this]; simp
theorem args_length (l : List Val) : (l.flatMap Val.bytes).length ≤ 75 * l.length := by
  induction l with
  | nil => simp
  | cons v l ih => have := Val.bytes_length v; simp at ih ⊢; omega
theorem Req.bytes_length {q : Req} (h : q.check = 0) : q.bytes.length ≤ 700 := by
  obtain ⟨h1, h2, h3, h4, h5⟩ := (Req.check_iff q).1 h
  have a1 := uintB_length q.client.toNat
  have a2 := uintB_length q.token.toNat
  have a3 := uintB_length q.name.size
  have a4 := uintB_length q.args.length
  have a5 := args_length q.args
  have a6 := nameOk_size h3
  simp only [Req.bytes, textB, List.length_append, bytesOf_length]
  omega
theorem reqGet_bytes (q : Req) (h : q.check = 0) (hi : q.In) : reqGet q.bytes = (q, 0, 0) := by
  obtain ⟨h1, h2, h3, h4, h5⟩ := (Req.check_iff q).1 h
  have hlen := Req.bytes_length h
  have hns := nameOk_size h3
  have e0 : q.bytes = uintB q.client.toNat ++ (uintB q.token.toNat ++ (textB q.name ++ (uintB q.args.length ++ (q.args.flatMap Val.bytes ++ [])))) := by simp [Req.bytes]
  have hs := sees_new q.bytes
  have hs' : (Rs.new q.bytes).Sees (uintB q.client.toNat ++ (uintB q.token.toNat ++ (textB q.name ++ (uintB q.args.length ++ (q.args.flatMap Val.bytes ++ []))))) := by rw [← e0]; exact hs
  obtain ⟨a1, a2⟩ := sees_count (most := 63) hs' (by omega) (by omega)
  have a1' : ((Rs.new q.bytes).count 63).1 = q.client.toNat := congrArg Prod.fst a1
  have a2' : ((Rs.new q.bytes).count 63).2.Sees _ := a2
  unfold reqGet
  rw [if_neg (by omega)]
  simp only []
  rw [a1']
  generalize ((Rs.new q.bytes).count 63).2 = r1 at a2' ⊢
  have ht := hi.t1
  have ht0 := hi.t0
  obtain ⟨b1, b2⟩ := sees_uint a2' (by omega)
  have b1' : r1.uint.1 = q.token.toNat := congrArg Prod.fst b1
  rw [b1']
  generalize r1.uint.2 = r2 at b2 ⊢
  obtain ⟨c1, c2⟩ := sees_text (most := 16) b2 (by omega) hns
  have c1' : (r2.text 16).1 = q.name := congrArg Prod.fst c1
  have c2' : (r2.text 16).2.Sees _ := c2
  rw [c1', h3]
  generalize (r2.text 16).2 = r3 at c2' ⊢
  simp only [if_true]
  obtain ⟨d1, d2⟩ := sees_count (most := 8) c2' (by omega) h4
  have d1' : (r3.count 8).1 = q.args.length := congrArg Prod.fst d1
  have d2' : (r3.count 8).2.Sees _ := d2
  rw [d1']
  generalize (r3.count 8).2 = r4 at d2' ⊢
  obtain ⟨r5, e1, e2⟩ := sees_args q.args [] r4 [] h5 hi.args d2'
  rw [e1]
  simp only []
  have hend : r5.end' = r5 := by
    unfold Rs.end'
    rw [if_neg]
    intro hh
    have := congrArg List.length e2.rest
    simp [Rs.rest] at this
    omega
  rw [hend, if_neg (by rw [e2.err]; simp), Int.toNat_of_nonneg h1, Int.toNat_of_nonneg ht0]
  rfl
theorem Req.In_req0 : req0.In := ⟨by decide, by decide, by decide, by decide, by simp [req0, mkReq, Req.args]⟩
theorem reqGet_ok {b : Bytes} (hA : AllB b) : (reqGet b).1.In ∧ (reqGet b).1.name.size ≤ 16 ∧ (∀ v ∈ (reqGet b).1.args, v.ok = true) ∧ 0 ≤ (reqGet b).2.1 ∧ (reqGet b).2.1 < 1000 ∧ (reqGet b).2.2 ≤ b.length ∧ ((reqGet b).2.1 = 0 → b = (reqGet b).1.bytes ∧ (reqGet b).1.check = 0) := by
  unfold reqGet
  split
  · exact ⟨Req.In_req0, by decide, by simp [req0, mkReq, Req.args], by simp, by simp, by simp, by simp⟩
  · rename_i hlen
    simp only []
    have o1 := over_count (Rs.new b) 63
    have l1 := count_le (Rs.new b) 63
    have l1' : ((Rs.new b).count 63).1 ≤ 63 := l1
    generalize ((Rs.new b).count 63).1 = c at o1 l1' ⊢
    generalize ((Rs.new b).count 63).2 = r1 at o1 ⊢
    clear l1
    have k1 := o1.ok (.new hA)
    have o2 := over_uint r1
    have l2 := uint_lt k1
    generalize r1.uint.1 = tk at o2 l2 ⊢
    generalize r1.uint.2 = r2 at o2 ⊢
    have k2 := o2.ok k1
    have bb2 : r2.b.length < 2 ^ 64 := by rw [o2.b, o1.b]; show b.length < _; omega
    have o3 := over_text r2 16 bb2
    have l3' : (r2.text 16).1.size ≤ 16 := text_le r2 16
    generalize (r2.text 16).1 = nm at o3 l3' ⊢
    generalize (r2.text 16).2 = r3 at o3 ⊢
    have k3 := o3.ok k2
    have o4 : r3.Over (if nameOk nm = true then r3 else r3.fail 90) [] := by
      split
      · exact .refl _
      · exact .fail _ (by omega) (by omega)
    have z4 : (if nameOk nm = true then r3 else r3.fail 90).err = 0 → nameOk nm = true := by
      split
      · intro; assumption
      · intro h; exact (Rs.fail_err (by omega) h).elim
    generalize (if nameOk nm = true then r3 else r3.fail 90) = r4 at o4 z4 ⊢
    have k4 := o4.ok k3
    have o5 := over_count r4 8
    have l5' : (r4.count 8).1 ≤ 8 := count_le r4 8
    generalize (r4.count 8).1 = n at o5 l5' ⊢
    generalize (r4.count 8).2 = r5 at o5 ⊢
    have k5 := o5.ok k4
    have oo := (((o1.trans o2).trans o3).trans o4).trans o5
    have hb5 : r5.b = b := oo.b
    rcases over_args n [] r5 (by rw [hb5]; omega) with ⟨a, e, ha⟩ | ⟨vs, r6, e, e1, e2, e3, e4, e5⟩
    · rw [e]
      simp only []
      exact ⟨Req.In_req0, by decide, by simp [req0, mkReq, Req.args], by simp, by simp, by have := ha k5; rwa [hb5] at this, by simp⟩
    · rw [e]
      simp only []
      have k6 := (e2.ok k5).end'
      have hb6 : r6.end'.b = b := by
        have : r6.end'.b = r6.b := by unfold Rs.end'; split <;> rfl
        rw [this, e2.b, hb5]
      split
      · refine ⟨Req.In_req0, by show (0 : Nat) ≤ 16; omega, by simp [req0, mkReq, Req.args], k6.err0, k6.err1, by have := k6.spot_le; rwa [hb6] at this, fun hh => ?_⟩
        rename_i hne; exact absurd hh hne
      · rename_i hne
        have hz : r6.end'.err = 0 := by simpa using hne
        have hz6 : r6.err = 0 := by
          unfold Rs.end' at hz; split at hz
          · exact absurd hz (by simp [Rs.fails])
          · exact hz
        have hfull : ¬ r6.at' < r6.b.length := by
          intro hh
          unfold Rs.end' at hz; rw [if_pos ⟨hz6, hh⟩] at hz; exact absurd hz (by simp [Rs.fails])
        have hin : (mkReq c tk nm vs).In := ⟨by show -9223372036854775808 ≤ ((c : Nat) : Int); omega, by show ((c : Nat) : Int) ≤ _; omega, by show (0 : Int) ≤ ((tk : Nat) : Int); omega, by show ((tk : Nat) : Int) < _; omega, e5 k5⟩
        simp only [List.nil_append]
        refine ⟨hin, l3', e4, by simp, by simp, by simp, fun _ => ?_⟩
        have hov := (oo.trans e2).over (.new hA) hz6
        have back : ∀ {a b : Rs} {x : Bytes}, a.Over b x → b.err = 0 → a.err = 0 := fun h k => Classical.byContradiction fun e => h.err e k
        have hnm := z4 (back o5 (back e2 hz6))
        have hr6 : r6.rest = [] := by unfold Rs.rest; exact List.drop_eq_nil_of_le (by omega)
        rw [hr6] at hov
        refine ⟨?_, ?_⟩
        · have hrest : (Rs.new b).rest = b := rfl
          rw [hrest] at hov
          rw [hov]
          simp [Req.bytes, mkReq, Req.client, Req.token, Req.name, Req.args, e1]
        · rw [Req.check_iff]
          refine ⟨by show (0 : Int) ≤ ((c : Nat) : Int); omega, by show ((c : Nat) : Int) < 64; omega, hnm, by show vs.length ≤ 8; omega, e3 hz6⟩
end Go.Proofs.YtpjcebajkfeacaaGreatDoor
