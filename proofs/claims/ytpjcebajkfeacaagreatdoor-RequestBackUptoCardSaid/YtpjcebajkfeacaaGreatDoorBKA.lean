/-
  Parts of what is proved for this claim; each declaration is one of the seat's texts.
-/
import Derived.Test.YtpjcebajkfeacaaGreatDoorBGA
import Derived.Test.YtpjcebajkfeacaaGreatDoorBGC
import Derived.Test.YtpjcebajkfeacaaGreatDoorBGD
import Derived.Test.YtpjcebajkfeacaaGreatDoorBHA
import Derived.Test.YtpjcebajkfeacaaGreatDoorBHG
import Derived.Test.YtpjcebajkfeacaaGreatDoorBHJ
import Derived.Lib.ParseIntB
set_option linter.unusedVariables false
set_option linter.unusedSimpArgs false
namespace Go.Proofs.YtpjcebajkfeacaaGreatDoor
open Go Go.RowKit Go.Deep
def dgt (c : UInt8) : Prop := 48 ≤ c.toNat ∧ c.toNat ≤ 57
instance (c : UInt8) : Decidable (dgt c) := by unfold dgt; exact inferInstance
def spell (l : List UInt8) : Nat := l.foldl (fun n c => n * 10 + (c.toNat - 48)) 0
theorem spell_snoc (l : List UInt8) (c : UInt8) : spell (l ++ [c]) = spell l * 10 + (c.toNat - 48) := by simp [spell]
def plainD (l : List UInt8) : Prop := (∀ c ∈ l, dgt c) ∧ l ≠ [] ∧ (l.head? = some 48 → l.length = 1)
theorem dec_rec (n : Nat) : Lib.decDigits n = if n < 10 then [UInt8.ofNat (48 + n)] else Lib.decDigits (n / 10) ++ [UInt8.ofNat (48 + n % 10)] := by
  rw [Lib.decDigits]
  split <;> rfl
theorem dg_nat {n : Nat} (h : n < 10) : (UInt8.ofNat (48 + n)).toNat = 48 + n := by
  rw [UInt8.toNat_ofNat']; omega
theorem dec_plain (n : Nat) : plainD (Lib.decDigits n) ∧ spell (Lib.decDigits n) = n ∧ (0 < n → (Lib.decDigits n).head? ≠ some 48) := by
  induction n using Nat.strongRecOn with
  | ind n ih =>
    rw [dec_rec]
    split
    · rename_i h
      have e := dg_nat h
      refine ⟨⟨fun c hc => ?_, by simp, fun _ => rfl⟩, ?_, fun h0 => ?_⟩
      · simp only [List.mem_singleton] at hc
        subst hc
        exact ⟨by omega, by omega⟩
      · show 0 * 10 + ((UInt8.ofNat (48 + n)).toNat - 48) = n; rw [e]; omega
      · simp only [List.head?_cons, ne_eq, Option.some.injEq]
        intro hh
        have := congrArg UInt8.toNat hh
        rw [e] at this
        simp at this
        omega
    · rename_i h
      obtain ⟨⟨h1, h2, h3⟩, h4, h5⟩ := ih (n / 10) (by omega)
      have e : (UInt8.ofNat (48 + n % 10)).toNat = 48 + n % 10 := dg_nat (by omega)
      have hd : (Lib.decDigits (n / 10) ++ [UInt8.ofNat (48 + n % 10)]).head? = (Lib.decDigits (n / 10)).head? := by
        cases hq : Lib.decDigits (n / 10) with
        | nil => exact absurd hq h2
        | cons a l => rfl
      refine ⟨⟨fun c hc => ?_, by simp, fun hh => ?_⟩, ?_, fun h0 => ?_⟩
      · rw [List.mem_append, List.mem_singleton] at hc
        rcases hc with hc | rfl
        · exact h1 c hc
        · exact ⟨by omega, by omega⟩
      · rw [hd] at hh
        exact absurd hh (h5 (by omega))
      · rw [spell_snoc, h4, e]; omega
      · rw [hd]; exact h5 (by omega)
theorem spell_pre (l m : List UInt8) : spell l ≤ spell (l ++ m) := by
  have : ∀ (m : List UInt8) (n : Nat), n ≤ m.foldl (fun n c => n * 10 + (c.toNat - 48)) n := by
    intro m
    induction m with
    | nil => intro n; exact Nat.le_refl _
    | cons a m ih => intro n; exact Nat.le_trans (by omega) (ih (n * 10 + (a.toNat - 48)))
  unfold spell
  rw [List.foldl_append]
  exact this m _
def wordL : List UInt8 → List UInt8 × List UInt8 × Bool
  | [] => ([], [], false)
  | c :: l => if c = 32 then ([], l, true) else (c :: (wordL l).1, (wordL l).2.1, (wordL l).2.2)
theorem wordL_app : ∀ (a b : List UInt8), (∀ c ∈ a, c ≠ 32) → wordL (a ++ 32 :: b) = (a, b, true)
  | [], b, _ => rfl
  | c :: a, b, h => by
    rw [List.cons_append, wordL, if_neg (h c (by simp)), wordL_app a b fun x hx => h x (by simp [hx])]
theorem wordL_none : ∀ (a : List UInt8), (∀ c ∈ a, c ≠ 32) → wordL a = (a, [], false)
  | [], _ => rfl
  | c :: a, h => by rw [wordL, if_neg (h c (by simp)), wordL_none a fun x hx => h x (by simp [hx])]
theorem dgt_ne {c : UInt8} (h : dgt c) : c ≠ 32 := fun e => by subst e; exact absurd h.1 (by decide)
theorem quoted_app (a b : List UInt8) : quoted (a ++ b) = quoted a ++ quoted b := by
  induction a with
  | nil => rfl
  | cons c a ih =>
    rw [List.cons_append]
    by_cases h : c = 34 ∨ c = 92
    · rw [quoted, if_pos h, quoted, if_pos h, ih]; rfl
    · rw [quoted, if_neg h, quoted, if_neg h, ih]; rfl
theorem quoted_next (r : List UInt8) (x : UInt8) (m : List UInt8) (rest : List UInt8) (h : quoted r ++ 34 :: rest = x :: m) :
    (x = 34 ∧ r = [] ∧ m = rest) ∨ (x = 92 ∧ ∃ d l, (d = 34 ∨ d = 92) ∧ r = d :: l ∧ m = d :: (quoted l ++ 34 :: rest)) ∨ (x ≠ 34 ∧ x ≠ 92 ∧ ∃ l, r = x :: l ∧ m = quoted l ++ 34 :: rest) := by
  cases r with
  | nil => simp only [quoted, List.nil_append, List.cons.injEq] at h; exact .inl ⟨h.1.symm, rfl, h.2.symm⟩
  | cons c l =>
    unfold quoted at h
    split at h
    · rename_i hc
      simp only [List.cons_append, List.cons.injEq] at h
      exact .inr (.inl ⟨h.1.symm, c, l, hc, rfl, h.2.symm⟩)
    · rename_i hc
      simp only [List.cons_append, List.cons.injEq] at h
      obtain ⟨rfl, h2⟩ := h
      exact .inr (.inr ⟨fun e => hc (.inl e), fun e => hc (.inr e), l, rfl, h2.symm⟩)
def Tx (s : List UInt8) (i : Nat) (t : List UInt8) : Prop := i ≤ s.length ∧ s.take i = 34 :: quoted t ∧ ∀ t0, s = 34 :: (quoted t0 ++ [34]) → ∃ r, t0 = t ++ r
theorem Tx.rest {s : List UInt8} {i : Nat} {t : List UInt8} (h : Tx s i t) (t0 : List UInt8) (h0 : s = 34 :: (quoted t0 ++ [34])) : ∃ r, t0 = t ++ r ∧ s.drop i = quoted r ++ [34] := by
  obtain ⟨r, hr⟩ := h.2.2 t0 h0
  refine ⟨r, hr, ?_⟩
  have e := List.take_append_drop i s
  rw [h.2.1] at e
  have e2 : 34 :: quoted t ++ List.drop i s = 34 :: quoted t ++ (quoted r ++ [34]) := by
    rw [e]
    conv => lhs; rw [h0, hr, quoted_app]
    simp
  exact List.append_cancel_left e2
theorem Tx.start {s : List UInt8} (h : s.head? = some 34) : Tx s 1 [] := by
  cases s with
  | nil => cases h
  | cons c l =>
    simp only [List.head?_cons, Option.some.injEq] at h
    subst h
    exact ⟨by simp, by simp [quoted], fun t0 _ => ⟨t0, rfl⟩⟩
theorem drop_cons {s : List UInt8} {i : Nat} (h : i < s.length) : s.drop i = s[i] :: s.drop (i + 1) := List.drop_eq_getElem_cons h
theorem take_succ' {s : List UInt8} {i : Nat} (h : i < s.length) : s.take (i + 1) = s.take i ++ [s[i]] := by rw [List.take_succ_eq_append_getElem h]
theorem Tx.over {s : List UInt8} {i : Nat} {t : List UInt8} (h : Tx s i t) (hi : s.length ≤ i) (t0 : List UInt8) : s ≠ 34 :: (quoted t0 ++ [34]) := fun h0 => by
  obtain ⟨r, -, e⟩ := h.rest t0 h0
  rw [List.drop_of_length_le hi] at e
  cases hq : quoted r <;> rw [hq] at e <;> cases e
theorem Tx.mark {s : List UInt8} {i : Nat} {t : List UInt8} (h : Tx s i t) (hi : i < s.length) (hc : s[i] = 34) : (s.length = i + 1 → s = 34 :: (quoted t ++ [34])) ∧ ∀ t0, s = 34 :: (quoted t0 ++ [34]) → t0 = t ∧ s.length = i + 1 := by
  refine ⟨fun hl => ?_, fun t0 h0 => ?_⟩
  · have e := take_succ' hi
    rw [List.take_of_length_le (by omega), h.2.1, hc] at e
    exact e
  · obtain ⟨r, hr, e⟩ := h.rest t0 h0
    rw [drop_cons hi] at e
    rcases quoted_next r _ _ [] e.symm with ⟨-, h2, h3⟩ | ⟨h1, -⟩ | ⟨h1, -⟩
    · subst h2
      refine ⟨by rw [hr, List.append_nil], ?_⟩
      have := congrArg List.length h3
      simp at this
      omega
    · rw [hc] at h1; cases h1
    · exact absurd hc h1
theorem Tx.slash {s : List UInt8} {i : Nat} {t : List UInt8} (h : Tx s i t) (hi : i + 1 < s.length) (hc : s[i] = 92) (hd : s[i + 1] = 34 ∨ s[i + 1] = 92) : Tx s (i + 2) (t ++ [s[i + 1]]) := by
  refine ⟨by omega, ?_, fun t0 h0 => ?_⟩
  · rw [take_succ' hi, take_succ' (by omega), h.2.1, hc, quoted_app]
    have : quoted [s[i + 1]] = [92, s[i + 1]] := by unfold quoted; rw [if_pos hd]; rfl
    rw [this]
    simp
  · obtain ⟨r, hr, e⟩ := h.rest t0 h0
    rw [drop_cons (by omega), drop_cons hi] at e
    rcases quoted_next r _ _ [] e.symm with ⟨h1, -⟩ | ⟨-, d, l, -, h2, h3⟩ | ⟨-, h1, -⟩
    · rw [hc] at h1; cases h1
    · simp only [List.cons.injEq] at h3
      exact ⟨l, by rw [hr, h2, h3.1]; simp⟩
    · exact absurd hc h1
theorem Tx.noslash {s : List UInt8} {i : Nat} {t : List UInt8} (h : Tx s i t) (hi : i < s.length) (hc : s[i] = 92) (hd : ∀ h2 : i + 1 < s.length, s[i + 1] ≠ 34 ∧ s[i + 1] ≠ 92) (t0 : List UInt8) : s ≠ 34 :: (quoted t0 ++ [34]) := fun h0 => by
  obtain ⟨r, hr, e⟩ := h.rest t0 h0
  rw [drop_cons hi] at e
  rcases quoted_next r _ _ [] e.symm with ⟨h1, -⟩ | ⟨-, d, l, h4, h2, h3⟩ | ⟨-, h1, -⟩
  · rw [hc] at h1; cases h1
  · by_cases h2 : i + 1 < s.length
    · rw [drop_cons h2] at h3
      simp only [List.cons.injEq] at h3
      rw [← h3.1] at h4
      rcases h4 with h4 | h4
      · exact (hd h2).1 h4
      · exact (hd h2).2 h4
    · rw [List.drop_of_length_le (by omega)] at h3; cases h3
  · exact absurd hc h1
theorem Tx.letter {s : List UInt8} {i : Nat} {t : List UInt8} (h : Tx s i t) (hi : i < s.length) (h1 : s[i] ≠ 34) (h2 : s[i] ≠ 92) : Tx s (i + 1) (t ++ [s[i]]) := by
  refine ⟨by omega, ?_, fun t0 h0 => ?_⟩
  · rw [take_succ' hi, h.2.1, quoted_app]
    have : quoted [s[i]] = [s[i]] := by unfold quoted; rw [if_neg (fun hh => hh.elim h1 h2)]; rfl
    rw [this]
    simp
  · obtain ⟨r, hr, e⟩ := h.rest t0 h0
    rw [drop_cons hi] at e
    rcases quoted_next r _ _ [] e.symm with ⟨h3, -⟩ | ⟨h3, -⟩ | ⟨-, -, l, h3, -⟩
    · exact absurd h3 h1
    · exact absurd h3 h2
    · exact ⟨l, by rw [hr, h3]; simp⟩
theorem Tx.more {s : List UInt8} {i : Nat} {t : List UInt8} (h : Tx s i t) (hi : i < s.length) (h1 : s[i] ≠ 34) (t0 : List UInt8) (h0 : s = 34 :: (quoted t0 ++ [34])) : t.length < t0.length ∧ ((s[i] ≠ 92) → s[i] ∈ t0) := by
  obtain ⟨r, hr, e⟩ := h.rest t0 h0
  rw [drop_cons hi] at e
  rcases quoted_next r _ _ [] e.symm with ⟨h3, -⟩ | ⟨h3, d, l, -, h4, -⟩ | ⟨-, -, l, h4, -⟩
  · exact absurd h3 h1
  · exact ⟨by rw [hr, h4]; simp, fun h => absurd h3 h⟩
  · exact ⟨by rw [hr, h4]; simp, fun _ => by rw [hr, h4]; simp⟩
def Lx (s : List UInt8) (i : Nat) : Prop := ∀ t0 rest, s = 34 :: (quoted t0 ++ 34 :: rest) → ∃ r, s.drop i = quoted r ++ 34 :: rest
theorem Lx.start (s : List UInt8) : Lx s 1 := fun t0 rest h => ⟨t0, by rw [h]; rfl⟩
theorem Lx.over {s : List UInt8} {i : Nat} (h : Lx s i) (hi : s.length ≤ i) (t0 rest : List UInt8) : s ≠ 34 :: (quoted t0 ++ 34 :: rest) := fun h0 => by
  obtain ⟨r, e⟩ := h t0 rest h0
  rw [List.drop_of_length_le hi] at e
  cases hq : quoted r <;> rw [hq] at e <;> cases e
theorem Lx.mark {s : List UInt8} {i : Nat} (h : Lx s i) (hi : i < s.length) (hc : s[i] = 34) (t0 rest : List UInt8) (h0 : s = 34 :: (quoted t0 ++ 34 :: rest)) : s.take (i + 1) = 34 :: (quoted t0 ++ [34]) ∧ s.drop (i + 1) = rest := by
  obtain ⟨r, e⟩ := h t0 rest h0
  have e2 := e
  rw [drop_cons hi] at e
  rcases quoted_next r _ _ rest e.symm with ⟨-, -, h3⟩ | ⟨h1, -⟩ | ⟨h1, -⟩
  · refine ⟨?_, h3⟩
    have e3 := List.take_append_drop (i + 1) s
    rw [h3] at e3
    have e5 : s = (34 :: (quoted t0 ++ [34])) ++ rest := by rw [h0]; simp
    have e4 : s.take (i + 1) ++ rest = (34 :: (quoted t0 ++ [34])) ++ rest := e3.trans e5
    exact List.append_cancel_right e4
  · rw [hc] at h1; cases h1
  · exact absurd hc h1
theorem Lx.slash {s : List UInt8} {i : Nat} (h : Lx s i) (hi : i < s.length) (hc : s[i] = 92) : Lx s (i + 2) := fun t0 rest h0 => by
  obtain ⟨r, e⟩ := h t0 rest h0
  rw [drop_cons hi] at e
  rcases quoted_next r _ _ rest e.symm with ⟨h1, -⟩ | ⟨-, d, l, -, -, h3⟩ | ⟨-, h1, -⟩
  · rw [hc] at h1; cases h1
  · refine ⟨l, ?_⟩
    have : s.drop (i + 2) = (s.drop (i + 1)).drop 1 := by rw [List.drop_drop]
    rw [this, h3]
    rfl
  · exact absurd hc h1
theorem Lx.letter {s : List UInt8} {i : Nat} (h : Lx s i) (hi : i < s.length) (h1 : s[i] ≠ 34) (h2 : s[i] ≠ 92) : Lx s (i + 1) := fun t0 rest h0 => by
  obtain ⟨r, e⟩ := h t0 rest h0
  rw [drop_cons hi] at e
  rcases quoted_next r _ _ rest e.symm with ⟨h3, -⟩ | ⟨h3, -⟩ | ⟨-, -, l, -, h3⟩
  · exact absurd h3 h1
  · exact absurd h3 h2
  · exact ⟨l, h3⟩
theorem spell_from (n : Nat) (m : List UInt8) : n ≤ m.foldl (fun n c => n * 10 + (c.toNat - 48)) n := by
  induction m generalizing n with
  | nil => exact Nat.le_refl _
  | cons a m ih => exact Nat.le_trans (by omega) (ih (n * 10 + (a.toNat - 48)))
theorem parseU_ok (M : Nat) (hM : M < 18446744073709551616) : ∀ (l : List UInt8) (acc : Nat), (∀ c ∈ l, dgt c) → l.foldl (fun n c => n * 10 + (c.toNat - 48)) acc ≤ M → Lib.parseUintM M acc l = .ok (l.foldl (fun n c => n * 10 + (c.toNat - 48)) acc)
  | [], acc, _, _ => rfl
  | c :: l, acc, h, hl => by
    have hs := spell_from (acc * 10 + (c.toNat - 48)) l
    have hl' : l.foldl (fun n c => n * 10 + (c.toNat - 48)) (acc * 10 + (c.toNat - 48)) ≤ M := hl
    rw [Lib.parseUintM, if_pos (show 48 ≤ c.toNat ∧ c.toNat ≤ 57 from h c (by simp)), if_neg (by omega), if_neg (by omega), parseU_ok M hM l _ (fun x hx => h x (by simp [hx])) hl']
    rfl
theorem parseU_dec (B : Nat) (hB : B ≤ 64) (n : Nat) (hn : n < 2 ^ B) : Lib.parseUintB B (Lib.decDigits n) = .ok n := by
  obtain ⟨⟨h1, h2, -⟩, h3, -⟩ := dec_plain n
  have hp : 2 ^ B ≤ 2 ^ 64 := Nat.pow_le_pow_right (by decide) hB
  have h3' : (Lib.decDigits n).foldl (fun n c => n * 10 + (c.toNat - 48)) 0 = n := h3
  unfold Lib.parseUintB
  rw [if_neg h2, parseU_ok (2 ^ B - 1) (by omega) _ _ h1 (by rw [h3']; omega), h3']
theorem parseI_itoa (n : Int) (h0 : -9223372036854775808 ≤ n) (h1 : n ≤ 9223372036854775807) : Lib.parseIntB 64 (Lib.itoa n) = .ok n := by
  unfold Lib.itoa
  by_cases hn : n < 0
  · rw [if_pos hn]
    unfold Lib.parseIntB
    have e : (45 : UInt8).toNat = 45 := rfl
    simp only [e]
    rw [if_pos (.inr trivial), parseU_dec 64 (Nat.le_refl _) _ (by omega)]
    simp only [not_true, false_and, if_false, true_and, if_true]
    rw [if_neg (by omega)]
    congr 1
    omega
  · rw [if_neg hn]
    obtain ⟨⟨h2, h3, -⟩, -, -⟩ := dec_plain n.toNat
    have hp := parseU_dec 64 (Nat.le_refl _) n.toNat (by omega)
    cases hq : Lib.decDigits n.toNat with
    | nil => exact absurd hq h3
    | cons c r =>
      have hc := h2 c (by rw [hq]; simp)
      have c1 := hc.1
      unfold Lib.parseIntB
      simp only
      rw [if_neg (by omega), ← hq, hp]
      have e1 : ¬ c.toNat = 45 := by omega
      simp only [e1, not_false_eq_true, true_and, false_and, if_false]
      rw [if_neg (by omega)]
      congr 1
      omega
end Go.Proofs.YtpjcebajkfeacaaGreatDoor
namespace Go.Proofs.YtpjcebajkfeacaaGreatDoor
open Go Go.RowKit Go.Deep
def VpC (s : List UInt8) (v : Val) (e : Int) : Prop := ∀ v0 : Val, v0.ok = true → v0.In → s = v0.print → e = 0 ∧ v = v0
def tailP (l : List Val) : List UInt8 := l.flatMap fun v => 32 :: v.print
def restP (l : List Val) : List UInt8 := (tailP l).drop 1
theorem tailP_cons (v : Val) (l : List Val) : tailP (v :: l) = 32 :: (v.print ++ tailP l) := rfl
theorem restP_cons (v : Val) (l : List Val) : restP (v :: l) = v.print ++ tailP l := rfl
theorem tailP_form (l : List Val) : tailP l = [] ∨ tailP l = 32 :: restP l := by cases l with | nil => exact .inl rfl | cons v l => exact .inr rfl
theorem tailP_nil {l : List Val} (h : tailP l = []) : l = [] := by cases l with | nil => rfl | cons v l => cases h
theorem join_tail (x : List UInt8) (l : List (List UInt8)) : Lib.join (x :: l) [32] = x ++ l.flatMap fun y => 32 :: y := by
  induction l generalizing x with
  | nil => simp [Lib.join, List.intercalate, List.intersperse]
  | cons y l ih =>
    have e : Lib.join (x :: y :: l) [32] = x ++ (32 :: Lib.join (y :: l) [32]) := by simp [Lib.join, List.intercalate, List.intersperse]
    rw [e, ih]
    simp
theorem print_eq (q : Req) : q.print = Lib.itoa q.client ++ 32 :: (Lib.itoa q.token ++ 32 :: (q.name.data.toList ++ tailP q.args)) := by
  unfold Req.print
  rw [join_tail]
  simp [tailP, List.flatMap_map]
theorem itoa_letters (n : Int) : (∀ c ∈ Lib.itoa n, c ≠ 32 ∧ c ≠ 34) ∧ Lib.itoa n ≠ [] := by
  have hd : ∀ m, (∀ c ∈ Lib.decDigits m, c ≠ 32 ∧ c ≠ 34) ∧ Lib.decDigits m ≠ [] := fun m => by
    obtain ⟨⟨h1, h2, -⟩, -⟩ := dec_plain m
    exact ⟨fun c hc => ⟨dgt_ne (h1 c hc), fun e => by have := (h1 c hc).1; rw [e] at this; exact absurd this (by decide)⟩, h2⟩
  unfold Lib.itoa
  split
  · refine ⟨fun c hc => ?_, by simp⟩
    rw [List.mem_cons] at hc
    rcases hc with rfl | hc
    · decide
    · exact (hd _).1 c hc
  · exact hd _
theorem name_letters {s : ByteArray} (h : nameOk s = true) : (∀ c ∈ s.data.toList, c ≠ 32) ∧ s.data.toList ≠ [] := by
  unfold nameOk at h
  rw [Bool.and_eq_true] at h
  have h1 := h.1
  split at h1
  · cases h1
  · rename_i c l hb
    have hc : ∀ x ∈ bytesOf s, x ≠ 32 := fun x hx => by
      rw [hb, List.mem_cons] at hx
      simp only [Bool.and_eq_true, decide_eq_true_eq, List.all_eq_true, Bool.or_eq_true] at h1
      rcases hx with rfl | hx
      · omega
      · have := h1.2 x hx; omega
    refine ⟨fun c hc' e => hc (c.toNat : Int) (List.mem_map.2 ⟨c, hc', rfl⟩) (by rw [e]; rfl), fun e => ?_⟩
    unfold bytesOf at hb
    rw [e] at hb
    cases hb
theorem print_form {v : Val} (h : givenV v = true) : (v.kind = 1 ∧ v.print = Lib.itoa v.num) ∨ (v.kind = 2 ∧ v.print = 34 :: (quoted v.text.data.toList ++ [34])) := by
  obtain ⟨h1, h2, h3⟩ := given_kinds h
  have hk : v.kind = 1 ∨ v.kind = 2 := by
    unfold Val.ok at h1
    rw [if_neg h2] at h1
    split at h1
    · exact .inl (by assumption)
    · split at h1
      · exact .inr (by assumption)
      · cases h1
  rcases hk with e | e
  · exact .inl ⟨e, by unfold Val.print; rw [if_pos e]⟩
  · exact .inr ⟨e, by unfold Val.print; rw [if_neg (by omega), if_neg (by omega)]⟩
theorem print_ne {v : Val} (h : givenV v = true) : v.print ≠ [] := by
  rcases print_form h with ⟨-, e⟩ | ⟨-, e⟩ <;> rw [e]
  · exact (itoa_letters _).2
  · simp
def LitC (s a r : List UInt8) : Prop := ∀ (v0 : Val) (t : List UInt8), givenV v0 = true → s = v0.print ++ t → (t = [] ∨ ∃ t', t = 32 :: t') → a = v0.print ∧ r = t.drop 1
theorem LitC.word {s : List UInt8} (h : s.head? ≠ some 34) : LitC s (wordL s).1 (wordL s).2.1 ∧ ∀ (v0 : Val) (t : List UInt8), givenV v0 = true → s = v0.print ++ t → (t = [] ∨ ∃ t', t = 32 :: t') → (wordL s).2.2 = decide (t ≠ []) := by
  have key : ∀ (v0 : Val) (t : List UInt8), givenV v0 = true → s = v0.print ++ t → (t = [] ∨ ∃ t', t = 32 :: t') → wordL s = (v0.print, t.drop 1, decide (t ≠ [])) := fun v0 t hv hs ht => by
    have hno : ∀ c ∈ v0.print, c ≠ 32 := by
      rcases print_form hv with ⟨-, e⟩ | ⟨-, e⟩
      · rw [e]; exact fun c hc => ((itoa_letters _).1 c hc).1
      · rw [hs, e] at h; exact absurd rfl h
    rcases ht with rfl | ⟨t', rfl⟩
    · rw [hs, List.append_nil, wordL_none _ hno]; simp
    · rw [hs, wordL_app _ _ hno]; simp
  exact ⟨fun v0 t hv hs ht => by rw [key v0 t hv hs ht]; exact ⟨rfl, rfl⟩, fun v0 t hv hs ht => by rw [key v0 t hv hs ht]⟩
theorem LitC.text {s : List UInt8} {i : Nat} (h : Lx s i) (hi : i < s.length) (hc : s[i] = 34) (h0 : s.head? = some 34) : ∀ (v0 : Val) (t : List UInt8), givenV v0 = true → s = v0.print ++ t → s.take (i + 1) = v0.print ∧ s.drop (i + 1) = t := fun v0 t hv hs => by
  rcases print_form hv with ⟨-, e⟩ | ⟨-, e⟩
  · rw [hs] at h0
    have := (itoa_letters v0.num)
    rw [e] at h0
    cases hq : Lib.itoa v0.num with
    | nil => exact absurd hq this.2
    | cons c l => rw [hq] at h0; simp at h0; exact absurd h0 (this.1 c (by rw [hq]; simp)).2
  · have hs2 : s = 34 :: (quoted v0.text.data.toList ++ 34 :: t) := by rw [hs, e]; simp
    rw [e]
    exact h.mark hi hc _ _ hs2
theorem LitC.never {s : List UInt8} {i : Nat} (h : Lx s i) (hi : s.length ≤ i) (h0 : s.head? = some 34) (v0 : Val) (t : List UInt8) (hv : givenV v0 = true) : s ≠ v0.print ++ t := fun hs => by
  rcases print_form hv with ⟨-, e⟩ | ⟨-, e⟩
  · rw [hs] at h0
    have := (itoa_letters v0.num)
    rw [e] at h0
    cases hq : Lib.itoa v0.num with
    | nil => exact absurd hq this.2
    | cons c l => rw [hq] at h0; simp at h0; exact absurd h0 (this.1 c (by rw [hq]; simp)).2
  · exact h.over hi v0.text.data.toList t (by rw [hs, e]; simp)
structure Req.Fine (q : Req) : Prop where
  ck : q.check = 0
  t0 : 0 ≤ q.token
  t1 : q.token < 18446744073709551616
  args : ∀ v ∈ q.args, v.In
theorem Req.Fine.parts {q : Req} (h : q.Fine) : 0 ≤ q.client ∧ q.client < 64 ∧ nameOk q.name = true ∧ q.args.length ≤ 8 ∧ ∀ v ∈ q.args, givenV v = true := by
  have hc := (Req.check_iff q).1 h.ck
  exact hc
def RpIs (s : List UInt8) (q : Req) (e : Int) : Prop := (e = 0 → q.check = 0 ∧ s = q.print) ∧ (e ≠ 0 → e = 2 ∧ q = req0) ∧ ∀ q0 : Req, q0.Fine → s = q0.print → e = 0 ∧ q = q0
end Go.Proofs.YtpjcebajkfeacaaGreatDoor
