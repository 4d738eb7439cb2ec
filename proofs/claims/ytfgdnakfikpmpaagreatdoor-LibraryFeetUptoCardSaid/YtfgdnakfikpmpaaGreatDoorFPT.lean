/-
  Parts of what is proved for this claim; each declaration is one of the seat's texts.
-/
import Derived.Test.YtfgdnakfikpmpaaGreatDoorFGQ
import Derived.Test.YtfgdnakfikpmpaaGreatDoorFPF
import Derived.Lib.ParseIntB
set_option linter.unusedVariables false
set_option linter.unusedSimpArgs false
namespace Go.Proofs.YtfgdnakfikpmpaaGreatDoor
open Go Go.RowKit Go.Deep
def dgt (c : UInt8) : Prop := 48 ≤ c.toNat ∧ c.toNat ≤ 57
instance (c : UInt8) : Decidable (dgt c) := by unfold dgt; exact inferInstance
def spell (l : List UInt8) : Nat := l.foldl (fun n c => n * 10 + (c.toNat - 48)) 0
theorem spell_snoc (l : List UInt8) (c : UInt8) : spell (l ++ [c]) = spell l * 10 + (c.toNat - 48) := by simp [spell]
def plainD (l : List UInt8) : Prop := (∀ c ∈ l, dgt c) ∧ l ≠ [] ∧ (l.head? = some 48 → l.length = 1)
theorem dec_rec (n : Nat) : Lib.decDigits n = if n < 10 then [UInt8.ofNat (48 + n)] else Lib.decDigits (n / 10) ++ [UInt8.ofNat (48 + n % 10)] := by
  rw [Lib.decDigits]
  split <;> rfl
theorem dg_nat {n : Nat} (h : n < 10) : (UInt8.ofNat (48 + n)).toNat = 48 + n := by
  rw [UInt8.toNat_ofNat']; omega
theorem dec_plain (n : Nat) : plainD (Lib.decDigits n) ∧ spell (Lib.decDigits n) = n ∧ (0 < n → (Lib.decDigits n).head? ≠ some 48) := by
  induction n using Nat.strongRecOn with
  | ind n ih =>
    rw [dec_rec]
    split
    · rename_i h
      have e := dg_nat h
      refine ⟨⟨fun c hc => ?_, by simp, fun _ => rfl⟩, ?_, fun h0 => ?_⟩
      · simp only [List.mem_singleton] at hc
        subst hc
        exact ⟨by omega, by omega⟩
      · show 0 * 10 + ((UInt8.ofNat (48 + n)).toNat - 48) = n; rw [e]; omega
      · simp only [List.head?_cons, ne_eq, Option.some.injEq]
        intro hh
        have := congrArg UInt8.toNat hh
        rw [e] at this
        simp at this
        omega
    · rename_i h
      obtain ⟨⟨h1, h2, h3⟩, h4, h5⟩ := ih (n / 10) (by omega)
      have e : (UInt8.ofNat (48 + n % 10)).toNat = 48 + n % 10 := dg_nat (by omega)
      have hd : (Lib.decDigits (n / 10) ++ [UInt8.ofNat (48 + n % 10)]).head? = (Lib.decDigits (n / 10)).head? := by
        cases hq : Lib.decDigits (n / 10) with
        | nil => exact absurd hq h2
        | cons a l => rfl
      refine ⟨⟨fun c hc => ?_, by simp, fun hh => ?_⟩, ?_, fun h0 => ?_⟩
      · rw [List.mem_append, List.mem_singleton] at hc
        rcases hc with hc | rfl
        · exact h1 c hc
        · exact ⟨by omega, by omega⟩
      · rw [hd] at hh
        exact absurd hh (h5 (by omega))
      · rw [spell_snoc, h4, e]; omega
      · rw [hd]; exact h5 (by omega)
theorem dec_spell : ∀ (k : Nat) (l : List UInt8), l.length = k + 1 → plainD l → Lib.decDigits (spell l) = l ∧ (0 < k → 0 < spell l)
  | 0, l, hk, h => by
    match l, hk with
    | [c], _ =>
      obtain ⟨h1, h2⟩ := h.1 c (by simp)
      have e : spell [c] = c.toNat - 48 := by simp [spell]
      rw [e, dec_rec, if_pos (by omega)]
      refine ⟨?_, fun hh => absurd hh (Nat.lt_irrefl _)⟩
      rw [show 48 + (c.toNat - 48) = c.toNat by omega, UInt8.ofNat_toNat]
  | k + 1, l, hk, h => by
    obtain ⟨m, c, rfl⟩ : ∃ m c, l = m ++ [c] := ⟨l.dropLast, l.getLast (by intro e; rw [e] at hk; cases hk), (List.dropLast_concat_getLast _).symm⟩
    have hm : m.length = k + 1 := by simpa using hk
    have hne : m ≠ [] := by intro e; rw [e] at hm; cases hm
    have hhd : (m ++ [c]).head? = m.head? := by cases m with | nil => exact absurd rfl hne | cons a t => rfl
    have hz : m.head? ≠ some 48 := fun e => by
      have := h.2.2 (by rw [hhd]; exact e)
      rw [hk] at this; omega
    have hp : plainD m := ⟨fun x hx => h.1 x (by simp [hx]), hne, fun e => absurd e hz⟩
    obtain ⟨ih1, ih2⟩ := dec_spell k m hm hp
    obtain ⟨h1, h2⟩ := h.1 c (by simp)
    have hpos : 0 < spell m := by
      by_cases hk0 : 0 < k
      · exact ih2 hk0
      · match m, hm with
        | [a], _ =>
          have ha := h.1 a (by simp)
          have e : spell [a] = a.toNat - 48 := by simp [spell]
          rw [e]
          have : a.toNat ≠ 48 := fun ee => hz (by
            show some a = some 48
            congr 1
            exact UInt8.toNat_inj.1 ee)
          have := ha.1
          omega
        | a :: b :: t, hm => simp at hm; omega
    rw [spell_snoc]
    refine ⟨?_, fun _ => by omega⟩
    rw [dec_rec, if_neg (by omega), show (spell m * 10 + (c.toNat - 48)) / 10 = spell m by omega, ih1, show (spell m * 10 + (c.toNat - 48)) % 10 = c.toNat - 48 by omega, show 48 + (c.toNat - 48) = c.toNat by omega, UInt8.ofNat_toNat]
theorem dec_of (l : List UInt8) (h : plainD l) : Lib.decDigits (spell l) = l := by
  have : l ≠ [] := h.2.1
  obtain ⟨k, hk⟩ : ∃ k, l.length = k + 1 := ⟨l.length - 1, by have := List.length_pos_iff.2 this; omega⟩
  exact (dec_spell k l hk h).1
theorem dgt_ne {c : UInt8} (h : dgt c) : c ≠ 32 := fun e => by subst e; exact absurd h.1 (by decide)
theorem quoted_app (a b : List UInt8) : quoted (a ++ b) = quoted a ++ quoted b := by
  induction a with
  | nil => rfl
  | cons c a ih =>
    rw [List.cons_append]
    by_cases h : c = 34 ∨ c = 92
    · rw [quoted, if_pos h, quoted, if_pos h, ih]; rfl
    · rw [quoted, if_neg h, quoted, if_neg h, ih]; rfl
theorem quoted_next (r : List UInt8) (x : UInt8) (m : List UInt8) (rest : List UInt8) (h : quoted r ++ 34 :: rest = x :: m) :
    (x = 34 ∧ r = [] ∧ m = rest) ∨ (x = 92 ∧ ∃ d l, (d = 34 ∨ d = 92) ∧ r = d :: l ∧ m = d :: (quoted l ++ 34 :: rest)) ∨ (x ≠ 34 ∧ x ≠ 92 ∧ ∃ l, r = x :: l ∧ m = quoted l ++ 34 :: rest) := by
  cases r with
  | nil => simp only [quoted, List.nil_append, List.cons.injEq] at h; exact .inl ⟨h.1.symm, rfl, h.2.symm⟩
  | cons c l =>
    unfold quoted at h
    split at h
    · rename_i hc
      simp only [List.cons_append, List.cons.injEq] at h
      exact .inr (.inl ⟨h.1.symm, c, l, hc, rfl, h.2.symm⟩)
    · rename_i hc
      simp only [List.cons_append, List.cons.injEq] at h
      obtain ⟨rfl, h2⟩ := h
      exact .inr (.inr ⟨fun e => hc (.inl e), fun e => hc (.inr e), l, rfl, h2.symm⟩)
def Tx (s : List UInt8) (i : Nat) (t : List UInt8) : Prop := i ≤ s.length ∧ s.take i = 34 :: quoted t ∧ ∀ t0, s = 34 :: (quoted t0 ++ [34]) → ∃ r, t0 = t ++ r
theorem Tx.rest {s : List UInt8} {i : Nat} {t : List UInt8} (h : Tx s i t) (t0 : List UInt8) (h0 : s = 34 :: (quoted t0 ++ [34])) : ∃ r, t0 = t ++ r ∧ s.drop i = quoted r ++ [34] := by
  obtain ⟨r, hr⟩ := h.2.2 t0 h0
  refine ⟨r, hr, ?_⟩
  have e := List.take_append_drop i s
  rw [h.2.1] at e
  have e2 : 34 :: quoted t ++ List.drop i s = 34 :: quoted t ++ (quoted r ++ [34]) := by
    rw [e]
    conv => lhs; rw [h0, hr, quoted_app]
    simp
  exact List.append_cancel_left e2
theorem Tx.start {s : List UInt8} (h : s.head? = some 34) : Tx s 1 [] := by
  cases s with
  | nil => cases h
  | cons c l =>
    simp only [List.head?_cons, Option.some.injEq] at h
    subst h
    exact ⟨by simp, by simp [quoted], fun t0 _ => ⟨t0, rfl⟩⟩
theorem drop_cons {s : List UInt8} {i : Nat} (h : i < s.length) : s.drop i = s[i] :: s.drop (i + 1) := List.drop_eq_getElem_cons h
theorem take_succ' {s : List UInt8} {i : Nat} (h : i < s.length) : s.take (i + 1) = s.take i ++ [s[i]] := by rw [List.take_succ_eq_append_getElem h]
theorem Tx.over {s : List UInt8} {i : Nat} {t : List UInt8} (h : Tx s i t) (hi : s.length ≤ i) (t0 : List UInt8) : s ≠ 34 :: (quoted t0 ++ [34]) := fun h0 => by
  obtain ⟨r, -, e⟩ := h.rest t0 h0
  rw [List.drop_of_length_le hi] at e
  cases hq : quoted r <;> rw [hq] at e <;> cases e
theorem Tx.mark {s : List UInt8} {i : Nat} {t : List UInt8} (h : Tx s i t) (hi : i < s.length) (hc : s[i] = 34) : (s.length = i + 1 → s = 34 :: (quoted t ++ [34])) ∧ ∀ t0, s = 34 :: (quoted t0 ++ [34]) → t0 = t ∧ s.length = i + 1 := by
  refine ⟨fun hl => ?_, fun t0 h0 => ?_⟩
  · have e := take_succ' hi
    rw [List.take_of_length_le (by omega), h.2.1, hc] at e
    exact e
  · obtain ⟨r, hr, e⟩ := h.rest t0 h0
    rw [drop_cons hi] at e
    rcases quoted_next r _ _ [] e.symm with ⟨-, h2, h3⟩ | ⟨h1, -⟩ | ⟨h1, -⟩
    · subst h2
      refine ⟨by rw [hr, List.append_nil], ?_⟩
      have := congrArg List.length h3
      simp at this
      omega
    · rw [hc] at h1; cases h1
    · exact absurd hc h1
theorem Tx.slash {s : List UInt8} {i : Nat} {t : List UInt8} (h : Tx s i t) (hi : i + 1 < s.length) (hc : s[i] = 92) (hd : s[i + 1] = 34 ∨ s[i + 1] = 92) : Tx s (i + 2) (t ++ [s[i + 1]]) := by
  refine ⟨by omega, ?_, fun t0 h0 => ?_⟩
  · rw [take_succ' hi, take_succ' (by omega), h.2.1, hc, quoted_app]
    have : quoted [s[i + 1]] = [92, s[i + 1]] := by unfold quoted; rw [if_pos hd]; rfl
    rw [this]
    simp
  · obtain ⟨r, hr, e⟩ := h.rest t0 h0
    rw [drop_cons (by omega), drop_cons hi] at e
    rcases quoted_next r _ _ [] e.symm with ⟨h1, -⟩ | ⟨-, d, l, -, h2, h3⟩ | ⟨-, h1, -⟩
    · rw [hc] at h1; cases h1
    · simp only [List.cons.injEq] at h3
      exact ⟨l, by rw [hr, h2, h3.1]; simp⟩
    · exact absurd hc h1
theorem Tx.noslash {s : List UInt8} {i : Nat} {t : List UInt8} (h : Tx s i t) (hi : i < s.length) (hc : s[i] = 92) (hd : ∀ h2 : i + 1 < s.length, s[i + 1] ≠ 34 ∧ s[i + 1] ≠ 92) (t0 : List UInt8) : s ≠ 34 :: (quoted t0 ++ [34]) := fun h0 => by
  obtain ⟨r, hr, e⟩ := h.rest t0 h0
  rw [drop_cons hi] at e
  rcases quoted_next r _ _ [] e.symm with ⟨h1, -⟩ | ⟨-, d, l, h4, h2, h3⟩ | ⟨-, h1, -⟩
  · rw [hc] at h1; cases h1
  · by_cases h2 : i + 1 < s.length
    · rw [drop_cons h2] at h3
      simp only [List.cons.injEq] at h3
      rw [← h3.1] at h4
      rcases h4 with h4 | h4
      · exact (hd h2).1 h4
      · exact (hd h2).2 h4
    · rw [List.drop_of_length_le (by omega)] at h3; cases h3
  · exact absurd hc h1
theorem Tx.letter {s : List UInt8} {i : Nat} {t : List UInt8} (h : Tx s i t) (hi : i < s.length) (h1 : s[i] ≠ 34) (h2 : s[i] ≠ 92) : Tx s (i + 1) (t ++ [s[i]]) := by
  refine ⟨by omega, ?_, fun t0 h0 => ?_⟩
  · rw [take_succ' hi, h.2.1, quoted_app]
    have : quoted [s[i]] = [s[i]] := by unfold quoted; rw [if_neg (fun hh => hh.elim h1 h2)]; rfl
    rw [this]
    simp
  · obtain ⟨r, hr, e⟩ := h.rest t0 h0
    rw [drop_cons hi] at e
    rcases quoted_next r _ _ [] e.symm with ⟨h3, -⟩ | ⟨h3, -⟩ | ⟨-, -, l, h3, -⟩
    · exact absurd h3 h1
    · exact absurd h3 h2
    · exact ⟨l, by rw [hr, h3]; simp⟩
theorem Tx.more {s : List UInt8} {i : Nat} {t : List UInt8} (h : Tx s i t) (hi : i < s.length) (h1 : s[i] ≠ 34) (t0 : List UInt8) (h0 : s = 34 :: (quoted t0 ++ [34])) : t.length < t0.length ∧ ((s[i] ≠ 92) → s[i] ∈ t0) := by
  obtain ⟨r, hr, e⟩ := h.rest t0 h0
  rw [drop_cons hi] at e
  rcases quoted_next r _ _ [] e.symm with ⟨h3, -⟩ | ⟨h3, d, l, -, h4, -⟩ | ⟨-, -, l, h4, -⟩
  · exact absurd h3 h1
  · exact ⟨by rw [hr, h4]; simp, fun h => absurd h3 h⟩
  · exact ⟨by rw [hr, h4]; simp, fun _ => by rw [hr, h4]; simp⟩
theorem spell_from (n : Nat) (m : List UInt8) : n ≤ m.foldl (fun n c => n * 10 + (c.toNat - 48)) n := by
  induction m generalizing n with
  | nil => exact Nat.le_refl _
  | cons a m ih => exact Nat.le_trans (by omega) (ih (n * 10 + (a.toNat - 48)))
theorem parseU_ok (M : Nat) (hM : M < 18446744073709551616) : ∀ (l : List UInt8) (acc : Nat), (∀ c ∈ l, dgt c) → l.foldl (fun n c => n * 10 + (c.toNat - 48)) acc ≤ M → Lib.parseUintM M acc l = .ok (l.foldl (fun n c => n * 10 + (c.toNat - 48)) acc)
  | [], acc, _, _ => rfl
  | c :: l, acc, h, hl => by
    have hs := spell_from (acc * 10 + (c.toNat - 48)) l
    have hl' : l.foldl (fun n c => n * 10 + (c.toNat - 48)) (acc * 10 + (c.toNat - 48)) ≤ M := hl
    rw [Lib.parseUintM, if_pos (show 48 ≤ c.toNat ∧ c.toNat ≤ 57 from h c (by simp)), if_neg (by omega), if_neg (by omega), parseU_ok M hM l _ (fun x hx => h x (by simp [hx])) hl']
    rfl
theorem parseU_dec (B : Nat) (hB : B ≤ 64) (n : Nat) (hn : n < 2 ^ B) : Lib.parseUintB B (Lib.decDigits n) = .ok n := by
  obtain ⟨⟨h1, h2, -⟩, h3, -⟩ := dec_plain n
  have hp : 2 ^ B ≤ 2 ^ 64 := Nat.pow_le_pow_right (by decide) hB
  have h3' : (Lib.decDigits n).foldl (fun n c => n * 10 + (c.toNat - 48)) 0 = n := h3
  unfold Lib.parseUintB
  rw [if_neg h2, parseU_ok (2 ^ B - 1) (by omega) _ _ h1 (by rw [h3']; omega), h3']
theorem parseI_itoa (n : Int) (h0 : -9223372036854775808 ≤ n) (h1 : n ≤ 9223372036854775807) : Lib.parseIntB 64 (Lib.itoa n) = .ok n := by
  unfold Lib.itoa
  by_cases hn : n < 0
  · rw [if_pos hn]
    unfold Lib.parseIntB
    have e : (45 : UInt8).toNat = 45 := rfl
    simp only [e]
    rw [if_pos (.inr trivial), parseU_dec 64 (Nat.le_refl _) _ (by omega)]
    simp only [not_true, false_and, if_false, true_and, if_true]
    rw [if_neg (by omega)]
    congr 1
    omega
  · rw [if_neg hn]
    obtain ⟨⟨h2, h3, -⟩, -, -⟩ := dec_plain n.toNat
    have hp := parseU_dec 64 (Nat.le_refl _) n.toNat (by omega)
    cases hq : Lib.decDigits n.toNat with
    | nil => exact absurd hq h3
    | cons c r =>
      have hc := h2 c (by rw [hq]; simp)
      have c1 := hc.1
      unfold Lib.parseIntB
      simp only
      rw [if_neg (by omega), ← hq, hp]
      have e1 : ¬ c.toNat = 45 := by omega
      simp only [e1, not_false_eq_true, true_and, false_and, if_false]
      rw [if_neg (by omega)]
      congr 1
      omega
end Go.Proofs.YtfgdnakfikpmpaaGreatDoor
namespace Go.Proofs.YtfgdnakfikpmpaaGreatDoor
open Go Go.RowKit Go.Deep
def toB (l : List UInt8) : Bytes := l.map fun c => (c.toNat : Int)
theorem quoted_snoc (l : List UInt8) (c : UInt8) : quoted (l ++ [c]) = quoted l ++ (if c = 34 ∨ c = 92 then [92, c] else [c]) := by
  induction l with
  | nil => simp only [List.nil_append, quoted]
  | cons x l ih =>
    simp only [List.cons_append, quoted]
    split <;> rw [ih] <;> rfl
theorem quoted_len (l : List UInt8) : (quoted l).length ≤ 2 * l.length := by
  induction l with
  | nil => exact Nat.le_refl _
  | cons x l ih =>
    simp only [quoted]
    split <;> simp <;> omega
theorem bytes_string {w : World} {S : Nat → Prop} {a : Option Addr} {n c : Nat} {l : List UInt8} (h : Rd bytesSh w S [.slice a n c] (toB l)) : (convert 123 9 (.slice a n c)).run Tryz.prog w = .ok (.string ⟨l.toArray⟩) w := by
  have := run_string_back (P := Tryz.prog) 123 9 5 a c n Tryz.underlying123 Tryz.underlying5 Tryz.underlying9 h
  rw [this]
  have e : textOf (toB l) = ⟨l.toArray⟩ := by
    simp [textOf, toB, Function.comp_def]
  rw [e]
theorem le_maxLen {n : Nat} (h : n ≤ 9223372036854775807) : n ≤ maxLen := by rw [maxLen_is]; exact h
theorem own_block1 {s : Sh} (hs : s.size = 1) {e : TypeId} {w : World} {S : Nat → Prop} {b : Nat} {cs : Array Value} (h : w.heap[b]? = some (.cells cs e (0, 0))) (hS : S b) (l : List s.T) (n : Nat) (hl : cs.size = l.length) (hn : n = l.length) (hm : l.length ≤ 1048576)
    (hr : ∀ i (hi : i < cs.size) (hi' : i < l.length), Rd s w No [cs[i]] l[i]) : Own s e w S (.slice (some ⟨b, 0, none⟩) n n) l := by
  subst hn
  refine ⟨some b, cs.toList.map fun v => [v], No, ⟨fun r hr => ?_, .inr ⟨b, 0, l.length, cs, rfl, by simp [hl], h, by simp [hl], by show _ ≤ maxLen; have := hm; exact le_maxLen (by omega), by rw [hs]; omega, ?_⟩⟩, by simp [hl], fun i h1 h2 => ?_, fun k hk => ⟨(Option.some.inj hk) ▸ hS, fun x => x⟩, fun k hk => hk.elim⟩
  · obtain ⟨v, -, rfl⟩ := List.mem_map.1 hr; rw [hs]; rfl
  · have e1 : (cs.toList.map fun v => [v]).flatten = cs.toList := by
      induction cs.toList with
      | nil => rfl
      | cons x l ih => simp [ih]
    rw [e1, hs]
    exact List.take_of_length_le (by simp)
  · have := hr i (by simpa using h1) h2
    simpa using this
theorem vfin1 {w w6 : World} {a : Option Addr} {n c : Nat} {l l' : List UInt8} {x : UInt8} (h : OwnB w w6 (.slice a n c) (toB (34 :: quoted l) ++ [(x.toNat : Int)])) (hq : quoted l' = quoted l ++ [x]) : OwnB w w6 (.slice a n c) (toB (34 :: quoted l')) := by
  rw [hq]
  have e : toB (34 :: (quoted l ++ [x])) = toB (34 :: quoted l) ++ [(x.toNat : Int)] := by simp [toB]
  rw [e]; exact h
theorem vfin2 {w w6 : World} {a : Option Addr} {n c : Nat} {l l' : List UInt8} {x : UInt8} (h : OwnB w w6 (.slice a n c) ((toB (34 :: quoted l) ++ [92]) ++ [(x.toNat : Int)])) (hq : quoted l' = quoted l ++ [92, x]) : OwnB w w6 (.slice a n c) (toB (34 :: quoted l')) := by
  rw [hq]
  have e : toB (34 :: (quoted l ++ [92, x])) = (toB (34 :: quoted l) ++ [92]) ++ [(x.toNat : Int)] := by simp [toB]
  rw [e]; exact h
set_option maxRecDepth 10000 in
set_option maxHeartbeats 2000000 in
theorem printV_any (v : Val) (hv : v.ok = true) (hI : v.In) (w : World) (ht : Tab w) : Calls Tryz.prog 130 #[.agg #[.int .i64 v.kind, .int .i64 v.num, .string v.text]] w fun e w' => e = .returned (.tuple #[.string ⟨v.print.toArray⟩, .int .i64 0]) ∧ Keep No w w' := by
  have K1 := (Keep.refl No w).alloc (.cells #[.int .i64 v.kind, .int .i64 v.num, .string v.text] 47)
  have x1 := blk_new w (.cells #[.int .i64 v.kind, .int .i64 v.num, .string v.text] 47)
  have hcase : v.kind = 1 ∨ v.kind = 0 ∨ (v.kind = 2 ∧ v.text.size ≤ 64) := by
    unfold Val.ok at hv
    by_cases h0 : v.kind = 0
    · exact .inr (.inl h0)
    · rw [if_neg h0] at hv
      by_cases h1 : v.kind = 1
      · exact .inl h1
      · rw [if_neg h1] at hv
        split at hv
        · rename_i h2
          simp only [Bool.and_eq_true, decide_eq_true_eq] at hv
          exact .inr (.inr ⟨h2, hv.1.2⟩)
        · cases hv
  have hts : v.text.size ≤ 9223372036854775807 := by
    unfold Val.ok at hv
    split at hv
    · simp only [Bool.and_eq_true, decide_eq_true_eq] at hv; omega
    · split at hv
      · simp only [decide_eq_true_eq] at hv; omega
      · split at hv
        · simp only [Bool.and_eq_true, decide_eq_true_eq] at hv; omega
        · cases hv
  have hval := (Valid_any v.kind v.num v.text hts (w.alloc (.cells #[.int .i64 v.kind, .int .i64 v.num, .string v.text] 47))).mono (R' := fun e w2 => e = .returned (.bool true) ∧ w2.heap[w.heap.size]? = some (.cells #[.int .i64 v.kind, .int .i64 v.num, .string v.text] 47 (0, 0)) ∧ RowKit.Hid (Keep No (w.alloc (.cells #[.int .i64 v.kind, .int .i64 v.num, .string v.text] 47)) w2 ∧ Keep No w w2)) (by
    rintro e w2 ⟨rfl, hk⟩
    exact ⟨by rw [show (mkVal v.kind v.num v.text).ok = true from hv], hk.blk x1 (fun x => x), hk, K1.trans hk⟩)
  have HX1 := Lib.hid (And.intro x1 K1)
  have hp : v.print = if v.kind = 1 then Lib.itoa v.num else if v.kind = 0 then [110, 111, 110, 101] else 34 :: (quoted v.text.data.toList ++ [34]) := rfl
  have HDI : RowKit.Hid (∀ W, Keep No w W → Calls Tryz.prog 73 #[.int .i64 v.num] W fun e w6 => e = .returned (.string ⟨(Lib.itoa v.num).toArray⟩) ∧ RowKit.Hid (Keep No w w6)) := fun W hW =>
    (digits_any v.num hI.n0 hI.n1 W (ht.keep hW)).mono (by rintro e w6 ⟨rfl, hk6⟩; exact ⟨rfl, hW.trans hk6⟩)
  rw [hp]
  clear hv hI ht K1 x1 hp hts
  generalize v.kind = y1 at *
  generalize v.num = y2 at *
  generalize v.text = y3 at *
  rcases hcase with rfl | rfl | ⟨rfl, h64⟩
  · simp only [if_true]
    go_enter Tryz.func130, Tryz.ntmps130
    go_wp2_with (first | (go_at_call 72; refine hval.mono ?_; clear hval; rintro e w2 ⟨rfl, x2, HK⟩; have q2 := blk_cell x2) | (go_at_call 73; refine (HDI.out _ HK.out.2).mono ?_; rintro e w6 ⟨rfl, HK6⟩))
    go_ret2
    exact ⟨rfl, HK6.out⟩
  · simp only [show ¬ ((0 : Int) = 1) by decide, if_false, if_true]
    go_enter Tryz.func130, Tryz.ntmps130
    go_wp2_with (go_at_call 72; refine hval.mono ?_; clear hval; rintro e w2 ⟨rfl, x2, HK⟩; have q2 := blk_cell x2)
    go_ret2
    exact ⟨rfl, HK.out.2⟩
  · simp only [show ¬ ((2 : Int) = 1) by decide, show ¬ ((2 : Int) = 0) by decide, if_false]
    have H64 := Lib.hid h64
    clear HDI
    go_enter Tryz.func130, Tryz.ntmps130
    go_upto_region 8 with (go_at_call 72; refine hval.mono ?_; clear hval; rintro e w2 ⟨rfl, x2, HK⟩; have q2 := blk_cell x2)
    have hO : OwnB (w.alloc (.cells #[.int .i64 2, .int .i64 y2, .string y3] 47)) (w2.alloc (.cells #[.int .u8 34] 5)) (.slice (some ⟨w2.heap.size, 0, none⟩) 1 1) (toB (34 :: quoted (y3.data.toList.take 0))) := by
      refine ⟨own_block1 (s := .int .u8) rfl (blk_new w2 _) ⟨HK.out.1.size, by simp⟩ (toB (34 :: quoted (y3.data.toList.take 0))) 1 rfl rfl (by simp [toB, quoted]) fun i hi hi' => ?_, HK.out.1.alloc _⟩
      have : i = 0 := by simp at hi; omega
      subst this
      exact ⟨rfl, by simp [toB]; decide⟩
    have HO := Lib.hid hO
    have HX2 := Lib.hid (blk_alloc (o' := .cells #[.int .u8 34] 5) x2)
    clear hO x2 q2
    obtain ⟨wa, hwa⟩ : ∃ wa, wa = w.alloc (.cells #[.int .i64 2, .int .i64 y2, .string y3] 47) := ⟨_, rfl⟩
    rw [← hwa] at HO HX1
    generalize w2.alloc (.cells #[.int .u8 34] 5) = w3 at *
    have q3 := blk_cell HX2.out
    go_wp2_with fail
    have hsz : y3.data.toList.length = y3.size := by simp
    go_loopg [4, 25] y3.size (fun g v i wr => ∃ k : Nat, k ≤ y3.size ∧ g = y3.size - k ∧ i = .int .i64 k ∧ RowKit.Hid (OwnB wa wr v (toB (34 :: quoted (y3.data.toList.take k)))))
    case atStart => exact ⟨0, by omega, by omega, rfl, HO.out⟩
    case round =>
      obtain ⟨k, hk, rfl, rfl, HR⟩ := hrel
      obtain ⟨a4, c4, hv, -⟩ := Own.form HR.out.1
      subst hv
      have q4 := blk_cell (HR.out.2.blk HX1.out.1 (fun x => x))
      have hql := quoted_len (y3.data.toList.take k)
      have hll : (toB (34 :: quoted (y3.data.toList.take k))).length ≤ 1000 := by
        have : (y3.data.toList.take k).length ≤ 64 := by rw [List.length_take]; omega
        simp [toB]; omega
      by_cases hlt : k < y3.size
      · have j1 : (k : Int) < y3.size := by omega
        have j0 : (0 : Int) ≤ k := by omega
        have j3 : (k : Int) ≤ 64 := by omega
        have hs : y3.data.toList.take (k + 1) = y3.data.toList.take k ++ [y3[k]] := by
          rw [List.take_succ_eq_append_getElem (by rw [hsz]; exact hlt)]
          simp [ByteArray.getElem_eq_getElem_data]
        have hq := quoted_snoc (y3.data.toList.take k) y3[k]
        rw [← hs] at hq
        have hc0 : (0 : Int) ≤ (y3[k].toNat : Int) := by omega
        have hc1 : (y3[k].toNat : Int) < 256 := by have := y3[k].toNat_lt; omega
        by_cases hb : y3[k] = 34 ∨ y3[k] = 92
        · rw [if_pos hb] at hq
          have hb' : (y3[k].toNat : Int) = 34 ∨ (y3[k].toNat : Int) = 92 := by rcases hb with e | e <;> rw [e] <;> decide
          obtain ⟨a5, c5, w5, hrun5, ho5⟩ := app_byte HR.out 92 (by decide) (by decide) (by omega)
          obtain ⟨a6, c6, w6, hrun6, ho6⟩ := app_byte ho5 (y3[k].toNat : Int) hc0 hc1 (by rw [List.length_append]; show _ + 1 + 1 ≤ _; omega)
          simp only [List.length_append, List.length_singleton] at hrun6 ho6
          have q5 := blk_cell (ho5.2.blk HX1.out.1 (fun x => x))
          have HO6 := Lib.hid (And.intro ho6 hq)
          rcases hb' with e | e
          · have e1 : ((y3[k].toNat : Int) == 34) = true := by rw [e]; rfl
            clear ho5 ho6 hq hb hs hll hql e hc0 hc1 hsz H64 h64 q3 HX2
            go_wp2_with (first | (at_builtin; refine wpList_app rfl (.tmp 40) (.tmp 41) 123 123 rfl rfl rfl hrun5 ?_) | (at_builtin; refine wpList_app rfl (.tmp 43) (.tmp 48) 123 123 rfl rfl rfl hrun6 ?_))
            go_roundg (y3.size - (k + 1))
            case measure => omega
            case rel => exact ⟨k + 1, by omega, rfl, by simp, vfin2 HO6.out.1 HO6.out.2⟩
          · have e1 : ((y3[k].toNat : Int) == 34) = false := by rw [e]; rfl
            have e2 : ((y3[k].toNat : Int) == 92) = true := by rw [e]; rfl
            clear ho5 ho6 hq hb hs hll hql e hc0 hc1 hsz H64 h64 q3 HX2
            go_wp2_with (first | (at_builtin; refine wpList_app rfl (.tmp 40) (.tmp 41) 123 123 rfl rfl rfl hrun5 ?_) | (at_builtin; refine wpList_app rfl (.tmp 43) (.tmp 48) 123 123 rfl rfl rfl hrun6 ?_))
            go_roundg (y3.size - (k + 1))
            case measure => omega
            case rel => exact ⟨k + 1, by omega, rfl, by simp, vfin2 HO6.out.1 HO6.out.2⟩
        · rw [if_neg hb] at hq
          have e1 : ((y3[k].toNat : Int) == 34) = false := by
            rw [beq_eq_false_iff_ne]; intro hh; exact hb (.inl (UInt8.toNat_inj.1 (show y3[k].toNat = 34 by omega)))
          have e2 : ((y3[k].toNat : Int) == 92) = false := by
            rw [beq_eq_false_iff_ne]; intro hh; exact hb (.inr (UInt8.toNat_inj.1 (show y3[k].toNat = 92 by omega)))
          obtain ⟨a6, c6, w6, hrun6, ho6⟩ := app_byte HR.out (y3[k].toNat : Int) hc0 hc1 (by omega)
          have HO6 := Lib.hid (And.intro ho6 hq)
          clear ho6 hq hb hs hll hql hc0 hc1 hsz H64 h64 q3 HX2
          go_wp2_with (at_builtin; refine wpList_app rfl (.tmp 43) (.tmp 48) 123 123 rfl rfl rfl hrun6 ?_)
          go_roundg (y3.size - (k + 1))
          case measure => omega
          case rel => exact ⟨k + 1, by omega, rfl, by simp, vfin1 HO6.out.1 HO6.out.2⟩
      · obtain rfl : k = y3.size := by omega
        have hf : y3.data.toList.take y3.size = y3.data.toList := List.take_of_length_le (by rw [hsz]; exact Nat.le_refl _)
        obtain ⟨a6, c6, w6, hrun6, ho6⟩ := app_byte HR.out 34 (by decide) (by decide) (by omega)
        have hconv := bytes_string (l := 34 :: (quoted y3.data.toList ++ [34])) (by
          have := ho6.rd
          rw [show toB (34 :: quoted (y3.data.toList.take y3.size)) ++ [(34 : Int)] = toB (34 :: (quoted y3.data.toList ++ [34])) by rw [hf]; simp [toB]] at this
          exact this)
        have HK6 := Lib.hid (HX1.out.2.trans ho6.2)
        clear ho6 hf hll hql hsz H64 h64 q3 HX2 HO
        go_wp2_with (at_builtin; refine wpList_app rfl (.tmp 51) (.tmp 52) 123 123 rfl rfl rfl hrun6 ?_)
        go_ret2
        exact ⟨rfl, HK6.out⟩
end Go.Proofs.YtfgdnakfikpmpaaGreatDoor
namespace Go.Proofs.YtfgdnakfikpmpaaGreatDoor
open Go Go.RowKit Go.Deep
def txt (l : List UInt8) : ByteArray := ⟨l.toArray⟩
theorem dec_len (u : Nat) (hu : u < 18446744073709551616) : (Lib.decDigits u).length ≤ 20 := by
  rw [Lib.decDigits_length]
  by_cases h : 1 ≤ u
  · have := Lib.numDigits_eq u h hu; split at this <;> omega
  · have : u = 0 := by omega
    subst this
    rw [Lib.nDigits_small (by omega)]
    omega
end Go.Proofs.YtfgdnakfikpmpaaGreatDoor
namespace Go.Proofs.YtfgdnakfikpmpaaGreatDoor
open Go Go.RowKit Go.Deep
def VpC (s : List UInt8) (v : Val) (e : Int) : Prop := ∀ v0 : Val, v0.ok = true → v0.In → s = v0.print → e = 0 ∧ v = v0
def VpS (s : List UInt8) (v : Val) (e : Int) : Prop := e = 0 → v.ok = true ∧ s = v.print
theorem itoa_letters (n : Int) : (∀ c ∈ Lib.itoa n, c ≠ 32 ∧ c ≠ 34) ∧ Lib.itoa n ≠ [] := by
  have hd : ∀ m, (∀ c ∈ Lib.decDigits m, c ≠ 32 ∧ c ≠ 34) ∧ Lib.decDigits m ≠ [] := fun m => by
    obtain ⟨⟨h1, h2, -⟩, -⟩ := dec_plain m
    exact ⟨fun c hc => ⟨dgt_ne (h1 c hc), fun e => by have := (h1 c hc).1; rw [e] at this; exact absurd this (by decide)⟩, h2⟩
  unfold Lib.itoa
  split
  · refine ⟨fun c hc => ?_, by simp⟩
    rw [List.mem_cons] at hc
    rcases hc with rfl | hc
    · decide
    · exact (hd _).1 c hc
  · exact hd _
end Go.Proofs.YtfgdnakfikpmpaaGreatDoor
