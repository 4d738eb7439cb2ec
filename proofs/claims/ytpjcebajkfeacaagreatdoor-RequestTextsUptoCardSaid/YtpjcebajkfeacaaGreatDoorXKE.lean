/-
  Parts of what is proved for this claim; each declaration is one of the seat's texts.
-/
import Derived.Test.YtpjcebajkfeacaaGreatDoorXGA
import Derived.Test.YtpjcebajkfeacaaGreatDoorXGB
import Derived.Test.YtpjcebajkfeacaaGreatDoorXGC
import Derived.Test.YtpjcebajkfeacaaGreatDoorXGD
import Derived.Test.YtpjcebajkfeacaaGreatDoorXGF
import Derived.Test.YtpjcebajkfeacaaGreatDoorXGK
import Derived.Test.YtpjcebajkfeacaaGreatDoorXHA
import Derived.Test.YtpjcebajkfeacaaGreatDoorXKA
import Derived.Test.YtpjcebajkfeacaaGreatDoorXKB
import Derived.Test.YtpjcebajkfeacaaGreatDoorXKC
import Derived.Test.YtpjcebajkfeacaaGreatDoorXKD
import Derived.Lib.ParseIntB
import Derived.Shelf.Pu.ParseUintPublic10
import Derived.Shelf.Strconv.ParseIntPublic10
import Derived.Shelf.Strings.Search2
import Derived.Shelf.Strings.Prefix
import Derived.Ground.MpProg
import Derived.Ground.NamesProg
import Derived.Lib.ParseIntBCases
import Derived.Lib.ParseIntBTie
set_option linter.unusedVariables false
set_option linter.unusedSimpArgs false
namespace Go.Proofs.YtpjcebajkfeacaaGreatDoor
open Go Go.RowKit Go.Deep
def digB (s : ByteArray) (k : Nat) : Bool := if h : k < s.size then decide (dgt (s[k]'h)) else false
theorem digB_true {s : ByteArray} {k : Nat} (h : digB s k = true) : ∃ hk : k < s.size, dgt (s[k]'hk) := by
  unfold digB at h
  split at h
  · rename_i hk; exact ⟨hk, of_decide_eq_true h⟩
  · cases h
theorem digB_false {s : ByteArray} {k : Nat} (h : digB s k = false) (hk : k < s.size) : ¬ dgt (s[k]'hk) := by
  unfold digB at h
  rw [dif_pos hk] at h
  exact of_decide_eq_false h
set_option maxRecDepth 10000 in
set_option maxHeartbeats 4000000 in
theorem rdigit_any (s : ByteArray) (k : Nat) (w : World) : Calls Tryz.prog 169 #[.string s, .int .i64 k] w fun e w' => e = .returned (.bool (digB s k)) ∧ w' = w := by
  obtain ⟨b, hb⟩ : ∃ b, digB s k = b := ⟨_, rfl⟩
  rw [hb]
  have HB := Lib.hid hb
  by_cases hlt : k < s.size
  · have j1 : (k : Int) < s.size := by omega
    have j0 : (0 : Int) ≤ k := by omega
    unfold digB at hb
    rw [dif_pos hlt] at hb
    by_cases h1 : 48 ≤ (s[k]'hlt).toNat
    · have b1 : (48 : Int) ≤ ((s[k]'hlt).toNat : Int) := by omega
      by_cases h2 : (s[k]'hlt).toNat ≤ 57
      · have b2 : ((s[k]'hlt).toNat : Int) ≤ 57 := by omega
        have hx : dgt (s[k]'hlt) := ⟨h1, h2⟩
        rw [decide_eq_true hx] at hb
        subst hb
        clear h1 h2 hx
        go_enter Tryz.func169, Tryz.ntmps169
        go_wp2_with fail
        go_ret
        exact ⟨rfl, rfl⟩
      · have b2 : ¬ ((s[k]'hlt).toNat : Int) ≤ 57 := by omega
        have hx : ¬ dgt (s[k]'hlt) := fun h => h2 h.2
        rw [decide_eq_false hx] at hb
        subst hb
        clear h1 h2 hx
        go_enter Tryz.func169, Tryz.ntmps169
        go_wp2_with fail
        go_ret
        exact ⟨rfl, rfl⟩
    · have b1 : ¬ (48 : Int) ≤ ((s[k]'hlt).toNat : Int) := by omega
      have hx : ¬ dgt (s[k]'hlt) := fun h => h1 h.1
      rw [decide_eq_false hx] at hb
      subst hb
      clear h1 hx
      go_enter Tryz.func169, Tryz.ntmps169
      go_wp2_with fail
      go_ret
      exact ⟨rfl, rfl⟩
  · have j1 : ¬ (k : Int) < s.size := by omega
    unfold digB at hb
    rw [dif_neg hlt] at hb
    subst hb
    clear hlt
    go_enter Tryz.func169, Tryz.ntmps169
    go_wp2_with fail
    go_ret
    exact ⟨rfl, rfl⟩
def GivesNv (s : ByteArray) (below : Bool) (w : World) (e : Ending) (w' : World) : Prop :=
  ∃ (n : Int) (ok : Bool), e = .returned (.tuple #[.int .i64 n, .bool ok]) ∧ w' = w ∧ RowKit.Hid (ok = decide (spell s.data.toList ≤ (if below = true then 9223372036854775808 else 9223372036854775807)) ∧ (ok = true → n = if below = true then -(spell s.data.toList : Int) else (spell s.data.toList : Int)))
set_option maxRecDepth 10000 in
set_option maxHeartbeats 4000000 in
theorem rvalue_false (s : ByteArray) (hs : s.size ≤ 1048576) (hd : ∀ c ∈ s.data.toList, dgt c) (w : World) : Calls Tryz.prog 219 #[.string s, .bool false] w (GivesNv s false w) := by
  have hlen : s.data.toList.length = s.size := by simp
  have i20 : (s.size : Int) ≤ 1048576 := by omega
  have HS := Lib.hid (And.intro hs (And.intro hlen hd))
  clear hs hlen hd
  go_enter Tryz.func219, Tryz.ntmps219
  go_wp2_with fail
  go_loopg [7, 8] s.size (fun g x i wr => ∃ k m : Nat, k ≤ s.size ∧ g = s.size - k ∧ x = .int .u64 m ∧ i = .int .i64 k ∧ RowKit.Hid (spell (s.data.toList.take k) = m ∧ m ≤ 9223372036854775807 ∧ k ≤ s.size ∧ wr = w))
  case atStart => exact ⟨0, 0, by omega, by omega, rfl, rfl, rfl, by decide, by omega, rfl⟩
  case round =>
  obtain ⟨k, m, hk, rfl, rfl, rfl, HR⟩ := hrel
  by_cases hlt : k < s.size
  · have j1 : (k : Int) < s.size := by omega
    have j0 : (0 : Int) ≤ k := by omega
    have hl : k < s.data.toList.length := by rw [HS.out.2.1]; exact hlt
    have htake : s.data.toList.take (k + 1) = s.data.toList.take k ++ [s[k]'hlt] := by rw [List.take_succ_eq_append_getElem hl, byte_get9]
    have hsp : spell (s.data.toList.take (k + 1)) = m * 10 + ((s[k]'hlt).toNat - 48) := by rw [htake, spell_snoc, HR.out.1]
    have hdd : dgt (s[k]'hlt) := HS.out.2.2 _ (by rw [byte_get9]; exact List.getElem_mem _)
    obtain ⟨d, hdn⟩ : ∃ d : Nat, d = (s[k]'hlt).toNat - 48 := ⟨_, rfl⟩
    have h9 : d ≤ 9 := by have := hdd.2; omega
    have e1 : IntKind.u8.wrap (((s[k]'hlt).toNat : Int) - 48) = (d : Int) := by
      unfold IntKind.wrap
      simp only [IntKind.signed, IntKind.bits, Bool.false_and, Bool.false_eq_true, if_false]
      have := hdd.1
      omega
    have e0 : IntKind.u64.wrap (d : Int) = (d : Int) := wrap_u64_nat _ (by omega)
    obtain ⟨L, hL⟩ : ∃ L : Nat, L = 9223372036854775807 - d := ⟨_, rfl⟩
    have e2 : IntKind.u64.wrap (9223372036854775807 - (d : Int)) = (L : Int) := by
      have : (9223372036854775807 - (d : Int)) = ((L : Nat) : Int) := by omega
      rw [this]; exact wrap_u64_nat _ (by omega)
    obtain ⟨q, hq⟩ : ∃ q : Nat, q = L / 10 := ⟨_, rfl⟩
    have e6 : ((L : Int).tdiv 10) = (q : Int) := by rw [Int.tdiv_eq_ediv_of_nonneg (by omega)]; omega
    have e7 : ((L : Int) / 10) = (q : Int) := by omega
    have e8 : IntKind.u64.wrap (q : Int) = (q : Int) := wrap_u64_nat _ (by omega)
    rw [← hdn] at hsp
    have HD := Lib.hid (And.intro h9 (And.intro hL (And.intro hq (And.intro hsp hlt))))
    clear h9 hL hq hsp hdd hdn htake hl hk
    by_cases hm : (q : Int) < (m : Int)
    · go_wp2_with fail
      go_ret2
      refine ⟨0, false, rfl, HR.out.2.2.2, Lib.hid ⟨(decide_eq_false ?_).symm, (fun h => by cases h)⟩⟩
      obtain ⟨h9, h1, h1q, h2, -⟩ := HD.out
      have h3 := spell_pre (s.data.toList.take (k + 1)) (s.data.toList.drop (k + 1))
      rw [List.take_append_drop, h2] at h3
      show ¬ spell s.data.toList ≤ 9223372036854775807
      omega
    · have hnm : 10 * m + d ≤ 9223372036854775807 := by have := HD.out.1; have := HD.out.2.1; have := HD.out.2.2.1; omega
      have e4 : IntKind.u64.wrap ((10 : Int) * m) = (10 : Int) * m := by
        have : (10 : Int) * m = ((10 * m : Nat) : Int) := by omega
        rw [this]; exact wrap_u64_nat _ (by omega)
      have e5 : IntKind.u64.wrap ((10 : Int) * m + d) = ((m * 10 + d : Nat) : Int) := by
        have : ((10 : Int) * m + d) = ((m * 10 + d : Nat) : Int) := by omega
        rw [this]; exact wrap_u64_nat _ (by omega)
      have HE := Lib.hid hnm
      clear hnm
      go_wp2_with fail
      go_roundg (s.size - (k + 1))
      case measure => have := HD.out.2.2.2.2; omega
      case rel => exact ⟨k + 1, m * 10 + d, HD.out.2.2.2.2, rfl, by simp, by simp, HD.out.2.2.2.1, by have := HE.out; omega, HD.out.2.2.2.2, HR.out.2.2.2⟩
  · obtain rfl : k = s.size := by omega
    have j1 : ¬ (s.size : Int) < s.size := by omega
    have hsp := HR.out.1
    rw [List.take_of_length_le (by rw [HS.out.2.1]; exact Nat.le_refl _)] at hsp
    have HX := Lib.hid (And.intro hsp HR.out.2.1)
    clear hlt hk hsp
    go_upto_region 12 with fail
    have f1 : IntKind.i64.wrap (m : Int) = (m : Int) := wrap_i64 (by have := HX.out.2; omega) (by have := HX.out.2; omega)
    go_wp2_with fail
    go_ret2
    exact ⟨_, true, rfl, HR.out.2.2.2, Lib.hid ⟨(decide_eq_true (by rw [HX.out.1]; exact HX.out.2)).symm, (fun _ => by rw [HX.out.1]; rfl)⟩⟩
set_option maxRecDepth 10000 in
set_option maxHeartbeats 4000000 in
theorem rvalue_true (s : ByteArray) (hs : s.size ≤ 1048576) (hd : ∀ c ∈ s.data.toList, dgt c) (w : World) : Calls Tryz.prog 219 #[.string s, .bool true] w (GivesNv s true w) := by
  have hlen : s.data.toList.length = s.size := by simp
  have i20 : (s.size : Int) ≤ 1048576 := by omega
  have HS := Lib.hid (And.intro hs (And.intro hlen hd))
  clear hs hlen hd
  go_enter Tryz.func219, Tryz.ntmps219
  go_wp2_with fail
  go_loopg [7, 8] s.size (fun g x i wr => ∃ k m : Nat, k ≤ s.size ∧ g = s.size - k ∧ x = .int .u64 m ∧ i = .int .i64 k ∧ RowKit.Hid (spell (s.data.toList.take k) = m ∧ m ≤ 9223372036854775808 ∧ k ≤ s.size ∧ wr = w))
  case atStart => exact ⟨0, 0, by omega, by omega, rfl, rfl, rfl, by decide, by omega, rfl⟩
  case round =>
  obtain ⟨k, m, hk, rfl, rfl, rfl, HR⟩ := hrel
  by_cases hlt : k < s.size
  · have j1 : (k : Int) < s.size := by omega
    have j0 : (0 : Int) ≤ k := by omega
    have hl : k < s.data.toList.length := by rw [HS.out.2.1]; exact hlt
    have htake : s.data.toList.take (k + 1) = s.data.toList.take k ++ [s[k]'hlt] := by rw [List.take_succ_eq_append_getElem hl, byte_get9]
    have hsp : spell (s.data.toList.take (k + 1)) = m * 10 + ((s[k]'hlt).toNat - 48) := by rw [htake, spell_snoc, HR.out.1]
    have hdd : dgt (s[k]'hlt) := HS.out.2.2 _ (by rw [byte_get9]; exact List.getElem_mem _)
    obtain ⟨d, hdn⟩ : ∃ d : Nat, d = (s[k]'hlt).toNat - 48 := ⟨_, rfl⟩
    have h9 : d ≤ 9 := by have := hdd.2; omega
    have e1 : IntKind.u8.wrap (((s[k]'hlt).toNat : Int) - 48) = (d : Int) := by
      unfold IntKind.wrap
      simp only [IntKind.signed, IntKind.bits, Bool.false_and, Bool.false_eq_true, if_false]
      have := hdd.1
      omega
    have e0 : IntKind.u64.wrap (d : Int) = (d : Int) := wrap_u64_nat _ (by omega)
    obtain ⟨L, hL⟩ : ∃ L : Nat, L = 9223372036854775808 - d := ⟨_, rfl⟩
    have e2 : IntKind.u64.wrap (9223372036854775808 - (d : Int)) = (L : Int) := by
      have : (9223372036854775808 - (d : Int)) = ((L : Nat) : Int) := by omega
      rw [this]; exact wrap_u64_nat _ (by omega)
    obtain ⟨q, hq⟩ : ∃ q : Nat, q = L / 10 := ⟨_, rfl⟩
    have e6 : ((L : Int).tdiv 10) = (q : Int) := by rw [Int.tdiv_eq_ediv_of_nonneg (by omega)]; omega
    have e7 : ((L : Int) / 10) = (q : Int) := by omega
    have e8 : IntKind.u64.wrap (q : Int) = (q : Int) := wrap_u64_nat _ (by omega)
    rw [← hdn] at hsp
    have HD := Lib.hid (And.intro h9 (And.intro hL (And.intro hq (And.intro hsp hlt))))
    clear h9 hL hq hsp hdd hdn htake hl hk
    by_cases hm : (q : Int) < (m : Int)
    · go_wp2_with fail
      go_ret2
      refine ⟨0, false, rfl, HR.out.2.2.2, Lib.hid ⟨(decide_eq_false ?_).symm, (fun h => by cases h)⟩⟩
      obtain ⟨h9, h1, h1q, h2, -⟩ := HD.out
      have h3 := spell_pre (s.data.toList.take (k + 1)) (s.data.toList.drop (k + 1))
      rw [List.take_append_drop, h2] at h3
      show ¬ spell s.data.toList ≤ 9223372036854775808
      omega
    · have hnm : 10 * m + d ≤ 9223372036854775808 := by have := HD.out.1; have := HD.out.2.1; have := HD.out.2.2.1; omega
      have e4 : IntKind.u64.wrap ((10 : Int) * m) = (10 : Int) * m := by
        have : (10 : Int) * m = ((10 * m : Nat) : Int) := by omega
        rw [this]; exact wrap_u64_nat _ (by omega)
      have e5 : IntKind.u64.wrap ((10 : Int) * m + d) = ((m * 10 + d : Nat) : Int) := by
        have : ((10 : Int) * m + d) = ((m * 10 + d : Nat) : Int) := by omega
        rw [this]; exact wrap_u64_nat _ (by omega)
      have HE := Lib.hid hnm
      clear hnm
      go_wp2_with fail
      go_roundg (s.size - (k + 1))
      case measure => have := HD.out.2.2.2.2; omega
      case rel => exact ⟨k + 1, m * 10 + d, HD.out.2.2.2.2, rfl, by simp, by simp, HD.out.2.2.2.1, by have := HE.out; omega, HD.out.2.2.2.2, HR.out.2.2.2⟩
  · obtain rfl : k = s.size := by omega
    have j1 : ¬ (s.size : Int) < s.size := by omega
    have hsp := HR.out.1
    rw [List.take_of_length_le (by rw [HS.out.2.1]; exact Nat.le_refl _)] at hsp
    have HX := Lib.hid (And.intro hsp HR.out.2.1)
    clear hlt hk hsp
    go_upto_region 12 with fail
    obtain ⟨Y, hY⟩ : ∃ Y : Int, Y = (m : Int) - 1 := ⟨_, rfl⟩
    obtain ⟨X, hX⟩ : ∃ X : Int, IntKind.u64.wrap ((m : Int) - 1) = X := ⟨_, rfl⟩
    have f1 : IntKind.i64.wrap X = Y := by
      have := HX.out.2
      rw [hY, ← hX]
      unfold IntKind.wrap
      simp only [IntKind.signed, IntKind.bits, Bool.false_and, Bool.true_and, Bool.false_eq_true, if_false]
      split <;> simp_all <;> omega
    obtain ⟨Z, hZ⟩ : ∃ Z : Int, Z = - Y := ⟨_, rfl⟩
    have f2 : IntKind.i64.wrap (-Y) = Z := by have := HX.out.2; rw [hZ]; exact wrap_i64 (by omega) (by omega)
    obtain ⟨U, hU⟩ : ∃ U : Int, U = Z - 1 := ⟨_, rfl⟩
    have f3 : IntKind.i64.wrap (Z - 1) = U := by have := HX.out.2; rw [hU]; exact wrap_i64 (by omega) (by omega)
    have HY := Lib.hid (And.intro hY (And.intro hZ hU))
    clear hY hZ hU
    go_wp2_with fail
    go_ret2
    refine ⟨U, true, rfl, HR.out.2.2.2, Lib.hid ⟨(decide_eq_true (by rw [HX.out.1]; exact HX.out.2)).symm, (fun _ => ?_)⟩⟩
    rw [HX.out.1, HY.out.2.2, HY.out.2.1, HY.out.1]
    show -((m : Int) - 1) - 1 = -(m : Int)
    omega
end Go.Proofs.YtpjcebajkfeacaaGreatDoor
namespace Go.Proofs.YtpjcebajkfeacaaGreatDoor
open Go Go.RowKit Go.Deep
theorem num_read {L : List UInt8} {n : Int} {d : Nat} (h : L = Lib.itoa n) (hd : d ≤ 1) (hs : d = 1 ↔ L.head? = some 45) : spell (L.drop d) = n.natAbs ∧ (d = 1 ↔ n < 0) := by
  subst h
  unfold Lib.itoa at hs ⊢
  by_cases hn : n < 0
  · rw [if_pos hn] at hs ⊢
    obtain rfl := hs.2 rfl
    exact ⟨(dec_plain _).2.1, fun _ => hn, fun _ => rfl⟩
  · rw [if_neg hn] at hs ⊢
    have h0 : d = 0 := by
      by_cases h1 : d = 1
      · have h45 : dgt 45 := (dec_plain n.toNat).1.1 45 (List.mem_of_head? (hs.1 h1))
        exact absurd h45.1 (by decide)
      · omega
    subst h0
    refine ⟨by rw [List.drop_zero, (dec_plain _).2.1]; omega, by omega, fun h => absurd h hn⟩
theorem num_write {L : List UInt8} {d : Nat} (hd : d ≤ 1) (hs : d = 1 ↔ L.head? = some 45) (hall : ∀ c ∈ L.drop d, dgt c) (hne : L.drop d ≠ []) (hz : (L.drop d).head? = some 48 → d = 0 ∧ L.length = 1) : L = Lib.itoa (if d = 1 then -(spell (L.drop d) : Int) else (spell (L.drop d) : Int)) := by
  have hp : plainD (L.drop d) := ⟨hall, hne, fun h => by obtain ⟨rfl, h1⟩ := hz h; exact h1⟩
  have hdec := dec_of _ hp
  by_cases h1 : d = 1
  · subst h1
    rw [if_pos rfl]
    have hpos : 0 < spell (L.drop 1) := by
      apply Nat.pos_of_ne_zero
      intro e
      rw [e] at hdec
      have h48 : (L.drop 1).head? = some 48 := by rw [← hdec, dec_rec]; rfl
      exact absurd (hz h48).1 (by decide)
    have hL : L = 45 :: L.drop 1 := by
      cases L with
      | nil => exact absurd (hs.1 rfl) (by decide)
      | cons c l => have := hs.1 rfl; simp at this; rw [this]; rfl
    unfold Lib.itoa
    rw [if_pos (by omega)]
    have e : (-(spell (L.drop 1) : Int)).natAbs = spell (L.drop 1) := by omega
    rw [e, hdec]
    exact hL
  · obtain rfl : d = 0 := by omega
    rw [if_neg h1]
    unfold Lib.itoa
    rw [if_neg (by omega)]
    rw [Int.toNat_natCast, hdec, List.drop_zero]
def NoneB (s : ByteArray) (v : Val) (er : Int) : Prop := (s.data.toList = noneW → er = 0 ∧ v = val0) ∧ (er = 0 → s.data.toList = noneW ∧ v = val0)
theorem noneB_err {s : ByteArray} {er : Int} (h : s.data.toList ≠ noneW) (he : er ≠ 0) : NoneB s val0 er := ⟨fun e => absurd e h, fun e => absurd e he⟩
set_option maxRecDepth 10000 in
set_option maxHeartbeats 4000000 in
theorem nothing9_any (s : ByteArray) (hs : s.size ≤ 1048576) (w : World) : Calls Tryz.prog 167 #[.string s] w (GivesVP (NoneB s) w) := by
  have x0 := blk_new w (.cells #[.int .i64 0, .int .i64 0, .string ⟨#[]⟩] 96)
  have K0 := (Keep.refl No w).alloc (.cells #[.int .i64 0, .int .i64 0, .string ⟨#[]⟩] 96)
  have hlen : s.data.toList.length = s.size := by simp
  have i20 : (s.size : Int) ≤ 1048576 := by omega
  have HS := Lib.hid hlen
  clear hs hlen
  go_enter Tryz.func167, Tryz.ntmps167
  go_upto_region 1 with fail
  have HX := Lib.hid (And.intro x0 K0)
  clear x0 K0
  generalize (w.alloc (.cells #[.int .i64 0, .int .i64 0, .string ⟨#[]⟩] 96)) = wa at *
  go_wp2_with fail
  go_loopg [5] 4 (fun g i wr => ∃ k : Nat, k ≤ 4 ∧ k ≤ s.size ∧ g = 4 - k ∧ i = .int .i64 k ∧ RowKit.Hid (s.data.toList.take k = noneW.take k ∧ Keep No w wr ∧ wr.heap[w.heap.size]? = some (.cells #[.int .i64 0, .int .i64 0, .string ⟨#[]⟩] 96 (0, 0))))
  case atStart => exact ⟨0, by omega, by omega, by omega, rfl, rfl, HX.out.2, HX.out.1⟩
  case round =>
    obtain ⟨k, hk4, hks, rfl, rfl, HR⟩ := hrel
    have R9 := HR.out.2.2
    have K9 := HR.out.2.1
    have c9 := blk_cell R9
    have z9 := blk_fro R9
    by_cases h4 : k < 4
    · have j4 : (k : Int) < 4 := by omega
      have j0 : (0 : Int) ≤ k := by omega
      by_cases hlt : k < s.size
      · have j1 : ((k : Int) == (s.size : Int)) = false := by simp; omega
        have j2 : (k : Int) < s.size := by omega
        have hl : k < s.data.toList.length := by rw [HS.out]; exact hlt
        have h9 : ((⟨#[110, 111, 110, 101]⟩ : ByteArray)[k]'h4) = noneW[k]'h4 := by rw [byte_get9]; rfl
        by_cases hc : ((s[k]'hlt).toNat : Int) = ((⟨#[110, 111, 110, 101]⟩ : ByteArray)[k]'h4).toNat
        · have hb : (((s[k]'hlt).toNat : Int) != ((⟨#[110, 111, 110, 101]⟩ : ByteArray)[k]'h4).toNat) = false := by simpa using hc
          have HN := Lib.hid (show s.data.toList.take (k + 1) = noneW.take (k + 1) by
            rw [List.take_succ_eq_append_getElem hl, List.take_succ_eq_append_getElem (show k < noneW.length from h4), HR.out.1]
            exact congrArg (fun x => noneW.take k ++ [x]) ((byte_get9 s k hlt).symm.trans ((UInt8.toNat_inj.1 (by omega)).trans h9)))
          clear R9 K9 c9 z9 hc hl h9
          go_upto_region 6 with fail
          refine wp_region_canw [0, 1, 2, 3, 4, 5] [] [] (by kernel_rfl) (by kernel_rfl) (by kernel_rfl) (by kernel_rfl) (by intro c a d v w h; cases d <;> exact h) ?_
          have R9 := (Keep.refl No wr).drew.blk HR.out.2.2 (fun x => x)
          have K9 := HR.out.2.1.drew
          generalize wr.drew = w5 at *
          have c9 := blk_cell R9
          have z9 := blk_fro R9
          iterate 6 (refine canw_sil rfl rfl (fun K hK => ?_); go_simp; refine hK _ ?_; clear hK K)
          refine canw_nil ?_
          go_wp2_with fail
          go_roundg (4 - (k + 1))
          case measure => omega
          case rel => exact ⟨k + 1, by omega, by omega, rfl, by simp, HN.out, K9, R9⟩
        · have hb : (((s[k]'hlt).toNat : Int) != ((⟨#[110, 111, 110, 101]⟩ : ByteArray)[k]'h4).toNat) = true := by simpa using hc
          have hne : s.data.toList ≠ noneW := fun e => hc (by
            have h8 : (s[k]'hlt) = noneW[k]'h4 := by
              rw [byte_get9]
              exact List.getElem_of_eq e _
            rw [h8, h9])
          have HN := Lib.hid hne
          clear R9 K9 c9 z9 hc hne hl h9
          go_upto_region 6 with fail
          refine wp_region_canw [0, 1, 2, 3, 4, 5] [] [] (by kernel_rfl) (by kernel_rfl) (by kernel_rfl) (by kernel_rfl) (by intro c a d v w h; cases d <;> exact h) ?_
          have R9 := (Keep.refl No wr).drew.blk HR.out.2.2 (fun x => x)
          have K9 := HR.out.2.1.drew
          generalize wr.drew = w5 at *
          have c9 := blk_cell R9
          have z9 := blk_fro R9
          iterate 6 (refine canw_sil rfl rfl (fun K hK => ?_); go_simp; refine hK _ ?_; clear hK K)
          refine canw_nil ?_
          go_wp2_with fail
          have y9 := blk_three R9 (.int .i64 0) (.int .i64 0) (.string ⟨#[]⟩)
          have k9 := keep_three K9 (b := w.heap.size) (Nat.le_refl _) (.int .i64 0) (.int .i64 0) (.string ⟨#[]⟩)
          have s9 := blk_cell y9
          refine bodyPost_ret (v := .tuple #[.agg #[.int .i64 0, .int .i64 0, .string ⟨#[]⟩], .int .i64 21, .int .i64 k]) (by simp [results, Tryz.results167, go_sem, s9]) rfl ?_
          exact zero_vp _ _ (noneB_err HN.out (by decide)) k9
      · have : k = s.size := by omega
        have j1 : ((k : Int) == (s.size : Int)) = true := by simp; omega
        have hne : s.data.toList ≠ noneW := fun e => by
          have h8 := congrArg List.length e
          have h7 : noneW.length = 4 := rfl
          have h9 := HS.out
          omega
        have HN := Lib.hid hne
        clear hlt this hk4 hks h4 hne
        go_wp2_with fail
        have y9 := blk_three R9 (.int .i64 0) (.int .i64 0) (.string ⟨#[]⟩)
        have k9 := keep_three K9 (b := w.heap.size) (Nat.le_refl _) (.int .i64 0) (.int .i64 0) (.string ⟨#[]⟩)
        have s9 := blk_cell y9
        refine bodyPost_ret (v := .tuple #[.agg #[.int .i64 0, .int .i64 0, .string ⟨#[]⟩], .int .i64 3, .int .i64 k]) (by simp [results, Tryz.results167, go_sem, s9]) rfl ?_
        exact zero_vp _ _ (noneB_err HN.out (by decide)) k9
    · obtain rfl : k = 4 := by omega
      have j4 : ¬ ((4 : Nat) : Int) < 4 := by omega
      clear hk4 h4
      by_cases hl : 4 < s.size
      · have j1 : (4 : Int) < s.size := by omega
        have hne : s.data.toList ≠ noneW := fun e => by
          have h7 := congrArg List.length e
          have h8 : noneW.length = 4 := rfl
          have h9 := HS.out
          omega
        have HN := Lib.hid hne
        clear hne hl
        go_wp2_with fail
        have y9 := blk_three R9 (.int .i64 0) (.int .i64 0) (.string ⟨#[]⟩)
        have k9 := keep_three K9 (b := w.heap.size) (Nat.le_refl _) (.int .i64 0) (.int .i64 0) (.string ⟨#[]⟩)
        have s9 := blk_cell y9
        refine bodyPost_ret (v := .tuple #[.agg #[.int .i64 0, .int .i64 0, .string ⟨#[]⟩], .int .i64 4, .int .i64 4]) (by simp [results, Tryz.results167, go_sem, s9]) rfl ?_
        exact zero_vp _ _ (noneB_err HN.out (by decide)) k9
      · have j1 : ¬ (4 : Int) < s.size := by omega
        have HN := Lib.hid (show s.data.toList = noneW by
          have := HR.out.1
          rwa [List.take_of_length_le (by rw [HS.out]; omega)] at this)
        clear hl
        go_wp2_with fail
        have y9 := blk_three R9 (.int .i64 0) (.int .i64 0) (.string ⟨#[]⟩)
        have k9 := keep_three K9 (b := w.heap.size) (Nat.le_refl _) (.int .i64 0) (.int .i64 0) (.string ⟨#[]⟩)
        have s9 := blk_cell y9
        refine bodyPost_ret (v := .tuple #[.agg #[.int .i64 0, .int .i64 0, .string ⟨#[]⟩], .int .i64 0, .int .i64 0]) (by simp [results, Tryz.results167, go_sem, s9]) rfl ?_
        exact zero_vp _ _ (⟨fun _ => ⟨rfl, rfl⟩, fun _ => ⟨HN.out, rfl⟩⟩) k9
def NumB (s : ByteArray) (v : Val) (er : Int) : Prop := (∀ n : Int, -9223372036854775808 ≤ n → n ≤ 9223372036854775807 → s.data.toList = Lib.itoa n → er = 0 ∧ v = mkVal 1 n noText) ∧ (er = 0 → v.kind = 1 ∧ v.text = noText ∧ s.data.toList = Lib.itoa v.num)
theorem numB9_err {s : ByteArray} {er : Int} (h : ∀ n : Int, -9223372036854775808 ≤ n → n ≤ 9223372036854775807 → s.data.toList ≠ Lib.itoa n) (he : er ≠ 0) : NumB s val0 er := ⟨fun n h0 h1 e => absurd e (h n h0 h1), fun e => absurd e he⟩
def NumAt (s : ByteArray) (h0 : 0 < s.size) (d : Nat) : Prop := d ≤ 1 ∧ (d = 1 ↔ (s[0]'h0) = 45) ∧ digB s d = true ∧ (d = 1 → ∀ h1 : 1 < s.size, (s[1]'h1) ≠ 48)
set_option maxRecDepth 10000 in
set_option maxHeartbeats 4000000 in
theorem number9v_any (s : ByteArray) (h0 : 0 < s.size) (hs : s.size ≤ 1048576) (hst : (s[0]'h0) = 45 ∨ digB s 0 = true) (w : World) : Calls Tryz.prog 170 #[.string s] w (GivesVP (NumB s) w) := by
  have x0 := blk_new w (.cells #[.int .i64 0, .int .i64 0, .string ⟨#[]⟩] 96)
  have K0 := (Keep.refl No w).alloc (.cells #[.int .i64 0, .int .i64 0, .string ⟨#[]⟩] 96)
  have hlen : s.data.toList.length = s.size := by simp
  have i20 : (s.size : Int) ≤ 1048576 := by omega
  have j00 : (0 : Int) < s.size := by omega
  have hhd : s.data.toList.head? = some (s[0]'h0) := by rw [List.head?_eq_getElem?, List.getElem?_eq_getElem (by omega), byte_get9]
  have hfacts : ∀ (n : Int) (d : Nat), s.data.toList = Lib.itoa n → d ≤ 1 → (d = 1 ↔ (s[0]'h0) = 45) → d < s.size ∧ (∀ j, j < s.size → d ≤ j → digB s j = true) ∧ (∀ hj : d < s.size, (s[d]'hj) = 48 → d = 0 ∧ s.size = 1) := fun n d hn hd1 hd => by
    obtain ⟨d', h1, h2, h3, h4, h5⟩ := num_facts n _ hn
    have e : d' = d := by
      rw [hhd, Option.some.injEq] at h2
      have h9 : d' = 1 ↔ d = 1 := h2.trans hd.symm
      omega
    subst e
    refine ⟨by omega, fun j hj hdj => ?_, fun hj h48 => ?_⟩
    · unfold digB
      rw [dif_pos hj]
      have := h4 j (by omega) hdj
      rw [← byte_get9 s j hj] at this
      exact decide_eq_true this
    · have := h5 (by omega) (by rw [← byte_get9 s d' hj]; exact h48)
      exact ⟨this.1, by omega⟩
  have HD := Lib.hid (fun k W => rdigit_any s k W)
  have HF := Lib.hid hfacts
  have HS := Lib.hid (And.intro hs (And.intro hlen hhd))
  clear hfacts hs hlen hhd
  go_enter Tryz.func170, Tryz.ntmps170
  go_upto_region 1 with fail
  have HX := Lib.hid (And.intro x0 K0)
  clear x0 K0
  generalize (w.alloc (.cells #[.int .i64 0, .int .i64 0, .string ⟨#[]⟩] 96)) = wa at *
  go_upto_region 2 with fail
  go_upto_if 11 with fail
  go_cut [5] (fun t wx => ∃ d : Nat, t = .int .i64 d ∧ RowKit.Hid (NumAt s h0 d) ∧ wx = wa)
  case first =>
    by_cases h9 : (s[0]'h0) = 45
    · have hb : (((s[0]'h0).toNat : Int) == 45) = true := by rw [h9]; rfl
      have HF1 := Lib.hid (fun n hn => HF.out n 1 hn (Nat.le_refl _) ⟨fun _ => h9, fun _ => rfl⟩)
      have c9 := blk_cell HX.out.1
      have z9 := blk_fro HX.out.1
      have R9 := HX.out.1
      have K9 := HX.out.2
      by_cases hA : s.size = 1
      · have a1 : ((s.size : Int) == 1) = true := by rw [hA]; rfl
        have HV := Lib.hid (show ∀ n : Int, -9223372036854775808 ≤ n → n ≤ 9223372036854775807 → s.data.toList ≠ Lib.itoa n from fun n _ _ hn => by have := (HF1.out n hn).1; omega)
        clear hA h9 hst
        go_wp2_with fail
        have y9 := blk_three R9 (.int .i64 0) (.int .i64 0) (.string ⟨#[]⟩)
        have k9 := keep_three K9 (b := w.heap.size) (Nat.le_refl _) (.int .i64 0) (.int .i64 0) (.string ⟨#[]⟩)
        have s9 := blk_cell y9
        refine bodyPost_ret (v := .tuple #[.agg #[.int .i64 0, .int .i64 0, .string ⟨#[]⟩], .int .i64 3, .int .i64 1]) (by simp [results, Tryz.results170, go_sem, s9]) rfl ?_
        exact zero_vp _ _ (numB9_err HV.out (by decide)) k9
      · have a1 : ((s.size : Int) == 1) = false := by simp; omega
        have hp1 : 1 < s.size := by omega
        have jp1 : (1 : Int) < s.size := by omega
        have hdg := HD.out 1 wa
        cases hB : digB s 1 with
        | false =>
          rw [hB] at hdg
          have HV := Lib.hid (show ∀ n : Int, -9223372036854775808 ≤ n → n ≤ 9223372036854775807 → s.data.toList ≠ Lib.itoa n from fun n _ _ hn => by have := (HF1.out n hn).2.1 1 hp1 (Nat.le_refl _); rw [hB] at this; cases this)
          clear hA h9 hst hB
          go_wp2_with (go_at_call 169; refine hdg.mono ?_; clear hdg; rintro e w8 ⟨rfl, rfl⟩)
          have y9 := blk_three R9 (.int .i64 0) (.int .i64 0) (.string ⟨#[]⟩)
          have k9 := keep_three K9 (b := w.heap.size) (Nat.le_refl _) (.int .i64 0) (.int .i64 0) (.string ⟨#[]⟩)
          have s9 := blk_cell y9
          refine bodyPost_ret (v := .tuple #[.agg #[.int .i64 0, .int .i64 0, .string ⟨#[]⟩], .int .i64 21, .int .i64 1]) (by simp [results, Tryz.results170, go_sem, s9]) rfl ?_
          exact zero_vp _ _ (numB9_err HV.out (by decide)) k9
        | true =>
          rw [hB] at hdg
          by_cases hC : (s[1]'hp1) = 48
          · have c1 : (((s[1]'hp1).toNat : Int) == 48) = true := by rw [hC]; rfl
            have HV := Lib.hid (show ∀ n : Int, -9223372036854775808 ≤ n → n ≤ 9223372036854775807 → s.data.toList ≠ Lib.itoa n from fun n _ _ hn => by have := ((HF1.out n hn).2.2 hp1 hC).1; cases this)
            clear hA h9 hst hB hC
            go_wp2_with (go_at_call 169; refine hdg.mono ?_; clear hdg; rintro e w8 ⟨rfl, rfl⟩)
            have y9 := blk_three R9 (.int .i64 0) (.int .i64 0) (.string ⟨#[]⟩)
            have k9 := keep_three K9 (b := w.heap.size) (Nat.le_refl _) (.int .i64 0) (.int .i64 0) (.string ⟨#[]⟩)
            have s9 := blk_cell y9
            refine bodyPost_ret (v := .tuple #[.agg #[.int .i64 0, .int .i64 0, .string ⟨#[]⟩], .int .i64 21, .int .i64 1]) (by simp [results, Tryz.results170, go_sem, s9]) rfl ?_
            exact zero_vp _ _ (numB9_err HV.out (by decide)) k9
          · have c1 : (((s[1]'hp1).toNat : Int) == 48) = false := by simp; exact fun e => hC (UInt8.toNat_inj.1 (by have : (48 : UInt8).toNat = 48 := rfl; omega))
            have HG := Lib.hid (show NumAt s h0 1 from ⟨Nat.le_refl _, ⟨fun _ => h9, fun _ => rfl⟩, hB, fun _ _ => hC⟩)
            clear hA h9 hst hB hC
            go_wp2_with (go_at_call 169; refine hdg.mono ?_; clear hdg; rintro e w8 ⟨rfl, rfl⟩)
            go_meet
            case rel => exact ⟨1, rfl, HG, rfl⟩
    · have hb : (((s[0]'h0).toNat : Int) == 45) = false := by simp; exact fun e => h9 (UInt8.toNat_inj.1 (by have : (45 : UInt8).toNat = 45 := rfl; omega))
      have HG := Lib.hid (show NumAt s h0 0 from ⟨by omega, ⟨(fun h => by cases h), fun h => absurd h h9⟩, hst.resolve_left h9, (fun h => by cases h)⟩)
      clear h9 hst
      go_wp2_with fail
      go_meet
      case rel => exact ⟨0, rfl, HG, rfl⟩
  case rest =>
    obtain ⟨d, rfl, HG, hw⟩ := hcut
    subst hw
    obtain ⟨b, hb⟩ : ∃ b : Bool, b = (decide ((s[0]'h0) = 48) && digB s 1) := ⟨_, rfl⟩
    go_upto_region 8 with fail
    go_cut [31] (fun t wx => t = .bool b ∧ wx = wc)
    case first =>
      by_cases hz : (s[0]'h0) = 48
      · have hbz : (((s[0]'h0).toNat : Int) == 48) = true := by rw [hz]; rfl
        have hdg := HD.out 1 wc
        have e : digB s 1 = b := by rw [hb, decide_eq_true hz, Bool.true_and]
        rw [e] at hdg
        clear hz hb e
        go_wp2_with (go_at_call 169; refine hdg.mono ?_; clear hdg; rintro e w8 ⟨rfl, rfl⟩)
        go_meet
        case rel => exact ⟨rfl, rfl⟩
      · have hbz : (((s[0]'h0).toNat : Int) == 48) = false := by simp; exact fun e => hz (UInt8.toNat_inj.1 (by have : (48 : UInt8).toNat = 48 := rfl; omega))
        have e : b = false := by rw [hb, decide_eq_false hz, Bool.false_and]
        subst e
        clear hz hb
        go_wp2_with fail
        go_meet
        case rel => exact ⟨rfl, rfl⟩
    case rest =>
      obtain ⟨rfl, hw⟩ := hcut
      subst hw
      cases b with
      | true =>
        have c9 := blk_cell HX.out.1
        have z9 := blk_fro HX.out.1
        have R9 := HX.out.1
        have K9 := HX.out.2
        have hb2 := (Bool.and_eq_true _ _).mp hb.symm
        have HV := Lib.hid (show ∀ n : Int, -9223372036854775808 ≤ n → n ≤ 9223372036854775807 → s.data.toList ≠ Lib.itoa n from fun n _ _ hn => by
          obtain ⟨h1, -⟩ := digB_true hb2.2
          have h48 := of_decide_eq_true hb2.1
          have hd0 : d = 0 := by
            have h9 := HG.out.1
            by_cases hd1 : d = 1
            · have := HG.out.2.1.1 hd1; rw [h48] at this; exact absurd this (by decide)
            · omega
          subst hd0
          have := ((HF.out n 0 hn (by omega) HG.out.2.1).2.2 h0 h48).2
          omega)
        clear hb hb2
        go_wp2_with fail
        have y9 := blk_three R9 (.int .i64 0) (.int .i64 0) (.string ⟨#[]⟩)
        have k9 := keep_three K9 (b := w.heap.size) (Nat.le_refl _) (.int .i64 0) (.int .i64 0) (.string ⟨#[]⟩)
        have s9 := blk_cell y9
        refine bodyPost_ret (v := .tuple #[.agg #[.int .i64 0, .int .i64 0, .string ⟨#[]⟩], .int .i64 21, .int .i64 1]) (by simp [results, Tryz.results170, go_sem, s9]) rfl ?_
        exact zero_vp _ _ (numB9_err HV.out (by decide)) k9
      | false =>
        have HZ := Lib.hid (show ∀ hd : d < s.size, (s[d]'hd) = 48 → d = 0 ∧ digB s 1 = false from fun hd h48 => by
          have h9 := HG.out.1
          by_cases hd1 : d = 1
          · subst hd1; exact absurd h48 (HG.out.2.2.2 rfl hd)
          · obtain rfl : d = 0 := by omega
            refine ⟨rfl, ?_⟩
            rw [decide_eq_true h48, Bool.true_and] at hb
            exact hb.symm)
        clear hb
        have hd1 := HG.out.1
        have hd0 : (0 : Int) ≤ d := by omega
        obtain ⟨hds, -⟩ := digB_true HG.out.2.2.1
        go_upto_region 10 with fail
        go_wp2_with fail
        go_loopg [6] (s.size - d) (fun g i wr => ∃ k : Nat, d ≤ k ∧ k ≤ s.size ∧ g = s.size - k ∧ i = .int .i64 k ∧ RowKit.Hid (∀ j, d ≤ j → j < k → digB s j = true) ∧ wr = wc)
        case atStart => exact ⟨d, by omega, by omega, rfl, rfl, (fun j h1 h2 => by omega), rfl⟩
        case round =>
          obtain ⟨k, hdk, hks, rfl, rfl, HR, hw⟩ := hrel
          subst hw
          have j0 : (0 : Int) ≤ k := by omega
          have hdg := HD.out k wr
          cases hB : digB s k with
          | true =>
            rw [hB] at hdg
            have hkl := (digB_true hB).1
            go_wp2_with (go_at_call 169; refine hdg.mono ?_; clear hdg; rintro e w8 ⟨rfl, rfl⟩)
            go_roundg (s.size - (k + 1))
            case measure => omega
            case rel => exact ⟨k + 1, by omega, by omega, rfl, by simp, (fun j h1 h2 => by
              by_cases hj : j = k
              · rw [hj]; exact hB
              · exact HR.out j h1 (by omega)), rfl⟩
          | false =>
            rw [hB] at hdg
            have hkd : d < k := by
              rcases Nat.lt_or_ge d k with h | h
              · exact h
              · obtain rfl : k = d := by omega
                rw [HG.out.2.2.1] at hB; cases hB
            have hex : (s.extract d k).size ≤ 1048576 := by rw [ByteArray.size_extract]; have := HS.out.1; omega
            have hexl : (s.extract d k).data.toList = (s.data.toList.take k).drop d := by simp [ByteArray.data_extract, List.drop_take]
            have hall : ∀ c ∈ (s.data.toList.take k).drop d, dgt c := fun c hc => by
              obtain ⟨i, hi, rfl⟩ := List.mem_iff_getElem.1 hc
              rw [List.length_drop, List.length_take] at hi
              have hik : d + i < k := by omega
              rw [List.getElem_drop, List.getElem_take, ← byte_get9 s (d + i) (by omega)]
              obtain ⟨h1, h2⟩ := digB_true (HR.out (d + i) (by omega) hik)
              exact h2
            obtain ⟨bl, hbl⟩ : ∃ bl : Bool, bl = decide (d = 1) := ⟨_, rfl⟩
            have f1 : ((d : Int) == 1) = bl := by
              by_cases h : d = 1
              · subst h; rw [hbl]; rfl
              · rw [hbl, decide_eq_false h]; simp; omega
            have hval : Calls Tryz.prog 219 #[.string (s.extract d k), .bool bl] wr (GivesNv (s.extract d k) bl wr) := by
              cases bl with
              | true => exact rvalue_true _ hex (by rw [hexl]; exact hall) wr
              | false => exact rvalue_false _ hex (by rw [hexl]; exact hall) wr
            have hfin : ∀ n : Int, s.data.toList = Lib.itoa n → k = s.size := fun n hn => by
              rcases Nat.lt_or_ge k s.size with h | h
              · have := (HF.out n d hn hd1 HG.out.2.1).2.1 k h hdk
                rw [hB] at this; cases this
              · omega
            have hsign : d = 1 ↔ s.data.toList.head? = some 45 := by rw [HS.out.2.2, Option.some.injEq]; exact HG.out.2.1
            have hread : ∀ n : Int, s.data.toList = Lib.itoa n → spell (s.extract d k).data.toList = n.natAbs ∧ (d = 1 ↔ n < 0) := fun n hn => by
              rw [hexl, List.take_of_length_le (by have := hfin n hn; have := HS.out.2.1; omega)]
              exact num_read hn hd1 hsign
            have hwrite : k = s.size → s.data.toList = Lib.itoa (if bl = true then -(spell (s.extract d k).data.toList : Int) else (spell (s.extract d k).data.toList : Int)) := fun hk => by
              have e : s.data.toList.take k = s.data.toList := List.take_of_length_le (by have := HS.out.2.1; omega)
              rw [hexl, e, hbl]
              rw [e] at hall
              have hl : d < s.data.toList.length := by have := HS.out.2.1; omega
              have hh : (s.data.toList.drop d).head? = some (s[d]'hds) := by rw [List.head?_drop, List.getElem?_eq_getElem hl, byte_get9]
              have := num_write hd1 hsign hall (fun e => by rw [e] at hh; cases hh) (fun h48 => by
                rw [hh, Option.some.injEq] at h48
                obtain ⟨h1, h2⟩ := HZ.out hds h48
                refine ⟨h1, ?_⟩
                subst h1
                rcases Nat.lt_or_ge 1 s.size with h | h
                · have := HR.out 1 (by omega) (by omega); rw [h2] at this; cases this
                · have := HS.out.2.1; omega)
              by_cases h1 : d = 1
              · rw [if_pos h1] at this; rw [decide_eq_true h1, if_pos rfl]; exact this
              · rw [if_neg h1] at this; rw [decide_eq_false h1, if_neg (by decide)]; exact this
            have HQ := Lib.hid (And.intro hfin (And.intro hread (And.intro hwrite hbl)))
            have k1 : (k : Int) ≤ s.size := by omega
            have k2 : (d : Int) ≤ k := by omega
            have R9 := HX.out.1
            have K9 := HX.out.2
            have c9 := blk_cell R9
            have z9 := blk_fro R9
            clear hfin hread hwrite hbl hsign hall hexl hex hB hkd hds hd1 hst
            go_upto_region 13 with (go_at_call 169; refine hdg.mono ?_; clear hdg; rintro e w8 ⟨rfl, rfl⟩)
            go_wp2_with fail
            refine hval.mono ?_
            clear hval
            rintro e w7 ⟨n, ok, rfl, hw7, HN⟩
            subst hw7
            cases ok with
            | false =>
              have HV := Lib.hid (show ∀ n : Int, -9223372036854775808 ≤ n → n ≤ 9223372036854775807 → s.data.toList ≠ Lib.itoa n from fun m h0 h9 hn => by
                obtain ⟨h1, h2⟩ := HQ.out.2.1 m hn
                have h3 := of_decide_eq_false HN.out.1.symm
                rw [h1, HQ.out.2.2.2] at h3
                by_cases hd1 : d = 1
                · rw [decide_eq_true hd1, if_pos rfl] at h3; omega
                · rw [decide_eq_false hd1, if_neg (by decide)] at h3; omega)
              go_wp2_with fail
              have y9 := blk_three R9 (.int .i64 0) (.int .i64 0) (.string ⟨#[]⟩)
              have k9 := keep_three K9 (b := w.heap.size) (Nat.le_refl _) (.int .i64 0) (.int .i64 0) (.string ⟨#[]⟩)
              have s9 := blk_cell y9
              refine bodyPost_ret (v := .tuple #[.agg #[.int .i64 0, .int .i64 0, .string ⟨#[]⟩], .int .i64 22, .int .i64 0]) (by simp [results, Tryz.results170, go_sem, s9]) rfl ?_
              exact zero_vp _ _ (numB9_err HV.out (by decide)) k9
            | true =>
              by_cases hE : k < s.size
              · have b1 : (k : Int) < s.size := by omega
                have HV := Lib.hid (show ∀ n : Int, -9223372036854775808 ≤ n → n ≤ 9223372036854775807 → s.data.toList ≠ Lib.itoa n from fun m h0 h9 hn => by have := HQ.out.1 m hn; omega)
                clear hE hks
                go_wp2_with fail
                have y9 := blk_three R9 (.int .i64 0) (.int .i64 0) (.string ⟨#[]⟩)
                have k9 := keep_three K9 (b := w.heap.size) (Nat.le_refl _) (.int .i64 0) (.int .i64 0) (.string ⟨#[]⟩)
                have s9 := blk_cell y9
                refine bodyPost_ret (v := .tuple #[.agg #[.int .i64 0, .int .i64 0, .string ⟨#[]⟩], .int .i64 4, .int .i64 k]) (by simp [results, Tryz.results170, go_sem, s9]) rfl ?_
                exact zero_vp _ _ (numB9_err HV.out (by decide)) k9
              · have b1 : ¬ (k : Int) < s.size := by omega
                have hnv := HN.out.2 rfl
                have hr := of_decide_eq_true HN.out.1.symm
                have hI : -9223372036854775808 ≤ n ∧ n ≤ 9223372036854775807 := by
                  rw [hnv]
                  cases bl with
                  | true => rw [if_pos rfl] at hr ⊢; omega
                  | false => rw [if_neg (by decide)] at hr ⊢; omega
                have hNB : NumB s (mkVal 1 n noText) 0 := by
                  refine ⟨fun m h0 h9 hm => ⟨rfl, ?_⟩, fun _ => ⟨rfl, rfl, ?_⟩⟩
                  · obtain ⟨h1, h2⟩ := HQ.out.2.1 m hm
                    have : n = m := by
                      rw [hnv, h1, HQ.out.2.2.2]
                      by_cases hd1 : d = 1
                      · rw [decide_eq_true hd1, if_pos rfl]; have := h2.1 hd1; omega
                      · rw [decide_eq_false hd1, if_neg (by decide)]; have h7 : ¬ m < 0 := (fun h => hd1 (h2.2 h)); omega
                    rw [this]
                  · have := HQ.out.2.2.1 (by omega)
                    rw [← hnv] at this
                    exact this
                have HV := Lib.hid (And.intro hNB hI)
                have hof := (rOf_any n w7).mono (R' := fun e w8 => e = .returned (.agg #[.int .i64 1, .int .i64 n, .string noText]) ∧ w8.heap[w.heap.size]? = some (.cells #[.int .i64 0, .int .i64 0, .string ⟨#[]⟩] 96 (0, 0)) ∧ RowKit.Hid (Keep No w w8)) (by
                  rintro e w8 ⟨rfl, hk⟩
                  exact ⟨rfl, hk.blk R9 (fun x => x), K9.trans hk⟩)
                clear hE hks hNB hI hr hnv R9 K9 c9 z9
                go_wp2_with (go_at_call 128; refine hof.mono ?_; clear hof; rintro e w8 ⟨rfl, R8, K8⟩; have c8 := blk_cell R8; have z8 := blk_fro R8)
                have y9 := blk_three R8 (.int .i64 1) (.int .i64 n) (.string noText)
                have k9 := keep_three K8.out (b := w.heap.size) (Nat.le_refl _) (.int .i64 1) (.int .i64 n) (.string noText)
                have s9 := blk_cell y9
                refine bodyPost_ret (v := .tuple #[.agg #[.int .i64 1, .int .i64 n, .string noText], .int .i64 0, .int .i64 0]) (by simp [results, Tryz.results170, go_sem, s9]) rfl ?_
                exact ⟨mkVal 1 n noText, 0, 0, rfl, ⟨show (-9223372036854775808 : Int) ≤ 1 by decide, show (1 : Int) ≤ 9223372036854775807 by decide, HV.out.2.1, HV.out.2.2⟩, Nat.zero_le _, HV.out.1, k9⟩
end Go.Proofs.YtpjcebajkfeacaaGreatDoor
namespace Go.Proofs.YtpjcebajkfeacaaGreatDoor
open Go Go.RowKit Go.Deep
theorem plain_of {l : List UInt8} (h : ∀ c ∈ l, plainC c.toNat = true) : plainB ⟨l.toArray⟩ = true := by
  unfold plainB bytesOf
  rw [List.all_map, List.all_eq_true]
  exact fun c hc => h c hc
def TextB (s : ByteArray) (v : Val) (er : Int) : Prop := TextC s v er ∧ (er = 0 → ∃ t : ByteArray, v = mkVal 2 0 t ∧ t.size ≤ 64 ∧ plainB t = true ∧ s.data.toList = 34 :: (quoted t.data.toList ++ [34]))
theorem textB_err {s : ByteArray} {er : Int} (h : ∀ t : ByteArray, t.size ≤ 64 → plainB t = true → s.data.toList ≠ 34 :: (quoted t.data.toList ++ [34])) (he : er ≠ 0) : TextB s val0 er := ⟨fun t h0 h1 e => absurd e (h t h0 h1), fun e => absurd e he⟩
def ThisT (s : ByteArray) (k : Nat) (t : List UInt8) : Prop := Tx s.data.toList k t ∧ t.length ≤ 64 ∧ ∀ c ∈ t, plainC c.toNat = true
set_option maxRecDepth 10000 in
set_option maxHeartbeats 4000000 in
theorem word9v_any (s : ByteArray) (hq : s.data.toList.head? = some 34) (hs : s.size ≤ 1048576) (w : World) : Calls Tryz.prog 168 #[.string s] w (GivesVP (TextB s) w) := by
  have x0 := blk_new w (.cells #[.int .i64 0, .int .i64 0, .string ⟨#[]⟩] 96)
  have K0 := (Keep.refl No w).alloc (.cells #[.int .i64 0, .int .i64 0, .string ⟨#[]⟩] 96)
  have hlen : s.data.toList.length = s.size := by simp
  have i20 : (s.size : Int) ≤ 1048576 := by omega
  have h1s : 1 ≤ s.size := by rw [← hlen]; cases h : s.data.toList with | nil => rw [h] at hq; cases hq | cons a l => simp
  have HS := Lib.hid (And.intro hq (And.intro hs hlen))
  clear hs hq hlen
  go_enter Tryz.func168, Tryz.ntmps168
  go_upto_region 1 with fail
  have HX := Lib.hid (And.intro x0 K0)
  clear x0 K0
  generalize (w.alloc (.cells #[.int .i64 0, .int .i64 0, .string ⟨#[]⟩] 96)) = wa at *
  go_wp2_with fail
  go_loopg [5, 6] (s.size - 1) (fun g v i wr => ∃ (k : Nat) (t : List UInt8), 1 ≤ k ∧ k ≤ s.size ∧ g = s.size - k ∧ v = .string ⟨t.toArray⟩ ∧ i = .int .i64 k ∧ RowKit.Hid (ThisT s k t) ∧ wr = wa)
  case atStart => exact ⟨1, [], by omega, by omega, rfl, rfl, rfl, ⟨Tx.start HS.out.1, Nat.zero_le _, fun c hc => by cases hc⟩, rfl⟩
  case round =>
    obtain ⟨k, t, hk1, hks, rfl, rfl, rfl, HR, hw⟩ := hrel
    subst hw
    have HT := HR
    clear HR
    have HR := Lib.hid HT
    clear HT
    have R9 := HX.out.1
    have K9 := HX.out.2
    have c9 := blk_cell R9
    have z9 := blk_fro R9
    have h64 := HR.out.2.1
    by_cases hlt : k < s.size
    · have j1 : (k : Int) < s.size := by omega
      have j0 : (0 : Int) ≤ k := by omega
      have hl : k < s.data.toList.length := by rw [HS.out.2.2]; exact hlt
      have eget := byte_get s k hlt
      by_cases hc : (s[k]'hlt) = 34
      · have b0 : (((s[k]'hlt).toNat : Int) == 34) = true := by rw [hc]; rfl
        obtain ⟨hm1, hm2⟩ := HR.out.1.mark hl (by rw [← eget]; exact hc)
        by_cases hE : k + 1 < s.size
        · have e1 : (k : Int) + 1 < s.size := by omega
          have HV := Lib.hid (show ∀ t : ByteArray, t.size ≤ 64 → plainB t = true → s.data.toList ≠ 34 :: (quoted t.data.toList ++ [34]) from fun t _ _ h => by have := (hm2 _ h).2; have := HS.out.2.2; omega)
          clear hm1 hm2 hE hc hks hl eget
          go_wp2_with fail
          have y9 := blk_three R9 (.int .i64 0) (.int .i64 0) (.string ⟨#[]⟩)
          have k9 := keep_three K9 (b := w.heap.size) (Nat.le_refl _) (.int .i64 0) (.int .i64 0) (.string ⟨#[]⟩)
          have s9 := blk_cell y9
          refine bodyPost_ret (v := .tuple #[.agg #[.int .i64 0, .int .i64 0, .string ⟨#[]⟩], .int .i64 4, .int .i64 (k + 1)]) (by simp [results, Tryz.results168, go_sem, s9]) rfl ?_
          exact zero_vp _ _ (textB_err HV.out (by decide)) k9
        · have e1 : ¬ (k : Int) + 1 < s.size := by omega
          have hC : TextB s (mkVal 2 0 ⟨t.toArray⟩) 0 := by
            refine ⟨fun t' _ _ h => ?_, fun _ => ⟨_, rfl, HR.out.2.1, plain_of HR.out.2.2, hm1 (by rw [HS.out.2.2]; omega)⟩⟩
            have := (hm2 _ h).1
            refine ⟨rfl, ?_⟩
            congr 2
            rw [← this]
          have HC := Lib.hid hC
          have hwd := (rWord_any ⟨t.toArray⟩ wr).mono (R' := fun e w8 => e = .returned (.agg #[.int .i64 2, .int .i64 0, .string ⟨t.toArray⟩]) ∧ w8.heap[w.heap.size]? = some (.cells #[.int .i64 0, .int .i64 0, .string ⟨#[]⟩] 96 (0, 0)) ∧ RowKit.Hid (Keep No w w8)) (by
            rintro e w8 ⟨rfl, hk⟩
            exact ⟨rfl, hk.blk R9 (fun x => x), K9.trans hk⟩)
          clear hm1 hm2 hE hc hks hl eget R9 K9 c9 z9 hC
          go_wp2_with (go_at_call 130; refine hwd.mono ?_; clear hwd; rintro e w8 ⟨rfl, R8, K8⟩; have c8 := blk_cell R8; have z8 := blk_fro R8)
          have y9 := blk_three R8 (.int .i64 2) (.int .i64 0) (.string ⟨t.toArray⟩)
          have k9 := keep_three K8.out (b := w.heap.size) (Nat.le_refl _) (.int .i64 2) (.int .i64 0) (.string ⟨t.toArray⟩)
          have s9 := blk_cell y9
          refine bodyPost_ret (v := .tuple #[.agg #[.int .i64 2, .int .i64 0, .string ⟨t.toArray⟩], .int .i64 0, .int .i64 0]) (by simp [results, Tryz.results168, go_sem, s9]) rfl ?_
          exact ⟨mkVal 2 0 ⟨t.toArray⟩, 0, 0, rfl, ⟨show (-9223372036854775808 : Int) ≤ 2 by decide, show (2 : Int) ≤ 9223372036854775807 by decide, show (-9223372036854775808 : Int) ≤ 0 by decide, show (0 : Int) ≤ 9223372036854775807 by decide⟩, h64, HC.out, k9⟩
      · have b0 : (((s[k]'hlt).toNat : Int) == 34) = false := by simp; exact fun e => hc (UInt8.toNat_inj.1 (by have : (34 : UInt8).toNat = 34 := rfl; omega))
        have hmore := fun t0 h => HR.out.1.more hl (by rw [← eget]; exact hc) t0 h
        have hpl := rmay_any (s[k]'hlt).toNat wr
        cases hP : plainC (s[k]'hlt).toNat with
        | false =>
          rw [hP] at hpl
          have HV := Lib.hid (show ∀ t : ByteArray, t.size ≤ 64 → plainB t = true → s.data.toList ≠ 34 :: (quoted t.data.toList ++ [34]) from fun t' _ hp h => by
            have hm := (hmore _ h).2
            rw [← eget] at hm
            have h92 : (s[k]'hlt) ≠ 92 := fun e => by rw [e] at hP; revert hP; decide
            have := plain_mem hp (hm h92)
            rw [hP] at this
            cases this)
          clear hmore hP hc hl eget hks
          go_wp2_with (go_at_call 173; refine hpl.mono ?_; clear hpl; rintro e w8 ⟨rfl, rfl⟩)
          have y9 := blk_three R9 (.int .i64 0) (.int .i64 0) (.string ⟨#[]⟩)
          have k9 := keep_three K9 (b := w.heap.size) (Nat.le_refl _) (.int .i64 0) (.int .i64 0) (.string ⟨#[]⟩)
          have s9 := blk_cell y9
          refine bodyPost_ret (v := .tuple #[.agg #[.int .i64 0, .int .i64 0, .string ⟨#[]⟩], .int .i64 21, .int .i64 k]) (by simp [results, Tryz.results168, go_sem, s9]) rfl ?_
          exact zero_vp _ _ (textB_err HV.out (by decide)) k9
        | true =>
          rw [hP] at hpl
          by_cases h6 : t.length = 64
          · have b6 : ((t.length : Int) == 64) = true := by simp; omega
            have HV := Lib.hid (show ∀ t : ByteArray, t.size ≤ 64 → plainB t = true → s.data.toList ≠ 34 :: (quoted t.data.toList ++ [34]) from fun t' ht _ h => by
              have hm := (hmore _ h).1
              have h9 : t'.data.toList.length = t'.size := by simp
              omega)
            clear hmore hc hl eget hks h6 hP
            go_wp2_with (go_at_call 173; refine hpl.mono ?_; clear hpl; rintro e w8 ⟨rfl, rfl⟩)
            have y9 := blk_three R9 (.int .i64 0) (.int .i64 0) (.string ⟨#[]⟩)
            have k9 := keep_three K9 (b := w.heap.size) (Nat.le_refl _) (.int .i64 0) (.int .i64 0) (.string ⟨#[]⟩)
            have s9 := blk_cell y9
            refine bodyPost_ret (v := .tuple #[.agg #[.int .i64 0, .int .i64 0, .string ⟨#[]⟩], .int .i64 1, .int .i64 k]) (by simp [results, Tryz.results168, go_sem, s9]) rfl ?_
            exact zero_vp _ _ (textB_err HV.out (by decide)) k9
          · have b6 : ((t.length : Int) == 64) = false := by simp; omega
            have H65 := Lib.hid (show t.length + 1 ≤ 64 by omega)
            have hc1 : ¬ 9223372036854775807 < t.length + 1 := by omega
            by_cases hs92 : (s[k]'hlt) = 92
            · have b9 : (((s[k]'hlt).toNat : Int) == 92) = true := by rw [hs92]; rfl
              by_cases hE : k + 1 < s.size
              · have e1 : ¬ (s.size : Int) ≤ (k : Int) + 1 := by omega
                have e2 : (k : Int) + 1 < s.size := by omega
                have e0 : (0 : Int) ≤ (k : Int) + 1 := by omega
                have eget1 := byte_get s (k + 1) hE
                have hsub := sub_one s (k + 1) hE
                by_cases hd : (s[k + 1]'hE) = 34 ∨ (s[k + 1]'hE) = 92
                · have hn := HR.out.1.slash (by have := HS.out.2.2; omega) (by rw [← eget]; exact hs92) (by rw [← eget1]; exact hd)
                  rw [← eget1] at hn
                  have hp9 : ∀ c ∈ t ++ [s[k + 1]'hE], plainC c.toNat = true := fun c hcm => by
                    rw [List.mem_append] at hcm
                    rcases hcm with h | h
                    · exact HR.out.2.2 c h
                    · simp at h; rw [h]; rcases hd with e | e <;> rw [e] <;> decide
                  have HN := Lib.hid (show ThisT s (k + 2) (t ++ [s[k + 1]'hE]) ∧ k + 1 < s.size from ⟨⟨hn, by rw [List.length_append]; exact H65.out, hp9⟩, hE⟩)
                  have hdd : ((s[k + 1]'hE).toNat = 34) ∨ ((s[k + 1]'hE).toNat ≠ 34 ∧ (s[k + 1]'hE).toNat = 92) := by
                    rcases hd with e | e
                    · left; rw [e]; rfl
                    · right; rw [e]; exact ⟨by decide, rfl⟩
                  clear hn hd hmore hc hl eget eget1 hs92 h6 hks hp9 hP
                  rcases hdd with e | ⟨e, e'⟩
                  · have f1 : (((s[k + 1]'hE).toNat : Int) != 34) = false := by rw [e]; rfl
                    clear e
                    go_wp2_with (go_at_call 173; refine hpl.mono ?_; clear hpl; rintro e w8 ⟨rfl, rfl⟩)
                    go_roundg (s.size - (k + 2))
                    case measure => omega
                    case rel => exact ⟨k + 2, _, by omega, by have := HN.out.2; omega, rfl, by rw [str_snoc], by simp; omega, HN.out.1, rfl⟩
                  · have f1 : (((s[k + 1]'hE).toNat : Int) != 34) = true := by simp; omega
                    have f2 : (((s[k + 1]'hE).toNat : Int) != 92) = false := by rw [e']; rfl
                    clear e e'
                    go_wp2_with (go_at_call 173; refine hpl.mono ?_; clear hpl; rintro e w8 ⟨rfl, rfl⟩)
                    go_roundg (s.size - (k + 2))
                    case measure => omega
                    case rel => exact ⟨k + 2, _, by omega, by have := HN.out.2; omega, rfl, by rw [str_snoc], by simp; omega, HN.out.1, rfl⟩
                · have HV := Lib.hid (show ∀ t : ByteArray, t.size ≤ 64 → plainB t = true → s.data.toList ≠ 34 :: (quoted t.data.toList ++ [34]) from fun t' _ _ => HR.out.1.noslash hl (by rw [← eget]; exact hs92) (fun h2 => by rw [← eget1]; exact ⟨fun e => hd (.inl e), fun e => hd (.inr e)⟩) _)
                  have f1 : (((s[k + 1]'hE).toNat : Int) != 34) = true := by simp; exact fun e => hd (.inl (UInt8.toNat_inj.1 (by have : (34 : UInt8).toNat = 34 := rfl; omega)))
                  have f2 : (((s[k + 1]'hE).toNat : Int) != 92) = true := by simp; exact fun e => hd (.inr (UInt8.toNat_inj.1 (by have : (92 : UInt8).toNat = 92 := rfl; omega)))
                  clear hd hmore hc hl eget eget1 hs92 h6 hks hP
                  go_wp2_with (go_at_call 173; refine hpl.mono ?_; clear hpl; rintro e w8 ⟨rfl, rfl⟩)
                  have y9 := blk_three R9 (.int .i64 0) (.int .i64 0) (.string ⟨#[]⟩)
                  have k9 := keep_three K9 (b := w.heap.size) (Nat.le_refl _) (.int .i64 0) (.int .i64 0) (.string ⟨#[]⟩)
                  have s9 := blk_cell y9
                  refine bodyPost_ret (v := .tuple #[.agg #[.int .i64 0, .int .i64 0, .string ⟨#[]⟩], .int .i64 21, .int .i64 (k + 1)]) (by simp [results, Tryz.results168, go_sem, s9]) rfl ?_
                  exact zero_vp _ _ (textB_err HV.out (by decide)) k9
              · have e1 : (s.size : Int) ≤ (k : Int) + 1 := by omega
                have HV := Lib.hid (show ∀ t : ByteArray, t.size ≤ 64 → plainB t = true → s.data.toList ≠ 34 :: (quoted t.data.toList ++ [34]) from fun t' _ _ => HR.out.1.noslash hl (by rw [← eget]; exact hs92) (fun h2 => absurd h2 (by rw [HS.out.2.2]; exact hE)) _)
                clear hmore hc hl eget hs92 h6 hks hE hP
                go_wp2_with (go_at_call 173; refine hpl.mono ?_; clear hpl; rintro e w8 ⟨rfl, rfl⟩)
                have y9 := blk_three R9 (.int .i64 0) (.int .i64 0) (.string ⟨#[]⟩)
                have k9 := keep_three K9 (b := w.heap.size) (Nat.le_refl _) (.int .i64 0) (.int .i64 0) (.string ⟨#[]⟩)
                have s9 := blk_cell y9
                refine bodyPost_ret (v := .tuple #[.agg #[.int .i64 0, .int .i64 0, .string ⟨#[]⟩], .int .i64 3, .int .i64 s.size]) (by simp [results, Tryz.results168, go_sem, s9]) rfl ?_
                exact zero_vp _ _ (textB_err HV.out (by decide)) k9
            · have b9 : (((s[k]'hlt).toNat : Int) == 92) = false := by simp; exact fun e => hs92 (UInt8.toNat_inj.1 (by have : (92 : UInt8).toNat = 92 := rfl; omega))
              have hn := HR.out.1.letter hl (by rw [← eget]; exact hc) (by rw [← eget]; exact hs92)
              rw [← eget] at hn
              have hsub := sub_one s k hlt
              have hp9 : ∀ c ∈ t ++ [s[k]'hlt], plainC c.toNat = true := fun c hcm => by
                rw [List.mem_append] at hcm
                rcases hcm with h | h
                · exact HR.out.2.2 c h
                · simp at h; rw [h]; exact hP
              have HN := Lib.hid (show ThisT s (k + 1) (t ++ [s[k]'hlt]) from ⟨hn, by rw [List.length_append]; exact H65.out, hp9⟩)
              clear hn hmore hc hl eget hs92 h6 hks hP hp9
              go_wp2_with (go_at_call 173; refine hpl.mono ?_; clear hpl; rintro e w8 ⟨rfl, rfl⟩)
              go_roundg (s.size - (k + 1))
              case measure => omega
              case rel => exact ⟨k + 1, _, by omega, by omega, rfl, by rw [str_snoc], by simp, HN.out, rfl⟩
    · obtain rfl : k = s.size := by omega
      have j1 : ¬ (s.size : Int) < s.size := by omega
      have HV := Lib.hid (show ∀ t : ByteArray, t.size ≤ 64 → plainB t = true → s.data.toList ≠ 34 :: (quoted t.data.toList ++ [34]) from fun t' _ _ => HR.out.1.over (by rw [HS.out.2.2]; exact Nat.le_refl _) _)
      clear hks hlt
      go_wp2_with fail
      have y9 := blk_three R9 (.int .i64 0) (.int .i64 0) (.string ⟨#[]⟩)
      have k9 := keep_three K9 (b := w.heap.size) (Nat.le_refl _) (.int .i64 0) (.int .i64 0) (.string ⟨#[]⟩)
      have s9 := blk_cell y9
      refine bodyPost_ret (v := .tuple #[.agg #[.int .i64 0, .int .i64 0, .string ⟨#[]⟩], .int .i64 3, .int .i64 s.size]) (by simp [results, Tryz.results168, go_sem, s9]) rfl ?_
      exact zero_vp _ _ (textB_err HV.out (by decide)) k9
end Go.Proofs.YtpjcebajkfeacaaGreatDoor
namespace Go.Proofs.YtpjcebajkfeacaaGreatDoor
open Go Go.RowKit Go.Deep
theorem vps_text {s : ByteArray} {v : Val} {er : Int} (h : TextB s v er) : VpS s.data.toList v er := fun e => by
  obtain ⟨t, rfl, h1, h2, h3⟩ := h.2 e
  refine ⟨?_, h3⟩
  show (if (2 : Int) = 0 then _ else if (2 : Int) = 1 then _ else if (2 : Int) = 2 then decide ((0 : Int) = 0) && decide (t.size ≤ 64) && plainB t else false) = true
  simp [h1, h2]
theorem vps_num {s : ByteArray} {v : Val} {er : Int} (h : NumB s v er) : VpS s.data.toList v er := fun e => by
  obtain ⟨h1, h2, h3⟩ := h.2 e
  refine ⟨?_, ?_⟩
  · unfold Val.ok
    rw [h1, h2]
    rfl
  · unfold Val.print
    rw [if_pos h1]
    exact h3
theorem vps_none {s : ByteArray} {v : Val} {er : Int} (h : NoneB s v er) : VpS s.data.toList v er := fun e => by
  obtain ⟨h1, rfl⟩ := h.2 e
  exact ⟨by decide, h1⟩
theorem vps_err {s : ByteArray} {v : Val} {er : Int} (h : er ≠ 0) : VpS s.data.toList v er := fun e => absurd e h
theorem vpc_none110 {s : ByteArray} (hh : s.data.toList.head? = some 110) {v : Val} {er : Int} (h : NoneB s v er) : VpC s.data.toList v er := vpc_none hh (by decide) h.1
theorem vpc_other {s : ByteArray} {c : UInt8} (hh : s.data.toList.head? = some c) (hc : c ≠ 34 ∧ c ≠ 45 ∧ ¬ dgt c) (hn : c ≠ 110) {v : Val} {er : Int} : VpC s.data.toList v er := vpc_none hh hc fun e => by
  rw [e] at hh
  exact absurd (Option.some.inj hh).symm hn
set_option maxRecDepth 10000 in
set_option maxHeartbeats 4000000 in
theorem rParse_any (s : ByteArray) (hs : s.size ≤ 1048576) (w : World) : Calls Tryz.prog 104 #[.string s] w (GivesVP (fun v er => VpC s.data.toList v er ∧ VpS s.data.toList v er) w) := by
  have x0 := blk_new w (.cells #[.int .i64 0, .int .i64 0, .string ⟨#[]⟩] 96)
  have K0 := (Keep.refl No w).alloc (.cells #[.int .i64 0, .int .i64 0, .string ⟨#[]⟩] 96)
  have hlen : s.data.toList.length = s.size := by simp
  have HE := Lib.hid hs
  have HX := Lib.hid (And.intro x0 K0)
  clear hs
  by_cases h0 : s.size = 0
  · have e0 : s = ⟨#[]⟩ := by
      obtain ⟨⟨l⟩⟩ := s
      cases l with
      | nil => rfl
      | cons _ _ => simp [ByteArray.size] at h0
    subst e0
    have c9 := blk_cell x0
    have z9 := blk_fro x0
    clear hlen h0
    go_enter Tryz.func104, Tryz.ntmps104
    go_wp2_with fail
    refine bodyPost_ret (v := .tuple #[.agg #[.int .i64 0, .int .i64 0, .string ⟨#[]⟩], .int .i64 3, .int .i64 0]) (by simp [results, Tryz.results104, go_sem, c9]) rfl ?_
    exact zero_vp _ _ ⟨vpc_nil rfl _ _, vps_err (s := ⟨#[]⟩) (by decide)⟩ K0
  · have hp : 0 < s.size := by omega
    have j0 : (0 : Int) < s.size := by omega
    have hh : s.data.toList.head? = some (s[0]'hp) := by rw [List.head?_eq_getElem?, List.getElem?_eq_getElem (by omega), byte_get]
    have hne : s.toList.isEmpty = false := by rw [empty_iff]; exact decide_eq_false h0
    have wrap : ∀ {C : Val → Int → Prop} {e : Ending} {w' : World}, (∀ v er, C v er → VpC s.data.toList v er ∧ VpS s.data.toList v er) → GivesVP C (w.alloc (.cells #[.int .i64 0, .int .i64 0, .string ⟨#[]⟩] 96)) e w' → ∃ (v : Val) (er at' : Int), e = .returned (.tuple #[.agg #[.int .i64 v.kind, .int .i64 v.num, .string v.text], .int .i64 er, .int .i64 at']) ∧ w'.heap[w.heap.size]? = some (.cells #[.int .i64 0, .int .i64 0, .string ⟨#[]⟩] 96 (0, 0)) ∧ RowKit.Hid (v.In ∧ v.text.size ≤ 64 ∧ (VpC s.data.toList v er ∧ VpS s.data.toList v er) ∧ True ∧ Keep No w w') := by
      rintro C e w' hi ⟨v, er, at', he, hv⟩
      exact ⟨v, er, at', he, hv.out.2.2.2.blk HX.out.1 (fun x => x), hv.out.1, hv.out.2.1, hi _ _ hv.out.2.2.1, trivial, HX.out.2.trans hv.out.2.2.2⟩
    have c0 := blk_cell HX.out.1
    by_cases hn : (s[0]'hp) = 110
    · have b0 : (((s[0]'hp).toNat : Int) == 110) = true := by rw [hn]; rfl
      rw [hn] at hh
      have hc := (nothing9_any s HE.out (w.alloc (.cells #[.int .i64 0, .int .i64 0, .string ⟨#[]⟩] 96))).mono fun e w' hg => wrap (fun v er h => ⟨vpc_none110 hh h, vps_none h⟩) hg
      clear wrap hn hh h0 hlen x0 K0
      go_enter Tryz.func104, Tryz.ntmps104
      go_wp2_with (first | (go_at_call 167; refine hc.mono ?_; clear hc c0; rintro e w8 ⟨v, er, at', rfl, R8, H8⟩; have c8 := blk_cell R8; have z8 := blk_fro R8))
      have y9 := blk_three R8 (.int .i64 v.kind) (.int .i64 v.num) (.string v.text)
      have k9 := keep_three H8.out.2.2.2.2 (b := w.heap.size) (Nat.le_refl _) (.int .i64 v.kind) (.int .i64 v.num) (.string v.text)
      have s9 := blk_cell y9
      refine bodyPost_ret (v := .tuple #[.agg #[.int .i64 v.kind, .int .i64 v.num, .string v.text], .int .i64 er, .int .i64 at']) (by simp [results, Tryz.results104, go_sem, s9]) rfl ?_
      exact ⟨v, er, at', rfl, H8.out.1, H8.out.2.1, H8.out.2.2.1, k9⟩
    · have b0 : (((s[0]'hp).toNat : Int) == 110) = false := by simp; exact fun e => hn (UInt8.toNat_inj.1 (by have : (110 : UInt8).toNat = 110 := rfl; omega))
      by_cases hq : (s[0]'hp) = 34
      · have b1 : (((s[0]'hp).toNat : Int) == 34) = true := by rw [hq]; rfl
        rw [hq] at hh
        have hc := (word9v_any s hh HE.out (w.alloc (.cells #[.int .i64 0, .int .i64 0, .string ⟨#[]⟩] 96))).mono fun e w' hg => wrap (fun v er h => ⟨vpc_text hh h.1, vps_text h⟩) hg
        clear wrap hn hq hh h0 hlen x0 K0
        go_enter Tryz.func104, Tryz.ntmps104
        go_wp2_with (first | (go_at_call 168; refine hc.mono ?_; clear hc c0; rintro e w8 ⟨v, er, at', rfl, R8, H8⟩; have c8 := blk_cell R8; have z8 := blk_fro R8))
        have y9 := blk_three R8 (.int .i64 v.kind) (.int .i64 v.num) (.string v.text)
        have k9 := keep_three H8.out.2.2.2.2 (b := w.heap.size) (Nat.le_refl _) (.int .i64 v.kind) (.int .i64 v.num) (.string v.text)
        have s9 := blk_cell y9
        refine bodyPost_ret (v := .tuple #[.agg #[.int .i64 v.kind, .int .i64 v.num, .string v.text], .int .i64 er, .int .i64 at']) (by simp [results, Tryz.results104, go_sem, s9]) rfl ?_
        exact ⟨v, er, at', rfl, H8.out.1, H8.out.2.1, H8.out.2.2.1, k9⟩
      · have b1 : (((s[0]'hp).toNat : Int) == 34) = false := by simp; exact fun e => hq (UInt8.toNat_inj.1 (by have : (34 : UInt8).toNat = 34 := rfl; omega))
        have hdg := rdigit_any s 0 (w.alloc (.cells #[.int .i64 0, .int .i64 0, .string ⟨#[]⟩] 96))
        by_cases hm : (s[0]'hp) = 45
        · have b2 : (((s[0]'hp).toNat : Int) == 45) = true := by rw [hm]; rfl
          have hc := (number9v_any s hp HE.out (.inl hm) (w.alloc (.cells #[.int .i64 0, .int .i64 0, .string ⟨#[]⟩] 96))).mono fun e w' hg => wrap (fun v er h => ⟨vpc_num hh ⟨hq, hn⟩ h.1, vps_num h⟩) hg
          clear wrap hn hq hh h0 hlen x0 K0 hm hdg
          go_enter Tryz.func104, Tryz.ntmps104
          go_wp2_with (first | (go_at_call 170; refine hc.mono ?_; clear hc c0; rintro e w8 ⟨v, er, at', rfl, R8, H8⟩; have c8 := blk_cell R8; have z8 := blk_fro R8))
          have y9 := blk_three R8 (.int .i64 v.kind) (.int .i64 v.num) (.string v.text)
          have k9 := keep_three H8.out.2.2.2.2 (b := w.heap.size) (Nat.le_refl _) (.int .i64 v.kind) (.int .i64 v.num) (.string v.text)
          have s9 := blk_cell y9
          refine bodyPost_ret (v := .tuple #[.agg #[.int .i64 v.kind, .int .i64 v.num, .string v.text], .int .i64 er, .int .i64 at']) (by simp [results, Tryz.results104, go_sem, s9]) rfl ?_
          exact ⟨v, er, at', rfl, H8.out.1, H8.out.2.1, H8.out.2.2.1, k9⟩
        · have b2 : (((s[0]'hp).toNat : Int) == 45) = false := by simp; exact fun e => hm (UInt8.toNat_inj.1 (by have : (45 : UInt8).toNat = 45 := rfl; omega))
          cases hd : digB s 0 with
          | true =>
            rw [hd] at hdg
            have hc := (number9v_any s hp HE.out (.inr hd) (w.alloc (.cells #[.int .i64 0, .int .i64 0, .string ⟨#[]⟩] 96))).mono fun e w' hg => wrap (fun v er h => ⟨vpc_num hh ⟨hq, hn⟩ h.1, vps_num h⟩) hg
            clear wrap hn hq hh h0 hlen x0 K0 hm hd
            go_enter Tryz.func104, Tryz.ntmps104
            go_wp2_with (first | (go_at_call 170; refine hc.mono ?_; clear hc c0; rintro e w8 ⟨v, er, at', rfl, R8, H8⟩; have c8 := blk_cell R8; have z8 := blk_fro R8) | (go_at_call 169; refine hdg.mono ?_; clear hdg; rintro e w7 ⟨rfl, rfl⟩))
            have y9 := blk_three R8 (.int .i64 v.kind) (.int .i64 v.num) (.string v.text)
            have k9 := keep_three H8.out.2.2.2.2 (b := w.heap.size) (Nat.le_refl _) (.int .i64 v.kind) (.int .i64 v.num) (.string v.text)
            have s9 := blk_cell y9
            refine bodyPost_ret (v := .tuple #[.agg #[.int .i64 v.kind, .int .i64 v.num, .string v.text], .int .i64 er, .int .i64 at']) (by simp [results, Tryz.results104, go_sem, s9]) rfl ?_
            exact ⟨v, er, at', rfl, H8.out.1, H8.out.2.1, H8.out.2.2.1, k9⟩
          | false =>
            rw [hd] at hdg
            have HV := Lib.hid (show VpC s.data.toList val0 21 ∧ VpS s.data.toList val0 21 from ⟨vpc_other hh ⟨hq, hm, digB_false hd hp⟩ hn, vps_err (by decide)⟩)
            have R8 := x0
            have c9 := blk_cell R8
            have z9 := blk_fro R8
            clear wrap hn hq hh h0 hlen hm hd
            go_enter Tryz.func104, Tryz.ntmps104
            go_wp2_with (go_at_call 169; refine hdg.mono ?_; clear hdg; rintro e w7 ⟨rfl, rfl⟩)
            refine bodyPost_ret (v := .tuple #[.agg #[.int .i64 0, .int .i64 0, .string ⟨#[]⟩], .int .i64 21, .int .i64 0]) (by simp [results, Tryz.results104, go_sem, c9]) rfl ?_
            exact zero_vp _ _ HV.out K0
end Go.Proofs.YtpjcebajkfeacaaGreatDoor
