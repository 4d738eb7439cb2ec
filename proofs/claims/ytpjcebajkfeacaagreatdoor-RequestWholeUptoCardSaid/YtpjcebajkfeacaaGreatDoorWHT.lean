/-
  Parts of what is proved for this claim; each declaration is one of the seat's texts.
-/
import Derived.Test.YtpjcebajkfeacaaGreatDoorWGA
import Derived.Test.YtpjcebajkfeacaaGreatDoorWGB
import Derived.Test.YtpjcebajkfeacaaGreatDoorWGC
import Derived.Test.YtpjcebajkfeacaaGreatDoorWGF
import Derived.Test.YtpjcebajkfeacaaGreatDoorWGI
import Derived.Test.YtpjcebajkfeacaaGreatDoorWGJ
import Derived.Test.YtpjcebajkfeacaaGreatDoorWGQ
import Derived.Test.YtpjcebajkfeacaaGreatDoorWHD
import Derived.Test.YtpjcebajkfeacaaGreatDoorWHL
import Derived.WalkKit
import Derived.WalkSpells
import Derived.WalkLawsBesides
import Derived.ProofKit
import Derived.Deep.Slices
import Derived.Deep.AppendSrc
import Derived.Lib.Hide
import Derived.Lib.EndianBits
import Derived.OpenShut
import Derived.Still
import Derived.StillTactics
import Derived.Recover
import Derived.Defers
import Derived.Deep.QuietTactic
import Derived.BigQuiet
import Derived.Handy
import Derived.Laws.Bits64b
import Derived.Lib.Zigzag
import Derived.Deep.LoopGhost
import Derived.Deep.DeepCutAuto
import Derived.OwnWalk
import Derived.Lib.Bytealg
import Derived.Laws.Externs
import Derived.Laws.CopyRow
import Derived.Laws.IdiomCopy
import Derived.Maps.OwnSet
import Derived.Maps.RangeWalk
import Derived.Shelf.SortM.Plain
import Derived.Shelf.SortM.SortNone
import Derived.Ground.SlgmProg
import Derived.Maps.OwnOps
import Derived.Lib.ItoaNum
import Derived.Lib.Join
import Derived.Deep.WholeRow
import Derived.Shelf.Strconv.Itoa4
import Derived.Shelf.Strings.BuilderK
import Derived.Shelf.Strings.OnBuilder
import Derived.Ground.NamesProg
import Derived.Lib.AppendIntMem
import Derived.Lib.UnsafeStr
import Derived.Maps.Views
set_option linter.unusedVariables false
set_option linter.unusedSimpArgs false
namespace Go.Proofs.YtpjcebajkfeacaaGreatDoor
open Go Go.RowKit Go.Deep
def stepC (z : Int) : Int := if bits BinOp.and IntKind.u32 z 1 = 1 then bits BinOp.xor IntKind.u32 (z / 2) 3988292384 else z / 2
def itC : Nat → Int → Int
  | 0, z => z
  | j + 1, z => stepC (itC j z)
def byteC (x y : Int) : Int := itC 8 (bits BinOp.xor IntKind.u32 x y)
def sumC (l : Bytes) : Int := l.foldl byteC 4294967295
def sumB (l : Bytes) : Int := bits BinOp.xor IntKind.u32 IntKind.u32.max (sumC l)
theorem sumC_snoc (l : Bytes) (k : Nat) (h : k < l.length) : sumC (l.take (k + 1)) = byteC (sumC (l.take k)) l[k] := by
  unfold sumC
  rw [List.take_succ_eq_append_getElem h, List.foldl_append]
  rfl
theorem u32_range {n : Int} (h : (Lit.int .u32 n).wf = true) : 0 ≤ n ∧ n < 4294967296 := by
  simp [Lit.wf, IntKind.min, IntKind.max, IntKind.signed, IntKind.bits] at h; omega
theorem sumB_range (l : Bytes) : 0 ≤ sumB l ∧ sumB l < 4294967296 := u32_range (Go.wf_bits _ _ _ _)
def put4B (n : Int) : Bytes := [n % 256, n / 256 % 256, n / 65536 % 256, n / 16777216 % 256]
def get4B (l : Bytes) : Int := l.getD 0 0 + l.getD 1 0 * 256 + l.getD 2 0 * 65536 + l.getD 3 0 * 16777216
theorem get4_put4 (n : Int) (h0 : 0 ≤ n) (h1 : n < 4294967296) (r : Bytes) : get4B (put4B n ++ r) = n := by
  simp only [get4B, put4B, List.cons_append, List.nil_append, List.getD_cons_zero, List.getD_cons_succ]
  omega
theorem put4_all (n : Int) : AllB (put4B n) := by
  intro x hx
  simp only [put4B, List.mem_cons, List.not_mem_nil, or_false] at hx
  rcases hx with rfl | rfl | rfl | rfl <;> exact ⟨by omega, by omega⟩
theorem put4_length (n : Int) : (put4B n).length = 4 := rfl
theorem get4_range {l : Bytes} (hA : AllB l) : 0 ≤ get4B l ∧ get4B l < 4294967296 := by
  have h : ∀ i, 0 ≤ l.getD i 0 ∧ l.getD i 0 < 256 := fun i => by
    by_cases hi : i < l.length
    · rw [List.getD_eq_getElem?_getD, List.getElem?_eq_getElem hi]; exact hA _ (List.getElem_mem hi)
    · rw [List.getD_eq_getElem?_getD, List.getElem?_eq_none (by omega)]; exact ⟨by simp, by simp⟩
  have h0 := h 0; have h1 := h 1; have h2 := h 2; have h3 := h 3
  unfold get4B
  omega
theorem get4_more {l : Bytes} (h : 4 ≤ l.length) (r : Bytes) : get4B (l ++ r) = get4B l := by
  match l, h with
  | a :: b :: c :: d :: l, _ => rfl
def headB (load : Bytes) : Bytes := put4B load.length ++ load
def sealB (load : Bytes) : Bytes := headB load ++ put4B (sumB (headB load))
def openB (b : Bytes) : Bytes × Nat × Int :=
  if b.length < 4 then ([], 0, 3)
  else if 65536 < get4B b then ([], 0, 1)
  else if b.length < 4 + (get4B b).toNat + 4 then ([], 0, 3)
  else if sumB (b.take (4 + (get4B b).toNat)) ≠ get4B (b.drop (4 + (get4B b).toNat)) then ([], 0, 12)
  else ((b.take (4 + (get4B b).toNat)).drop 4, 4 + (get4B b).toNat + 4, 0)
theorem open_seal (load r : Bytes) (h : load.length ≤ 65536) : openB (sealB load ++ r) = (load, 4 + load.length + 4, 0) := by
  have hg : get4B (sealB load ++ r) = load.length := by
    unfold sealB headB
    rw [List.append_assoc, List.append_assoc]
    exact get4_put4 _ (by omega) (by omega) _
  have hl : (sealB load ++ r).length = 4 + load.length + 4 + r.length := by
    simp only [sealB, headB, List.length_append, put4_length]
  have hh : (headB load).length = 4 + load.length := by simp only [headB, List.length_append, put4_length]
  unfold openB
  rw [hg, Int.toNat_natCast, if_neg (by omega), if_neg (by omega), if_neg (by omega)]
  have ht : (sealB load ++ r).take (4 + load.length) = headB load := by
    unfold sealB
    rw [List.append_assoc, List.take_left' hh]
  have hd : (sealB load ++ r).drop (4 + load.length) = put4B (sumB (headB load)) ++ r := by
    unfold sealB
    rw [List.append_assoc, List.drop_left' hh]
  have hs := sumB_range (headB load)
  rw [ht, hd, get4_put4 _ hs.1 hs.2, if_neg (by simp)]
  rfl
theorem open_more {b : Bytes} (h : (openB b).2.2 ≠ 3) (r : Bytes) : openB (b ++ r) = openB b := by
  unfold openB at h ⊢
  by_cases h4 : b.length < 4
  · rw [if_pos h4] at h; exact absurd rfl h
  · rw [if_neg h4] at h
    have hg := get4_more (l := b) (by omega) r
    rw [if_neg h4, hg, if_neg (by rw [List.length_append]; omega)]
    by_cases h6 : 65536 < get4B b
    · rw [if_pos h6, if_pos h6]
    · rw [if_neg h6] at h
      rw [if_neg h6, if_neg h6]
      by_cases h8 : b.length < 4 + (get4B b).toNat + 4
      · rw [if_pos h8] at h; exact absurd rfl h
      · have ht : (b ++ r).take (4 + (get4B b).toNat) = b.take (4 + (get4B b).toNat) := List.take_append_of_le_length (by omega)
        have hd : (b ++ r).drop (4 + (get4B b).toNat) = b.drop (4 + (get4B b).toNat) ++ r := List.drop_append_of_le_length (by omega)
        rw [if_neg h8, if_neg (by rw [List.length_append]; omega), ht, hd, get4_more (by rw [List.length_drop]; omega)]
theorem open_took (b : Bytes) (h : (openB b).2.2 = 0) : 8 ≤ (openB b).2.1 ∧ (openB b).2.1 ≤ b.length ∧ (openB b).2.1 = (openB b).1.length + 8 ∧ (openB b).1.length ≤ 65536 := by
  unfold openB at h ⊢
  by_cases h4 : b.length < 4
  · rw [if_pos h4] at h; simp at h
  · rw [if_neg h4] at h ⊢
    by_cases h6 : 65536 < get4B b
    · rw [if_pos h6] at h; simp at h
    · rw [if_neg h6] at h ⊢
      by_cases h8 : b.length < 4 + (get4B b).toNat + 4
      · rw [if_pos h8] at h; simp at h
      · rw [if_neg h8] at h ⊢
        by_cases h9 : sumB (b.take (4 + (get4B b).toNat)) ≠ get4B (b.drop (4 + (get4B b).toNat))
        · rw [if_pos h9] at h; simp at h
        · rw [if_neg h9]
          simp only [List.length_drop, List.length_take]
          omega
end Go.Proofs.YtpjcebajkfeacaaGreatDoor
namespace Go.Proofs.YtpjcebajkfeacaaGreatDoor
open Go Go.RowKit Go.Deep
set_option maxRecDepth 10000 in
set_option maxHeartbeats 1000000 in
theorem Sum_any (w : World) (S : Nat → Prop) (a : Option Addr) (n c : Nat) (l : Bytes) (h : Rd bytesSh w S [.slice a n c] l) : Calls Tryz.prog 146 #[.slice a n c] w fun e w' => e = .returned (.int .u32 (sumB l)) ∧ w' = w := by
  have HH := Lib.hid h
  clear h
  go_enter Tryz.func146, Tryz.ntmps146
  go_wp2_with fail
  go_loopg [3, 8] n (fun g s i wr => ∃ (k : Nat) (x : Int), k ≤ n ∧ g = n - k ∧ s = .int .u32 x ∧ i = .int .i64 k ∧ wr = w ∧ RowKit.Hid (x = sumC (l.take k)))
  case atStart => exact ⟨0, _, by omega, by omega, rfl, rfl, rfl, rfl⟩
  case round =>
    obtain ⟨k, x, hk, rfl, rfl, rfl, rfl, HX⟩ := hrel
    obtain ⟨a', c', hv, hle, hmax, hnil, hel⟩ := bytes_at HH.out
    simp only [Value.slice.injEq] at hv
    obtain ⟨rfl, hn, rfl⟩ := hv
    by_cases hlt : k < n
    · have j1 : (k : Int) < n := by omega
      have j0 : (0 : Int) ≤ k := by omega
      rw [maxLen_is] at hmax
      have j3 : (k : Int) ≤ 9223372036854775806 := by omega
      obtain ⟨b, off, h1, h2, h3, h4, h5, h6, h7⟩ := hel k (by omega)
      have hy := sumC_snoc l k (by omega)
      generalize l[k] = y at *
      have HS := Lib.hid (And.intro hlt hy)
      subst h1
      clear hel hnil hmax hle hy hlt hn h2 h3 h5
      go_wp2_with fail
      go_loopg [3, 16] 8 (fun g s i wq => ∃ (j : Nat) (z : Int), j ≤ 8 ∧ g = 8 - j ∧ s = .int .u32 z ∧ i = .int .i64 j ∧ wq = wr ∧ RowKit.Hid (z = itC j (bits BinOp.xor IntKind.u32 x y)))
      case atStart => exact ⟨0, _, by omega, by omega, rfl, rfl, rfl, rfl⟩
      case round =>
        obtain ⟨j, z, hj, rfl, rfl, rfl, rfl, HZ⟩ := hrel
        by_cases hjl : j < 8
        · have e1 : (j : Int) < 8 := by omega
          have e0 : (0 : Int) ≤ j := by omega
          have HJ := Lib.hid hjl
          clear hjl hj
          by_cases hb : bits BinOp.and IntKind.u32 z 1 = 1
          · have hb' : (bits BinOp.and IntKind.u32 z 1 == 1) = true := by simpa using hb
            have HB := Lib.hid hb
            clear hb
            go_wp2_with fail
            go_roundg (8 - (j + 1))
            case measure => have := HJ.out; omega
            case rel => exact ⟨j + 1, _, by have := HJ.out; omega, rfl, rfl, by simp, rfl, by
              show _ = stepC (itC j _)
              rw [← HZ.out]; unfold stepC; rw [if_pos HB.out]⟩
          · have hb' : (bits BinOp.and IntKind.u32 z 1 == 1) = false := by simpa using hb
            have HB := Lib.hid hb
            clear hb
            go_wp2_with fail
            go_roundg (8 - (j + 1))
            case measure => have := HJ.out; omega
            case rel => exact ⟨j + 1, _, by have := HJ.out; omega, rfl, rfl, by simp, rfl, by
              show _ = stepC (itC j _)
              rw [← HZ.out]; unfold stepC; rw [if_neg HB.out]⟩
        · have e1 : ¬ (j : Int) < 8 := by omega
          obtain rfl : j = 8 := by omega
          clear hjl hj
          go_wp2_with fail
          go_roundg (n - (k + 1))
          case measure => have := HS.out.1; omega
          case rel => exact ⟨k + 1, _, HS.out.1, rfl, rfl, by simp, rfl, by rw [HS.out.2, ← HX.out]; exact HZ.out⟩
    · have j1 : ¬ (k : Int) < n := by omega
      have hkn : k = n := by omega
      have HK := Lib.hid (And.intro hkn hn)
      clear hkn hn hk hlt hel hnil hmax hle
      go_wp2_with fail
      go_ret
      refine ⟨?_, rfl⟩
      have := HX.out
      rw [HK.out.1, HK.out.2, List.take_length] at this
      rw [this]
      rfl
set_option maxRecDepth 10000 in
set_option maxHeartbeats 1000000 in
theorem get4_any (w : World) (S : Nat → Prop) (a : Option Addr) (n c : Nat) (l : Bytes) (h : Rd bytesSh w S [.slice a n c] l) (h4 : 4 ≤ n) : Calls Tryz.prog 145 #[.slice a n c] w (Looks w (.int .u32 (get4B l))) := by
  obtain ⟨a', c', hv, hle, hmax, hnil, hel⟩ := bytes_at h
  simp only [Value.slice.injEq] at hv
  obtain ⟨rfl, hn, rfl⟩ := hv
  obtain ⟨b, off, h1, -, -, q0, -, r0, r0'⟩ := hel 0 (by omega)
  obtain ⟨b1, off1, h11, -, -, q1, -, r1, r1'⟩ := hel 1 (by omega)
  obtain ⟨b2, off2, h12, -, -, q2, -, r2, r2'⟩ := hel 2 (by omega)
  obtain ⟨b3, off3, h13, -, -, q3, -, r3, r3'⟩ := hel 3 (by omega)
  rw [h1] at h11 h12 h13
  cases h11; cases h12; cases h13
  have hg : get4B l = l[0] + l[1] * 256 + l[2] * 65536 + l[3] * 16777216 := by
    unfold get4B
    simp [List.getD_eq_getElem?_getD, List.getElem?_eq_getElem, show 0 < l.length by omega, show 1 < l.length by omega, show 2 < l.length by omega, show 3 < l.length by omega]
  generalize l[0] = y0 at *
  generalize l[1] = y1 at *
  generalize l[2] = y2 at *
  generalize l[3] = y3 at *
  have HG := Lib.hid hg
  rw [Nat.add_zero] at q0
  subst h1
  have j0 : (0 : Int) < n := by omega
  have j1 : (1 : Int) < n := by omega
  have j2 : (2 : Int) < n := by omega
  have j3 : (3 : Int) < n := by omega
  clear hg hel hnil hmax hle hn h h4
  go_enter Tryz.func145, Tryz.ntmps145
  go_wp2
  go_quiet (fail)
  go_wp2
  go_ret
  refine ⟨nq, ?_, rfl⟩
  rw [HG.out, u32_or8 (y := y0) (x := y1 * 256) r0 r0' (by omega) (by omega) (by omega), u32_or16 (y := y0 + y1 * 256) (x := y2 * 65536) (by omega) (by omega) (by omega) (by omega) (by omega),
    u32_or24 (y := y0 + y1 * 256 + y2 * 65536) (x := y3 * 16777216) (by omega) (by omega) (by omega) (by omega) (by omega)]
  rfl
theorem app_four {w0 w : World} {v : Value} {l : Bytes} (h : OwnB w0 w v l) (n : Int) (h0 : 0 ≤ n) (h1 : n < 4294967296) (hl : l.length + 4 ≤ 140737488355328) :
    ∃ a c w', (Builtin.append_ #[25, 25] 25 #[v, .slice (some ⟨w.heap.size, 0, none⟩) 4 4]).run Tryz.prog (w.alloc (.cells #[.int .u8 (n % 256), .int .u8 (n / 256 % 256), .int .u8 (n / 65536 % 256), .int .u8 (n / 16777216)] 5)) = .ok (.slice a (l.length + 4) c) w' ∧ OwnB w0 w' (.slice a (l.length + 4) c) (l ++ put4B n) := by
  have e : n / 16777216 = n / 16777216 % 256 := by omega
  rw [e]
  exact app_src h ((Keep.refl No w).alloc _) (xs := put4B n) (Src.ofBlock Tryz.underlying25 w.heap.size 4 4 #[.int .u8 (n % 256), .int .u8 (n / 256 % 256), .int .u8 (n / 65536 % 256), .int .u8 (n / 16777216 % 256)] 5 _ (blk_new w _) rfl (fun u hu => by simp at hu; rcases hu with rfl | rfl | rfl | rfl <;> rfl)) (put4_all n) hl
set_option maxRecDepth 10000 in
set_option maxHeartbeats 1000000 in
theorem put4_any (w0 w : World) (v : Value) (l : Bytes) (h : OwnB w0 w v l) (hl : l.length + 4 ≤ 140737488355328) (n : Int) (h0 : 0 ≤ n) (h1 : n < 4294967296) : Calls Tryz.prog 148 #[v, .int .u32 n] w fun e w' => ∃ a c, e = .returned (.slice a (l.length + 4) c) ∧ RowKit.Hid (OwnB w0 w' (.slice a (l.length + 4) c) (l ++ put4B n)) := by
  obtain ⟨a0, c0, rfl, -⟩ := Own.form h.1
  obtain ⟨a, c, w', hrun, ho⟩ := app_four h n h0 h1 hl
  have HO := Lib.hid ho
  clear ho h
  go_enter Tryz.func148, Tryz.ntmps148
  go_wp2_with (at_builtin; refine wpList_app rfl (.tmp 5) (.tmp 17) 25 25 rfl rfl rfl hrun ?_)
  go_ret
  exact ⟨a, c, rfl, HO.out⟩
end Go.Proofs.YtpjcebajkfeacaaGreatDoor
namespace Go.Proofs.YtpjcebajkfeacaaGreatDoor
open Go Go.RowKit Go.Deep
set_option maxRecDepth 10000 in
set_option maxHeartbeats 1000000 in
theorem Seal_any (w : World) (S : Nat → Prop) (a : Option Addr) (n c : Nat) (l : Bytes) (h : Rd bytesSh w S [.slice a n c] l) (hn : l.length = n) :
    Calls Tryz.prog 87 #[.slice a n c] w (PutsC w (if 65536 < l.length then [] else sealB l) (if 65536 < l.length then 1 else 0)) := by
  by_cases hlt : 65536 < n
  · have j1 : (65536 : Int) < (n : Int) := by omega
    rw [if_pos (by omega), if_pos (by omega)]
    clear h hn hlt
    go_enter Tryz.func87, Tryz.ntmps87
    go_wp2_with fail
    go_ret2
    exact ⟨none, 0, 0, rfl, Own.nil _ _ _ _, Keep.refl _ _⟩
  · have j1 : (n : Int) ≤ 65536 := by omega
    have j0 : (0 : Int) ≤ (n : Int) := by omega
    rw [if_neg (by omega), if_neg (by omega)]
    have hp := (put4_any w w (.slice none 0 0) [] ⟨Own.nil _ _ _ _, Keep.refl _ _⟩ (by simp) (n : Int) (by omega) (by omega)).mono (R' := fun e w2 => ∃ a1 c1, e = .returned (.slice a1 4 c1) ∧ ∃ a2 c2 w3, (Builtin.append_ #[25, 25] 25 #[.slice a1 4 c1, .slice a n c]).run Tryz.prog w2 = .ok (.slice a2 (4 + n) c2) w3 ∧ RowKit.Hid (OwnB w w3 (.slice a2 (4 + n) c2) (headB l))) (by
      rintro e w2 ⟨a1, c1, rfl, ho⟩
      obtain ⟨a2, c2, w3, hrun, ho3⟩ := app_slice ho.out (h.agree _ ho.out.2.agreeNo) (by simp [put4_length]; omega)
      simp only [List.nil_append, put4_length, hn] at hrun ho3
      refine ⟨a1, c1, rfl, a2, c2, w3, hrun, ?_⟩
      unfold headB
      rw [hn]
      exact ho3)
    have HN := Lib.hid (And.intro hn hlt)
    clear h hn hlt
    go_enter Tryz.func87, Tryz.ntmps87
    go_wp2_with (first | (go_at_call 148; refine hp.mono ?_; clear hp; rintro e w2 ⟨a1, c1, rfl, a2, c2, w3, hrun, HO⟩) | (at_builtin; refine wpList_app rfl (.tmp 11) (.tmp 12) 25 25 rfl rfl rfl hrun ?_))
    have hs := Sum_any w3 _ a2 (4 + n) c2 (headB l) HO.out.rd
    have hr := sumB_range (headB l)
    have hp := (put4_any w w3 (.slice a2 (4 + n) c2) (headB l) HO.out (by have := HO.out.len; have := HN.out; omega) (sumB (headB l)) hr.1 hr.2).mono (R' := fun e w4 => ∃ a3 m3 c3, e = .returned (.slice a3 m3 c3) ∧ RowKit.Hid (OwnB w w4 (.slice a3 m3 c3) (sealB l))) (by
      rintro e w4 ⟨a3, c3, rfl, ho⟩
      exact ⟨a3, _, c3, rfl, ho.out⟩)
    have HP := Lib.hid hp
    clear hp hr hrun
    generalize sumB (headB l) = sm at *
    refine hs.mono ?_
    clear hs
    rintro e w20 ⟨rfl, rfl⟩
    have hp := HP.out
    go_wp2_with fail
    refine hp.mono ?_
    clear hp HP HO
    rintro e w4 ⟨a3, m3, c3, rfl, HO4⟩
    go_wp2_with fail
    go_ret2
    exact ⟨a3, m3, c3, rfl, HO4.out⟩
def GivesOp (w : World) (x : Bytes × Nat × Int) (e : Ending) (w' : World) : Prop := ∃ a n k, e = .returned (.tuple #[.slice a n k, .int .i64 x.2.1, .int .i64 x.2.2]) ∧ OwnB w w' (.slice a n k) x.1
theorem ownB_nil {w w' : World} (hk : Keep No w w') : OwnB w w' (.slice none 0 0) [] := ⟨Own.nil _ _ _ _, hk⟩
theorem rdb_drop {w : World} {S : Nat → Prop} {b off n c : Nat} {l : Bytes} (h : Rd bytesSh w S [.slice (some ⟨b, off, none⟩) n c] l) (k : Nat) (hk : k ≤ l.length) : Rd bytesSh w S [.slice (some ⟨b, off + k, none⟩) (n - k) (c - k)] (l.drop k) := by
  have hn : n = l.length := by
    obtain ⟨a', c', hv, -⟩ := bytes_at h
    simp only [Value.slice.injEq] at hv
    exact hv.2.1
  have := rd_drop h k hk
  rw [← hn] at this
  simpa [Sh.size] using this
set_option maxRecDepth 10000 in
set_option maxHeartbeats 2000000 in
theorem Open_any (w : World) (S : Nat → Prop) (a : Option Addr) (n c : Nat) (l : Bytes) (h : Rd bytesSh w S [.slice a n c] l) (hn : l.length = n) :
    Calls Tryz.prog 85 #[.slice a n c] w (GivesOp w (openB l)) := by
  by_cases h4 : n < 4
  · have j1 : (n : Int) < 4 := by omega
    have e : openB l = ([], 0, 3) := by unfold openB; rw [if_pos (by omega)]
    rw [e]
    clear h hn h4 e
    go_enter Tryz.func85, Tryz.ntmps85
    go_wp2_with fail
    go_ret3
    exact ⟨none, 0, 0, rfl, ownB_nil (Keep.refl _ _)⟩
  · have j1 : ¬ (n : Int) < 4 := by omega
    have hg := get4_any w S a n c l h (by omega)
    have hgr := get4_range (bytes_all h)
    have hA := bytes_all h
    obtain ⟨g, hgg⟩ : ∃ g, get4B l = g := ⟨_, rfl⟩
    rw [hgg] at hg hgr
    by_cases h6 : 65536 < g
    · have e : openB l = ([], 0, 1) := by unfold openB; rw [if_neg (by omega), hgg, if_pos h6]
      rw [e]
      clear h hn h4 e hgg hA hgr
      go_enter Tryz.func85, Tryz.ntmps85
      go_wp2_with (go_at_call 145; refine hg.mono ?_; clear hg; rintro e w1 ⟨nq, rfl, rfl⟩)
      go_ret3
      exact ⟨none, 0, 0, rfl, ownB_nil ((Keep.refl _ _).drewN nq)⟩
    · obtain ⟨m, rfl⟩ : ∃ m : Nat, g = m := ⟨g.toNat, by omega⟩
      have j6 : ¬ (65536 : Int) < (m : Int) := h6
      have j7 : (m : Int) ≤ 65536 := by omega
      have j8 : (0 : Int) ≤ (m : Int) := by omega
      by_cases h8 : n < 4 + m + 4
      · have e : openB l = ([], 0, 3) := by unfold openB; rw [if_neg (by omega), hgg, if_neg h6, Int.toNat_natCast, if_pos (by omega)]
        rw [e]
        have j9 : (n : Int) < 4 + (m : Int) + 4 := by omega
        clear h hn h4 e hgg hA hgr h6 h8
        go_enter Tryz.func85, Tryz.ntmps85
        go_wp2_with (go_at_call 145; refine hg.mono ?_; clear hg; rintro e w1 ⟨nq, rfl, rfl⟩)
        go_ret3
        exact ⟨none, 0, 0, rfl, ownB_nil ((Keep.refl _ _).drewN nq)⟩
      · have j9 : ¬ (n : Int) < 4 + (m : Int) + 4 := by omega
        have hx : openB l = if sumB (l.take (4 + m)) ≠ get4B (l.drop (4 + m)) then ([], 0, 12) else ((l.take (4 + m)).drop 4, 4 + m + 4, 0) := by
          unfold openB; rw [if_neg (by omega), hgg, if_neg h6, Int.toNat_natCast, if_neg (by omega)]
        obtain ⟨a', c', hv, hle, hmax, hnil, hel⟩ := bytes_at h
        simp only [Value.slice.injEq] at hv
        obtain ⟨rfl, -, rfl⟩ := hv
        obtain ⟨b, off, rfl, -⟩ := hel 0 (by omega)
        have j10 : (n : Int) ≤ (c : Int) := by omega
        rw [maxLen_is] at hmax
        obtain ⟨e, he⟩ : ∃ e : Nat, 4 + m = e := ⟨_, rfl⟩
        have he' : (4 : Int) + (m : Int) = (e : Int) := by omega
        rw [he] at hx
        have HR := Lib.hid (And.intro h (And.intro hn (And.intro hx (And.intro (show e + 4 ≤ n by omega) (show 4 ≤ e by omega)))))
        have HC := Lib.hid (And.intro hle hmax)
        have HE := Lib.hid he'
        have k1 : (0 : Int) ≤ (e : Int) := by omega
        have k2 : (e : Int) ≤ (c : Int) := by omega
        have k3 : (e : Int) ≤ (n : Int) := by omega
        have k4 : (4 : Int) ≤ (e : Int) := by omega
        have k5 : (e : Int) ≤ 65540 := by omega
        have k6 : ¬ c = e := by omega
        have k7 : ¬ c = 4 := by omega
        clear h hn h4 hx hgg hA hgr h6 h8 hle hmax hnil hel he he' j10
        go_enter Tryz.func85, Tryz.ntmps85
        go_upto_region 9 with (go_at_call 145; refine hg.mono ?_; clear hg; rintro e w1 ⟨nq, rfl, rfl⟩)
        rw [HE.out]
        clear j1 j6 j7 j8 j9
        refine wp_region_canw [0, 1, 2, 4, 5, 6, 3, 7, 8, 9] [3, 7] [(4, 3), (5, 3), (6, 3)] (by kernel_rfl) (by kernel_rfl) (by kernel_rfl) (by kernel_rfl) (by intro c a d v w h; cases d <;> exact h) ?_
        generalize hw9 : (w.drewN nq).drew = w9 at *
        have K9 : Keep No w w9 := by rw [← hw9]; exact ((Keep.refl No w).drewN nq).drew
        have HK9 := Lib.hid K9
        clear hw9 K9
        have hs := Sum_any w9 _ _ e c (l.take e) (rd_take (HR.out.1.agree _ HK9.out.agreeNo) e (by have := HR.out; omega))
        have hg2 := get4_any w9 _ _ (n - e) (c - e) (l.drop e) (rdb_drop (HR.out.1.agree _ HK9.out.agreeNo) e (by have := HR.out; omega)) (by have := HR.out.2.2.2.1; omega)
        obtain ⟨sm, hsm⟩ : ∃ sm, sumB (l.take e) = sm := ⟨_, rfl⟩
        obtain ⟨g2, hg2'⟩ : ∃ g2, get4B (l.drop e) = g2 := ⟨_, rfl⟩
        have hx := HR.out.2.2.1
        rw [hsm] at hs hx
        rw [hg2'] at hg2 hx
        have HX := Lib.hid hx
        clear hsm hg2' hx
        iterate 6 (refine canw_sil rfl rfl (fun K hK => ?_); go_simp; refine hK _ ?_; clear hK K)
        refine canw_loud [4, 5, 6] rfl rfl rfl (fun K hK => ?_)
        go_wp2_with (go_at_call 146; refine (hs.mono (R' := fun e1 w1 => e1 = .returned (.int .u32 sm) ∧ w9 = w1) (by rintro _ _ ⟨rfl, rfl⟩; exact ⟨rfl, rfl⟩)).mono ?_; clear hs; rintro e1 w10 ⟨rfl, rfl⟩)
        refine Mid.normal (hK _ _ ?_ ?_)
        · simp only [List.forall_mem_cons]
          refine ⟨?_, ?_, ?_, stabs_nil⟩ <;> exact stab_of rfl (fun K hK => by go_simp; exact hK)
        clear hK K
        refine canw_loud [] rfl rfl rfl (fun K hK => ?_)
        go_wp2_with (go_at_call 145; refine hg2.mono ?_; clear hg2; rintro e1 w10 ⟨nr, rfl, rfl⟩)
        refine Mid.normal (hK _ _ stabs_nil ?_)
        clear hK K
        have K10 := Lib.hid (HK9.out.drewN nr)
        generalize w9.drewN nr = w10 at *
        by_cases hq : sm = g2
        · have hq' : (sm != g2) = false := by simp [hq]
          have hcl := (clone_bytes w10 _ _ ((l.take e).drop 4) (rdb_drop (rd_take (HR.out.1.agree _ K10.out.agreeNo) e (by have := HR.out; omega)) 4 (by have := HR.out; simp; omega)) (by have := HC.out; have := HR.out; simp; omega)).mono (R' := fun e1 w11 => ∃ a1 n1 c1, e1 = .returned (.slice a1 n1 c1) ∧ RowKit.Hid (OwnB w w11 (.slice a1 n1 c1) ((l.take e).drop 4))) (by
            rintro e1 w11 ⟨a1, c1, rfl, ho, hk⟩
            exact ⟨a1, _, c1, rfl, OwnB.then (w := w10) ⟨ho, hk⟩ K10.out⟩)
          have HQ := Lib.hid hq
          clear hq
          iterate 2 (refine canw_sil rfl rfl (fun K hK => ?_); go_simp; refine hK _ ?_; clear hK K)
          refine canw_nil ?_
          go_wp2_with fail
          refine hcl.mono ?_
          clear hcl
          rintro e1 w11 ⟨a1, n1, c1, rfl, HO⟩
          go_wp2_with fail
          go_ret3
          rw [HX.out, if_neg (by simp [HQ.out])]
          refine ⟨a1, n1, c1, ?_, HO.out⟩
          simp
        · have hq' : (sm != g2) = true := by simp [hq]
          have HQ := Lib.hid hq
          clear hq
          iterate 2 (refine canw_sil rfl rfl (fun K hK => ?_); go_simp; refine hK _ ?_; clear hK K)
          refine canw_nil ?_
          go_wp2_with fail
          go_ret3
          rw [HX.out, if_pos HQ.out]
          exact ⟨none, 0, 0, rfl, ownB_nil K10.out⟩
end Go.Proofs.YtpjcebajkfeacaaGreatDoor
namespace Go.Proofs.YtpjcebajkfeacaaGreatDoor
open Go Go.RowKit Go.Deep
theorem wraps_i63 (n : Int) (h₀ : 0 ≤ n) (h₁ : n < 2 ^ 62) : IntKind.i64.wrap n = n := by
  have e : n % 18446744073709551616 = n := by omega
  simp [IntKind.wrap, IntKind.bits, IntKind.signed, e]
  omega
theorem i64_or8 (y x : Int) (hy₀ : 0 ≤ y) (hy : y < 256) (hx₀ : 0 ≤ x) (hx : x % 256 = 0) (hx₁ : x < 4294967296) : bits .or .i64 y x = y + x :=
  bits_join_low .i64 62 (by decide) wraps_i63 8 y x hy₀ hy (by omega) hx₀ hx (by omega)
theorem i64_or16 (y x : Int) (hy₀ : 0 ≤ y) (hy : y < 65536) (hx₀ : 0 ≤ x) (hx : x % 65536 = 0) (hx₁ : x < 4294967296) : bits .or .i64 y x = y + x :=
  bits_join_low .i64 62 (by decide) wraps_i63 16 y x hy₀ hy (by omega) hx₀ hx (by omega)
theorem i64_or24 (y x : Int) (hy₀ : 0 ≤ y) (hy : y < 16777216) (hx₀ : 0 ≤ x) (hx : x % 16777216 = 0) (hx₁ : x < 4294967296) : bits .or .i64 y x = y + x :=
  bits_join_low .i64 62 (by decide) wraps_i63 24 y x hy₀ hy (by omega) hx₀ hx (by omega)
set_option maxRecDepth 10000 in
set_option maxHeartbeats 1000000 in
theorem size_any (w : World) (S : Nat → Prop) (a : Option Addr) (n c : Nat) (l : Bytes) (h : Rd bytesSh w S [.slice a n c] l) : Calls Tryz.prog 147 #[.slice a n c] w (Looks w (.tuple #[.int .i64 (if n < 4 then 0 else get4B l), .bool (decide (4 ≤ n))])) := by
  obtain ⟨a', c', hv, hle, hmax, hnil, hel⟩ := bytes_at h
  simp only [Value.slice.injEq] at hv
  obtain ⟨rfl, hn, rfl⟩ := hv
  by_cases h4 : n < 4
  · have j1 : (n : Int) < 4 := by omega
    rw [if_pos h4, show decide (4 ≤ n) = false by simp; omega]
    clear h hle hmax hnil hel hn h4
    go_enter Tryz.func147, Tryz.ntmps147
    go_wp2_with fail
    go_ret2
    exact ⟨0, rfl, rfl⟩
  · have j4 : ¬ (n : Int) < 4 := by omega
    rw [if_neg h4, show decide (4 ≤ n) = true by simp; omega]
    obtain ⟨b, off, h1, -, -, q0, -, r0, r0'⟩ := hel 0 (by omega)
    obtain ⟨b1, off1, h11, -, -, q1, -, r1, r1'⟩ := hel 1 (by omega)
    obtain ⟨b2, off2, h12, -, -, q2, -, r2, r2'⟩ := hel 2 (by omega)
    obtain ⟨b3, off3, h13, -, -, q3, -, r3, r3'⟩ := hel 3 (by omega)
    rw [h1] at h11 h12 h13
    cases h11; cases h12; cases h13
    have hg : get4B l = l[0] + l[1] * 256 + l[2] * 65536 + l[3] * 16777216 := by
      unfold get4B
      simp [List.getD_eq_getElem?_getD, List.getElem?_eq_getElem, show 0 < l.length by omega, show 1 < l.length by omega, show 2 < l.length by omega, show 3 < l.length by omega]
    generalize l[0] = y0 at *
    generalize l[1] = y1 at *
    generalize l[2] = y2 at *
    generalize l[3] = y3 at *
    have HG := Lib.hid hg
    rw [Nat.add_zero] at q0
    subst h1
    have j0 : (0 : Int) < n := by omega
    have j1 : (1 : Int) < n := by omega
    have j2 : (2 : Int) < n := by omega
    have j3 : (3 : Int) < n := by omega
    clear hg hel hnil hmax hle hn h h4
    go_enter Tryz.func147, Tryz.ntmps147
    go_wp2
    go_quiet (fail)
    go_wp2
    go_ret2
    refine ⟨nq, ?_, rfl⟩
    rw [HG.out, i64_or8 y0 (y1 * 256) r0 r0' (by omega) (by omega) (by omega), i64_or16 (y0 + y1 * 256) (y2 * 65536) (by omega) (by omega) (by omega) (by omega) (by omega),
      i64_or24 (y0 + y1 * 256 + y2 * 65536) (y3 * 16777216) (by omega) (by omega) (by omega) (by omega) (by omega)]
    rfl
def wrongE (l : Bytes) (e : Int) : Bool := decide (e = 1) || decide (e = 12) || (decide (4 ≤ l.length) && decide (1024 < get4B l))
set_option maxRecDepth 10000 in
set_option maxHeartbeats 1000000 in
theorem wrong_any (w : World) (S : Nat → Prop) (a : Option Addr) (n c : Nat) (l : Bytes) (h : Rd bytesSh w S [.slice a n c] l) (hn : l.length = n) (e : Int) :
    Calls Tryz.prog 86 #[.slice a n c, .int .i64 e] w (Looks w (.bool (wrongE l e))) := by
  have hs := size_any w S a n c l h
  obtain ⟨b4, hb4⟩ : ∃ b4, decide (4 ≤ n) = b4 := ⟨_, rfl⟩
  obtain ⟨g, hg⟩ : ∃ g, (if n < 4 then 0 else get4B l) = g := ⟨_, rfl⟩
  rw [hb4, hg] at hs
  have hw : wrongE l e = (decide (e = 1) || decide (e = 12) || (b4 && decide (1024 < g))) := by
    unfold wrongE
    rw [hn, hb4, ← hg]
    cases b4 with
    | false => simp
    | true => rw [if_neg (by have := of_decide_eq_true hb4; omega)]
  rw [hw]
  clear h hb4 hg hw hn
  go_enter Tryz.func86, Tryz.ntmps86
  by_cases h1 : e = 1
  · subst h1
    cases b4 <;>
    · go_wp2_with (go_at_call 147; refine hs.mono ?_; clear hs; rintro e1 w1 ⟨nq, rfl, rfl⟩)
      go_ret
      exact ⟨nq, by simp, rfl⟩
  · have h1' : (e == 1) = false := by simpa using h1
    by_cases h12 : e = 12
    · subst h12
      cases b4 <;>
      · go_wp2_with (go_at_call 147; refine hs.mono ?_; clear hs; rintro e1 w1 ⟨nq, rfl, rfl⟩)
        go_ret
        exact ⟨nq, by simp, rfl⟩
    · have h12' : (e == 12) = false := by simpa using h12
      have HE := Lib.hid (And.intro h1 h12)
      clear h1 h12
      cases b4 <;>
      · go_wp2_with (go_at_call 147; refine hs.mono ?_; clear hs; rintro e1 w1 ⟨nq, rfl, rfl⟩)
        go_ret
        exact ⟨nq, by simp [HE.out.1, HE.out.2], rfl⟩
structure StreamAt (W : World) (s : Nat) (A : Nat → Prop) (a : Option Addr) (m c : Nat) (l : Bytes) (n : Int) : Prop where
  blk : W.heap[s]? = some (.cells #[.slice a m c, .int .i64 n] 144 (0, 0))
  own : Own (.int .u8) 5 W A (.slice a m c) l
  nA : ¬ A s
theorem StreamAt.len {W : World} {s : Nat} {A : Nat → Prop} {a : Option Addr} {m c : Nat} {l : Bytes} {n : Int} (h : StreamAt W s A a m c l n) : m = l.length := by
  obtain ⟨a', c', e, -⟩ := Own.form h.own
  simp only [Value.slice.injEq] at e
  exact e.2.1
theorem StreamAt.keep {W W' : World} {s : Nat} {A : Nat → Prop} {a : Option Addr} {m c : Nat} {l : Bytes} {n : Int} (h : StreamAt W s A a m c l n) {M : Nat → Prop} (hk : Keep M W W') (hs : ¬ M s) (hA : ∀ k, A k → ¬ M k) : StreamAt W' s A a m c l n :=
  ⟨hk.blk h.blk hs, h.own.agree (hk.agree fun k _ hk' => hA k hk'), h.nA⟩
def StreamIn (W : World) (s : Nat) (A : Nat → Prop) (l : Bytes) (n : Int) : Prop := ∃ a m c, StreamAt W s A a m c l n
theorem StreamIn.keep {W W' : World} {s : Nat} {A : Nat → Prop} {l : Bytes} {n : Int} (h : StreamIn W s A l n) {M : Nat → Prop} (hk : Keep M W W') (hs : ¬ M s) (hA : ∀ k, A k → ¬ M k) : StreamIn W' s A l n := by
  obtain ⟨a, m, c, h⟩ := h
  exact ⟨a, m, c, h.keep hk hs hA⟩
theorem StreamIn.lt {W : World} {s : Nat} {A : Nat → Prop} {l : Bytes} {n : Int} (h : StreamIn W s A l n) : s < W.heap.size := by
  obtain ⟨a, m, c, h⟩ := h
  exact blk_lt h.blk
def MadeSt (w : World) (e : Ending) (w' : World) : Prop := e = .returned (.pointer (some ⟨w.heap.size, 0, none⟩)) ∧ w' = w.alloc (.cells #[.slice none 0 0, .int .i64 0] 144)
theorem newStream_any (w : World) : Calls Tryz.prog 30 #[] w (MadeSt w) := by
  go_enter Tryz.func30, Tryz.ntmps30
  go_wp2_with fail
  go_ret
  exact ⟨rfl, by first | rfl | trivial⟩
theorem rest_any (w : World) (s : Nat) (A : Nat → Prop) (l : Bytes) (n : Int) (h : StreamIn w s A l n) : Calls Tryz.prog 35 #[.pointer (some ⟨s, 0, none⟩)] w fun e w' => e = .returned (.int .i64 l.length) ∧ w = w' := by
  obtain ⟨a, m, c, h⟩ := h
  have hm := h.len
  have q := blk_cell h.blk
  rw [← hm]
  clear h hm
  go_enter Tryz.func35, Tryz.ntmps35
  go_wp2_with fail
  go_ret
  exact ⟨rfl, by first | rfl | trivial⟩
theorem skipped_any (w : World) (s : Nat) (A : Nat → Prop) (l : Bytes) (n : Int) (h : StreamIn w s A l n) : Calls Tryz.prog 34 #[.pointer (some ⟨s, 0, none⟩)] w fun e w' => e = .returned (.int .i64 n) ∧ w = w' := by
  obtain ⟨a, m, c, h⟩ := h
  have q := blk_cell h.blk
  clear h
  go_enter Tryz.func34, Tryz.ntmps34
  go_wp2_with fail
  go_ret
  exact ⟨rfl, by first | rfl | trivial⟩
theorem own_bytes {w : World} {S : Nat → Prop} {v : Value} {l : Bytes} (h : Own (.int .u8) 5 w S v l) {T : Nat → Prop} {u : Value} {xs : Bytes} (hr : Rd bytesSh w T [u] xs) (hl : l.length + xs.length ≤ 140737488355328) :
    ∃ a c w', (Builtin.append_ #[25, 25] 25 #[v, u]).run Tryz.prog w = .ok (.slice a (l.length + xs.length) c) w' ∧ Own (.int .u8) 5 w' (fun k => S k ∨ Fr w.heap.size w'.heap.size k) (.slice a (l.length + xs.length) c) (l ++ xs) ∧ Keep S w w' := by
  obtain ⟨i0, hi, hz0, hz1, hz2⟩ := info_parts Tryz.infoByte
  obtain ⟨g, rows, U, h1, h2, h3, h4, h5⟩ := h
  have hx := bytes_all hr
  have hxr := flat_flatten xs
  have hs : Src Tryz.prog 1 25 u xs.length (xs.map (Value.int .u8)) w := by
    obtain ⟨rs, hrl, hrr, hsrc⟩ := Rd.rows hr
    have := hsrc Tryz.prog 25 5 Tryz.underlying25 w (Agree.refl _ _)
    have e : rs.flatten = xs.map (Value.int .u8) := by
      have : rs = xs.map fun x => [Value.int .u8 x] := by
        apply List.ext_getElem (by simp [hrl])
        intro i h1 h2
        have := hrr i h1 (by simpa using h2)
        rw [List.getElem_map]
        exact this.1
      rw [this, flat_flatten]
    rw [e, hrl] at this
    exact this
  obtain ⟨a, c, w', g', hr', ho', hg', hk', hsz⟩ := own_append h1 25 25 25 i0 _ 1 Tryz.underlying25 hi hz0 hz1 hz2 rfl (x := u) (news := xs.map fun x => [Value.int .u8 x]) (by
    rw [List.length_map, hxr]; exact hs) (fun r hr => by obtain ⟨y, -, rfl⟩ := List.mem_map.1 hr; rfl) (by rw [List.length_map, h2]; omega) (by rw [List.length_map, h2]; omega)
  rw [List.length_map, h2] at hr' ho'
  refine ⟨a, c, w', hr', ⟨g', rows ++ xs.map (fun x => [Value.int .u8 x]), No, ho', by simp [h2], fun i hi hi' => ?_, fun b hb => ⟨?_, fun x => x⟩, fun _ x => x.elim⟩, hk'.mono fun k _ hgk => (h4 k hgk).1⟩
  · by_cases hlt : i < rows.length
    · rw [List.getElem_append_left hlt, List.getElem_append_left (by omega)]
      exact Rd.ofFlat _ rfl (h3 i hlt (by omega))
    · simp only [List.length_append, List.length_map] at hi hi'
      have e1 : (rows ++ xs.map fun x => [Value.int .u8 x])[i]'(by simp; omega) = (xs.map fun x => [Value.int .u8 x])[i - rows.length]'(by simp; omega) := List.getElem_append_right (by omega)
      have e2 : (l ++ xs)[i]'(by simp; omega) = xs[i - l.length]'(by omega) := List.getElem_append_right (by omega)
      rw [e1, e2]
      have e3 : xs[i - l.length]'(by omega) = xs[i - rows.length]'(by omega) := by simp only [h2]
      rw [e3]
      exact flat_rows xs hx _ _ _
  · have hlt := ho'.lt hb
    rcases hg' with rfl | rfl
    · exact .inl (h4 b hb).1
    · cases hb; exact .inr ⟨Nat.le_refl _, hlt⟩
def Fed (w : World) (s : Nat) (A : Nat → Prop) (l x : Bytes) (n : Int) (e : Ending) (w' : World) : Prop :=
  e = .returned (.tuple #[]) ∧ StreamIn w' s (fun k => A k ∨ Fr w.heap.size w'.heap.size k) (l ++ x) n ∧ Keep (fun k => A k ∨ k = s) w w'
set_option maxRecDepth 10000 in
theorem feed_any (w : World) (s : Nat) (A T : Nat → Prop) (l x : Bytes) (n : Int) (h : StreamIn w s A l n) (p : Value) (hp : Rd bytesSh w T [p] x) (hl : l.length + x.length ≤ 140737488355328) :
    Calls Tryz.prog 31 #[.pointer (some ⟨s, 0, none⟩), p] w (Fed w s A l x n) := by
  obtain ⟨a, m, c, h⟩ := h
  obtain ⟨a', c', w', hrun, ho, hk⟩ := own_bytes h.own hp hl
  have hs := blk_lt h.blk
  have x' := hk.blk h.blk h.nA
  have q := blk_cell h.blk
  have q' := blk_cell x'
  have f' := blk_fro x'
  have H := Lib.hid (And.intro ho (And.intro hk (And.intro x' (And.intro h.nA hs))))
  obtain ⟨ap, cp, rfl, -⟩ := bytes_at hp
  clear h hp ho hk x' hs hl
  go_enter Tryz.func31, Tryz.ntmps31
  go_wp2_with (at_builtin; refine wpList_app rfl (.tmp 10) (.tmp 11) 25 25 rfl rfl rfl hrun ?_)
  go_end0
  obtain ⟨ho, hk, x', hnA, hs⟩ := H.out
  have hz : (w'.setCell ⟨s, 0, none⟩ (.slice a' (l.length + x.length) c')).heap.size = w'.heap.size := by simp
  have hnA' : ¬ (A s ∨ Fr w.heap.size w'.heap.size s) := fun hh => hh.elim hnA fun f => by have := f.1; omega
  refine ⟨rfl, ⟨a', l.length + x.length, c', ?_, ?_, ?_⟩, ?_⟩
  · have := blk_set x' 0 (.slice a' (l.length + x.length) c')
    simpa using this
  · rw [hz]
    exact ho.agree (agree_set (b := s) hnA' 0 _)
  · rw [hz]; exact hnA'
  · exact (hk.mono fun k _ h => .inl h).trans ((keep_set w' s 0 _).mono fun k _ e => .inr e)
end Go.Proofs.YtpjcebajkfeacaaGreatDoor
