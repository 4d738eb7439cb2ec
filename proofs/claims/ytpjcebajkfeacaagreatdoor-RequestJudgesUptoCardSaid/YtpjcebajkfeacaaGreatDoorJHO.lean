/-
  Parts of what is proved for this claim; each declaration is one of the seat's texts.
-/
import Derived.Test.YtpjcebajkfeacaaGreatDoorJGA
import Derived.Test.YtpjcebajkfeacaaGreatDoorJGB
import Derived.Test.YtpjcebajkfeacaaGreatDoorJGC
import Derived.Test.YtpjcebajkfeacaaGreatDoorJGD
import Derived.Test.YtpjcebajkfeacaaGreatDoorJGF
import Derived.Test.YtpjcebajkfeacaaGreatDoorJGG
import Derived.Test.YtpjcebajkfeacaaGreatDoorJGI
import Derived.Test.YtpjcebajkfeacaaGreatDoorJGJ
import Derived.Test.YtpjcebajkfeacaaGreatDoorJGK
import Derived.Test.YtpjcebajkfeacaaGreatDoorJGL
import Derived.Test.YtpjcebajkfeacaaGreatDoorJGN
import Derived.Test.YtpjcebajkfeacaaGreatDoorJGQ
import Derived.Test.YtpjcebajkfeacaaGreatDoorJGU
import Derived.Test.YtpjcebajkfeacaaGreatDoorJGV
import Derived.Test.YtpjcebajkfeacaaGreatDoorJGW
import Derived.Test.YtpjcebajkfeacaaGreatDoorJGX
import Derived.WalkKit
import Derived.WalkSpells
import Derived.WalkLawsBesides
import Derived.ProofKit
import Derived.Deep.Slices
import Derived.Deep.AppendSrc
import Derived.Lib.Hide
import Derived.Still
import Derived.StillTactics
import Derived.Recover
import Derived.Defers
import Derived.Deep.QuietTactic
import Derived.BigQuiet
import Derived.Handy
import Derived.Laws.Bits64b
import Derived.Lib.Zigzag
import Derived.OwnWalk
import Derived.Deep.DeepCutAuto
import Derived.Lib.Bytealg
import Derived.Laws.Externs
import Derived.Deep.LoopGhost
import Derived.Laws.CopyRow
import Derived.Laws.IdiomCopy
import Derived.Maps.OwnSet
import Derived.Maps.RangeWalk
import Derived.Shelf.SortM.Plain
import Derived.Shelf.SortM.SortNone
import Derived.Ground.SlgmProg
import Derived.Maps.OwnOps
set_option linter.unusedVariables false
set_option linter.unusedSimpArgs false
namespace Go.Proofs.YtpjcebajkfeacaaGreatDoor
open Go Go.RowKit Go.Deep
theorem bad_byte {r : Rs} (h : r.err ≠ 0) : r.byte = (0, r) := by unfold Rs.byte; rw [if_pos h]
theorem bad_count {r : Rs} (h : r.err ≠ 0) (m : Int) : r.count m = (0, r) := by unfold Rs.count; rw [if_pos h]
theorem bad_fail {r : Rs} (h : r.err ≠ 0) (e : Int) : r.fail e = r := by unfold Rs.fail; rw [if_neg fun hh => h hh.1]
theorem bad_end {r : Rs} (h : r.err ≠ 0) : r.end' = r := by unfold Rs.end'; rw [if_neg fun hh => h hh.1]
theorem bad_takeV {r : Rs} (h : r.err ≠ 0) : takeV r = (val0, r) := by
  unfold takeV
  rw [bad_byte h]
  simp [orNone, h]
def argsR : Nat → List Val → Rs → (List Val × Rs) ⊕ Nat
  | 0, l, r => .inl (l, r)
  | n + 1, l, r =>
    if r.err ≠ 0 then .inl (l, r) else
    if (takeV r).2.err = 0 ∧ (takeV r).1.kind = 0 then .inr r.at'
    else argsR n (l ++ [(takeV r).1]) (takeV r).2
def reqEnd (c t : Int) (n : ByteArray) : (List Val × Rs) ⊕ Nat → Req × Int × Nat
  | .inr at' => (req0, 91, at')
  | .inl (l, r) => if r.end'.err ≠ 0 then (req0, r.end'.err, r.end'.spot) else (mkReq c t n l, 0, 0)
def reqGetR (b : Bytes) : Req × Int × Nat :=
  if 1024 < b.length then (req0, 1, 0) else
  let c := (Rs.new b).count 63
  let t := c.2.uint
  let n := t.2.text 16
  if n.2.err = 0 ∧ nameOk n.1 = false then (req0, 90, t.2.at') else
  let k := n.2.count 8
  reqEnd c.1 t.1 n.1 (argsR k.1 [] k.2)
theorem argsF_bad {r : Rs} (h : r.err ≠ 0) : ∀ (n : Nat) (l : List Val), ∃ l', argsF n l r = .inl (l', r)
  | 0, l => ⟨l, rfl⟩
  | n + 1, l => by
    obtain ⟨l', e⟩ := argsF_bad h n (l ++ [val0])
    refine ⟨l', ?_⟩
    unfold argsF
    rw [bad_takeV h, if_neg fun hh => h hh.1]
    exact e
theorem args_same (c t : Int) (nm : ByteArray) : ∀ (n : Nat) (l : List Val) (r : Rs), reqEnd c t nm (argsR n l r) = reqEnd c t nm (argsF n l r)
  | 0, l, r => rfl
  | n + 1, l, r => by
    by_cases h : r.err ≠ 0
    · obtain ⟨l', e⟩ := argsF_bad h (n + 1) l
      rw [e]
      unfold argsR
      rw [if_pos h]
      have : r.end'.err ≠ 0 := by rw [bad_end h]; exact h
      simp only [reqEnd]
      rw [if_pos this, if_pos this]
    · unfold argsR argsF
      rw [if_neg h]
      split
      · rfl
      · exact args_same c t nm n _ _
theorem text_last {r : Rs} {m : Int} (h : (r.text m).2.err = 0) : (r.text m).2.last = r.at' := by
  unfold Rs.text at h ⊢
  split
  · rename_i hh; rw [if_pos hh] at h; exact absurd h hh
  · rename_i hh
    rw [if_neg hh] at h
    split
    · rename_i h2; rw [if_pos h2] at h; exact absurd h h2
    · rename_i h2
      rw [if_neg h2] at h
      split
      · rename_i h3; rw [if_pos h3] at h; simp [Rs.fails] at h
      · rfl
theorem reqGet_is (b : Bytes) : reqGet b = if 1024 < b.length then (req0, 1, 0) else
    reqEnd ((Rs.new b).count 63).1 ((Rs.new b).count 63).2.uint.1 (((Rs.new b).count 63).2.uint.2.text 16).1
      (argsF ((if nameOk (((Rs.new b).count 63).2.uint.2.text 16).1 then (((Rs.new b).count 63).2.uint.2.text 16).2 else (((Rs.new b).count 63).2.uint.2.text 16).2.fail 90).count 8).1 []
        ((if nameOk (((Rs.new b).count 63).2.uint.2.text 16).1 then (((Rs.new b).count 63).2.uint.2.text 16).2 else (((Rs.new b).count 63).2.uint.2.text 16).2.fail 90).count 8).2) := by
  unfold reqGet
  split
  · rfl
  · simp only
    cases argsF ((if nameOk (((Rs.new b).count 63).2.uint.2.text 16).1 then (((Rs.new b).count 63).2.uint.2.text 16).2 else (((Rs.new b).count 63).2.uint.2.text 16).2.fail 90).count 8).1 []
        ((if nameOk (((Rs.new b).count 63).2.uint.2.text 16).1 then (((Rs.new b).count 63).2.uint.2.text 16).2 else (((Rs.new b).count 63).2.uint.2.text 16).2.fail 90).count 8).2 with
    | inr a => rfl
    | inl p => rfl
theorem reqGetR_eq (b : Bytes) : reqGetR b = reqGet b := by
  rw [reqGet_is]
  unfold reqGetR
  split
  · rfl
  · simp only
    have hlast := fun h => text_last (r := ((Rs.new b).count 63).2.uint.2) (m := 16) h
    generalize ((Rs.new b).count 63).1 = c
    generalize ((Rs.new b).count 63).2.uint.1 = t
    generalize ((Rs.new b).count 63).2.uint.2.at' = a0 at *
    generalize (((Rs.new b).count 63).2.uint.2.text 16).1 = nm
    generalize (((Rs.new b).count 63).2.uint.2.text 16).2 = r at *
    by_cases hn : nameOk nm = true
    · rw [if_neg (by rw [hn]; simp), if_pos hn]
      exact args_same _ _ _ _ _ _
    · rw [if_neg hn]
      have hn' : nameOk nm = false := by simpa using hn
      by_cases he : r.err = 0
      · rw [if_pos ⟨he, hn'⟩]
        have hf : r.fail 90 = { r with err := 90, spot := r.last } := by unfold Rs.fail; rw [if_pos ⟨he, by omega⟩]
        have hb : (r.fail 90).err ≠ 0 := by rw [hf]; simp
        rw [bad_count hb]
        simp only [argsF, reqEnd]
        rw [bad_end hb, if_pos hb, hf, ← hlast he]
      · rw [if_neg fun h => he h.1, bad_fail he]
        exact args_same _ _ _ _ _ _
end Go.Proofs.YtpjcebajkfeacaaGreatDoor
namespace Go.Proofs.YtpjcebajkfeacaaGreatDoor
open Go Go.RowKit Go.Deep
def ArgR (c t : Int) (nm : ByteArray) (n : Nat) (res : Req × Int × Nat) (j : Nat) (l : List Val) (r : Rs) : Prop := res = reqEnd c t nm (argsR (n - j) l r) ∧ l.length = j
theorem ArgR.step {c t : Int} {nm : ByteArray} {n j : Nat} {res : Req × Int × Nat} {l : List Val} {r : Rs} (h : ArgR c t nm n res j l r) (hj : j < n) (he : r.err = 0) (hz : ¬ ((takeV r).2.err = 0 ∧ (takeV r).1.kind = 0)) : ArgR c t nm n res (j + 1) (l ++ [(takeV r).1]) (takeV r).2 := by
  obtain ⟨e, hl⟩ := h
  refine ⟨?_, by simp [hl]⟩
  rw [e, show n - j = (n - (j + 1)) + 1 by omega]
  conv => lhs; unfold argsR
  rw [if_neg (by rw [he]; simp), if_neg hz]
theorem ArgR.stop {c t : Int} {nm : ByteArray} {n j : Nat} {res : Req × Int × Nat} {l : List Val} {r : Rs} (h : ArgR c t nm n res j l r) (hj : j < n) (he : r.err = 0) (hz : (takeV r).2.err = 0 ∧ (takeV r).1.kind = 0) : res = (req0, 91, r.at') := by
  obtain ⟨e, hl⟩ := h
  rw [e, show n - j = (n - (j + 1)) + 1 by omega]
  unfold argsR
  rw [if_neg (by rw [he]; simp), if_pos hz]
  rfl
theorem ArgR.fin {c t : Int} {nm : ByteArray} {n j : Nat} {res : Req × Int × Nat} {l : List Val} {r : Rs} (h : ArgR c t nm n res j l r) (hx : ¬ (j < n ∧ r.err = 0)) : res = if r.end'.err ≠ 0 then (req0, r.end'.err, r.end'.spot) else (mkReq c t nm l, 0, 0) := by
  obtain ⟨e, hl⟩ := h
  rw [e]
  have : argsR (n - j) l r = .inl (l, r) := by
    cases hm : n - j with
    | zero => rfl
    | succ m =>
      unfold argsR
      rw [if_pos]
      intro he
      exact hx ⟨by omega, he⟩
  rw [this]
  rfl
theorem RqGet.name {T : TypeId} {w : World} {g B F lo : Nat} {S : Nat → Prop} {vr : Value} {b : Bytes} {c t : Int} {nm0 : ByteArray} {wr : World} {r : Rs} {v : Value} {l : List Val} (h : RqGet T w g B F lo S vr b c t nm0 wr r v l) (nm : ByteArray) :
    RqGet T w g B F lo S vr b c t nm (wr.setCell ⟨F, 2, none⟩ (.string nm)) r v l := by
  have hset := blk_set h.F0 2 (.string nm)
  have ks := keep_set wr F 2 (.string nm)
  exact { h with
    keep := h.keep.then ks fun k hkw e => by have : k = F := e; have := h.Fw; omega
    g0 := ks.blk h.g0 (fun e => h.gF e)
    F0 := by simpa using hset
    rd := ⟨ks.blk h.rd.blk (fun e => h.FB (show B = F from e).symm), h.rd.rd.lowT ks (fun k hS e => h.FS (by cases (show k = F from e); exact hS)), h.rd.nB, h.rd.ok, h.rd.pl⟩
    own := h.own.keep ks fun k hk e => by have : k = F := e; have := h.Flo; omega
    low := by have := h.low; simp; omega }
theorem reqGetR_short {b : Bytes} (h : ¬ 1024 < b.length) : reqGetR b =
    if (((Rs.new b).count 63).2.uint.2.text 16).2.err = 0 ∧ nameOk (((Rs.new b).count 63).2.uint.2.text 16).1 = false then (req0, 90, ((Rs.new b).count 63).2.uint.2.at') else
    reqEnd ((Rs.new b).count 63).1 ((Rs.new b).count 63).2.uint.1 (((Rs.new b).count 63).2.uint.2.text 16).1 (argsR ((((Rs.new b).count 63).2.uint.2.text 16).2.count 8).1 [] ((((Rs.new b).count 63).2.uint.2.text 16).2.count 8).2) := by
  unfold reqGetR
  rw [if_neg h]
set_option maxRecDepth 10000 in
set_option maxHeartbeats 8000000 in
theorem rrqGet_any (w : World) (S : Nat → Prop) (v : Value) (b : Bytes) (h : Rd bytesSh w S [v] b) :
    Calls Tryz.prog 19 #[v] w (GivesRQ w (reqGetR b)) := by
  have K1 : Keep No w (w.alloc (.cells #[.int .i64 0, .int .u64 0, .string ⟨#[]⟩, .slice none 0 0] 29)) := (Keep.refl No w).alloc _
  have h1 := h.agree _ K1.agreeNo
  obtain ⟨a0, c0, rfl, -⟩ := bytes_at h
  by_cases hlong : 1024 < b.length
  · have hres : reqGetR b = (req0, 1, 0) := by unfold reqGetR; rw [if_pos hlong]
    have HR := Lib.hid hres
    have x1 := blk_new w (.cells #[.int .i64 0, .int .u64 0, .string ⟨#[]⟩, .slice none 0 0] 29)
    have q1 := blk_cell x1
    have f1 := blk_fro x1
    have j1 : (1024 : Int) < b.length := by omega
    clear h h1 hlong hres
    generalize reqGetR b = res at *
    generalize b.length = bl at *
    go_enter Tryz.func19, Tryz.ntmps19
    go_wp2_with fail
    have y2 := blk_four x1 (.int .i64 0) (.int .u64 0) (.string ⟨#[]⟩) (.slice none 0 0)
    have s2 := blk_cell y2
    have s0 := s2 0
    have s1 := s2 1
    have s3 := s2 2
    have s4 := s2 3
    simp at s0 s1 s3 s4
    refine bodyPost_ret (v := .tuple #[.agg #[.int .i64 0, .int .u64 0, .string ⟨#[]⟩, .slice none 0 0], .int .i64 1, .int .i64 0]) (by simp [results, Tryz.results19, go_sem, s0, s1, s3, s4]) rfl ?_
    rw [HR.out]
    exact ⟨none, 0, 0, rfl, Own.nil _ _ _ _, K1⟩
  · have hnew := (rNew_any _ S _ b h1 (by omega)).mono (R' := fun e w2 => ∃ B vr, e = .returned (.pointer (some ⟨B, 0, none⟩)) ∧
        RowKit.Hid (w.heap.size + 1 ≤ B ∧ RdrAt 117 w2 B (Fr (w.heap.size + 1) B) vr (Rs.new b) ∧ Keep No w w2 ∧ w2.heap[w.heap.size]? = some (.cells #[.int .i64 0, .int .u64 0, .string ⟨#[]⟩, .slice none 0 0] 29 (0, 0)))) (by
      rintro e w2 ⟨B, vr, rfl, hB, hr, hk⟩
      simp only [World.size_alloc] at hB hr
      exact ⟨B, vr, rfl, hB, hr, K1.trans hk, hk.blk (blk_new w _) (fun x => x)⟩)
    have HX := Lib.hid (reqGetR_short hlong)
    have j1 : ¬ (1024 : Int) < b.length := by omega
    have j2 : b.length ≤ 1024 := by omega
    clear h h1 hlong K1
    generalize reqGetR b = res at *
    generalize hbl : b.length = bl at *
    have HBL := Lib.hid hbl
    clear hbl
    go_enter Tryz.func19, Tryz.ntmps19
    go_wp2_with fail
    refine hnew.mono ?_
    clear hnew
    rintro e w2 ⟨B, vr, rfl, H2⟩
    go_wp2_with fail
    refine (rCount_any w2 B _ vr _ H2.out.2.1 63 (by omega) (by omega)).mono ?_
    rintro e w3 ⟨rfl, hr3, hk3⟩
    go_wp2_with fail
    refine (rUint_any w3 B _ vr _ hr3).mono ?_
    rintro e w4 ⟨rfl, hr4, hk4⟩
    have hc63 : ((Rs.new b).count 63).1 ≤ 63 := count_le _ 63
    have htu : ((Rs.new b).count 63).2.uint.1 < 2 ^ 64 := uint_lt hr3.ok
    have htn := text_le ((Rs.new b).count 63).2.uint.2 16
    have hb4 : ((Rs.new b).count 63).2.uint.2.b = b := by rw [uint_b, count_b]; rfl
    have hk : Keep (One B) w2 w4 := hk3.trans hk4
    have HG0 : RowKit.Hid (RqGet 117 w w.heap.size B w4.heap.size (w4.heap.size + 1) (Fr (w.heap.size + 1) B) vr b ((Rs.new b).count 63).1 ((Rs.new b).count 63).2.uint.1 ⟨#[]⟩ (w4.alloc (.cells #[.int .i64 ((Rs.new b).count 63).1, .int .u64 ((Rs.new b).count 63).2.uint.1, .string ⟨#[]⟩, .slice none 0 0] 29)) ((Rs.new b).count 63).2.uint.2 (.slice none 0 0) []) := by
      obtain ⟨h1, h2, h3, h4⟩ := H2.out
      have hB := h2.lt
      have hg := (Keep.refl No w4).alloc (.cells #[.int .i64 ((Rs.new b).count 63).1, .int .u64 ((Rs.new b).count 63).2.uint.1, .string ⟨#[]⟩, .slice none 0 0] 29)
      have hs := h3.size
      have hs5 := hk.size
      have h45 := hk.blk h4 (fun e => by have : w.heap.size = B := e; omega)
      have hl4 := blk_lt h4
      exact ⟨(h3.then hk fun i hi e => by have : i = B := e; omega).trans hg, blk_alloc h45, blk_new w4 _, hr4.agree hg, Own.nil _ _ _ _, Nat.le_refl _, by omega, by omega, by omega, by omega, by omega, by omega, fun hf => by have := hf.2; omega, fun k hf => by have := hf.2; omega, hb4, by omega, by omega, by simp⟩
    clear hr3 hr4 hk3 hk4 hk hb4 H2
    generalize ((Rs.new b).count 63).2.uint.2 = rt at *
    generalize ((Rs.new b).count 63).2.uint.1 = t at *
    generalize ((Rs.new b).count 63).1 = c at *
    go_upto_region 5 with fail
    generalize hF : w4.heap.size = F at *
    generalize (w4.alloc (.cells #[.int .i64 c, .int .u64 t, .string ⟨#[]⟩, .slice none 0 0] 29)) = w5 at *
    generalize (Fr (w.heap.size + 1) B) = Sr at *
    obtain ⟨c0', c1, c2, c3, c4, z3, z4⟩ := HG0.out.rd.cells
    have htx := rText_any w5 B _ vr rt HG0.out.rd 16 (by omega) (by omega)
    have htb := text_b rt 16
    have HTN := Lib.hid htn
    clear htn
    go_upto_region 7 with (go_at_call 66; refine htx.mono ?_; clear htx c0' c1 c2 c3 c4 z3 z4; rintro e w6 hr6; obtain ⟨rfl, -⟩ := id hr6; have HG1 := Lib.hid (HG0.out.read hr6 htb); clear hr6; have qF := blk_cell HG1.out.F0; have zF := blk_fro HG1.out.F0)
    have HG2 := Lib.hid (HG1.out.name (rt.text 16).1)
    clear qF zF HG0 HG1 htb
    generalize hat : rt.at' = at0 at *
    generalize (rt.text 16).1 = nm at *
    generalize (rt.text 16).2 = rn at *
    generalize (w6.setCell ⟨F, 2, none⟩ (.string nm)) = w7 at *
    obtain ⟨c0', c1, c2, c3, c4, z3, z4⟩ := HG2.out.rd.cells
    have qF := blk_cell HG2.out.F0
    have hs16 : nm.size ≤ 9223372036854775806 := Nat.le_trans HTN (by omega)
    obtain ⟨bad, hbad⟩ : ∃ bad : Bool, bad = decide (rn.err = 0 ∧ nameOk nm = false) := ⟨_, rfl⟩
    have HBD := Lib.hid hbad
    clear hbad
    go_cut [39] (fun x wx => x = .bool bad ∧ wx = w7)
    case first =>
      by_cases het : rn.err = 0
      · rw [het] at c3
        cases hks : nameOk nm with
        | true =>
          have e := Lib.hid (HBD.out.trans (decide_eq_false fun h => by rw [hks] at h; exact absurd h.2 (by decide)))
          go_wp2_with (go_at_call 67; refine (rName_any nm hs16 _).mono ?_; rintro e w6 ⟨rfl, rfl⟩)
          go_meet
          case rel => exact ⟨by rw [e.out], rfl⟩
        | false =>
          have e := Lib.hid (HBD.out.trans (decide_eq_true ⟨het, hks⟩))
          go_wp2_with (go_at_call 67; refine (rName_any nm hs16 _).mono ?_; rintro e w6 ⟨rfl, rfl⟩)
          go_meet
          case rel => exact ⟨by rw [e.out], rfl⟩
      · have d1 : (rn.err == 0) = false := by simpa using het
        have e := Lib.hid (HBD.out.trans (decide_eq_false fun h => het h.1))
        clear het
        go_wp2_with fail
        go_meet
        case rel => exact ⟨by rw [e.out], rfl⟩
    case rest =>
      obtain ⟨hc, rfl⟩ := hcut
      subst hc
      clear qF
      cases bad with
      | true =>
        have hbd := of_decide_eq_true HBD.out.symm
        have hres : res = (req0, 90, at0) := by have h := HX.out; rw [if_pos hbd] at h; exact h
        have HRES := Lib.hid hres
        have q2 := blk_cell HG2.out.g0
        have f2 := blk_fro HG2.out.g0
        clear hres hbd
        go_wp2_with fail
        have y2 := blk_four HG2.out.g0 (.int .i64 0) (.int .u64 0) (.string ⟨#[]⟩) (.slice none 0 0)
        have s2 := blk_cell y2
        have s0 := s2 0
        have s1 := s2 1
        have s3 := s2 2
        have s4 := s2 3
        simp at s0 s1 s3 s4
        refine bodyPost_ret (v := .tuple #[.agg #[.int .i64 0, .int .u64 0, .string ⟨#[]⟩, .slice none 0 0], .int .i64 90, .int .i64 at0]) (by simp [results, Tryz.results19, go_sem, s0, s1, s3, s4]) rfl ?_
        rw [HRES.out]
        exact ⟨none, 0, 0, rfl, Own.nil _ _ _ _, (HG2.out.done _ _ _ _).2⟩
      | false =>
        have hres : res = reqEnd c t nm (argsR (rn.count 8).1 [] (rn.count 8).2) := by have h := HX.out; rw [if_neg (of_decide_eq_false HBD.out.symm)] at h; exact h
        have HA0 : RowKit.Hid (ArgR c t nm (rn.count 8).1 res 0 [] (rn.count 8).2) := ⟨hres, rfl⟩
        have hcnt := rCount_any wc B _ vr rn HG2.out.rd 8 (by omega) (by omega)
        have hc8 : (rn.count 8).1 ≤ 8 := count_le _ 8
        have hcb := count_b rn 8
        clear hres HX HBD
        generalize (rn.count 8).1 = n at *
        generalize (rn.count 8).2 = rk at *
        go_wp2_with (go_at_call 64; refine hcnt.mono ?_; clear hcnt c0' c1 c2 c3 c4 z3 z4; rintro e w8 hr8; obtain ⟨rfl, -⟩ := id hr8; have HG3 := Lib.hid (HG2.out.read hr8 hcb); clear hr8 hcb HG2)
        go_loopg [9] n (fun g i wr => ∃ (j : Nat) (l : List Val) (r : Rs), j ≤ n ∧ g = n - j ∧ i = .int .i64 j ∧ RowKit.Hid (ArgR c t nm n res j l r ∧ ∃ v, RqGet 117 w w.heap.size B F (F + 1) Sr vr b c t nm wr r v l))
        case atStart => exact ⟨0, [], rk, by omega, by omega, rfl, ⟨HA0, _, HG3⟩⟩
        case round =>
          clear HA0 HG3
          obtain ⟨j, l, r, hj, rfl, rfl, HR⟩ := hrel
          obtain ⟨v, hG⟩ := HR.out.2
          have HG := Lib.hid hG
          obtain ⟨c0', c1, c2, c3, c4, z3, z4⟩ := hG.rd.cells
          have i0 : (0 : Int) ≤ j := by omega
          have i3 : (j : Int) ≤ 9223372036854775806 := by omega
          by_cases hgo : j < n ∧ r.err = 0
          · obtain ⟨hlt, he⟩ := hgo
            have i1 : (j : Int) < n := by omega
            rw [he] at c3
            have HS := Lib.hid (And.intro (fun hz => HR.out.1.step hlt he hz) (And.intro (fun hz => HR.out.1.stop hlt he hz) (And.intro (takeV_in r hG.rd.ok) (And.intro (takeV_text r) (And.intro HR.out.1.2 hlt)))))
            have htk := rTake_any wr B _ vr r hG.rd
            have htb := takeV_b r
            clear hG HR hlt hj
            go_wp2_with fail
            refine htk.mono ?_
            clear htk
            rintro e w9 hr9
            obtain ⟨rfl, -⟩ := id hr9
            have HG3 := Lib.hid (HG.out.read hr9 htb)
            clear hr9 htb HG c0' c1 c2 c3 c4 z3 z4 he
            dsimp only [Val.agg]
            generalize r.at' = at1 at *
            generalize (takeV r).1 = x at *
            generalize (takeV r).2 = r9 at *
            generalize hx1 : x.kind = x1 at *
            generalize hx2 : x.num = x2 at *
            generalize hx3 : x.text = x3 at *
            have HXX := Lib.hid (And.intro hx1 (And.intro hx2 hx3))
            clear hx1 hx2 hx3
            have HG4 := Lib.hid (HG3.out.more ((Keep.refl No w9).alloc (.cells #[.int .i64 x1, .int .i64 x2, .string x3] 96)))
            have x8 := blk_new w9 (.cells #[.int .i64 x1, .int .i64 x2, .string x3] 96)
            clear HG3
            go_upto_region 15 with fail
            generalize (w9.alloc (.cells #[.int .i64 x1, .int .i64 x2, .string x3] 96)) = w10 at *
            generalize w9.heap.size = E9 at *
            obtain ⟨c0', c1, c2, c3, c4, z3, z4⟩ := HG4.out.rd.cells
            have q8 := blk_cell x8
            obtain ⟨bad, hbad⟩ : ∃ bad : Bool, bad = decide (r9.err = 0 ∧ x1 = 0) := ⟨_, rfl⟩
            have HBD := Lib.hid hbad
            clear hbad
            go_cut [71] (fun x wx => x = .bool bad ∧ wx = w10)
            case first =>
              by_cases het : r9.err = 0
              · rw [het] at c3
                by_cases hk0 : x1 = 0
                · have e := Lib.hid (HBD.out.trans (decide_eq_true ⟨het, hk0⟩))
                  subst hk0
                  go_wp2_with fail
                  go_meet
                  case rel => exact ⟨by rw [e.out], rfl⟩
                · have d2 : (x1 == 0) = false := by simpa using hk0
                  have e := Lib.hid (HBD.out.trans (decide_eq_false fun h => hk0 h.2))
                  clear hk0
                  go_wp2_with fail
                  go_meet
                  case rel => exact ⟨by rw [e.out], rfl⟩
              · have d1 : (r9.err == 0) = false := by simpa using het
                have e := Lib.hid (HBD.out.trans (decide_eq_false fun h => het h.1))
                clear het
                go_wp2_with fail
                go_meet
                case rel => exact ⟨by rw [e.out], rfl⟩
            case rest =>
              obtain ⟨hc, rfl⟩ := hcut
              subst hc
              clear c0' c1 c2 c3 c4 z3 z4
              cases bad with
              | true =>
                have hbd := of_decide_eq_true HBD.out.symm
                have hres := HS.out.2.1 hbd
                have HRES := Lib.hid hres
                have q2 := blk_cell HG4.out.g0
                have f2 := blk_fro HG4.out.g0
                clear hres hbd
                go_wp2_with fail
                have y2 := blk_four HG4.out.g0 (.int .i64 0) (.int .u64 0) (.string ⟨#[]⟩) (.slice none 0 0)
                have s2 := blk_cell y2
                have s0 := s2 0
                have s1 := s2 1
                have s3 := s2 2
                have s4 := s2 3
                simp at s0 s1 s3 s4
                refine bodyPost_ret (v := .tuple #[.agg #[.int .i64 0, .int .u64 0, .string ⟨#[]⟩, .slice none 0 0], .int .i64 91, .int .i64 at1]) (by simp [results, Tryz.results19, go_sem, s0, s1, s3, s4]) rfl ?_
                rw [HRES.out]
                exact ⟨none, 0, 0, rfl, Own.nil _ _ _ _, (HG4.out.done _ _ _ _).2⟩
              | false =>
                have hz := HS.out.1 (of_decide_eq_false HBD.out.symm)
                have HZ := Lib.hid hz
                have hkl : l.length + 1 ≤ 1048576 := by have := HS.out.2.2.2.2.1; have := HS.out.2.2.2.2.2; omega
                clear hz HBD
                obtain ⟨av, cv, hv, -⟩ := Own.form HG4.out.own
                subst hv
                obtain ⟨a3, c3, w11, hrun, h11, hk11⟩ := HG4.out.own.app HG4.out.low x HS.out.2.2.1 (by rw [HXX.out.2.2]; exact HS.out.2.2.2.1) hkl
                rw [HXX.out.1, HXX.out.2.1, HXX.out.2.2] at hrun
                have HG6 := Lib.hid (HG4.out.grow hk11 h11)
                have hF11 := hk11.blk HG4.out.F0 (fun hf => by have := hf.1; omega)
                have q11 := blk_cell hF11
                have z11 := blk_fro hF11
                have q10 := blk_cell HG4.out.F0
                clear h11 hk11 hF11 hkl
                generalize l.length = ln at *
                go_wp2_with (at_builtin; refine wpList_app rfl (.tmp 75) (.tmp 77) 27 27 rfl rfl rfl hrun ?_)
                go_roundg (n - (j + 1))
                case measure => have := HS.out.2.2.2.2.2; omega
                case rel => exact ⟨j + 1, _, _, by have := HS.out.2.2.2.2.2; omega, rfl, by simp, HZ, _, HG6⟩
          · have hfin := HR.out.1.fin hgo
            have HNG : RowKit.Hid (j < n → ¬ r.err = 0) := fun h1 h2 => hgo ⟨h1, h2⟩
            have hend := rEnd_any wr B _ vr r hG.rd
            by_cases hee : r.end'.err = 0
            · have hres : res = (mkReq c t nm l, 0, 0) := by rw [hfin, if_neg (by rw [hee]; simp)]
              have HRES := Lib.hid hres
              have hb' := end_b r
              obtain ⟨av, cv, hv, -⟩ := Own.form hG.own
              subst hv
              clear hfin hres hgo HR hG
              generalize hre : r.end' = re at *
              clear hre
              generalize l.length = ln at *
              by_cases hlt : j < n
              · have i1 : (j : Int) < n := by omega
                have d1 : (r.err == 0) = false := by simpa using HNG.out hlt
                clear hlt
                go_wp2_with (go_at_call 69; refine hend.mono ?_; clear hend c0' c1 c2 c3 c4 z3 z4; rintro e w9 hr9; obtain ⟨rfl, -⟩ := id hr9; have HG9 := Lib.hid (HG.out.read hr9 hb'); clear hr9; obtain ⟨c0', c1, c2, c3, c4, z3, z4⟩ := HG9.out.rd.cells; have q2 := blk_cell HG9.out.g0; have f2 := blk_fro HG9.out.g0; have qF := blk_cell HG9.out.F0; rw [hee] at c3)
                have yy := blk_four HG9.out.g0 (.int .i64 c) (.int .u64 t) (.string nm) (.slice av ln cv)
                have s2 := blk_cell yy
                have s0 := s2 0
                have s1 := s2 1
                have s3 := s2 2
                have s4 := s2 3
                simp at s0 s1 s3 s4
                refine bodyPost_ret (v := .tuple #[.agg #[.int .i64 c, .int .u64 t, .string nm, .slice av ln cv], .int .i64 0, .int .i64 0]) (by simp [results, Tryz.results19, go_sem, s0, s1, s3, s4]) rfl ?_
                rw [HRES.out]
                have hdn := HG9.out.done (.int .i64 c) (.int .u64 t) (.string nm) (.slice av ln cv)
                exact ⟨av, ln, cv, rfl, hdn.1, hdn.2⟩
              · have i1 : ¬ (j : Int) < n := by omega
                clear hlt
                go_wp2_with (go_at_call 69; refine hend.mono ?_; clear hend c0' c1 c2 c3 c4 z3 z4; rintro e w9 hr9; obtain ⟨rfl, -⟩ := id hr9; have HG9 := Lib.hid (HG.out.read hr9 hb'); clear hr9; obtain ⟨c0', c1, c2, c3, c4, z3, z4⟩ := HG9.out.rd.cells; have q2 := blk_cell HG9.out.g0; have f2 := blk_fro HG9.out.g0; have qF := blk_cell HG9.out.F0; rw [hee] at c3)
                have yy := blk_four HG9.out.g0 (.int .i64 c) (.int .u64 t) (.string nm) (.slice av ln cv)
                have s2 := blk_cell yy
                have s0 := s2 0
                have s1 := s2 1
                have s3 := s2 2
                have s4 := s2 3
                simp at s0 s1 s3 s4
                refine bodyPost_ret (v := .tuple #[.agg #[.int .i64 c, .int .u64 t, .string nm, .slice av ln cv], .int .i64 0, .int .i64 0]) (by simp [results, Tryz.results19, go_sem, s0, s1, s3, s4]) rfl ?_
                rw [HRES.out]
                have hdn := HG9.out.done (.int .i64 c) (.int .u64 t) (.string nm) (.slice av ln cv)
                exact ⟨av, ln, cv, rfl, hdn.1, hdn.2⟩
            · have hres : res = (req0, r.end'.err, r.end'.spot) := by rw [hfin, if_pos hee]
              have HRES := Lib.hid hres
              have hb' := end_b r
              have d2 : (r.end'.err != 0) = true := by simpa using hee
              clear hfin hres hgo HR hG hee
              generalize hre : r.end' = re at *
              clear hre
              by_cases hlt : j < n
              · have i1 : (j : Int) < n := by omega
                have d1 : (r.err == 0) = false := by simpa using HNG.out hlt
                clear hlt
                go_wp2_with (go_at_call 69; refine hend.mono ?_; clear hend c0' c1 c2 c3 c4 z3 z4; rintro e w9 hr9; obtain ⟨rfl, -⟩ := id hr9; have HG9 := Lib.hid (HG.out.read hr9 hb'); clear hr9; obtain ⟨c0', c1, c2, c3, c4, z3, z4⟩ := HG9.out.rd.cells; have q2 := blk_cell HG9.out.g0; have f2 := blk_fro HG9.out.g0; have qF := blk_cell HG9.out.F0)
                refine wp_region_canw [0, 1, 2, 3, 4, 5, 6, 7, 8, 9, 10, 11] [9] [(1, 9), (2, 9), (3, 9), (4, 9), (5, 9), (6, 9), (7, 9), (8, 9)] (by kernel_rfl) (by kernel_rfl) (by kernel_rfl) (by kernel_rfl) (by intro c a d v w h; cases d <;> exact h) ?_
                have gB : ¬ w.heap.size = B := HG9.out.gB
                have Bg : ¬ B = w.heap.size := fun h => gB h.symm
                iterate 9 (refine canw_sil rfl rfl (fun K hK => ?_); go_simp; refine hK _ ?_; clear hK K)
                refine canw_loud [1, 2, 3, 4, 5, 6, 7, 8] rfl rfl rfl (fun K hK => ?_)
                go_wp2_with fail
                refine Mid.normal (hK _ _ ?_ ?_)
                · simp only [List.forall_mem_cons]
                  refine ⟨?_, ?_, ?_, ?_, ?_, ?_, ?_, ?_, stabs_nil⟩ <;> exact stab_of rfl (fun K hK => by go_simp; exact hK)
                clear hK K
                iterate 2 (refine canw_sil rfl rfl (fun K hK => ?_); go_simp; refine hK _ ?_; clear hK K)
                refine canw_nil ?_
                have hgd := HG9.out.more (Keep.refl No w9).drew
                have hk1 : Keep No w ((((w9.setCell ⟨w.heap.size, 0, none⟩ (.int .i64 0)).setCell ⟨w.heap.size, 1, none⟩ (.int .u64 0)).setCell ⟨w.heap.size, 2, none⟩ (.string ⟨#[]⟩)).setCell ⟨w.heap.size, 3, none⟩ (.slice none 0 0)).drew := (hgd.done (.int .i64 0) (.int .u64 0) (.string ⟨#[]⟩) (.slice none 0 0)).2
                have yy : ((((w9.setCell ⟨w.heap.size, 0, none⟩ (.int .i64 0)).setCell ⟨w.heap.size, 1, none⟩ (.int .u64 0)).setCell ⟨w.heap.size, 2, none⟩ (.string ⟨#[]⟩)).setCell ⟨w.heap.size, 3, none⟩ (.slice none 0 0)).drew.heap[w.heap.size]? = some (.cells #[.int .i64 0, .int .u64 0, .string ⟨#[]⟩, .slice none 0 0] 29 (0, 0)) := blk_four hgd.g0 (.int .i64 0) (.int .u64 0) (.string ⟨#[]⟩) (.slice none 0 0)
                have s2 := blk_cell yy
                generalize ((((w9.setCell ⟨w.heap.size, 0, none⟩ (.int .i64 0)).setCell ⟨w.heap.size, 1, none⟩ (.int .u64 0)).setCell ⟨w.heap.size, 2, none⟩ (.string ⟨#[]⟩)).setCell ⟨w.heap.size, 3, none⟩ (.slice none 0 0)).drew = wf at *
                clear c0' c1 c2 c3 c4 z3 z4 q2 f2 qF
                go_wp2_with fail
                have s0 := s2 0
                have s1 := s2 1
                have s3 := s2 2
                have s4 := s2 3
                simp at s0 s1 s3 s4
                refine bodyPost_ret (v := .tuple #[.agg #[.int .i64 0, .int .u64 0, .string ⟨#[]⟩, .slice none 0 0], .int .i64 re.err, .int .i64 re.spot]) (by simp [results, Tryz.results19, go_sem, s0, s1, s3, s4]) rfl ?_
                rw [HRES.out]
                exact ⟨none, 0, 0, rfl, Own.nil _ _ _ _, hk1⟩
              · have i1 : ¬ (j : Int) < n := by omega
                clear hlt
                go_wp2_with (go_at_call 69; refine hend.mono ?_; clear hend c0' c1 c2 c3 c4 z3 z4; rintro e w9 hr9; obtain ⟨rfl, -⟩ := id hr9; have HG9 := Lib.hid (HG.out.read hr9 hb'); clear hr9; obtain ⟨c0', c1, c2, c3, c4, z3, z4⟩ := HG9.out.rd.cells; have q2 := blk_cell HG9.out.g0; have f2 := blk_fro HG9.out.g0; have qF := blk_cell HG9.out.F0)
                refine wp_region_canw [0, 1, 2, 3, 4, 5, 6, 7, 8, 9, 10, 11] [9] [(1, 9), (2, 9), (3, 9), (4, 9), (5, 9), (6, 9), (7, 9), (8, 9)] (by kernel_rfl) (by kernel_rfl) (by kernel_rfl) (by kernel_rfl) (by intro c a d v w h; cases d <;> exact h) ?_
                have gB : ¬ w.heap.size = B := HG9.out.gB
                have Bg : ¬ B = w.heap.size := fun h => gB h.symm
                iterate 9 (refine canw_sil rfl rfl (fun K hK => ?_); go_simp; refine hK _ ?_; clear hK K)
                refine canw_loud [1, 2, 3, 4, 5, 6, 7, 8] rfl rfl rfl (fun K hK => ?_)
                go_wp2_with fail
                refine Mid.normal (hK _ _ ?_ ?_)
                · simp only [List.forall_mem_cons]
                  refine ⟨?_, ?_, ?_, ?_, ?_, ?_, ?_, ?_, stabs_nil⟩ <;> exact stab_of rfl (fun K hK => by go_simp; exact hK)
                clear hK K
                iterate 2 (refine canw_sil rfl rfl (fun K hK => ?_); go_simp; refine hK _ ?_; clear hK K)
                refine canw_nil ?_
                have hgd := HG9.out.more (Keep.refl No w9).drew
                have hk1 : Keep No w ((((w9.setCell ⟨w.heap.size, 0, none⟩ (.int .i64 0)).setCell ⟨w.heap.size, 1, none⟩ (.int .u64 0)).setCell ⟨w.heap.size, 2, none⟩ (.string ⟨#[]⟩)).setCell ⟨w.heap.size, 3, none⟩ (.slice none 0 0)).drew := (hgd.done (.int .i64 0) (.int .u64 0) (.string ⟨#[]⟩) (.slice none 0 0)).2
                have yy : ((((w9.setCell ⟨w.heap.size, 0, none⟩ (.int .i64 0)).setCell ⟨w.heap.size, 1, none⟩ (.int .u64 0)).setCell ⟨w.heap.size, 2, none⟩ (.string ⟨#[]⟩)).setCell ⟨w.heap.size, 3, none⟩ (.slice none 0 0)).drew.heap[w.heap.size]? = some (.cells #[.int .i64 0, .int .u64 0, .string ⟨#[]⟩, .slice none 0 0] 29 (0, 0)) := blk_four hgd.g0 (.int .i64 0) (.int .u64 0) (.string ⟨#[]⟩) (.slice none 0 0)
                have s2 := blk_cell yy
                generalize ((((w9.setCell ⟨w.heap.size, 0, none⟩ (.int .i64 0)).setCell ⟨w.heap.size, 1, none⟩ (.int .u64 0)).setCell ⟨w.heap.size, 2, none⟩ (.string ⟨#[]⟩)).setCell ⟨w.heap.size, 3, none⟩ (.slice none 0 0)).drew = wf at *
                clear c0' c1 c2 c3 c4 z3 z4 q2 f2 qF
                go_wp2_with fail
                have s0 := s2 0
                have s1 := s2 1
                have s3 := s2 2
                have s4 := s2 3
                simp at s0 s1 s3 s4
                refine bodyPost_ret (v := .tuple #[.agg #[.int .i64 0, .int .u64 0, .string ⟨#[]⟩, .slice none 0 0], .int .i64 re.err, .int .i64 re.spot]) (by simp [results, Tryz.results19, go_sem, s0, s1, s3, s4]) rfl ?_
                rw [HRES.out]
                exact ⟨none, 0, 0, rfl, Own.nil _ _ _ _, hk1⟩
end Go.Proofs.YtpjcebajkfeacaaGreatDoor
