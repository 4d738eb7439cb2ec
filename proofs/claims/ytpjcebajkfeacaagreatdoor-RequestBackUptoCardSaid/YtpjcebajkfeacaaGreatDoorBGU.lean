/-
  Parts of what is proved for this claim; each declaration is one of the seat's texts.
-/
import Derived.Test.YtpjcebajkfeacaaGreatDoorBGA
import Derived.Test.YtpjcebajkfeacaaGreatDoorBGC
import Derived.Test.YtpjcebajkfeacaaGreatDoorBGD
import Derived.Test.YtpjcebajkfeacaaGreatDoorBGF
import Derived.Test.YtpjcebajkfeacaaGreatDoorBGK
import Derived.Still
import Derived.StillTactics
import Derived.WalkKit
import Derived.Recover
import Derived.Defers
import Derived.Deep.QuietTactic
import Derived.BigQuiet
import Derived.Handy
import Derived.Laws.Bits64b
import Derived.Lib.Zigzag
import Derived.OwnWalk
import Derived.Deep.DeepCutAuto
import Derived.Lib.Bytealg
import Derived.Laws.Externs
import Derived.Deep.LoopGhost
set_option linter.unusedVariables false
set_option linter.unusedSimpArgs false
namespace Go.Proofs.YtpjcebajkfeacaaGreatDoor
open Go Go.RowKit Go.Deep
def nameBad (k : Nat) (c : Int) : Bool := decide ((c < 97 ∨ 122 < c) ∧ (k = 0 ∨ (c ≠ 95 ∧ (c < 48 ∨ 57 < c))))
def nameTo (s : ByteArray) (k : Nat) : Prop := ∀ j (hj : j < (bytesOf s).length), j < k → nameBad j (bytesOf s)[j] = false
theorem nameTo_succ {s : ByteArray} {k : Nat} (h : nameTo s k) (hk : k < (bytesOf s).length) (e : nameBad k (bytesOf s)[k] = false) : nameTo s (k + 1) := fun j hj hjk => by
  by_cases hh : j = k
  · subst hh; exact e
  · exact h j hj (by omega)
theorem nameOk_good (s : ByteArray) (h : nameTo s (bytesOf s).length) : nameOk s = (decide (1 ≤ s.size) && decide (s.size ≤ 16)) := by
  have hl := bytesOf_length s
  unfold nameOk
  have h' : ∀ j (hj : j < (bytesOf s).length), nameBad j (bytesOf s)[j] = false := fun j hj => h j hj hj
  clear h
  generalize bytesOf s = l at *
  cases l with
  | nil =>
    have : s.size = 0 := hl.symm
    simp [this]
  | cons c l =>
    have h0 := h' 0 (by simp)
    simp only [List.getElem_cons_zero, nameBad] at h0
    have h0 := of_decide_eq_false h0
    have h0 : ¬ (c < 97 ∨ 122 < c) := fun hh => h0 ⟨hh, .inl trivial⟩
    have h1 : (l.all fun c => (decide (97 ≤ c) && decide (c ≤ 122)) || decide (c = 95) || (decide (48 ≤ c) && decide (c ≤ 57))) = true := by
      rw [List.all_eq_true]
      intro x hx
      obtain ⟨i, hi, rfl⟩ := List.getElem_of_mem hx
      have h2 := h' (i + 1) (by simpa using hi)
      simp only [List.getElem_cons_succ, nameBad] at h2
      have h2 := of_decide_eq_false h2
      simp only [Bool.or_eq_true, Bool.and_eq_true, decide_eq_true_eq]
      omega
    have h3 : decide (97 ≤ c) = true := decide_eq_true (by omega)
    have h4 : decide (c ≤ 122) = true := decide_eq_true (by omega)
    have h5 : decide (1 ≤ s.size) = true := decide_eq_true (by rw [← hl]; simp)
    simp only [h1, h3, h4, h5, Bool.and_self, Bool.true_and]
theorem nameOk_bad (s : ByteArray) (j : Nat) (hj : j < (bytesOf s).length) (h : nameBad j (bytesOf s)[j] = true) : nameOk s = false := by
  unfold nameOk
  generalize bytesOf s = l at *
  cases l with
  | nil => simp at hj
  | cons c l =>
    cases j with
    | zero =>
      simp only [List.getElem_cons_zero, nameBad] at h
      have h := of_decide_eq_true h
      by_cases h3 : 97 ≤ c
      · have h4 : decide (c ≤ 122) = false := decide_eq_false (by omega)
        simp [h4]
      · simp [h3]
    | succ i =>
      simp only [List.getElem_cons_succ, nameBad] at h
      have h := of_decide_eq_true h
      have h1 : (l.all fun c => (decide (97 ≤ c) && decide (c ≤ 122)) || decide (c = 95) || (decide (48 ≤ c) && decide (c ≤ 57))) = false := by
        rw [List.all_eq_false]
        refine ⟨l[i]'(by simpa using hj), List.getElem_mem _, ?_⟩
        simp only [Bool.or_eq_true, Bool.and_eq_true, decide_eq_true_eq]
        omega
      simp only [h1, Bool.and_false, Bool.false_and]
end Go.Proofs.YtpjcebajkfeacaaGreatDoor
namespace Go.Proofs.YtpjcebajkfeacaaGreatDoor
open Go Go.RowKit Go.Deep
set_option maxRecDepth 10000 in
set_option maxHeartbeats 4000000 in
theorem isName_any (s : ByteArray) (hs : s.size ≤ 9223372036854775806) (w : World) : Calls Tryz.prog 57 #[.string s] w fun e w' => e = .returned (.bool (nameOk s)) ∧ w' = w := by
  have hbl := bytesOf_length s
  go_enter Tryz.func57, Tryz.ntmps57
  go_wp2_with fail
  go_loopg [7] s.size (fun g i wr => ∃ k : Nat, k ≤ s.size ∧ g = s.size - k ∧ i = .int .i64 k ∧ wr = w ∧ RowKit.Hid (nameTo s k))
  case atStart => exact ⟨0, by omega, by omega, rfl, rfl, fun _ _ h => absurd h (Nat.not_lt_zero _)⟩
  case round =>
    obtain ⟨k, hk, rfl, rfl, rfl, HN⟩ := hrel
    by_cases hlt : k < s.size
    · have j1 : (k : Int) < s.size := by omega
      have j0 : (0 : Int) ≤ k := by omega
      have j3 : (k : Int) ≤ 9223372036854775805 := by omega
      have hl : k < (bytesOf s).length := by omega
      have hg := bytesOf_get s k hl hlt
      have hr := bytesOf_allB s _ (List.getElem_mem hl)
      have hyes := fun h => nameTo_succ HN.out hl h
      have hno := fun h => nameOk_bad s k hl h
      rw [hg] at hr hyes hno
      generalize hc : (s[k].toNat : Int) = c at hr hyes hno
      have HS := Lib.hid (And.intro hk (And.intro hlt (And.intro hyes hno)))
      have HC := Lib.hid hc
      clear hg hl hs hyes hno hbl hk
      obtain ⟨bad, hbad⟩ : ∃ bad : Bool, bad = nameBad k c := ⟨_, rfl⟩
      have HBD := Lib.hid hbad
      clear hbad
      go_upto_region 5 with fail
      go_cut [34] (fun c wx => c = .bool bad ∧ wx = wr)
      case first =>
        by_cases hz : k = 0
        · subst hz
          have e0 : ((0 : Nat) : Int) = 0 := rfl
          rw [e0]
          go_wp2_with fail
          all_goals
            go_meet
            case rel => exact ⟨by rw [HBD.out]; congr 1; rw [Bool.eq_iff_iff]; simp [nameBad] <;> omega, rfl⟩
        · have hz' : ((k : Int) == 0) = false := by simpa using hz
          have HZ := Lib.hid hz
          clear hz
          by_cases h95 : c = 95
          · subst h95
            go_wp2_with fail
            all_goals
              go_meet
              case rel => exact ⟨by rw [HBD.out]; have := HZ.out; congr 1; rw [Bool.eq_iff_iff]; simp [nameBad] <;> omega, rfl⟩
          · have h95' : (c != 95) = true := by simpa using h95
            have H95 := Lib.hid h95
            clear h95
            go_wp2_with fail
            all_goals
              go_meet
              case rel => exact ⟨by rw [HBD.out]; have := HZ.out; have := H95.out; congr 1; rw [Bool.eq_iff_iff]; simp [nameBad] <;> omega, rfl⟩
      case rest =>
        obtain ⟨rfl, rfl⟩ := hcut
        cases bad with
        | true =>
          go_wp2_with fail
          go_ret
          have := HS.out.2.2.2 HBD.out.symm
          rw [this]
          exact ⟨rfl, by first | rfl | trivial⟩
        | false =>
          go_wp2_with fail
          go_roundg (s.size - (k + 1))
          case measure => have := HS.out.2.1; omega
          case rel => exact ⟨k + 1, by have := HS.out.2.1; omega, rfl, by simp, by first | rfl | trivial, HS.out.2.2.1 HBD.out.symm⟩
    · have hke : k = s.size := by omega
      have j1 : ¬ (k : Int) < s.size := by omega
      have hres := nameOk_good s (by rw [hbl, ← hke]; exact HN.out)
      by_cases h1 : 1 ≤ s.size
      · by_cases h16 : s.size ≤ 16
        · have e : nameOk s = true := by rw [hres, decide_eq_true h1, decide_eq_true h16]; rfl
          have HE := Lib.hid e
          have i1 : (1 : Int) ≤ s.size := by omega
          have i2 : (s.size : Int) ≤ 16 := by omega
          clear e hres hbl hlt hk hke h1 h16
          go_wp2_with fail
          go_ret
          rw [HE.out]
          exact ⟨rfl, by first | rfl | trivial⟩
        · have e : nameOk s = false := by rw [hres, decide_eq_false h16, Bool.and_false]
          have HE := Lib.hid e
          have i1 : (1 : Int) ≤ s.size := by omega
          have i2 : ¬ (s.size : Int) ≤ 16 := by omega
          clear e hres hbl hlt hk hke h1 h16
          go_wp2_with fail
          go_ret
          rw [HE.out]
          exact ⟨rfl, by first | rfl | trivial⟩
      · have e : nameOk s = false := by rw [hres, decide_eq_false h1, Bool.false_and]
        have HE := Lib.hid e
        have i1 : ¬ (1 : Int) ≤ s.size := by omega
        clear e hres hbl hlt hk hke h1
        go_wp2_with fail
        go_ret
        rw [HE.out]
        exact ⟨rfl, by first | rfl | trivial⟩
end Go.Proofs.YtpjcebajkfeacaaGreatDoor
namespace Go.Proofs.YtpjcebajkfeacaaGreatDoor
open Go Go.RowKit Go.Deep
theorem Rd.elem' {s : Sh} {w : World} {S : Nat → Prop} {a : Option Addr} {n c : Nat} {l : List s.T} (h : Rd (.slice s) w S [.slice a n c] l) (i : Nat) (hi : i < l.length) :
    ∃ b off row, a = some ⟨b, off, none⟩ ∧ n = l.length ∧ b < w.heap.size ∧ S b ∧ row.length = s.size ∧ RowAt w b (off + i * s.size) row ∧ Rd s w S row l[i] := by
  obtain ⟨a', c', hv, _, _, _, hx⟩ := h
  simp only [List.cons.injEq, Value.slice.injEq, and_true] at hv
  obtain ⟨rfl, rfl, rfl⟩ := hv
  obtain ⟨b, off, row, h1, h2, h3, h4, h5, h6⟩ := hx i hi
  exact ⟨b, off, row, h1, rfl, h2, h3, h4, h5, h6⟩
theorem val_cells {w : World} {S : Nat → Prop} {cs : List Value} {x : Val} (h : Rd valueSh w S cs x) : cs = [.int .i64 x.kind, .int .i64 x.num, .string x.text] ∧ x.In ∧ x.text.size ≤ 9223372036854775807 := by
  obtain ⟨_, _, rfl, ⟨rfl, w1⟩, _, _, rfl, ⟨rfl, w2⟩, _, _, rfl, ⟨rfl, w3⟩, rfl⟩ := h
  rw [maxLen_is] at w3
  simp [Lit.wf, IntKind.min, IntKind.max, IntKind.signed, IntKind.bits] at w1 w2
  exact ⟨rfl, ⟨w1.1, by have h1 := w1.2; exact (by omega : x.1 ≤ 9223372036854775807), w2.1, by have h2 := w2.2; exact (by omega : x.2.1 ≤ 9223372036854775807)⟩, w3⟩
theorem vals_get {w : World} {S : Nat → Prop} {a : Option Addr} {n c : Nat} {l : List Val} (h : Rd (.slice valueSh) w S [.slice a n c] l) (i : Nat) (hi : i < l.length) :
    ∃ b off, a = some ⟨b, off, none⟩ ∧ b < w.heap.size ∧ S b ∧ w.cell? ⟨b, off + i * 3, none⟩ = some (.int .i64 l[i].kind) ∧ w.cell? ⟨b, off + i * 3 + 1, none⟩ = some (.int .i64 l[i].num) ∧ w.cell? ⟨b, off + i * 3 + 2, none⟩ = some (.string l[i].text) ∧ l[i].In ∧ l[i].text.size ≤ 9223372036854775807 := by
  obtain ⟨b, off, row, ha, -, hb, hS, -, hrow, hx⟩ := h.elem' i hi
  obtain ⟨rfl, hI, hs⟩ := val_cells hx
  have p0 := (hrow 0 (by simp)).1
  have p1 := (hrow 1 (by simp)).1
  have p2 := (hrow 2 (by simp)).1
  simp [Sh.size] at p0 p1 p2
  exact ⟨b, off, ha, hb, hS, p0, p1, p2, hI, hs⟩
theorem vals_len {w : World} {S : Nat → Prop} {a : Option Addr} {n c : Nat} {l : List Val} (h : Rd (.slice valueSh) w S [.slice a n c] l) : n = l.length ∧ l.length ≤ 9223372036854775807 := by
  obtain ⟨a', c', e, h1, h2, -⟩ := h
  simp only [List.cons.injEq, Value.slice.injEq, and_true] at e
  rw [maxLen_is] at h2
  exact ⟨e.2.1, by omega⟩
set_option maxRecDepth 10000 in
set_option maxHeartbeats 1000000 in
theorem given_any (k n : Int) (t : ByteArray) (ht : t.size ≤ 9223372036854775807) (w : World) : Calls Tryz.prog 106 #[.agg #[.int .i64 k, .int .i64 n, .string t]] w (Says w (givenV (mkVal k n t))) := by
  have K1 : Keep No w (w.alloc (.cells #[.int .i64 k, .int .i64 n, .string t] 96)) := (Keep.refl No w).alloc _
  have hv := (Valid_any k n t ht (w.alloc (.cells #[.int .i64 k, .int .i64 n, .string t] 96))).mono (R' := fun e w1 => e = .returned (.bool (mkVal k n t).ok) ∧ w1.heap[w.heap.size]? = some (.cells #[.int .i64 k, .int .i64 n, .string t] 96 (0, 0)) ∧ RowKit.Hid (Keep No w w1)) (by
    rintro e w1 ⟨rfl, hk⟩
    exact ⟨rfl, hk.blk (blk_new w _) (fun x => x), K1.trans hk⟩)
  have hg : givenV (mkVal k n t) = ((mkVal k n t).ok && decide (k ≠ 0)) := rfl
  rw [hg]
  clear K1 hg ht
  cases hok : (mkVal k n t).ok with
  | true =>
    rw [hok] at hv
    clear hok
    by_cases hk : k = 0
    · subst hk
      go_enter Tryz.func106, Tryz.ntmps106
      go_wp2_with fail
      refine hv.mono ?_
      clear hv
      rintro e w1 ⟨rfl, x1, HK⟩
      have q1 := blk_cell x1
      go_wp2_with fail
      go_ret
      exact ⟨rfl, HK⟩
    · have d1 : (k != 0) = true := by simpa using hk
      have e : decide (k ≠ 0) = true := decide_eq_true hk
      rw [e]
      clear e hk
      go_enter Tryz.func106, Tryz.ntmps106
      go_wp2_with fail
      refine hv.mono ?_
      clear hv
      rintro e w1 ⟨rfl, x1, HK⟩
      have q1 := blk_cell x1
      go_wp2_with fail
      go_ret
      exact ⟨rfl, HK⟩
  | false =>
    rw [hok] at hv
    clear hok
    rw [Bool.false_and]
    go_enter Tryz.func106, Tryz.ntmps106
    go_wp2_with fail
    refine hv.mono ?_
    clear hv
    rintro e w1 ⟨rfl, x1, HK⟩
    go_wp2_with fail
    go_ret
    exact ⟨rfl, HK⟩
theorem fnCall145 (args : Array Value) (w : World) : (callFunc 106 args).run Tryz.prog w = .ok (.enter 106 args) w := by kernel_rfl
theorem fnCall169 (args : Array Value) (w : World) : (callFunc 172 args).run Tryz.prog w = .ok (.enter 172 args) w := by kernel_rfl
set_option maxRecDepth 10000 in
set_option maxHeartbeats 1000000 in
theorem notGiven_any (k n : Int) (t : ByteArray) (ht : t.size ≤ 9223372036854775807) (w : World) (p : Nat) (hp : w.cell? ⟨p, 0, none⟩ = some (.func (.func 106) #[] #[])) :
    Calls Tryz.prog 172 #[.agg #[.int .i64 k, .int .i64 n, .string t], .pointer (some ⟨p, 0, none⟩)] w (Says w (!givenV (mkVal k n t))) := by
  have K1 : Keep No w (w.alloc (.cells #[.int .i64 k, .int .i64 n, .string t] 96)) := (Keep.refl No w).alloc _
  have hpl : p < w.heap.size := World.block_lt_of_cell? _ _ hp
  have hg := (given_any k n t ht (w.alloc (.cells #[.int .i64 k, .int .i64 n, .string t] 96))).mono (R' := fun e w1 => e = .returned (.bool (givenV (mkVal k n t))) ∧ RowKit.Hid (Keep No w w1)) (by
    rintro e w1 ⟨rfl, hk⟩
    exact ⟨rfl, K1.trans hk⟩)
  have h145 := fnCall145
  clear K1
  generalize givenV (mkVal k n t) = g at *
  go_enter Tryz.func172, Tryz.ntmps172
  go_wp2_with (go_at_call 106; refine hg.mono ?_; clear hg; rintro e w1 ⟨rfl, HK⟩)
  go_ret
  exact ⟨rfl, HK⟩
end Go.Proofs.YtpjcebajkfeacaaGreatDoor
namespace Go.Proofs.YtpjcebajkfeacaaGreatDoor
open Go Go.RowKit Go.Deep
def IdxPost (w : World) (l : List Val) (e : Ending) (w' : World) : Prop := ∃ r : Int, e = .returned (.int .i64 r) ∧ decide (0 ≤ r) = (!(l.all givenV)) ∧ Keep No w w'
theorem given_take (l : List Val) (k : Nat) (hk : k < l.length) (h : (l.take k).all givenV = true) : (l.take (k + 1)).all givenV = givenV l[k] := by
  rw [List.take_succ_eq_append_getElem hk, List.all_append, h]; simp
theorem given_false (l : List Val) (k : Nat) (hk : k < l.length) (h : givenV l[k] = false) : l.all givenV = false := by
  rw [List.all_eq_false]; exact ⟨l[k], List.getElem_mem hk, by simp [h]⟩
set_option maxRecDepth 10000 in
set_option maxHeartbeats 2000000 in
theorem indexFunc_any (w : World) (S : Nat → Prop) (a : Option Addr) (c : Nat) (l : List Val) (h : Rd (.slice valueSh) w S [.slice a l.length c] l) (p : Nat) (hp : w.cell? ⟨p, 0, none⟩ = some (.func (.func 106) #[] #[])) :
    Calls Tryz.prog 220 #[.slice a l.length c, .func (.func 172) #[] #[.pointer (some ⟨p, 0, none⟩)]] w (IdxPost w l) := by
  have h63 := (vals_len h).2
  have h169 := fnCall169
  have hpl : p < w.heap.size := World.block_lt_of_cell? _ _ hp
  have HH := Lib.hid (And.intro h (And.intro hp hpl))
  clear h hp hpl
  go_enter Tryz.func220, Tryz.ntmps220
  go_wp2_with fail
  go_loopw [8] (fun i wr => ∃ k : Nat, k ≤ l.length ∧ i = .int .i64 k ∧ RowKit.Hid (Keep No w wr ∧ (l.take k).all givenV = true)) (fun i _ => l.length - (intOf i).toNat)
  case atStart => exact ⟨0, by omega, rfl, Keep.refl No w, by simp⟩
  case round =>
    obtain ⟨k, hk, rfl, HR⟩ := hrel
    by_cases hlt : k < l.length
    · have j1 : (k : Int) < l.length := by omega
      have j0 : (0 : Int) ≤ k := by omega
      have j3 : (k : Int) ≤ 9223372036854775806 := by omega
      obtain ⟨b, off, rfl, hb, -, c0, c1, c2, hI, hs⟩ := vals_get (HH.out.1.agree _ HR.out.1.agreeNo) k hlt
      have hpr : wr.cell? ⟨p, 0, none⟩ = some (.func (.func 106) #[] #[]) := (HR.out.1.cell HH.out.2.2 (fun x => x)).trans HH.out.2.1
      have hcall := (notGiven_any l[k].kind l[k].num l[k].text hs wr p hpr).mono (R' := fun e w2 => e = .returned (.bool (!givenV l[k])) ∧ RowKit.Hid (Keep No w w2)) (by
        rintro e w2 ⟨rfl, hk2⟩
        exact ⟨rfl, HR.out.1.trans hk2⟩)
      have hsucc := given_take l k hlt HR.out.2
      have hbad := given_false l k hlt
      clear hpr hI hs hb
      cases hg : givenV l[k] with
      | true =>
        rw [hg] at hcall hsucc
        have HA := Lib.hid (And.intro hsucc hlt)
        clear hsucc hbad hg
        generalize l[k].kind = x1 at *
        generalize l[k].num = x2 at *
        generalize l[k].text = x3 at *
        clear hlt hk HR
        go_wp2_with (go_at_call 172; refine hcall.mono ?_; clear hcall; rintro e w2 ⟨rfl, HK⟩)
        go_roundw
        case rel => exact ⟨k + 1, by have := HA.out.2; omega, by simp, HK.out, HA.out.1⟩
        case measure => simp [intOf]; have := HA.out.2; omega
      | false =>
        rw [hg] at hcall
        have HA := Lib.hid (hbad hg)
        clear hsucc hbad hg
        generalize l[k].kind = x1 at *
        generalize l[k].num = x2 at *
        generalize l[k].text = x3 at *
        clear hlt hk HR
        go_wp2_with (go_at_call 172; refine hcall.mono ?_; clear hcall; rintro e w2 ⟨rfl, HK⟩)
        go_ret
        exact ⟨_, rfl, by rw [HA.out]; simp, HK⟩
    · have j1 : ¬ (k : Int) < l.length := by omega
      have ha := HR.out.2
      rw [List.take_of_length_le (by omega)] at ha
      have HA := Lib.hid (And.intro ha HR.out.1)
      clear ha hlt hk HR
      go_wp2_with fail
      go_ret
      exact ⟨_, rfl, by rw [HA.out.1]; decide, HA.out.2⟩
set_option maxRecDepth 10000 in
set_option maxHeartbeats 2000000 in
theorem containsFunc_any (w : World) (S : Nat → Prop) (a : Option Addr) (c : Nat) (l : List Val) (h : Rd (.slice valueSh) w S [.slice a l.length c] l) (p : Nat) (hp : w.cell? ⟨p, 0, none⟩ = some (.func (.func 106) #[] #[])) :
    Calls Tryz.prog 171 #[.slice a l.length c, .func (.func 172) #[] #[.pointer (some ⟨p, 0, none⟩)]] w (Says w (!(l.all givenV))) := by
  have hc := indexFunc_any w S a c l h p hp
  clear h hp
  go_enter Tryz.func171, Tryz.ntmps171
  go_wp2_with fail
  refine hc.mono ?_
  clear hc
  rintro e w2 ⟨r, rfl, hr, hk⟩
  have HK := Lib.hid (And.intro hr hk)
  clear hr hk
  go_wp2_with fail
  go_ret
  refine ⟨?_, HK.out.2⟩
  rw [← HK.out.1]
  rfl
set_option maxRecDepth 10000 in
set_option maxHeartbeats 2000000 in
theorem all_any (w : World) (S : Nat → Prop) (a : Option Addr) (c : Nat) (l : List Val) (h : Rd (.slice valueSh) w S [.slice a l.length c] l) :
    Calls Tryz.prog 105 #[.slice a l.length c, .func (.func 106) #[] #[]] w (Says w (l.all givenV)) := by
  have K1 : Keep No w (w.alloc (.cells #[.func (.func 106) #[] #[]] 174)) := (Keep.refl No w).alloc _
  have hc := (containsFunc_any _ S a c l (h.agree _ K1.agreeNo) w.heap.size (blk_cell (blk_new w _) 0)).mono (R' := fun e w2 => e = .returned (.bool (!(l.all givenV))) ∧ RowKit.Hid (Keep No w w2)) (by
    rintro e w2 ⟨rfl, hk⟩
    exact ⟨rfl, K1.trans hk⟩)
  clear h K1
  generalize l.all givenV = g at *
  go_enter Tryz.func105, Tryz.ntmps105
  go_wp2_with fail
  refine hc.mono ?_
  clear hc
  rintro e w2 ⟨rfl, HK⟩
  go_wp2_with fail
  go_ret
  exact ⟨by simp, HK⟩
def GivesI (w : World) (x : Int) (e : Ending) (w' : World) : Prop := e = .returned (.int .i64 x) ∧ Keep No w w'
theorem req_cells {w : World} {S : Nat → Prop} {cs : List Value} {q : Req} (h : Rd requestSh w S cs q) :
    ∃ a c, cs = [.int .i64 q.client, .int .u64 q.token, .string q.name, .slice a q.args.length c] ∧ Rd (.slice valueSh) w S [.slice a q.args.length c] q.args ∧ (Lit.int .i64 q.client).wf = true ∧ (Lit.int .u64 q.token).wf = true ∧ q.name.size ≤ maxLen := by
  obtain ⟨_, _, rfl, ⟨rfl, w1⟩, _, _, rfl, ⟨rfl, w2⟩, _, _, rfl, ⟨rfl, w3⟩, _, _, rfl, h4, rfl⟩ := h
  obtain ⟨a, c, rfl, -⟩ := Rd.sliceForm h4
  exact ⟨a, c, rfl, h4, w1, w2, w3⟩
set_option maxRecDepth 10000 in
set_option maxHeartbeats 2000000 in
theorem check_any (w : World) (S : Nat → Prop) (cs : List Value) (q : Req) (h : Rd requestSh w S cs q) (hn : q.name.size ≤ 9223372036854775806) :
    Calls Tryz.prog 45 #[.agg cs.toArray] w (GivesI w q.check) := by
  obtain ⟨a, c, rfl, h4, w1, w2, w3⟩ := req_cells h
  have K1 : Keep No w (w.alloc (.cells #[.int .i64 q.client, .int .u64 q.token, .string q.name, .slice a q.args.length c] 29)) := (Keep.refl No w).alloc _
  have hall := (all_any _ S a c q.args (h4.agree _ K1.agreeNo)).mono (R' := fun e w2 => e = .returned (.bool (q.args.all givenV)) ∧ RowKit.Hid (Keep No w w2)) (by
    rintro e w2 ⟨rfl, hk⟩
    exact ⟨rfl, K1.trans hk⟩)
  have HK1 := Lib.hid K1
  have hq : q.check = if q.client < 0 ∨ 64 ≤ q.client then 2 else if nameOk q.name = false then 90 else if 8 < q.args.length then 6 else if q.args.all givenV = false then 91 else 0 := rfl
  rw [hq]
  clear hq h h4 w1 w2 w3 K1
  generalize q.client = x1 at *
  generalize q.token = x2 at *
  generalize q.name = x3 at *
  by_cases hc : x1 < 0 ∨ 64 ≤ x1
  · rw [if_pos hc]
    have HC := Lib.hid hc
    rcases hc with hc | hc
    · go_enter Tryz.func45, Tryz.ntmps45
      go_wp2_with fail
      go_ret
      exact ⟨rfl, HK1⟩
    · have : ¬ x1 < 0 := by omega
      go_enter Tryz.func45, Tryz.ntmps45
      go_wp2_with fail
      go_ret
      exact ⟨rfl, HK1⟩
  · rw [if_neg hc]
    have i1 : ¬ x1 < 0 := by omega
    have i2 : ¬ 64 ≤ x1 := by omega
    clear hc
    cases hname : nameOk x3 with
    | false =>
      simp only [if_true]
      go_enter Tryz.func45, Tryz.ntmps45
      go_wp2_with (go_at_call 57; refine (isName_any x3 hn _).mono ?_; rintro e w2 ⟨rfl, rfl⟩; rw [hname])
      go_ret
      exact ⟨rfl, HK1⟩
    | true =>
      simp only [Bool.true_eq_false, if_false]
      by_cases h8 : 8 < q.args.length
      · rw [if_pos h8]
        have i3 : (8 : Int) < q.args.length := by omega
        clear h8
        go_enter Tryz.func45, Tryz.ntmps45
        go_wp2_with (go_at_call 57; refine (isName_any x3 hn _).mono ?_; rintro e w2 ⟨rfl, rfl⟩; rw [hname])
        go_ret
        exact ⟨rfl, HK1⟩
      · rw [if_neg h8]
        have i3 : ¬ (8 : Int) < q.args.length := by omega
        clear h8
        cases hg : q.args.all givenV with
        | false =>
          rw [hg] at hall
          simp only [if_true]
          clear hg
          generalize q.args.length = m at *
          go_enter Tryz.func45, Tryz.ntmps45
          go_wp2_with (first | (go_at_call 57; refine (isName_any x3 hn _).mono ?_; rintro e w2 ⟨rfl, rfl⟩; rw [hname]) | (go_at_call 105; refine hall.mono ?_; clear hall; rintro e w2 ⟨rfl, HK2⟩))
          go_ret
          exact ⟨rfl, HK2⟩
        | true =>
          rw [hg] at hall
          simp only [Bool.true_eq_false, if_false]
          clear hg
          generalize q.args.length = m at *
          go_enter Tryz.func45, Tryz.ntmps45
          go_wp2_with (first | (go_at_call 57; refine (isName_any x3 hn _).mono ?_; rintro e w2 ⟨rfl, rfl⟩; rw [hname]) | (go_at_call 105; refine hall.mono ?_; clear hall; rintro e w2 ⟨rfl, HK2⟩))
          go_ret
          exact ⟨rfl, HK2⟩
end Go.Proofs.YtpjcebajkfeacaaGreatDoor
