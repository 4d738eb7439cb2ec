/-
  Parts of what is proved for this claim; each declaration is one of the seat's texts.
-/
import Derived.Test.YtcallmnhaikfpaaGreatDoorTGA
import Derived.Test.YtcallmnhaikfpaaGreatDoorTGC
import Derived.Test.YtcallmnhaikfpaaGreatDoorTGD
import Derived.Test.YtcallmnhaikfpaaGreatDoorTGF
import Derived.Test.YtcallmnhaikfpaaGreatDoorTGK
import Derived.Still
import Derived.StillTactics
import Derived.WalkKit
import Derived.WalkSpells
import Derived.WalkLawsBesides
import Derived.ProofKit
import Derived.Deep.Slices
import Derived.Deep.AppendSrc
import Derived.Lib.Hide
import Derived.Recover
import Derived.Defers
import Derived.Deep.QuietTactic
import Derived.BigQuiet
import Derived.Handy
import Derived.Laws.Bits64b
import Derived.Lib.Zigzag
import Derived.OwnWalk
import Derived.Deep.DeepCutAuto
import Derived.Lib.Bytealg
import Derived.Laws.Externs
import Derived.Deep.LoopGhost
set_option linter.unusedVariables false
set_option linter.unusedSimpArgs false
namespace Go.Proofs.YtcallmnhaikfpaaGreatDoor
open Go Go.RowKit Go.Deep
def nameBad (k : Nat) (c : Int) : Bool := decide ((c < 97 ∨ 122 < c) ∧ (k = 0 ∨ (c ≠ 95 ∧ (c < 48 ∨ 57 < c))))
def nameTo (s : ByteArray) (k : Nat) : Prop := ∀ j (hj : j < (bytesOf s).length), j < k → nameBad j (bytesOf s)[j] = false
theorem nameTo_succ {s : ByteArray} {k : Nat} (h : nameTo s k) (hk : k < (bytesOf s).length) (e : nameBad k (bytesOf s)[k] = false) : nameTo s (k + 1) := fun j hj hjk => by
  by_cases hh : j = k
  · subst hh; exact e
  · exact h j hj (by omega)
theorem nameOk_good (s : ByteArray) (h : nameTo s (bytesOf s).length) : nameOk s = (decide (1 ≤ s.size) && decide (s.size ≤ 16)) := by
  have hl := bytesOf_length s
  unfold nameOk
  have h' : ∀ j (hj : j < (bytesOf s).length), nameBad j (bytesOf s)[j] = false := fun j hj => h j hj hj
  clear h
  generalize bytesOf s = l at *
  cases l with
  | nil =>
    have : s.size = 0 := hl.symm
    simp [this]
  | cons c l =>
    have h0 := h' 0 (by simp)
    simp only [List.getElem_cons_zero, nameBad] at h0
    have h0 := of_decide_eq_false h0
    have h0 : ¬ (c < 97 ∨ 122 < c) := fun hh => h0 ⟨hh, .inl trivial⟩
    have h1 : (l.all fun c => (decide (97 ≤ c) && decide (c ≤ 122)) || decide (c = 95) || (decide (48 ≤ c) && decide (c ≤ 57))) = true := by
      rw [List.all_eq_true]
      intro x hx
      obtain ⟨i, hi, rfl⟩ := List.getElem_of_mem hx
      have h2 := h' (i + 1) (by simpa using hi)
      simp only [List.getElem_cons_succ, nameBad] at h2
      have h2 := of_decide_eq_false h2
      simp only [Bool.or_eq_true, Bool.and_eq_true, decide_eq_true_eq]
      omega
    have h3 : decide (97 ≤ c) = true := decide_eq_true (by omega)
    have h4 : decide (c ≤ 122) = true := decide_eq_true (by omega)
    have h5 : decide (1 ≤ s.size) = true := decide_eq_true (by rw [← hl]; simp)
    simp only [h1, h3, h4, h5, Bool.and_self, Bool.true_and]
theorem nameOk_bad (s : ByteArray) (j : Nat) (hj : j < (bytesOf s).length) (h : nameBad j (bytesOf s)[j] = true) : nameOk s = false := by
  unfold nameOk
  generalize bytesOf s = l at *
  cases l with
  | nil => simp at hj
  | cons c l =>
    cases j with
    | zero =>
      simp only [List.getElem_cons_zero, nameBad] at h
      have h := of_decide_eq_true h
      by_cases h3 : 97 ≤ c
      · have h4 : decide (c ≤ 122) = false := decide_eq_false (by omega)
        simp [h4]
      · simp [h3]
    | succ i =>
      simp only [List.getElem_cons_succ, nameBad] at h
      have h := of_decide_eq_true h
      have h1 : (l.all fun c => (decide (97 ≤ c) && decide (c ≤ 122)) || decide (c = 95) || (decide (48 ≤ c) && decide (c ≤ 57))) = false := by
        rw [List.all_eq_false]
        refine ⟨l[i]'(by simpa using hj), List.getElem_mem _, ?_⟩
        simp only [Bool.or_eq_true, Bool.and_eq_true, decide_eq_true_eq]
        omega
      simp only [h1, Bool.and_false, Bool.false_and]
end Go.Proofs.YtcallmnhaikfpaaGreatDoor
namespace Go.Proofs.YtcallmnhaikfpaaGreatDoor
open Go Go.RowKit Go.Deep
set_option maxRecDepth 10000 in
set_option maxHeartbeats 4000000 in
theorem isName_any (s : ByteArray) (hs : s.size ≤ 9223372036854775806) (w : World) : Calls Tryz.prog 49 #[.string s] w fun e w' => e = .returned (.bool (nameOk s)) ∧ w' = w := by
  have hbl := bytesOf_length s
  go_enter Tryz.func49, Tryz.ntmps49
  go_wp2_with fail
  go_loopg [7] s.size (fun g i wr => ∃ k : Nat, k ≤ s.size ∧ g = s.size - k ∧ i = .int .i64 k ∧ wr = w ∧ RowKit.Hid (nameTo s k))
  case atStart => exact ⟨0, by omega, by omega, rfl, rfl, fun _ _ h => absurd h (Nat.not_lt_zero _)⟩
  case round =>
    obtain ⟨k, hk, rfl, rfl, rfl, HN⟩ := hrel
    by_cases hlt : k < s.size
    · have j1 : (k : Int) < s.size := by omega
      have j0 : (0 : Int) ≤ k := by omega
      have j3 : (k : Int) ≤ 9223372036854775805 := by omega
      have hl : k < (bytesOf s).length := by omega
      have hg := bytesOf_get s k hl hlt
      have hr := bytesOf_allB s _ (List.getElem_mem hl)
      have hyes := fun h => nameTo_succ HN.out hl h
      have hno := fun h => nameOk_bad s k hl h
      rw [hg] at hr hyes hno
      generalize hc : (s[k].toNat : Int) = c at hr hyes hno
      have HS := Lib.hid (And.intro hk (And.intro hlt (And.intro hyes hno)))
      have HC := Lib.hid hc
      clear hg hl hs hyes hno hbl hk
      obtain ⟨bad, hbad⟩ : ∃ bad : Bool, bad = nameBad k c := ⟨_, rfl⟩
      have HBD := Lib.hid hbad
      clear hbad
      go_upto_region 5 with fail
      go_cut [34] (fun c wx => c = .bool bad ∧ wx = wr)
      case first =>
        by_cases hz : k = 0
        · subst hz
          have e0 : ((0 : Nat) : Int) = 0 := rfl
          rw [e0]
          go_wp2_with fail
          all_goals
            go_meet
            case rel => exact ⟨by rw [HBD.out]; congr 1; rw [Bool.eq_iff_iff]; simp [nameBad] <;> omega, rfl⟩
        · have hz' : ((k : Int) == 0) = false := by simpa using hz
          have HZ := Lib.hid hz
          clear hz
          by_cases h95 : c = 95
          · subst h95
            go_wp2_with fail
            all_goals
              go_meet
              case rel => exact ⟨by rw [HBD.out]; have := HZ.out; congr 1; rw [Bool.eq_iff_iff]; simp [nameBad] <;> omega, rfl⟩
          · have h95' : (c != 95) = true := by simpa using h95
            have H95 := Lib.hid h95
            clear h95
            go_wp2_with fail
            all_goals
              go_meet
              case rel => exact ⟨by rw [HBD.out]; have := HZ.out; have := H95.out; congr 1; rw [Bool.eq_iff_iff]; simp [nameBad] <;> omega, rfl⟩
      case rest =>
        obtain ⟨rfl, rfl⟩ := hcut
        cases bad with
        | true =>
          go_wp2_with fail
          go_ret
          have := HS.out.2.2.2 HBD.out.symm
          rw [this]
          exact ⟨rfl, by first | rfl | trivial⟩
        | false =>
          go_wp2_with fail
          go_roundg (s.size - (k + 1))
          case measure => have := HS.out.2.1; omega
          case rel => exact ⟨k + 1, by have := HS.out.2.1; omega, rfl, by simp, by first | rfl | trivial, HS.out.2.2.1 HBD.out.symm⟩
    · have hke : k = s.size := by omega
      have j1 : ¬ (k : Int) < s.size := by omega
      have hres := nameOk_good s (by rw [hbl, ← hke]; exact HN.out)
      by_cases h1 : 1 ≤ s.size
      · by_cases h16 : s.size ≤ 16
        · have e : nameOk s = true := by rw [hres, decide_eq_true h1, decide_eq_true h16]; rfl
          have HE := Lib.hid e
          have i1 : (1 : Int) ≤ s.size := by omega
          have i2 : (s.size : Int) ≤ 16 := by omega
          clear e hres hbl hlt hk hke h1 h16
          go_wp2_with fail
          go_ret
          rw [HE.out]
          exact ⟨rfl, by first | rfl | trivial⟩
        · have e : nameOk s = false := by rw [hres, decide_eq_false h16, Bool.and_false]
          have HE := Lib.hid e
          have i1 : (1 : Int) ≤ s.size := by omega
          have i2 : ¬ (s.size : Int) ≤ 16 := by omega
          clear e hres hbl hlt hk hke h1 h16
          go_wp2_with fail
          go_ret
          rw [HE.out]
          exact ⟨rfl, by first | rfl | trivial⟩
      · have e : nameOk s = false := by rw [hres, decide_eq_false h1, Bool.false_and]
        have HE := Lib.hid e
        have i1 : ¬ (1 : Int) ≤ s.size := by omega
        clear e hres hbl hlt hk hke h1
        go_wp2_with fail
        go_ret
        rw [HE.out]
        exact ⟨rfl, by first | rfl | trivial⟩
end Go.Proofs.YtcallmnhaikfpaaGreatDoor
namespace Go.Proofs.YtcallmnhaikfpaaGreatDoor
open Go Go.RowKit Go.Deep
theorem Rd.elem' {s : Sh} {w : World} {S : Nat → Prop} {a : Option Addr} {n c : Nat} {l : List s.T} (h : Rd (.slice s) w S [.slice a n c] l) (i : Nat) (hi : i < l.length) :
    ∃ b off row, a = some ⟨b, off, none⟩ ∧ n = l.length ∧ b < w.heap.size ∧ S b ∧ row.length = s.size ∧ RowAt w b (off + i * s.size) row ∧ Rd s w S row l[i] := by
  obtain ⟨a', c', hv, _, _, _, hx⟩ := h
  simp only [List.cons.injEq, Value.slice.injEq, and_true] at hv
  obtain ⟨rfl, rfl, rfl⟩ := hv
  obtain ⟨b, off, row, h1, h2, h3, h4, h5, h6⟩ := hx i hi
  exact ⟨b, off, row, h1, rfl, h2, h3, h4, h5, h6⟩
theorem val_cells {w : World} {S : Nat → Prop} {cs : List Value} {x : Val} (h : Rd valueSh w S cs x) : cs = [.int .i64 x.kind, .int .i64 x.num, .string x.text] ∧ x.In ∧ x.text.size ≤ 9223372036854775807 := by
  obtain ⟨_, _, rfl, ⟨rfl, w1⟩, _, _, rfl, ⟨rfl, w2⟩, _, _, rfl, ⟨rfl, w3⟩, rfl⟩ := h
  rw [maxLen_is] at w3
  simp [Lit.wf, IntKind.min, IntKind.max, IntKind.signed, IntKind.bits] at w1 w2
  exact ⟨rfl, ⟨w1.1, by have h1 := w1.2; exact (by omega : x.1 ≤ 9223372036854775807), w2.1, by have h2 := w2.2; exact (by omega : x.2.1 ≤ 9223372036854775807)⟩, w3⟩
theorem vals_get {w : World} {S : Nat → Prop} {a : Option Addr} {n c : Nat} {l : List Val} (h : Rd (.slice valueSh) w S [.slice a n c] l) (i : Nat) (hi : i < l.length) :
    ∃ b off, a = some ⟨b, off, none⟩ ∧ b < w.heap.size ∧ S b ∧ w.cell? ⟨b, off + i * 3, none⟩ = some (.int .i64 l[i].kind) ∧ w.cell? ⟨b, off + i * 3 + 1, none⟩ = some (.int .i64 l[i].num) ∧ w.cell? ⟨b, off + i * 3 + 2, none⟩ = some (.string l[i].text) ∧ l[i].In ∧ l[i].text.size ≤ 9223372036854775807 := by
  obtain ⟨b, off, row, ha, -, hb, hS, -, hrow, hx⟩ := h.elem' i hi
  obtain ⟨rfl, hI, hs⟩ := val_cells hx
  have p0 := (hrow 0 (by simp)).1
  have p1 := (hrow 1 (by simp)).1
  have p2 := (hrow 2 (by simp)).1
  simp [Sh.size] at p0 p1 p2
  exact ⟨b, off, ha, hb, hS, p0, p1, p2, hI, hs⟩
theorem vals_len {w : World} {S : Nat → Prop} {a : Option Addr} {n c : Nat} {l : List Val} (h : Rd (.slice valueSh) w S [.slice a n c] l) : n = l.length ∧ l.length ≤ 9223372036854775807 := by
  obtain ⟨a', c', e, h1, h2, -⟩ := h
  simp only [List.cons.injEq, Value.slice.injEq, and_true] at e
  rw [maxLen_is] at h2
  exact ⟨e.2.1, by omega⟩
set_option maxRecDepth 10000 in
set_option maxHeartbeats 1000000 in
theorem given_any (k n : Int) (t : ByteArray) (ht : t.size ≤ 9223372036854775807) (w : World) : Calls Tryz.prog 51 #[.agg #[.int .i64 k, .int .i64 n, .string t]] w (Says w (givenV (mkVal k n t))) := by
  have K1 : Keep No w (w.alloc (.cells #[.int .i64 k, .int .i64 n, .string t] 84)) := (Keep.refl No w).alloc _
  have hv := (Valid_any k n t ht (w.alloc (.cells #[.int .i64 k, .int .i64 n, .string t] 84))).mono (R' := fun e w1 => e = .returned (.bool (mkVal k n t).ok) ∧ w1.heap[w.heap.size]? = some (.cells #[.int .i64 k, .int .i64 n, .string t] 84 (0, 0)) ∧ RowKit.Hid (Keep No w w1)) (by
    rintro e w1 ⟨rfl, hk⟩
    exact ⟨rfl, hk.blk (blk_new w _) (fun x => x), K1.trans hk⟩)
  have hg : givenV (mkVal k n t) = ((mkVal k n t).ok && decide (k ≠ 0)) := rfl
  rw [hg]
  clear K1 hg ht
  cases hok : (mkVal k n t).ok with
  | true =>
    rw [hok] at hv
    clear hok
    by_cases hk : k = 0
    · subst hk
      go_enter Tryz.func51, Tryz.ntmps51
      go_wp2_with fail
      refine hv.mono ?_
      clear hv
      rintro e w1 ⟨rfl, x1, HK⟩
      have q1 := blk_cell x1
      go_wp2_with fail
      go_ret
      exact ⟨rfl, HK⟩
    · have d1 : (k != 0) = true := by simpa using hk
      have e : decide (k ≠ 0) = true := decide_eq_true hk
      rw [e]
      clear e hk
      go_enter Tryz.func51, Tryz.ntmps51
      go_wp2_with fail
      refine hv.mono ?_
      clear hv
      rintro e w1 ⟨rfl, x1, HK⟩
      have q1 := blk_cell x1
      go_wp2_with fail
      go_ret
      exact ⟨rfl, HK⟩
  | false =>
    rw [hok] at hv
    clear hok
    rw [Bool.false_and]
    go_enter Tryz.func51, Tryz.ntmps51
    go_wp2_with fail
    refine hv.mono ?_
    clear hv
    rintro e w1 ⟨rfl, x1, HK⟩
    go_wp2_with fail
    go_ret
    exact ⟨rfl, HK⟩
theorem fnCall145 (args : Array Value) (w : World) : (callFunc 51 args).run Tryz.prog w = .ok (.enter 51 args) w := by kernel_rfl
theorem fnCall169 (args : Array Value) (w : World) : (callFunc 86 args).run Tryz.prog w = .ok (.enter 86 args) w := by kernel_rfl
set_option maxRecDepth 10000 in
set_option maxHeartbeats 1000000 in
theorem notGiven_any (k n : Int) (t : ByteArray) (ht : t.size ≤ 9223372036854775807) (w : World) (p : Nat) (hp : w.cell? ⟨p, 0, none⟩ = some (.func (.func 51) #[] #[])) :
    Calls Tryz.prog 86 #[.agg #[.int .i64 k, .int .i64 n, .string t], .pointer (some ⟨p, 0, none⟩)] w (Says w (!givenV (mkVal k n t))) := by
  have K1 : Keep No w (w.alloc (.cells #[.int .i64 k, .int .i64 n, .string t] 84)) := (Keep.refl No w).alloc _
  have hpl : p < w.heap.size := World.block_lt_of_cell? _ _ hp
  have hg := (given_any k n t ht (w.alloc (.cells #[.int .i64 k, .int .i64 n, .string t] 84))).mono (R' := fun e w1 => e = .returned (.bool (givenV (mkVal k n t))) ∧ RowKit.Hid (Keep No w w1)) (by
    rintro e w1 ⟨rfl, hk⟩
    exact ⟨rfl, K1.trans hk⟩)
  have h145 := fnCall145
  clear K1
  generalize givenV (mkVal k n t) = g at *
  go_enter Tryz.func86, Tryz.ntmps86
  go_wp2_with (go_at_call 51; refine hg.mono ?_; clear hg; rintro e w1 ⟨rfl, HK⟩)
  go_ret
  exact ⟨rfl, HK⟩
end Go.Proofs.YtcallmnhaikfpaaGreatDoor
namespace Go.Proofs.YtcallmnhaikfpaaGreatDoor
open Go Go.RowKit Go.Deep
def IdxPost (w : World) (l : List Val) (e : Ending) (w' : World) : Prop := ∃ r : Int, e = .returned (.int .i64 r) ∧ decide (0 ≤ r) = (!(l.all givenV)) ∧ Keep No w w'
theorem given_take (l : List Val) (k : Nat) (hk : k < l.length) (h : (l.take k).all givenV = true) : (l.take (k + 1)).all givenV = givenV l[k] := by
  rw [List.take_succ_eq_append_getElem hk, List.all_append, h]; simp
theorem given_false (l : List Val) (k : Nat) (hk : k < l.length) (h : givenV l[k] = false) : l.all givenV = false := by
  rw [List.all_eq_false]; exact ⟨l[k], List.getElem_mem hk, by simp [h]⟩
set_option maxRecDepth 10000 in
set_option maxHeartbeats 2000000 in
theorem indexFunc_any (w : World) (S : Nat → Prop) (a : Option Addr) (c : Nat) (l : List Val) (h : Rd (.slice valueSh) w S [.slice a l.length c] l) (p : Nat) (hp : w.cell? ⟨p, 0, none⟩ = some (.func (.func 51) #[] #[])) :
    Calls Tryz.prog 109 #[.slice a l.length c, .func (.func 86) #[] #[.pointer (some ⟨p, 0, none⟩)]] w (IdxPost w l) := by
  have h63 := (vals_len h).2
  have h169 := fnCall169
  have hpl : p < w.heap.size := World.block_lt_of_cell? _ _ hp
  have HH := Lib.hid (And.intro h (And.intro hp hpl))
  clear h hp hpl
  go_enter Tryz.func109, Tryz.ntmps109
  go_wp2_with fail
  go_loopw [8] (fun i wr => ∃ k : Nat, k ≤ l.length ∧ i = .int .i64 k ∧ RowKit.Hid (Keep No w wr ∧ (l.take k).all givenV = true)) (fun i _ => l.length - (intOf i).toNat)
  case atStart => exact ⟨0, by omega, rfl, Keep.refl No w, by simp⟩
  case round =>
    obtain ⟨k, hk, rfl, HR⟩ := hrel
    by_cases hlt : k < l.length
    · have j1 : (k : Int) < l.length := by omega
      have j0 : (0 : Int) ≤ k := by omega
      have j3 : (k : Int) ≤ 9223372036854775806 := by omega
      obtain ⟨b, off, rfl, hb, -, c0, c1, c2, hI, hs⟩ := vals_get (HH.out.1.agree _ HR.out.1.agreeNo) k hlt
      have hpr : wr.cell? ⟨p, 0, none⟩ = some (.func (.func 51) #[] #[]) := (HR.out.1.cell HH.out.2.2 (fun x => x)).trans HH.out.2.1
      have hcall := (notGiven_any l[k].kind l[k].num l[k].text hs wr p hpr).mono (R' := fun e w2 => e = .returned (.bool (!givenV l[k])) ∧ RowKit.Hid (Keep No w w2)) (by
        rintro e w2 ⟨rfl, hk2⟩
        exact ⟨rfl, HR.out.1.trans hk2⟩)
      have hsucc := given_take l k hlt HR.out.2
      have hbad := given_false l k hlt
      clear hpr hI hs hb
      cases hg : givenV l[k] with
      | true =>
        rw [hg] at hcall hsucc
        have HA := Lib.hid (And.intro hsucc hlt)
        clear hsucc hbad hg
        generalize l[k].kind = x1 at *
        generalize l[k].num = x2 at *
        generalize l[k].text = x3 at *
        clear hlt hk HR
        go_wp2_with (go_at_call 86; refine hcall.mono ?_; clear hcall; rintro e w2 ⟨rfl, HK⟩)
        go_roundw
        case rel => exact ⟨k + 1, by have := HA.out.2; omega, by simp, HK.out, HA.out.1⟩
        case measure => simp [intOf]; have := HA.out.2; omega
      | false =>
        rw [hg] at hcall
        have HA := Lib.hid (hbad hg)
        clear hsucc hbad hg
        generalize l[k].kind = x1 at *
        generalize l[k].num = x2 at *
        generalize l[k].text = x3 at *
        clear hlt hk HR
        go_wp2_with (go_at_call 86; refine hcall.mono ?_; clear hcall; rintro e w2 ⟨rfl, HK⟩)
        go_ret
        exact ⟨_, rfl, by rw [HA.out]; simp, HK⟩
    · have j1 : ¬ (k : Int) < l.length := by omega
      have ha := HR.out.2
      rw [List.take_of_length_le (by omega)] at ha
      have HA := Lib.hid (And.intro ha HR.out.1)
      clear ha hlt hk HR
      go_wp2_with fail
      go_ret
      exact ⟨_, rfl, by rw [HA.out.1]; decide, HA.out.2⟩
set_option maxRecDepth 10000 in
set_option maxHeartbeats 2000000 in
theorem containsFunc_any (w : World) (S : Nat → Prop) (a : Option Addr) (c : Nat) (l : List Val) (h : Rd (.slice valueSh) w S [.slice a l.length c] l) (p : Nat) (hp : w.cell? ⟨p, 0, none⟩ = some (.func (.func 51) #[] #[])) :
    Calls Tryz.prog 85 #[.slice a l.length c, .func (.func 86) #[] #[.pointer (some ⟨p, 0, none⟩)]] w (Says w (!(l.all givenV))) := by
  have hc := indexFunc_any w S a c l h p hp
  clear h hp
  go_enter Tryz.func85, Tryz.ntmps85
  go_wp2_with fail
  refine hc.mono ?_
  clear hc
  rintro e w2 ⟨r, rfl, hr, hk⟩
  have HK := Lib.hid (And.intro hr hk)
  clear hr hk
  go_wp2_with fail
  go_ret
  refine ⟨?_, HK.out.2⟩
  rw [← HK.out.1]
  rfl
set_option maxRecDepth 10000 in
set_option maxHeartbeats 2000000 in
theorem all_any (w : World) (S : Nat → Prop) (a : Option Addr) (c : Nat) (l : List Val) (h : Rd (.slice valueSh) w S [.slice a l.length c] l) :
    Calls Tryz.prog 50 #[.slice a l.length c, .func (.func 51) #[] #[]] w (Says w (l.all givenV)) := by
  have K1 : Keep No w (w.alloc (.cells #[.func (.func 51) #[] #[]] 108)) := (Keep.refl No w).alloc _
  have hc := (containsFunc_any _ S a c l (h.agree _ K1.agreeNo) w.heap.size (blk_cell (blk_new w _) 0)).mono (R' := fun e w2 => e = .returned (.bool (!(l.all givenV))) ∧ RowKit.Hid (Keep No w w2)) (by
    rintro e w2 ⟨rfl, hk⟩
    exact ⟨rfl, K1.trans hk⟩)
  clear h K1
  generalize l.all givenV = g at *
  go_enter Tryz.func50, Tryz.ntmps50
  go_wp2_with fail
  refine hc.mono ?_
  clear hc
  rintro e w2 ⟨rfl, HK⟩
  go_wp2_with fail
  go_ret
  exact ⟨by simp, HK⟩
def GivesI (w : World) (x : Int) (e : Ending) (w' : World) : Prop := e = .returned (.int .i64 x) ∧ Keep No w w'
theorem req_cells {w : World} {S : Nat → Prop} {cs : List Value} {q : Req} (h : Rd requestSh w S cs q) :
    ∃ a c, cs = [.int .i64 q.client, .int .u64 q.token, .string q.name, .slice a q.args.length c] ∧ Rd (.slice valueSh) w S [.slice a q.args.length c] q.args ∧ (Lit.int .i64 q.client).wf = true ∧ (Lit.int .u64 q.token).wf = true ∧ q.name.size ≤ maxLen := by
  obtain ⟨_, _, rfl, ⟨rfl, w1⟩, _, _, rfl, ⟨rfl, w2⟩, _, _, rfl, ⟨rfl, w3⟩, _, _, rfl, h4, rfl⟩ := h
  obtain ⟨a, c, rfl, -⟩ := Rd.sliceForm h4
  exact ⟨a, c, rfl, h4, w1, w2, w3⟩
set_option maxRecDepth 10000 in
set_option maxHeartbeats 2000000 in
theorem check_any (w : World) (S : Nat → Prop) (cs : List Value) (q : Req) (h : Rd requestSh w S cs q) (hn : q.name.size ≤ 9223372036854775806) :
    Calls Tryz.prog 22 #[.agg cs.toArray] w (GivesI w q.check) := by
  obtain ⟨a, c, rfl, h4, w1, w2, w3⟩ := req_cells h
  have K1 : Keep No w (w.alloc (.cells #[.int .i64 q.client, .int .u64 q.token, .string q.name, .slice a q.args.length c] 38)) := (Keep.refl No w).alloc _
  have hall := (all_any _ S a c q.args (h4.agree _ K1.agreeNo)).mono (R' := fun e w2 => e = .returned (.bool (q.args.all givenV)) ∧ RowKit.Hid (Keep No w w2)) (by
    rintro e w2 ⟨rfl, hk⟩
    exact ⟨rfl, K1.trans hk⟩)
  have HK1 := Lib.hid K1
  have hq : q.check = if q.client < 0 ∨ 64 ≤ q.client then 2 else if nameOk q.name = false then 90 else if 8 < q.args.length then 6 else if q.args.all givenV = false then 91 else 0 := rfl
  rw [hq]
  clear hq h h4 w1 w2 w3 K1
  generalize q.client = x1 at *
  generalize q.token = x2 at *
  generalize q.name = x3 at *
  by_cases hc : x1 < 0 ∨ 64 ≤ x1
  · rw [if_pos hc]
    have HC := Lib.hid hc
    rcases hc with hc | hc
    · go_enter Tryz.func22, Tryz.ntmps22
      go_wp2_with fail
      go_ret
      exact ⟨rfl, HK1⟩
    · have : ¬ x1 < 0 := by omega
      go_enter Tryz.func22, Tryz.ntmps22
      go_wp2_with fail
      go_ret
      exact ⟨rfl, HK1⟩
  · rw [if_neg hc]
    have i1 : ¬ x1 < 0 := by omega
    have i2 : ¬ 64 ≤ x1 := by omega
    clear hc
    cases hname : nameOk x3 with
    | false =>
      simp only [if_true]
      go_enter Tryz.func22, Tryz.ntmps22
      go_wp2_with (go_at_call 49; refine (isName_any x3 hn _).mono ?_; rintro e w2 ⟨rfl, rfl⟩; rw [hname])
      go_ret
      exact ⟨rfl, HK1⟩
    | true =>
      simp only [Bool.true_eq_false, if_false]
      by_cases h8 : 8 < q.args.length
      · rw [if_pos h8]
        have i3 : (8 : Int) < q.args.length := by omega
        clear h8
        go_enter Tryz.func22, Tryz.ntmps22
        go_wp2_with (go_at_call 49; refine (isName_any x3 hn _).mono ?_; rintro e w2 ⟨rfl, rfl⟩; rw [hname])
        go_ret
        exact ⟨rfl, HK1⟩
      · rw [if_neg h8]
        have i3 : ¬ (8 : Int) < q.args.length := by omega
        clear h8
        cases hg : q.args.all givenV with
        | false =>
          rw [hg] at hall
          simp only [if_true]
          clear hg
          generalize q.args.length = m at *
          go_enter Tryz.func22, Tryz.ntmps22
          go_wp2_with (first | (go_at_call 49; refine (isName_any x3 hn _).mono ?_; rintro e w2 ⟨rfl, rfl⟩; rw [hname]) | (go_at_call 50; refine hall.mono ?_; clear hall; rintro e w2 ⟨rfl, HK2⟩))
          go_ret
          exact ⟨rfl, HK2⟩
        | true =>
          rw [hg] at hall
          simp only [Bool.true_eq_false, if_false]
          clear hg
          generalize q.args.length = m at *
          go_enter Tryz.func22, Tryz.ntmps22
          go_wp2_with (first | (go_at_call 49; refine (isName_any x3 hn _).mono ?_; rintro e w2 ⟨rfl, rfl⟩; rw [hname]) | (go_at_call 50; refine hall.mono ?_; clear hall; rintro e w2 ⟨rfl, HK2⟩))
          go_ret
          exact ⟨rfl, HK2⟩
end Go.Proofs.YtcallmnhaikfpaaGreatDoor
namespace Go.Proofs.YtcallmnhaikfpaaGreatDoor
open Go Go.RowKit Go.Deep
theorem Tryz.infoValue : (Tryz.prog.info? 84).map (fun i => (i.zero, i.size, i.bytes)) = some (some (.agg #[.int .i64 0, .int .i64 0, .string ⟨#[]⟩]), 3, 32) := by kernel_rfl
theorem Tryz.infoString : (Tryz.prog.info? 9).map (fun i => (i.zero, i.size, i.bytes)) = some (some (.string ⟨#[]⟩), 1, 16) := by kernel_rfl
set_option maxHeartbeats 400000 in
theorem clone_values (w : World) (S : Nat → Prop) (v : Value) (l : List valueSh.T) (h : Rd (.slice valueSh) w S [v] l) (hl : l.length ≤ 1048576) :
    Calls Tryz.prog 23 #[v] w (Cloned valueSh 84 w l) := by
  obtain ⟨i0, hi, hz0, hz1, hz2⟩ := info_parts Tryz.infoValue
  obtain ⟨a, c, hv, hc, hn⟩ := Rd.sliceForm h
  obtain rfl : v = .slice a l.length c := by simpa using hv
  clear hv
  have hq := fun (a : Option Addr) (n c : Nat) (w : World) => Lib.run_eql_slice_nil (P := Tryz.prog) w 36 84 a n c 0 0 Tryz.underlying36
  cases a with
  | none =>
    obtain ⟨rfl, rfl⟩ := hn rfl
    go_enter Tryz.func23, Tryz.ntmps23
    go_wp2
    go_ret
    exact ⟨none, 0, rfl, Own.nil _ _ _ _, Keep.refl _ _⟩
  | some a =>
    obtain ⟨a', c', w', hrun, ho, hk⟩ := clone_app h rfl 36 84 36 i0 _ 32 Tryz.underlying36 hi hz0 hz1 hz2 rfl hl (by decide)
    clear h hn
    go_enter Tryz.func23, Tryz.ntmps23
    go_wp2_with (at_builtin; refine wpList_app rfl (.tmp 5) (.tmp 6) 36 36 rfl rfl rfl hrun ?_)
    go_ret
    exact ⟨_, _, rfl, ho, hk⟩
set_option maxHeartbeats 400000 in
theorem clone_strings (w : World) (S : Nat → Prop) (v : Value) (l : List ByteArray) (h : Rd (.slice .str) w S [v] l) (hl : l.length ≤ 1048576) :
    Calls Tryz.prog 59 #[v] w (Cloned .str 9 w l) := by
  obtain ⟨i0, hi, hz0, hz1, hz2⟩ := info_parts Tryz.infoString
  obtain ⟨a, c, hv, hc, hn⟩ := Rd.sliceForm h
  obtain rfl : v = .slice a l.length c := by simpa using hv
  clear hv
  have hq := fun (a : Option Addr) (n c : Nat) (w : World) => Lib.run_eql_slice_nil (P := Tryz.prog) w 39 9 a n c 0 0 Tryz.underlying39
  cases a with
  | none =>
    obtain ⟨rfl, rfl⟩ := hn rfl
    go_enter Tryz.func59, Tryz.ntmps59
    go_wp2
    go_ret
    exact ⟨none, 0, rfl, Own.nil _ _ _ _, Keep.refl _ _⟩
  | some a =>
    obtain ⟨a', c', w', hrun, ho, hk⟩ := clone_app h rfl 39 9 39 i0 _ 16 Tryz.underlying39 hi hz0 hz1 hz2 rfl hl (by decide)
    clear h hn
    go_enter Tryz.func59, Tryz.ntmps59
    go_wp2_with (at_builtin; refine wpList_app rfl (.tmp 5) (.tmp 6) 39 39 rfl rfl rfl hrun ?_)
    go_ret
    exact ⟨_, _, rfl, ho, hk⟩
def Copied (w : World) (p : Plan) (e : Ending) (w' : World) : Prop :=
  ∃ cs : Array Value, e = .returned (.agg cs) ∧ Rd planSh w' (Fr w.heap.size w'.heap.size) cs.toList p ∧ Keep No w w'
set_option maxHeartbeats 400000 in
theorem ownP_any (w : World) (S : Nat → Prop) (cs : List Value) (p : Plan) (h : Rd planSh w S cs p) (l1 : p.args.length ≤ 1048576) (l2 : p.reads.length ≤ 1048576) (l3 : p.writes.length ≤ 1048576) :
    Calls Tryz.prog 32 #[.agg cs.toArray] w (Copied w p) := by
  obtain ⟨a1, c1, a2, c2, a3, c3, rfl, h1, h2, h3, w1, w2, w3, w4⟩ := plan_cells h
  clear h
  go_enter Tryz.func32, Tryz.ntmps32
  go_wp2_with fail
  refine (clone_values _ S _ _ (Rd.agree _ h1 (by exact (((Keep.refl No w).alloc _).alloc _).agreeNo)) l1).mono ?_
  rintro e u1 ⟨x1, y1, rfl, o1, k1⟩
  have b0 := k1.blk (blk_alloc (blk_new w _)) (fun x => x)
  have b1 := k1.blk (blk_new _ _) (fun x => x)
  have kk := (((Keep.refl No w).alloc _).alloc _).thenNo k1
  have hk1 := k1.size
  simp only [World.size_alloc] at b1 o1 hk1
  clear k1
  have c0 := blk_cell b0
  have f0 := blk_fro b0
  go_wp2_with fail
  refine (clone_strings _ S _ _ (Rd.agree _ h2 (by exact (kk.setCell (by simp) _).agreeNo)) l2).mono ?_
  rintro e u2 ⟨x2, y2, rfl, o2, k2⟩
  replace o1 := (o1.agree (agree_set (Fr.not (by omega)) _ _)).agree k2.agreeNo
  replace b0 := k2.blk (blk_set b0 3 _) (fun x => x)
  replace b1 := k2.blk (blk_other b1 (by simp) _) (fun x => x)
  replace kk := (kk.setCell (by simp) _).thenNo k2
  have hk2 := k2.size
  simp only [World.size_setCell] at o2 hk2
  clear k2 c0 f0
  simp at b0
  have c0 := blk_cell b0
  have f0 := blk_fro b0
  go_wp2_with fail
  refine (clone_strings _ S _ _ (Rd.agree _ h3 (by exact (kk.setCell (by simp) _).agreeNo)) l3).mono ?_
  rintro e u3 ⟨x3, y3, rfl, o3, k3⟩
  replace o1 := (o1.agree (agree_set (Fr.not (by omega)) _ _)).agree k3.agreeNo
  replace o2 := (o2.agree (agree_set (Fr.not (by omega)) _ _)).agree k3.agreeNo
  replace b0 := k3.blk (blk_set b0 5 _) (fun x => x)
  replace b1 := k3.blk (blk_other b1 (by simp) _) (fun x => x)
  replace kk := (kk.setCell (by simp) _).thenNo k3
  have hk3 := k3.size
  simp only [World.size_setCell] at o3 hk3
  clear k3 c0 f0
  simp at b0
  have c0 := blk_cell b0
  have f0 := blk_fro b0
  have c1 := blk_cell b1
  have f1 := blk_fro b1
  go_wp2_with fail
  refine bodyPost_ret (v := .agg #[.int .i64 p.client, .int .u64 p.token, .string p.name, .slice x1 p.args.length y1, .int .i64 p.how, .slice x2 p.reads.length y2, .slice x3 p.writes.length y3]) (by simp [results, Tryz.results32, go_sem, c1]) rfl ⟨_, rfl, ?_, ?_⟩
  · have kf : ∀ W, Keep (fun k => k < w.heap.size + 2) u3 W → Rd planSh W (Fr w.heap.size W.heap.size) [.int .i64 p.client, .int .u64 p.token, .string p.name, .slice x1 p.args.length y1, .int .i64 p.how, .slice x2 p.reads.length y2, .slice x3 p.writes.length y3] p := by
      intro W kW
      have := kW.size
      refine plan_mk p (Own.rd (Own.mono (o1.agree (kW.agree fun k _ hk hm => ?_)) fun k hk => ?_)) (Own.rd (Own.mono (o2.agree (kW.agree fun k _ hk hm => ?_)) fun k hk => ?_)) (Own.rd (Own.mono (o3.agree (kW.agree fun k _ hk hm => ?_)) fun k hk => ?_)) w1 w2 w3 w4 <;> have h1 := hk.1 <;> have h2 := hk.2 <;> first | omega | exact ⟨by omega, by omega⟩
    refine kf _ ?_
    repeat (refine Keep.setCell ?_ (fun _ => by simp) _)
    exact Keep.refl _ _
  · repeat (refine Keep.setNew ?_ (by simp) _)
    exact kk
end Go.Proofs.YtcallmnhaikfpaaGreatDoor
