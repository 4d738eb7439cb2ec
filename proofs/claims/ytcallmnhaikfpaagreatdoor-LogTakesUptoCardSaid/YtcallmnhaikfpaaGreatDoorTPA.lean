/-
  Parts of what is proved for this claim; each declaration is one of the seat's texts.
-/
import Derived.Test.YtcallmnhaikfpaaGreatDoorTGA
import Derived.Test.YtcallmnhaikfpaaGreatDoorTGC
import Derived.Test.YtcallmnhaikfpaaGreatDoorTGD
import Derived.Test.YtcallmnhaikfpaaGreatDoorTGF
import Derived.Test.YtcallmnhaikfpaaGreatDoorTGK
import Derived.Test.YtcallmnhaikfpaaGreatDoorTGM
import Derived.Test.YtcallmnhaikfpaaGreatDoorTGU
import Derived.WalkKit
import Derived.WalkSpells
import Derived.WalkLawsBesides
import Derived.ProofKit
import Derived.Deep.Slices
import Derived.Deep.AppendSrc
import Derived.Lib.Hide
import Derived.Lib.ItoaNum
import Derived.Lib.Join
import Derived.Still
import Derived.StillTactics
import Derived.Recover
import Derived.Defers
import Derived.Deep.QuietTactic
import Derived.BigQuiet
import Derived.Handy
import Derived.Laws.Bits64b
import Derived.Lib.Zigzag
import Derived.OwnWalk
import Derived.Deep.DeepCutAuto
import Derived.Deep.LoopGhost
import Derived.Lib.Bytealg
import Derived.Laws.Externs
set_option linter.unusedVariables false
set_option linter.unusedSimpArgs false
namespace Go.Proofs.YtcallmnhaikfpaaGreatDoor
open Go Go.RowKit Go.Deep
@[reducible] def instrSh : Sh := .struct (.cons (.int .i64) (.cons (.int .i64) .nil))
@[reducible] def progSh : Sh := .struct (.cons (.int .i64) (.cons (.slice valueSh) (.cons (.slice instrSh) .nil)))
@[reducible] def procSh : Sh := .struct (.cons .str (.cons (.slice (.int .i64)) (.cons .bool (.cons (.slice .str) (.cons (.slice .str) (.cons progSh .nil))))))
@[reducible] def partSh : Sh := .struct (.cons .str (.cons (.int .i64) .nil))
abbrev Ins := instrSh.T
abbrev Pgm := progSh.T
abbrev Pgm.args (p : Pgm) : Int := p.1
abbrev Pgm.consts (p : Pgm) : List Val := p.2.1
abbrev Pgm.code (p : Pgm) : List Ins := p.2.2.1
def mkPgm (a : Int) (c : List Val) (l : List Ins) : Pgm := (a, c, l, ())
abbrev Prc := procSh.T
abbrev Prc.name (p : Prc) : ByteArray := p.1
abbrev Prc.kinds (p : Prc) : List Int := p.2.1
abbrev Prc.dep (p : Prc) : Bool := p.2.2.1
abbrev Prc.reads (p : Prc) : List ByteArray := p.2.2.2.1
abbrev Prc.writes (p : Prc) : List ByteArray := p.2.2.2.2.1
abbrev Prc.pgm (p : Prc) : Pgm := p.2.2.2.2.2.1
def mkPrc (n : ByteArray) (k : List Int) (d : Bool) (r w : List ByteArray) (g : Pgm) : Prc := (n, k, d, r, w, g, ())
def prc0 : Prc := mkPrc noText [] false [] [] (mkPgm 0 [] [])
abbrev Prt := partSh.T
abbrev Prt.text (p : Prt) : ByteArray := p.1
abbrev Prt.arg (p : Prt) : Int := p.2.1
def mkPrt (t : ByteArray) (n : Int) : Prt := (t, n, ())
def cutU : Bytes → Option (List Prt)
  | [] => some []
  | c :: r =>
    if c = 123 then
      match r with
      | d :: e :: t => if 48 ≤ d ∧ d ≤ 57 ∧ e = 125 then (cutU t).map (mkPrt noText (d - 48) :: ·) else none
      | _ => none
    else if keyC c then (cutU r).map (mkPrt ⟨#[c.toNat.toUInt8]⟩ (-1) :: ·) else none
def cutT (t : ByteArray) : Option (List Prt) := if t.size = 0 ∨ 64 < t.size then none else cutU (bytesOf t)
def below (n : Nat) (l : List Prt) : Bool := l.all fun p => decide (p.arg < n)
def tmplOk (t : ByteArray) (n : Nat) : Bool := match cutT t with | some l => below n l | none => false
def argText (v : Val) : List UInt8 := if v.kind = 1 then Lib.itoa v.num else v.text.data.toList
def keyLs (args : List Val) : List Prt → Option (List UInt8)
  | [] => some []
  | p :: l =>
    if p.arg < 0 then (keyLs args l).map (p.text.data.toList ++ ·)
    else if givenV (args.getD p.arg.toNat val0) = false then none
    else (keyLs args l).map (argText (args.getD p.arg.toNat val0) ++ ·)
def keyT (t : ByteArray) (args : List Val) : ByteArray × Int :=
  match cutT t with
  | none => (noText, 81)
  | some l =>
    if below args.length l = false then (noText, 81) else
    match keyLs args l with
    | none => (noText, 82)
    | some b => if keyOk ⟨b.toArray⟩ then (⟨b.toArray⟩, 0) else (noText, 30)
def kindOk (k : Int) : Bool := decide (1 ≤ k) && decide (k ≤ 3)
def Prc.check (p : Prc) (pg : Int) : Int :=
  if nameOk p.name = false ∨ 8 < p.kinds.length then 80
  else if p.kinds.all kindOk = false then 80
  else if p.dep = true ∧ 0 < p.reads.length + p.writes.length then 80
  else if 32 < p.reads.length ∨ 32 < p.writes.length then 6
  else if p.reads.all (tmplOk · p.kinds.length) = false ∨ p.writes.all (tmplOk · p.kinds.length) = false then 81
  else if pg ≠ 0 then pg
  else if p.pgm.args ≠ p.kinds.length then 80
  else 0
def suitB (k : Int) (v : Val) : Bool := givenV v && (decide (k = v.kind) || decide (k = 3))
def suitsB (ks : List Int) (args : List Val) : Bool := decide (args.length = ks.length) && (ks.zip args).all fun x => suitB x.1 x.2
def keysT (args : List Val) : List ByteArray → List ByteArray × Int
  | [] => ([], 0)
  | t :: l => if (keyT t args).2 ≠ 0 then ([], (keyT t args).2) else if (keysT args l).2 ≠ 0 then ([], (keysT args l).2) else ((keyT t args).1 :: (keysT args l).1, 0)
def Prc.foot (p : Prc) (args : List Val) : Fp × Int :=
  if p.dep then (mkFp [] [], 83)
  else if suitsB p.kinds args = false then (mkFp [] [], 82)
  else if (keysT args p.reads).2 ≠ 0 then (mkFp [] [], (keysT args p.reads).2)
  else if (keysT args p.writes).2 ≠ 0 then (mkFp [] [], (keysT args p.writes).2)
  else (mkFp (keysT args p.reads).1 (keysT args p.writes).1).norm
def findP (L : List Prc) (n : ByteArray) : Option Prc := L.find? fun p => decide (p.name = n)
def judgeL (L : List Prc) (q : Req) (most : Int) : Plan × Int :=
  if q.check ≠ 0 then (plan0, q.check) else
  match findP L q.name with
  | none => (plan0, 92)
  | some p =>
    if suitsB p.kinds q.args = false then (plan0, 82)
    else if p.dep then (mkPlan q 0 (mkFp [] []), 0)
    else if (p.foot q.args).2 ≠ 0 then (plan0, (p.foot q.args).2)
    else if most < (setT ((p.foot q.args).1.rs ++ (p.foot q.args).1.ws)).length then (plan0, 93)
    else (mkPlan q 1 (p.foot q.args).1, 0)
end Go.Proofs.YtcallmnhaikfpaaGreatDoor
namespace Go.Proofs.YtcallmnhaikfpaaGreatDoor
open Go Go.RowKit Go.Deep
theorem cutU_text (l : Bytes) (k : Nat) (hk : k < l.length) (h : l[k] ≠ 123) (hc : keyC l[k] = true) : cutU (l.drop k) = (cutU (l.drop (k + 1))).map (mkPrt ⟨#[l[k].toNat.toUInt8]⟩ (-1) :: ·) := by
  rw [List.drop_eq_getElem_cons hk]
  conv => lhs; unfold cutU
  rw [if_neg h, if_pos hc]
theorem cutU_bad (l : Bytes) (k : Nat) (hk : k < l.length) (h : l[k] ≠ 123) (hc : keyC l[k] = false) : cutU (l.drop k) = none := by
  rw [List.drop_eq_getElem_cons hk]
  conv => lhs; unfold cutU
  rw [if_neg h, if_neg (by rw [hc]; exact Bool.false_ne_true)]
theorem drop3 {α : Type} (l : List α) (k : Nat) (hk : k + 2 < l.length) : l.drop k = l[k] :: l[k + 1] :: l[k + 2] :: l.drop (k + 3) := by
  rw [List.drop_eq_getElem_cons (show k < l.length by omega), List.drop_eq_getElem_cons (show k + 1 < l.length by omega), List.drop_eq_getElem_cons hk]
theorem cutU_mark (l : Bytes) (k : Nat) (hk : k + 2 < l.length) (h : l[k] = 123) (hd : 48 ≤ l[k + 1] ∧ l[k + 1] ≤ 57 ∧ l[k + 2] = 125) : cutU (l.drop k) = (cutU (l.drop (k + 3))).map (mkPrt noText (l[k + 1] - 48) :: ·) := by
  rw [drop3 l k hk, h]
  conv => lhs; unfold cutU
  rw [if_pos rfl]
  simp only
  rw [if_pos hd]
theorem cutU_nomark (l : Bytes) (k : Nat) (hk : k + 2 < l.length) (h : l[k] = 123) (hd : ¬ (48 ≤ l[k + 1] ∧ l[k + 1] ≤ 57 ∧ l[k + 2] = 125)) : cutU (l.drop k) = none := by
  rw [drop3 l k hk, h]
  conv => lhs; unfold cutU
  rw [if_pos rfl]
  simp only
  rw [if_neg hd]
theorem cutU_short (l : Bytes) (k : Nat) (hk : k < l.length) (h : l[k] = 123) (hs : ¬ k + 2 < l.length) : cutU (l.drop k) = none := by
  rw [List.drop_eq_getElem_cons hk, h]
  conv => lhs; unfold cutU
  rw [if_pos rfl]
  have hl : (l.drop (k + 1)).length ≤ 1 := by simp; omega
  match l.drop (k + 1), hl with
  | [], _ => rfl
  | [_], _ => rfl
  | _ :: _ :: _, h => simp at h
def CutTo (l : Bytes) (k : Nat) (out : List Prt) : Prop := cutU l = (cutU (l.drop k)).map (out ++ ·) ∧ out.length ≤ k
theorem CutTo.start (l : Bytes) : CutTo l 0 [] := ⟨by simp, Nat.le_refl _⟩
theorem CutTo.text {l : Bytes} {k : Nat} {out : List Prt} (h : CutTo l k out) (hk : k < l.length) (hn : l[k] ≠ 123) (hc : keyC l[k] = true) : CutTo l (k + 1) (out ++ [mkPrt ⟨#[l[k].toNat.toUInt8]⟩ (-1)]) := by
  refine ⟨?_, by have := h.2; simp; omega⟩
  rw [h.1, cutU_text l k hk hn hc, Option.map_map]
  congr 1
  funext r
  simp
theorem CutTo.mark {l : Bytes} {k : Nat} {out : List Prt} (h : CutTo l k out) (hk : k + 2 < l.length) (hn : l[k] = 123) (hd : 48 ≤ l[k + 1] ∧ l[k + 1] ≤ 57 ∧ l[k + 2] = 125) : CutTo l (k + 3) (out ++ [mkPrt noText (l[k + 1] - 48)]) := by
  refine ⟨?_, by have := h.2; simp; omega⟩
  rw [h.1, cutU_mark l k hk hn hd, Option.map_map]
  congr 1
  funext r
  simp
theorem CutTo.none {l : Bytes} {k : Nat} {out : List Prt} (h : CutTo l k out) (hn : cutU (l.drop k) = .none) : cutU l = .none := by
  rw [h.1, hn]; rfl
theorem CutTo.done {l : Bytes} {out : List Prt} (h : CutTo l l.length out) : cutU l = some out := by
  rw [h.1, List.drop_length]
  simp [cutU]
theorem cutT_some {t : ByteArray} (h1 : 1 ≤ t.size) (h2 : t.size ≤ 64) : cutT t = cutU (bytesOf t) := by
  unfold cutT
  rw [if_neg (by omega)]
theorem cutT_none {t : ByteArray} (h : t.size = 0 ∨ 64 < t.size) : cutT t = none := by
  unfold cutT
  rw [if_pos h]
theorem cutU_arg : ∀ (n : Nat) (l : Bytes), l.length ≤ n → ∀ out, cutU l = some out → ∀ p ∈ out, -1 ≤ p.arg ∧ p.arg ≤ 9 ∧ p.text.size ≤ 1 := by
  intro n
  induction n with
  | zero =>
    intro l hl out h p hp
    have : l = [] := List.length_eq_zero_iff.1 (by omega)
    subst this
    simp [cutU] at h
    subst h
    cases hp
  | succ n ih =>
    intro l hl out h p hp
    match l, hl with
    | [], _ => simp [cutU] at h; subst h; cases hp
    | c :: r, hl =>
      conv at h => lhs; unfold cutU
      by_cases hc : c = 123
      · rw [if_pos hc] at h
        match r, hl with
        | [], _ => cases h
        | [_], _ => cases h
        | d :: e :: t, hl =>
          simp only at h
          by_cases hd : 48 ≤ d ∧ d ≤ 57 ∧ e = 125
          · rw [if_pos hd, Option.map_eq_some_iff] at h
            obtain ⟨o, ho, rfl⟩ := h
            rcases List.mem_cons.1 hp with rfl | hp
            · exact ⟨by show (-1 : Int) ≤ d - 48; omega, by show d - 48 ≤ 9; omega, Nat.zero_le _⟩
            · exact ih t (by simp at hl; omega) o ho p hp
          · rw [if_neg hd] at h; cases h
      · rw [if_neg hc] at h
        by_cases hk : keyC c = true
        · rw [if_pos hk, Option.map_eq_some_iff] at h
          obtain ⟨o, ho, rfl⟩ := h
          rcases List.mem_cons.1 hp with rfl | hp
          · exact ⟨by show (-1 : Int) ≤ -1; decide, by show (-1 : Int) ≤ 9; decide, Nat.le_refl _⟩
          · exact ih r (by simp at hl; omega) o ho p hp
        · rw [if_neg hk] at h; cases h
theorem cutU_len : ∀ (n : Nat) (l : Bytes), l.length ≤ n → ∀ out, cutU l = some out → out.length ≤ l.length := by
  intro n
  induction n with
  | zero =>
    intro l hl out h
    have : l = [] := List.length_eq_zero_iff.1 (by omega)
    subst this
    simp [cutU] at h
    subst h
    exact Nat.le_refl _
  | succ n ih =>
    intro l hl out h
    match l, hl with
    | [], _ => simp [cutU] at h; subst h; exact Nat.le_refl _
    | c :: r, hl =>
      conv at h => lhs; unfold cutU
      by_cases hc : c = 123
      · rw [if_pos hc] at h
        match r, hl with
        | [], _ => cases h
        | [_], _ => cases h
        | d :: e :: t, hl =>
          simp only at h
          by_cases hd : 48 ≤ d ∧ d ≤ 57 ∧ e = 125
          · rw [if_pos hd, Option.map_eq_some_iff] at h
            obtain ⟨o, ho, rfl⟩ := h
            have := ih t (by simp at hl; omega) o ho
            simp; omega
          · rw [if_neg hd] at h; cases h
      · rw [if_neg hc] at h
        by_cases hk : keyC c = true
        · rw [if_pos hk, Option.map_eq_some_iff] at h
          obtain ⟨o, ho, rfl⟩ := h
          have := ih r (by simp at hl; omega) o ho
          simp; omega
        · rw [if_neg hk] at h; cases h
theorem cutT_arg {t : ByteArray} {out : List Prt} (h : cutT t = some out) : (∀ p ∈ out, -1 ≤ p.arg ∧ p.arg ≤ 9 ∧ p.text.size ≤ 1) ∧ out.length ≤ 64 := by
  unfold cutT at h
  split at h
  · cases h
  · rename_i hn
    refine ⟨cutU_arg _ _ (Nat.le_refl _) out h, ?_⟩
    have := cutU_len _ _ (Nat.le_refl _) out h
    rw [bytesOf_length] at this
    omega
end Go.Proofs.YtcallmnhaikfpaaGreatDoor
namespace Go.Proofs.YtcallmnhaikfpaaGreatDoor
open Go Go.RowKit Go.Deep
set_option maxRecDepth 10000 in
set_option maxHeartbeats 4000000 in
theorem libName_any (s : ByteArray) (hs : s.size ≤ 9223372036854775806) (w : World) : Calls Tryz.prog 78 #[.string s] w fun e w' => e = .returned (.bool (nameOk s)) ∧ w' = w := by
  have hbl := bytesOf_length s
  go_enter Tryz.func78, Tryz.ntmps78
  go_wp2_with fail
  go_loopg [7] s.size (fun g i wr => ∃ k : Nat, k ≤ s.size ∧ g = s.size - k ∧ i = .int .i64 k ∧ wr = w ∧ RowKit.Hid (nameTo s k))
  case atStart => exact ⟨0, by omega, by omega, rfl, rfl, fun _ _ h => absurd h (Nat.not_lt_zero _)⟩
  case round =>
    obtain ⟨k, hk, rfl, rfl, rfl, HN⟩ := hrel
    by_cases hlt : k < s.size
    · have j1 : (k : Int) < s.size := by omega
      have j0 : (0 : Int) ≤ k := by omega
      have j3 : (k : Int) ≤ 9223372036854775805 := by omega
      have hl : k < (bytesOf s).length := by omega
      have hg := bytesOf_get s k hl hlt
      have hr := bytesOf_allB s _ (List.getElem_mem hl)
      have hyes := fun h => nameTo_succ HN.out hl h
      have hno := fun h => nameOk_bad s k hl h
      rw [hg] at hr hyes hno
      generalize hc : (s[k].toNat : Int) = c at hr hyes hno
      have HS := Lib.hid (And.intro hk (And.intro hlt (And.intro hyes hno)))
      have HC := Lib.hid hc
      clear hg hl hs hyes hno hbl hk
      obtain ⟨bad, hbad⟩ : ∃ bad : Bool, bad = nameBad k c := ⟨_, rfl⟩
      have HBD := Lib.hid hbad
      clear hbad
      go_upto_region 5 with fail
      go_cut [35] (fun c wx => c = .bool bad ∧ wx = wr)
      case first =>
        by_cases hz : k = 0
        · subst hz
          have e0 : ((0 : Nat) : Int) = 0 := rfl
          rw [e0]
          go_wp2_with fail
          all_goals
            go_meet
            case rel => exact ⟨by rw [HBD.out]; congr 1; rw [Bool.eq_iff_iff]; simp [nameBad] <;> omega, rfl⟩
        · have hz' : (0 : Int) < k := by omega
          have HZ := Lib.hid hz
          clear hz
          by_cases h95 : c = 95
          · subst h95
            go_wp2_with fail
            all_goals
              go_meet
              case rel => exact ⟨by rw [HBD.out]; have := HZ.out; congr 1; rw [Bool.eq_iff_iff]; simp [nameBad] <;> omega, rfl⟩
          · have h95' : (c == 95) = false := by simpa using h95
            have H95 := Lib.hid h95
            clear h95
            go_wp2_with fail
            all_goals
              go_meet
              case rel => exact ⟨by rw [HBD.out]; have := HZ.out; have := H95.out; congr 1; rw [Bool.eq_iff_iff]; simp [nameBad] <;> omega, rfl⟩
      case rest =>
        obtain ⟨rfl, rfl⟩ := hcut
        cases bad with
        | true =>
          go_wp2_with fail
          go_ret
          have := HS.out.2.2.2 HBD.out.symm
          rw [this]
          exact ⟨rfl, by first | rfl | trivial⟩
        | false =>
          go_wp2_with fail
          go_roundg (s.size - (k + 1))
          case measure => have := HS.out.2.1; omega
          case rel => exact ⟨k + 1, by have := HS.out.2.1; omega, rfl, by simp, by first | rfl | trivial, HS.out.2.2.1 HBD.out.symm⟩
    · have hke : k = s.size := by omega
      have j1 : ¬ (k : Int) < s.size := by omega
      have hres := nameOk_good s (by rw [hbl, ← hke]; exact HN.out)
      by_cases h1 : 1 ≤ s.size
      · by_cases h16 : s.size ≤ 16
        · have e : nameOk s = true := by rw [hres, decide_eq_true h1, decide_eq_true h16]; rfl
          have HE := Lib.hid e
          have i1 : (1 : Int) ≤ s.size := by omega
          have i2 : (s.size : Int) ≤ 16 := by omega
          clear e hres hbl hlt hk hke h1 h16
          go_wp2_with fail
          go_ret
          rw [HE.out]
          exact ⟨rfl, by first | rfl | trivial⟩
        · have e : nameOk s = false := by rw [hres, decide_eq_false h16, Bool.and_false]
          have HE := Lib.hid e
          have i1 : (1 : Int) ≤ s.size := by omega
          have i2 : ¬ (s.size : Int) ≤ 16 := by omega
          clear e hres hbl hlt hk hke h1 h16
          go_wp2_with fail
          go_ret
          rw [HE.out]
          exact ⟨rfl, by first | rfl | trivial⟩
      · have e : nameOk s = false := by rw [hres, decide_eq_false h1, Bool.false_and]
        have HE := Lib.hid e
        have i1 : ¬ (1 : Int) ≤ s.size := by omega
        clear e hres hbl hlt hk hke h1
        go_wp2_with fail
        go_ret
        rw [HE.out]
        exact ⟨rfl, by first | rfl | trivial⟩
end Go.Proofs.YtcallmnhaikfpaaGreatDoor
namespace Go.Proofs.YtcallmnhaikfpaaGreatDoor
open Go Go.RowKit Go.Deep
theorem wf_i64q {n : Int} (h0 : -9223372036854775808 ≤ n) (h1 : n ≤ 9223372036854775807) : (Lit.int .i64 n).wf = true := by
  simp [Lit.wf, IntKind.min, IntKind.max, IntKind.signed, IntKind.bits]; omega
theorem Tryz.infoPart : (Tryz.prog.info? 167).map (fun i => (i.zero, i.size, i.bytes)) = some (some (.agg #[.string ⟨#[]⟩, .int .i64 0]), 2, 24) := by kernel_rfl
def OwnP (lo : Nat) (w : World) (v : Value) (l : List Prt) : Prop := Own partSh 167 w (Fr lo w.heap.size) v l
theorem part_row {w : World} {S : Nat → Prop} (t : ByteArray) (n : Int) (ht : t.size ≤ 9223372036854775807) (h0 : -1 ≤ n) (h1 : n ≤ 255) : Rd partSh w S [.string t, .int .i64 n] (mkPrt t n) :=
  ⟨[.string t], _, rfl, ⟨rfl, by rw [maxLen_is]; exact ht⟩, [.int .i64 n], _, rfl, ⟨rfl, show (Lit.int .i64 n).wf = true from wf_i64q (by omega) (by omega)⟩, rfl⟩
theorem OwnP.app {lo : Nat} {w : World} {v : Value} {l : List Prt} (h : OwnP lo w v l) (hlo : lo ≤ w.heap.size) (t : ByteArray) (n : Int) (ht : t.size ≤ 9223372036854775807) (h0 : -1 ≤ n) (h1 : n ≤ 255) (hl : l.length + 1 ≤ 1048576) :
    ∃ a c w', (Builtin.append_ #[160, 160] 160 #[v, .slice (some ⟨w.heap.size, 0, none⟩) 1 1]).run Tryz.prog (w.alloc (.cells #[.string t, .int .i64 n] 167)) = .ok (.slice a (l.length + 1) c) w' ∧ OwnP lo w' (.slice a (l.length + 1) c) (l ++ [mkPrt t n]) ∧ Keep (Fr lo w.heap.size) w w' := by
  obtain ⟨i0, hi0, hz0, hz1, hz2⟩ := info_parts Tryz.infoPart
  have h1' : Own partSh 167 (w.alloc (.cells #[.string t, .int .i64 n] 167)) (Fr lo w.heap.size) v l := Own.agree h ((Keep.refl No w).alloc _).agreeNo
  obtain ⟨a, c, w', hr, ho, hk, hs⟩ := Own.append (P := Tryz.prog) (T := No) h1' 160 160 i0 _ 24 Tryz.underlying160 hi0 hz0 hz1 hz2 rfl (blk_new w _) (x := mkPrt t n) (part_row t n ht h0 h1) (fun k _ x => x) (by omega) (by omega) 1
  have hsz := hk.size
  simp only [World.size_alloc] at hsz
  refine ⟨a, c, w', hr, Own.mono ho.live fun k hk' => ?_, ((Keep.refl _ w).alloc _).then hk fun i _ hi => hi⟩
  obtain ⟨h1 | h1 | h1, h2⟩ := hk'
  · exact ⟨h1.1, h2⟩
  · exact h1.elim
  · simp only [World.size_alloc] at h1; exact ⟨by omega, h2⟩
def GivesP (w : World) (l : List Prt) (e : Ending) (w' : World) : Prop := ∃ a c, e = .returned (.tuple #[.slice a l.length c, .bool true]) ∧ OwnP w.heap.size w' (.slice a l.length c) l ∧ Keep No w w'
theorem Keep.thenOwn {lo : Nat} {a b c : World} (h : Keep No a b) (k : Keep (Fr a.heap.size lo) b c) : Keep No a c := h.then k fun i hi hf => by have := hf.1; omega
theorem keyOk_one {s : ByteArray} {k : Nat} {hk : k < s.size} {hl : k < (bytesOf s).length} (h : keyC (bytesOf s)[k] = true) (hg : (bytesOf s)[k] = s[k].toNat) : keyOk ⟨#[s[k]]⟩ = true := by
  have : bytesOf ⟨#[s[k]]⟩ = [(s[k].toNat : Int)] := rfl
  unfold keyOk
  rw [this, ← hg, List.all_cons, h]
  rfl
theorem sub_one (s : ByteArray) (k : Nat) (hk : k < s.size) : s.extract k (k + 1) = ⟨#[s[k]]⟩ := by
  apply ByteArray.ext
  apply Array.ext
  · simp [ByteArray.size_data]; omega
  · intro i h1 h2
    have : i = 0 := by simp at h2; omega
    subst this
    simp [ByteArray.getElem_eq_getElem_data]
set_option maxRecDepth 10000 in
set_option maxHeartbeats 4000000 in
theorem cut_ok (t : ByteArray) (l : List Prt) (hl : cutT t = some l) (w : World) : Calls Tryz.prog 87 #[.string t] w (GivesP w l) := by
  have hbl := bytesOf_length t
  have h0 : ¬ (t.size = 0 ∨ 64 < t.size) := fun hh => by rw [cutT_none hh] at hl; cases hl
  rw [cutT_some (by omega) (by omega)] at hl
  have e0 : ¬ t.toList = [] := fun e => by
    simp only [ByteArray.toList_eq] at e
    have hz : t.size = 0 := by
      have : t.data.toList.length = 0 := by rw [e]; rfl
      simpa using this
    exact h0 (.inl hz)
  have e1 : t.toList.isEmpty = false := by simpa using e0
  have i64 : ¬ (64 : Int) < t.size := by omega
  have HC := Lib.hid (And.intro hbl (And.intro h0 hl))
  clear hl hbl h0
  go_enter Tryz.func87, Tryz.ntmps87
  go_wp2_with fail
  go_loopg [4, 5] t.size (fun g s i wr => ∃ (k : Nat) (v : Value) (out : List Prt), k ≤ t.size ∧ g = t.size - k ∧ s = v ∧ i = .int .i64 k ∧ RowKit.Hid (CutTo (bytesOf t) k out ∧ OwnP w.heap.size wr v out ∧ Keep No w wr))
  case atStart => exact ⟨0, _, [], by omega, by omega, rfl, rfl, CutTo.start _, Own.nil _ _ _ _, Keep.refl No w⟩
  case round =>
    obtain ⟨k, v, out, hk, rfl, rfl, rfl, HR⟩ := hrel
    by_cases hlt : k < t.size
    · have j1 : (k : Int) < t.size := by omega
      have j0 : (0 : Int) ≤ k := by omega
      have j3 : (k : Int) ≤ 64 := by omega
      have hl : k < (bytesOf t).length := by rw [HC.out.1]; exact hlt
      have hg := bytesOf_get t k hl hlt
      by_cases hm : (bytesOf t)[k] = 123
      · have hk2 : k + 2 < (bytesOf t).length := Classical.byContradiction fun hh => by
          have := HR.out.1.none (cutU_short _ k hl hm hh); rw [HC.out.2.2] at this; cases this
        have hd : 48 ≤ (bytesOf t)[k + 1] ∧ (bytesOf t)[k + 1] ≤ 57 ∧ (bytesOf t)[k + 2] = 125 := Classical.byContradiction fun hh => by
          have := HR.out.1.none (cutU_nomark _ k hk2 hm hh); rw [HC.out.2.2] at this; cases this
        have hnext := HR.out.1.mark hk2 hm hd
        have ht2 : k + 2 < t.size := by rw [← HC.out.1]; exact hk2
        have ht1 : k + 1 < t.size := Nat.lt_of_succ_lt ht2
        have g1 := bytesOf_get t (k + 1) (Nat.lt_of_succ_lt hk2) ht1
        have g2 := bytesOf_get t (k + 2) hk2 ht2
        rw [hg] at hm
        rw [g1, g2] at hd
        rw [g1] at hnext
        have j4 : (k : Int) + 2 < t.size := by omega
        have j5 : (k : Int) + 1 < t.size := by omega
        have HN := Lib.hid hnext
        obtain ⟨c1, hc1⟩ : ∃ c1 : Int, (t[k + 1].toNat : Int) = c1 := ⟨_, rfl⟩
        rw [hc1] at hd hnext
        obtain ⟨d0, d1, d2⟩ := hd
        have HT := Lib.hid (And.intro hnext (And.intro d0 (And.intro d1 ht2)))
        have n1 : ¬ c1 < 48 := by omega
        have n2 : ¬ 57 < c1 := by omega
        clear hnext hg hl hk hk2 g1 g2 HN
        obtain ⟨av, cv, hv, -⟩ := Own.form HR.out.2.1
        subst hv
        obtain ⟨a3, c3, w2, hrun, ho2, hk2⟩ := HR.out.2.1.app HR.out.2.2.size ⟨#[]⟩ (c1 - 48) (by decide) (by omega) (by omega) (by have := HR.out.1.2; have := HT.out.2.2.2; omega)
        have HO := Lib.hid (And.intro ho2 (HR.out.2.2.thenOwn hk2))
        clear ho2 hk2
        generalize out.length = m at *
        go_wp2_with (at_builtin; refine wpList_app rfl (.tmp 47) (.tmp 55) 160 160 rfl rfl rfl hrun ?_)
        go_roundg (t.size - (k + 3))
        case measure => have := HT.out.2.2.2; omega
        case rel => exact ⟨k + 3, _, _, by have := HT.out.2.2.2; omega, rfl, rfl, by simp, HT.out.1, HO.out.1, HO.out.2⟩
      · have hkc : keyC (bytesOf t)[k] = true := by
          cases hh : keyC (bytesOf t)[k] with
          | true => rfl
          | false => have := HR.out.1.none (cutU_bad _ k hl hm hh); rw [HC.out.2.2] at this; cases this
        have hnext := HR.out.1.text hl hm hkc
        have hsub := sub_one t k hlt
        have hko : keyOk ⟨#[t[k]]⟩ = true := keyOk_one hkc hg
        rw [hg] at hm hnext hkc
        have hbk : (t[k].toNat : Int).toNat.toUInt8 = t[k] := by simp
        rw [hbk] at hnext
        have hm' : ((t[k].toNat : Int) == 123) = false := by simpa using hm
        have HN := Lib.hid (And.intro hnext hlt)
        clear hnext hm hkc hg hl hk
        obtain ⟨av, cv, hv, -⟩ := Own.form HR.out.2.1
        subst hv
        obtain ⟨a3, c3, w2, hrun, ho2, hk2⟩ := HR.out.2.1.app HR.out.2.2.size ⟨#[t[k]]⟩ (-1) (by show (1 : Nat) ≤ 9223372036854775807; decide) (by omega) (by omega) (by have := HR.out.1.2; have := HN.out.2; omega)
        have HO := Lib.hid (And.intro ho2 (HR.out.2.2.thenOwn hk2))
        have hval := keyOk_any ⟨#[t[k]]⟩ (by show (1 : Nat) ≤ 9223372036854775807; decide) wr
        rw [hko] at hval
        clear ho2 hk2
        generalize out.length = m at *
        go_wp2_with (first | (go_at_call 90; refine hval.mono ?_; clear hval; rintro e w3 ⟨rfl, rfl⟩) | (at_builtin; refine wpList_app rfl (.tmp 66) (.tmp 73) 160 160 rfl rfl rfl hrun ?_))
        go_roundg (t.size - (k + 1))
        case measure => have := HN.out.2; omega
        case rel => exact ⟨k + 1, _, _, by have := HN.out.2; omega, rfl, rfl, by simp, HN.out.1, HO.out.1, HO.out.2⟩
    · obtain rfl : k = t.size := by omega
      have hd : cutU (bytesOf t) = some out := by
        have := HR.out.1
        rw [← HC.out.1] at this
        exact this.done
      rw [HC.out.2.2] at hd
      obtain rfl := Option.some.inj hd
      obtain ⟨av, cv, hv, -⟩ := Own.form HR.out.2.1
      subst hv
      clear hd hlt hk
      go_wp2_with fail
      go_ret2
      exact ⟨_, _, rfl, HR.out.2.1, HR.out.2.2⟩
end Go.Proofs.YtcallmnhaikfpaaGreatDoor
namespace Go.Proofs.YtcallmnhaikfpaaGreatDoor
open Go Go.RowKit Go.Deep
def IdxB (w : World) (b : Bool) (e : Ending) (w' : World) : Prop := ∃ r : Int, e = .returned (.int .i64 r) ∧ decide (0 ≤ r) = b ∧ Keep No w w'
theorem any_take {α : Type} (l : List α) (q : α → Bool) (k : Nat) (hk : k < l.length) (h : (l.take k).any q = false) : (l.take (k + 1)).any q = q l[k] := by
  rw [List.take_succ_eq_append_getElem hk, List.any_append, h]; simp
theorem any_true {α : Type} (l : List α) (q : α → Bool) (k : Nat) (hk : k < l.length) (h : q l[k] = true) : l.any q = true := by
  rw [List.any_eq_true]; exact ⟨l[k], List.getElem_mem hk, h⟩
theorem slice_len {s : Sh} {w : World} {S : Nat → Prop} {a : Option Addr} {n c : Nat} {l : List s.T} (h : Rd (.slice s) w S [.slice a n c] l) : l.length ≤ 9223372036854775807 := by
  obtain ⟨a', c', e, h1, h2, -⟩ := h
  simp only [List.cons.injEq, Value.slice.injEq, and_true] at e
  rw [maxLen_is] at h2
  omega
theorem parts_get {w : World} {S : Nat → Prop} {a : Option Addr} {n c : Nat} {l : List Prt} (h : Rd (.slice partSh) w S [.slice a n c] l) (i : Nat) (hi : i < l.length) :
    ∃ b off, a = some ⟨b, off, none⟩ ∧ b < w.heap.size ∧ S b ∧ w.cell? ⟨b, off + i * 2, none⟩ = some (.string l[i].text) ∧ w.cell? ⟨b, off + i * 2 + 1, none⟩ = some (.int .i64 l[i].arg) ∧ l[i].text.size ≤ 9223372036854775807 := by
  obtain ⟨b, off, row, ha, -, hb, hS, -, hrow, hx⟩ := h.elem' i hi
  obtain ⟨_, _, rfl, ⟨rfl, w1⟩, _, _, rfl, ⟨rfl, w2⟩, rfl⟩ := hx
  rw [maxLen_is] at w1
  have p0 := (hrow 0 (by simp)).1
  have p1 := (hrow 1 (by simp)).1
  simp [Sh.size] at p0 p1
  exact ⟨b, off, ha, hb, hS, p0, p1, w1⟩
theorem partArg_fn (args : Array Value) (w : World) : (callFunc 106 args).run Tryz.prog w = .ok (.enter 106 args) w := by kernel_rfl
set_option maxRecDepth 10000 in
set_option maxHeartbeats 2000000 in
theorem partArg_idx (w : World) (S : Nat → Prop) (a : Option Addr) (c : Nat) (l : List Prt) (h : Rd (.slice partSh) w S [.slice a l.length c] l) (p : Nat) (q : Prt → Bool) (hcl : ∀ W, Keep No w W → ∀ i (hi : i < l.length), Calls Tryz.prog 106 #[.agg #[.string l[i].text, .int .i64 l[i].arg], .pointer (some ⟨p, 0, none⟩)] W (Says W (q l[i]))) :
    Calls Tryz.prog 119 #[.slice a l.length c, .func (.func 106) #[] #[.pointer (some ⟨p, 0, none⟩)]] w (IdxB w (l.any q)) := by
  have h63 : l.length ≤ 9223372036854775807 := slice_len h
  have hfn := partArg_fn
  have HH := Lib.hid (And.intro h hcl)
  clear h hcl
  go_enter Tryz.func119, Tryz.ntmps119
  go_wp2_with fail
  go_loopw [8] (fun i wr => ∃ k : Nat, k ≤ l.length ∧ i = .int .i64 k ∧ RowKit.Hid (Keep No w wr ∧ (l.take k).any q = false)) (fun i _ => l.length - (intOf i).toNat)
  case atStart => exact ⟨0, by omega, rfl, Keep.refl No w, by simp⟩
  case round =>
    obtain ⟨k, hk, rfl, HR⟩ := hrel
    by_cases hlt : k < l.length
    · have j1 : (k : Int) < l.length := by omega
      have j0 : (0 : Int) ≤ k := by omega
      have j3 : (k : Int) ≤ 9223372036854775806 := by omega
      obtain ⟨b, off, rfl, hb, -, c0, c1, hs⟩ := parts_get (HH.out.1.agree _ HR.out.1.agreeNo) k hlt
      have hcall := (HH.out.2 wr HR.out.1 k hlt).mono (R' := fun e w2 => e = .returned (.bool (q l[k])) ∧ RowKit.Hid (Keep No w w2)) (by
        rintro e w2 ⟨rfl, hk2⟩
        exact ⟨rfl, HR.out.1.trans hk2⟩)
      have hsucc := any_take l q k hlt HR.out.2
      have hbad := any_true l q k hlt
      cases hg : q l[k] with
      | false =>
        rw [hg] at hcall hsucc
        have HA := Lib.hid (And.intro hsucc hlt)
        clear hsucc hbad hg
        generalize l[k].text = x1 at *
        generalize l[k].arg = x2 at *
        clear hlt hk HR
        go_wp2_with (go_at_call 106; refine hcall.mono ?_; clear hcall; rintro e w2 ⟨rfl, HK⟩)
        go_roundw
        case rel => exact ⟨k + 1, by have := HA.out.2; omega, by simp, HK.out, HA.out.1⟩
        case measure => simp [intOf]; have := HA.out.2; omega
      | true =>
        rw [hg] at hcall
        have HA := Lib.hid (hbad hg)
        clear hsucc hbad hg
        generalize l[k].text = x1 at *
        generalize l[k].arg = x2 at *
        clear hlt hk HR
        go_wp2_with (go_at_call 106; refine hcall.mono ?_; clear hcall; rintro e w2 ⟨rfl, HK⟩)
        go_ret
        exact ⟨_, rfl, by rw [HA.out]; simp, HK.out⟩
    · have j1 : ¬ (k : Int) < l.length := by omega
      have ha := HR.out.2
      rw [List.take_of_length_le (by omega)] at ha
      have HA := Lib.hid (And.intro ha HR.out.1)
      clear ha hlt hk HR
      go_wp2_with fail
      go_ret
      exact ⟨_, rfl, by rw [HA.out.1]; decide, HA.out.2⟩
set_option maxRecDepth 10000 in
set_option maxHeartbeats 2000000 in
theorem partArg_any (w : World) (S : Nat → Prop) (a : Option Addr) (c : Nat) (l : List Prt) (h : Rd (.slice partSh) w S [.slice a l.length c] l) (p : Nat) (q : Prt → Bool) (hcl : ∀ W, Keep No w W → ∀ i (hi : i < l.length), Calls Tryz.prog 106 #[.agg #[.string l[i].text, .int .i64 l[i].arg], .pointer (some ⟨p, 0, none⟩)] W (Says W (q l[i]))) :
    Calls Tryz.prog 105 #[.slice a l.length c, .func (.func 106) #[] #[.pointer (some ⟨p, 0, none⟩)]] w (Says w (l.any q)) := by
  have hc := partArg_idx w S a c l h p q hcl
  clear h hcl
  go_enter Tryz.func105, Tryz.ntmps105
  go_wp2_with fail
  refine hc.mono ?_
  clear hc
  rintro e w2 ⟨r, rfl, hr, hk⟩
  have HK := Lib.hid (And.intro hr hk)
  clear hr hk
  go_wp2_with fail
  go_ret
  refine ⟨?_, HK.out.2⟩
  rw [← HK.out.1]
  rfl
set_option maxRecDepth 10000 in
set_option maxHeartbeats 2000000 in
theorem tooFar_any (t : ByteArray) (m n : Int) (w : World) (p : Nat) (hp : w.cell? ⟨p, 0, none⟩ = some (.int .i64 n)) :
    Calls Tryz.prog 106 #[.agg #[.string t, .int .i64 m], .pointer (some ⟨p, 0, none⟩)] w (Says w (decide (n ≤ m))) := by
  have K1 : Keep No w (w.alloc (.cells #[.string t, .int .i64 m] 167)) := (Keep.refl No w).alloc _
  have hpl : p < w.heap.size := World.block_lt_of_cell? _ _ hp
  have q1 := (K1.cell hpl (o := 0) (fun x => x)).trans hp
  have HK := Lib.hid K1
  clear K1
  go_enter Tryz.func106, Tryz.ntmps106
  go_wp2_with fail
  go_ret
  exact ⟨rfl, HK.out⟩
theorem below_any (n : Nat) (l : List Prt) : below n l = !(l.any fun x => decide ((n : Int) ≤ x.arg)) := by
  have h : ∀ x : Prt, (decide (x.arg < (n : Int))) = !decide ((n : Int) ≤ x.arg) := fun x => by
    by_cases h : x.arg < (n : Int)
    · rw [decide_eq_true h, decide_eq_false (by omega)]; rfl
    · rw [decide_eq_false h, decide_eq_true (by omega)]; rfl
  unfold below
  rw [List.not_any_eq_all_not]
  simp only [h]
set_option maxRecDepth 10000 in
set_option maxHeartbeats 2000000 in
theorem template_ok (t : ByteArray) (n : Nat) (ht : tmplOk t n = true) (w : World) :
    Calls Tryz.prog 82 #[.string t, .int .i64 n] w (Says w true) := by
  have K1 : Keep No w (w.alloc (.cells #[.int .i64 n] 3)) := (Keep.refl No w).alloc _
  have x1 := blk_new w (.cells #[.int .i64 n] 3)
  unfold tmplOk at ht
  cases hr : cutT t with
  | none => rw [hr] at ht; cases ht
  | some l =>
    rw [hr] at ht
    simp only at ht
    rw [below_any] at ht
    have hcut := cut_ok t l hr (w.alloc (.cells #[.int .i64 n] 3))
    have hcut' := hcut.mono (R' := fun e w2 => ∃ a c, e = .returned (.tuple #[.slice a l.length c, .bool true]) ∧ RowKit.Hid (Calls Tryz.prog 105 #[.slice a l.length c, .func (.func 106) #[] #[.pointer (some ⟨w.heap.size, 0, none⟩)]] w2 fun e w3 => e = .returned (.bool false) ∧ RowKit.Hid (Keep No w w3))) (by
      rintro e w2 ⟨a, c, rfl, ho, hk⟩
      refine ⟨a, c, rfl, ?_⟩
      have hcell := (hk.cell (blk_lt x1) (o := 0) (fun x => x)).trans (blk_cell x1 0)
      refine (partArg_any w2 _ a c l ho.rd w.heap.size (fun x => decide ((n : Int) ≤ x.arg)) fun W hW i hi => ?_).mono ?_
      · exact tooFar_any _ _ _ W _ ((hW.cell (World.block_lt_of_cell? _ _ hcell) (o := 0) (fun x => x)).trans hcell)
      · rintro e w3 ⟨rfl, hk3⟩
        exact ⟨by simpa using ht, (K1.trans hk).trans hk3⟩)
    clear hcut K1 x1 hr ht
    generalize l.length = m at *
    go_enter Tryz.func82, Tryz.ntmps82
    go_wp2_with (first | (go_at_call 87; refine hcut'.mono ?_; clear hcut'; rintro e w2 ⟨a, c, rfl, HC⟩) | (go_at_call 105; refine HC.out.mono ?_; clear HC; rintro e w3 ⟨rfl, HK⟩))
    go_ret
    exact ⟨rfl, HK.out⟩
end Go.Proofs.YtcallmnhaikfpaaGreatDoor
