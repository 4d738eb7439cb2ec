/-
  Package codec's reader in memory; a byte, a number, a number that is at most so much.
  Plain laws on a template's parts.
  Package codec: a number; a number that is at most so much.
  Package codec: a number that is at most so much; a text.
  Package codec: one thing is read: the deferred closure, and 'read' itself (at numbers).
  Package codec: 'read' at bytes, texts, ints and counts (printed by wip/tools/genread.py out of the text at uint64).
  Package codec: what its reader's methods do: nothing is read behind an error; a byte, a number, an int, a count, a text.
  Package codec: the reader's other methods.
  Package codec: the reader's error, its end, its rest; a new reader.
  Numbers, ints and texts laid behind bytes.
  The document's way to lay numbers and texts behind bytes; ints.
  The document's reader: a number.
  The document's reader: its methods.
  The document's reader: a text, an int; its error, its end, its rest; a new one.
  Package value: what may stand in a text; a number, a text as a value; what is a value.
  Names: plain.
  Package library: is a text a name?
-/
import Derived.Test.YtfgdnakfikpmpaaGreatDoorGA
import Derived.Test.YtfgdnakfikpmpaaGreatDoorGC
import Derived.Test.YtfgdnakfikpmpaaGreatDoorGD
import Derived.Still
import Derived.StillTactics
import Derived.WalkKit
import Derived.WalkSpells
import Derived.WalkLawsBesides
import Derived.ProofKit
import Derived.Deep.Slices
import Derived.Deep.AppendSrc
import Derived.Lib.Hide
import Derived.Recover
import Derived.Defers
import Derived.Deep.QuietTactic
import Derived.BigQuiet
import Derived.Handy
import Derived.Lib.ItoaNum
import Derived.Lib.Join
import Derived.Laws.Bits64b
import Derived.Lib.Zigzag
import Derived.OwnWalk
import Derived.Deep.DeepCutAuto
import Derived.Deep.LoopGhost
namespace Go.Proofs.YtfgdnakfikpmpaaGreatDoor
set_option linter.unusedVariables false
set_option linter.unusedSimpArgs false
open Go Go.RowKit Go.Deep

theorem bytes_at {w : World} {S : Nat → Prop} {v : Value} {l : Bytes} (h : Rd bytesSh w S [v] l) :
    ∃ a c, v = .slice a l.length c ∧ l.length ≤ c ∧ c ≤ maxLen ∧ (a = none → l = [] ∧ c = 0) ∧ ∀ i (hi : i < l.length), ∃ b off, a = some ⟨b, off, none⟩ ∧ S b ∧ b < w.heap.size ∧ w.cell? ⟨b, off + i, none⟩ = some (.int .u8 l[i]) ∧ w.frozen? ⟨b, off + i, none⟩ = false ∧ 0 ≤ l[i] ∧ l[i] < 256 := by
  obtain ⟨a, c, e, h1, h2, h3, h4⟩ := h
  simp only [List.cons.injEq, and_true] at e
  refine ⟨a, c, e, h1, h2, h3, fun i hi => ?_⟩
  obtain ⟨b, off, row, ha, hb, hS, hl, hr, hx, hw⟩ := h4 i hi
  subst hx
  have := hr 0 (by simp)
  simp [Sh.size] at this
  simp [Lit.wf, IntKind.min, IntKind.max, IntKind.signed, IntKind.bits] at hw
  exact ⟨b, off, ha, hS, hb, this.1, this.2, by omega, by omega⟩
theorem bytes_all {w : World} {S : Nat → Prop} {v : Value} {l : Bytes} (h : Rd bytesSh w S [v] l) : AllB l := fun x hx => by
  obtain ⟨i, hi, rfl⟩ := List.getElem_of_mem hx
  obtain ⟨a, c, -, -, -, -, h4⟩ := bytes_at h
  obtain ⟨b, off, -, -, -, -, -, h5, h6⟩ := h4 i hi
  exact ⟨h5, h6⟩

/-- a slice's address bears no path -/
def PlainV (v : Value) : Prop := ∀ a n c, v = .slice (some a) n c → ∃ b off, a = ⟨b, off, none⟩
/-- a reader's block reads as r; v: its bytes, which lie in S -/
structure RdrAt (T : TypeId) (w : World) (B : Nat) (S : Nat → Prop) (v : Value) (r : Rs) : Prop where
  blk : w.heap[B]? = some (.cells #[v, .int .i64 r.at', .int .i64 r.last, .int .i64 r.err, .int .i64 r.spot] T (0, 0))
  rd : Rd bytesSh w S [v] r.b
  nB : ¬ S B
  ok : r.Ok
  pl : PlainV v

theorem RdrAt.agree {T : TypeId} {w w' : World} {B : Nat} {S : Nat → Prop} {v : Value} {r : Rs} (h : RdrAt T w B S v r) (hk : Keep No w w') : RdrAt T w' B S v r :=
  ⟨hk.blk h.blk (fun x => x), h.rd.agree bytesSh hk.agreeNo, h.nB, h.ok, h.pl⟩
theorem RdrAt.lt {T : TypeId} {w : World} {B : Nat} {S : Nat → Prop} {v : Value} {r : Rs} (h : RdrAt T w B S v r) : B < w.heap.size := blk_lt h.blk
/-- a step on the reader's own block -/
theorem RdrAt.step {T : TypeId} {w w' : World} {B : Nat} {S : Nat → Prop} {v : Value} {r r' : Rs} (h : RdrAt T w B S v r) (hk : Keep (One B) w w')
    (hb : w'.heap[B]? = some (.cells #[v, .int .i64 r'.at', .int .i64 r'.last, .int .i64 r'.err, .int .i64 r'.spot] T (0, 0))) (e : r'.b = r.b) (ok : r'.Ok) : RdrAt T w' B S v r' :=
  ⟨hb, by rw [e]; exact h.rd.agree bytesSh (hk.agree fun k _ hs hm => h.nB (by cases (show k = B from hm); exact hs)), h.nB, ok, h.pl⟩

theorem RdrAt.drewN {T : TypeId} {w : World} {B : Nat} {S : Nat → Prop} {v : Value} {r : Rs} (h : RdrAt T w B S v r) (n : Nat) : RdrAt T (w.drewN n) B S v r := h.agree ((Keep.refl No w).drewN n)
theorem RdrAt.setAt {T : TypeId} {w : World} {B : Nat} {S : Nat → Prop} {v : Value} {r : Rs} (h : RdrAt T w B S v r) (a : Nat) (x : Int) (hx : x = a) (ha : a ≤ r.b.length) : RdrAt T (w.setCell ⟨B, 1, none⟩ (.int .i64 x)) B S v { r with at' := a } := by
  subst hx
  exact h.step (keep_set w B 1 _) (by simpa using blk_set h.blk 1 (.int .i64 (a : Int))) rfl ⟨ha, h.ok.last_le, h.ok.spot_le, h.ok.all, h.ok.err0, h.ok.err1⟩
theorem RdrAt.setLast {T : TypeId} {w : World} {B : Nat} {S : Nat → Prop} {v : Value} {r : Rs} (h : RdrAt T w B S v r) (a : Nat) (x : Int) (hx : x = a) (ha : a ≤ r.b.length) : RdrAt T (w.setCell ⟨B, 2, none⟩ (.int .i64 x)) B S v { r with last := a } := by
  subst hx
  exact h.step (keep_set w B 2 _) (by simpa using blk_set h.blk 2 (.int .i64 (a : Int))) rfl ⟨h.ok.at_le, ha, h.ok.spot_le, h.ok.all, h.ok.err0, h.ok.err1⟩
theorem RdrAt.setErr {T : TypeId} {w : World} {B : Nat} {S : Nat → Prop} {v : Value} {r : Rs} (h : RdrAt T w B S v r) (x : Int) (h0 : 0 ≤ x) (h1 : x < 1000) : RdrAt T (w.setCell ⟨B, 3, none⟩ (.int .i64 x)) B S v { r with err := x } :=
  h.step (keep_set w B 3 _) (by simpa using blk_set h.blk 3 (.int .i64 x)) rfl ⟨h.ok.at_le, h.ok.last_le, h.ok.spot_le, h.ok.all, h0, h1⟩
theorem RdrAt.setSpot {T : TypeId} {w : World} {B : Nat} {S : Nat → Prop} {v : Value} {r : Rs} (h : RdrAt T w B S v r) (a : Nat) (x : Int) (hx : x = a) (ha : a ≤ r.b.length) : RdrAt T (w.setCell ⟨B, 4, none⟩ (.int .i64 x)) B S v { r with spot := a } := by
  subst hx
  exact h.step (keep_set w B 4 _) (by simpa using blk_set h.blk 4 (.int .i64 (a : Int))) rfl ⟨h.ok.at_le, h.ok.last_le, ha, h.ok.all, h.ok.err0, h.ok.err1⟩
theorem keep_own {w w' : World} {B : Nat} (h : Keep (One B) w w') (i : Nat) (x : Value) : Keep (One B) w (w'.setCell ⟨B, i, none⟩ x) := h.setCell (p := ⟨B, i, none⟩) (fun _ => rfl) x

/-- what a reading panics with -/
def gave (T : TypeId) (e : Int) : List PanicEntry := [{ v := .iface T (.agg #[.int .i64 e]), recovered := false }]
/-- what a reading comes to: a value and a place, or an error -/
def Takes (T G : TypeId) (w : World) (B : Nat) (S : Nat → Prop) (v : Value) (r : Rs) (o : (Value × Nat) ⊕ Int) (e : Ending) (w' : World) : Prop :=
  ∃ a : Nat, RdrAt T w' B S v { r with at' := a } ∧ Keep (One B) w w' ∧
    match o with
    | .inl (x, k) => e = .returned x ∧ a = r.at' + k
    | .inr x => e = .panicked (gave G x)

theorem maxLen_is : maxLen = 9223372036854775807 := rfl
theorem RdrAt.len {T : TypeId} {w : World} {B : Nat} {S : Nat → Prop} {v : Value} {r : Rs} (h : RdrAt T w B S v r) : r.b.length ≤ 9223372036854775807 := by
  obtain ⟨a, c, -, h1, h2, -, -⟩ := bytes_at h.rd
  rw [maxLen_is] at h2
  omega

theorem rest_cons {r : Rs} {c : Int} {t : Bytes} (h : r.rest = c :: t) : ∃ hi : r.at' < r.b.length, r.b[r.at'] = c := by
  have hl := congrArg List.length h
  simp [Rs.rest] at hl
  have hi : r.at' < r.b.length := by omega
  refine ⟨hi, ?_⟩
  have : r.rest[0]? = some c := by rw [h]; rfl
  simp [Rs.rest] at this
  rw [List.getElem?_eq_getElem hi] at this
  exact Option.some.inj this

def byteO (l : Bytes) : (Value × Nat) ⊕ Int := match l with | [] => .inr 3 | c :: _ => .inl (.int .u8 c, 1)

theorem numO_err (f i acc : Nat) (l : Bytes) : (numF f i acc l).2.2 = 0 → (numF f i acc l).2.1 ≤ i + l.length := numF_len f i acc l
/-- what a number comes to -/
def numO (n : Nat × Nat × Int) : (Value × Nat) ⊕ Int := if n.2.2 = 0 then .inl (.int .u64 n.1, n.2.1) else .inr n.2.2

end Go.Proofs.YtfgdnakfikpmpaaGreatDoor

namespace Go.Proofs.YtfgdnakfikpmpaaGreatDoor
set_option linter.unusedVariables false
set_option linter.unusedSimpArgs false
open Go Go.RowKit Go.Deep

theorem cutU_text (l : Bytes) (k : Nat) (hk : k < l.length) (h : l[k] ≠ 123) (hc : keyC l[k] = true) : cutU (l.drop k) = (cutU (l.drop (k + 1))).map (mkPrt ⟨#[l[k].toNat.toUInt8]⟩ (-1) :: ·) := by
  rw [List.drop_eq_getElem_cons hk]
  conv => lhs; unfold cutU
  rw [if_neg h, if_pos hc]
theorem cutU_bad (l : Bytes) (k : Nat) (hk : k < l.length) (h : l[k] ≠ 123) (hc : keyC l[k] = false) : cutU (l.drop k) = none := by
  rw [List.drop_eq_getElem_cons hk]
  conv => lhs; unfold cutU
  rw [if_neg h, if_neg (by rw [hc]; exact Bool.false_ne_true)]
theorem drop3 {α : Type} (l : List α) (k : Nat) (hk : k + 2 < l.length) : l.drop k = l[k] :: l[k + 1] :: l[k + 2] :: l.drop (k + 3) := by
  rw [List.drop_eq_getElem_cons (show k < l.length by omega), List.drop_eq_getElem_cons (show k + 1 < l.length by omega), List.drop_eq_getElem_cons hk]
theorem cutU_mark (l : Bytes) (k : Nat) (hk : k + 2 < l.length) (h : l[k] = 123) (hd : 48 ≤ l[k + 1] ∧ l[k + 1] ≤ 57 ∧ l[k + 2] = 125) : cutU (l.drop k) = (cutU (l.drop (k + 3))).map (mkPrt noText (l[k + 1] - 48) :: ·) := by
  rw [drop3 l k hk, h]
  conv => lhs; unfold cutU
  rw [if_pos rfl]
  simp only
  rw [if_pos hd]
theorem cutU_nomark (l : Bytes) (k : Nat) (hk : k + 2 < l.length) (h : l[k] = 123) (hd : ¬ (48 ≤ l[k + 1] ∧ l[k + 1] ≤ 57 ∧ l[k + 2] = 125)) : cutU (l.drop k) = none := by
  rw [drop3 l k hk, h]
  conv => lhs; unfold cutU
  rw [if_pos rfl]
  simp only
  rw [if_neg hd]
theorem cutU_short (l : Bytes) (k : Nat) (hk : k < l.length) (h : l[k] = 123) (hs : ¬ k + 2 < l.length) : cutU (l.drop k) = none := by
  rw [List.drop_eq_getElem_cons hk, h]
  conv => lhs; unfold cutU
  rw [if_pos rfl]
  have hl : (l.drop (k + 1)).length ≤ 1 := by simp; omega
  match l.drop (k + 1), hl with
  | [], _ => rfl
  | [_], _ => rfl
  | _ :: _ :: _, h => simp at h

/-- so far the parts are out -/
def CutTo (l : Bytes) (k : Nat) (out : List Prt) : Prop := cutU l = (cutU (l.drop k)).map (out ++ ·) ∧ out.length ≤ k
theorem CutTo.start (l : Bytes) : CutTo l 0 [] := ⟨by simp, Nat.le_refl _⟩
theorem CutTo.text {l : Bytes} {k : Nat} {out : List Prt} (h : CutTo l k out) (hk : k < l.length) (hn : l[k] ≠ 123) (hc : keyC l[k] = true) : CutTo l (k + 1) (out ++ [mkPrt ⟨#[l[k].toNat.toUInt8]⟩ (-1)]) := by
  refine ⟨?_, by have := h.2; simp; omega⟩
  rw [h.1, cutU_text l k hk hn hc, Option.map_map]
  congr 1
  funext r
  simp
theorem CutTo.mark {l : Bytes} {k : Nat} {out : List Prt} (h : CutTo l k out) (hk : k + 2 < l.length) (hn : l[k] = 123) (hd : 48 ≤ l[k + 1] ∧ l[k + 1] ≤ 57 ∧ l[k + 2] = 125) : CutTo l (k + 3) (out ++ [mkPrt noText (l[k + 1] - 48)]) := by
  refine ⟨?_, by have := h.2; simp; omega⟩
  rw [h.1, cutU_mark l k hk hn hd, Option.map_map]
  congr 1
  funext r
  simp
theorem CutTo.none {l : Bytes} {k : Nat} {out : List Prt} (h : CutTo l k out) (hn : cutU (l.drop k) = .none) : cutU l = .none := by
  rw [h.1, hn]; rfl
theorem CutTo.done {l : Bytes} {out : List Prt} (h : CutTo l l.length out) : cutU l = some out := by
  rw [h.1, List.drop_length]
  simp [cutU]

theorem cutT_some {t : ByteArray} (h1 : 1 ≤ t.size) (h2 : t.size ≤ 64) : cutT t = cutU (bytesOf t) := by
  unfold cutT
  rw [if_neg (by omega)]
theorem cutT_none {t : ByteArray} (h : t.size = 0 ∨ 64 < t.size) : cutT t = none := by
  unfold cutT
  rw [if_pos h]

/-- the parts of a template: marks are digits, texts one letter -/
theorem cutU_arg : ∀ (n : Nat) (l : Bytes), l.length ≤ n → ∀ out, cutU l = some out → ∀ p ∈ out, -1 ≤ p.arg ∧ p.arg ≤ 9 ∧ p.text.size ≤ 1 := by
  intro n
  induction n with
  | zero =>
    intro l hl out h p hp
    have : l = [] := List.length_eq_zero_iff.1 (by omega)
    subst this
    simp [cutU] at h
    subst h
    cases hp
  | succ n ih =>
    intro l hl out h p hp
    match l, hl with
    | [], _ => simp [cutU] at h; subst h; cases hp
    | c :: r, hl =>
      conv at h => lhs; unfold cutU
      by_cases hc : c = 123
      · rw [if_pos hc] at h
        match r, hl with
        | [], _ => cases h
        | [_], _ => cases h
        | d :: e :: t, hl =>
          simp only at h
          by_cases hd : 48 ≤ d ∧ d ≤ 57 ∧ e = 125
          · rw [if_pos hd, Option.map_eq_some_iff] at h
            obtain ⟨o, ho, rfl⟩ := h
            rcases List.mem_cons.1 hp with rfl | hp
            · exact ⟨by show (-1 : Int) ≤ d - 48; omega, by show d - 48 ≤ 9; omega, Nat.zero_le _⟩
            · exact ih t (by simp at hl; omega) o ho p hp
          · rw [if_neg hd] at h; cases h
      · rw [if_neg hc] at h
        by_cases hk : keyC c = true
        · rw [if_pos hk, Option.map_eq_some_iff] at h
          obtain ⟨o, ho, rfl⟩ := h
          rcases List.mem_cons.1 hp with rfl | hp
          · exact ⟨by show (-1 : Int) ≤ -1; decide, by show (-1 : Int) ≤ 9; decide, Nat.le_refl _⟩
          · exact ih r (by simp at hl; omega) o ho p hp
        · rw [if_neg hk] at h; cases h
theorem cutU_len : ∀ (n : Nat) (l : Bytes), l.length ≤ n → ∀ out, cutU l = some out → out.length ≤ l.length := by
  intro n
  induction n with
  | zero =>
    intro l hl out h
    have : l = [] := List.length_eq_zero_iff.1 (by omega)
    subst this
    simp [cutU] at h
    subst h
    exact Nat.le_refl _
  | succ n ih =>
    intro l hl out h
    match l, hl with
    | [], _ => simp [cutU] at h; subst h; exact Nat.le_refl _
    | c :: r, hl =>
      conv at h => lhs; unfold cutU
      by_cases hc : c = 123
      · rw [if_pos hc] at h
        match r, hl with
        | [], _ => cases h
        | [_], _ => cases h
        | d :: e :: t, hl =>
          simp only at h
          by_cases hd : 48 ≤ d ∧ d ≤ 57 ∧ e = 125
          · rw [if_pos hd, Option.map_eq_some_iff] at h
            obtain ⟨o, ho, rfl⟩ := h
            have := ih t (by simp at hl; omega) o ho
            simp; omega
          · rw [if_neg hd] at h; cases h
      · rw [if_neg hc] at h
        by_cases hk : keyC c = true
        · rw [if_pos hk, Option.map_eq_some_iff] at h
          obtain ⟨o, ho, rfl⟩ := h
          have := ih r (by simp at hl; omega) o ho
          simp; omega
        · rw [if_neg hk] at h; cases h
theorem cutT_arg {t : ByteArray} {out : List Prt} (h : cutT t = some out) : (∀ p ∈ out, -1 ≤ p.arg ∧ p.arg ≤ 9 ∧ p.text.size ≤ 1) ∧ out.length ≤ 64 := by
  unfold cutT at h
  split at h
  · cases h
  · rename_i hn
    refine ⟨cutU_arg _ _ (Nat.le_refl _) out h, ?_⟩
    have := cutU_len _ _ (Nat.le_refl _) out h
    rw [bytesOf_length] at this
    omega
end Go.Proofs.YtfgdnakfikpmpaaGreatDoor

namespace Go.Proofs.YtfgdnakfikpmpaaGreatDoor
set_option linter.unusedVariables false
set_option linter.unusedSimpArgs false
open Go Go.RowKit Go.Deep

theorem or_bits (a c i : Nat) (h : a < 128 ^ i) : a ||| (c * 128 ^ i) = a + c * 128 ^ i := by
  have e : (128 : Nat) ^ i = 2 ^ (7 * i) := by rw [Nat.pow_mul]
  rw [e] at h ⊢
  rw [← Nat.shiftLeft_eq, Nat.or_comm, ← Nat.shiftLeft_add_eq_or_of_lt h]
  omega
theorem andNot_u8_all : ∀ c : Fin 256, bits BinOp.andNot .u8 ((c.val : Nat) : Int) 128 = ((c.val % 128 : Nat) : Int) := by decide +kernel
theorem andNot_u8 (c : Nat) (h : c < 256) : bits BinOp.andNot .u8 (c : Int) 128 = ((c % 128 : Nat) : Int) := andNot_u8_all ⟨c, h⟩
theorem wrap_u64_nat (n : Nat) (h : n < 18446744073709551616) : IntKind.u64.wrap (n : Int) = n := by
  rw [IntKind.wrap_u64]; omega
theorem uint_step (acc k c : Nat) (h : c < 256) (hk : k ≤ 9) (ha : acc < 128 ^ k) (h9 : k = 9 → c ≤ 1) :
    bits BinOp.or .u64 (acc : Int) (IntKind.u64.wrap (IntKind.u64.wrap (bits BinOp.andNot .u8 (c : Int) 128) * 2 ^ (7 * k))) = ((acc + c % 128 * 128 ^ k : Nat) : Int) ∧ acc + c % 128 * 128 ^ k < 128 ^ (k + 1) ∧ acc + c % 128 * 128 ^ k < 18446744073709551616 := by
  have e : (2 : Int) ^ (7 * k) = ((128 ^ k : Nat) : Int) := by rw [Int.pow_mul]; norm_cast
  have hlt : acc + c % 128 * 128 ^ k < 128 ^ (k + 1) := by
    have : c % 128 * 128 ^ k ≤ 127 * 128 ^ k := Nat.mul_le_mul_right _ (by omega)
    rw [Nat.pow_succ]; omega
  have hm : (128 : Nat) ^ k ≤ 128 ^ 9 := Nat.pow_le_pow_right (by decide) hk
  have h64 : acc + c % 128 * 128 ^ k < 18446744073709551616 := by
    by_cases h0 : k = 9
    · have := h9 h0
      subst h0
      have : c % 128 * 128 ^ 9 ≤ 1 * 128 ^ 9 := Nat.mul_le_mul_right _ (by omega)
      omega
    · have h8 : (128 : Nat) ^ (k + 1) ≤ 128 ^ 9 := Nat.pow_le_pow_right (by decide) (by omega)
      have : (128 : Nat) ^ 9 < 18446744073709551616 := by decide
      omega
  refine ⟨?_, hlt, h64⟩
  rw [andNot_u8 c h, wrap_u64_nat _ (by omega), e, ← Int.natCast_mul, wrap_u64_nat _ (by omega), bits_or_u64_nat _ _ (by omega) (by omega), or_bits _ _ _ ha]

end Go.Proofs.YtfgdnakfikpmpaaGreatDoor

namespace Go.Proofs.YtfgdnakfikpmpaaGreatDoor
set_option linter.unusedVariables false
set_option linter.unusedSimpArgs false
open Go Go.RowKit Go.Deep

/-- what a limited number comes to -/
def limO (n : Nat × Nat × Int) : (Value × Nat) ⊕ Int := if n.2.2 = 0 then .inl (.int .i64 n.1, n.2.1) else .inr n.2.2

/-- what a text comes to -/
def textO (most : Int) (l : Bytes) : (Value × Nat) ⊕ Int :=
  if (limB most 1 l).2.2 ≠ 0 then .inr (limB most 1 l).2.2 else
  if l.length < (limB most 1 l).2.1 + (limB most 1 l).1 then .inr 3 else
  .inl (.string (textOf ((l.drop (limB most 1 l).2.1).take (limB most 1 l).1)), (limB most 1 l).2.1 + (limB most 1 l).1)

/-- a part of a slice -/
theorem Rd.part {s : Sh} {w : World} {S : Nat → Prop} {b off c : Nat} {l : List s.T} (h : Rd (.slice s) w S [.slice (some ⟨b, off, none⟩) l.length c] l) (i n : Nat) (hn : i + n ≤ l.length) :
    Rd (.slice s) w S [.slice (some ⟨b, off + i * s.size, none⟩) n (c - i)] ((l.drop i).take n) := by
  obtain ⟨a', c', e1, h1, h2, h3, h4⟩ := h
  simp only [List.cons.injEq, Value.slice.injEq, and_true, true_and] at e1
  obtain ⟨rfl, rfl⟩ := e1
  have hl : ((l.drop i).take n).length = n := by simp; omega
  refine ⟨_, c - i, by rw [hl], by omega, by omega, fun hh => by (cases hh), fun j hj => ?_⟩
  rw [hl] at hj
  obtain ⟨b', off', row, e2, hb, hS, hr, hrow, hx⟩ := h4 (i + j) (by omega)
  simp only [Option.some.injEq, Addr.mk.injEq, and_true] at e2
  obtain ⟨rfl, rfl⟩ := e2
  refine ⟨b, off + i * s.size, row, rfl, hb, hS, hr, ?_, ?_⟩
  · rw [Nat.add_assoc, ← Nat.add_mul]; exact hrow
  · have : ((l.drop i).take n)[j] = l[i + j] := by simp
    rw [this]; exact hx

/-- 'string(b)' of bytes in memory -/
theorem run_string_back {P : Program} {w : World} {S : Nat → Prop} {l : Bytes} (src dst e : TypeId) (a : Option Addr) (c n : Nat) (hs : P.underlying src = some (.slice e)) (he : P.underlying e = some (.int .u8)) (hd : P.underlying dst = some .string)
    (h : Rd bytesSh w S [.slice a n c] l) : (convert src dst (.slice a n c)).run P w = .ok (.string (textOf l)) w := by
  obtain ⟨a', c', e1, -, -, h3, h4⟩ := bytes_at h
  simp only [Value.slice.injEq] at e1
  obtain ⟨rfl, rfl, rfl⟩ := e1
  cases a with
  | none =>
    obtain ⟨rfl, -⟩ := h3 rfl
    rw [run_convert_bytes_string w src dst e _ _ _ hs he hd]
    simp [Conv.bytesToString, textOf]
    rfl
  | some a =>
    have := run_convert_bytes_back w src dst e a c (l.map fun x => UInt8.ofNat x.toNat) hs he hd fun j hj => by
      simp only [List.length_map] at hj
      obtain ⟨b, off, ea, -, -, hc, -, h0, h1⟩ := h4 j hj
      simp only [Option.some.injEq] at ea
      subst ea
      rw [Addr.add_lit, hc, List.getElem_map]
      congr 2
      rw [UInt8.toNat_ofNat', Nat.mod_eq_of_lt (by omega)]
      omega
    rw [List.length_map] at this
    exact this

end Go.Proofs.YtfgdnakfikpmpaaGreatDoor

namespace Go.Proofs.YtfgdnakfikpmpaaGreatDoor
set_option linter.unusedVariables false
set_option linter.unusedSimpArgs false
open Go Go.RowKit Go.Deep

theorem RdrAt.mono {T : TypeId} {w : World} {B : Nat} {S S' : Nat → Prop} {v : Value} {r : Rs} (h : RdrAt T w B S v r) (hs : ∀ k, k < w.heap.size → S k → S' k) (hB : ¬ S' B) : RdrAt T w B S' v r := ⟨h.blk, h.rd.mono bytesSh hs, hB, h.ok, h.pl⟩
theorem RdrAt.live {T : TypeId} {w : World} {B : Nat} {S : Nat → Prop} {v : Value} {r : Rs} (h : RdrAt T w B S v r) : RdrAt T w B (fun k => S k ∧ k < w.heap.size) v r := h.mono (fun k hk hs => ⟨hs, hk⟩) fun x => h.nB x.1
theorem RdrAt.other {T : TypeId} {w : World} {B : Nat} {S : Nat → Prop} {v : Value} {r : Rs} (h : RdrAt T w B S v r) {b i : Nat} (hb : ¬ b = B) (hS : ¬ S b) (x : Value) : RdrAt T (w.setCell ⟨b, i, none⟩ x) B S v r :=
  ⟨blk_other h.blk (show (⟨b, i, none⟩ : Addr).block ≠ B from hb) x, h.rd.agree bytesSh (agree_set hS i x), h.nB, h.ok, h.pl⟩

/-- what 'read' gives: the value, or the zero value z and the error -/
def ReadTo (T : TypeId) (w : World) (B : Nat) (S : Nat → Prop) (v : Value) (r : Rs) (z : Value) (o : (Value × Nat) ⊕ Int) (e : Ending) (w' : World) : Prop :=
  Keep (One B) w w' ∧
    match o with
    | .inl (x, k) => e = .returned x ∧ RdrAt T w' B S v (r.took k)
    | .inr x => e = .returned z ∧ RdrAt T w' B S v (r.fails x)
/-- what may be read -/
def OkO (E : Value → Prop) (r : Rs) : (Value × Nat) ⊕ Int → Prop
  | .inl (x, k) => r.at' + k ≤ r.b.length ∧ E x
  | .inr e => 0 ≤ e ∧ e < 1000

end Go.Proofs.YtfgdnakfikpmpaaGreatDoor

namespace Go.Proofs.YtfgdnakfikpmpaaGreatDoor
set_option linter.unusedVariables false
set_option linter.unusedSimpArgs false
open Go Go.RowKit Go.Deep

end Go.Proofs.YtfgdnakfikpmpaaGreatDoor

namespace Go.Proofs.YtfgdnakfikpmpaaGreatDoor
set_option linter.unusedVariables false
set_option linter.unusedSimpArgs false
open Go Go.RowKit Go.Deep

/-- a reader's step: what it gives, what it is behind it -/
def Reads (T : TypeId) (w : World) (B : Nat) (S : Nat → Prop) (v : Value) (x : Value) (r : Rs) (e : Ending) (w' : World) : Prop :=
  e = .returned x ∧ RdrAt T w' B S v r ∧ Keep (One B) w w'

/-- what a reading comes to, as a value and the reader behind it -/
def ofO (r : Rs) (z : Value) : (Value × Nat) ⊕ Int → Value × Rs
  | .inl (x, k) => (x, r.took k)
  | .inr e => (z, r.fails e)
theorem ofO_num {r : Rs} (he : r.err = 0) : ofO r (.int .u64 0) (numO (numB r.rest)) = (.int .u64 r.uint.1, r.uint.2) := by
  unfold numO Rs.uint
  rw [if_neg (show ¬ r.err ≠ 0 by simpa using he)]
  by_cases h : (numB r.rest).2.2 = 0
  · rw [if_pos h, if_neg (by simpa using h)]; rfl
  · rw [if_neg h, if_pos h]; rfl
theorem ofO_byte {r : Rs} (he : r.err = 0) : ofO r (.int .u8 0) (byteO r.rest) = (.int .u8 r.byte.1, r.byte.2) := by
  unfold byteO Rs.byte
  rw [if_neg (show ¬ r.err ≠ 0 by simpa using he)]
  cases r.rest <;> rfl
theorem ofO_count {r : Rs} (he : r.err = 0) (most : Int) : ofO r (.int .i64 0) (limO (limB most 6 r.rest)) = (.int .i64 (r.count most).1, (r.count most).2) := by
  unfold limO Rs.count
  rw [if_neg (show ¬ r.err ≠ 0 by simpa using he)]
  by_cases h : (limB most 6 r.rest).2.2 = 0
  · rw [if_pos h, if_neg (by simpa using h)]; rfl
  · rw [if_neg h, if_pos h]; rfl
theorem ofO_text {r : Rs} (he : r.err = 0) (most : Int) : ofO r (.string ⟨#[]⟩) (textO most r.rest) = (.string (r.text most).1, (r.text most).2) := by
  unfold textO Rs.text
  rw [if_neg (show ¬ r.err ≠ 0 by simpa using he)]
  by_cases h : (limB most 1 r.rest).2.2 = 0
  · by_cases h2 : r.rest.length < (limB most 1 r.rest).2.1 + (limB most 1 r.rest).1
    · simp only [h, h2, ne_eq, not_true_eq_false, if_false, if_true]; rfl
    · simp only [h, h2, ne_eq, not_true_eq_false, if_false]; rfl
  · simp only [h, ne_eq, not_false_eq_true, if_true]; rfl
/-- what an int comes to -/
def intO (n : Nat × Nat × Int) : (Value × Nat) ⊕ Int := if n.2.2 = 0 then .inl (.int .i64 (zag n.1), n.2.1) else .inr n.2.2
theorem ofO_int {r : Rs} (he : r.err = 0) : ofO r (.int .i64 0) (intO (numB r.rest)) = (.int .i64 r.int.1, r.int.2) := by
  unfold intO Rs.int Rs.uint
  rw [if_neg (show ¬ r.err ≠ 0 by simpa using he)]
  by_cases h : (numB r.rest).2.2 = 0
  · rw [if_pos h, if_neg (by simpa using h)]; rfl
  · rw [if_neg h, if_pos h]; show _ = (Value.int .i64 (zag 0), _); rw [show zag 0 = 0 from by decide]; rfl

theorem numB_errlt (l : Bytes) : 0 ≤ (numB l).2.2 ∧ (numB l).2.2 < 1000 := by have := numB_err l; omega
theorem rest_len (r : Rs) : r.rest.length = r.b.length - r.at' := by simp [Rs.rest]

theorem okO_num {r : Rs} (h : r.Ok) : OkO (fun x => ∃ n, x = .int .u64 n) r (numO (numB r.rest)) := by
  have hat := h.at_le
  unfold numO
  by_cases h0 : (numB r.rest).2.2 = 0
  · rw [if_pos h0]; have := numB_len _ h0; rw [rest_len] at this; exact ⟨by omega, _, rfl⟩
  · rw [if_neg h0]; exact numB_errlt _
theorem okO_int {r : Rs} (h : r.Ok) : OkO (fun x => ∃ n, x = .int .i64 n) r (intO (numB r.rest)) := by
  have hat := h.at_le
  unfold intO
  by_cases h0 : (numB r.rest).2.2 = 0
  · rw [if_pos h0]; have := numB_len _ h0; rw [rest_len] at this; exact ⟨by omega, _, rfl⟩
  · rw [if_neg h0]; exact numB_errlt _
theorem okO_byte {r : Rs} (h : r.Ok) : OkO (fun x => ∃ n, x = .int .u8 n) r (byteO r.rest) := by
  have hat := h.at_le
  have hl := rest_len r
  unfold byteO
  cases hr : r.rest with
  | nil => exact ⟨by omega, by omega⟩
  | cons c t => rw [hr] at hl; simp at hl; exact ⟨by omega, _, rfl⟩
theorem okO_lim {r : Rs} (h : r.Ok) (most e : Int) (h0 : 0 < e) (h1 : e < 1000) : OkO (fun x => ∃ n, x = .int .i64 n) r (limO (limB most e r.rest)) := by
  have hat := h.at_le
  unfold limO
  by_cases hz : (limB most e r.rest).2.2 = 0
  · rw [if_pos hz]
    obtain ⟨e1, -, e3, -⟩ := limB_ok hz (by omega)
    have := numB_len _ e1; rw [rest_len, ← e3] at this; exact ⟨by omega, _, rfl⟩
  · rw [if_neg hz]; exact limB_err _ h0 h1
theorem okO_text {r : Rs} (h : r.Ok) (most : Int) : OkO (fun x => ∃ n, x = .string n) r (textO most r.rest) := by
  have hat := h.at_le
  unfold textO
  by_cases hz : (limB most 1 r.rest).2.2 = 0
  · rw [if_neg (by simpa using hz)]
    by_cases h2 : r.rest.length < (limB most 1 r.rest).2.1 + (limB most 1 r.rest).1
    · rw [if_pos h2]; exact ⟨by omega, by omega⟩
    · rw [if_neg h2]; rw [rest_len] at h2; exact ⟨by omega, _, rfl⟩
  · rw [if_pos hz]; exact limB_err _ (by omega) (by omega)

end Go.Proofs.YtfgdnakfikpmpaaGreatDoor

namespace Go.Proofs.YtfgdnakfikpmpaaGreatDoor
set_option linter.unusedVariables false
set_option linter.unusedSimpArgs false
open Go Go.RowKit Go.Deep

theorem xor_m1 (x : Nat) (hx : x < 9223372036854775808) : bits .xor .i64 (x : Int) (-1) = -(x : Int) - 1 := by
  have h := Go.Lib.i64_not x hx
  have hc : bits .xor .i64 (x : Int) (-1) = bits .xor .i64 (-1) (x : Int) := by
    show IntKind.i64.wrap ((BitVec.ofInt 64 (x : Int) ^^^ BitVec.ofInt 64 (-1)).toNat : Int) = IntKind.i64.wrap ((BitVec.ofInt 64 (-1) ^^^ BitVec.ofInt 64 (x : Int)).toNat : Int)
    rw [BitVec.xor_comm]
  rw [hc, h]
theorem xor_0 (x : Nat) (hx : x < 9223372036854775808) : bits .xor .i64 (x : Int) 0 = (x : Int) := by
  show IntKind.i64.wrap ((BitVec.ofInt 64 (x : Int) ^^^ BitVec.ofInt 64 0).toNat : Int) = _
  have h2 : (BitVec.ofInt 64 (x : Int)).toNat = x := by
    rw [BitVec.ofInt_natCast, BitVec.toNat_ofNat]; exact Nat.mod_eq_of_lt (by omega)
  have h3 : (BitVec.ofInt 64 (x : Int) ^^^ BitVec.ofInt 64 0) = BitVec.ofInt 64 (x : Int) := by
    rw [show BitVec.ofInt 64 0 = 0#64 from rfl, BitVec.xor_zero]
  rw [h3, h2, IntKind.wrap_i64]
  omega

theorem zag_bits (n : Nat) (h : n < 2 ^ 64) : bits BinOp.xor IntKind.i64 ((n : Int) / 2) (wrap64 (-wrap64 (bits BinOp.and IntKind.u64 (n : Int) 1))) = zag n := by
  rw [Go.Lib.u64_and1 _ (by omega) (by omega)]
  unfold zag
  have e2 : ((n : Int) / 2) = ((n / 2 : Nat) : Int) := by omega
  split
  · rename_i h0
    have e1 : (n : Int) % 2 = 0 := by omega
    rw [e1, e2, show wrap64 (-wrap64 0) = 0 from by simp [wrap64]]
    exact xor_0 (n / 2) (by omega)
  · rename_i h0
    have e1 : (n : Int) % 2 = 1 := by omega
    rw [e1, e2, show wrap64 (-wrap64 1) = -1 from by simp [wrap64]]
    exact xor_m1 (n / 2) (by omega)

end Go.Proofs.YtfgdnakfikpmpaaGreatDoor

namespace Go.Proofs.YtfgdnakfikpmpaaGreatDoor
set_option linter.unusedVariables false
set_option linter.unusedSimpArgs false
open Go Go.RowKit Go.Deep

/-- what only looks -/
def Looks (w : World) (x : Value) (e : Ending) (w' : World) : Prop := ∃ n, e = .returned x ∧ w' = w.drewN n

/-- the reader's cells, read and free -/
theorem RdrAt.cells {T : TypeId} {w : World} {B : Nat} {S : Nat → Prop} {v : Value} {r : Rs} (h : RdrAt T w B S v r) :
    w.cell? ⟨B, 0, none⟩ = some v ∧ w.cell? ⟨B, 1, none⟩ = some (.int .i64 r.at') ∧ w.cell? ⟨B, 2, none⟩ = some (.int .i64 r.last) ∧ w.cell? ⟨B, 3, none⟩ = some (.int .i64 r.err) ∧ w.cell? ⟨B, 4, none⟩ = some (.int .i64 r.spot) ∧
      w.frozen? ⟨B, 3, none⟩ = false ∧ w.frozen? ⟨B, 4, none⟩ = false :=
  ⟨blk_cell h.blk 0, blk_cell h.blk 1, blk_cell h.blk 2, blk_cell h.blk 3, blk_cell h.blk 4, blk_fro h.blk 3, blk_fro h.blk 4⟩

/-- 'append([]T{}, l...)' of flat elements, whatever follows, of whatever length fits -/
theorem clone_big {P : Program} {w : World} {S : Nat → Prop} {v : Value} {s : Sh} {l : List s.T} (h : Rd (.slice s) w S [v] l) (hf : s.flat = true) (t e ty : TypeId) (i : TypeInfo) (z : Value) (bytes : Nat)
    (ht : P.underlying t = some (.slice e)) (hi : P.info? e = some i) (hz : i.zero = some z) (hsz : i.size = s.size) (hby : i.bytes = bytes) (hzs : z.cells.size = s.size) (hl : l.length ≤ 140737488355328) (hb : l.length * bytes ≤ 140737488355328) :
    ∃ a c w', (Builtin.append_ #[t, t] ty #[.slice (some ⟨w.heap.size, 0, none⟩) 0 0, v]).run P (w.alloc (.cells #[] e)) = .ok (.slice a l.length c) w' ∧ Own s e w' (Fr w.heap.size w'.heap.size) (.slice a l.length c) l ∧ Keep No w w' := by
  obtain ⟨rows, hrl, hr, hsrc⟩ := Rd.rows h
  have h0 : OwnRows (w.alloc (.cells #[] e)) e s.size (.slice (some ⟨w.heap.size, 0, none⟩) 0 0) (some w.heap.size) [] :=
    ⟨fun _ h => (by cases h), .inr ⟨w.heap.size, 0, 0, #[], rfl, rfl, heap_alloc_new w _, Nat.le_refl _, Nat.zero_le _, by simp, by simp⟩⟩
  have hag : Agree S w (w.alloc (.cells #[] e)) := ((Keep.refl No w).alloc _).agreeNo
  obtain ⟨a, c, w', g', hrun, ho, hg', hk, hs⟩ := own_append h0 t t ty i z bytes ht hi hz hsz hby hzs (hsrc P t e ht _ hag) (fun r hr' => by
    obtain ⟨j, hj, rfl⟩ := List.getElem_of_mem hr'
    exact (hr j hj (by omega)).length s) (by simp; omega) (by simpa [hrl] using hb)
  simp only [List.length_nil, Nat.zero_add, hrl, List.nil_append] at hrun ho
  refine ⟨a, c, w', hrun, ?_, ((Keep.refl No w).alloc _).then hk fun k hk hg => ?_⟩
  · refine ⟨g', rows, No, ho, hrl, fun i hi hi' => Rd.ofFlat s hf (hr i hi hi'), fun b hb => ⟨?_, fun x => x⟩, fun _ x => x.elim⟩
    have := ho.lt hb
    rcases hg' with rfl | rfl
    · cases hb; exact ⟨Nat.le_refl _, this⟩
    · cases hb; exact ⟨by simp, this⟩
  · simp only [Option.some.injEq] at hg; omega

theorem Tryz.infoByte : (Tryz.prog.info? 5).map (fun i => (i.zero, i.size, i.bytes)) = some (some (.int .u8 0), 1, 1) := by kernel_rfl

theorem Own.plain {s : Sh} {e : TypeId} {w : World} {S : Nat → Prop} {v : Value} {l : List s.T} (h : Own s e w S v l) : PlainV v := by
  obtain ⟨g, rows, T, h1, -⟩ := h
  intro a n c hv
  subst hv
  rcases h1.2 with ⟨-, -, h2⟩ | ⟨b, off, cap, cur, -, h2, -⟩
  · cases h2
  · cases h2; exact ⟨b, off, rfl⟩

/-- a new reader of bytes -/
def NewRdr (T : TypeId) (w : World) (b : Bytes) (e : Ending) (w' : World) : Prop :=
  ∃ B v, e = .returned (.pointer (some ⟨B, 0, none⟩)) ∧ w.heap.size ≤ B ∧ RdrAt T w' B (Fr w.heap.size B) v (Rs.new b) ∧ Keep No w w'

end Go.Proofs.YtfgdnakfikpmpaaGreatDoor

namespace Go.Proofs.YtfgdnakfikpmpaaGreatDoor
set_option linter.unusedVariables false
set_option linter.unusedSimpArgs false
open Go Go.RowKit Go.Deep

/-- bytes of the call's own, since the world w0 -/
def OwnB (w0 w : World) (v : Value) (l : Bytes) : Prop := Own (.int .u8) 5 w (Fr w0.heap.size w.heap.size) v l ∧ Keep No w0 w

theorem flat_rows {w : World} {T : Nat → Prop} (l : Bytes) (h : AllB l) (i : Nat) (hi : i < (l.map fun x => [Value.int .u8 x]).length) (hi' : i < l.length) : Rd (.int .u8) w T (l.map fun x => [Value.int .u8 x])[i] l[i] := by
  have := h l[i] (List.getElem_mem hi')
  refine ⟨by simp, ?_⟩
  simp [Lit.wf, IntKind.min, IntKind.max, IntKind.signed, IntKind.bits]
  omega
theorem flat_flatten (l : Bytes) : (l.map fun x => [Value.int .u8 x]).flatten = l.map (Value.int .u8) := by
  induction l with
  | nil => rfl
  | cons x l ih => simp [ih]

theorem app_src {w0 w w1 : World} {v : Value} {l : Bytes} (h : OwnB w0 w v l) (hk : Keep No w w1) {u : TypeId} {x : Value} {xs : Bytes} (hs : Src Tryz.prog 1 u x xs.length (xs.map (Value.int .u8)) w1) (hx : AllB xs) (hl : l.length + xs.length ≤ 140737488355328) :
    ∃ a c w', (Builtin.append_ #[123, u] 123 #[v, x]).run Tryz.prog w1 = .ok (.slice a (l.length + xs.length) c) w' ∧ OwnB w0 w' (.slice a (l.length + xs.length) c) (l ++ xs) := by
  obtain ⟨i0, hi, hz0, hz1, hz2⟩ := info_parts Tryz.infoByte
  obtain ⟨ho, hk0⟩ := h
  have ho := ho.agree (k := hk.agreeNo)
  obtain ⟨g, rows, T, h1, h2, h3, h4, h5⟩ := ho
  have hxr := flat_flatten xs
  have hk1 : Keep No w0 w1 := hk0.trans hk
  obtain ⟨a, c, w', g', hr, ho', hg', hk', hsz⟩ := own_append h1 123 u 123 i0 _ 1 Tryz.underlying123 hi hz0 hz1 hz2 rfl (x := x) (news := xs.map fun x => [Value.int .u8 x]) (by
    rw [List.length_map, hxr]; exact hs) (fun r hr => by obtain ⟨y, -, rfl⟩ := List.mem_map.1 hr; rfl) (by rw [List.length_map, h2]; omega) (by rw [List.length_map, h2]; omega)
  rw [List.length_map, h2] at hr ho'
  have hge := hk1.size
  have hge' := hk.size
  refine ⟨a, c, w', hr, ⟨g', rows ++ xs.map (fun x => [Value.int .u8 x]), No, ho', by simp [h2], fun i hi hi' => ?_, fun b hb => ⟨?_, fun x => x⟩, fun _ x => x.elim⟩, hk1.then hk' fun i hi hg => ?_⟩
  · by_cases hlt : i < rows.length
    · rw [List.getElem_append_left hlt, List.getElem_append_left (by omega)]
      exact Rd.ofFlat _ rfl (h3 i hlt (by omega))
    · simp only [List.length_append, List.length_map] at hi hi'
      have e1 : (rows ++ xs.map fun x => [Value.int .u8 x])[i]'(by simp; omega) = (xs.map fun x => [Value.int .u8 x])[i - rows.length]'(by simp; omega) := List.getElem_append_right (by omega)
      have e2 : (l ++ xs)[i]'(by simp; omega) = xs[i - l.length]'(by omega) := List.getElem_append_right (by omega)
      rw [e1, e2]
      have e3 : xs[i - l.length]'(by omega) = xs[i - rows.length]'(by omega) := by simp only [h2]
      rw [e3]
      exact flat_rows xs hx _ _ _
  · have hlt := ho'.lt hb
    rcases hg' with rfl | rfl
    · exact ⟨(h4 b hb).1.1, hlt⟩
    · cases hb; exact ⟨hge, hlt⟩
  · have := (h4 i hg).1.1
    omega

/-- a single byte, in the variadic call's block -/
theorem app_byte {w0 w : World} {v : Value} {l : Bytes} (h : OwnB w0 w v l) (x : Int) (h0 : 0 ≤ x) (h1 : x < 256) (hl : l.length + 1 ≤ 140737488355328) :
    ∃ a c w', (Builtin.append_ #[123, 123] 123 #[v, .slice (some ⟨w.heap.size, 0, none⟩) 1 1]).run Tryz.prog (w.alloc (.cells #[.int .u8 x] 5)) = .ok (.slice a (l.length + 1) c) w' ∧ OwnB w0 w' (.slice a (l.length + 1) c) (l ++ [x]) :=
  app_src h ((Keep.refl No w).alloc _) (xs := [x]) (Src.ofBlock Tryz.underlying123 w.heap.size 1 1 #[.int .u8 x] 5 _ (blk_new w _) rfl (fun u hu => by simp at hu; subst hu; rfl)) (AllB.cons h0 h1 .nil) hl
theorem app_text {w0 w : World} {v : Value} {l : Bytes} (h : OwnB w0 w v l) (s : ByteArray) (hl : l.length + s.size ≤ 140737488355328) :
    ∃ a c w', (Builtin.append_ #[123, 9] 123 #[v, .string s]).run Tryz.prog w = .ok (.slice a (l.length + s.size) c) w' ∧ OwnB w0 w' (.slice a (l.length + s.size) c) (l ++ bytesOf s) := by
  have := app_src h (Keep.refl No w) (xs := bytesOf s) (u := 9) (x := .string s) (by
    have := Src.ofString (P := Tryz.prog) w (tx := 9) Tryz.underlying9 s
    rw [bytesOf_length]
    have e : (bytesOf s).map (Value.int .u8) = byteCells s := by simp [bytesOf, byteCells]
    rw [e]; exact this) (bytesOf_allB s) (by rw [bytesOf_length]; exact hl)
  rw [bytesOf_length] at this
  exact this
theorem app_slice {w0 w : World} {v : Value} {l : Bytes} (h : OwnB w0 w v l) {S : Nat → Prop} {u : Value} {xs : Bytes} (hr : Rd bytesSh w S [u] xs) (hl : l.length + xs.length ≤ 140737488355328) :
    ∃ a c w', (Builtin.append_ #[123, 123] 123 #[v, u]).run Tryz.prog w = .ok (.slice a (l.length + xs.length) c) w' ∧ OwnB w0 w' (.slice a (l.length + xs.length) c) (l ++ xs) := by
  refine app_src h (Keep.refl No w) (xs := xs) (u := 123) (x := u) ?_ (bytes_all hr) hl
  obtain ⟨rows, hrl, hrr, hsrc⟩ := Rd.rows hr
  have := hsrc Tryz.prog 123 5 Tryz.underlying123 w (Agree.refl _ _)
  have e : rows.flatten = xs.map (Value.int .u8) := by
    have : rows = xs.map fun x => [Value.int .u8 x] := by
      apply List.ext_getElem (by simp [hrl])
      intro i h1 h2
      have := hrr i h1 (by simpa using h2)
      rw [List.getElem_map]
      exact this.1
    rw [this, flat_flatten]
  rw [e, hrl] at this
  exact this

theorem or128_all : ∀ c : Fin 256, bits BinOp.or .u8 ((c.val : Nat) : Int) 128 = ((c.val % 128 + 128 : Nat) : Int) := by decide +kernel
theorem or128 (n : Nat) : bits BinOp.or .u8 (IntKind.u8.wrap (n : Int)) 128 = ((n % 128 + 128 : Nat) : Int) := by
  have e : IntKind.u8.wrap (n : Int) = ((n % 256 : Nat) : Int) := by rw [IntKind.wrap_u8]; omega
  rw [e, or128_all ⟨n % 256, Nat.mod_lt _ (by omega)⟩]
  show ((n % 256 % 128 + 128 : Nat) : Int) = _
  congr 1; omega

end Go.Proofs.YtfgdnakfikpmpaaGreatDoor

namespace Go.Proofs.YtfgdnakfikpmpaaGreatDoor
set_option linter.unusedVariables false
set_option linter.unusedSimpArgs false
open Go Go.RowKit Go.Deep

theorem clone_bytesApp (w : World) (S : Nat → Prop) (v : Value) (l : Bytes) (h : Rd bytesSh w S [v] l) (hl : l.length ≤ 140737488355328) :
    ∃ a c w', (Builtin.append_ #[123, 123] 123 #[.slice (some ⟨w.heap.size, 0, none⟩) 0 0, v]).run Tryz.prog (w.alloc (.cells #[] 5)) = .ok (.slice a l.length c) w' ∧ OwnB w w' (.slice a l.length c) l := by
  obtain ⟨i0, hi, hz0, hz1, hz2⟩ := info_parts Tryz.infoByte
  obtain ⟨a', c', w', hrun, ho, hk⟩ := clone_big h rfl 123 5 123 i0 _ 1 Tryz.underlying123 hi hz0 hz1 hz2 rfl hl (by omega)
  exact ⟨a', c', w', hrun, ho, hk⟩
theorem add128 (m : Nat) (h : 128 ≤ m) : (m : Int) % 128 + 128 = ((m % 128 + 128 : Nat) : Int) := by omega

theorem xor_pos (n : Int) (h0 : 0 ≤ n) (h1 : n ≤ 9223372036854775807) : bits BinOp.xor IntKind.u64 (n * 2) (n / 9223372036854775808) = ((zig n : Nat) : Int) := by
  have e1 : n / 9223372036854775808 = ((0 : Nat) : Int) := by omega
  have e2 : n * 2 = ((n * 2).toNat : Int) := by omega
  rw [e1, e2, bits_xor_u64_nat _ _ (by omega) (by omega), Nat.xor_zero]
  unfold zig; rw [if_pos h0]; omega
theorem xor_neg (n : Int) (h0 : -9223372036854775808 ≤ n) (h1 : n < 0) : bits BinOp.xor IntKind.u64 (IntKind.u64.wrap (IntKind.u64.wrap n * 2)) (IntKind.u64.wrap (n / 9223372036854775808)) = ((zig n : Nat) : Int) := by
  have e1 : IntKind.u64.wrap (n / 9223372036854775808) = IntKind.u64.max := by
    have : n / 9223372036854775808 = -1 := by omega
    rw [this, IntKind.wrap_u64]; rfl
  have hz := Go.Lib.zigzag_neg h0 h1
  have hc : ∀ a b : Int, bits BinOp.xor IntKind.u64 a b = bits BinOp.xor IntKind.u64 b a := fun a b => by
    show IntKind.u64.wrap ((BitVec.ofInt 64 a ^^^ BitVec.ofInt 64 b).toNat : Int) = IntKind.u64.wrap ((BitVec.ofInt 64 b ^^^ BitVec.ofInt 64 a).toNat : Int)
    rw [BitVec.xor_comm]
  rw [e1, hc, hz]
  unfold Go.Lib.zigzag zig
  split <;> rename_i h <;> simp <;> omega

/-- bytes of the call's own are given back -/
def Puts (w : World) (x : Bytes) (e : Ending) (w' : World) : Prop := ∃ a n c, e = .returned (.slice a n c) ∧ OwnB w w' (.slice a n c) x
theorem OwnB.len {w0 w : World} {a : Option Addr} {n c : Nat} {x : Bytes} (h : OwnB w0 w (.slice a n c) x) : n = x.length := by
  obtain ⟨a', c', e, -⟩ := h.1.form
  simp only [Value.slice.injEq] at e
  exact e.2.1
theorem OwnB.rd {w0 w : World} {v : Value} {x : Bytes} (h : OwnB w0 w v x) : Rd bytesSh w (Fr w0.heap.size w.heap.size) [v] x := Own.rd h.1
theorem puts_of {w : World} {x : Bytes} {f : FuncId} {args : Array Value} (h : Calls Tryz.prog f args w fun e w' => ∃ a c, e = .returned (.slice a x.length c) ∧ OwnB w w' (.slice a x.length c) x) : Calls Tryz.prog f args w (Puts w x) :=
  h.mono fun e w' ⟨a, c, he, ho⟩ => ⟨a, _, c, he, ho⟩
/-- what a later call lays onto is the call's own too -/
theorem OwnB.then {w0 w w1 : World} {v : Value} {x : Bytes} (h : OwnB w w1 v x) (hk : Keep No w0 w) : OwnB w0 w1 v x :=
  ⟨h.1.mono fun k hk' => ⟨Nat.le_trans hk.size hk'.1, hk'.2⟩, hk.trans h.2⟩

end Go.Proofs.YtfgdnakfikpmpaaGreatDoor

namespace Go.Proofs.YtfgdnakfikpmpaaGreatDoor
set_option linter.unusedVariables false
set_option linter.unusedSimpArgs false
open Go Go.RowKit Go.Deep

theorem num_step (acc k c : Nat) (h : c < 256) (hk : k ≤ 9) (ha : acc < 128 ^ k) (h9 : k = 9 → c ≤ 1) :
    IntKind.u64.wrap ((acc : Int) + IntKind.u64.wrap ((c : Int) % 128 * 2 ^ (7 * k))) = ((acc + c % 128 * 128 ^ k : Nat) : Int) ∧ acc + c % 128 * 128 ^ k < 128 ^ (k + 1) := by
  obtain ⟨-, h2, h3⟩ := uint_step acc k c h hk ha h9
  have e : (2 : Int) ^ (7 * k) = ((128 ^ k : Nat) : Int) := by rw [Int.pow_mul]; norm_cast
  refine ⟨?_, h2⟩
  rw [e, show (c : Int) % 128 = ((c % 128 : Nat) : Int) by omega, ← Int.natCast_mul, wrap_u64_nat _ (by omega), ← Int.natCast_add, wrap_u64_nat _ h3]

end Go.Proofs.YtfgdnakfikpmpaaGreatDoor

namespace Go.Proofs.YtfgdnakfikpmpaaGreatDoor
set_option linter.unusedVariables false
set_option linter.unusedSimpArgs false
open Go Go.RowKit Go.Deep

theorem tail_rd {w : World} {S : Nat → Prop} {b off c : Nat} {l : Bytes} (h : Rd bytesSh w S [.slice (some ⟨b, off, none⟩) l.length c] l) (i : Nat) (hi : i ≤ l.length) :
    Rd bytesSh w S [.slice (if c = i then some ⟨b, off, none⟩ else some ⟨b, off + i, none⟩) (l.length - i) (c - i)] (l.drop i) := by
  have hp := Rd.part h i (l.length - i) (by omega)
  rw [List.take_of_length_le (by simp)] at hp
  simp only [Sh.size, Nat.mul_one] at hp
  split
  · rename_i hc
    obtain ⟨a', c', e1, h1, h2, h3, h4⟩ := h
    simp only [List.cons.injEq, Value.slice.injEq, and_true, true_and] at e1
    obtain ⟨rfl, rfl⟩ := e1
    have hl : i = l.length := by omega
    subst hl
    rw [List.drop_length, Nat.sub_self]
    exact ⟨_, _, rfl, Nat.zero_le _, by omega, fun hh => by (cases hh), fun j hj => absurd hj (Nat.not_lt_zero _)⟩
  · exact hp

/-- a quiet callee, in a region that draws -/
theorem quiet_call {P : Program} {f : FuncId} {args : Array Value} {w : World} {n : Nat} {v : Value} (h : Calls P f args (w.drewN n) fun e w' => e = .returned v ∧ w' = w.drewN n) : Calls P f args (w.drewN n) fun e w' => e = .returned v ∧ ∃ m, w' = w.drewN m :=
  h.mono fun e w' hh => ⟨hh.1, n, hh.2⟩

/-- the slice from the reader's place on -/
def restV (v : Value) (i : Nat) : Value := match v with
  | .slice none _ _ => .slice none 0 0
  | .slice (some a) n c => .slice (if c = i then some a else some (a.add i)) (n - i) (c - i)
  | v => v
end Go.Proofs.YtfgdnakfikpmpaaGreatDoor

namespace Go.Proofs.YtfgdnakfikpmpaaGreatDoor
set_option linter.unusedVariables false
set_option linter.unusedSimpArgs false
open Go Go.RowKit Go.Deep

end Go.Proofs.YtfgdnakfikpmpaaGreatDoor

namespace Go.Proofs.YtfgdnakfikpmpaaGreatDoor
set_option linter.unusedVariables false
set_option linter.unusedSimpArgs false
open Go Go.RowKit Go.Deep

theorem plain_any (c : Int) (w : World) : Calls Tryz.prog 160 #[.int .u8 c] w fun e w' => e = .returned (.bool (plainC c)) ∧ w' = w := by
  unfold plainC
  by_cases h1 : 32 ≤ c
  · by_cases h2 : c ≤ 126
    · go_enter Tryz.func160, Tryz.ntmps160
      go_wp2
      go_ret
      simp [h1, h2]
    · go_enter Tryz.func160, Tryz.ntmps160
      go_wp2
      go_ret
      simp [h1, h2]
  · go_enter Tryz.func160, Tryz.ntmps160
    go_wp2
    go_ret
    simp; omega

theorem bytesOf_get (s : ByteArray) (i : Nat) (h : i < (bytesOf s).length) (h' : i < s.size) : (bytesOf s)[i] = (s[i].toNat : Int) := by
  simp only [bytesOf, List.getElem_map, Array.getElem_toList]; rfl
theorem all_take (l : Bytes) (p : Int → Bool) (k : Nat) (hk : k < l.length) (h : (l.take k).all p = true) : (l.take (k + 1)).all p = p l[k] := by
  rw [List.take_succ_eq_append_getElem hk, List.all_append, h]; simp
theorem all_false (l : Bytes) (p : Int → Bool) (k : Nat) (hk : k < l.length) (h : p l[k] = false) : l.all p = false := by
  rw [Bool.eq_false_iff]; intro hh; rw [List.all_eq_true] at hh; have := hh l[k] (List.getElem_mem hk); rw [h] at this; cases this

set_option maxHeartbeats 1000000 in
theorem printable_any (s : ByteArray) (hs : s.size ≤ 9223372036854775807) (w : World) : Calls Tryz.prog 116 #[.string s] w fun e w' => e = .returned (.bool (plainB s)) ∧ w' = w := by
  go_enter Tryz.func116, Tryz.ntmps116
  go_wp2_with fail
  go_loopw [6] (fun i wr => ∃ k : Nat, k ≤ s.size ∧ i = .int .i64 k ∧ wr = w ∧ ((bytesOf s).take k).all plainC = true) (fun i _ => s.size - (intOf i).toNat)
  case atStart => exact ⟨0, by omega, rfl, rfl, by simp⟩
  case round =>
    obtain ⟨k, hk, rfl, rfl, ha⟩ := hrel
    by_cases hlt : k < s.size
    · have j1 : (k : Int) < s.size := by omega
      have j0 : (0 : Int) ≤ k := by omega
      have hl : k < (bytesOf s).length := by rw [bytesOf_length]; exact hlt
      have hg := bytesOf_get s k hl hlt
      have hc := plain_any (s[k].toNat : Int) wr
      rw [← hg] at hc
      cases hp : plainC (bytesOf s)[k] with
      | true =>
        have hn := all_take _ _ k hl ha
        rw [hp] at hn hc
        rw [hg] at hc
        have HA := Lib.hid hn
        clear hn hp hg ha
        go_wp2_with (go_at_call 160; refine hc.mono ?_; clear hc; rintro e w' ⟨rfl, rfl⟩)
        go_roundw
        case rel => exact ⟨k + 1, by omega, by simp, by first | rfl | trivial, HA⟩
        case measure => simp [intOf]; omega
      | false =>
        have hn := all_false _ _ k hl hp
        rw [hp] at hc
        rw [hg] at hc
        have HA := Lib.hid hn
        clear hn hp hg ha
        go_wp2_with (go_at_call 160; refine hc.mono ?_; clear hc; rintro e w' ⟨rfl, rfl⟩)
        go_ret
        unfold plainB
        rw [show (bytesOf s).all plainC = false from HA]
        exact ⟨rfl, by first | rfl | trivial⟩
    · have j1 : ¬ (k : Int) < s.size := by omega
      have hk2 : k = (bytesOf s).length := by rw [bytesOf_length]; omega
      rw [hk2, List.take_length] at ha
      have HA := Lib.hid ha
      clear ha hk2 hk hlt hs
      go_wp2_with fail
      go_ret
      unfold plainB
      rw [show (bytesOf s).all plainC = true from HA]
      exact ⟨rfl, by first | rfl | trivial⟩

/-- a value that is handed back, in a new block -/
def GivesV (w : World) (x : Val) (e : Ending) (w' : World) : Prop := e = .returned (.agg #[.int .i64 x.kind, .int .i64 x.num, .string x.text]) ∧ Keep No w w'
theorem Of_any (n : Int) (w : World) : Calls Tryz.prog 286 #[.int .i64 n] w (GivesV w (mkVal 1 n noText)) := by
  go_enter Tryz.func286, Tryz.ntmps286
  go_wp2
  refine bodyPost_ret (v := .agg #[.int .i64 1, .int .i64 n, .string noText]) (by simp [results, Tryz.results286, go_sem]; rfl) rfl ⟨rfl, ?_⟩
  exact (Keep.refl _ _).alloc _
theorem Word_any (s : ByteArray) (w : World) : Calls Tryz.prog 283 #[.string s] w (GivesV w (mkVal 2 0 s)) := by
  go_enter Tryz.func283, Tryz.ntmps283
  go_wp2
  refine bodyPost_ret (v := .agg #[.int .i64 2, .int .i64 0, .string s]) (by simp [results, Tryz.results283, go_sem]) rfl ⟨rfl, ?_⟩
  exact (Keep.refl _ _).alloc _
end Go.Proofs.YtfgdnakfikpmpaaGreatDoor

namespace Go.Proofs.YtfgdnakfikpmpaaGreatDoor
set_option linter.unusedVariables false
set_option linter.unusedSimpArgs false
open Go Go.RowKit Go.Deep

/-- may a byte not stand at a name's place? -/
def nameBad (k : Nat) (c : Int) : Bool := decide ((c < 97 ∨ 122 < c) ∧ (k = 0 ∨ (c ≠ 95 ∧ (c < 48 ∨ 57 < c))))
def nameTo (s : ByteArray) (k : Nat) : Prop := ∀ j (hj : j < (bytesOf s).length), j < k → nameBad j (bytesOf s)[j] = false
theorem nameTo_succ {s : ByteArray} {k : Nat} (h : nameTo s k) (hk : k < (bytesOf s).length) (e : nameBad k (bytesOf s)[k] = false) : nameTo s (k + 1) := fun j hj hjk => by
  by_cases hh : j = k
  · subst hh; exact e
  · exact h j hj (by omega)
theorem nameOk_good (s : ByteArray) (h : nameTo s (bytesOf s).length) : nameOk s = (decide (1 ≤ s.size) && decide (s.size ≤ 16)) := by
  have hl := bytesOf_length s
  unfold nameOk
  have h' : ∀ j (hj : j < (bytesOf s).length), nameBad j (bytesOf s)[j] = false := fun j hj => h j hj hj
  clear h
  generalize bytesOf s = l at *
  cases l with
  | nil =>
    have : s.size = 0 := hl.symm
    simp [this]
  | cons c l =>
    have h0 := h' 0 (by simp)
    simp only [List.getElem_cons_zero, nameBad] at h0
    have h0 := of_decide_eq_false h0
    have h0 : ¬ (c < 97 ∨ 122 < c) := fun hh => h0 ⟨hh, .inl trivial⟩
    have h1 : (l.all fun c => (decide (97 ≤ c) && decide (c ≤ 122)) || decide (c = 95) || (decide (48 ≤ c) && decide (c ≤ 57))) = true := by
      rw [List.all_eq_true]
      intro x hx
      obtain ⟨i, hi, rfl⟩ := List.getElem_of_mem hx
      have h2 := h' (i + 1) (by simpa using hi)
      simp only [List.getElem_cons_succ, nameBad] at h2
      have h2 := of_decide_eq_false h2
      simp only [Bool.or_eq_true, Bool.and_eq_true, decide_eq_true_eq]
      omega
    have h3 : decide (97 ≤ c) = true := decide_eq_true (by omega)
    have h4 : decide (c ≤ 122) = true := decide_eq_true (by omega)
    have h5 : decide (1 ≤ s.size) = true := decide_eq_true (by rw [← hl]; simp)
    simp only [h1, h3, h4, h5, Bool.and_self, Bool.true_and]
theorem nameOk_bad (s : ByteArray) (j : Nat) (hj : j < (bytesOf s).length) (h : nameBad j (bytesOf s)[j] = true) : nameOk s = false := by
  unfold nameOk
  generalize bytesOf s = l at *
  cases l with
  | nil => simp at hj
  | cons c l =>
    cases j with
    | zero =>
      simp only [List.getElem_cons_zero, nameBad] at h
      have h := of_decide_eq_true h
      by_cases h3 : 97 ≤ c
      · have h4 : decide (c ≤ 122) = false := decide_eq_false (by omega)
        simp [h4]
      · simp [h3]
    | succ i =>
      simp only [List.getElem_cons_succ, nameBad] at h
      have h := of_decide_eq_true h
      have h1 : (l.all fun c => (decide (97 ≤ c) && decide (c ≤ 122)) || decide (c = 95) || (decide (48 ≤ c) && decide (c ≤ 57))) = false := by
        rw [List.all_eq_false]
        refine ⟨l[i]'(by simpa using hj), List.getElem_mem _, ?_⟩
        simp only [Bool.or_eq_true, Bool.and_eq_true, decide_eq_true_eq]
        omega
      simp only [h1, Bool.and_false, Bool.false_and]
end Go.Proofs.YtfgdnakfikpmpaaGreatDoor

namespace Go.Proofs.YtfgdnakfikpmpaaGreatDoor
set_option linter.unusedVariables false
set_option linter.unusedSimpArgs false
open Go Go.RowKit Go.Deep

set_option maxRecDepth 10000 in
set_option maxHeartbeats 4000000 in
theorem libName_any (s : ByteArray) (hs : s.size ≤ 9223372036854775807) (w : World) : Calls Tryz.prog 44 #[.string s] w fun e w' => e = .returned (.bool (nameOk s)) ∧ w' = w := by
  have hbl := bytesOf_length s
  go_enter Tryz.func44, Tryz.ntmps44
  go_wp2_with fail
  go_loopg [7] s.size (fun g i wr => ∃ k : Nat, k ≤ s.size ∧ g = s.size - k ∧ i = .int .i64 k ∧ wr = w ∧ RowKit.Hid (nameTo s k))
  case atStart => exact ⟨0, by omega, by omega, rfl, rfl, fun _ _ h => absurd h (Nat.not_lt_zero _)⟩
  case round =>
    obtain ⟨k, hk, rfl, rfl, rfl, HN⟩ := hrel
    by_cases hlt : k < s.size
    · have j1 : (k : Int) < s.size := by omega
      have j0 : (0 : Int) ≤ k := by omega
      have j3 : (k : Int) ≤ 9223372036854775806 := by omega
      have hl : k < (bytesOf s).length := by omega
      have hg := bytesOf_get s k hl hlt
      have hr := bytesOf_allB s _ (List.getElem_mem hl)
      have hyes := fun h => nameTo_succ HN.out hl h
      have hno := fun h => nameOk_bad s k hl h
      rw [hg] at hr hyes hno
      generalize hc : (s[k].toNat : Int) = c at hr hyes hno
      have HS := Lib.hid (And.intro hk (And.intro hlt (And.intro hyes hno)))
      have HC := Lib.hid hc
      clear hg hl hs hyes hno hbl hk
      obtain ⟨bad, hbad⟩ : ∃ bad : Bool, bad = nameBad k c := ⟨_, rfl⟩
      have HBD := Lib.hid hbad
      clear hbad
      go_upto_region 5 with fail
      go_cut [35] (fun c wx => c = .bool bad ∧ wx = wr)
      case first =>
        by_cases hz : k = 0
        · subst hz
          have e0 : ((0 : Nat) : Int) = 0 := rfl
          rw [e0]
          go_wp2_with fail
          all_goals
            go_meet
            case rel => exact ⟨by rw [HBD.out]; congr 1; rw [Bool.eq_iff_iff]; simp [nameBad] <;> omega, rfl⟩
        · have hz' : (0 : Int) < k := by omega
          have HZ := Lib.hid hz
          clear hz
          by_cases h95 : c = 95
          · subst h95
            go_wp2_with fail
            all_goals
              go_meet
              case rel => exact ⟨by rw [HBD.out]; have := HZ.out; congr 1; rw [Bool.eq_iff_iff]; simp [nameBad] <;> omega, rfl⟩
          · have h95' : (c == 95) = false := by simpa using h95
            have H95 := Lib.hid h95
            clear h95
            go_wp2_with fail
            all_goals
              go_meet
              case rel => exact ⟨by rw [HBD.out]; have := HZ.out; have := H95.out; congr 1; rw [Bool.eq_iff_iff]; simp [nameBad] <;> omega, rfl⟩
      case rest =>
        obtain ⟨rfl, rfl⟩ := hcut
        cases bad with
        | true =>
          go_wp2_with fail
          go_ret
          have := HS.out.2.2.2 HBD.out.symm
          rw [this]
          exact ⟨rfl, by first | rfl | trivial⟩
        | false =>
          go_wp2_with fail
          go_roundg (s.size - (k + 1))
          case measure => have := HS.out.2.1; omega
          case rel => exact ⟨k + 1, by have := HS.out.2.1; omega, rfl, by simp, by first | rfl | trivial, HS.out.2.2.1 HBD.out.symm⟩
    · have hke : k = s.size := by omega
      have j1 : ¬ (k : Int) < s.size := by omega
      have hres := nameOk_good s (by rw [hbl, ← hke]; exact HN.out)
      by_cases h1 : 1 ≤ s.size
      · by_cases h16 : s.size ≤ 16
        · have e : nameOk s = true := by rw [hres, decide_eq_true h1, decide_eq_true h16]; rfl
          have HE := Lib.hid e
          have i1 : (1 : Int) ≤ s.size := by omega
          have i2 : (s.size : Int) ≤ 16 := by omega
          clear e hres hbl hlt hk hke h1 h16
          go_wp2_with fail
          go_ret
          rw [HE.out]
          exact ⟨rfl, by first | rfl | trivial⟩
        · have e : nameOk s = false := by rw [hres, decide_eq_false h16, Bool.and_false]
          have HE := Lib.hid e
          have i1 : (1 : Int) ≤ s.size := by omega
          have i2 : ¬ (s.size : Int) ≤ 16 := by omega
          clear e hres hbl hlt hk hke h1 h16
          go_wp2_with fail
          go_ret
          rw [HE.out]
          exact ⟨rfl, by first | rfl | trivial⟩
      · have e : nameOk s = false := by rw [hres, decide_eq_false h1, Bool.false_and]
        have HE := Lib.hid e
        have i1 : ¬ (1 : Int) ≤ s.size := by omega
        clear e hres hbl hlt hk hke h1
        go_wp2_with fail
        go_ret
        rw [HE.out]
        exact ⟨rfl, by first | rfl | trivial⟩
end Go.Proofs.YtfgdnakfikpmpaaGreatDoor
