/-
  Parts of what is proved for this claim; each declaration is one of the seat's texts.
-/
import Derived.Test.YtpjcebajkfeacaaGreatDoorBGA
import Derived.Test.YtpjcebajkfeacaaGreatDoorBGB
import Derived.Test.YtpjcebajkfeacaaGreatDoorBGC
import Derived.Test.YtpjcebajkfeacaaGreatDoorBGD
import Derived.Test.YtpjcebajkfeacaaGreatDoorBGI
import Derived.Test.YtpjcebajkfeacaaGreatDoorBGK
import Derived.Test.YtpjcebajkfeacaaGreatDoorBGM
import Derived.Still
import Derived.StillTactics
import Derived.WalkKit
import Derived.Recover
import Derived.Defers
import Derived.Deep.QuietTactic
import Derived.BigQuiet
import Derived.Handy
import Derived.Laws.Bits64b
import Derived.Lib.Zigzag
import Derived.OwnWalk
import Derived.Deep.DeepCutAuto
import Derived.Lib.Bytealg
import Derived.Laws.Externs
import Derived.Laws.CopyRow
import Derived.Laws.IdiomCopy
set_option linter.unusedVariables false
set_option linter.unusedSimpArgs false
namespace Go.Proofs.YtpjcebajkfeacaaGreatDoor
open Go Go.RowKit Go.Deep
def FpAt (w : World) (S : Nat → Prop) (u v : Value) (f : Fp) : Prop := Rd (.slice .str) w S [u] f.rs ∧ Rd (.slice .str) w S [v] f.ws
theorem FpAt.agree {w w' : World} {S : Nat → Prop} {u v : Value} {f : Fp} (h : FpAt w S u v f) (k : Agree S w w') : FpAt w' S u v f := ⟨h.1.agree _ k, h.2.agree _ k⟩
theorem FpAt.keep {w w' : World} {S : Nat → Prop} {u v : Value} {f : Fp} (h : FpAt w S u v f) (k : Keep No w w') : FpAt w' S u v f := h.agree k.agreeNo
theorem FpAt.mono {w : World} {S T : Nat → Prop} {u v : Value} {f : Fp} (h : FpAt w S u v f) (k : ∀ i, i < w.heap.size → S i → T i) : FpAt w T u v f := ⟨h.1.mono _ k, h.2.mono _ k⟩
def OwnF (w0 w : World) (u v : Value) (f : Fp) : Prop := OwnT w0 w u f.rs ∧ OwnT w0 w v f.ws
theorem OwnF.at' {w0 w : World} {u v : Value} {f : Fp} (h : OwnF w0 w u v f) : FpAt w (Fr w0.heap.size w.heap.size) u v f := ⟨h.1.rd, h.2.rd⟩
def GivesFC (w : World) (x : Fp × Int) (e : Ending) (w' : World) : Prop := ∃ a n c a' n' c', e = .returned (.tuple #[.agg #[.slice a n c, .slice a' n' c'], .int .i64 x.2]) ∧ OwnF w w' (.slice a n c) (.slice a' n' c') x.1 ∧ Keep No w w'
theorem setT_le (l : List ByteArray) : (setT l).length ≤ l.length := setT_len_le l
theorem allT_take (l : List ByteArray) (p : ByteArray → Bool) (k : Nat) (hk : k < l.length) (h : (l.take k).all p = true) : (l.take (k + 1)).all p = p l[k] := by
  rw [List.take_succ_eq_append_getElem hk, List.all_append, h]; simp
theorem allT_false (l : List ByteArray) (p : ByteArray → Bool) (k : Nat) (hk : k < l.length) (h : p l[k] = false) : l.all p = false := by
  rw [List.all_eq_false]; exact ⟨l[k], List.getElem_mem hk, by simp [h]⟩
theorem OwnT.over {w0 w1 w2 w' : World} {v : Value} {x : List ByteArray} {M : Nat → Prop} (h : OwnT w1 w2 v x) (k : Keep M w2 w') (hM : ∀ i, w1.heap.size ≤ i → ¬ M i) (h0 : w0.heap.size ≤ w1.heap.size) (hk : Keep No w0 w') : OwnT w0 w' v x :=
  ⟨(h.1.agree (k.agree fun i _ hf hm => hM i hf.1 hm)).mono fun i hi => ⟨by have := hi.1; omega, by have := hi.2; have := k.size; omega⟩, hk⟩
theorem blk_two {w : World} {b : Nat} {x y : Value} {t : TypeId} (h : w.heap[b]? = some (.cells #[x, y] t (0, 0))) (x' y' : Value) :
    ((w.setCell ⟨b, 0, none⟩ x').setCell ⟨b, 1, none⟩ y').heap[b]? = some (.cells #[x', y'] t (0, 0)) := by
  have := blk_set (blk_set h 0 x') 1 y'
  simpa using this
theorem keep_two (w : World) (b : Nat) (x y : Value) : Keep (One b) w ((w.setCell ⟨b, 0, none⟩ x).setCell ⟨b, 1, none⟩ y) := (keep_set w b 0 x).trans (keep_set _ b 1 y)
theorem Keep.setNew2 {M : Nat → Prop} {a w : World} (h : Keep M a w) {b : Nat} (hb : a.heap.size ≤ b) (x y : Value) :
    Keep M a ((w.setCell ⟨b, 0, none⟩ x).setCell ⟨b, 1, none⟩ y) := (h.setNew (p := ⟨b, 0, none⟩) hb x).setNew (p := ⟨b, 1, none⟩) hb y
theorem OwnT.nil' {w0 w : World} (h : Keep No w0 w) : OwnT w0 w (.slice none 0 0) [] := ⟨Own.nil _ _ _ _, h⟩
end Go.Proofs.YtpjcebajkfeacaaGreatDoor
