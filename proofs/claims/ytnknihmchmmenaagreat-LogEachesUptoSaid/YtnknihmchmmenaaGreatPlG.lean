/-
  The program's log and the document's beside one another: what Append does to both.
-/
import Derived.Test.YtnknihmchmmenaaGreatHB
import Derived.Test.YtnknihmchmmenaaGreatHH
namespace Go.Proofs.YtnknihmchmmenaaGreat
open Go Go.RowKit Go.Deep
set_option linter.unusedVariables false
set_option linter.unusedSimpArgs false

/-- both logs stand, apart from one another, of new blocks, none of them G's -/
def PlayG (w : World) (LB WB : Nat) (x : Lg) (G : Nat → Prop) (wr : World) : Prop :=
  ∃ S T : Nat → Prop, Keep No w wr ∧ LogAt 117 wr LB S x ∧ LogAt 43 wr WB T x ∧ (∀ k, S k → ¬ T k) ∧ (∀ k, S k → w.heap.size ≤ k ∧ ¬ G k) ∧ (∀ k, T k → w.heap.size ≤ k ∧ ¬ G k)
theorem PlayG.keep {w : World} {LB WB : Nat} {x : Lg} {G : Nat → Prop} {wr : World} (h : PlayG w LB WB x G wr) : Keep No w wr := by
  obtain ⟨S, T, h1, -⟩ := h
  exact h1
theorem PlayG.more {w : World} {LB WB : Nat} {x : Lg} {G : Nat → Prop} {wr w' : World} (h : PlayG w LB WB x G wr) (hk : Keep No wr w') : PlayG w LB WB x G w' := by
  obtain ⟨S, T, h1, h2, h3, h4, h5, h6⟩ := h
  exact ⟨S, T, h1.trans hk, h2.agree hk.agreeNo hk.size, h3.agree hk.agreeNo hk.size, h4, h5, h6⟩
theorem PlayG.logs {w : World} {LB WB : Nat} {x : Lg} {G : Nat → Prop} {wr : World} (h : PlayG w LB WB x G wr) : ∃ S T, LogAt 117 wr LB S x ∧ LogAt 43 wr WB T x := by
  obtain ⟨S, T, h1, h2, h3, -⟩ := h
  exact ⟨S, T, h2, h3⟩
/-- what lies in G's blocks may turn -/
theorem PlayG.spoil {w : World} {LB WB : Nat} {x : Lg} {G : Nat → Prop} {wr w' : World} (h : PlayG w LB WB x G wr) (hG : ∀ k, G k → w.heap.size ≤ k) (hk : Keep G wr w') : PlayG w LB WB x No w' := by
  obtain ⟨S, T, h1, h2, h3, h4, h5, h6⟩ := h
  exact ⟨S, T, h1.then hk fun i hi hg => by have := hG i hg; omega, h2.agree (hk.agree fun i _ hi => (h5 i hi).2) hk.size, h3.agree (hk.agree fun i _ hi => (h6 i hi).2) hk.size, h4, fun k hk => ⟨(h5 k hk).1, fun x => x⟩, fun k hk => ⟨(h6 k hk).1, fun x => x⟩⟩
/-- behind the program's Append, ahead of the document's -/
def Play1 (w : World) (LB WB : Nat) (x x2 : Lg) (G : Nat → Prop) (w3 wr : World) : Prop :=
  ∃ S T : Nat → Prop, Keep No w wr ∧ LogAt 117 wr LB S x2 ∧ LogAt 43 wr WB T x ∧ (∀ k, S k → ¬ T k) ∧ (∀ k, S k → w.heap.size ≤ k ∧ ¬ G k) ∧ (∀ k, T k → w.heap.size ≤ k ∧ ¬ G k) ∧ Keep (fun k => w.heap.size ≤ k ∧ ¬ G k) w3 wr

theorem play_append1 {w wr w3 : World} {LB WB : Nat} {x : Lg} (h : PlayG w LB WB x No wr) (hk : Keep No wr w3) (hx : x.l.length ≤ 65536) (ep : Int) (hwe : (Lit.int .i64 ep).wf = true) {u : Value} {ps : List Plan} (hu : Rd (.slice planSh) w3 (Fr wr.heap.size w3.heap.size) [u] ps) (hok : PlansOk ps) (hm : ps.length ≤ 4611686018427387904) :
    Calls Tryz.prog 14 #[.pointer (some ⟨LB, 0, none⟩), .int .i64 ep, u] w3 fun e w' => e = .returned (.tuple #[.int .i64 (x.append ep ps).1.n, .int .i64 (x.append ep ps).1.err, .int .i64 (x.append ep ps).1.at']) ∧ RowKit.Hid (Play1 w LB WB x (x.append ep ps).2 (Fr wr.heap.size w3.heap.size) w3 w') := by
  obtain ⟨S, T, h1, h2, h3, h4, h5, h6⟩ := h
  have hS : ∀ k, S k → k < wr.heap.size := by obtain ⟨ov, SO, -, -, -, -, -, h⟩ := h2; exact h
  have hT : ∀ k, T k → k < wr.heap.size := by obtain ⟨ov, SO, -, -, -, -, -, h⟩ := h3; exact h
  have hsz := hk.size
  have hs0 := h1.size
  refine (logAppend_any w3 LB S _ x (h2.agree hk.agreeNo hk.size) hx ep hwe u ps hu (fun k hk hs => by have := hS k hs; have := hk.1; omega) hok hm).mono ?_
  rintro e w' ⟨rfl, S', g1, g2, g3⟩
  have hg := g3.size
  refine ⟨rfl, S', T, (h1.trans hk).then g3 fun i hi hs => by have := (h5 i hs).1; omega, g1, (h3.agree hk.agreeNo hk.size).agree (g3.agree fun i _ hi hs => h4 i hs hi) g3.size, fun k hs ht => ?_, fun k hs => ?_, fun k ht => ⟨(h6 k ht).1, fun hf => by have := hT k ht; have := hf.1; omega⟩, g3.mono fun i hi hs => ⟨(h5 i hs).1, fun hf => by have := hS i hs; have := hf.1; omega⟩⟩
  · rcases g2 k hs with hs | hs
    · exact h4 k hs ht
    · have := hT k ht; omega
  · rcases g2 k hs with hs | hs
    · exact ⟨(h5 k hs).1, fun hf => by have := hS k hs; have := hf.1; omega⟩
    · exact ⟨by omega, fun hf => by have := hf.2; omega⟩

theorem play_append2 {w w3 w4 : World} {LB WB : Nat} {x x2 : Lg} {G : Nat → Prop} (h : Play1 w LB WB x x2 G w3 w4) (hG : ∀ k, G k → k < w4.heap.size) (hx : x.l.length ≤ 65536) (ep : Int) (hwe : (Lit.int .i64 ep).wf = true) {v : Value} {ps : List Plan} (hv : Rd (.slice planSh) w (Lt w.heap.size) [v] ps) (hok : PlansOk ps) (hm : ps.length ≤ 4611686018427387904) (hx2 : (x.append ep ps).2 = x2) :
    Calls Tryz.prog 32 #[.pointer (some ⟨WB, 0, none⟩), .int .i64 ep, v] w4 fun e w' => e = .returned (.tuple #[.int .i64 (x.append ep ps).1.n, .int .i64 (x.append ep ps).1.err, .int .i64 (x.append ep ps).1.at']) ∧ RowKit.Hid (PlayG w LB WB x2 G w' ∧ Keep (fun k => w.heap.size ≤ k ∧ ¬ G k) w3 w') := by
  obtain ⟨S, T, h1, h2, h3, h4, h5, h6, h7⟩ := h
  have hS : ∀ k, S k → k < w4.heap.size := by obtain ⟨ov, SO, -, -, -, -, -, h⟩ := h2; exact h
  have hs0 := h1.size
  refine (rAppend_any w4 WB T _ x h3 hx ep hwe v ps (hv.agree _ h1.agreeNo) (fun k hk ht => by have := (h6 k ht).1; have : k < w.heap.size := hk; omega) hok hm).mono ?_
  rintro e w' ⟨rfl, T', g1, g2, g3⟩
  rw [hx2] at g1
  refine ⟨rfl, ⟨S, T', h1.then g3 fun i hi ht => by have := (h6 i ht).1; omega, h2.agree (g3.agree fun i _ hs ht => h4 i hs ht) g3.size, g1, fun k hs ht => ?_, h5, fun k ht => ?_⟩, h7.trans (g3.mono fun i hi ht => h6 i ht)⟩
  · rcases g2 k ht with ht | ht
    · exact h4 k hs ht
    · have := hS k hs; omega
  · rcases g2 k ht with ht | ht
    · exact h6 k ht
    · exact ⟨by omega, fun hg => by have := hG k hg; omega⟩
end Go.Proofs.YtnknihmchmmenaaGreat
