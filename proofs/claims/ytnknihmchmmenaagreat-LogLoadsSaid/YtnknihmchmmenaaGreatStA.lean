/-
  Does a log tell what the document's does: what holds meanwhile.
-/
import Derived.Test.YtnknihmchmmenaaGreatHJ
import Derived.Test.YtnknihmchmmenaaGreatHK
import Derived.Test.YtnknihmchmmenaaGreatRnN
import Derived.Test.YtnknihmchmmenaaGreatRnJ
import Derived.Test.YtnknihmchmmenaaGreatTaB
namespace Go.Proofs.YtnknihmchmmenaaGreat
open Go Go.RowKit Go.Deep
set_option linter.unusedVariables false
set_option linter.unusedSimpArgs false

theorem lg_bytes_le {x : Lg} (h : x.Good) : x.bytes.length ≤ 140737488355328 := by
  have h1 := framed_all x.l fun e he => (h.ok e he).1
  have h2 := h.len
  have h3 := (uintB_length x.epoch.toNat).2
  have h4 := (uintB_length x.l.length).2
  unfold Lg.bytes
  simp only [List.length_append]
  omega
theorem same_eq_bytes (w : World) (S T : Nat → Prop) (a1 a2 : Option Addr) (n1 c1 n2 c2 : Nat) (b : Bytes) (h1 : Rd bytesSh w S [.slice a1 n1 c1] b) (h2 : Rd bytesSh w T [.slice a2 n2 c2] b) : Calls Tryz.prog 24 #[.slice a1 n1 c1, .slice a2 n2 c2] w fun e w' => e = .returned (.bool true) ∧ w' = w := by
  have e1 := run_string_back (P := Tryz.prog) 53 9 5 a1 c1 n1 Tryz.underlying53 Tryz.underlying5 Tryz.underlying9 h1
  have e2 := run_string_back (P := Tryz.prog) 53 9 5 a2 c2 n2 Tryz.underlying53 Tryz.underlying5 Tryz.underlying9 h2
  clear h1 h2
  generalize textOf b = t at *
  go_enter Tryz.func24, Tryz.ntmps24
  go_wp2_with fail
  go_ret
  exact ⟨by simp, by first | rfl | trivial⟩
theorem from_whole (x : Lg) (s : Int) (hs : s ≤ 0) (n : Nat) (h : x.l.length ≤ n) : x.from' s n = x.l := by
  unfold Lg.from'
  rw [show s.toNat = 0 by omega, List.drop_zero, Int.toNat_natCast, List.take_of_length_le h]

/-- both logs stand, and the function's own two variables -/
structure StAt (w : World) (LB WB b3 b4 : Nat) (S T : Nat → Prop) (x : Lg) (wr : World) : Prop where
  keep : Keep No w wr
  k3 : wr.heap[b3]? = some (.cells #[.pointer (some ⟨WB, 0, none⟩)] 24 (0, 0))
  k4 : wr.heap[b4]? = some (.cells #[.bool false] 4 (0, 0))
  l1 : LogAt 117 wr LB S x
  l2 : LogAt 43 wr WB T x
  w3 : w.heap.size ≤ b3
  w4 : w.heap.size ≤ b4
  m3 : b3 < b4
theorem StAt.more {w : World} {LB WB b3 b4 : Nat} {S T : Nat → Prop} {x : Lg} {wr w' : World} (h : StAt w LB WB b3 b4 S T x wr) (hk : Keep No wr w') : StAt w LB WB b3 b4 S T x w' :=
  ⟨h.keep.trans hk, hk.blk h.k3 (fun x => x), hk.blk h.k4 (fun x => x), h.l1.agree hk.agreeNo hk.size, h.l2.agree hk.agreeNo hk.size, h.w3, h.w4, h.m3⟩
/-- what lies from m on may turn -/
theorem StAt.over {w : World} {LB WB b3 b4 m : Nat} {S T : Nat → Prop} {x : Lg} {wr w' : World} (h : StAt w LB WB b3 b4 S T x wr) (hm : b4 < m) (hw : w.heap.size ≤ m) (hS : ∀ k, S k → k < m) (hT : ∀ k, T k → k < m) (hk : Keep (Up m) wr w') : StAt w LB WB b3 b4 S T x w' := by
  have h3 := h.m3
  exact ⟨h.keep.then hk fun i hi hu => by have : m ≤ i := hu; omega, hk.blk h.k3 (fun hu => by have : m ≤ b3 := hu; omega), hk.blk h.k4 (fun hu => by have : m ≤ b4 := hu; omega),
    h.l1.agree (hk.agree fun i _ hi hu => by have := hS i hi; have : m ≤ i := hu; omega) hk.size, h.l2.agree (hk.agree fun i _ hi hu => by have := hT i hi; have : m ≤ i := hu; omega) hk.size, h.w3, h.w4, h.m3⟩
theorem StAt.cellW {w : World} {LB WB b3 b4 : Nat} {S T : Nat → Prop} {x : Lg} {wr : World} (h : StAt w LB WB b3 b4 S T x wr) : ∃ a c, wr.heap[WB]? = some (.cells #[.slice a x.l.length c, .int .i64 x.epoch] 43 (0, 0)) ∧ Rd (.slice entrySh) wr T [.slice a x.l.length c] x.l := by
  obtain ⟨ov, SO, h1, h2, h3, h4, h5, h6⟩ := h.l2
  obtain ⟨a1, d1, rfl, _⟩ := h2.form
  exact ⟨a1, d1, h1, h2.rd.mono _ fun i _ hi => (h4 i hi).1⟩
end Go.Proofs.YtnknihmchmmenaaGreat
