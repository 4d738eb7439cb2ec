/-
  LogEaches: what holds while the law goes over the log.
-/
import Derived.Test.YtnknihmchmmenaaGreatEaA
import Derived.Test.YtnknihmchmmenaaGreatSqT
import Derived.Test.YtnknihmchmmenaaGreatHK
namespace Go.Proofs.YtnknihmchmmenaaGreat
open Go Go.RowKit Go.Deep
set_option linter.unusedVariables false
set_option linter.unusedSimpArgs false

theorem ea_one {w : World} {m : Nat} {cs : List Value} {p : Plan} (h : Rd planSh w (Up m) cs p) (hm : m ≤ w.heap.size) :
    Rd (.slice planSh) (w.alloc (.cells cs.toArray 38)) (Fr m (w.heap.size + 1)) [.slice (some ⟨w.heap.size, 0, none⟩) 1 1] [p] := by
  refine ⟨some ⟨w.heap.size, 0, none⟩, 1, rfl, Nat.le_refl _, by rw [maxLen_is]; omega, fun h => (by cases h), fun i hi => ?_⟩
  have hi0 : i = 0 := by simp at hi; omega
  subst hi0
  have ka := (Keep.refl No w).alloc (.cells cs.toArray 38)
  refine ⟨w.heap.size, 0, cs, rfl, by simp, ⟨hm, by omega⟩, h.length, ?_, ?_⟩
  · have := RowAt.ofBlock (blk_new w (.cells cs.toArray 38)) 0 cs.length
    simpa using this
  · exact (h.agree _ ka.agreeNo).mono _ (T := Fr m (w.heap.size + 1)) fun i hi hu => ⟨hu, by simpa using hi⟩
theorem keepM_put {M : Nat → Prop} {w W : World} (h : Keep M w W) {L : Nat} (hL : w.heap.size ≤ L) (o : Obj) : Keep M w (W.putObj L o) :=
  ⟨by simp [World.putObj]; exact h.os, by simp [World.putObj]; exact h.tape, by simp [World.putObj]; exact h.output, by simp [World.putObj]; exact h.size, fun k hk hn => (World.putObj_heap_other (by omega)).trans (h.block k hk hn)⟩

/-- ahead of the range: both logs stand, and the law's own variables -/
structure EaBase (w : World) (LB WB b3 b4 b5 b6 Bx b7 b8 : Nat) (S T : Nat → Prop) (x : Lg) (st : Int) (w0 : World) : Prop where
  keep : Keep No w w0
  k3 : w0.heap[b3]? = some (.cells #[.int .i64 st] 3 (0, 0))
  k4 : w0.heap[b4]? = some (.cells #[.bool false] 4 (0, 0))
  k5 : w0.heap[b5]? = some (.cells #[.pointer (some ⟨LB, 0, none⟩)] 23 (0, 0))
  k6 : w0.heap[b6]? = some (.cells #[.pointer (some ⟨WB, 0, none⟩)] 24 (0, 0))
  it : w0.heap[Bx]? = some (.cells #[.pointer (some ⟨LB, 0, none⟩)] 23 (0, 0))
  k7 : w0.heap[b7]? = some (.cells #[.func (.func 59) #[] #[.pointer (some ⟨Bx, 0, none⟩)]] 28 (0, 0))
  k8 : w0.heap[b8]? = some (.cells #[.int .i64 0] 3 (0, 0))
  l1 : LogAt 117 w0 LB S x
  l2 : LogAt 43 w0 WB T x
  dis : ∀ k, S k → ¬ T k
  s : ∀ k, S k → b4 < k ∧ k < b5
  t : ∀ k, T k → b4 < k ∧ k < b5
  o3 : w.heap.size ≤ b3
  o4 : b3 < b4
  o5 : b4 < b5
  o6 : b5 < b6
  ox : b6 < Bx
  o7 : Bx < b7
  o8 : b7 < b8
  o9 : b8 < w0.heap.size

/-- between two rounds -/
structure EaI (w0 : World) (S : Nat → Prop) (b8 : Nat) (st : Int) (av : Option Addr) (N cv : Nat) (l : List Ent) (D k : Nat) (W : World) : Prop where
  keep : Keep (fun i => S i ∨ i = b8) w0 W
  log : (k : Int) ≤ st → Keep (One b8) w0 W
  view : ∃ V : Nat → Prop, Rd (.slice entrySh) W V [.slice av N cv] l ∧ ∀ i, V i → i ≠ b8 ∧ (i < D ∨ D + 2 ≤ i)
  nn : W.heap[b8]? = some (.cells #[.int .i64 k] 3 (0, 0))
  low : D + 2 ≤ W.heap.size
theorem EaI.more {w0 : World} {S : Nat → Prop} {b8 : Nat} {st : Int} {av : Option Addr} {N cv : Nat} {l : List Ent} {D k : Nat} {A C : World} (h : EaI w0 S b8 st av N cv l D k A) (hk : Keep No A C) : EaI w0 S b8 st av N cv l D k C := by
  obtain ⟨V, h1, h2⟩ := h.view
  exact ⟨h.keep.thenNo hk, fun hs => (h.log hs).thenNo hk, ⟨V, h1.agree _ hk.agreeNo, h2⟩, hk.blk h.nn (fun x => x), Nat.le_trans h.low hk.size⟩
theorem EaI.put {w0 : World} {S : Nat → Prop} {b8 : Nat} {st : Int} {av : Option Addr} {N cv : Nat} {l : List Ent} {D k : Nat} {W : World} (h : EaI w0 S b8 st av N cv l D k W) (hD : w0.heap.size = D) (hb : b8 < D) (o : Obj) : EaI w0 S b8 st av N cv l D k (W.putObj (D + 1) o) := by
  obtain ⟨V, h1, h2⟩ := h.view
  exact ⟨keepM_put h.keep (by omega) o, fun hs => keepM_put (h.log hs) (by omega) o, ⟨V, h1.agree _ (agree_put (fun hv => by have := (h2 _ hv).2; omega) o), h2⟩, (World.putObj_heap_other (by omega)).trans h.nn, by rw [size_put]; exact h.low⟩
/-- one round on: the number goes up -/
theorem EaI.step {w0 : World} {S : Nat → Prop} {b8 : Nat} {st : Int} {av : Option Addr} {N cv : Nat} {l : List Ent} {D k : Nat} {W : World} (h1 : Keep (fun i => S i ∨ i = b8) w0 W) (h2 : (k : Int) + 1 ≤ st → Keep (One b8) w0 W)
    (h3 : ∃ V : Nat → Prop, Rd (.slice entrySh) W V [.slice av N cv] l ∧ ∀ i, V i → i ≠ b8 ∧ (i < D ∨ D + 2 ≤ i)) (h4 : W.heap[b8]? = some (.cells #[.int .i64 k] 3 (0, 0))) (h5 : D + 2 ≤ W.heap.size) :
    EaI w0 S b8 st av N cv l D (k + 1) (W.setCell ⟨b8, 0, none⟩ (.int .i64 ((k : Int) + 1))) := by
  obtain ⟨V, g1, g2⟩ := h3
  have ks := keep_set W b8 0 (.int .i64 ((k : Int) + 1))
  refine ⟨h1.then ks fun i _ e => .inr e, fun hs => (h2 (by omega)).then ks fun i _ e => e, ⟨V, g1.agree _ (agree_set (fun hv => (g2 _ hv).1 rfl) _ _), g2⟩, ?_, Nat.le_trans h5 ks.size⟩
  have := blk_set h4 0 (.int .i64 ((k : Int) + 1))
  rw [show ((k + 1 : Nat) : Int) = (k : Int) + 1 by omega]
  simpa using this

/-- where the law appends a plan of its own in between -/
theorem ea_append {w : World} {LB WB b3 b4 b5 b6 Bx b7 b8 : Nat} {S T : Nat → Prop} {x : Lg} {st : Int} {w0 : World} (hB : EaBase w LB WB b3 b4 b5 b6 Bx b7 b8 S T x st w0) (hg : x.Good) (h600 : x.l.length ≤ 600) {av : Option Addr} {cv : Nat} (hv : w0.heap[LB]? = some (.cells #[.slice av x.l.length cv, .int .i64 x.epoch] 117 (0, 0)))
    {W : World} {k : Nat} (hW : Keep (One b8) w0 W) (hn : W.heap[b8]? = some (.cells #[.int .i64 k] 3 (0, 0))) (hlow : w0.heap.size + 2 ≤ W.heap.size) {a : Option Addr} {m c : Nat} (hps : Rd (.slice planSh) W (Up (w0.heap.size + 2)) [.slice a m c] [planP 9]) :
    Calls Tryz.prog 14 #[.pointer (some ⟨LB, 0, none⟩), .int .i64 x.epoch, .slice a m c] W fun e w' => (∃ r1 r2 r3, e = .returned (.tuple #[.int .i64 r1, .int .i64 r2, .int .i64 r3])) ∧
      w'.heap[b8]? = some (.cells #[.int .i64 k] 3 (0, 0)) ∧ RowKit.Hid (Keep S W w' ∧ Keep (fun i => S i ∨ i = b8) w0 w' ∧ (∃ V : Nat → Prop, Rd (.slice entrySh) w' V [.slice av x.l.length cv] x.l ∧ ∀ i, V i → i ≠ b8 ∧ (i < w0.heap.size ∨ w0.heap.size + 2 ≤ i)) ∧ w0.heap.size + 2 ≤ w'.heap.size) := by
  have o5 := hB.o5; have o6 := hB.o6; have ox := hB.ox; have o7 := hB.o7; have o8 := hB.o8; have o9 := hB.o9
  have hS8 : ∀ i, S i → i ≠ b8 ∧ i < w0.heap.size := fun i hi => by have := hB.s i hi; omega
  have hl1 : LogAt 117 W LB S x := hB.l1.agree (hW.agree fun i _ hi e => (hS8 i hi).1 e) hW.size
  have hwf : (Lit.int .i64 x.epoch).wf = true := by obtain ⟨ov, SO, -, -, -, -, h5, -⟩ := hl1; exact h5
  have hLS : S LB := by obtain ⟨ov, SO, -, -, h3, -, -, -⟩ := hl1; exact h3
  refine (logAppend_main2 W LB S _ x hl1 x.epoch hwf a m c [planP 9] hps (fun i hi hs => by have := (hS8 i hs).2; have : w0.heap.size + 2 ≤ i := hi; omega) (fun p hp => by
    simp only [List.mem_cons, List.not_mem_nil, or_false] at hp
    rw [hp]
    exact planP_fit 9) (fun h => h.elim (fun h => by omega) (fun h => by have := hg.ep0; omega)) (by simp; omega)).mono ?_
  rintro e w' ⟨⟨rfl, S', g1, g2, g3⟩, hold⟩
  have hv2 := hold (by simp) av cv (hW.blk hv (fun e => (hS8 _ hLS).1 e))
  refine ⟨⟨_, _, _, rfl⟩, g3.blk hn (fun hs => (hS8 _ hs).1 rfl), g3, (hW.mono fun i _ e => .inr e).then g3 fun i _ hs => .inl hs, ⟨_, hv2, fun i hi => ?_⟩, Nat.le_trans hlow g3.size⟩
  rcases hi.1 with h | h
  · exact ⟨(hS8 i h).1, .inl (hS8 i h).2⟩
  · exact ⟨by omega, .inr (by omega)⟩
end Go.Proofs.YtnknihmchmmenaaGreat
