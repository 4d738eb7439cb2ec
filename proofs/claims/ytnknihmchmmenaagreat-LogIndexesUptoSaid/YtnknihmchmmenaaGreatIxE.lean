/-
  The program's index: one number more under a key.
-/
import Derived.Test.YtnknihmchmmenaaGreatIxD
namespace Go.Proofs.YtnknihmchmmenaaGreat
open Go Go.RowKit Go.Deep
set_option linter.unusedVariables false
set_option linter.unusedSimpArgs false

/-- a store into a map whose run is known -/
theorem wpList_mapUpdate_run {P : Program} {w : World} {ops : Array Oper} {rest : List Oper} {o : Oper} {a : Act} {Q : Exit → Act → World → Prop}
    (hg : o.guard = none) (m x v : Operand) (t : TypeId) (hop : o.op = Op.mapUpdate t m x v) {mv key val : Value} (hm : a.eval m = mv) (hx : a.eval x = key) (hv : a.eval v = val) {w' : World}
    (hr : (Instr.mapUpdate t mv key val).run P w = .ok () w') (h : wpList P ops Q rest (a.put o.dst undef) w') : wpList P ops Q (o :: rest) a w := by
  refine wpList_plain hg fun K' hK' => ?_
  unfold Oper.wp
  simp [execOp, hop, hm, hx, hv, hr, Result.andThen]
  exact hK' _ _ h

abbrev oneI (x : Int) : Obj := .cells #[.int .i64 x] 2

/-- 'x.m[k] = append(x.m[k], s)' at the j-th map: all that the three steps do -/
theorem IxW.upd {w : World} {B : Nat} {lab : Nat → Nat} {ve : Value} {m : Nat → Nat} {le : List Int} {f : Nat → Lit → List Int} {n : Nat} {D : DataW Unit} (h : IxW w B lab ve m le f n D) (j : Nat) (h1 : 1 ≤ j) (h4 : j ≤ 4) {t : TypeId} (ht : Tryz.prog.underlying t = some (.map (kt j) 93)) (hn : n < maxLen)
    {key : Value} {kl : Lit} (hkey : keyOf Tryz.prog (kt j) key = some kl) (x : Int) (hx : (Lit.int .i64 x).wf = true) {q : Nat} (hq : (f j kl).length = q) (hlen : q + 1 ≤ 1048576) (g : Lit → List Int) (hg : g kl = f j kl ++ [x]) (hg' : ∀ y, y ≠ kl → g y = f j y) :
    ∃ a c a' c' w2 w3, (∀ w', Keep No w w' → (Instr.lookup t (.map (some (m j))) key false).run Tryz.prog w' = .ok (.slice a q c) w') ∧
      (Builtin.append_ #[93, 93] 93 #[.slice a q c, .slice (some ⟨w.heap.size, 0, none⟩) 1 1]).run Tryz.prog (w.alloc (oneI x)) = .ok (.slice a' (q + 1) c') w2 ∧
      (Instr.mapUpdate t (.map (some (m j))) key (.slice a' (q + 1) c')).run Tryz.prog w2 = .ok () w3 ∧
      RowKit.Hid (Keep (fun i => lab i = j) w w2 ∧ Keep (fun i => lab i = j) w w3 ∧ IxW w3 B (relab lab w.heap.size w3.heap.size j) ve m le (fun y => if y = j then g else f y) (n + 1) D) := by
  subst hq
  obtain ⟨a, c, hrun, G, ho, hG, hback⟩ := (h.c j h1 h4).at (kt_key j) ht zeroInts hn hkey
  obtain ⟨i0, hi, hz0, hz1, hz2⟩ := info_parts Tryz.infoI64
  have ka : Keep No w (w.alloc (oneI x)) := (Keep.refl No w).alloc _
  have hone : Rd (.int .i64) (w.alloc (oneI x)) No (#[Value.int .i64 x] : Array Value).toList x := ⟨rfl, hx⟩
  obtain ⟨a', c', w2, hr2, ho2, k2, hs2⟩ := Own.append (s := .int .i64) (S := G) (T := No) (ho.agree ka.agreeNo) 93 93 i0 _ 8 Tryz.underlying93 hi hz0 hz1 hz2 rfl (blk_new w (oneI x)) hone (fun _ _ hn => hn) (by omega) (by omega) 1
  have kw2 : Keep G w w2 := (ka.mono fun _ _ h => h.elim).trans k2
  have hsz : (w.alloc (oneI x)).heap.size = w.heap.size + 1 := by simp
  have hsz2 := k2.size
  obtain ⟨w3, hr3, hm3, k3⟩ := hback w2 (.slice a' ((f j kl).length + 1) c') (fun i => (G i ∨ No i ∨ i = (w.alloc (oneI x)).heap.size) ∧ i < w2.heap.size) g kw2 (hg ▸ ho2.live) hg' (fun i hi => ⟨by rcases hi.1 with h | h | h; exact .inl h; exact h.elim; exact .inr (by omega), hi.2⟩)
  have hlab : ∀ i, G i → lab i = j := fun i hi => (hG i hi).1
  have kw3 : Keep (fun i => lab i = j) w w3 := (kw2.mono fun i _ hi => hlab i hi).then k3 fun i _ e => by
    have : i = m j := e
    rw [this]
    exact (h.c j h1 h4).at_b
  exact ⟨a, c, a', c', w2, w3, hrun, hr2, hr3, kw2.mono fun i _ hi => hlab i hi, kw3, h.step j h1 h4 kw3 hm3⟩
/-- 'x.epochs = append(x.epochs, s)': what the append does -/
theorem IxW.upd0 {w : World} {B : Nat} {lab : Nat → Nat} {ve : Value} {m : Nat → Nat} {le : List Int} {f : Nat → Lit → List Int} {n : Nat} {D : DataW Unit} (h : IxW w B lab ve m le f n D) (x : Int) (hx : (Lit.int .i64 x).wf = true) {q : Nat} (hq : le.length = q) (hlen : q + 1 ≤ 1048576) :
    ∃ a c a' c' w2, ve = .slice a q c ∧
      (Builtin.append_ #[93, 93] 93 #[.slice a q c, .slice (some ⟨w.heap.size, 0, none⟩) 1 1]).run Tryz.prog (w.alloc (oneI x)) = .ok (.slice a' (q + 1) c') w2 ∧
      w2.heap[B]? = some (.cells #[ve, .map (some (m 1)), .map (some (m 2)), .map (some (m 3)), .map (some (m 4)), .map (some (m 5))] 158 (0, 0)) ∧
      RowKit.Hid (Keep (fun i => lab i = 0) w w2 ∧ IxW (w2.setCell ⟨B, 0, none⟩ (.slice a' (q + 1) c')) B (relab lab w.heap.size (w2.setCell ⟨B, 0, none⟩ (.slice a' (q + 1) c')).heap.size 0) (.slice a' (q + 1) c') m (le ++ [x]) f n D ∧ Keep (fun i => lab i = 0 ∨ i = B) w (w2.setCell ⟨B, 0, none⟩ (.slice a' (q + 1) c'))) := by
  subst hq
  obtain ⟨a, c, rfl, -⟩ := h.eps.form
  obtain ⟨i0, hi, hz0, hz1, hz2⟩ := info_parts Tryz.infoI64
  have ka : Keep No w (w.alloc (oneI x)) := (Keep.refl No w).alloc _
  have hone : Rd (.int .i64) (w.alloc (oneI x)) No (#[Value.int .i64 x] : Array Value).toList x := ⟨rfl, hx⟩
  obtain ⟨a', c', w2, hr2, ho2, k2, hs2⟩ := Own.append (s := .int .i64) (S := fun i => lab i = 0) (T := No) (h.eps.agree ka.agreeNo) 93 93 i0 _ 8 Tryz.underlying93 hi hz0 hz1 hz2 rfl (blk_new w (oneI x)) hone (fun _ _ hn => hn) (by omega) (by omega) 1
  have kw2 : Keep (fun i => lab i = 0) w w2 := (ka.mono fun _ _ h => h.elim).trans k2
  have hb2 := kw2.blk h.blk (by rw [h.lB]; omega)
  have ks := keep_set w2 B 0 (.slice a' (le.length + 1) c')
  have hb3 := blk_set hb2 0 (.slice a' (le.length + 1) c')
  have kw3 : Keep (fun i => lab i = 0 ∨ i = B) w (w2.setCell ⟨B, 0, none⟩ (.slice a' (le.length + 1) c')) := (kw2.mono fun i _ hi => .inl hi).then ks fun i _ e => .inr e
  have hsz : (w.alloc (oneI x)).heap.size = w.heap.size + 1 := by simp
  have hsz2 := k2.size
  have hsz3 := ks.size
  have hBw := h.lt B (by rw [h.lB]; omega)
  refine ⟨a, c, a', c', w2, rfl, hr2, hb2, kw2, h.step0 kw3 (by simpa using hb3) ?_, kw3⟩
  have := Own.mono ((ho2.live).agree (ks.agree fun i _ hi e => by
    have hiB : i = B := e
    rcases hi.1 with h' | h' | h'
    · rw [hiB, h.lB] at h'; omega
    · exact h'.elim
    · omega)) (S' := fun i => lab i = 0 ∨ (w.heap.size ≤ i ∧ i < (w2.setCell ⟨B, 0, none⟩ (.slice a' (le.length + 1) c')).heap.size)) fun i hi => by
    rcases hi.1 with h' | h' | h'
    · exact .inl h'
    · exact h'.elim
    · exact .inr ⟨by omega, by have := hi.2; omega⟩
  simpa using this
end Go.Proofs.YtnknihmchmmenaaGreat
