/-
  General laws on a map whose elements are slices of numbers, each in an array of its own.
-/
import Derived.Test.YtnknihmchmmenaaGreatGA
import Derived.Maps.OwnOps
import Derived.Maps.OwnSet
import Derived.Maps.Views
namespace Go.Proofs.YtnknihmchmmenaaGreat
open Go Go.RowKit Go.Deep
set_option linter.unusedVariables false
set_option linter.unusedSimpArgs false

abbrev DV := DataW Value
/-- an element reads as itself -/
def heldR (v : Value) : Option (DV × List MemPlace) := some (.held v, [])

/-- block b is a map of at most n entries; at each key a slice of numbers of its own, all in S, no two in one block -/
def SlMap (P : Program) (te : TypeId) (w : World) (k : TypeId) (S : Nat → Prop) (b n : Nat) (f : Lit → List Int) : Prop :=
  ∃ (D : DV) (F : Lit → Value) (G : Lit → Nat → Prop), w.ownsMap P k heldR b n D ∧ (∀ kl, WideAt.IsKeyLit kl → D.atKey kl (.held (.slice none 0 0)) = .held (F kl)) ∧
    (∀ kl, Own (.int .i64) te w (G kl) (F kl) (f kl)) ∧ (∀ kl kl', kl ≠ kl' → ∀ i, G kl i → ¬ G kl' i) ∧ (∀ kl i, G kl i → S i ∧ i ≠ b ∧ i < w.heap.size) ∧ S b

theorem ownsMap_keep {P : Program} {k : TypeId} {H : Type} {R : Value → Option (DataW H × List MemPlace)} {w w' : World} {b n : Nat} {D : DataW H} {M : Nat → Prop} (h : w.ownsMap P k R b n D) (hk : Keep M w w') (hM : ¬ M b) : w'.ownsMap P k R b n D := by
  obtain ⟨es, clock, h1, h2⟩ := h
  exact ⟨es, clock, (hk.block b (blk_lt h1) hM).trans h1, h2⟩

section
variable {P : Program} {te k t e : TypeId} {w w' : World} {S : Nat → Prop} {b n : Nat} {f : Lit → List Int}

theorem SlMap.keep (h : SlMap P te w k S b n f) {M : Nat → Prop} (hk : Keep M w w') (hM : ∀ i, S i → ¬ M i) : SlMap P te w' k S b n f := by
  obtain ⟨D, F, G, h1, h2, h3, h4, h5, h6⟩ := h
  exact ⟨D, F, G, ownsMap_keep h1 hk (hM b h6), h2, fun kl => (h3 kl).agree (hk.agree fun i _ hi => hM i (h5 kl i hi).1), h4, fun kl i hi => ⟨(h5 kl i hi).1, (h5 kl i hi).2.1, Nat.lt_of_lt_of_le (h5 kl i hi).2.2 hk.size⟩, h6⟩
theorem SlMap.mono (h : SlMap P te w k S b n f) {S' : Nat → Prop} (hS : ∀ i, S i → S' i) {n' : Nat} (hn : n ≤ n') : SlMap P te w k S' b n' f := by
  obtain ⟨D, F, G, h1, h2, h3, h4, h5, h6⟩ := h
  exact ⟨D, F, G, h1.mono hn, h2, h3, h4, fun kl i hi => ⟨hS _ (h5 kl i hi).1, (h5 kl i hi).2⟩, hS _ h6⟩
theorem SlMap.lt (h : SlMap P te w k S b n f) : b < w.heap.size := by
  obtain ⟨D, F, G, h1, -⟩ := h
  exact h1.lt
theorem SlMap.at_b (h : SlMap P te w k S b n f) : S b := by
  obtain ⟨D, F, G, -, -, -, -, -, h6⟩ := h
  exact h6
theorem SlMap.congr (h : SlMap P te w k S b n f) {g : Lit → List Int} (hg : ∀ kl, f kl = g kl) : SlMap P te w k S b n g := by
  obtain rfl : f = g := funext hg
  exact h
theorem SlMap.new (w : World) : SlMap P te (w.alloc (.map #[] 0)) k (One w.heap.size) w.heap.size 0 (fun _ => []) :=
  ⟨.map [], fun _ => .slice none 0 0, fun _ => No, World.ownsMap_made _ _ _ _, fun kl _ => rfl, fun _ => Own.nil _ _ _ _, fun _ _ _ _ h => h.elim, fun _ _ h => h.elim, rfl⟩

/-- 'm[k]': the slice there -/
theorem SlMap.look (h : SlMap P te w k S b n f) (K : Maps.Keyed P k) (ht : P.underlying t = some (.map k e)) (hz : (zeroValue e).run P w = .ok (.slice none 0 0) w) {key : Value} {kl : Lit} (hkey : keyOf P k key = some kl) :
    ∃ a c, (Instr.lookup t (.map (some b)) key false).run P w = .ok (.slice a (f kl).length c) w ∧ ∃ G : Nat → Prop, Own (.int .i64) te w G (.slice a (f kl).length c) (f kl) ∧ (∀ i, G i → S i ∧ i ≠ b) := by
  obtain ⟨D, F, G, h1, h2, h3, h4, h5, h6⟩ := h
  obtain ⟨v, ps, hrun, hv⟩ := h1.lookup K ht hz (zd := .held (.slice none 0 0)) rfl hkey
  rw [h2 kl (K.key hkey)] at hv
  simp only [heldR, Option.some.injEq, Prod.mk.injEq, DataW.held.injEq] at hv
  obtain ⟨rfl, -⟩ := hv
  obtain ⟨a, c, e1, -⟩ := (h3 kl).form
  rw [e1] at hrun
  exact ⟨a, c, hrun, G kl, e1 ▸ h3 kl, fun i hi => ⟨(h5 kl i hi).1, (h5 kl i hi).2.1⟩⟩

/-- 'm[k] = append(m[k], x)': the slice there, and what the store makes of the map -/
theorem SlMap.at (h : SlMap P te w k S b n f) (K : Maps.Keyed P k) (ht : P.underlying t = some (.map k e)) (hz : ∀ w', (zeroValue e).run P w' = .ok (.slice none 0 0) w') (hn : n < maxLen) {key : Value} {kl : Lit} (hkey : keyOf P k key = some kl) :
    ∃ a c, (∀ w', Keep No w w' → (Instr.lookup t (.map (some b)) key false).run P w' = .ok (.slice a (f kl).length c) w') ∧ ∃ G : Nat → Prop, Own (.int .i64) te w G (.slice a (f kl).length c) (f kl) ∧ (∀ i, G i → S i ∧ i ≠ b ∧ i < w.heap.size) ∧
      ∀ (w1 : World) (v' : Value) (G' : Nat → Prop) (g : Lit → List Int), Keep G w w1 → Own (.int .i64) te w1 G' v' (g kl) → (∀ x, x ≠ kl → g x = f x) → (∀ i, G' i → (G i ∨ w.heap.size ≤ i) ∧ i < w1.heap.size) →
        ∃ w2, (Instr.mapUpdate t (.map (some b)) key v').run P w1 = .ok () w2 ∧ SlMap P te w2 k (fun i => S i ∨ (w.heap.size ≤ i ∧ i < w2.heap.size)) b (n + 1) g ∧ Keep (One b) w1 w2 := by
  classical
  obtain ⟨D, F, G, h1, h2, h3, h4, h5, h6⟩ := h
  have hkl := K.key hkey
  obtain ⟨a, c, e1, -⟩ := (h3 kl).form
  have hrun : ∀ w', Keep No w w' → (Instr.lookup t (.map (some b)) key false).run P w' = .ok (.slice a (f kl).length c) w' := fun w' hk' => by
    obtain ⟨v, ps, hrun, hv⟩ := (ownsMap_keep h1 hk' (fun x => x)).lookup K ht (hz w') (zd := .held (.slice none 0 0)) rfl hkey
    rw [h2 kl hkl] at hv
    simp only [heldR, Option.some.injEq, Prod.mk.injEq, DataW.held.injEq] at hv
    obtain ⟨rfl, -⟩ := hv
    rw [e1] at hrun
    exact hrun
  refine ⟨a, c, hrun, G kl, e1 ▸ h3 kl, h5 kl, fun w1 v' G' g hk ho hg hG' => ?_⟩
  have hb := h1.lt
  have h1' := ownsMap_keep h1 hk fun hg => (h5 kl b hg).2.1 rfl
  obtain ⟨w2, hr2, ho2, hg2⟩ := h1'.update K ht hn hkey (val := v') (d := .held v') rfl
  have k2 : Keep (One b) w1 w2 := (Keep.grown hg2).mono fun i _ hi => Option.some.inj hi
  have hs1 := hk.size
  have hs2 := k2.size
  have hGb : ∀ i, G' i → i ≠ b := fun i hi e => by
    subst e
    rcases (hG' i hi).1 with hh | hh
    · exact (h5 kl i hh).2.1 rfl
    · omega
  have hne : ∀ x i, G x i → i ≠ b := fun x i hi => (h5 x i hi).2.1
  refine ⟨w2, hr2, ⟨D.put kl (.held v'), fun x => if x = kl then v' else F x, fun x => if x = kl then G' else G x, ho2, fun x hx => ?_, fun x => ?_, fun x y hxy i hi hi' => ?_, fun x i hi => ?_, .inl h6⟩, k2⟩
  · by_cases e : x = kl
    · subst e
      simp only [if_true]
      rw [Maps.atKey_put_same h1.isMap hkl]
    · simp only [e, if_false]
      rw [Maps.atKey_put_other e, h2 x hx]
  · by_cases e : x = kl
    · subst e
      simp only [if_true]
      exact ho.agree (k2.agree fun i _ hi h => hGb i hi h)
    · simp only [e, if_false]
      rw [hg x e]
      exact ((h3 x).agree (hk.agree fun i _ hi h => h4 x kl e i hi h)).agree (k2.agree fun i _ hi h => hne x i hi h)
  · by_cases e : x = kl
    · simp only [e, if_true] at hi
      by_cases e' : y = kl
      · exact hxy (e.trans e'.symm)
      · simp only [e', if_false] at hi'
        rcases (hG' i hi).1 with hh | hh
        · exact h4 y kl e' i hi' hh
        · have := (h5 y i hi').2.2; omega
    · simp only [e, if_false] at hi
      by_cases e' : y = kl
      · simp only [e', if_true] at hi'
        rcases (hG' i hi').1 with hh | hh
        · exact h4 x kl e i hi hh
        · have := (h5 x i hi).2.2; omega
      · simp only [e', if_false] at hi'
        exact h4 x y hxy i hi hi'
  · by_cases e : x = kl
    · simp only [e, if_true] at hi
      have h7 := hG' i hi
      refine ⟨?_, hGb i hi, by omega⟩
      rcases h7.1 with hh | hh
      · exact .inl (h5 kl i hh).1
      · exact .inr ⟨hh, by omega⟩
    · simp only [e, if_false] at hi
      have h7 := h5 x i hi
      exact ⟨.inl h7.1, h7.2.1, by omega⟩
end
end Go.Proofs.YtnknihmchmmenaaGreat
