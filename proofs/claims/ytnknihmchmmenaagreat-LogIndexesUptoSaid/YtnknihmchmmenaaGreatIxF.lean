/-
  The program's index: what Add makes of it, in plain words; the state of the walk.
-/
import Derived.Test.YtnknihmchmmenaaGreatIxE
import Derived.Test.YtnknihmchmmenaaGreatGD
namespace Go.Proofs.YtnknihmchmmenaaGreat
open Go Go.RowKit Go.Deep
set_option linter.unusedVariables false
set_option linter.unusedSimpArgs false

theorem right_sets {p : Plan} (h : p.right = 0) : p.reads = setT p.reads ∧ p.writes = setT p.writes := by
  unfold Plan.right at h
  split at h
  · rename_i h1; exact absurd h h1
  · split at h
    · omega
    · split at h
      · omega
      · rename_i h3
        have hn : p.fp.normal = true := by simpa using h3
        unfold Fp.normal at hn
        simp only [Bool.and_eq_true, decide_eq_true_eq] at hn
        obtain ⟨⟨h0, h1⟩, h2⟩ := hn
        unfold Fp.norm at h0 h1 h2
        split at h0
        · simp at h0
        · split at h0
          · simp at h0
          · rename_i g1 g2
            rw [if_neg g1, if_neg g2] at h1 h2
            exact ⟨h1.symm, h2.symm⟩

/-- Add, in plain words -/
def addI (l : List Ent) (e : Ent) : Int × List Ent :=
  if e.seq ≠ (l.length : Int) then (122, l) else if e.epoch < 0 ∨ (∃ h : l ≠ [], e.epoch < (l.getLast h).epoch) then (120, l) else if e.plan.right ≠ 0 then (e.plan.right, l) else (0, l ++ [e])

/-- while the keys of a side are gone through: k of them are done -/
def fP (l : List Ent) (sel : Ent → List ByteArray) (ks : List ByteArray) (k : Nat) : Lit → List Int
  | .string bs => idxs (fun e => hasT (sel e) ⟨bs.toArray⟩) 0 l ++ (if hasT (ks.take k) ⟨bs.toArray⟩ then [(l.length : Int)] else [])
  | _ => []
/-- while Add goes on: s of client and name, k3 reads, k4 writes are done -/
def fAdd (l : List Ent) (e : Ent) (s k3 k4 : Nat) (j : Nat) : Lit → List Int :=
  if j = 1 then (if 1 ≤ s then fI (l ++ [e]) 1 else fI l 1) else if j = 2 then (if 2 ≤ s then fI (l ++ [e]) 2 else fI l 2) else if j = 3 then fP l (fun e => e.plan.reads) e.plan.reads k3 else if j = 4 then fP l (fun e => e.plan.writes) e.plan.writes k4 else fun _ => []

theorem text_back (x : ByteArray) : (⟨(x.data.toList).toArray⟩ : ByteArray) = x := by cases x; simp
theorem fI_1 (l : List Ent) (c : Int) : fI l 1 (.int .i64 c) = idxs (fun e => e.plan.client == c) 0 l := by simp [fI]
theorem fI_2 (l : List Ent) (x : ByteArray) : fI l 2 (keyL x) = idxs (fun e => decide (e.plan.name = x)) 0 l := by simp only [keyL, fI, text_back]; simp
theorem fI_3 (l : List Ent) (x : ByteArray) : fI l 3 (keyL x) = idxs (fun e => hasT e.plan.reads x) 0 l := by simp only [keyL, fI, text_back]; simp
theorem fI_4 (l : List Ent) (x : ByteArray) : fI l 4 (keyL x) = idxs (fun e => hasT e.plan.writes x) 0 l := by simp only [keyL, fI, text_back]; simp
theorem fI_len (l : List Ent) (j : Nat) (kl : Lit) : (fI l j kl).length ≤ l.length := by
  unfold fI
  split
  · split
    · exact idxs_len _ _ _
    · simp
  · split
    · exact idxs_len _ _ _
    · split
      · exact idxs_len _ _ _
      · split
        · exact idxs_len _ _ _
        · simp
  · simp
theorem fI_sorted (l : List Ent) (j : Nat) (kl : Lit) : (fI l j kl).Pairwise (· < ·) := by
  unfold fI
  split
  · split
    · exact idxs_sorted _ _ _
    · exact List.Pairwise.nil
  · split
    · exact idxs_sorted _ _ _
    · split
      · exact idxs_sorted _ _ _
      · split
        · exact idxs_sorted _ _ _
        · exact List.Pairwise.nil
  · exact List.Pairwise.nil

theorem fI_snoc1 (l : List Ent) (e : Ent) : fI (l ++ [e]) 1 (.int .i64 e.plan.client) = fI l 1 (.int .i64 e.plan.client) ++ [(l.length : Int)] ∧ ∀ y, y ≠ .int .i64 e.plan.client → fI (l ++ [e]) 1 y = fI l 1 y := by
  refine ⟨by rw [fI_1, fI_1, idxs_snoc]; simp, fun y hy => ?_⟩
  unfold fI
  split
  · rename_i c
    rw [if_pos rfl, if_pos rfl, idxs_snoc, if_neg (fun h => hy (by rw [eq_of_beq h])), List.append_nil]
  · rfl
  · rfl
theorem fI_snoc2 (l : List Ent) (e : Ent) : fI (l ++ [e]) 2 (keyL e.plan.name) = fI l 2 (keyL e.plan.name) ++ [(l.length : Int)] ∧ ∀ y, y ≠ keyL e.plan.name → fI (l ++ [e]) 2 y = fI l 2 y := by
  refine ⟨by rw [fI_2, fI_2, idxs_snoc]; simp, fun y hy => ?_⟩
  unfold fI
  split
  · rfl
  · rename_i bs
    rw [if_pos rfl, if_pos rfl, idxs_snoc, if_neg (fun h => hy (by rw [of_decide_eq_true h, keyL])), List.append_nil]
  · rfl
theorem hasT_nth (ks : List ByteArray) (k : Nat) (hk : k < ks.length) (x : ByteArray) : hasT (ks.take (k + 1)) x = (hasT (ks.take k) x || decide (ks[k] = x)) := by
  unfold hasT
  rw [List.take_succ_eq_append_getElem hk, List.any_append]
  simp
theorem fP_snoc {l : List Ent} {sel : Ent → List ByteArray} {ks : List ByteArray} {k : Nat} (hk : k < ks.length) (hn : ks.Nodup) :
    fP l sel ks (k + 1) (keyL ks[k]) = fP l sel ks k (keyL ks[k]) ++ [(l.length : Int)] ∧ ∀ y, y ≠ keyL ks[k] → fP l sel ks (k + 1) y = fP l sel ks k y := by
  have hf : hasT (ks.take k) ks[k] = false := by
    rw [Bool.eq_false_iff]
    intro h
    rw [hasT_iff, List.mem_take_iff_getElem] at h
    obtain ⟨i, hi, he⟩ := h
    exact (List.pairwise_iff_getElem.1 hn) i k (by omega) hk (by omega) he
  refine ⟨?_, fun y hy => ?_⟩
  · simp only [keyL, fP, text_back, hasT_nth ks k hk, hf]
    simp
  · unfold fP
    split
    · rename_i bs
      rw [hasT_nth ks k hk]
      have : decide (ks[k] = (⟨bs.toArray⟩ : ByteArray)) = false := by
        simp only [decide_eq_false_iff_not]
        intro h
        exact hy (by rw [h, keyL])
      rw [this, Bool.or_false]
    · rfl
theorem fP_len {l : List Ent} {sel : Ent → List ByteArray} {ks : List ByteArray} {k : Nat} (hk : k < ks.length) (hn : ks.Nodup) : (fP l sel ks k (keyL ks[k])).length ≤ l.length := by
  have hf : hasT (ks.take k) ks[k] = false := by
    rw [Bool.eq_false_iff]
    intro h
    rw [hasT_iff, List.mem_take_iff_getElem] at h
    obtain ⟨i, hi, he⟩ := h
    exact (List.pairwise_iff_getElem.1 hn) i k (by omega) hk (by omega) he
  simp only [keyL, fP, text_back, hf]
  simpa using idxs_len _ _ _
theorem fAdd_start (l : List Ent) (e : Ent) (j : Nat) (h1 : 1 ≤ j) (h4 : j ≤ 4) (kl : Lit) : fI l j kl = fAdd l e 0 0 0 j kl := by
  have hz : ∀ (ks : List ByteArray) (x : ByteArray), hasT (ks.take 0) x = false := fun ks x => rfl
  rcases (show j = 1 ∨ j = 2 ∨ j = 3 ∨ j = 4 by omega) with rfl | rfl | rfl | rfl
  · rfl
  · rfl
  · show fI l 3 kl = fP l _ _ 0 kl
    cases kl with
    | string bs => simp [fI, fP, hasT]
    | int q x => cases q <;> simp [fI, fP]
    | _ => simp [fI, fP]
  · show fI l 4 kl = fP l _ _ 0 kl
    cases kl with
    | string bs => simp [fI, fP, hasT]
    | int q x => cases q <;> simp [fI, fP]
    | _ => simp [fI, fP]
theorem fAdd_end (l : List Ent) (e : Ent) (j : Nat) (h1 : 1 ≤ j) (h4 : j ≤ 4) (kl : Lit) : fAdd l e 2 e.plan.reads.length e.plan.writes.length j kl = fI (l ++ [e]) j kl := by
  rcases (show j = 1 ∨ j = 2 ∨ j = 3 ∨ j = 4 by omega) with rfl | rfl | rfl | rfl
  · rfl
  · rfl
  · show fP l _ _ _ kl = fI (l ++ [e]) 3 kl
    cases kl with
    | string bs =>
      simp only [fI, fP, List.take_length]
      simp only [Nat.reduceEqDiff, if_true, if_false]
      rw [idxs_snoc, Nat.zero_add]
    | int q x => cases q <;> simp [fI, fP]
    | _ => simp [fI, fP]
  · show fP l _ _ _ kl = fI (l ++ [e]) 4 kl
    cases kl with
    | string bs =>
      simp only [fI, fP, List.take_length]
      simp only [Nat.reduceEqDiff, if_true, if_false]
      rw [idxs_snoc, Nat.zero_add]
    | int q x => cases q <;> simp [fI, fP]
    | _ => simp [fI, fP]
theorem rising_nodup {l : List ByteArray} (h : Rising l) : l.Nodup := by
  refine List.Pairwise.imp (R := fun a b => ltT a b = true) ?_ h
  intro a b hab e
  rw [← e] at hab
  exact ltT_irrefl a hab

theorem IxW.congr {w : World} {B : Nat} {lab : Nat → Nat} {ve : Value} {m : Nat → Nat} {le : List Int} {f g : Nat → Lit → List Int} {n : Nat} {D : DataW Unit} (h : IxW w B lab ve m le f n D) (hg : ∀ j, 1 ≤ j → j ≤ 4 → ∀ kl, f j kl = g j kl) : IxW w B lab ve m le g n D :=
  ⟨h.blk, h.eps, fun j h1 h4 => (h.c j h1 h4).congr (hg j h1 h4), h.c5, h.lB, h.l5, h.lt⟩
/-- the map of who asked has turned -/
theorem IxW.updD {w : World} {B : Nat} {lab : Nat → Nat} {ve : Value} {m : Nat → Nat} {le : List Int} {f : Nat → Lit → List Int} {n : Nat} {D : DataW Unit} (h : IxW w B lab ve m le f n D) (hn : n < maxLen) {c t x : Int} (hc : (Lit.int .i64 c).wf = true) (ht : (Lit.int .u64 t).wf = true) (hx : (Lit.int .i64 x).wf = true) :
    ∃ w', (Instr.mapUpdate 156 (.map (some (m 5))) (.agg #[.int .i64 c, .int .u64 t]) (.int .i64 x)).run Tryz.prog w = .ok () w' ∧ RowKit.Hid (Keep (fun i => lab i = 6) w w' ∧ IxW w' B lab ve m le f (n + 1) (D.put (whoL c t) (.lit (.int .i64 x)))) := by
  obtain ⟨w', hr, h1, hg⟩ := h.c5.update whoLaw Tryz.underlying156 hn (keyOf_who hc ht) (plainElem_int Tryz.underlying2 hx)
  have hk : Keep (fun i => lab i = 6) w w' := (Keep.grown hg).mono fun i _ hi => by
    have : i = m 5 := Option.some.inj hi
    rw [this]; exact h.l5
  exact ⟨w', hr, hk, hk.blk h.blk (by rw [h.lB]; omega), h.eps.agree (hk.agree fun i _ hi => by omega), fun j h1 h4 => ((h.c j h1 h4).keep hk fun i hi => by omega).mono (fun _ h => h) (Nat.le_succ _), h1, h.lB, h.l5, fun i hi => Nat.lt_of_lt_of_le (h.lt i hi) hk.size⟩
theorem AskD.snoc {l : List Ent} {D : DataW Unit} (h : AskD l D) (e : Ent) (hc : (Lit.int .i64 e.plan.client).wf = true) (ht : (Lit.int .u64 e.plan.token).wf = true) : AskD (l ++ [e]) (D.put (whoL e.plan.client e.plan.token) (.lit (.int .i64 (l.length : Int)))) := by
  have hkl : WideAt.IsKeyLit (whoL e.plan.client e.plan.token) := trivial
  refine ⟨?_, fun c t wc wt => ?_⟩
  · obtain ⟨es, rfl⟩ := h.1
    exact ⟨_, rfl⟩
  · rw [idxs_snoc]
    by_cases hk : whoL c t = whoL e.plan.client e.plan.token
    · obtain ⟨rfl, rfl⟩ := whoL_inj wc wt hc ht hk
      rw [Maps.has_put_same h.1 hkl, Maps.atKey_put_same h.1 hkl]
      simp
    · rw [Maps.has_put_other hk, Maps.atKey_put_other hk, (h.2 c t wc wt).1, (h.2 c t wc wt).2]
      have hp : (e.plan.client == c && e.plan.token == t) = false := by
        rw [Bool.eq_false_iff]
        intro hh
        simp only [Bool.and_eq_true, beq_iff_eq] at hh
        exact hk (by rw [hh.1, hh.2])
      simp [hp]
end Go.Proofs.YtnknihmchmmenaaGreat
