/-
  The program's index: the map of who asked; Find. In plain words: what an index tells.
-/
import Derived.Test.YtnknihmchmmenaaGreatIxC
import Derived.DeepKeys5
namespace Go.Proofs.YtnknihmchmmenaaGreat
open Go Go.RowKit Go.Deep
set_option linter.unusedVariables false
set_option linter.unusedSimpArgs false

theorem whoLaw : Maps.Keyed Tryz.prog 160 := Maps.Keyed.of_law (deep_law_laid (by kernel_rfl) (m := 9) (by omega) (of_decide_eq_true (by kernel_rfl)) (by kernel_rfl) (by kernel_rfl))
theorem whoTop : Tryz.prog.keyType 160 = true := by kernel_rfl
theorem whoCells : Tryz.prog.cellsOf 160 = 2 := by kernel_rfl
theorem whoSize : ∃ m, Tryz.prog.types.size = m + 1 + 1 := ⟨Tryz.prog.types.size - 2, by kernel_rfl⟩

def whoL (c t : Int) : Lit := .string (keyBytes [.int .i64 c, .int .u64 t])
theorem keyOf_who {c t : Int} (hc : (Lit.int .i64 c).wf = true) (ht : (Lit.int .u64 t).wf = true) : keyOf Tryz.prog 160 (.agg #[.int .i64 c, .int .u64 t]) = some (whoL c t) := by
  unfold keyOf
  rw [Tryz.underlying160]
  simp only []
  rw [if_pos (by simp [whoTop, Value.formed, Tryz.underlying160, whoCells])]
  obtain ⟨m, hm⟩ := whoSize
  rw [hm]
  have e1 : ∀ d, Tryz.prog.keyLits (d + 1) 3 [.int .i64 c] = some [.int .i64 c] := fun d => by
    unfold Program.keyLits
    simp [Tryz.underlying3, hc]
  have e2 : ∀ d, Tryz.prog.keyLits (d + 1) 30 [.int .u64 t] = some [.int .u64 t] := fun d => by
    unfold Program.keyLits
    simp [Tryz.underlying30, ht]
  have c1 : Tryz.prog.cellsOf 3 = 1 := by kernel_rfl
  have c2 : Tryz.prog.cellsOf 30 = 1 := by kernel_rfl
  have e3 : Tryz.prog.keyLits (m + 1 + 1 + 1) 160 [.int .i64 c, .int .u64 t] = some [.int .i64 c, .int .u64 t] := by
    unfold Program.keyLits
    simp only [Tryz.underlying160]
    rw [if_pos ⟨by rw [whoCells]; rfl, by simp⟩]
    simp only [List.mapM_cons, List.mapM_nil, c1, c2, List.drop_zero, List.take_succ_cons, List.take_zero, List.drop_succ_cons, e1, e2]
    rfl
  show Option.map _ (Tryz.prog.keyLits (m + 1 + 1 + 1) 160 [.int .i64 c, .int .u64 t]) = _
  rw [e3]
  rfl
theorem whoL_inj {c t c' t' : Int} (hc : (Lit.int .i64 c).wf = true) (ht : (Lit.int .u64 t).wf = true) (hc' : (Lit.int .i64 c').wf = true) (ht' : (Lit.int .u64 t').wf = true) (h : whoL c t = whoL c' t') : c = c' ∧ t = t' := by
  have := whoLaw.inj (keyOf_who hc ht) (h ▸ keyOf_who hc' ht')
  simp at this
  exact this

theorem zeroI64 (w : World) : (zeroValue 2).run Tryz.prog w = .ok (.int .i64 0) w := by kernel_rfl

/-- who asked, and last when -/
def GivesFind (w : World) (D : DataW Unit) (c t : Int) (e : Ending) (w' : World) : Prop := ∃ k, D.atKey (whoL c t) (.lit (.int .i64 0)) = .lit (.int .i64 k) ∧ w' = w ∧ e = .returned (.tuple #[.int .i64 k, .bool (Maps.has D (whoL c t))])
theorem ixFind_any {w : World} {B : Nat} {lab : Nat → Nat} {ve : Value} {m : Nat → Nat} {le : List Int} {f : Nat → Lit → List Int} {n : Nat} {D : DataW Unit} (h : IxW w B lab ve m le f n D) (c t : Int) (hc : (Lit.int .i64 c).wf = true) (ht : (Lit.int .u64 t).wf = true) :
    Calls Tryz.prog 53 #[.pointer (some ⟨B, 0, none⟩), .int .i64 c, .int .u64 t] w (GivesFind w D c t) := by
  have c0 := blk_cell h.blk
  obtain ⟨v, ps, hrun, hv⟩ := h.c5.look_ok whoLaw Tryz.underlying156 (zeroI64 w) (zd := .lit (.int .i64 0)) (zp := []) (plainElem_int Tryz.underlying2 (by decide)) (keyOf_who hc ht)
  obtain ⟨k, rfl, hk, hwk⟩ := plainElem_int_inv Tryz.underlying2 hv
  have HK := Lib.hid (congrArg Prod.fst hk)
  clear hv hk hwk h hc ht
  obtain ⟨b, hb⟩ : ∃ b, Maps.has D (whoL c t) = b := ⟨_, rfl⟩
  rw [hb] at hrun
  have HB := Lib.hid hb
  clear hb
  go_enter Tryz.func53, Tryz.ntmps53
  go_wp2_with fail
  exact bodyPost_ret (v := .tuple #[.int .i64 k, .bool b]) (by simp [results, Tryz.results53, go_sem]) rfl ⟨k, HK.out, rfl, by rw [HB.out]⟩

/-! what an index tells, in plain words -/

/-- the numbers of the entries that have something -/
def idxs (p : Ent → Bool) : Nat → List Ent → List Int
  | _, [] => []
  | n, e :: l => if p e then (n : Int) :: idxs p (n + 1) l else idxs p (n + 1) l
theorem idxs_snoc (p : Ent → Bool) : ∀ (n : Nat) (l : List Ent) (e : Ent), idxs p n (l ++ [e]) = idxs p n l ++ (if p e then [((n + l.length : Nat) : Int)] else [])
  | n, [], e => by simp [idxs]
  | n, x :: l, e => by
    have h := idxs_snoc p (n + 1) l e
    rw [show n + 1 + l.length = n + (l.length + 1) by omega] at h
    simp only [List.cons_append, idxs, h, List.length_cons]
    split <;> simp
theorem idxs_len (p : Ent → Bool) : ∀ (n : Nat) (l : List Ent), (idxs p n l).length ≤ l.length
  | _, [] => Nat.le_refl _
  | n, x :: l => by
    have := idxs_len p (n + 1) l
    unfold idxs
    split
    · simp; omega
    · simp; omega
theorem idxs_mem (p : Ent → Bool) : ∀ (n : Nat) (l : List Ent) (k : Int), k ∈ idxs p n l ↔ ∃ i, ∃ h : i < l.length, k = ((n + i : Nat) : Int) ∧ p l[i] = true
  | n, [], k => by simp [idxs]
  | n, x :: l, k => by
    have ih := idxs_mem p (n + 1) l k
    have hc : k ∈ idxs p n (x :: l) ↔ (k = (n : Int) ∧ p x = true) ∨ k ∈ idxs p (n + 1) l := by
      by_cases hp : p x = true
      · rw [idxs, if_pos hp]
        simp [hp]
      · rw [idxs, if_neg hp]
        simp [hp]
    rw [hc, ih]
    constructor
    · rintro (⟨rfl, hp⟩ | ⟨i, hi, rfl, hp⟩)
      · exact ⟨0, by simp, by simp, by simpa using hp⟩
      · exact ⟨i + 1, by simp; omega, by omega, by simpa using hp⟩
    · rintro ⟨i, hi, rfl, hp⟩
      cases i with
      | zero => exact .inl ⟨by simp, by simpa using hp⟩
      | succ i => exact .inr ⟨i, by simp at hi; omega, by omega, by simpa using hp⟩
theorem idxs_sorted (p : Ent → Bool) : ∀ (n : Nat) (l : List Ent), (idxs p n l).Pairwise (· < ·)
  | _, [] => List.Pairwise.nil
  | n, x :: l => by
    have ih := idxs_sorted p (n + 1) l
    unfold idxs
    split
    · refine List.pairwise_cons.2 ⟨fun k hk => ?_, ih⟩
      obtain ⟨i, -, rfl, -⟩ := (idxs_mem p (n + 1) l k).1 hk
      omega
    · exact ih

/-- what the four maps tell -/
def fI (l : List Ent) (j : Nat) : Lit → List Int
  | .int .i64 c => if j = 1 then idxs (fun e => e.plan.client == c) 0 l else []
  | .string bs => if j = 2 then idxs (fun e => decide (e.plan.name = ⟨bs.toArray⟩)) 0 l else if j = 3 then idxs (fun e => hasT e.plan.reads ⟨bs.toArray⟩) 0 l else if j = 4 then idxs (fun e => hasT e.plan.writes ⟨bs.toArray⟩) 0 l else []
  | _ => []
/-- .. and the map of who asked -/
def AskD (l : List Ent) (D : DataW Unit) : Prop := Maps.IsMap D ∧ ∀ c t, (Lit.int .i64 c).wf = true → (Lit.int .u64 t).wf = true →
  (Maps.has D (whoL c t) = decide (idxs (fun e => e.plan.client == c && e.plan.token == t) 0 l ≠ [])) ∧ D.atKey (whoL c t) (.lit (.int .i64 0)) = .lit (.int .i64 ((idxs (fun e => e.plan.client == c && e.plan.token == t) 0 l).getLast?.getD 0))
/-- how many keys an index holds at most -/
def cntI (l : List Ent) : Nat := (l.map fun e => 1 + e.plan.reads.length + e.plan.writes.length).sum
/-- an index of entries, in blocks of S -/
def IxAt (w : World) (B : Nat) (S : Nat → Prop) (l : List Ent) : Prop := ∃ lab ve m n D, IxW w B lab ve m (l.map (fun e => e.epoch)) (fI l) n D ∧ AskD l D ∧ n ≤ 3 * cntI l ∧ ∀ i, lab i < 7 → S i
end Go.Proofs.YtnknihmchmmenaaGreat
