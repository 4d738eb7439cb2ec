/-
  LogIndexes: two indexes side by side.
-/
import Derived.Test.YtnknihmchmmenaaGreatRiD
import Derived.Test.YtnknihmchmmenaaGreatHP
import Derived.Test.YtnknihmchmmenaaGreatHJ
namespace Go.Proofs.YtnknihmchmmenaaGreat
open Go Go.RowKit Go.Deep
set_option linter.unusedVariables false
set_option linter.unusedSimpArgs false

/-- the two indexes; nothing of them lies in lo..hi -/
structure RiM (w : World) (X R : Nat) (LX LR : List Ent) (lo hi : Nat) (W : World) : Prop where
  keep : Keep No w W
  at' : ∃ SX SR : Nat → Prop, IxAt W X SX LX ∧ RxAt W R SR LR ∧ (∀ i, SX i → (w.heap.size ≤ i ∧ i < W.heap.size) ∧ ¬ SR i ∧ ¬ (lo ≤ i ∧ i < hi)) ∧ (∀ i, SR i → (w.heap.size ≤ i ∧ i < W.heap.size) ∧ ¬ (lo ≤ i ∧ i < hi))
theorem RiM.more {w : World} {X R : Nat} {LX LR : List Ent} {lo hi : Nat} {W W' : World} (h : RiM w X R LX LR lo hi W) (hk : Keep No W W') : RiM w X R LX LR lo hi W' := by
  obtain ⟨k, SX, SR, h1, h2, h3, h4⟩ := h
  have hs := hk.size
  exact ⟨k.trans hk, SX, SR, h1.keep hk fun _ _ x => x, h2.keep hk fun _ _ x => x, fun i hi => ⟨⟨(h3 i hi).1.1, by have := (h3 i hi).1.2; omega⟩, (h3 i hi).2⟩, fun i hi => ⟨⟨(h4 i hi).1.1, by have := (h4 i hi).1.2; omega⟩, (h4 i hi).2⟩⟩
/-- what is new is not theirs -/
theorem RiM.wide {w : World} {X R : Nat} {LX LR : List Ent} {lo hi : Nat} {W W' : World} (h : RiM w X R LX LR lo hi W) (hk : Keep No W W') : RiM w X R LX LR W.heap.size W'.heap.size W' := by
  obtain ⟨k, SX, SR, h1, h2, h3, h4⟩ := h
  have hs := hk.size
  exact ⟨k.trans hk, SX, SR, h1.keep hk fun _ _ x => x, h2.keep hk fun _ _ x => x, fun i hi => ⟨⟨(h3 i hi).1.1, by have := (h3 i hi).1.2; omega⟩, (h3 i hi).2.1, fun hh => by have := (h3 i hi).1.2; omega⟩, fun i hi => ⟨⟨(h4 i hi).1.1, by have := (h4 i hi).1.2; omega⟩, fun hh => by have := (h4 i hi).1.2; omega⟩⟩
/-- what may turn in lo..hi turns nothing of theirs -/
theorem RiM.turn {w : World} {X R : Nat} {LX LR : List Ent} {lo hi : Nat} {W W' : World} (h : RiM w X R LX LR lo hi W) {S : Nat → Prop} (hlo : w.heap.size ≤ lo) (hk : Keep S W W') (hS : ∀ i, S i → lo ≤ i ∧ i < hi) : RiM w X R LX LR lo hi W' := by
  obtain ⟨k, SX, SR, h1, h2, h3, h4⟩ := h
  have hs := hk.size
  exact ⟨k.then hk fun i hi hh => by have := hS i hh; omega, SX, SR, h1.keep hk fun i hi hh => (h3 i hi).2.2 (hS i hh), h2.keep hk fun i hi hh => (h4 i hi).2 (hS i hh), fun i hi => ⟨⟨(h3 i hi).1.1, by have := (h3 i hi).1.2; omega⟩, (h3 i hi).2⟩, fun i hi => ⟨⟨(h4 i hi).1.1, by have := (h4 i hi).1.2; omega⟩, (h4 i hi).2⟩⟩
theorem RiM.zero {w : World} {X R : Nat} {LX LR : List Ent} {lo hi : Nat} {W : World} (h : RiM w X R LX LR lo hi W) : RiM w X R LX LR 0 0 W := by
  obtain ⟨k, SX, SR, h1, h2, h3, h4⟩ := h
  exact ⟨k, SX, SR, h1, h2, fun i hi => ⟨(h3 i hi).1, (h3 i hi).2.1, fun hh => by omega⟩, fun i hi => ⟨(h4 i hi).1, fun hh => by omega⟩⟩
/-- what the two Adds may turn -/
def Theirs (w : World) (lo hi : Nat) (i : Nat) : Prop := w.heap.size ≤ i ∧ ¬ (lo ≤ i ∧ i < hi)
theorem RiM.addX {w : World} {X R : Nat} {L LR : List Ent} {lo hi : Nat} {W : World} (h : RiM w X R L LR lo hi W) (hhi : hi ≤ W.heap.size) {U : Nat → Prop} (hl : L.length ≤ 65536) (hc : cntI L ≤ 1048576) (e : Ent) (a1 a2 a3 : Option Addr) (c1 c2 c3 : Nat)
    (he : Rd entrySh W U [.int .i64 e.seq, .int .i64 e.epoch, .int .i64 e.plan.client, .int .u64 e.plan.token, .string e.plan.name, .slice a1 e.plan.args.length c1, .int .i64 e.plan.how, .slice a2 e.plan.reads.length c2, .slice a3 e.plan.writes.length c3] e) (hU : ∀ k, U k → lo ≤ k ∧ k < hi) (hf : e.plan.Fit) (hpn : 1 + e.plan.reads.length + e.plan.writes.length ≤ 1048576) :
    Calls Tryz.prog 45 #[.pointer (some ⟨X, 0, none⟩), .agg #[.int .i64 e.seq, .int .i64 e.epoch, .int .i64 e.plan.client, .int .u64 e.plan.token, .string e.plan.name, .slice a1 e.plan.args.length c1, .int .i64 e.plan.how, .slice a2 e.plan.reads.length c2, .slice a3 e.plan.writes.length c3]] W fun en W' => en = .returned (.int .i64 (addI L e).1) ∧ RiM w X R (addI L e).2 LR lo hi W' ∧ Keep (Theirs w lo hi) W W' := by
  obtain ⟨k, SX, SR, h1, h2, h3, h4⟩ := h
  refine (ixAdd_any W X SX U L h1 hl hc e a1 a2 a3 c1 c2 c3 he (fun k hk hs => (h3 k hs).2.2 (hU k hk)) hf hpn).mono ?_
  rintro en W' ⟨rfl, T, g1, g2, g3⟩
  have hs := g3.size
  have hkw := k.size
  refine ⟨rfl, ⟨k.then g3 fun i hi hh => by have := (h3 i hh).1.1; omega, _, SR, g1.live, h2.keep g3 fun i hi hh => (h3 i hh).2.1 hi, fun i hi => ?_, fun i hi => ⟨⟨(h4 i hi).1.1, by have := (h4 i hi).1.2; omega⟩, (h4 i hi).2⟩⟩, g3.mono fun i _ hi => ⟨(h3 i hi).1.1, (h3 i hi).2.2⟩⟩
  rcases g2 i hi.1 with hh | hh
  · exact ⟨⟨(h3 i hh).1.1, hi.2⟩, (h3 i hh).2⟩
  · exact ⟨⟨by omega, hi.2⟩, fun h' => by have := (h4 i h').1.2; omega, fun h' => by omega⟩
theorem RiM.addR {w : World} {X R : Nat} {L LX : List Ent} {lo hi : Nat} {W : World} (h : RiM w X R LX L lo hi W) (hhi : hi ≤ W.heap.size) {U : Nat → Prop} (hl : L.length ≤ 65536) (e : Ent) (a1 a2 a3 : Option Addr) (c1 c2 c3 : Nat)
    (he : Rd entrySh W U [.int .i64 e.seq, .int .i64 e.epoch, .int .i64 e.plan.client, .int .u64 e.plan.token, .string e.plan.name, .slice a1 e.plan.args.length c1, .int .i64 e.plan.how, .slice a2 e.plan.reads.length c2, .slice a3 e.plan.writes.length c3] e) (hf : e.plan.Fit) (hp : e.plan.Few) :
    Calls Tryz.prog 54 #[.pointer (some ⟨R, 0, none⟩), .agg #[.int .i64 e.seq, .int .i64 e.epoch, .int .i64 e.plan.client, .int .u64 e.plan.token, .string e.plan.name, .slice a1 e.plan.args.length c1, .int .i64 e.plan.how, .slice a2 e.plan.reads.length c2, .slice a3 e.plan.writes.length c3]] W fun en W' => en = .returned (.int .i64 (addI L e).1) ∧ RiM w X R LX (addI L e).2 lo hi W' ∧ Keep (Theirs w lo hi) W W' := by
  obtain ⟨k, SX, SR, h1, h2, h3, h4⟩ := h
  refine (rixAdd_any W R SR U L h2 hl e a1 a2 a3 c1 c2 c3 he hf hp).mono ?_
  rintro en W' ⟨rfl, T, g1, g2, g3⟩
  have hs := g3.size
  have hkw := k.size
  have hT : ∀ i, T i → i < W'.heap.size := by obtain ⟨_, _, _, _, _, _, q⟩ := g1; exact q
  refine ⟨rfl, ⟨k.then g3 fun i hi hh => by have := (h4 i hh).1.1; omega, SX, T, h1.keep g3 fun i hi hh => (h3 i hi).2.1 hh, g1, fun i hi => ⟨⟨(h3 i hi).1.1, by have := (h3 i hi).1.2; omega⟩, fun hh => ?_, (h3 i hi).2.2⟩, fun i hi => ?_⟩, g3.mono fun i _ hi => ⟨(h4 i hi).1.1, (h4 i hi).2⟩⟩
  · rcases g2 i hh with h' | h'
    · exact (h3 i hi).2.1 h'
    · have := (h3 i hi).1.2; omega
  · rcases g2 i hi with hh | hh
    · exact ⟨⟨(h4 i hh).1.1, by have := (h4 i hh).1.2; omega⟩, (h4 i hh).2⟩
    · exact ⟨⟨by omega, hT i hi⟩, fun h' => by omega⟩

/-- spoil at one plan, made on the spot: nothing but what it shows -/
theorem spoil_in {w : World} {S : Nat → Prop} {cs : List Value} {p : Plan} (h : Rd planSh w S cs p) (hS : ∀ i, S i → i < w.heap.size) :
    Calls Tryz.prog 34 #[.slice (some ⟨w.heap.size, 0, none⟩) 1 1] (w.alloc (.cells cs.toArray 38)) fun e w' => e = .returned (.tuple #[]) ∧ Keep S w w' := by
  have ka := (Keep.refl No w).alloc (.cells cs.toArray 38)
  have hr : Rd (.slice planSh) (w.alloc (.cells cs.toArray 38)) (fun i => S i ∨ i = w.heap.size) [.slice (some ⟨w.heap.size, 0, none⟩) 1 1] [p] := by
    refine ⟨some ⟨w.heap.size, 0, none⟩, 1, rfl, Nat.le_refl _, by rw [maxLen_is]; omega, fun h => (by cases h), fun i hi => ?_⟩
    have hi0 : i = 0 := by simp at hi; omega
    subst hi0
    refine ⟨w.heap.size, 0, cs, rfl, by simp, .inr rfl, h.length, ?_, ?_⟩
    · have := RowAt.ofBlock (blk_new w (.cells cs.toArray 38)) 0 cs.length
      simpa using this
    · exact (h.agree _ ka.agreeNo).mono _ fun i _ hu => .inl hu
  refine (lspoil_any _ _ _ 1 1 [p] hr fun k hk => by rcases hk with hk | hk; (have := hS k hk; simp; omega); (subst hk; simp)).mono ?_
  rintro e w' ⟨rfl, hk⟩
  exact ⟨rfl, (ka.mono fun _ _ h => h.elim).then hk.keep fun i hi hh => hh.elim id fun hh => by omega⟩

/-- one entry more, or not -/
theorem addI_cnt (l : List Ent) (e : Ent) : (addI l e).2.length ≤ l.length + 1 ∧ cntI (addI l e).2 ≤ cntI l + (1 + e.plan.reads.length + e.plan.writes.length) := by
  unfold addI
  split
  · exact ⟨by simp, by simp⟩
  · split
    · exact ⟨by simp, by simp⟩
    · split
      · exact ⟨by simp, by simp⟩
      · exact ⟨by simp, by simp [cntI]⟩
theorem addI_sorted (l : List Ent) (e : Ent) (h : (l.map (fun e => e.epoch)).Pairwise (· ≤ ·)) : ((addI l e).2.map (fun e => e.epoch)).Pairwise (· ≤ ·) := by
  unfold addI
  split
  · exact h
  · split
    · exact h
    · rename_i hne
      split
      · exact h
      · rw [List.map_append, List.pairwise_append]
        refine ⟨h, by simp, fun x hx y hy => ?_⟩
        simp only [List.map_cons, List.map_nil, List.mem_singleton] at hy
        subst hy
        obtain ⟨z, hz, rfl⟩ := List.mem_map.1 hx
        have hl : l ≠ [] := fun h => by rw [h] at hz; cases hz
        have h1 : ¬ e.epoch < (l.getLast hl).epoch := fun hh => hne (.inr ⟨hl, hh⟩)
        obtain ⟨i, hi, rfl⟩ := List.getElem_of_mem hz
        rw [List.getLast_eq_getElem] at h1
        rcases Nat.lt_or_ge i (l.length - 1) with h2 | h2
        · have := (List.pairwise_iff_getElem.1 h) i (l.length - 1) (by simp; omega) (by simp; omega) h2
          simp only [List.getElem_map] at this
          omega
        · have h3 : i = l.length - 1 := by omega
          subst h3
          omega

theorem ent_bulkI (x : Ent) : planSh.bulk x.plan ≤ entrySh.bulk x := by
  have e : entrySh.bulk x = (1 + (1 + (planSh.bulk x.plan + 0))) + 1 := rfl
  rw [e]; omega
theorem plan_fitI {p : Plan} (h : planSh.bulk p ≤ 1048576) : p.Fit ∧ partsN p ≤ 1048576 := by
  have h2 := plan_bulk p
  have h3 : partsN p = 1 + p.args.length + p.reads.length + p.writes.length := rfl
  exact ⟨⟨by omega, by omega⟩, by omega⟩
theorem ents_bulkI (l : List Ent) : l.length ≤ (l.map entrySh.bulk).sum := by
  induction l with
  | nil => simp
  | cons x l ih =>
    have h1 := ent_bulkI x
    have h2 := plan_bulk x.plan
    have h3 : partsN x.plan = 1 + x.plan.args.length + x.plan.reads.length + x.plan.writes.length := rfl
    simp only [List.map_cons, List.sum_cons, List.length_cons]
    omega
/-- how many parts entries have -/
def partsE (l : List Ent) : Nat := (l.map (fun e => partsN e.plan)).sum
theorem partsE_succ (l : List Ent) (k : Nat) (h : k < l.length) : partsE (l.take (k + 1)) = partsE (l.take k) + partsN l[k].plan := by
  unfold partsE
  rw [List.take_succ_eq_append_getElem h, List.map_append, List.sum_append]; simp
theorem partsE_take (l : List Ent) (k : Nat) : partsE (l.take k) ≤ partsE l := by
  unfold partsE
  conv => rhs; rw [← List.take_append_drop k l, List.map_append, List.sum_append]
  omega
theorem partsE_bulk (l : List Ent) : partsE l ≤ (l.map entrySh.bulk).sum := by
  unfold partsE
  induction l with
  | nil => simp
  | cons x l ih =>
    have h1 := ent_bulkI x
    have h2 := plan_bulk x.plan
    simp only [List.map_cons, List.sum_cons]
    omega
theorem partsE_mem {l : List Ent} {e : Ent} (h : e ∈ l) : partsN e.plan ≤ partsE l := by
  unfold partsE
  induction l with
  | nil => cases h
  | cons x l ih =>
    simp only [List.map_cons, List.sum_cons]
    rcases List.mem_cons.1 h with rfl | h
    · omega
    · have := ih h; omega

@[reducible] def askSh : Sh := .struct (.cons (.int .i64) (.cons (.int .u64) (.cons .str (.cons .str (.cons (.int .i64) (.cons (.int .i64) .nil))))))
theorem asks_get {w : World} {S : Nat → Prop} {a : Option Addr} {n c : Nat} {l : List askSh.T} (h : Rd (.slice askSh) w S [.slice a n c] l) (i : Nat) (hi : i < l.length) :
    ∃ (b off : Nat) (qc qt : Int) (qn qk : ByteArray) (qa qe : Int), a = some ⟨b, off, none⟩ ∧ b < w.heap.size ∧ RowAt w b (off + i * 6) [.int .i64 qc, .int .u64 qt, .string qn, .string qk, .int .i64 qa, .int .i64 qe] ∧
      (Lit.int .i64 qc).wf = true ∧ (Lit.int .u64 qt).wf = true ∧ qn.size ≤ 9223372036854775807 ∧ qk.size ≤ 9223372036854775807 := by
  obtain ⟨b, off, row, ha, -, hb, hS, -, hrow, hx⟩ := h.elem' i hi
  obtain ⟨_, _, rfl, ⟨rfl, w1⟩, _, _, rfl, ⟨rfl, w2⟩, _, _, rfl, ⟨rfl, w3⟩, _, _, rfl, ⟨rfl, w4⟩, _, _, rfl, ⟨rfl, w5⟩, _, _, rfl, ⟨rfl, w6⟩, rfl⟩ := hx
  exact ⟨b, off, _, _, _, _, _, _, ha, hb, hrow, w1, w2, by rw [maxLen_is] at w3; exact w3, by rw [maxLen_is] at w4; exact w4⟩
theorem row_six {w : World} {b o : Nat} {x0 x1 x2 x3 x4 x5 : Value} (h : RowAt w b o [x0, x1, x2, x3, x4, x5]) :
    w.cell? ⟨b, o, none⟩ = some x0 ∧ w.cell? ⟨b, o + 1, none⟩ = some x1 ∧ w.cell? ⟨b, o + 2, none⟩ = some x2 ∧ w.cell? ⟨b, o + 3, none⟩ = some x3 ∧ w.cell? ⟨b, o + 4, none⟩ = some x4 ∧ w.cell? ⟨b, o + 5, none⟩ = some x5 :=
  ⟨(h 0 (by simp)).1, (h 1 (by simp)).1, (h 2 (by simp)).1, (h 3 (by simp)).1, (h 4 (by simp)).1, (h 5 (by simp)).1⟩
end Go.Proofs.YtnknihmchmmenaaGreat
