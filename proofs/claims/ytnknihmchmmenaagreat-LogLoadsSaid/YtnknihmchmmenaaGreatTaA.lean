/-
  Stores that leave every cell of its kind: what could be read before can be read behind them, as something of the same shape.
-/
import Derived.Test.YtnknihmchmmenaaGreatGA
namespace Go.Proofs.YtnknihmchmmenaaGreat
open Go Go.RowKit Go.Deep
set_option linter.unusedVariables false
set_option linter.unusedSimpArgs false

/-- a value of the same kind; a slice stays, or is emptied -/
inductive Like : Value → Value → Prop
  | same (v : Value) : Like v v
  | int (k : IntKind) (a b : Int) (h : (Lit.int k b).wf = true) : Like (.int k a) (.int k b)
  | bool (a b : Bool) : Like (.bool a) (.bool b)
  | str (a b : ByteArray) (h : b.size ≤ maxLen) : Like (.string a) (.string b)
  | emp (a : Option Addr) (n c : Nat) : Like (.slice a n c) (.slice none 0 0)
theorem Like.trans {a b c : Value} (h : Like a b) (k : Like b c) : Like a c := by
  cases h with
  | same => exact k
  | int j x y h => cases k with
    | same => exact .int _ _ _ h
    | int _ _ _ h' => exact .int _ _ _ h'
  | bool x y => cases k with
    | same => exact .bool _ _
    | bool => exact .bool _ _
  | str x y h => cases k with
    | same => exact .str _ _ h
    | str _ _ h' => exact .str _ _ h'
  | emp x n c => cases k with
    | same => exact .emp _ _ _
    | emp => exact .emp _ _ _

/-- Only cells of S may have turned; every cell is there still, of its kind. -/
structure Kin (S : Nat → Prop) (w w' : World) : Prop where
  keep : Keep S w w'
  cell : ∀ b o v, w.cell? ⟨b, o, none⟩ = some v → ∃ v', w'.cell? ⟨b, o, none⟩ = some v' ∧ Like v v'
  frozen : ∀ b o v, w.cell? ⟨b, o, none⟩ = some v → w.frozen? ⟨b, o, none⟩ = false → w'.frozen? ⟨b, o, none⟩ = false
theorem Kin.refl (S : Nat → Prop) (w : World) : Kin S w w := ⟨Keep.refl _ _, fun _ _ v h => ⟨v, h, .same v⟩, fun _ _ _ _ h => h⟩
theorem Kin.trans {S : Nat → Prop} {a b c : World} (h : Kin S a b) (k : Kin S b c) : Kin S a c :=
  ⟨h.keep.trans k.keep, fun x o v hv => by
    obtain ⟨v1, h1, l1⟩ := h.cell x o v hv
    obtain ⟨v2, h2, l2⟩ := k.cell x o v1 h1
    exact ⟨v2, h2, l1.trans l2⟩,
   fun x o v hv hf => by
    obtain ⟨v1, h1, l1⟩ := h.cell x o v hv
    exact k.frozen x o v1 h1 (h.frozen x o v hv hf)⟩
theorem Kin.mono {S T : Nat → Prop} {w w' : World} (h : Kin S w w') (hs : ∀ k, S k → T k) : Kin T w w' := ⟨h.keep.mono fun k _ => hs k, h.cell, h.frozen⟩
theorem Kin.ofKeep {S : Nat → Prop} {w w' : World} (h : Keep No w w') : Kin S w w' :=
  ⟨h.mono fun _ _ x => x.elim, fun b o v hv => ⟨v, by rw [h.cell (World.block_lt_of_cell? _ _ hv) (fun x => x)]; exact hv, .same v⟩,
   fun b o v hv hf => by rw [h.frozen (World.block_lt_of_cell? _ _ hv) (fun x => x)]; exact hf⟩
theorem Kin.set {S : Nat → Prop} {w : World} {b o : Nat} {v u : Value} (hb : S b) (hv : w.cell? ⟨b, o, none⟩ = some v) (hl : Like v u) : Kin S w (w.setCell ⟨b, o, none⟩ u) :=
  ⟨(keep_set w b o u).mono fun k _ e => e ▸ hb, fun x i y hy => by
    by_cases e : (⟨b, o, none⟩ : Addr) = ⟨x, i, none⟩
    · cases e
      rw [hv] at hy
      cases hy
      exact ⟨u, World.cell?_setCell_same w _ u hv, hl⟩
    · exact ⟨y, (World.cell?_setCell_other w _ _ u e).trans hy, .same y⟩,
   fun x i y hy hf => by rw [World.frozen?_setCell]; exact hf⟩
/-- a row of stores -/
def setAll (w : World) (b o : Nat) : List Value → World
  | [] => w
  | v :: vs => setAll (w.setCell ⟨b, o, none⟩ v) b (o + 1) vs

/-- rows, cell by cell -/
inductive LikeL : List Value → List Value → Prop
  | nil : LikeL [] []
  | cons {a b : Value} {l m : List Value} (h : Like a b) (t : LikeL l m) : LikeL (a :: l) (b :: m)
theorem LikeL.refl : ∀ l : List Value, LikeL l l
  | [] => .nil
  | a :: l => .cons (.same a) (LikeL.refl l)
theorem LikeL.length {l m : List Value} (h : LikeL l m) : m.length = l.length := by
  induction h with
  | nil => rfl
  | cons _ _ ih => simp [ih]
theorem LikeL.split : ∀ {c1 c2 m : List Value}, LikeL (c1 ++ c2) m → ∃ m1 m2, m = m1 ++ m2 ∧ LikeL c1 m1 ∧ LikeL c2 m2
  | [], c2, m, h => ⟨[], m, rfl, .nil, h⟩
  | a :: c1, c2, m, h => by
    cases h with
    | cons h1 h2 =>
      obtain ⟨m1, m2, rfl, h3, h4⟩ := LikeL.split h2
      exact ⟨_ :: m1, m2, rfl, .cons h1 h3, h4⟩
theorem Kin.all {S : Nat → Prop} {b : Nat} (hb : S b) {cs vs : List Value} (hl : LikeL cs vs) : ∀ {w : World} {o : Nat}, RowAt w b o cs → Kin S w (setAll w b o vs) := by
  induction hl with
  | nil => exact fun _ => Kin.refl _ _
  | @cons a v l m hl ht ih =>
    intro w o h
    have h0 := h 0 (by simp)
    refine (Kin.set (S := S) hb (by simpa using h0.1) hl).trans (ih fun j hj => ?_)
    have hj' := h (j + 1) (by simp; omega)
    have ne : (⟨b, o, none⟩ : Addr) ≠ ⟨b, o + 1 + j, none⟩ := fun e => by simp only [Addr.mk.injEq, and_true, true_and] at e; omega
    rw [World.cell?_setCell_other _ _ _ _ ne, World.frozen?_setCell]
    rw [show o + 1 + j = o + (j + 1) by omega]
    simpa using hj'
theorem Kin.row {U : Nat → Prop} {w w' : World} (h : Kin U w w') : ∀ {cs : List Value} {b o : Nat}, RowAt w b o cs → ∃ cs', RowAt w' b o cs' ∧ LikeL cs cs'
  | [], b, o, _ => ⟨[], RowAt.nil, .nil⟩
  | c :: cs, b, o, hr => by
    have hr' : RowAt w b o ([c] ++ cs) := hr
    obtain ⟨h1, h2⟩ := RowAt.split hr'
    obtain ⟨cs', h3, h4⟩ := Kin.row h h2
    obtain ⟨h5, h6⟩ := h1 0 (by simp)
    obtain ⟨v', h7, h8⟩ := h.cell b (o + 0) c (by simpa using h5)
    refine ⟨[v'] ++ cs', RowAt.join (fun j hj => ?_) h3, .cons h8 h4⟩
    have hj0 : j = 0 := by simp at hj; omega
    subst hj0
    exact ⟨by simpa using h7, h.frozen b (o + 0) c (by simpa using h5) h6⟩

theorem Kin.rd {U : Nat → Prop} {w w' : World} (h : Kin U w w') {S : Nat → Prop} : ∀ (s : Sh) {cs cs' : List Value} {x : s.T}, Rd s w S cs x → LikeL cs cs' → ∃ y : s.T, Rd s w' S cs' y
  | .int k, cs, cs', x, hr, hl => by
    obtain ⟨rfl, hw⟩ := hr
    cases hl with
    | cons h1 h2 =>
      cases h2
      cases h1 with
      | same => exact ⟨x, rfl, hw⟩
      | int _ _ b h' => exact ⟨b, rfl, h'⟩
  | .bool, cs, cs', x, hr, hl => by
    have hr : cs = [.bool x] := hr
    subst hr
    cases hl with
    | cons h1 h2 =>
      cases h2
      cases h1 with
      | same => exact ⟨x, rfl⟩
      | bool _ b => exact ⟨b, rfl⟩
  | .str, cs, cs', x, hr, hl => by
    obtain ⟨rfl, hw⟩ := hr
    cases hl with
    | cons h1 h2 =>
      cases h2
      cases h1 with
      | same => exact ⟨x, rfl, hw⟩
      | str _ b h' => exact ⟨b, rfl, h'⟩
  | .slice s, cs, cs', x, hr, hl => by
    obtain ⟨a, c, rfl, h1, h2, h3, h4⟩ := hr
    cases hl with
    | cons l1 l2 =>
      cases l2
      cases l1 with
      | emp => exact ⟨[], none, 0, rfl, Nat.le_refl _, Nat.zero_le _, fun _ => ⟨rfl, rfl⟩, fun i hi => absurd hi (by simp)⟩
      | same =>
        have key : ∀ i : Fin x.length, ∃ y : s.T, ∃ b off row, a = some ⟨b, off, none⟩ ∧ b < w'.heap.size ∧ S b ∧ row.length = s.size ∧ RowAt w' b (off + i.1 * s.size) row ∧ Rd s w' S row y := fun i => by
          obtain ⟨b, off, row, ha, hb, hS, hlen, hrow, hx⟩ := h4 i.1 i.2
          obtain ⟨row', hrow', hl'⟩ := h.row hrow
          obtain ⟨y, hy⟩ := Kin.rd h s hx hl'
          exact ⟨y, b, off, row', ha, Nat.lt_of_lt_of_le hb h.keep.size, hS, by rw [hl'.length, hlen], hrow', hy⟩
        refine ⟨List.ofFn fun i => (key i).choose, a, c, by rw [List.length_ofFn], by rw [List.length_ofFn]; exact h1, h2, fun ha => ?_, fun i hi => ?_⟩
        · obtain ⟨hx, hc⟩ := h3 ha
          subst hx
          exact ⟨rfl, hc⟩
        · rw [List.length_ofFn] at hi
          have := (key ⟨i, hi⟩).choose_spec
          simpa using this
  | .nil, cs, cs', x, hr, hl => by
    have hr : cs = [] := hr
    subst hr
    cases hl
    exact ⟨(), rfl⟩
  | .cons a b, cs, cs', x, hr, hl => by
    obtain ⟨c1, c2, rfl, h1, h2⟩ := hr
    obtain ⟨m1, m2, rfl, l1, l2⟩ := hl.split
    obtain ⟨y1, k1⟩ := Kin.rd h a h1 l1
    obtain ⟨y2, k2⟩ := Kin.rd h b h2 l2
    exact ⟨(y1, y2), m1, m2, rfl, k1, k2⟩
  | .struct b, cs, cs', x, hr, hl => Kin.rd h b hr hl
/-- a slice keeps its length -/
theorem Kin.slice {U : Nat → Prop} {w w' : World} (h : Kin U w w') {S : Nat → Prop} {s : Sh} {a : Option Addr} {n c : Nat} {l : List s.T} (hr : Rd (.slice s) w S [.slice a n c] l) : ∃ l' : List s.T, l'.length = n ∧ Rd (.slice s) w' S [.slice a n c] l' := by
  obtain ⟨l', h'⟩ := h.rd (.slice s) hr (LikeL.refl _)
  refine ⟨l', ?_, h'⟩
  obtain ⟨a', c', e, -⟩ := h'
  simp only [List.cons.injEq, Value.slice.injEq, and_true] at e
  exact e.2.1.symm
end Go.Proofs.YtnknihmchmmenaaGreat
