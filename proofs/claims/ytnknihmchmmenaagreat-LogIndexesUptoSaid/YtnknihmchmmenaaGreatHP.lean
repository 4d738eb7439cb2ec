/-
  Stores that leave every cell of its kind: what could be read before can be read behind them, as something of the same shape.
  The law's spoil: it writes over lists that are its own.
  The document's plans: are two plans the same, where they are.
-/
import Derived.Test.YtnknihmchmmenaaGreatGA
import Derived.Test.YtnknihmchmmenaaGreatGB
import Derived.Test.YtnknihmchmmenaaGreatGC
import Derived.Test.YtnknihmchmmenaaGreatGF
import Derived.Test.YtnknihmchmmenaaGreatGK
import Derived.Test.YtnknihmchmmenaaGreatGU
import Derived.Test.YtnknihmchmmenaaGreatGY
import Derived.Test.YtnknihmchmmenaaGreatHB
import Derived.WalkKit
import Derived.WalkSpells
import Derived.WalkLawsBesides
import Derived.ProofKit
import Derived.Deep.Slices
import Derived.Deep.AppendSrc
import Derived.Lib.Hide
import Derived.Still
import Derived.StillTactics
import Derived.Recover
import Derived.Defers
import Derived.Deep.QuietTactic
import Derived.BigQuiet
import Derived.Handy
import Derived.Laws.Bits64b
import Derived.Lib.Zigzag
import Derived.OwnWalk
import Derived.Deep.DeepCutAuto
import Derived.Lib.Bytealg
import Derived.Laws.Externs
import Derived.Deep.LoopGhost
import Derived.Laws.CopyRow
import Derived.Laws.IdiomCopy
import Derived.Maps.OwnSet
import Derived.Maps.RangeWalk
import Derived.Shelf.SortM.Plain
import Derived.Shelf.SortM.SortNone
import Derived.Ground.SlgmProg
import Derived.Maps.OwnOps
namespace Go.Proofs.YtnknihmchmmenaaGreat
set_option linter.unusedVariables false
set_option linter.unusedSimpArgs false
open Go Go.RowKit Go.Deep

/-- a value of the same kind; a slice stays, or is emptied -/
inductive Like : Value → Value → Prop
  | same (v : Value) : Like v v
  | int (k : IntKind) (a b : Int) (h : (Lit.int k b).wf = true) : Like (.int k a) (.int k b)
  | bool (a b : Bool) : Like (.bool a) (.bool b)
  | str (a b : ByteArray) (h : b.size ≤ maxLen) : Like (.string a) (.string b)
  | emp (a : Option Addr) (n c : Nat) : Like (.slice a n c) (.slice none 0 0)
theorem Like.trans {a b c : Value} (h : Like a b) (k : Like b c) : Like a c := by
  cases h with
  | same => exact k
  | int j x y h => cases k with
    | same => exact .int _ _ _ h
    | int _ _ _ h' => exact .int _ _ _ h'
  | bool x y => cases k with
    | same => exact .bool _ _
    | bool => exact .bool _ _
  | str x y h => cases k with
    | same => exact .str _ _ h
    | str _ _ h' => exact .str _ _ h'
  | emp x n c => cases k with
    | same => exact .emp _ _ _
    | emp => exact .emp _ _ _

/-- Only cells of S may have turned; every cell is there still, of its kind. -/
structure Kin (S : Nat → Prop) (w w' : World) : Prop where
  keep : Keep S w w'
  cell : ∀ b o v, w.cell? ⟨b, o, none⟩ = some v → ∃ v', w'.cell? ⟨b, o, none⟩ = some v' ∧ Like v v'
  frozen : ∀ b o v, w.cell? ⟨b, o, none⟩ = some v → w.frozen? ⟨b, o, none⟩ = false → w'.frozen? ⟨b, o, none⟩ = false
theorem Kin.refl (S : Nat → Prop) (w : World) : Kin S w w := ⟨Keep.refl _ _, fun _ _ v h => ⟨v, h, .same v⟩, fun _ _ _ _ h => h⟩
theorem Kin.trans {S : Nat → Prop} {a b c : World} (h : Kin S a b) (k : Kin S b c) : Kin S a c :=
  ⟨h.keep.trans k.keep, fun x o v hv => by
    obtain ⟨v1, h1, l1⟩ := h.cell x o v hv
    obtain ⟨v2, h2, l2⟩ := k.cell x o v1 h1
    exact ⟨v2, h2, l1.trans l2⟩,
   fun x o v hv hf => by
    obtain ⟨v1, h1, l1⟩ := h.cell x o v hv
    exact k.frozen x o v1 h1 (h.frozen x o v hv hf)⟩
theorem Kin.mono {S T : Nat → Prop} {w w' : World} (h : Kin S w w') (hs : ∀ k, S k → T k) : Kin T w w' := ⟨h.keep.mono fun k _ => hs k, h.cell, h.frozen⟩
theorem Kin.ofKeep {S : Nat → Prop} {w w' : World} (h : Keep No w w') : Kin S w w' :=
  ⟨h.mono fun _ _ x => x.elim, fun b o v hv => ⟨v, by rw [h.cell (World.block_lt_of_cell? _ _ hv) (fun x => x)]; exact hv, .same v⟩,
   fun b o v hv hf => by rw [h.frozen (World.block_lt_of_cell? _ _ hv) (fun x => x)]; exact hf⟩
theorem Kin.set {S : Nat → Prop} {w : World} {b o : Nat} {v u : Value} (hb : S b) (hv : w.cell? ⟨b, o, none⟩ = some v) (hl : Like v u) : Kin S w (w.setCell ⟨b, o, none⟩ u) :=
  ⟨(keep_set w b o u).mono fun k _ e => e ▸ hb, fun x i y hy => by
    by_cases e : (⟨b, o, none⟩ : Addr) = ⟨x, i, none⟩
    · cases e
      rw [hv] at hy
      cases hy
      exact ⟨u, World.cell?_setCell_same w _ u hv, hl⟩
    · exact ⟨y, (World.cell?_setCell_other w _ _ u e).trans hy, .same y⟩,
   fun x i y hy hf => by rw [World.frozen?_setCell]; exact hf⟩
/-- a row of stores -/
def setAll (w : World) (b o : Nat) : List Value → World
  | [] => w
  | v :: vs => setAll (w.setCell ⟨b, o, none⟩ v) b (o + 1) vs

/-- rows, cell by cell -/
inductive LikeL : List Value → List Value → Prop
  | nil : LikeL [] []
  | cons {a b : Value} {l m : List Value} (h : Like a b) (t : LikeL l m) : LikeL (a :: l) (b :: m)
theorem LikeL.refl : ∀ l : List Value, LikeL l l
  | [] => .nil
  | a :: l => .cons (.same a) (LikeL.refl l)
theorem LikeL.length {l m : List Value} (h : LikeL l m) : m.length = l.length := by
  induction h with
  | nil => rfl
  | cons _ _ ih => simp [ih]
theorem LikeL.split : ∀ {c1 c2 m : List Value}, LikeL (c1 ++ c2) m → ∃ m1 m2, m = m1 ++ m2 ∧ LikeL c1 m1 ∧ LikeL c2 m2
  | [], c2, m, h => ⟨[], m, rfl, .nil, h⟩
  | a :: c1, c2, m, h => by
    cases h with
    | cons h1 h2 =>
      obtain ⟨m1, m2, rfl, h3, h4⟩ := LikeL.split h2
      exact ⟨_ :: m1, m2, rfl, .cons h1 h3, h4⟩
theorem Kin.all {S : Nat → Prop} {b : Nat} (hb : S b) {cs vs : List Value} (hl : LikeL cs vs) : ∀ {w : World} {o : Nat}, RowAt w b o cs → Kin S w (setAll w b o vs) := by
  induction hl with
  | nil => exact fun _ => Kin.refl _ _
  | @cons a v l m hl ht ih =>
    intro w o h
    have h0 := h 0 (by simp)
    refine (Kin.set (S := S) hb (by simpa using h0.1) hl).trans (ih fun j hj => ?_)
    have hj' := h (j + 1) (by simp; omega)
    have ne : (⟨b, o, none⟩ : Addr) ≠ ⟨b, o + 1 + j, none⟩ := fun e => by simp only [Addr.mk.injEq, and_true, true_and] at e; omega
    rw [World.cell?_setCell_other _ _ _ _ ne, World.frozen?_setCell]
    rw [show o + 1 + j = o + (j + 1) by omega]
    simpa using hj'
theorem Kin.row {U : Nat → Prop} {w w' : World} (h : Kin U w w') : ∀ {cs : List Value} {b o : Nat}, RowAt w b o cs → ∃ cs', RowAt w' b o cs' ∧ LikeL cs cs'
  | [], b, o, _ => ⟨[], RowAt.nil, .nil⟩
  | c :: cs, b, o, hr => by
    have hr' : RowAt w b o ([c] ++ cs) := hr
    obtain ⟨h1, h2⟩ := RowAt.split hr'
    obtain ⟨cs', h3, h4⟩ := Kin.row h h2
    obtain ⟨h5, h6⟩ := h1 0 (by simp)
    obtain ⟨v', h7, h8⟩ := h.cell b (o + 0) c (by simpa using h5)
    refine ⟨[v'] ++ cs', RowAt.join (fun j hj => ?_) h3, .cons h8 h4⟩
    have hj0 : j = 0 := by simp at hj; omega
    subst hj0
    exact ⟨by simpa using h7, h.frozen b (o + 0) c (by simpa using h5) h6⟩

theorem Kin.rd {U : Nat → Prop} {w w' : World} (h : Kin U w w') {S : Nat → Prop} : ∀ (s : Sh) {cs cs' : List Value} {x : s.T}, Rd s w S cs x → LikeL cs cs' → ∃ y : s.T, Rd s w' S cs' y
  | .int k, cs, cs', x, hr, hl => by
    obtain ⟨rfl, hw⟩ := hr
    cases hl with
    | cons h1 h2 =>
      cases h2
      cases h1 with
      | same => exact ⟨x, rfl, hw⟩
      | int _ _ b h' => exact ⟨b, rfl, h'⟩
  | .bool, cs, cs', x, hr, hl => by
    have hr : cs = [.bool x] := hr
    subst hr
    cases hl with
    | cons h1 h2 =>
      cases h2
      cases h1 with
      | same => exact ⟨x, rfl⟩
      | bool _ b => exact ⟨b, rfl⟩
  | .str, cs, cs', x, hr, hl => by
    obtain ⟨rfl, hw⟩ := hr
    cases hl with
    | cons h1 h2 =>
      cases h2
      cases h1 with
      | same => exact ⟨x, rfl, hw⟩
      | str _ b h' => exact ⟨b, rfl, h'⟩
  | .slice s, cs, cs', x, hr, hl => by
    obtain ⟨a, c, rfl, h1, h2, h3, h4⟩ := hr
    cases hl with
    | cons l1 l2 =>
      cases l2
      cases l1 with
      | emp => exact ⟨[], none, 0, rfl, Nat.le_refl _, Nat.zero_le _, fun _ => ⟨rfl, rfl⟩, fun i hi => absurd hi (by simp)⟩
      | same =>
        have key : ∀ i : Fin x.length, ∃ y : s.T, ∃ b off row, a = some ⟨b, off, none⟩ ∧ b < w'.heap.size ∧ S b ∧ row.length = s.size ∧ RowAt w' b (off + i.1 * s.size) row ∧ Rd s w' S row y := fun i => by
          obtain ⟨b, off, row, ha, hb, hS, hlen, hrow, hx⟩ := h4 i.1 i.2
          obtain ⟨row', hrow', hl'⟩ := h.row hrow
          obtain ⟨y, hy⟩ := Kin.rd h s hx hl'
          exact ⟨y, b, off, row', ha, Nat.lt_of_lt_of_le hb h.keep.size, hS, by rw [hl'.length, hlen], hrow', hy⟩
        refine ⟨List.ofFn fun i => (key i).choose, a, c, by rw [List.length_ofFn], by rw [List.length_ofFn]; exact h1, h2, fun ha => ?_, fun i hi => ?_⟩
        · obtain ⟨hx, hc⟩ := h3 ha
          subst hx
          exact ⟨rfl, hc⟩
        · rw [List.length_ofFn] at hi
          have := (key ⟨i, hi⟩).choose_spec
          simpa using this
  | .nil, cs, cs', x, hr, hl => by
    have hr : cs = [] := hr
    subst hr
    cases hl
    exact ⟨(), rfl⟩
  | .cons a b, cs, cs', x, hr, hl => by
    obtain ⟨c1, c2, rfl, h1, h2⟩ := hr
    obtain ⟨m1, m2, rfl, l1, l2⟩ := hl.split
    obtain ⟨y1, k1⟩ := Kin.rd h a h1 l1
    obtain ⟨y2, k2⟩ := Kin.rd h b h2 l2
    exact ⟨(y1, y2), m1, m2, rfl, k1, k2⟩
  | .struct b, cs, cs', x, hr, hl => Kin.rd h b hr hl
/-- a slice keeps its length -/
theorem Kin.slice {U : Nat → Prop} {w w' : World} (h : Kin U w w') {S : Nat → Prop} {s : Sh} {a : Option Addr} {n c : Nat} {l : List s.T} (hr : Rd (.slice s) w S [.slice a n c] l) : ∃ l' : List s.T, l'.length = n ∧ Rd (.slice s) w' S [.slice a n c] l' := by
  obtain ⟨l', h'⟩ := h.rd (.slice s) hr (LikeL.refl _)
  refine ⟨l', ?_, h'⟩
  obtain ⟨a', c', e, -⟩ := h'
  simp only [List.cons.injEq, Value.slice.injEq, and_true] at e
  exact e.2.1.symm
end Go.Proofs.YtnknihmchmmenaaGreat

namespace Go.Proofs.YtnknihmchmmenaaGreat
set_option linter.unusedVariables false
set_option linter.unusedSimpArgs false
open Go Go.RowKit Go.Deep

/-- the text that is written -/
def spoilt : ByteArray := ⟨#[115, 112, 111, 105, 108, 116]⟩
theorem spoilt_le : spoilt.size ≤ maxLen := by decide
/-- inside a plan's round: the plan's own block, and what has turned -/
structure SpoilIn (S : Nat → Prop) (w : World) (P : Nat) (cs : Array Value) (wr : World) : Prop where
  kin : Kin S w wr
  blk : wr.heap[P]? = some (.cells cs 38 (0, 0))
theorem SpoilIn.on {S : Nat → Prop} {w : World} {P : Nat} {cs : Array Value} {wr w' : World} (h : SpoilIn S w P cs wr) (hP : ¬ S P) (hk : Kin S wr w') : SpoilIn S w P cs w' := ⟨h.kin.trans hk, hk.keep.blk h.blk hP⟩

theorem kin_vals {U S : Nat → Prop} {w w' : World} (h : Kin U w w') {a : Option Addr} {n c : Nat} {l : List Val} (hr : Rd (.slice valueSh) w S [.slice a n c] l) (i : Nat) (hi : i < n) :
    ∃ b off x0 x1 x2, a = some ⟨b, off, none⟩ ∧ S b ∧ RowAt w' b (off + i * 3) [.int .i64 x0, .int .i64 x1, .string x2] := by
  obtain ⟨l', hl, hr'⟩ := h.slice hr
  obtain ⟨b, off, row, ha, -, hb, hS, -, hrow, hx⟩ := hr'.elem' i (by omega)
  obtain ⟨rfl, -, -⟩ := val_cells hx
  exact ⟨b, off, _, _, _, ha, hS, hrow⟩
theorem kin_strs {U S : Nat → Prop} {w w' : World} (h : Kin U w w') {a : Option Addr} {n c : Nat} {l : List ByteArray} (hr : Rd (.slice .str) w S [.slice a n c] l) (i : Nat) (hi : i < n) :
    ∃ b off x0, a = some ⟨b, off, none⟩ ∧ S b ∧ RowAt w' b (off + i) [.string x0] := by
  obtain ⟨l', hl, hr'⟩ := h.slice hr
  obtain ⟨b, off, row, ha, -, hb, hS, -, hrow, hx⟩ := Rd.elem' (s := .str) hr' i (by omega)
  obtain ⟨rfl, -⟩ := hx
  simp only [Sh.size, Nat.mul_one] at hrow
  exact ⟨b, off, _, ha, hS, hrow⟩

theorem Like.int_of {k : IntKind} {x : Int} {b : Value} (h : Like (.int k x) b) (y : Int) (hy : (Lit.int k y).wf = true) : Like b (.int k y) := by
  cases h with
  | same => exact .int _ _ _ hy
  | int => exact .int _ _ _ hy
theorem Like.str_of {x : ByteArray} {b : Value} (h : Like (.string x) b) (y : ByteArray) (hy : y.size ≤ maxLen) : Like b (.string y) := by
  cases h with
  | same => exact .str _ _ hy
  | str => exact .str _ _ hy
theorem Like.emp_of {a : Option Addr} {n c : Nat} {b : Value} (h : Like (.slice a n c) b) : Like b (.slice none 0 0) := by
  cases h with
  | same => exact .emp _ _ _
  | emp => exact .same _
/-- a plan's row may be written over -/
theorem kin_plan {U : Nat → Prop} {w w' : World} (h : Kin U w w') {b o : Nat} {v1 v2 v4 : Int} {v3 : ByteArray} {a1 a2 a3 : Option Addr} {n1 n2 n3 c1 c2 c3 : Nat} (hr : RowAt w b o [.int .i64 v1, .int .u64 v2, .string v3, .slice a1 n1 c1, .int .i64 v4, .slice a2 n2 c2, .slice a3 n3 c3]) :
    ∃ u0 u1 u2 u3 u4 u5 u6, RowAt w' b o [u0, u1, u2, u3, u4, u5, u6] ∧ LikeL [u0, u1, u2, u3, u4, u5, u6] [.int .i64 0, .int .u64 0, .string ⟨#[]⟩, .slice none 0 0, .int .i64 77, .slice none 0 0, .slice none 0 0] := by
  obtain ⟨cs', h1, h2⟩ := h.row hr
  cases h2 with
  | cons l0 t => cases t with
  | cons l1 t => cases t with
  | cons l2 t => cases t with
  | cons l3 t => cases t with
  | cons l4 t => cases t with
  | cons l5 t => cases t with
  | cons l6 t => cases t with
  | nil => exact ⟨_, _, _, _, _, _, _, h1, .cons (l0.int_of _ rfl) (.cons (l1.int_of _ rfl) (.cons (l2.str_of _ (Nat.zero_le _)) (.cons l3.emp_of (.cons (l4.int_of _ rfl) (.cons l5.emp_of (.cons l6.emp_of .nil))))))⟩

set_option maxRecDepth 10000 in
set_option maxHeartbeats 4000000 in
theorem lspoil_any (w : World) (S : Nat → Prop) (a : Option Addr) (n c : Nat) (ps : List Plan) (h : Rd (.slice planSh) w S [.slice a n c] ps) (hS : ∀ k, S k → k < w.heap.size) :
    Calls Tryz.prog 34 #[.slice a n c] w fun e w' => e = .returned (.tuple #[]) ∧ Kin S w w' := by
  have hn63 : n ≤ 9223372036854775807 := by
    obtain ⟨a', c', e, h1, h2, -⟩ := h
    simp only [List.cons.injEq, Value.slice.injEq, and_true] at e
    rw [maxLen_is] at h2
    omega
  have HH := Lib.hid (And.intro h hS)
  clear h hS
  go_enter Tryz.func34, Tryz.ntmps34
  go_wp2_with fail
  go_loopw [2] (fun i wr => ∃ k : Nat, i = .int .i64 k ∧ k ≤ n ∧ RowKit.Hid (Kin S w wr)) (fun i _ => n - (intOf i).toNat)
  case atStart => exact ⟨0, rfl, Nat.zero_le _, Kin.refl _ _⟩
  case round =>
    obtain ⟨k, rfl, hk, HA⟩ := hrel
    rename World => wo
    by_cases hlt : k < n
    · obtain ⟨h, hS⟩ := HH.out
      obtain ⟨l', hl', hr'⟩ : ∃ l' : List Plan, l'.length = n ∧ Rd (.slice planSh) wo S [.slice a n c] l' := Kin.slice HA.out h
      obtain ⟨b, off, x1, y1, x2, y2, x3, y3, rfl, -, hbl, hbS, hr, hx⟩ := planAt' hr' k (by omega)
      obtain ⟨d1, e1, d2, e2, d3, e3, hcs, g1, g2, g3, -⟩ := plan_cells hx
      simp only [List.cons.injEq, Value.slice.injEq, and_true, true_and] at hcs
      obtain ⟨⟨rfl, rfl⟩, ⟨rfl, rfl⟩, rfl, rfl⟩ := hcs
      have m1 : l'[k].args.length ≤ 9223372036854775807 := by
        obtain ⟨a', c', e, h1, h2, -⟩ := g1
        rw [maxLen_is] at h2
        omega
      have m2 : l'[k].reads.length ≤ 9223372036854775807 := by
        obtain ⟨a', c', e, h1, h2, -⟩ := g2
        rw [maxLen_is] at h2
        omega
      have m3 : l'[k].writes.length ≤ 9223372036854775807 := by
        obtain ⟨a', c', e, h1, h2, -⟩ := g3
        rw [maxLen_is] at h2
        omega
      obtain ⟨r0, r1, r2, r3, r4, r5, r6⟩ := row_seven hr
      have hrow := hr
      generalize l'[k] = pk at *
      clear hr' hl'
      have j0 : (0 : Int) ≤ (k : Int) := by omega
      have j1 : (k : Int) < (n : Int) := by omega
      have j3 : (k : Int) ≤ 9223372036854775806 := by omega
      have HX := Lib.hid (And.intro hlt (And.intro hbS (And.intro hrow (And.intro g1 (And.intro g2 g3)))))
      have hPS : ¬ S wo.heap.size := fun hh => by have := hS _ hh; have := HA.out.keep.size; omega
      clear hr hx hbl hbS hrow g1 g2 g3 h hS hlt hk
      generalize pk.client = v1 at *
      generalize pk.token = v2 at *
      generalize pk.name = v3 at *
      generalize pk.how = v4 at *
      generalize pk.args.length = n1 at *
      generalize pk.reads.length = n2 at *
      generalize pk.writes.length = n3 at *
      go_wp2_with fail
      have HW0 := Lib.hid (And.intro HA.out ((Kin.ofKeep (S := S) ((Keep.refl No wo).alloc (.cells #[.int .i64 v1, .int .u64 v2, .string v3, .slice y1 n1 x1, .int .i64 v4, .slice y2 n2 x2, .slice y3 n3 x3] 38)))))
      have x0 := blk_new wo (.cells #[.int .i64 v1, .int .u64 v2, .string v3, .slice y1 n1 x1, .int .i64 v4, .slice y2 n2 x2, .slice y3 n3 x3] 38)
      have HI0 : RowKit.Hid (SpoilIn S wo wo.heap.size #[.int .i64 v1, .int .u64 v2, .string v3, .slice y1 n1 x1, .int .i64 v4, .slice y2 n2 x2, .slice y3 n3 x3] (wo.alloc (.cells #[.int .i64 v1, .int .u64 v2, .string v3, .slice y1 n1 x1, .int .i64 v4, .slice y2 n2 x2, .slice y3 n3 x3] 38))) := ⟨HW0.out.2, x0⟩
      generalize (wo.alloc (.cells #[.int .i64 v1, .int .u64 v2, .string v3, .slice y1 n1 x1, .int .i64 v4, .slice y2 n2 x2, .slice y3 n3 x3] 38)) = w1 at *
      clear x0 r0 r1 r2 r3 r4 r5 r6 HW0
      obtain ⟨P, hP⟩ : ∃ P, wo.heap.size = P := ⟨_, rfl⟩
      rw [hP] at hPS HI0
      rw [hP]
      clear hP
      go_loopw [4] (fun i wx => ∃ j : Nat, i = .int .i64 j ∧ j ≤ n1 ∧ RowKit.Hid (SpoilIn S wo P #[.int .i64 v1, .int .u64 v2, .string v3, .slice y1 n1 x1, .int .i64 v4, .slice y2 n2 x2, .slice y3 n3 x3] wx)) (fun i _ => n1 - (intOf i).toNat)
      case atStart => exact ⟨0, rfl, Nat.zero_le _, HI0⟩
      case round =>
        clear HI0
        obtain ⟨j, rfl, hj, HI⟩ := hrel
        have q := blk_cell HI.out.blk
        by_cases hlt : j < n1
        · obtain ⟨b', off', z0, z1, z2, rfl, hbS', hrw⟩ := kin_vals HI.out.kin HX.out.2.2.2.1 j hlt
          have i0 : (0 : Int) ≤ (j : Int) := by omega
          have i1 : (j : Int) < (n1 : Int) := by omega
          have i3 : (j : Int) ≤ 9223372036854775806 := by omega
          obtain ⟨p0, f0⟩ := hrw 0 (by simp)
          obtain ⟨p1, f1⟩ := hrw 1 (by simp)
          obtain ⟨p2, f2⟩ := hrw 2 (by simp)
          simp only [List.getElem?_cons_zero, List.getElem?_cons_succ, Nat.add_zero] at p0 p1 p2 f0 f1 f2
          have hnew := HI.out.on hPS (Kin.all hbS' (LikeL.cons (Like.int .i64 z0 77 rfl) (.cons (Like.int .i64 z1 0 rfl) (.cons (Like.str z2 ⟨#[]⟩ (Nat.zero_le _)) .nil))) hrw)
          have HN := Lib.hid hnew
          have HLT : RowKit.Hid (j < n1) := hlt
          clear hnew hrw hlt hj
          go_wp2_with fail
          go_roundw
          case rel => exact ⟨j + 1, by simp, HLT.out, HN⟩
          case measure => simp [intOf]; have := HLT.out; omega
        · have hjn : n1 = j := by omega
          subst hjn
          clear hlt hj
          go_wp2_with fail
          go_loopw [5] (fun i wx => ∃ j : Nat, i = .int .i64 j ∧ j ≤ n2 ∧ RowKit.Hid (SpoilIn S wo P #[.int .i64 v1, .int .u64 v2, .string v3, .slice y1 n1 x1, .int .i64 v4, .slice y2 n2 x2, .slice y3 n3 x3] wx)) (fun i _ => n2 - (intOf i).toNat)
          case atStart => exact ⟨0, rfl, Nat.zero_le _, HI⟩
          case round =>
            clear HI
            obtain ⟨j, rfl, hj, HI⟩ := hrel
            have q := blk_cell HI.out.blk
            by_cases hlt : j < n2
            · obtain ⟨b', off', z0, rfl, hbS', hrw⟩ := kin_strs HI.out.kin HX.out.2.2.2.2.1 j hlt
              have i0 : (0 : Int) ≤ (j : Int) := by omega
              have i1 : (j : Int) < (n2 : Int) := by omega
              have i3 : (j : Int) ≤ 9223372036854775806 := by omega
              obtain ⟨p0, f0⟩ := hrw 0 (by simp)
              simp only [List.getElem?_cons_zero, Nat.add_zero] at p0 f0
              have hnew := HI.out.on hPS (Kin.all hbS' (LikeL.cons (Like.str z0 spoilt spoilt_le) .nil) hrw)
              have HN := Lib.hid hnew
              have HLT : RowKit.Hid (j < n2) := hlt
              clear hnew hrw hlt hj
              go_wp2_with fail
              go_roundw
              case rel => exact ⟨j + 1, by simp, HLT.out, HN⟩
              case measure => simp [intOf]; have := HLT.out; omega
            · have hjn : n2 = j := by omega
              subst hjn
              clear hlt hj
              go_wp2_with fail
              go_loopw [6] (fun i wx => ∃ j : Nat, i = .int .i64 j ∧ j ≤ n3 ∧ RowKit.Hid (SpoilIn S wo P #[.int .i64 v1, .int .u64 v2, .string v3, .slice y1 n1 x1, .int .i64 v4, .slice y2 n2 x2, .slice y3 n3 x3] wx)) (fun i _ => n3 - (intOf i).toNat)
              case atStart => exact ⟨0, rfl, Nat.zero_le _, HI⟩
              case round =>
                clear HI
                obtain ⟨j, rfl, hj, HI⟩ := hrel
                have q := blk_cell HI.out.blk
                by_cases hlt : j < n3
                · obtain ⟨b', off', z0, rfl, hbS', hrw⟩ := kin_strs HI.out.kin HX.out.2.2.2.2.2 j hlt
                  have i0 : (0 : Int) ≤ (j : Int) := by omega
                  have i1 : (j : Int) < (n3 : Int) := by omega
                  have i3 : (j : Int) ≤ 9223372036854775806 := by omega
                  obtain ⟨p0, f0⟩ := hrw 0 (by simp)
                  simp only [List.getElem?_cons_zero, Nat.add_zero] at p0 f0
                  have hnew := HI.out.on hPS (Kin.all hbS' (LikeL.cons (Like.str z0 spoilt spoilt_le) .nil) hrw)
                  have HN := Lib.hid hnew
                  have HLT : RowKit.Hid (j < n3) := hlt
                  clear hnew hrw hlt hj
                  go_wp2_with fail
                  go_roundw
                  case rel => exact ⟨j + 1, by simp, HLT.out, HN⟩
                  case measure => simp [intOf]; have := HLT.out; omega
                · have hjn : n3 = j := by omega
                  subst hjn
                  clear hlt hj
                  obtain ⟨t0, t1, t2, t3, t4, t5, t6, hrw, hlk⟩ := kin_plan HI.out.kin HX.out.2.2.1
                  obtain ⟨p0, f0⟩ := hrw 0 (by simp)
                  obtain ⟨p1, f1⟩ := hrw 1 (by simp)
                  obtain ⟨p2, f2⟩ := hrw 2 (by simp)
                  obtain ⟨p3, f3⟩ := hrw 3 (by simp)
                  obtain ⟨p4, f4⟩ := hrw 4 (by simp)
                  obtain ⟨p5, f5⟩ := hrw 5 (by simp)
                  obtain ⟨p6, f6⟩ := hrw 6 (by simp)
                  simp only [List.getElem?_cons_zero, List.getElem?_cons_succ, Nat.add_zero] at p0 p1 p2 p3 p4 p5 p6 f0 f1 f2 f3 f4 f5 f6
                  have HN := Lib.hid ((HA.out.trans HI.out.kin).trans (Kin.all HX.out.2.1 hlk hrw))
                  clear hrw hlk
                  go_wp2_with fail
                  go_roundw
                  case rel => exact ⟨k + 1, by simp, HX.out.1, HN⟩
                  case measure => simp [intOf]; have := HX.out.1; omega
    · obtain rfl : k = n := by omega
      clear hlt hk
      go_wp2_with fail
      go_end0
      exact ⟨rfl, HA.out⟩
end Go.Proofs.YtnknihmchmmenaaGreat

namespace Go.Proofs.YtnknihmchmmenaaGreat
set_option linter.unusedVariables false
set_option linter.unusedSimpArgs false
open Go Go.RowKit Go.Deep

theorem value_cells {w : World} {S : Nat → Prop} {cs : List Value} {x : valueSh.T} (h : Rd valueSh w S cs x) : cs = [.int .i64 x.1, .int .i64 x.2.1, .string x.2.2.1] := by
  obtain ⟨_, _, rfl, ⟨rfl, w1⟩, _, _, rfl, ⟨rfl, w2⟩, _, _, rfl, ⟨rfl, w3⟩, rfl⟩ := h
  rfl

theorem take_eq_succ {α : Type} {a b : List α} {k : Nat} (ha : k < a.length) (hb : k < b.length) (h : a.take k = b.take k) (e : a[k] = b[k]) : a.take (k + 1) = b.take (k + 1) := by
  rw [List.take_succ_eq_append_getElem ha, List.take_succ_eq_append_getElem hb, h, e]

/-- true, and nothing but draws -/
def QuietTrue (w : World) (e : Ending) (w' : World) : Prop := ∃ n, e = .returned (.bool true) ∧ w' = w.drewN n

set_option maxRecDepth 10000 in
set_option maxHeartbeats 1000000 in
theorem values_eq (w : World) (S T : Nat → Prop) (a1 a2 : Option Addr) (c1 c2 : Nat) (l : List valueSh.T) (h1 : Rd (.slice valueSh) w S [.slice a1 l.length c1] l) (h2 : Rd (.slice valueSh) w T [.slice a2 l.length c2] l) (hl : l.length ≤ 1048576) :
    Calls Tryz.prog 92 #[.slice a1 l.length c1, .slice a2 l.length c2] w (QuietTrue w) := by
  go_enter Tryz.func92, Tryz.ntmps92
  go_wp2_with fail
  go_loopw [5] (fun i wr => ∃ k n : Nat, k ≤ l.length ∧ i = .int .i64 k ∧ wr = w.drewN n) (fun i _ => l.length - (intOf i).toNat)
  case atStart => exact ⟨0, 0, Nat.zero_le _, rfl, rfl⟩
  case round =>
    obtain ⟨k, n, hk, rfl, rfl⟩ := hrel
    by_cases hlt : k < l.length
    · obtain ⟨b1, o1, r1, rfl, -, hb1, -, hr1, hrow1, hx1⟩ := h1.elem' k hlt
      obtain ⟨b2, o2, r2, rfl, -, hb2, -, hr2, hrow2, hx2⟩ := h2.elem' k hlt
      obtain rfl := value_cells hx1
      obtain rfl := value_cells hx2
      have p0 := (hrow1 0 (by simp)).1
      have p1 := (hrow1 1 (by simp)).1
      have p2 := (hrow1 2 (by simp)).1
      have s0 := (hrow2 0 (by simp)).1
      have s1 := (hrow2 1 (by simp)).1
      have s2 := (hrow2 2 (by simp)).1
      simp [Sh.size] at p0 p1 p2 s0 s1 s2
      have j0 : (0 : Int) ≤ (k : Int) := by omega
      have j1 : (k : Int) < (l.length : Int) := by omega
      have hq := fun w => run_neq_value w l[k] l[k]
      have hd : decide (l[k] ≠ l[k]) = false := by simp
      rw [hd] at hq
      clear hx1 hx2 hrow1 hrow2 h1 h2 hd
      go_wp2_with fail
      refine wp_region_can [0, 1, 2, 3, 4, 5, 6, 7, 8] [] [] (by kernel_rfl) (by kernel_rfl) (by kernel_rfl) (by kernel_rfl) (by intro c a d v w h; cases d <;> exact h) ?_
      iterate 9 (refine can_sil rfl rfl (fun K hK => ?_); go_simp; refine hK _ ?_; clear hK K)
      refine can_nil ?_
      go_wp2_with fail
      go_roundw
      case rel => exact ⟨k + 1, n + 1, by omega, by go_num, rfl⟩
      case measure => simp [intOf]; omega
    · go_wp2_with fail
      go_ret
      exact ⟨n, rfl, rfl⟩

set_option maxRecDepth 10000 in
set_option maxHeartbeats 1000000 in
theorem texts_eq (w : World) (S T : Nat → Prop) (a1 a2 : Option Addr) (c1 c2 : Nat) (l : List ByteArray) (h1 : Rd (.slice .str) w S [.slice a1 l.length c1] l) (h2 : Rd (.slice .str) w T [.slice a2 l.length c2] l) (hl : l.length ≤ 1048576) :
    Calls Tryz.prog 93 #[.slice a1 l.length c1, .slice a2 l.length c2] w (QuietTrue w) := by
  go_enter Tryz.func93, Tryz.ntmps93
  go_wp2_with fail
  go_loopw [5] (fun i wr => ∃ k n : Nat, k ≤ l.length ∧ i = .int .i64 k ∧ wr = w.drewN n) (fun i _ => l.length - (intOf i).toNat)
  case atStart => exact ⟨0, 0, Nat.zero_le _, rfl, rfl⟩
  case round =>
    obtain ⟨k, n, hk, rfl, rfl⟩ := hrel
    by_cases hlt : k < l.length
    · obtain ⟨b1, o1, r1, rfl, -, hb1, -, hr1, hrow1, hx1⟩ := h1.elem' k hlt
      obtain ⟨b2, o2, r2, rfl, -, hb2, -, hr2, hrow2, hx2⟩ := h2.elem' k hlt
      obtain ⟨rfl, -⟩ := hx1
      obtain ⟨rfl, -⟩ := hx2
      have p0 := (hrow1 0 (by simp)).1
      have s0 := (hrow2 0 (by simp)).1
      simp [Sh.size] at p0 s0
      have j0 : (0 : Int) ≤ (k : Int) := by omega
      have j1 : (k : Int) < (l.length : Int) := by omega
      clear hrow1 hrow2 h1 h2
      go_wp2_with fail
      refine wp_region_can [0, 1, 2, 3, 4, 5, 6, 7, 8] [] [] (by kernel_rfl) (by kernel_rfl) (by kernel_rfl) (by kernel_rfl) (by intro c a d v w h; cases d <;> exact h) ?_
      iterate 9 (refine can_sil rfl rfl (fun K hK => ?_); go_simp; refine hK _ ?_; clear hK K)
      refine can_nil ?_
      go_wp2_with fail
      go_roundw
      case rel => exact ⟨k + 1, n + 1, by omega, by go_num, rfl⟩
      case measure => simp [intOf]; omega
    · go_wp2_with fail
      go_ret
      exact ⟨n, rfl, rfl⟩

set_option maxRecDepth 10000 in
set_option maxHeartbeats 1000000 in
theorem same_eq (w : World) (S T : Nat → Prop) (cs ds : List Value) (p : Plan) (h1 : Rd planSh w S cs p) (h2 : Rd planSh w T ds p) (l1 : p.args.length ≤ 1048576) (l2 : p.reads.length ≤ 1048576) (l3 : p.writes.length ≤ 1048576) :
    Calls Tryz.prog 33 #[.agg cs.toArray, .agg ds.toArray] w fun e w' => e = .returned (.bool true) ∧ Keep No w w' := by
  obtain ⟨a1, c1, a2, c2, a3, c3, rfl, p1, p2, p3, -⟩ := plan_cells h1
  obtain ⟨b1, d1, b2, d2, b3, d3, rfl, q1, q2, q3, -⟩ := plan_cells h2
  clear h1 h2
  go_enter Tryz.func33, Tryz.ntmps33
  go_wp2_with fail
  refine (values_eq _ S T _ _ _ _ _ (Rd.agree _ p1 (by exact (((((Keep.refl No w).alloc _).alloc _).alloc _).alloc _).agreeNo)) (Rd.agree _ q1 (by exact (((((Keep.refl No w).alloc _).alloc _).alloc _).alloc _).agreeNo)) l1).mono ?_
  rintro e w' ⟨n1, rfl, rfl⟩
  go_wp2_with fail
  refine (texts_eq _ S T _ _ _ _ _ (Rd.agree _ p2 (by exact ((((((Keep.refl No w).alloc _).alloc _).alloc _).alloc _).drewN _).agreeNo)) (Rd.agree _ q2 (by exact ((((((Keep.refl No w).alloc _).alloc _).alloc _).alloc _).drewN _).agreeNo)) l2).mono ?_
  rintro e w' ⟨n2, rfl, rfl⟩
  go_wp2_with fail
  refine (texts_eq _ S T _ _ _ _ _ (Rd.agree _ p3 (by exact ((((((Keep.refl No w).alloc _).alloc _).alloc _).alloc _).drewN _).agreeNo)) (Rd.agree _ q3 (by exact ((((((Keep.refl No w).alloc _).alloc _).alloc _).alloc _).drewN _).agreeNo)) l3).mono ?_
  rintro e w' ⟨n3, rfl, rfl⟩
  go_wp2_with fail
  go_ret
  exact ⟨rfl, by first | exact (((((Keep.refl No w).alloc _).alloc _).alloc _).alloc _).drewN _⟩

end Go.Proofs.YtnknihmchmmenaaGreat
