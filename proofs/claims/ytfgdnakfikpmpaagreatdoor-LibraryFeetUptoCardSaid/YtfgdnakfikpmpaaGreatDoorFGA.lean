/-
  Parts of what is proved for this claim; each declaration is one of the seat's texts.
-/
import Derived.Test.YtfgdnakfikpmpaaGreatDoorRows
import Derived.WalkSpells
import Derived.WalkLawsBesides
import Derived.ProofKit
import Derived.Deep.Slices
import Derived.Deep.AppendSrc
import Derived.Lib.Hide
set_option linter.unusedVariables false
set_option linter.unusedSimpArgs false
namespace Go.Proofs.YtfgdnakfikpmpaaGreatDoor
open Go Go.RowKit Go.Deep
structure Keep (M : Nat → Prop) (w w' : World) : Prop where
  os : w'.os = w.os
  tape : w'.tape = w.tape
  output : w'.output = w.output
  size : w.heap.size ≤ w'.heap.size
  block : ∀ k, k < w.heap.size → ¬ M k → w'.heap[k]? = w.heap[k]?
def No : Nat → Prop := fun _ => False
def One (g : Nat) : Nat → Prop := fun k => k = g
def Fr (a b : Nat) : Nat → Prop := fun k => a ≤ k ∧ k < b
def Up (a : Nat) : Nat → Prop := fun k => a ≤ k
def Lt (b : Nat) : Nat → Prop := fun k => k < b
theorem Keep.refl (M : Nat → Prop) (w : World) : Keep M w w := ⟨rfl, rfl, rfl, Nat.le_refl _, fun _ _ _ => rfl⟩
theorem Keep.mono {M N : Nat → Prop} {w w' : World} (h : Keep M w w') (hm : ∀ k, k < w.heap.size → M k → N k) : Keep N w w' :=
  ⟨h.os, h.tape, h.output, h.size, fun k hk hn => h.block k hk fun m => hn (hm k hk m)⟩
theorem Keep.trans {M : Nat → Prop} {a b c : World} (h : Keep M a b) (k : Keep M b c) : Keep M a c :=
  ⟨k.os.trans h.os, k.tape.trans h.tape, k.output.trans h.output, Nat.le_trans h.size k.size,
    fun i hi hn => (k.block i (Nat.lt_of_lt_of_le hi h.size) hn).trans (h.block i hi hn)⟩
theorem Keep.then {M N : Nat → Prop} {a b c : World} (h : Keep M a b) (k : Keep N b c) (hn : ∀ i, i < a.heap.size → N i → M i) : Keep M a c :=
  ⟨k.os.trans h.os, k.tape.trans h.tape, k.output.trans h.output, Nat.le_trans h.size k.size,
    fun i hi hm => (k.block i (Nat.lt_of_lt_of_le hi h.size) (fun x => hm (hn i hi x))).trans (h.block i hi hm)⟩
theorem Keep.thenNo {M : Nat → Prop} {a b c : World} (h : Keep M a b) (k : Keep No b c) : Keep M a c := h.then k fun _ _ x => x.elim
theorem Keep.drew {M : Nat → Prop} {a w : World} (h : Keep M a w) : Keep M a w.drew := ⟨h.os, h.tape, h.output, h.size, h.block⟩
theorem Keep.drewN {M : Nat → Prop} {a w : World} (h : Keep M a w) (n : Nat) : Keep M a (w.drewN n) := ⟨h.os, h.tape, h.output, h.size, h.block⟩
theorem Keep.alloc {M : Nat → Prop} {a w : World} (h : Keep M a w) (o : Obj) : Keep M a (w.alloc o) :=
  h.trans ⟨rfl, rfl, rfl, by simp, fun k hk _ => Below.heap_alloc _ _ _ (by omega)⟩
theorem Keep.setCell {M : Nat → Prop} {a w : World} (h : Keep M a w) {p : Addr} (hp : p.block < a.heap.size → M p.block) (u : Value) : Keep M a (w.setCell p u) :=
  h.then (N := One p.block) ⟨rfl, rfl, rfl, by simp, fun k _ hm => Below.heap_setCell _ _ _ _ (fun e => hm e)⟩ (fun i hi e => by cases (show i = p.block from e); exact hp hi)
theorem Keep.grown {w w' : World} {row : Option Nat} (hg : w.grownBy w' row) : Keep (fun k => some k = row) w w' := ⟨hg.os, hg.tape, hg.output, hg.size, hg.block⟩
theorem Keep.ofBelow {w w' : World} (h : Below w.heap.size w w') : Keep No w w' := ⟨h.os, h.tape, h.output, h.size, fun k hk _ => h.block k hk⟩
theorem Keep.below {w w' : World} (h : Keep No w w') : Below w.heap.size w w' := ⟨h.os, h.tape, h.output, h.size, fun k hk => h.block k hk (fun x => x)⟩
theorem Keep.cell {M : Nat → Prop} {w w' : World} (h : Keep M w w') {b o : Nat} (hb : b < w.heap.size) (hn : ¬ M b) : w'.cell? ⟨b, o, none⟩ = w.cell? ⟨b, o, none⟩ := World.cell?_of_block (a := ⟨b, o, none⟩) (h.block b hb hn)
theorem Keep.setRow {M : Nat → Prop} {a w : World} (h : Keep M a w) {g : Nat} (hp : g < a.heap.size → M g) (cs : Array Value) : Keep M a (w.setRow g cs) :=
  h.then (N := One g) ⟨rfl, rfl, rfl, by simp, fun k _ hm => setRow_other w g k _ (fun e => hm e)⟩ (fun i hi e => by cases (show i = g from e); exact hp hi)
def Agree (S : Nat → Prop) (w w' : World) : Prop := ∀ k, k < w.heap.size → S k → w'.heap[k]? = w.heap[k]?
theorem Agree.refl (S : Nat → Prop) (w : World) : Agree S w w := fun _ _ _ => rfl
theorem Agree.mono {S T : Nat → Prop} {a b : World} (h : Agree S a b) (hs : ∀ k, T k → S k) : Agree T a b := fun i hl hi => h i hl (hs i hi)
theorem Keep.agree {M S : Nat → Prop} {w w' : World} (h : Keep M w w') (hs : ∀ k, k < w.heap.size → S k → ¬ M k) : Agree S w w' := fun k hl hk => h.block k hl (hs k hl hk)
theorem Keep.agreeNo {S : Nat → Prop} {w w' : World} (h : Keep No w w') : Agree S w w' := h.agree fun _ _ _ x => x
theorem lt_of_block_eq {w w' : World} {b : Nat} (hb : b < w.heap.size) (e : w'.heap[b]? = w.heap[b]?) : b < w'.heap.size := by
  rw [Array.getElem?_eq_getElem hb] at e
  exact (Array.getElem?_eq_some_iff.1 e).1
theorem Keep.blk {M : Nat → Prop} {w w' : World} {b : Nat} {o : Obj} (h : Keep M w w') (hb : w.heap[b]? = some o) (hn : ¬ M b) : w'.heap[b]? = some o :=
  (h.block b (Array.getElem?_eq_some_iff.1 hb).1 hn).trans hb
theorem blk_lt {w : World} {b : Nat} {o : Obj} (hb : w.heap[b]? = some o) : b < w.heap.size := (Array.getElem?_eq_some_iff.1 hb).1
theorem blk_alloc {w : World} {b : Nat} {o o' : Obj} (hb : w.heap[b]? = some o) : (w.alloc o').heap[b]? = some o := (Below.heap_alloc w o' b (blk_lt hb)).trans hb
theorem blk_new (w : World) (o : Obj) : (w.alloc o).heap[w.heap.size]? = some o := heap_alloc_new w o
theorem blk_set {w : World} {b : Nat} {cs : Array Value} {t : TypeId} (hb : w.heap[b]? = some (.cells cs t (0, 0))) (i : Nat) (v : Value) : (w.setCell ⟨b, i, none⟩ v).heap[b]? = some (.cells (cs.setIfInBounds i v) t (0, 0)) := by
  rw [setCell_eq_setRow w b i cs t (0, 0) v hb]
  exact setRow_heap w b _ _ t _ hb
theorem blk_other {w : World} {b : Nat} {o : Obj} (hb : w.heap[b]? = some o) {a : Addr} (hn : a.block ≠ b) (v : Value) : (w.setCell a v).heap[b]? = some o := by
  rw [Below.heap_setCell _ _ _ _ (fun e => hn e.symm)]; exact hb
theorem blk_cell {w : World} {b : Nat} {cs : Array Value} {t : TypeId} {fr : Nat × Nat} (hb : w.heap[b]? = some (.cells cs t fr)) : ∀ j, w.cell? ⟨b, j, none⟩ = cs[j]? := fun j => cell_of_row w b j cs t fr hb
theorem blk_fro {w : World} {b : Nat} {cs : Array Value} {t : TypeId} (hb : w.heap[b]? = some (.cells cs t (0, 0))) : ∀ j, w.frozen? ⟨b, j, none⟩ = false := fun j => Go.frozen_of_row w b j cs t hb
theorem keep_set (w : World) (b i : Nat) (v : Value) : Keep (One b) w (w.setCell ⟨b, i, none⟩ v) := Keep.setCell (M := One b) (p := ⟨b, i, none⟩) (Keep.refl _ w) (fun _ => rfl) v
theorem agree_set {S : Nat → Prop} {w : World} {b : Nat} (h : ¬ S b) (i : Nat) (v : Value) : Agree S w (w.setCell ⟨b, i, none⟩ v) := (keep_set w b i v).agree fun _ _ hs e => h (e ▸ hs)
theorem Fr.not {a b k : Nat} (h : k < a) : ¬ Fr a b k := fun x => by have := x.1; omega
theorem Keep.setNew {M : Nat → Prop} {a w : World} (h : Keep M a w) {p : Addr} (hp : a.heap.size ≤ p.block) (u : Value) : Keep M a (w.setCell p u) := h.setCell (fun hh => absurd hh (by omega)) u
def RowAt (w : World) (b o : Nat) (cs : List Value) : Prop := ∀ j, j < cs.length → w.cell? ⟨b, o + j, none⟩ = cs[j]? ∧ w.frozen? ⟨b, o + j, none⟩ = false
theorem RowAt.agree {w w' : World} {b o : Nat} {cs : List Value} (h : RowAt w b o cs) (e : w'.heap[b]? = w.heap[b]?) : RowAt w' b o cs := fun j hj =>
  ⟨(World.cell?_of_block (a := ⟨b, o + j, none⟩) e).trans (h j hj).1, (World.frozen?_of_block (a := ⟨b, o + j, none⟩) e).trans (h j hj).2⟩
theorem RowAt.ofBlock {w : World} {g : Nat} {cur : Array Value} {e : TypeId} (hg : w.heap[g]? = some (.cells cur e (0, 0))) (o n : Nat) : RowAt w g o ((cur.toList.drop o).take n) := fun j hj => by
  simp at hj
  refine ⟨?_, Go.frozen_of_row w g _ cur e hg⟩
  rw [cell_of_row w g _ cur e (0, 0) hg, List.getElem?_take, if_pos (by omega), List.getElem?_drop]
  simp
inductive Sh where
  | int (k : IntKind)
  | bool
  | str
  | slice (s : Sh)
  | nil
  | cons (a b : Sh)
  | struct (b : Sh)
def Sh.size : Sh → Nat
  | .int _ | .bool | .str | .slice _ => 1
  | .nil => 0
  | .cons a b => a.size + b.size
  | .struct b => b.size
@[reducible] def Sh.T : Sh → Type
  | .int _ => Int
  | .bool => Bool
  | .str => ByteArray
  | .slice s => List s.T
  | .nil => Unit
  | .cons a b => a.T × b.T
  | .struct b => b.T
def Sh.bulk : (s : Sh) → s.T → Nat
  | .int _, _ => 1
  | .bool, _ => 1
  | .str, x => x.size + 1
  | .slice s, l => (l.map s.bulk).sum + 1
  | .nil, _ => 0
  | .cons a b, x => a.bulk x.1 + b.bulk x.2
  | .struct b, x => b.bulk x + 1
def Rd : (s : Sh) → World → (Nat → Prop) → List Value → s.T → Prop
  | .int k, _, _, cs, x => cs = [.int k x] ∧ (Lit.int k x).wf = true
  | .bool, _, _, cs, x => cs = [.bool x]
  | .str, _, _, cs, x => cs = [.string x] ∧ x.size ≤ maxLen
  | .slice s, w, S, cs, l => ∃ (a : Option Addr) (c : Nat), cs = [.slice a l.length c] ∧ l.length ≤ c ∧ c ≤ maxLen ∧ (a = none → l = [] ∧ c = 0) ∧
      ∀ i (hi : i < l.length), ∃ b off row, a = some ⟨b, off, none⟩ ∧ b < w.heap.size ∧ S b ∧ row.length = s.size ∧ RowAt w b (off + i * s.size) row ∧ Rd s w S row l[i]
  | .nil, _, _, cs, _ => cs = []
  | .cons a b, w, S, cs, x => ∃ c1 c2, cs = c1 ++ c2 ∧ Rd a w S c1 x.1 ∧ Rd b w S c2 x.2
  | .struct b, w, S, cs, x => Rd b w S cs x
theorem Rd.length : ∀ (s : Sh) {w : World} {S : Nat → Prop} {cs : List Value} {x : s.T}, Rd s w S cs x → cs.length = s.size
  | .int _, _, _, _, _, h => by rw [h.1]; rfl
  | .bool, _, _, _, _, h => by rw [show _ = _ from h]; rfl
  | .str, _, _, _, _, h => by rw [h.1]; rfl
  | .slice s, _, _, _, _, h => by obtain ⟨a, c, rfl, _⟩ := h; rfl
  | .nil, _, _, _, _, h => by rw [show _ = _ from h]; rfl
  | .cons a b, _, _, _, _, h => by
    obtain ⟨c1, c2, rfl, h1, h2⟩ := h
    rw [List.length_append, Rd.length a h1, Rd.length b h2]; rfl
  | .struct b, _, _, _, x, h => Rd.length (x := x) b h
theorem Rd.agree : ∀ (s : Sh) {w w' : World} {S : Nat → Prop} {cs : List Value} {x : s.T}, Rd s w S cs x → Agree S w w' → Rd s w' S cs x
  | .int _, _, _, _, _, _, h, _ => h
  | .bool, _, _, _, _, _, h, _ => h
  | .str, _, _, _, _, _, h, _ => h
  | .slice s, _, _, _, _, _, h, e => by
    obtain ⟨a, c, rfl, h1, h2, h3, h4⟩ := h
    refine ⟨a, c, rfl, h1, h2, h3, fun i hi => ?_⟩
    obtain ⟨b, off, row, ha, hb, hS, hl, hr, hx⟩ := h4 i hi
    exact ⟨b, off, row, ha, lt_of_block_eq hb (e b hb hS), hS, hl, hr.agree (e b hb hS), Rd.agree s hx e⟩
  | .nil, _, _, _, _, _, h, _ => h
  | .cons a b, _, _, _, _, _, h, e => by
    obtain ⟨c1, c2, rfl, h1, h2⟩ := h
    exact ⟨c1, c2, rfl, Rd.agree a h1 e, Rd.agree b h2 e⟩
  | .struct b, _, _, _, _, _, h, e => Rd.agree b h e
theorem Rd.mono : ∀ (s : Sh) {w : World} {S T : Nat → Prop} {cs : List Value} {x : s.T}, Rd s w S cs x → (∀ k, k < w.heap.size → S k → T k) → Rd s w T cs x
  | .int _, _, _, _, _, _, h, _ => h
  | .bool, _, _, _, _, _, h, _ => h
  | .str, _, _, _, _, _, h, _ => h
  | .slice s, w, S, T, _, _, h, e => by
    obtain ⟨a, c, rfl, h1, h2, h3, h4⟩ := h
    refine ⟨a, c, rfl, h1, h2, h3, fun i hi => ?_⟩
    obtain ⟨b, off, row, ha, hb, hS, hl, hr, hx⟩ := h4 i hi
    exact ⟨b, off, row, ha, hb, e b hb hS, hl, hr, Rd.mono s hx e⟩
  | .nil, _, _, _, _, _, h, _ => h
  | .cons a b, _, _, _, _, _, h, e => by
    obtain ⟨c1, c2, rfl, h1, h2⟩ := h
    exact ⟨c1, c2, rfl, Rd.mono a h1 e, Rd.mono b h2 e⟩
  | .struct b, _, _, _, _, _, h, e => Rd.mono b h e
def Sh.okb (P : Program) : Sh → (TypeId → Bool) × (List Field → Nat → Bool)
  | .int k => (fun t => match P.underlying t with | some (.int k') => decide (k' = k) | _ => false, fun _ _ => false)
  | .bool => (fun t => match P.underlying t with | some .bool => true | _ => false, fun _ _ => false)
  | .str => (fun t => match P.underlying t with | some .string => true | _ => false, fun _ _ => false)
  | .slice s => (fun t => match P.underlying t with | some (.slice e) => P.cellsOf e == s.size && decide (0 < s.size) && (s.okb P).1 e | _ => false, fun _ _ => false)
  | .nil => (fun _ => false, fun fs _ => fs.isEmpty)
  | .cons a b => (fun _ => false, fun fs off => match fs with | f :: r => f.offset == off && P.cellsOf f.type == a.size && (a.okb P).1 f.type && (b.okb P).2 r (off + a.size) | [] => false)
  | .struct b => (fun t => match P.underlying t with | some (.struct fs) => P.cellsOf t == b.size && (b.okb P).2 fs.toList 0 | _ => false, fun _ _ => false)
section
variable {H : Type} {enc : TypeId × Value → H} {P : Program} {w : World} {held : Bool}
theorem bulkAll_append (l r : List (DataW H)) : Rows.uptoBulkAll (l ++ r) = Rows.uptoBulkAll l + Rows.uptoBulkAll r := by
  induction l with
  | nil => simp [Rows.uptoBulkAll]
  | cons x l ih => simp only [List.cons_append, Rows.uptoBulkAll, ih]; omega
theorem bulk_pos (d : DataW H) : 1 ≤ Rows.uptoBulk d := by
  cases d with
  | lit l => cases l <;> simp [Rows.uptoBulk]
  | nil => simp [Rows.uptoBulk]
  | ptr d => simp [Rows.uptoBulk]
  | slice elems spare => simp [Rows.uptoBulk]
  | agg parts => simp [Rows.uptoBulk]
  | iface t d => simp [Rows.uptoBulk]
  | map entries => simp [Rows.uptoBulk]
  | held h => simp [Rows.uptoBulk]
theorem rd_of_trod : ∀ (s : Sh),
    (∀ (t : TypeId) (fuel : Nat) (cs : List Value) (x : DataW H × List MemPlace), (s.okb P).1 t = true → DataW.trod enc P w 0 (fun _ => true) held fuel t cs = some x → w.noneFrozen x.2 → ∃ y : s.T, Rd s w (Lt w.heap.size) cs y ∧ s.bulk y ≤ Rows.uptoBulk x.1) ∧
    (∀ (fs : List Field) (off fuel : Nat) (cs : List Value) (xs : List (DataW H × List MemPlace)), (s.okb P).2 fs off = true →
      (∀ (i : Nat) (f : Field), fs[i]? = some f → DataW.trod enc P w 0 (fun _ => true) held fuel f.type ((cs.drop f.offset).take (P.cellsOf f.type)) = xs[i]?) → xs.length = fs.length → (∀ y ∈ xs, w.noneFrozen y.2) →
      cs.length = off + s.size → ∃ y : s.T, Rd s w (Lt w.heap.size) (cs.drop off) y ∧ s.bulk y ≤ Rows.uptoBulkAll (xs.map (·.1)))
  | .int k => by
    refine ⟨fun t fuel cs x ok h hf => ?_, fun fs off fuel cs xs ok => by simp [Sh.okb] at ok⟩
    simp only [Sh.okb] at ok
    split at ok
    · rename_i k' ht
      obtain rfl : k' = k := by simpa using ok
      obtain ⟨n, rfl, _, hw⟩ := DataW.trod_int ht h
      exact ⟨n, ⟨rfl, hw⟩, bulk_pos _⟩
    · cases ok
  | .bool => by
    refine ⟨fun t fuel cs x ok h hf => ?_, fun fs off fuel cs xs ok => by simp [Sh.okb] at ok⟩
    simp only [Sh.okb] at ok
    split at ok
    · rename_i ht
      obtain ⟨b, rfl, _⟩ := DataW.trod_bool ht h
      exact ⟨b, rfl, bulk_pos _⟩
    · cases ok
  | .str => by
    refine ⟨fun t fuel cs x ok h hf => ?_, fun fs off fuel cs xs ok => by simp [Sh.okb] at ok⟩
    simp only [Sh.okb] at ok
    split at ok
    · rename_i ht
      obtain ⟨b, rfl, rfl, hb⟩ := DataW.trod_string ht h
      exact ⟨b, ⟨rfl, hb⟩, by simp [Rows.uptoBulk, Sh.bulk]⟩
    · cases ok
  | .slice s => by
    refine ⟨fun t fuel cs x ok h hf => ?_, fun fs off fuel cs xs ok => by simp [Sh.okb] at ok⟩
    simp only [Sh.okb] at ok
    split at ok
    · rename_i e ht
      simp only [Bool.and_eq_true, beq_iff_eq, decide_eq_true_eq] at ok
      obtain ⟨⟨hc, hp⟩, ok⟩ := ok
      rcases open_slice ht h with ⟨rfl, rfl⟩ | ⟨a, len, cap, m, n, D, Pl, rfl, _, hl, hm, hmm, rfl, hx⟩
      · exact ⟨([] : List s.T), ⟨none, 0, rfl, Nat.le_refl _, Nat.zero_le _, fun _ => ⟨rfl, rfl⟩, fun i hi => absurd hi (Nat.not_lt_zero _)⟩, by simp [Rows.uptoBulk, Sh.bulk]⟩
      · simp only [if_true] at hmm
        subst hmm
        have one : ∀ i, i < len → ∃ (row : List Value) (y : s.T), w.cells? 0 (a.add (i * s.size)) s.size = some row ∧ Rd s w (Lt w.heap.size) row y ∧ s.bulk y ≤ Rows.uptoBulk (D i) := by
          intro i hi
          obtain ⟨cs', h1, h2⟩ := hx i (by omega)
          rw [hc] at h1
          obtain ⟨y, hy, hy'⟩ := (rd_of_trod s).1 e n cs' _ ok h2 (fun b off hb => hf b off (List.mem_append_right _ (List.mem_flatMap.2 ⟨i, List.mem_range.2 (by omega), hb⟩)))
          exact ⟨cs', y, h1, hy, hy'⟩
        obtain ⟨l, hl1, hl2, hl3⟩ : ∃ l : List s.T, l.length = len ∧ (∀ i (hi : i < l.length), ∃ row, w.cells? 0 (a.add (i * s.size)) s.size = some row ∧ Rd s w (Lt w.heap.size) row l[i]) ∧ (l.map s.bulk).sum ≤ Rows.uptoBulkAll ((List.range len).map D) := by
          clear hx hf h hm hl
          induction len with
          | zero => exact ⟨[], rfl, fun i hi => absurd hi (Nat.not_lt_zero _), by simp⟩
          | succ len ih =>
            obtain ⟨l, hl1, hl2, hl3⟩ := ih fun i hi => one i (Nat.lt_succ_of_lt hi)
            obtain ⟨row, y, hy1, hy2, hy3⟩ := one len (Nat.lt_succ_self _)
            refine ⟨l ++ [y], by simp [hl1], fun i hi => ?_, by rw [List.range_succ, List.map_append (f := D), bulkAll_append]; simp [Rows.uptoBulkAll]; omega⟩
            by_cases hil : i < l.length
            · rw [List.getElem_append_left hil]; exact hl2 i hil
            · obtain rfl : i = len := by simp at hi; omega
              rw [List.getElem_append_right (by omega)]
              simpa [hl1] using ⟨row, hy1, hy2⟩
        subst hl1
        refine ⟨l, ⟨some a, m, rfl, hl, hm, fun e => by (cases e), fun i hi => ?_⟩, by simp only [Rows.uptoBulk, Sh.bulk]; omega⟩
        obtain ⟨row, hr, hy⟩ := hl2 i hi
        obtain ⟨_, hlen, hcell⟩ := World.cells?_some hr
        have hspot : a.spot = none := by
          obtain ⟨row0, hr0, _⟩ := hl2 0 (by omega)
          obtain ⟨_, hlen0, hcell0⟩ := World.cells?_some hr0
          have h0 := hcell0 0 hp
          rw [List.getElem?_eq_getElem (by omega)] at h0
          have := World.cell?_spot h0
          simpa [Addr.add] using this
        obtain ⟨ab, ao, asp⟩ := a
        simp only at hspot
        subst hspot
        have hcell' : ∀ j, j < s.size → w.cell? ⟨ab, ao + i * s.size + j, none⟩ = row[j]? := fun j hj => by
          have := hcell j hj
          rwa [Addr.add_lit, Addr.add_lit] at this
        have hb : ab < w.heap.size := by
          have h0 := hcell' 0 hp
          rw [List.getElem?_eq_getElem (by omega)] at h0
          exact World.block_lt_of_cell? _ _ h0
        refine ⟨ab, ao, row, rfl, hb, hb, hlen, fun j hj => ⟨hcell' j (by omega), ?_⟩, hy⟩
        refine hf ab _ (List.mem_append_left _ ?_)
        rw [hc]
        refine MemPlace.mem_row.2 ⟨i * s.size + j, ?_, by rw [Nat.add_assoc]⟩
        have h1 : (i + 1) * s.size ≤ m * s.size := Nat.mul_le_mul_right _ (by omega)
        rw [Nat.add_mul] at h1
        omega
    · cases ok
  | .nil => by
    refine ⟨fun t fuel cs x ok => by simp [Sh.okb] at ok, fun fs off fuel cs xs ok h hl hf hcs => ⟨(), ?_, Nat.zero_le _⟩⟩
    show cs.drop off = []
    simp [Sh.size] at hcs
    simp [hcs]
  | .cons a b => by
    refine ⟨fun t fuel cs x ok => by simp [Sh.okb] at ok, fun fs off fuel cs xs ok h hl hf hcs => ?_⟩
    simp only [Sh.okb] at ok
    split at ok
    · rename_i f r
      simp only [Bool.and_eq_true, beq_iff_eq] at ok
      obtain ⟨⟨⟨ho, hc⟩, ha⟩, hb⟩ := ok
      match xs, hl with
      | x0 :: xr, hl =>
        have h0 := h 0 f rfl
        simp only [List.getElem?_cons_zero] at h0
        obtain ⟨y1, hy1, hk1⟩ := (rd_of_trod a).1 f.type fuel _ x0 ha h0 (hf x0 (by simp))
        obtain ⟨y2, hy2, hk2⟩ := (rd_of_trod b).2 r (off + a.size) fuel cs xr hb (fun i g hg => by simpa using h (i + 1) g (by simpa using hg)) (by simpa using hl) (fun y hy => hf y (by simp [hy])) (by rw [hcs, Sh.size]; omega)
        refine ⟨(y1, y2), ⟨_, _, ?_, hy1, hy2⟩, by simp only [List.map_cons, Rows.uptoBulkAll, Sh.bulk]; omega⟩
        rw [ho, hc, ← List.drop_drop, List.take_append_drop]
    · cases ok
  | .struct b => by
    refine ⟨fun t fuel cs x ok h hf => ?_, fun fs off fuel cs xs ok => by simp [Sh.okb] at ok⟩
    simp only [Sh.okb] at ok
    split at ok
    · rename_i fs ht
      simp only [Bool.and_eq_true, beq_iff_eq] at ok
      obtain ⟨xs, n, _, rfl, hl, hxs, hx⟩ := DataW.trod_struct ht h
      obtain ⟨y, hy, hk⟩ := (rd_of_trod b).2 fs.toList 0 n cs xs ok.2 (fun i f hf' => hx i f (by simpa using hf')) (by simpa using hxs)
        (fun y hy b' off hb => hf b' off (List.mem_flatMap.2 ⟨y, hy, hb⟩)) (by rw [hl, ok.1]; omega)
      exact ⟨y, (by simpa using hy : Rd b w (Lt w.heap.size) cs y), by simp only [Rows.uptoBulk, Sh.bulk]; omega⟩
    · cases ok
end
def OwnRows (w : World) (e : TypeId) (sz : Nat) (v : Value) (g : Option Nat) (rows : List (List Value)) : Prop :=
  (∀ r ∈ rows, r.length = sz) ∧
  ((g = none ∧ rows = [] ∧ v = .slice none 0 0) ∨
   ∃ b off cap cur, g = some b ∧ v = .slice (some ⟨b, off, none⟩) rows.length cap ∧ w.heap[b]? = some (.cells cur e (0, 0)) ∧ rows.length ≤ cap ∧ cap ≤ maxLen ∧ off + cap * sz ≤ cur.size ∧
    (cur.toList.drop off).take (rows.length * sz) = rows.flatten)
theorem flatten_length {rows : List (List Value)} {sz : Nat} (h : ∀ r ∈ rows, r.length = sz) : rows.flatten.length = rows.length * sz := by
  induction rows with
  | nil => simp
  | cons r rs ih =>
    rw [List.flatten_cons, List.length_append, ih fun x hx => h x (by simp [hx]), h r (by simp), List.length_cons, Nat.add_mul]; omega
theorem flatten_part {rows : List (List Value)} {sz : Nat} (h : ∀ r ∈ rows, r.length = sz) (i : Nat) (hi : i < rows.length) : (rows.flatten.drop (i * sz)).take sz = rows[i] := by
  induction rows generalizing i with
  | nil => simp at hi
  | cons r rs ih =>
    have hr := h r (by simp)
    cases i with
    | zero => simp [List.flatten_cons, hr]
    | succ i =>
      rw [List.flatten_cons, Nat.succ_mul, Nat.add_comm, ← List.drop_drop, show List.drop sz (r ++ rs.flatten) = rs.flatten by rw [← hr]; simp]
      simpa using ih (fun x hx => h x (by simp [hx])) i (by simpa using hi)
theorem OwnRows.nil (w : World) (e : TypeId) (sz : Nat) : OwnRows w e sz (.slice none 0 0) none [] := ⟨fun _ h => (by cases h), .inl ⟨rfl, rfl, rfl⟩⟩
theorem OwnRows.form {w : World} {e : TypeId} {sz : Nat} {v : Value} {g : Option Nat} {rows : List (List Value)} (h : OwnRows w e sz v g rows) : ∃ a c, v = .slice a rows.length c ∧ rows.length ≤ c ∧ c ≤ maxLen ∧ (a = none → rows = [] ∧ c = 0 ∧ g = none) ∧ (a ≠ none → ∃ b off, a = some ⟨b, off, none⟩ ∧ g = some b) := by
  rcases h.2 with ⟨rfl, rfl, rfl⟩ | ⟨b, off, cap, cur, rfl, rfl, _, h1, h2, _⟩
  · exact ⟨none, 0, rfl, Nat.le_refl _, Nat.zero_le _, fun _ => ⟨rfl, rfl, rfl⟩, fun h => absurd rfl h⟩
  · exact ⟨_, cap, rfl, h1, h2, fun h => (by cases h), fun _ => ⟨b, off, rfl, rfl⟩⟩
theorem OwnRows.lt {w : World} {e : TypeId} {sz : Nat} {v : Value} {g : Option Nat} {rows : List (List Value)} (h : OwnRows w e sz v g rows) {b : Nat} (hb : g = some b) : b < w.heap.size := by
  rcases h.2 with ⟨rfl, _⟩ | ⟨b', off, cap, cur, rfl, _, hg, _⟩
  · cases hb
  · cases hb; exact (Array.getElem?_eq_some_iff.1 hg).1
theorem OwnRows.agree {w w' : World} {e : TypeId} {sz : Nat} {v : Value} {g : Option Nat} {rows : List (List Value)} (h : OwnRows w e sz v g rows) (k : ∀ b, g = some b → w'.heap[b]? = w.heap[b]?) : OwnRows w' e sz v g rows := by
  refine ⟨h.1, h.2.imp id ?_⟩
  rintro ⟨b, off, cap, cur, rfl, rfl, hg, r⟩
  exact ⟨b, off, cap, cur, rfl, rfl, (k b rfl).trans hg, r⟩
theorem OwnRows.at {w : World} {e : TypeId} {sz : Nat} {v : Value} {g : Option Nat} {rows : List (List Value)} (h : OwnRows w e sz v g rows) (i : Nat) (hi : i < rows.length) :
    ∃ b off cap, g = some b ∧ v = .slice (some ⟨b, off, none⟩) rows.length cap ∧ RowAt w b (off + i * sz) rows[i] := by
  rcases h.2 with ⟨_, rfl, _⟩ | ⟨b, off, cap, cur, rfl, rfl, hg, hl, _, hs, ht⟩
  · simp at hi
  refine ⟨b, off, cap, rfl, rfl, ?_⟩
  have := RowAt.ofBlock hg (off + i * sz) sz
  rwa [show (cur.toList.drop (off + i * sz)).take sz = rows[i] from ?_] at this
  rw [← flatten_part h.1 i hi, ← ht, List.drop_take, List.take_take, List.drop_drop]
  congr 1
  have h1 : (i + 1) * sz ≤ rows.length * sz := Nat.mul_le_mul_right _ hi
  rw [Nat.add_mul] at h1
  omega
section
variable {P : Program} {w : World}
theorem own_append {e : TypeId} {sz : Nat} {v : Value} {g : Option Nat} {rows : List (List Value)} (h : OwnRows w e sz v g rows) (t u ty : TypeId) (i : TypeInfo) (z : Value) (bytes : Nat)
    (ht : P.underlying t = some (.slice e)) (hi : P.info? e = some i) (hz : i.zero = some z) (hsz : i.size = sz) (hby : i.bytes = bytes) (hzs : z.cells.size = sz)
    {x : Value} {news : List (List Value)} (hsrc : Src P sz u x news.length news.flatten w) (hnl : ∀ r ∈ news, r.length = sz) (h63 : rows.length + news.length ≤ 9223372036854775807) (hb : (rows.length + news.length) * bytes ≤ 140737488355328) :
    ∃ a c w' g', (Builtin.append_ #[t, u] ty #[v, x]).run P w = .ok (.slice a (rows.length + news.length) c) w' ∧ OwnRows w' e sz (.slice a (rows.length + news.length) c) g' (rows ++ news) ∧ (g' = g ∨ g' = some w.heap.size) ∧
      Keep (fun k => g = some k) w w' ∧ w'.heap.size ≤ w.heap.size + 1 := by
  subst hsz
  subst hby
  have hall : ∀ r ∈ rows ++ news, r.length = i.size := fun r hr => (List.mem_append.1 hr).elim (h.1 r) (hnl r)
  have hold : ∀ w1 : World, w1.heap = w.heap → ∀ a n c, v = .slice a n c → n = rows.length → (Builtin.firstCells i.size rows.length (.slice a n c)).run P w1 = .ok rows.flatten.toArray w1 := by
    intro w1 hw1 a n c hv hn
    rcases h.2 with ⟨rfl, rfl, rfl⟩ | ⟨b, off, cap, cur, rfl, rfl, hg, hl, hm, hs, htk⟩
    · cases hv
      exact run_firstCells_none w1 _ _ _ _
    · cases hv
      refine run_firstCells_some w1 i.size rows.length ⟨b, off, none⟩ _ _ _ (flatten_length h.1) fun j q hq => ?_
      rw [Addr.add_lit, cell_of_row w1 b _ cur e (0, 0) (by rw [hw1]; exact hg)]
      rw [← htk, List.getElem?_take] at hq
      split at hq
      · rw [List.getElem?_drop] at hq; simpa using hq
      · cases hq
  have grow : ∀ (a : Option Addr) (cap : Nat), v = .slice a rows.length cap → cap < rows.length + news.length → ∃ a c w' g', (Builtin.append_ #[t, u] ty #[v, x]).run P w = .ok (.slice a (rows.length + news.length) c) w' ∧ OwnRows w' e i.size (.slice a (rows.length + news.length) c) g' (rows ++ news) ∧ (g' = g ∨ g' = some w.heap.size) ∧
      Keep (fun k => g = some k) w w' ∧ w'.heap.size ≤ w.heap.size + 1 := by
    intro a cap hv hlt
    have hr := run_append_grow_src (P := P) w t u ty e i z ht hi hz a rows.length cap rows.flatten (hold w.drew rfl a _ cap hv rfl) x news.length news.flatten hsrc hlt (by omega) (growslice_fits hlt hb)
    rw [← hv] at hr
    refine ⟨_, _, _, some w.heap.size, hr, ⟨hall, .inr ⟨w.heap.size, 0, _, _, rfl, by rw [List.length_append], heap_alloc_new w.drew _, ?_, ?_, ?_, ?_⟩⟩, .inr rfl, ((Keep.refl _ w).drew).alloc _, by simp⟩
    · rw [List.length_append]; exact grownCap_ge _ _ _ _
    · exact grownCap_le_maxLen _ _ _ _ (by unfold maxLen; omega)
    · have hge := grownCap_ge w (rows.length + news.length) cap e
      refine Nat.le_of_eq ?_
      rw [Array.size_append, size_zeroCells, List.size_toArray, List.length_append, flatten_length h.1, flatten_length hnl, hzs, Nat.zero_add, ← Nat.add_mul, ← Nat.add_mul]
      congr 1
      omega
    · rw [List.drop_zero, Array.toList_append, List.flatten_append]
      have : (rows ++ news).length * i.size = (rows.flatten ++ news.flatten).length := by rw [List.length_append, List.length_append, flatten_length h.1, flatten_length hnl, Nat.add_mul]
      rw [this]
      exact List.take_left
  rcases h.2 with ⟨rfl, rfl, rfl⟩ | ⟨b, off, cap, cur, rfl, rfl, hg, hl, hm, hs, htk⟩
  · by_cases hn : news = []
    · subst hn
      refine ⟨none, 0, w, none, ?_, OwnRows.nil w e _, .inl rfl, Keep.refl _ _, by omega⟩
      have hc := hsrc.cells
      have hl := hsrc.len
      simp only [List.length_nil] at hc hl
      rcases hsrc.kind with ⟨e', hk⟩ | hk <;> simp [Builtin.append_, run_underlying ht, run_underlying hk, sizeOf, typeInfo, hi, hl, hc]
    · exact grow none 0 rfl (by have := List.length_pos_iff.2 hn; simp; omega)
  · by_cases hroom : rows.length + news.length ≤ cap
    · have hfl : news.flatten.length = news.length * i.size := flatten_length hnl
      have hrl : rows.flatten.length = rows.length * i.size := flatten_length h.1
      have h1 : (rows.length + news.length) * i.size ≤ cap * i.size := Nat.mul_le_mul_right _ hroom
      rw [Nat.add_mul] at h1
      have hst := run_storeCells_at P b (off + rows.length * i.size) e news.flatten 0 cur w hg (by omega) hsrc.one
      simp only [Nat.add_zero] at hst
      refine ⟨some ⟨b, off, none⟩, cap, w.setRow b (cur.toList.take (off + rows.length * i.size) ++ news.flatten ++ cur.toList.drop (off + rows.length * i.size + news.flatten.length)).toArray, some b, ?_, ⟨hall, .inr ⟨b, off, cap, _, rfl, by rw [List.length_append], setRow_heap w b cur _ e _ hg, by rw [List.length_append]; exact hroom, hm, ?_, ?_⟩⟩, .inl rfl, Keep.setRow (M := fun k => some b = some k) (Keep.refl _ w) (fun _ => rfl) _, by simp⟩
      · rcases hsrc.kind with ⟨e', hk⟩ | hk <;> simp [Builtin.append_, run_underlying ht, run_underlying hk, sizeOf, typeInfo, hi, hsrc.len, hroom, hsrc.cells, Addr.add_lit, hst]
      · simp only [List.size_toArray, List.length_append, List.length_take, List.length_drop, Array.length_toList]
        omega
      · rw [List.append_assoc, List.drop_append, List.take_append, List.flatten_append]
        have e1 : (cur.toList.take (off + rows.length * i.size)).drop off = rows.flatten := by
          rw [List.drop_take, Nat.add_sub_cancel_left, htk]
        have e2 : off - (cur.toList.take (off + rows.length * i.size)).length = 0 := by simp; omega
        rw [e1, e2, List.drop_zero, List.length_append, Nat.add_mul, List.take_of_length_le (by omega), hrl, Nat.add_sub_cancel_left, ← hfl, List.take_left]
    · exact grow _ cap rfl (by omega)
theorem wpList_app {ops : Array Oper} {rest : List Oper} {o : Oper} {a : Act} {Q : Exit → Act → World → Prop} (hgd : o.guard = none) (s x : Operand) (t u : TypeId)
    (ho : o.op = .call { callee := .builtin .append, args := #[s, x], argTypes := #[t, u] }) {v xv : Value} (hs : a.eval s = v) (hx : a.eval x = xv) {v' : Value} {w' : World}
    (hr : (Builtin.append_ #[t, u] o.type #[v, xv]).run P w = .ok v' w') (h : wpList P ops Q rest (a.put o.dst v') w') : wpList P ops Q (o :: rest) a w :=
  wpList_plain hgd fun K hK => by
    unfold Oper.wp execOp
    simp only [ho, resolve, invoke, builtin, Sem.run_bind, Sem.run_pure, Result.andThen_ok, List.map_toArray, List.map_cons, List.map_nil, hs, hx, hr]
    exact hK _ _ h
end
def Own (s : Sh) (e : TypeId) (w : World) (S : Nat → Prop) (v : Value) (l : List s.T) : Prop :=
  ∃ (g : Option Nat) (rows : List (List Value)) (T : Nat → Prop), OwnRows w e s.size v g rows ∧ rows.length = l.length ∧ (∀ i (h : i < rows.length) (h' : i < l.length), Rd s w T rows[i] l[i]) ∧
    (∀ b, g = some b → S b ∧ ¬ T b) ∧ (∀ k, T k → S k)
theorem Own.nil (s : Sh) (e : TypeId) (w : World) (S : Nat → Prop) : Own s e w S (.slice none 0 0) [] :=
  ⟨none, [], No, OwnRows.nil _ _ _, rfl, fun i h => absurd h (Nat.not_lt_zero _), fun b h => (by cases h), fun _ h => h.elim⟩
theorem Own.form {s : Sh} {e : TypeId} {w : World} {S : Nat → Prop} {v : Value} {l : List s.T} (h : Own s e w S v l) : ∃ a c, v = .slice a l.length c ∧ l.length ≤ c := by
  obtain ⟨g, rows, T, h1, h2, _⟩ := h
  obtain ⟨a, c, rfl, h3, _⟩ := h1.form
  exact ⟨a, c, by rw [h2], by omega⟩
theorem Own.mono {s : Sh} {e : TypeId} {w : World} {S S' : Nat → Prop} {v : Value} {l : List s.T} (h : Own s e w S v l) (hs : ∀ k, S k → S' k) : Own s e w S' v l := by
  obtain ⟨g, rows, T, h1, h2, h3, h4, h5⟩ := h
  exact ⟨g, rows, T, h1, h2, h3, fun b hb => ⟨hs b (h4 b hb).1, (h4 b hb).2⟩, fun k hk => hs k (h5 k hk)⟩
theorem Own.agree {s : Sh} {e : TypeId} {w w' : World} {S : Nat → Prop} {v : Value} {l : List s.T} (h : Own s e w S v l) (k : Agree S w w') : Own s e w' S v l := by
  obtain ⟨g, rows, T, h1, h2, h3, h4, h5⟩ := h
  exact ⟨g, rows, T, h1.agree fun b hb => k b (h1.lt hb) (h4 b hb).1, h2, fun i hi hi' => (h3 i hi hi').agree s (k.mono h5), h4, h5⟩
theorem Own.rd {s : Sh} {e : TypeId} {w : World} {S : Nat → Prop} {v : Value} {l : List s.T} (h : Own s e w S v l) : Rd (.slice s) w S [v] l := by
  obtain ⟨g, rows, T, h1, h2, h3, h4, h5⟩ := h
  obtain ⟨a, c, rfl, f1, f2, f3, f4⟩ := h1.form
  refine ⟨a, c, by rw [h2], by omega, f2, fun ha => ⟨?_, (f3 ha).2.1⟩, fun i hi => ?_⟩
  · have := (f3 ha).1
    subst this
    exact List.length_eq_zero_iff.1 (by simpa using h2.symm)
  · obtain ⟨b, off, cap, hg, hv, hr⟩ := h1.at i (by omega)
    simp only [Value.slice.injEq] at hv
    exact ⟨b, off, rows[i], hv.1, h1.lt hg, (h4 b hg).1, h1.1 _ (List.getElem_mem _), hr, (h3 i (by omega) hi).mono s fun k _ hk => h5 k hk⟩
theorem Own.live {s : Sh} {e : TypeId} {w : World} {S : Nat → Prop} {v : Value} {l : List s.T} (h : Own s e w S v l) : Own s e w (fun k => S k ∧ k < w.heap.size) v l := by
  obtain ⟨g, rows, T, h1, h2, h3, h4, h5⟩ := h
  exact ⟨g, rows, fun k => T k ∧ k < w.heap.size, h1, h2, fun i hi hi' => (h3 i hi hi').mono s fun k hk hT => ⟨hT, hk⟩, fun b hb => ⟨⟨(h4 b hb).1, h1.lt hb⟩, fun hh => (h4 b hb).2 hh.1⟩, fun k hk => ⟨h5 k hk.1, hk.2⟩⟩
theorem Src.ofBlock {P : Program} {size : Nat} {tx e' : TypeId} {w : World} (hk : P.underlying tx = some (.slice e')) (g n c : Nat) (cs : Array Value) (t : TypeId) (fr : Nat × Nat) (hg : w.heap[g]? = some (.cells cs t fr)) (hl : cs.size = n * size)
    (h1 : ∀ u ∈ cs.toList, u.oneCell' = true) : Src P size tx (.slice (some ⟨g, 0, none⟩) n c) n cs.toList w :=
  Src.ofSlice w hk ⟨g, 0, none⟩ n c cs.toList (by simpa using hl) (fun j u hu => by
    rw [Addr.add_lit, Nat.zero_add, cell_of_row w g j cs t fr hg]
    simpa using hu) h1
theorem Rd.one : ∀ (s : Sh) {w : World} {S : Nat → Prop} {cs : List Value} {x : s.T}, Rd s w S cs x → ∀ u ∈ cs, u.oneCell' = true
  | .int _, _, _, _, _, h => by obtain ⟨rfl, _⟩ := h; intro u hu; simp at hu; subst hu; rfl
  | .bool, _, _, _, _, h => by have h' : _ = _ := h; subst h'; intro u hu; simp at hu; subst hu; rfl
  | .str, _, _, _, _, h => by obtain ⟨rfl, _⟩ := h; intro u hu; simp at hu; subst hu; rfl
  | .slice s, _, _, _, _, h => by obtain ⟨a, c, rfl, _⟩ := h; intro u hu; simp at hu; subst hu; rfl
  | .nil, _, _, _, _, h => by have h' : _ = _ := h; subst h'; intro u hu; cases hu
  | .cons a b, _, _, _, _, h => by
    obtain ⟨c1, c2, rfl, h1, h2⟩ := h
    intro u hu
    exact (List.mem_append.1 hu).elim (Rd.one a h1 u) (Rd.one b h2 u)
  | .struct b, _, _, _, x, h => Rd.one (x := x) b h
theorem Rd.rows {s : Sh} {w : World} {S : Nat → Prop} {v : Value} {l : List s.T} (h : Rd (.slice s) w S [v] l) :
    ∃ rows : List (List Value), rows.length = l.length ∧ (∀ i (hi : i < rows.length) (hi' : i < l.length), Rd s w S rows[i] l[i]) ∧
      ∀ (P : Program) (tx e' : TypeId), P.underlying tx = some (.slice e') → ∀ w' : World, Agree S w w' → Src P s.size tx v rows.length rows.flatten w' := by
  obtain ⟨a, c, hv, hc, hm, hn, hx⟩ := h
  obtain rfl : v = .slice a l.length c := by simpa using hv
  have hex : ∀ i (hi : i < l.length), ∃ row, row.length = s.size ∧ Rd s w S row l[i] ∧ ∀ b off, a = some ⟨b, off, none⟩ → S b ∧ b < w.heap.size ∧ RowAt w b (off + i * s.size) row := by
    intro i hi
    obtain ⟨b, off, row, ha, hb, hS, hl, hr, hx'⟩ := hx i hi
    refine ⟨row, hl, hx', fun b' off' ha' => ?_⟩
    rw [ha] at ha'
    simp only [Option.some.injEq, Addr.mk.injEq, and_true] at ha'
    obtain ⟨rfl, rfl⟩ := ha'
    exact ⟨hS, hb, hr⟩
  obtain ⟨rows, hrl, hrows⟩ : ∃ rows : List (List Value), rows.length = l.length ∧ ∀ i (hi : i < rows.length) (hi' : i < l.length), rows[i].length = s.size ∧ Rd s w S rows[i] l[i] ∧ ∀ b off, a = some ⟨b, off, none⟩ → S b ∧ b < w.heap.size ∧ RowAt w b (off + i * s.size) rows[i] := by
    refine ⟨(List.range l.length).map fun i => if hi : i < l.length then Classical.choose (hex i hi) else [], by simp, fun i hi hi' => ?_⟩
    simp only [List.getElem_map, List.getElem_range, dif_pos hi']
    exact Classical.choose_spec (hex i hi')
  have hsz : ∀ r ∈ rows, r.length = s.size := by
    intro r hr
    obtain ⟨i, hi, rfl⟩ := List.getElem_of_mem hr
    exact (hrows i hi (by omega)).1
  refine ⟨rows, hrl, fun i hi hi' => (hrows i hi hi').2.1, fun P tx e' ht w' hag => ?_⟩
  rw [← hrl]
  by_cases hr0 : rows = []
  · subst hr0
    cases a with
    | none =>
      have := (hn rfl).2
      subst this
      exact Src.ofNil w' ht 0
    | some a => exact Src.ofSlice w' ht a 0 c [] (by simp) (fun j u hu => by simp at hu) (fun u hu => by cases hu)
  have hpos : 0 < rows.length := List.length_pos_iff.2 hr0
  obtain ⟨b, off, _, ha, _⟩ := hx 0 (by omega)
  subst ha
  refine Src.ofSlice w' ht ⟨b, off, none⟩ rows.length c rows.flatten (flatten_length hsz) (fun j u hu => ?_) ?_
  · have hj : j < rows.length * s.size := by
      have := (List.getElem?_eq_some_iff.1 hu).1
      rwa [flatten_length hsz] at this
    have hs0 : 0 < s.size := by
      rcases Nat.eq_zero_or_pos s.size with h0 | h0
      · rw [h0] at hj; simp at hj
      · exact h0
    have hi : j / s.size < rows.length := Nat.div_lt_of_lt_mul (by rw [Nat.mul_comm]; exact hj)
    obtain ⟨hl1, _, hl3⟩ := hrows (j / s.size) hi (by omega)
    obtain ⟨hS, hb, hrow⟩ := hl3 b off rfl
    have hr' := (hrow.agree (hag b hb hS)) (j % s.size) (by rw [hl1]; exact Nat.mod_lt _ hs0)
    rw [Addr.add_lit, show off + j = off + j / s.size * s.size + j % s.size by rw [Nat.add_assoc, Nat.mul_comm, Nat.div_add_mod], hr'.1]
    have hp := flatten_part hsz (j / s.size) hi
    rw [← hu, ← hp, List.getElem?_take, if_pos (Nat.mod_lt _ hs0), List.getElem?_drop]
    congr 1
    rw [Nat.mul_comm, Nat.div_add_mod]
  · intro u hu
    obtain ⟨r, hr, hur⟩ := List.mem_flatten.1 hu
    obtain ⟨i, hi, rfl⟩ := List.getElem_of_mem hr
    exact (hrows i hi (by omega)).2.1.one s u hur
section
variable {P : Program} {w : World}
theorem Own.append {s : Sh} {e : TypeId} {S T : Nat → Prop} {v : Value} {l : List s.T} (h : Own s e w S v l) (t ty : TypeId) (i : TypeInfo) (z : Value) (bytes : Nat)
    (ht : P.underlying t = some (.slice e)) (hi : P.info? e = some i) (hz : i.zero = some z) (hsz : i.size = s.size) (hby : i.bytes = bytes) (hzs : z.cells.size = s.size)
    {b : Nat} {cs : Array Value} {x : s.T} {tb : TypeId} {fr : Nat × Nat} (hg : w.heap[b]? = some (.cells cs tb fr)) (hx : Rd s w T cs.toList x) (hT : ∀ k, S k → ¬ T k) (h63 : l.length + 1 ≤ 9223372036854775807) (hb : (l.length + 1) * bytes ≤ 140737488355328) (c0 : Nat) :
    ∃ a c w', (Builtin.append_ #[t, t] ty #[v, .slice (some ⟨b, 0, none⟩) 1 c0]).run P w = .ok (.slice a (l.length + 1) c) w' ∧ Own s e w' (fun k => S k ∨ T k ∨ k = w.heap.size) (.slice a (l.length + 1) c) (l ++ [x]) ∧ Keep S w w' ∧ w'.heap.size ≤ w.heap.size + 1 := by
  obtain ⟨g, rows, U, h1, h2, h3, h4, h5⟩ := h
  have hlen : cs.toList.length = s.size := hx.length s
  have hsrc : Src P s.size t (.slice (some ⟨b, 0, none⟩) 1 c0) [cs.toList].length [cs.toList].flatten w := by
    simp only [List.flatten_cons, List.flatten_nil, List.append_nil]
    exact Src.ofBlock ht b 1 c0 cs tb fr hg (by simpa using hlen) (hx.one s)
  obtain ⟨a, c, w', g', hr, ho, hg', hk, hs⟩ := own_append h1 t t ty i z bytes ht hi hz hsz hby hzs hsrc (by simpa using hlen) (by simp; omega) (by simpa [h2] using hb)
  simp only [List.length_singleton, h2] at hr ho
  have hk' : Keep S w w' := hk.mono fun k _ hgk => (h4 k hgk).1
  refine ⟨a, c, w', hr, ?_, hk', hs⟩
  refine ⟨g', rows ++ [cs.toList], fun k => k < w.heap.size ∧ (U k ∨ T k), ho, by simp [h2], fun j hj hj' => ?_, fun k hgk => ?_, fun k hk => hk.2.elim (fun h => .inl (h5 k h)) (fun h => .inr (.inl h))⟩
  · by_cases hjl : j < rows.length
    · rw [List.getElem_append_left hjl, List.getElem_append_left (by omega)]
      refine ((h3 j hjl (by omega)).mono s (fun k hk hu => (⟨hk, .inl hu⟩ : k < w.heap.size ∧ (U k ∨ T k)))).agree s (hk.agree fun k hk hu hgk => ?_)
      exact hu.2.elim (h4 k hgk).2 (hT k (h4 k hgk).1)
    · have : j = rows.length := by simp at hj; omega
      subst this
      rw [List.getElem_append_right (by omega)]
      simp only [h2, List.getElem_concat_length, Nat.sub_self, List.getElem_singleton]
      refine (hx.mono s (fun k hk hu => (⟨hk, .inr hu⟩ : k < w.heap.size ∧ (U k ∨ T k)))).agree s (hk.agree fun k hk hu hgk => ?_)
      exact hu.2.elim (h4 k hgk).2 (hT k (h4 k hgk).1)
  · rcases hg' with rfl | rfl
    · exact ⟨.inl (h4 k hgk).1, fun hh => hh.2.elim (h4 k hgk).2 (hT k (h4 k hgk).1)⟩
    · cases hgk
      exact ⟨.inr (.inr rfl), fun hh => Nat.lt_irrefl _ hh.1⟩
end
section
open Go.ChangeShapes Go.WideShapes Go.ChangeAt
variable {H : Type} {enc : TypeId × Value → H} {P : Program} {w : World} {base : Nat} {t : TypeId} {v : Value} {d : DataW H} {ps : List MemPlace} {r : Reach}
theorem arg_str (ok : (Sh.str.okb P).1 t = true) (hv : Value.okWide P w r base t v) (h : DataW.Trod enc P w 0 (fun _ => true) true t v d ps) (hf : w.noneFrozen ps) : ∃ x : ByteArray, v = .string x ∧ x.size ≤ maxLen ∧ x.size + 1 ≤ Rows.uptoBulk d := by
  obtain ⟨n, h⟩ := h
  obtain ⟨y, hy, hb⟩ := (rd_of_trod .str).1 t n _ _ ok h hf
  simp only [Sh.okb] at ok
  split at ok
  · rename_i ht
    obtain ⟨m, rfl⟩ := okWide_string ht hv
    have := hy.1
    simp [Value.cells] at this
    subst this
    exact ⟨_, rfl, hy.2, hb⟩
  · cases ok
theorem arg_slice (s : Sh) (ok : ((Sh.slice s).okb P).1 t = true) (hv : Value.okWide P w r base t v) (h : DataW.Trod enc P w 0 (fun _ => true) true t v d ps) (hf : w.noneFrozen ps) :
    ∃ l : List s.T, Rd (.slice s) w (Lt w.heap.size) [v] l ∧ (Sh.slice s).bulk l ≤ Rows.uptoBulk d := by
  obtain ⟨n, h⟩ := h
  obtain ⟨y, hy, hb⟩ := (rd_of_trod (.slice s)).1 t n _ _ ok h hf
  simp only [Sh.okb] at ok
  split at ok
  · rename_i ht
    obtain ⟨a, l, c, rfl⟩ := okWide_slice ht hv
    exact ⟨y, hy, hb⟩
  · cases ok
theorem arg_struct (s : Sh) (ok : ((Sh.struct s).okb P).1 t = true) (hv : Value.okWide P w r base t v) (h : DataW.Trod enc P w 0 (fun _ => true) true t v d ps) (hf : w.noneFrozen ps) :
    ∃ (cs : List Value) (x : s.T), v = .agg cs.toArray ∧ Rd s w (Lt w.heap.size) cs x ∧ s.bulk x + 1 ≤ Rows.uptoBulk d := by
  obtain ⟨n, h⟩ := h
  obtain ⟨y, hy, hb⟩ := (rd_of_trod (.struct s)).1 t n _ _ ok h hf
  simp only [Sh.okb] at ok
  split at ok
  · rename_i ht
    obtain ⟨cs, rfl, hc⟩ := okWide_struct ht hv
    exact ⟨cs.toList, y, by simp, hy, hb⟩
  · cases ok
theorem noneFrozen_left {p q : List MemPlace} (h : w.noneFrozen (p ++ q)) : w.noneFrozen p := fun b o hb => h b o (List.mem_append_left _ hb)
theorem noneFrozen_right {p q : List MemPlace} (h : w.noneFrozen (p ++ q)) : w.noneFrozen q := fun b o hb => h b o (List.mem_append_right _ hb)
theorem trodAll_below (hl : laidOutB P = true) {W W' : World} (hb : Below W.heap.size W W') : ∀ (ts : List TypeId) (vs : List Value) (ds : List (DataW H)) (ps : List MemPlace), (ts.all fun t => P.readableRec t && decide (t < P.types.size)) = true →
    DataW.TrodAll enc P W 0 (fun _ => true) true ts vs ds ps → (∀ x ∈ ps, x.block < W.heap.size) → DataW.TrodAll enc P W' 0 (fun b => decide (b < W.heap.size)) true ts vs ds ps
  | [], [], [], ps, _, h, _ => h
  | t :: ts, v :: vs, d :: ds, ps, ht, h, hlt => by
    obtain ⟨p, q, h1, h2, rfl⟩ := h
    simp only [List.all_cons, Bool.and_eq_true, decide_eq_true_eq] at ht
    exact ⟨p, q, Below.trod hl ht.1.1 ht.1.2 h1 hb (fun x hx => hlt x (List.mem_append_left _ hx)), trodAll_below hl hb ts vs ds q ht.2 h2 (fun x hx => hlt x (List.mem_append_right _ hx)), rfl⟩
  | [], [], _ :: _, _, _, h, _ => h.elim
  | [], _ :: _, _, _, _, h, _ => h.elim
  | _ :: _, [], _, _, _, h, _ => h.elim
  | _ :: _, _ :: _, [], _, _, h, _ => h.elim
theorem law_post {f : Func} {s : ChangeSpec} {W W' : World} {args : Array Value} {ds : List (DataW H)} {before : List MemPlace} {tb : TypeId} (hl : laidOutB P = true)
    (hW : DataW.Whole enc P f.params.toList s.vars false W args.toList ds [] before) (hv : s.vars = []) (hr : f.resultTypes = #[tb]) (ht : P.underlying tb = some .bool)
    (hp : (f.params.toList.all fun t => P.readableRec t && decide (t < P.types.size)) = true)
    (hs : s.fn H (ds ++ []) = { results := [.lit (.bool true)], args := ds }) (hk : Keep No W W') : s.post enc P f false true false false W args (.bool true) W' := by
  have hlt := fun x hx => hW.lt x hx
  obtain ⟨p, q, hA, hV, hbe, hfz, hnd⟩ := id hW
  rw [hv] at hV
  obtain ⟨_, rfl⟩ := trodVars_none hV
  simp only [List.append_nil] at hbe
  subst hbe
  have hAll := trodAll_below hl hk.below f.params.toList args.toList ds before hp hA (fun x hx => by simpa using hlt x hx)
  refine ⟨ds, [], before, [], before, [], hW, ?_, ?_, ?_, hk.below.frame _, fun h => by cases h⟩
  · rw [hs, hr]
    exact trodAll_mk1 (shut_bool ht true)
  · rw [hs]
    exact hAll
  · rw [hs, hv]; rfl
end
end Go.Proofs.YtfgdnakfikpmpaaGreatDoor
