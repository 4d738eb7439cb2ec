/-
  Request's laws: pieces; two streams side by side.
  Two streams side by side: the program's and the document's.
-/
import Derived.Test.YtpjcebajkfeacaaGreatDoorGA
import Derived.Test.YtpjcebajkfeacaaGreatDoorGC
import Derived.Test.YtpjcebajkfeacaaGreatDoorGK
import Derived.Test.YtpjcebajkfeacaaGreatDoorGU
import Derived.Test.YtpjcebajkfeacaaGreatDoorHD
import Derived.Test.YtpjcebajkfeacaaGreatDoorHQ
import Derived.Test.YtpjcebajkfeacaaGreatDoorHR
import Derived.Test.YtpjcebajkfeacaaGreatDoorHT
import Derived.Test.YtpjcebajkfeacaaGreatDoorHU
import Derived.Test.YtpjcebajkfeacaaGreatDoorHV
import Derived.Test.YtpjcebajkfeacaaGreatDoorHX
import Derived.Still
import Derived.StillTactics
import Derived.WalkKit
import Derived.Recover
import Derived.Defers
import Derived.Deep.QuietTactic
import Derived.BigQuiet
import Derived.Handy
import Derived.Laws.Bits64b
import Derived.Lib.Zigzag
import Derived.WalkSpells
import Derived.WalkLawsBesides
import Derived.ProofKit
import Derived.Deep.Slices
import Derived.Deep.AppendSrc
import Derived.Lib.Hide
import Derived.Lib.EndianBits
import Derived.OpenShut
import Derived.Deep.LoopGhost
import Derived.Deep.DeepCutAuto
import Derived.OwnWalk
import Derived.Lib.Bytealg
import Derived.Laws.Externs
import Derived.Laws.CopyRow
import Derived.Laws.IdiomCopy
import Derived.Maps.OwnSet
import Derived.Maps.RangeWalk
import Derived.Shelf.SortM.Plain
import Derived.Shelf.SortM.SortNone
import Derived.Ground.SlgmProg
import Derived.Maps.OwnOps
import Derived.Lib.ItoaNum
import Derived.Lib.Join
import Derived.Deep.WholeRow
import Derived.Shelf.Strconv.Itoa4
import Derived.Shelf.Strings.BuilderK
import Derived.Shelf.Strings.OnBuilder
import Derived.Ground.NamesProg
import Derived.Lib.AppendIntMem
import Derived.Lib.UnsafeStr
import Derived.Maps.Views
import Derived.Lib.VarintBits
namespace Go.Proofs.YtpjcebajkfeacaaGreatDoor
set_option linter.unusedVariables false
set_option linter.unusedSimpArgs false
open Go Go.RowKit Go.Deep

@[reducible] def pieceSh : Sh := .struct (.cons bytesSh (.cons (.int .i64) .nil))
abbrev Pc := pieceSh.T
abbrev Pc.b (p : Pc) : Bytes := p.1
abbrev Pc.ask (p : Pc) : Int := p.2.1
theorem pieces_get {w : World} {S : Nat → Prop} {a : Option Addr} {n c : Nat} {l : List Pc} (h : Rd (.slice pieceSh) w S [.slice a n c] l) (i : Nat) (hi : i < l.length) :
    ∃ b off a1 c1, a = some ⟨b, off, none⟩ ∧ w.cell? ⟨b, off + i * 2, none⟩ = some (.slice a1 l[i].b.length c1) ∧ w.cell? ⟨b, off + i * 2 + 1, none⟩ = some (.int .i64 l[i].ask) ∧ Rd bytesSh w S [.slice a1 l[i].b.length c1] l[i].b := by
  obtain ⟨b, off, row, ha, -, hb, hS, -, hrow, hx⟩ := h.elem' i hi
  obtain ⟨_, _, rfl, h1, _, _, rfl, ⟨rfl, -⟩, rfl⟩ := hx
  obtain ⟨a1, c1, rfl, -⟩ := Rd.sliceForm h1
  have p0 := (hrow 0 (by simp)).1
  have p1 := (hrow 1 (by simp)).1
  simp [Sh.size] at p0 p1
  exact ⟨b, off, a1, c1, ha, p0, p1, h1⟩
theorem pieces_len {w : World} {S : Nat → Prop} {a : Option Addr} {n c : Nat} {l : List Pc} (h : Rd (.slice pieceSh) w S [.slice a n c] l) : n = l.length := by
  obtain ⟨a', c', e, -⟩ := h
  simp only [List.cons.injEq, Value.slice.injEq, and_true] at e
  exact e.2.1

/-- how many bytes the first pieces have -/
def fedN (l : List Pc) (i : Nat) : Nat := ((l.take i).map fun p => p.b.length).sum
theorem fedN_succ (l : List Pc) (i : Nat) (h : i < l.length) : fedN l (i + 1) = fedN l i + l[i].b.length := by
  unfold fedN
  rw [List.take_succ_eq_append_getElem h, List.map_append, List.sum_append]
  simp
theorem fedN_le (l : List Pc) (i : Nat) : fedN l i ≤ (l.map fun p => p.b.length).sum := by
  unfold fedN
  conv => rhs; rw [← List.take_append_drop i l, List.map_append, List.sum_append]
  omega

set_option maxRecDepth 10000 in
theorem pieces_any (w : World) (S : Nat → Prop) (a : Option Addr) (n c : Nat) (l : List Pc) (h : Rd (.slice pieceSh) w S [.slice a n c] l) (hs : (l.map fun p => p.b.length).sum ≤ 1048576) :
    Calls Tryz.prog 29 #[.slice a n c] w fun e w' => e = .returned (.bool (decide (n ≤ 200) && decide (fedN l 201 ≤ 20000))) ∧ w' = w := by
  have hn := pieces_len h
  have HH := Lib.hid (And.intro h (And.intro hn hs))
  clear h hn hs
  go_enter Tryz.func29, Tryz.ntmps29
  go_wp2_with fail
  go_loopg [3, 4] n (fun g v i wr => ∃ k : Nat, k ≤ n ∧ k ≤ 201 ∧ g = n - k ∧ v = .int .i64 (fedN l k) ∧ i = .int .i64 k ∧ wr = w)
  case atStart => exact ⟨0, by omega, by omega, by omega, rfl, rfl, rfl⟩
  case round =>
    obtain ⟨k, hk, hk2, rfl, rfl, rfl, rfl⟩ := hrel
    have j0 : (0 : Int) ≤ k := by omega
    by_cases hlt : k < n
    · have j1 : (k : Int) < n := by omega
      by_cases h5 : k ≤ 200
      · have j5 : (k : Int) ≤ 200 := by omega
        have hkl : k < l.length := by have := HH.out.2.1; omega
        obtain ⟨b, off, a1, c1, rfl, p0, -, -⟩ := pieces_get HH.out.1 k hkl
        have hf := fedN_succ l k hkl
        have hle := fedN_le l (k + 1)
        have hs := HH.out.2.2
        generalize l[k].b.length = m at *
        have g1 : ((fedN l k : Nat) : Int) + (m : Int) ≤ 1048576 := by omega
        have g2 : (0 : Int) ≤ (fedN l k : Nat) := by omega
        have g3 : (0 : Int) ≤ (m : Nat) := by omega
        have HF := Lib.hid (And.intro hf (And.intro hlt h5))
        clear hf hle hs hlt h5 hk hk2 hkl
        generalize fedN l k = fk at *
        go_wp2_with fail
        go_roundg (n - (k + 1))
        case measure => have := HF.out.2.1; omega
        case rel => exact ⟨k + 1, HF.out.2.1, by have := HF.out.2.2; omega, rfl, by rw [HF.out.1]; simp, by simp, rfl⟩
      · have j5 : ¬ (k : Int) ≤ 200 := by omega
        obtain rfl : k = 201 := by omega
        have e : (decide (n ≤ 200) && decide (fedN l 201 ≤ 20000)) = false := by simp; omega
        have j6 : ¬ (n : Int) ≤ 200 := by omega
        have HQ := Lib.hid e
        clear hk hk2 hlt h5 e
        go_wp2_with fail
        go_ret
        exact ⟨by rw [HQ.out]; rfl, rfl⟩
    · have j1 : ¬ (k : Int) < n := by omega
      obtain rfl : k = n := by omega
      have ef : fedN l 201 = fedN l k ∨ 201 ≤ k := by
        by_cases h : 201 ≤ k
        · exact .inr h
        · left
          unfold fedN
          rw [List.take_of_length_le (by have := HH.out.2.1; omega), List.take_of_length_le (by have := HH.out.2.1; omega)]
      have hs := HH.out.2.2
      have hle := fedN_le l k
      have HE := Lib.hid (And.intro ef (And.intro hk2 (show fedN l k ≤ 1048576 by omega)))
      have g2 : (0 : Int) ≤ (fedN l k : Nat) := by omega
      clear hk hk2 hlt ef hs hle
      by_cases h2 : k ≤ 200
      · have j6 : (k : Int) ≤ 200 := by omega
        have e : (decide (k ≤ 200) && decide (fedN l 201 ≤ 20000)) = decide ((fedN l k : Int) ≤ 20000) := by
          rcases HE.out.1 with h | h
          · rw [h, show decide (k ≤ 200) = true by simp; omega, Bool.true_and, Bool.eq_iff_iff]
            simp <;> omega
          · omega
        have HQ := Lib.hid e
        clear h2 e
        generalize fedN l k = fk at *
        go_wp2_with fail
        go_ret
        exact ⟨by rw [HQ.out]; rfl, rfl⟩
      · have j6 : ¬ (k : Int) ≤ 200 := by omega
        have e : (decide (k ≤ 200) && decide (fedN l 201 ≤ 20000)) = false := by simp; omega
        have HQ := Lib.hid e
        clear h2 e
        go_wp2_with fail
        go_ret
        exact ⟨by rw [HQ.out]; rfl, rfl⟩
end Go.Proofs.YtpjcebajkfeacaaGreatDoor

namespace Go.Proofs.YtpjcebajkfeacaaGreatDoor
set_option linter.unusedVariables false
set_option linter.unusedSimpArgs false
open Go Go.RowKit Go.Deep

theorem next_len (l : Bytes) : (nextB l).2.1.length + (nextB l).2.2 ≤ l.length := by
  have h := skip_le l
  unfold nextB
  simp only
  split
  · simp only [List.length_drop]; omega
  · simp only [List.length_drop]; omega

/-- both streams in memory, apart from each other and from all that was there -/
structure StW (w : World) (s r : Nat) (A A' : Nat → Prop) (l1 : Bytes) (n1 : Int) (l2 : Bytes) (n2 : Int) (W : World) : Prop where
  keep : Keep No w W
  st : StreamIn W s A l1 n1
  rs : RStreamIn W r A' l2 n2
  aA : ∀ k, A k → w.heap.size ≤ k ∧ k < W.heap.size ∧ k ≠ r
  aA' : ∀ k, A' k → w.heap.size ≤ k ∧ k < W.heap.size ∧ k ≠ s
  dj : ∀ k, A k → ¬ A' k
  ne : s ≠ r
  ws : w.heap.size ≤ s
  wr : w.heap.size ≤ r
theorem RStreamIn.lt {W : World} {s : Nat} {A : Nat → Prop} {l : Bytes} {n : Int} (h : RStreamIn W s A l n) : s < W.heap.size := by
  obtain ⟨a, m, c, h⟩ := h
  exact blk_lt h.blk
theorem StW.more {w : World} {s r : Nat} {A A' : Nat → Prop} {l1 : Bytes} {n1 : Int} {l2 : Bytes} {n2 : Int} {W W' : World} (h : StW w s r A A' l1 n1 l2 n2 W) (hk : Keep No W W') : StW w s r A A' l1 n1 l2 n2 W' :=
  ⟨h.keep.trans hk, h.st.keep hk (fun x => x) (fun _ _ x => x), h.rs.keep hk (fun x => x) (fun _ _ x => x), fun k hk' => ⟨(h.aA k hk').1, Nat.lt_of_lt_of_le (h.aA k hk').2.1 hk.size, (h.aA k hk').2.2⟩, fun k hk' => ⟨(h.aA' k hk').1, Nat.lt_of_lt_of_le (h.aA' k hk').2.1 hk.size, (h.aA' k hk').2.2⟩, h.dj, h.ne, h.ws, h.wr⟩
theorem StW.set {w : World} {s r : Nat} {A A' : Nat → Prop} {l1 : Bytes} {n1 : Int} {l2 : Bytes} {n2 : Int} {W : World} (h : StW w s r A A' l1 n1 l2 n2 W) {b : Nat} (hb : w.heap.size ≤ b) (h1 : ¬ A b) (h2 : ¬ A' b) (h3 : b ≠ s) (h4 : b ≠ r) (i : Nat) (v : Value) : StW w s r A A' l1 n1 l2 n2 (W.setCell ⟨b, i, none⟩ v) := by
  have ks := keep_set W b i v
  have hz : (W.setCell ⟨b, i, none⟩ v).heap.size = W.heap.size := by simp
  exact ⟨h.keep.setNew (p := ⟨b, i, none⟩) hb v, h.st.keep ks (fun e => h3 e.symm) (fun k hk e => h1 (by have : k = b := e; exact this ▸ hk)), h.rs.keep ks (fun e => h4 e.symm) (fun k hk e => h2 (by have : k = b := e; exact this ▸ hk)),
    fun k hk => by rw [hz]; exact h.aA k hk, fun k hk => by rw [hz]; exact h.aA' k hk, h.dj, h.ne, h.ws, h.wr⟩

theorem StW.feedS {w : World} {s r : Nat} {A A' : Nat → Prop} {l1 : Bytes} {n1 : Int} {l2 : Bytes} {n2 : Int} {W : World} (h : StW w s r A A' l1 n1 l2 n2 W) {T : Nat → Prop} {p : Value} {x : Bytes} (hp : Rd bytesSh W T [p] x) (hl : l1.length + x.length ≤ 140737488355328) :
    Calls Tryz.prog 31 #[.pointer (some ⟨s, 0, none⟩), p] W fun e W' => e = .returned (.tuple #[]) ∧ RowKit.Hid (∃ A1, StW w s r A1 A' (l1 ++ x) n1 l2 n2 W' ∧ Keep (fun k => A k ∨ k = s) W W' ∧ ∀ k, A1 k → A k ∨ W.heap.size ≤ k) := by
  refine (feed_any W s A T l1 x n1 h.st p hp hl).mono ?_
  rintro e W' ⟨rfl, hst, hk⟩
  have hkw : Keep No w W' := h.keep.then hk fun i hi hm => by
    rcases hm with hm | hm
    · have := (h.aA i hm).1; omega
    · have := h.ws; omega
  have hr := h.rs.lt
  refine ⟨rfl, _, ⟨hkw, hst, h.rs.keep hk (fun hm => hm.elim (fun hm => (h.aA r hm).2.2 rfl) (fun e => h.ne e.symm)) (fun k hk' hm => hm.elim (fun hm => h.dj k hm hk') (fun e => (h.aA' k hk').2.2 e)), ?_, ?_, ?_, h.ne, h.ws, h.wr⟩, hk, ?_⟩
  · rintro k (hk' | hk')
    · exact ⟨(h.aA k hk').1, Nat.lt_of_lt_of_le (h.aA k hk').2.1 hk.size, (h.aA k hk').2.2⟩
    · exact ⟨Nat.le_trans h.keep.size hk'.1, hk'.2, fun e => by have := hk'.1; omega⟩
  · exact fun k hk' => ⟨(h.aA' k hk').1, Nat.lt_of_lt_of_le (h.aA' k hk').2.1 hk.size, (h.aA' k hk').2.2⟩
  · rintro k (hk' | hk') h'
    · exact h.dj k hk' h'
    · have := (h.aA' k h').2.1; have := hk'.1; omega
  · rintro k (hk' | hk')
    · exact .inl hk'
    · exact .inr hk'.1
theorem StW.feedR {w : World} {s r : Nat} {A A' : Nat → Prop} {l1 : Bytes} {n1 : Int} {l2 : Bytes} {n2 : Int} {W : World} (h : StW w s r A A' l1 n1 l2 n2 W) {T : Nat → Prop} {p : Value} {x : Bytes} (hp : Rd bytesSh W T [p] x) (hl : l2.length + x.length ≤ 140737488355328) :
    Calls Tryz.prog 38 #[.pointer (some ⟨r, 0, none⟩), p] W fun e W' => e = .returned (.tuple #[]) ∧ RowKit.Hid (∃ A1, StW w s r A A1 l1 n1 (l2 ++ x) n2 W' ∧ Keep (One r) W W' ∧ ∀ k, A1 k → W.heap.size ≤ k) := by
  refine (rFeed_any W r A' T l2 x n2 h.rs p hp hl).mono ?_
  rintro e W' ⟨rfl, hst, hk⟩
  have hkw : Keep No w W' := h.keep.then hk fun i hi hm => by have : i = r := hm; have := h.wr; omega
  have hs := h.st.lt
  refine ⟨rfl, _, ⟨hkw, h.st.keep hk (fun e => h.ne e) (fun k hk' e => (h.aA k hk').2.2 e), hst, ?_, ?_, ?_, h.ne, h.ws, h.wr⟩, hk, fun k hk' => hk'.1⟩
  · exact fun k hk' => ⟨(h.aA k hk').1, Nat.lt_of_lt_of_le (h.aA k hk').2.1 hk.size, (h.aA k hk').2.2⟩
  · exact fun k hk' => ⟨Nat.le_trans h.keep.size hk'.1, hk'.2, fun e => by have := hk'.1; omega⟩
  · exact fun k hk' h' => by have := (h.aA k hk').2.1; have := h'.1; omega
/-- what both Nexts give, of the same bytes -/
theorem StW.nextS {w : World} {s r : Nat} {A A' : Nat → Prop} {l1 : Bytes} {n1 : Int} {l2 : Bytes} {n2 : Int} {W : World} (h : StW w s r A A' l1 n1 l2 n2 W) (hl : l1.length ≤ 1048576) (h0 : 0 ≤ n1) (hn : n1 ≤ 1048576000000) {z : Req} {ez : Int} {ok : Bool} {l' : Bytes} {k : Nat} (hx : nextB l1 = ((z, ez, ok), l', k)) :
    Calls Tryz.prog 32 #[.pointer (some ⟨s, 0, none⟩)] W fun e W' => ∃ a c, e = .returned (.tuple #[.agg #[.int .i64 z.client, .int .u64 z.token, .string z.name, .slice a z.args.length c], .int .i64 ez, .bool ok]) ∧
      RowKit.Hid (Rd requestSh W' (Fr W.heap.size W'.heap.size) [.int .i64 z.client, .int .u64 z.token, .string z.name, .slice a z.args.length c] z ∧ ∃ A1, StW w s r A1 A' l' (n1 + k) l2 n2 W') := by
  refine (stNext_any W s A l1 n1 h.st (fun k hk => (h.aA k hk).2.1) hl h0 hn).mono ?_
  rw [hx]
  rintro e W' ⟨mid, a, c, rfl, h'⟩
  obtain ⟨hm1, hm2, hr, hst, hk⟩ := h'.out
  have hkw : Keep No w W' := h.keep.then hk fun i hi hm => by have : i = s := hm; have := h.ws; omega
  have hs := h.rs.lt
  refine ⟨a, c, rfl, hr.mono requestSh fun i _ hi => ⟨hi.1, by have := hi.2; omega⟩, _, hkw, hst, h.rs.keep hk (fun e => h.ne e.symm) (fun k hk' e => (h.aA' k hk').2.2 e), ?_, ?_, ?_, h.ne, h.ws, h.wr⟩
  · exact fun k hk' => ⟨Nat.le_trans h.keep.size (Nat.le_trans hm1 hk'.1), hk'.2, fun e => by have := hk'.1; omega⟩
  · exact fun k hk' => ⟨(h.aA' k hk').1, Nat.lt_of_lt_of_le (h.aA' k hk').2.1 hk.size, (h.aA' k hk').2.2⟩
  · exact fun k hk' h' => by have := (h.aA' k h').2.1; have := hk'.1; omega
theorem StW.nextR {w : World} {s r : Nat} {A A' : Nat → Prop} {l1 : Bytes} {n1 : Int} {l2 : Bytes} {n2 : Int} {W : World} (h : StW w s r A A' l1 n1 l2 n2 W) (hl : l2.length ≤ 1048576) (h0 : 0 ≤ n2) (hn : n2 ≤ 1048576000000) {z : Req} {ez : Int} {ok : Bool} {l' : Bytes} {k : Nat} (hx : nextB l2 = ((z, ez, ok), l', k)) :
    Calls Tryz.prog 39 #[.pointer (some ⟨r, 0, none⟩)] W fun e W' => ∃ a c, e = .returned (.tuple #[.agg #[.int .i64 z.client, .int .u64 z.token, .string z.name, .slice a z.args.length c], .int .i64 ez, .bool ok]) ∧
      RowKit.Hid (Rd requestSh W' (Fr W.heap.size W'.heap.size) [.int .i64 z.client, .int .u64 z.token, .string z.name, .slice a z.args.length c] z ∧ StW w s r A A' l1 n1 l' (n2 + k) W' ∧ Keep (One r) W W') := by
  refine (rNext_any W r A' l2 n2 h.rs (fun k hk => (h.aA' k hk).2.1) hl h0 hn).mono ?_
  rw [hx]
  rintro e W' ⟨a, c, rfl, h'⟩
  obtain ⟨hr, hst, hk⟩ := h'.out
  have hkw : Keep No w W' := h.keep.then hk fun i hi hm => by have : i = r := hm; have := h.wr; omega
  refine ⟨a, c, rfl, hr, ⟨hkw, h.st.keep hk (fun e => h.ne e) (fun k hk' e => (h.aA k hk').2.2 e), hst, ?_, ?_, h.dj, h.ne, h.ws, h.wr⟩, hk⟩
  · exact fun k hk' => ⟨(h.aA k hk').1, Nat.lt_of_lt_of_le (h.aA k hk').2.1 hk.size, (h.aA k hk').2.2⟩
  · exact fun k hk' => ⟨(h.aA' k hk').1, Nat.lt_of_lt_of_le (h.aA' k hk').2.1 hk.size, (h.aA' k hk').2.2⟩
theorem Wr.keep {b o n : Nat} {W W' : World} (h : Wr b o n W) {M : Nat → Prop} (hk : Keep M W W') (hb : ¬ M b) (hlt : b < W.heap.size) : Wr b o n W' := fun j hj => by
  obtain ⟨⟨v, hv⟩, hf⟩ := h j hj
  exact ⟨⟨v, (hk.cell hlt hb).trans hv⟩, (hk.frozen hlt hb).trans hf⟩
end Go.Proofs.YtpjcebajkfeacaaGreatDoor
