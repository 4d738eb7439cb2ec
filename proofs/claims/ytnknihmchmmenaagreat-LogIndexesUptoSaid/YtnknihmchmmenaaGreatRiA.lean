/-
  The document's index: Epoch, Find; the law's numbers.
-/
import Derived.Test.YtnknihmchmmenaaGreatIxH
namespace Go.Proofs.YtnknihmchmmenaaGreat
open Go Go.RowKit Go.Deep
set_option linter.unusedVariables false
set_option linter.unusedSimpArgs false

/-- the document's index, in blocks of S -/
def RxAt (w : World) (B : Nat) (S : Nat → Prop) (l : List Ent) : Prop :=
  ∃ (v : Value) (A : Nat → Prop), w.heap[B]? = some (.cells #[v] 106 (0, 0)) ∧ Own entrySh 40 w A v l ∧ S B ∧ (∀ k, A k → S k ∧ k ≠ B) ∧ (∀ k, S k → k < w.heap.size)
theorem RxAt.keep {w w' : World} {B : Nat} {S : Nat → Prop} {l : List Ent} (h : RxAt w B S l) {M : Nat → Prop} (hk : Keep M w w') (hM : ∀ i, S i → ¬ M i) : RxAt w' B S l := by
  obtain ⟨v, A, h1, h2, h3, h4, h5⟩ := h
  exact ⟨v, A, hk.blk h1 (hM _ h3), h2.agree (hk.agree fun i _ hi => hM i (h4 i hi).1), h3, h4, fun k hk' => Nat.lt_of_lt_of_le (h5 k hk') hk.size⟩
theorem RxAt.cell {w : World} {B : Nat} {S : Nat → Prop} {l : List Ent} (h : RxAt w B S l) : ∃ a c, w.heap[B]? = some (.cells #[.slice a l.length c] 106 (0, 0)) ∧ Rd (.slice entrySh) w S [.slice a l.length c] l := by
  obtain ⟨v, A, h1, h2, h3, h4, h5⟩ := h
  obtain ⟨a, c, rfl, -⟩ := h2.form
  exact ⟨a, c, h1, h2.rd.mono _ fun i _ hi => (h4 i hi).1⟩

set_option maxHeartbeats 1000000 in
theorem rixEpoch_any {w : World} {B : Nat} {S : Nat → Prop} {l : List Ent} (h : RxAt w B S l) (hl : l.length ≤ 65536) (hs : (l.map (fun e => e.epoch)).Pairwise (· ≤ ·)) (t : Int) :
    Calls Tryz.prog 102 #[.pointer (some ⟨B, 0, none⟩), .int .i64 t] w (GivesEp w (l.map (fun e => e.epoch)) t) := by
  obtain ⟨a, c, hb, hr⟩ := h.cell
  have cB := blk_cell hb
  have HS : RowKit.Hid (∀ (x y : Nat) (hx : x < l.length) (hy : y < l.length), x ≤ y → l[x].epoch ≤ l[y].epoch) := fun x y hx hy hxy => by
    rcases Nat.lt_or_ge x y with h1 | h1
    · have := (List.pairwise_iff_getElem.1 hs) x y (by simp; omega) (by simp; omega) h1
      simpa using this
    · obtain rfl : x = y := by omega
      exact Int.le_refl _
  have HR := Lib.hid (And.intro hr hl)
  clear h hb hr hl hs
  go_enter Tryz.func102, Tryz.ntmps102
  go_wp2_with fail
  go_loopw [6, 7, 8] (fun i j k' wr => ∃ p q k : Nat, i = .int .i64 p ∧ j = .int .i64 q ∧ k' = .int .i64 k ∧ k ≤ l.length ∧ wr = w ∧ RowKit.Hid (Below' ((l.map (fun e => e.epoch)).take k) t p ∧ Below' ((l.map (fun e => e.epoch)).take k) (t + 1) q)) (fun _ _ k' _ => l.length - (intOf k').toNat)
  case atStart => exact ⟨0, 0, 0, rfl, rfl, rfl, Nat.zero_le _, rfl, ⟨Nat.zero_le _, fun i h _ => absurd h (by simp), fun i h _ => absurd h (by simp)⟩, ⟨Nat.zero_le _, fun i h _ => absurd h (by simp), fun i h _ => absurd h (by simp)⟩⟩
  case round =>
    obtain ⟨p, q, k, rfl, rfl, rfl, hk, rfl, HP⟩ := hrel
    by_cases hlt : k < l.length
    · obtain ⟨b, off, y1, z1, y2, z2, y3, z3, rfl, hbi, -, hrow, -⟩ := ents_get HR.out.1 k hlt
      have r1 := (row_nine hrow).2.1
      have j0 : (0 : Int) ≤ (k : Int) := by omega
      have j1 : (k : Int) < (l.length : Int) := by omega
      have j3 : (k : Int) ≤ 9223372036854775806 := by have := HR.out.2; omega
      have HLT : RowKit.Hid (k < l.length) := hlt
      have hstep : ∀ u n, Below' ((l.map (fun e => e.epoch)).take k) u n → (l[k].epoch < u → Below' ((l.map (fun e => e.epoch)).take (k + 1)) u (k + 1)) ∧ (¬ l[k].epoch < u → Below' ((l.map (fun e => e.epoch)).take (k + 1)) u n) := fun u n hb => by
        have hle := hb.le
        simp only [List.length_take, List.length_map] at hle
        refine ⟨fun hlu => ⟨by simp; omega, fun i hi _ => ?_, fun i hi h2 => ?_⟩, fun hlu => ⟨by simp; omega, fun i hi h2 => ?_, fun i hi h2 => ?_⟩⟩
        · simp at hi ⊢
          have := HS.out i k (by omega) hlt (by omega)
          omega
        · simp at hi; omega
        · have := hb.lo i (by simp; omega) h2
          simpa using this
        · simp at hi
          rcases Nat.lt_or_ge i k with h3 | h3
          · have := hb.hi i (by simp; omega) h2
            simpa using this
          · obtain rfl : i = k := by omega
            simp; omega
      obtain ⟨y, hy, r1'⟩ : ∃ y, l[k].epoch = y ∧ wr.cell? ⟨b, off + k * 9 + 1, none⟩ = some (.int .i64 y) := ⟨_, rfl, r1⟩
      simp only [hy] at hstep
      clear r1
      have HT := Lib.hid (And.intro (hstep t p HP.out.1) (hstep (t + 1) q HP.out.2))
      clear hstep hy hrow hlt hk hbi
      by_cases c1 : y < t
      · have d1 : decide (y < t) = true := by simpa using c1
        have d2 : decide (y ≤ t) = true := by simp; omega
        have HB := Lib.hid (And.intro (HT.out.1.1 c1) (HT.out.2.1 (by omega)))
        clear c1
        go_wp2_with fail
        go_roundw
        case rel => exact ⟨k + 1, k + 1, k + 1, by simp, by simp, by simp, HLT.out, by first | rfl | trivial, HB.out⟩
        case measure => simp [intOf]; have := HLT.out; omega
      · have d1 : decide (y < t) = false := by simpa using c1
        by_cases c2 : y ≤ t
        · have d2 : decide (y ≤ t) = true := by simpa using c2
          have HB := Lib.hid (And.intro (HT.out.1.2 c1) (HT.out.2.1 (by omega)))
          clear c1 c2
          go_wp2_with fail
          go_roundw
          case rel => exact ⟨p, k + 1, k + 1, by first | rfl | simp, by simp, by simp, HLT.out, by first | rfl | trivial, HB.out⟩
          case measure => simp [intOf]; have := HLT.out; omega
        · have d2 : decide (y ≤ t) = false := by simpa using c2
          have HB := Lib.hid (And.intro (HT.out.1.2 c1) (HT.out.2.2 (by omega)))
          clear c1 c2
          go_wp2_with fail
          go_roundw
          case rel => exact ⟨p, q, k + 1, by first | rfl | simp, by first | rfl | simp, by simp, HLT.out, by first | rfl | trivial, HB.out⟩
          case measure => simp [intOf]; have := HLT.out; omega
    · have j1 : ¬ (k : Int) < (l.length : Int) := by omega
      have HB : RowKit.Hid (Below' (l.map (fun e => e.epoch)) t p ∧ Below' (l.map (fun e => e.epoch)) (t + 1) q) := by
        have := HP.out
        rw [List.take_of_length_le (by simp; omega)] at this
        exact this
      clear hlt hk
      go_wp2_with fail
      exact bodyPost_ret (v := .tuple #[.int .i64 p, .int .i64 q]) (by simp [results, Tryz.results102, go_sem]) rfl ⟨p, q, HB.out.1, HB.out.2, rfl, rfl⟩

set_option maxHeartbeats 1000000 in
/-- numbers that are the same -/
theorem numbers_eq (w : World) (S T : Nat → Prop) (v u : Value) (l : List Int) (h : Rd (.slice (.int .i64)) w S [v] l) (h' : Rd (.slice (.int .i64)) w T [u] l) (hl : l.length ≤ 1048576) :
    Calls Tryz.prog 104 #[v, u] w fun e w' => e = .returned (.bool true) ∧ Keep No w w' := by
  obtain ⟨a, c, rfl, -⟩ := i64_at h
  obtain ⟨a', c', rfl, -⟩ := i64_at h'
  have HA := Lib.hid (And.intro h (And.intro h' hl))
  clear h h' hl
  obtain ⟨q, hq⟩ : ∃ q, l.length = q := ⟨_, rfl⟩
  have HQ := Lib.hid hq
  rw [hq]
  clear hq
  go_enter Tryz.func104, Tryz.ntmps104
  go_wp2_with fail
  go_loopw [5] (fun i wr => ∃ k : Nat, i = .int .i64 k ∧ k ≤ q ∧ RowKit.Hid (Keep No w wr)) (fun i _ => q - (intOf i).toNat)
  case atStart => exact ⟨0, rfl, Nat.zero_le _, Keep.refl _ _⟩
  case round =>
    obtain ⟨k, rfl, hk, HK⟩ := hrel
    rename World => wr
    by_cases hlt : k < q
    · have hk' : k < l.length := by have := HQ.out; omega
      obtain ⟨a1, d1, e1, -, -, g1⟩ := i64_at (HA.out.1.agree _ HK.out.agreeNo)
      obtain ⟨a2, d2, e2, -, -, g2⟩ := i64_at (HA.out.2.1.agree _ HK.out.agreeNo)
      simp only [Value.slice.injEq] at e1 e2
      obtain ⟨rfl, -, -⟩ := e1
      obtain ⟨rfl, -, -⟩ := e2
      obtain ⟨b1, o1, rfl, g1, -⟩ := g1 k hk'
      obtain ⟨b2, o2, rfl, g2, -⟩ := g2 k hk'
      obtain ⟨y, g1, g2⟩ : ∃ y, wr.cell? ⟨b1, o1 + k, none⟩ = some (.int .i64 y) ∧ wr.cell? ⟨b2, o2 + k, none⟩ = some (.int .i64 y) := ⟨_, g1, g2⟩
      have i0 : (0 : Int) ≤ (k : Int) := by omega
      have i1 : (k : Int) < (q : Int) := by omega
      have i3 : (k : Int) ≤ 9223372036854775806 := by have := HQ.out; have := HA.out.2.2; omega
      have HLT : RowKit.Hid (k < q) := hlt
      clear hk hlt
      go_upto_region 6 with fail
      go_quiet (fail)
      go_wp2_with fail
      go_roundw
      case rel => exact ⟨k + 1, by simp, HLT.out, HK.out.drewN _⟩
      case measure => simp [intOf]; have := HLT.out; omega
    · have i1 : ¬ (k : Int) < (q : Int) := by omega
      clear hlt hk
      go_wp2_with fail
      go_ret
      exact ⟨rfl, HK.out⟩
end Go.Proofs.YtnknihmchmmenaaGreat
