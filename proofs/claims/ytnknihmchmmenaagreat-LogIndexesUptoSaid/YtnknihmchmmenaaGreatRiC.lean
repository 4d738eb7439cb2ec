/-
  The document's index: Last, Add.
-/
import Derived.Test.YtnknihmchmmenaaGreatRiB
import Derived.Test.YtnknihmchmmenaaGreatGX
import Derived.Test.YtnknihmchmmenaaGreatGZ
import Derived.Test.YtnknihmchmmenaaGreatHB
namespace Go.Proofs.YtnknihmchmmenaaGreat
open Go Go.RowKit Go.Deep
set_option linter.unusedVariables false
set_option linter.unusedSimpArgs false

def GivesLastK (w : World) (l : List Int) (t : Int) (e : Ending) (w' : World) : Prop := ∃ k, Below' l t k ∧ Keep No w w' ∧ ((k = 0 ∧ e = .returned (.tuple #[.int .i64 0, .bool false])) ∨ ∃ (h : k - 1 < l.length), 0 < k ∧ e = .returned (.tuple #[.int .i64 l[k - 1], .bool true]))

set_option maxRecDepth 10000 in
set_option maxHeartbeats 2000000 in
theorem rixLast_any {w : World} {B : Nat} {S : Nat → Prop} {l : List Ent} (h : RxAt w B S l) (hl : l.length ≤ 65536) (x : ByteArray) (t : Int) :
    Calls Tryz.prog 101 #[.pointer (some ⟨B, 0, none⟩), .string x, .int .i64 t] w (GivesLastK w (idxs (fun e => hasT e.plan.writes x) 0 l) t) := by
  have hby := rixByW_any h hl x
  have hLl : (idxs (fun e => hasT e.plan.writes x) 0 l).length ≤ 65536 := Nat.le_trans (idxs_len _ _ _) hl
  have hLs := idxs_sorted (fun e => hasT e.plan.writes x) 0 l
  generalize idxs (fun e => hasT e.plan.writes x) 0 l = L at *
  have hby2 := hby.mono (R' := fun e w' => ∃ a n c, e = .returned (.slice a n c) ∧ RowKit.Hid (n = L.length ∧ Keep No w w' ∧ ∀ i (h : i < L.length), ∃ b off, a = some ⟨b, off, none⟩ ∧ w'.cell? ⟨b, off + i, none⟩ = some (.int .i64 L[i]))) (by
    rintro e w' ⟨a, c, rfl, ho, hk⟩
    obtain ⟨a', c', ev, -, -, hat⟩ := i64_at ho.rd
    simp only [Value.slice.injEq] at ev
    obtain ⟨rfl, -, rfl⟩ := ev
    exact ⟨a, _, c, rfl, rfl, hk, fun i hi => by obtain ⟨b, off, h1, h2, -⟩ := hat i hi; exact ⟨b, off, h1, h2⟩⟩)
  have HL := Lib.hid (And.intro hLl hLs)
  clear hby h hl hLl hLs
  go_enter Tryz.func101, Tryz.ntmps101
  go_wp2_with fail
  refine hby2.mono ?_
  clear hby2
  rintro e w1 ⟨a, n, c, rfl, H1⟩
  obtain ⟨s0, hs0⟩ : ∃ s0, IntKind.i64.wrap ((n : Int) - 1) = s0 := ⟨_, rfl⟩
  have HS0 : RowKit.Hid (s0 = (n : Int) - 1) := by show s0 = _; rw [← hs0, IntKind.wrap_i64]; have := HL.out.1; have := H1.out.1; omega
  go_wp2_with fail
  clear hs0
  go_loopw [9] (fun i wr => ((i = .int .i64 (-1) ∧ RowKit.Hid (∀ j (h : j < L.length), t ≤ L[j])) ∨ (∃ p : Nat, i = .int .i64 p ∧ RowKit.Hid (p < L.length ∧ ∀ j (h : j < L.length), p < j → t ≤ L[j]))) ∧ wr = w1) (fun i _ => (intOf i + 1).toNat)
  case atStart =>
    refine ⟨?_, rfl⟩
    rw [HS0.out, H1.out.1]
    by_cases h0 : L.length = 0
    · exact .inl ⟨by rw [h0]; rfl, fun j h => by omega⟩
    · exact .inr ⟨L.length - 1, by congr 1; omega, by omega, fun j h h2 => by omega⟩
  case round =>
    obtain ⟨hrel, rfl⟩ := hrel
    rcases hrel with ⟨rfl, HN⟩ | ⟨p, rfl, HP⟩
    · go_wp2_with fail
      exact bodyPost_ret (v := .tuple #[.int .i64 0, .bool false]) (by simp [results, Tryz.results101, go_sem]) rfl ⟨0, ⟨Nat.zero_le _, fun i _ h => absurd h (Nat.not_lt_zero _), fun i h _ => HN.out i h⟩, H1.out.2.1, .inl ⟨rfl, rfl⟩⟩
    · obtain ⟨b, off, rfl, hc⟩ := H1.out.2.2 p HP.out.1
      have j0 : (0 : Int) ≤ (p : Int) := by omega
      have j1 : (p : Int) < (n : Int) := by have := HP.out.1; have := H1.out.1; omega
      obtain ⟨dd, hdd⟩ : ∃ d, IntKind.i64.wrap ((p : Int) - 1) = d := ⟨_, rfl⟩
      have HD : RowKit.Hid (dd = (p : Int) - 1) := by show dd = _; rw [← hdd, IntKind.wrap_i64]; have := HL.out.1; have := HP.out.1; omega
      obtain ⟨y, hy, hcy⟩ : ∃ y, L[p]'HP.out.1 = y ∧ wr.cell? ⟨b, off + p, none⟩ = some (.int .i64 y) := ⟨_, rfl, hc⟩
      have HY : RowKit.Hid (∃ h : p < L.length, L[p] = y) := ⟨HP.out.1, hy⟩
      clear hy hc
      by_cases hyt : y < t
      · have d1 : decide (y < t) = true := by simpa using hyt
        have HYT := Lib.hid hyt
        clear hyt
        go_wp2_with fail
        refine bodyPost_ret (v := .tuple #[.int .i64 y, .bool true]) (by simp [results, Tryz.results101, go_sem]) rfl ?_
        obtain ⟨h1, h2⟩ := HY.out
        refine ⟨p + 1, ⟨h1, fun i hi hip => ?_, fun i hi hip => HP.out.2 i hi (by omega)⟩, H1.out.2.1, .inr ⟨by omega, by omega, by rw [← h2]; rfl⟩⟩
        have h3 := HYT.out
        rcases Nat.lt_or_ge i p with h4 | h4
        · have := (List.pairwise_iff_getElem.1 HL.out.2) i p hi h1 h4
          omega
        · obtain rfl : i = p := by omega
          omega
      · have d1 : decide (y < t) = false := by simpa using hyt
        have HYT := Lib.hid hyt
        clear hyt
        have HX : RowKit.Hid ((dd = -1 ∧ RowKit.Hid (∀ j (h : j < L.length), t ≤ L[j])) ∨ (∃ p' : Nat, dd = (p' : Int) ∧ RowKit.Hid (p' < L.length ∧ ∀ j (h : j < L.length), p' < j → t ≤ L[j]))) := by
          obtain ⟨h1, h2⟩ := HY.out
          have hall : ∀ j (h : j < L.length), p ≤ j → t ≤ L[j] := fun j h hpj => by
            rcases Nat.lt_or_ge p j with h3 | h3
            · exact HP.out.2 j h h3
            · obtain rfl : p = j := by omega
              rw [h2]; have := HYT.out; omega
          rw [HD.out]
          by_cases h0 : p = 0
          · exact .inl ⟨by omega, fun j h => hall j h (by omega)⟩
          · exact .inr ⟨p - 1, by omega, by omega, fun j h hj => hall j h (by omega)⟩
        go_wp2_with fail
        go_roundw
        case rel => exact ⟨HX.out.imp (fun h => ⟨by rw [h.1], h.2⟩) (fun ⟨p', h1, h2⟩ => ⟨p', by rw [h1], h2⟩), by first | rfl | trivial⟩
        case measure => simp [intOf]; have := HD.out; omega

/-- what Add says, and what it leaves -/
def RxAdded (w : World) (B : Nat) (S : Nat → Prop) (r : Int × List Ent) (e : Ending) (w' : World) : Prop :=
  e = .returned (.int .i64 r.1) ∧ ∃ S' : Nat → Prop, RxAt w' B S' r.2 ∧ (∀ k, S' k → S k ∨ w.heap.size ≤ k) ∧ Keep S w w'
end Go.Proofs.YtnknihmchmmenaaGreat
