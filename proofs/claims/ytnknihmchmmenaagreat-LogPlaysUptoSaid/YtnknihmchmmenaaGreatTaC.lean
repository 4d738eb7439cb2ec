/-
  The document's plans: are two plans the same, where they are.
-/
import Derived.Test.YtnknihmchmmenaaGreatGY
import Derived.Test.YtnknihmchmmenaaGreatGU
import Derived.Test.YtnknihmchmmenaaGreatGB
namespace Go.Proofs.YtnknihmchmmenaaGreat
open Go Go.RowKit Go.Deep
set_option linter.unusedVariables false
set_option linter.unusedSimpArgs false

theorem value_cells {w : World} {S : Nat → Prop} {cs : List Value} {x : valueSh.T} (h : Rd valueSh w S cs x) : cs = [.int .i64 x.1, .int .i64 x.2.1, .string x.2.2.1] := by
  obtain ⟨_, _, rfl, ⟨rfl, w1⟩, _, _, rfl, ⟨rfl, w2⟩, _, _, rfl, ⟨rfl, w3⟩, rfl⟩ := h
  rfl

theorem take_eq_succ {α : Type} {a b : List α} {k : Nat} (ha : k < a.length) (hb : k < b.length) (h : a.take k = b.take k) (e : a[k] = b[k]) : a.take (k + 1) = b.take (k + 1) := by
  rw [List.take_succ_eq_append_getElem ha, List.take_succ_eq_append_getElem hb, h, e]

/-- true, and nothing but draws -/
def QuietTrue (w : World) (e : Ending) (w' : World) : Prop := ∃ n, e = .returned (.bool true) ∧ w' = w.drewN n

set_option maxRecDepth 10000 in
set_option maxHeartbeats 1000000 in
theorem values_eq (w : World) (S T : Nat → Prop) (a1 a2 : Option Addr) (c1 c2 : Nat) (l : List valueSh.T) (h1 : Rd (.slice valueSh) w S [.slice a1 l.length c1] l) (h2 : Rd (.slice valueSh) w T [.slice a2 l.length c2] l) (hl : l.length ≤ 1048576) :
    Calls Tryz.prog 92 #[.slice a1 l.length c1, .slice a2 l.length c2] w (QuietTrue w) := by
  go_enter Tryz.func92, Tryz.ntmps92
  go_wp2_with fail
  go_loopw [5] (fun i wr => ∃ k n : Nat, k ≤ l.length ∧ i = .int .i64 k ∧ wr = w.drewN n) (fun i _ => l.length - (intOf i).toNat)
  case atStart => exact ⟨0, 0, Nat.zero_le _, rfl, rfl⟩
  case round =>
    obtain ⟨k, n, hk, rfl, rfl⟩ := hrel
    by_cases hlt : k < l.length
    · obtain ⟨b1, o1, r1, rfl, -, hb1, -, hr1, hrow1, hx1⟩ := h1.elem' k hlt
      obtain ⟨b2, o2, r2, rfl, -, hb2, -, hr2, hrow2, hx2⟩ := h2.elem' k hlt
      obtain rfl := value_cells hx1
      obtain rfl := value_cells hx2
      have p0 := (hrow1 0 (by simp)).1
      have p1 := (hrow1 1 (by simp)).1
      have p2 := (hrow1 2 (by simp)).1
      have s0 := (hrow2 0 (by simp)).1
      have s1 := (hrow2 1 (by simp)).1
      have s2 := (hrow2 2 (by simp)).1
      simp [Sh.size] at p0 p1 p2 s0 s1 s2
      have j0 : (0 : Int) ≤ (k : Int) := by omega
      have j1 : (k : Int) < (l.length : Int) := by omega
      have hq := fun w => run_neq_value w l[k] l[k]
      have hd : decide (l[k] ≠ l[k]) = false := by simp
      rw [hd] at hq
      clear hx1 hx2 hrow1 hrow2 h1 h2 hd
      go_wp2_with fail
      refine wp_region_can [0, 1, 2, 3, 4, 5, 6, 7, 8] [] [] (by kernel_rfl) (by kernel_rfl) (by kernel_rfl) (by kernel_rfl) (by intro c a d v w h; cases d <;> exact h) ?_
      iterate 9 (refine can_sil rfl rfl (fun K hK => ?_); go_simp; refine hK _ ?_; clear hK K)
      refine can_nil ?_
      go_wp2_with fail
      go_roundw
      case rel => exact ⟨k + 1, n + 1, by omega, by go_num, rfl⟩
      case measure => simp [intOf]; omega
    · go_wp2_with fail
      go_ret
      exact ⟨n, rfl, rfl⟩

set_option maxRecDepth 10000 in
set_option maxHeartbeats 1000000 in
theorem texts_eq (w : World) (S T : Nat → Prop) (a1 a2 : Option Addr) (c1 c2 : Nat) (l : List ByteArray) (h1 : Rd (.slice .str) w S [.slice a1 l.length c1] l) (h2 : Rd (.slice .str) w T [.slice a2 l.length c2] l) (hl : l.length ≤ 1048576) :
    Calls Tryz.prog 93 #[.slice a1 l.length c1, .slice a2 l.length c2] w (QuietTrue w) := by
  go_enter Tryz.func93, Tryz.ntmps93
  go_wp2_with fail
  go_loopw [5] (fun i wr => ∃ k n : Nat, k ≤ l.length ∧ i = .int .i64 k ∧ wr = w.drewN n) (fun i _ => l.length - (intOf i).toNat)
  case atStart => exact ⟨0, 0, Nat.zero_le _, rfl, rfl⟩
  case round =>
    obtain ⟨k, n, hk, rfl, rfl⟩ := hrel
    by_cases hlt : k < l.length
    · obtain ⟨b1, o1, r1, rfl, -, hb1, -, hr1, hrow1, hx1⟩ := h1.elem' k hlt
      obtain ⟨b2, o2, r2, rfl, -, hb2, -, hr2, hrow2, hx2⟩ := h2.elem' k hlt
      obtain ⟨rfl, -⟩ := hx1
      obtain ⟨rfl, -⟩ := hx2
      have p0 := (hrow1 0 (by simp)).1
      have s0 := (hrow2 0 (by simp)).1
      simp [Sh.size] at p0 s0
      have j0 : (0 : Int) ≤ (k : Int) := by omega
      have j1 : (k : Int) < (l.length : Int) := by omega
      clear hrow1 hrow2 h1 h2
      go_wp2_with fail
      refine wp_region_can [0, 1, 2, 3, 4, 5, 6, 7, 8] [] [] (by kernel_rfl) (by kernel_rfl) (by kernel_rfl) (by kernel_rfl) (by intro c a d v w h; cases d <;> exact h) ?_
      iterate 9 (refine can_sil rfl rfl (fun K hK => ?_); go_simp; refine hK _ ?_; clear hK K)
      refine can_nil ?_
      go_wp2_with fail
      go_roundw
      case rel => exact ⟨k + 1, n + 1, by omega, by go_num, rfl⟩
      case measure => simp [intOf]; omega
    · go_wp2_with fail
      go_ret
      exact ⟨n, rfl, rfl⟩

set_option maxRecDepth 10000 in
set_option maxHeartbeats 1000000 in
theorem same_eq (w : World) (S T : Nat → Prop) (cs ds : List Value) (p : Plan) (h1 : Rd planSh w S cs p) (h2 : Rd planSh w T ds p) (l1 : p.args.length ≤ 1048576) (l2 : p.reads.length ≤ 1048576) (l3 : p.writes.length ≤ 1048576) :
    Calls Tryz.prog 33 #[.agg cs.toArray, .agg ds.toArray] w fun e w' => e = .returned (.bool true) ∧ Keep No w w' := by
  obtain ⟨a1, c1, a2, c2, a3, c3, rfl, p1, p2, p3, -⟩ := plan_cells h1
  obtain ⟨b1, d1, b2, d2, b3, d3, rfl, q1, q2, q3, -⟩ := plan_cells h2
  clear h1 h2
  go_enter Tryz.func33, Tryz.ntmps33
  go_wp2_with fail
  refine (values_eq _ S T _ _ _ _ _ (Rd.agree _ p1 (by exact (((((Keep.refl No w).alloc _).alloc _).alloc _).alloc _).agreeNo)) (Rd.agree _ q1 (by exact (((((Keep.refl No w).alloc _).alloc _).alloc _).alloc _).agreeNo)) l1).mono ?_
  rintro e w' ⟨n1, rfl, rfl⟩
  go_wp2_with fail
  refine (texts_eq _ S T _ _ _ _ _ (Rd.agree _ p2 (by exact ((((((Keep.refl No w).alloc _).alloc _).alloc _).alloc _).drewN _).agreeNo)) (Rd.agree _ q2 (by exact ((((((Keep.refl No w).alloc _).alloc _).alloc _).alloc _).drewN _).agreeNo)) l2).mono ?_
  rintro e w' ⟨n2, rfl, rfl⟩
  go_wp2_with fail
  refine (texts_eq _ S T _ _ _ _ _ (Rd.agree _ p3 (by exact ((((((Keep.refl No w).alloc _).alloc _).alloc _).alloc _).drewN _).agreeNo)) (Rd.agree _ q3 (by exact ((((((Keep.refl No w).alloc _).alloc _).alloc _).alloc _).drewN _).agreeNo)) l3).mono ?_
  rintro e w' ⟨n3, rfl, rfl⟩
  go_wp2_with fail
  go_ret
  exact ⟨rfl, by first | exact (((((Keep.refl No w).alloc _).alloc _).alloc _).alloc _).drewN _⟩

end Go.Proofs.YtnknihmchmmenaaGreat
