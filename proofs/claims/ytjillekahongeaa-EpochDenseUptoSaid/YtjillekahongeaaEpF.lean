/-
  Plans held against one another: the equal ones are told so.
-/
import Derived.Test.YtjillekahongeaaEpE
namespace Go.Proofs.Ytjillekahongeaa
open Go Go.RowKit Go.Deep
set_option linter.unusedVariables false

theorem value_cells {w : World} {S : Nat → Prop} {cs : List Value} {x : valueSh.T} (h : Rd valueSh w S cs x) : cs = [.int .i64 x.1, .int .i64 x.2.1, .string x.2.2.1] := by
  obtain ⟨_, _, rfl, ⟨rfl, w1⟩, _, _, rfl, ⟨rfl, w2⟩, _, _, rfl, ⟨rfl, w3⟩, rfl⟩ := h
  rfl

/-- an element's place and cells -/
theorem Rd.elem {s : Sh} {w : World} {S : Nat → Prop} {a : Option Addr} {n c : Nat} {l : List s.T} (h : Rd (.slice s) w S [.slice a n c] l) (i : Nat) (hi : i < l.length) :
    ∃ b off row, a = some ⟨b, off, none⟩ ∧ n = l.length ∧ b < w.heap.size ∧ S b ∧ row.length = s.size ∧ RowAt w b (off + i * s.size) row ∧ Rd s w S row l[i] := by
  obtain ⟨a', c', hv, _, _, _, hx⟩ := h
  simp only [List.cons.injEq, Value.slice.injEq, and_true] at hv
  obtain ⟨rfl, rfl, rfl⟩ := hv
  obtain ⟨b, off, row, h1, h2, h3, h4, h5, h6⟩ := hx i hi
  exact ⟨b, off, row, h1, rfl, h2, h3, h4, h5, h6⟩

theorem bytes_ne {a b : ByteArray} (h : a ≠ b) : (a.toList == b.toList) = false := by
  rw [← beq_toListBytes]
  have : (a == b) = (a.data == b.data) := rfl
  rw [this]
  simp
  intro h2
  exact h (by cases a; cases b; simp_all)
theorem bytes_beq (a b : ByteArray) : (a.toList == b.toList) = decide (a = b) := by
  by_cases h : a = b
  · subst h; simp
  · rw [bytes_ne h]; simp [h]

theorem run_neq_value (w : World) (x y : valueSh.T) : (binOp .neq 68 (.agg #[.int .i64 x.1, .int .i64 x.2.1, .string x.2.2.1]) (.agg #[.int .i64 y.1, .int .i64 y.2.1, .string y.2.2.1])).run Try.prog w = .ok (.bool (decide (x ≠ y))) w := by
  obtain ⟨x1, x2, x3, ⟨⟩⟩ := x
  obtain ⟨y1, y2, y3, ⟨⟩⟩ := y
  by_cases h1 : x1 = y1
  · subst h1
    by_cases h2 : x2 = y2
    · subst h2
      by_cases h3 : x3 = y3
      · subst h3
        go_simp
      · have e := bytes_ne h3
        go_simp
    · have e : (x2 == y2) = false := by simpa using h2
      go_simp
  · have e : (x1 == y1) = false := by simpa using h1
    go_simp

theorem take_eq_succ {α : Type} {a b : List α} {k : Nat} (ha : k < a.length) (hb : k < b.length) (h : a.take k = b.take k) (e : a[k] = b[k]) : a.take (k + 1) = b.take (k + 1) := by
  rw [List.take_succ_eq_append_getElem ha, List.take_succ_eq_append_getElem hb, h, e]

/-- true, and nothing but draws -/
def QuietTrue (w : World) (e : Ending) (w' : World) : Prop := ∃ n, e = .returned (.bool true) ∧ w' = w.drewN n

set_option maxHeartbeats 1000000 in
theorem values_eq (w : World) (S T : Nat → Prop) (a1 a2 : Option Addr) (c1 c2 : Nat) (l : List valueSh.T) (h1 : Rd (.slice valueSh) w S [.slice a1 l.length c1] l) (h2 : Rd (.slice valueSh) w T [.slice a2 l.length c2] l) (hl : l.length ≤ 1048576) :
    Calls Try.prog 33 #[.slice a1 l.length c1, .slice a2 l.length c2] w (QuietTrue w) := by
  go_enter Try.func33, Try.ntmps33
  go_wp2_with fail
  go_loopw [5] (fun i wr => ∃ k n : Nat, k ≤ l.length ∧ i = .int .i64 k ∧ wr = w.drewN n) (fun i _ => l.length - (intOf i).toNat)
  case atStart => exact ⟨0, 0, Nat.zero_le _, rfl, rfl⟩
  case round =>
    obtain ⟨k, n, hk, rfl, rfl⟩ := hrel
    by_cases hlt : k < l.length
    · obtain ⟨b1, o1, r1, rfl, -, hb1, -, hr1, hrow1, hx1⟩ := h1.elem k hlt
      obtain ⟨b2, o2, r2, rfl, -, hb2, -, hr2, hrow2, hx2⟩ := h2.elem k hlt
      obtain rfl := value_cells hx1
      obtain rfl := value_cells hx2
      have p0 := (hrow1 0 (by simp)).1
      have p1 := (hrow1 1 (by simp)).1
      have p2 := (hrow1 2 (by simp)).1
      have s0 := (hrow2 0 (by simp)).1
      have s1 := (hrow2 1 (by simp)).1
      have s2 := (hrow2 2 (by simp)).1
      simp [Sh.size] at p0 p1 p2 s0 s1 s2
      have j0 : (0 : Int) ≤ (k : Int) := by omega
      have j1 : (k : Int) < (l.length : Int) := by omega
      have hq := fun w => run_neq_value w l[k] l[k]
      have hd : decide (l[k] ≠ l[k]) = false := by simp
      rw [hd] at hq
      clear hx1 hx2 hrow1 hrow2 h1 h2 hd
      go_wp2_with fail
      refine wp_region_can [0, 1, 2, 3, 4, 5, 6, 7, 8] [] [] (by kernel_rfl) (by kernel_rfl) (by kernel_rfl) (by kernel_rfl) (by intro c a d v w h; cases d <;> exact h) ?_
      repeat (refine can_sil rfl rfl (fun K hK => ?_); go_simp; refine hK _ ?_; clear hK K)
      refine can_nil ?_
      go_wp2_with fail
      go_roundw
      case rel => exact ⟨k + 1, n + 1, by omega, by go_num, rfl⟩
      case measure => simp [intOf]; omega
    · go_wp2_with fail
      go_ret
      exact ⟨n, rfl, rfl⟩

set_option maxHeartbeats 1000000 in
theorem texts_eq (w : World) (S T : Nat → Prop) (a1 a2 : Option Addr) (c1 c2 : Nat) (l : List ByteArray) (h1 : Rd (.slice .str) w S [.slice a1 l.length c1] l) (h2 : Rd (.slice .str) w T [.slice a2 l.length c2] l) (hl : l.length ≤ 1048576) :
    Calls Try.prog 34 #[.slice a1 l.length c1, .slice a2 l.length c2] w (QuietTrue w) := by
  go_enter Try.func34, Try.ntmps34
  go_wp2_with fail
  go_loopw [5] (fun i wr => ∃ k n : Nat, k ≤ l.length ∧ i = .int .i64 k ∧ wr = w.drewN n) (fun i _ => l.length - (intOf i).toNat)
  case atStart => exact ⟨0, 0, Nat.zero_le _, rfl, rfl⟩
  case round =>
    obtain ⟨k, n, hk, rfl, rfl⟩ := hrel
    by_cases hlt : k < l.length
    · obtain ⟨b1, o1, r1, rfl, -, hb1, -, hr1, hrow1, hx1⟩ := h1.elem k hlt
      obtain ⟨b2, o2, r2, rfl, -, hb2, -, hr2, hrow2, hx2⟩ := h2.elem k hlt
      obtain ⟨rfl, -⟩ := hx1
      obtain ⟨rfl, -⟩ := hx2
      have p0 := (hrow1 0 (by simp)).1
      have s0 := (hrow2 0 (by simp)).1
      simp [Sh.size] at p0 s0
      have j0 : (0 : Int) ≤ (k : Int) := by omega
      have j1 : (k : Int) < (l.length : Int) := by omega
      clear hrow1 hrow2 h1 h2
      go_wp2_with fail
      refine wp_region_can [0, 1, 2, 3, 4, 5, 6, 7, 8] [] [] (by kernel_rfl) (by kernel_rfl) (by kernel_rfl) (by kernel_rfl) (by intro c a d v w h; cases d <;> exact h) ?_
      repeat (refine can_sil rfl rfl (fun K hK => ?_); go_simp; refine hK _ ?_; clear hK K)
      refine can_nil ?_
      go_wp2_with fail
      go_roundw
      case rel => exact ⟨k + 1, n + 1, by omega, by go_num, rfl⟩
      case measure => simp [intOf]; omega
    · go_wp2_with fail
      go_ret
      exact ⟨n, rfl, rfl⟩

set_option maxHeartbeats 1000000 in
theorem same_eq (w : World) (S T : Nat → Prop) (cs ds : List Value) (p : Plan) (h1 : Rd planSh w S cs p) (h2 : Rd planSh w T ds p) (l1 : p.args.length ≤ 1048576) (l2 : p.reads.length ≤ 1048576) (l3 : p.writes.length ≤ 1048576) :
    Calls Try.prog 24 #[.agg cs.toArray, .agg ds.toArray] w fun e w' => e = .returned (.bool true) ∧ Keep No w w' := by
  obtain ⟨a1, c1, a2, c2, a3, c3, rfl, p1, p2, p3, -⟩ := plan_cells h1
  obtain ⟨b1, d1, b2, d2, b3, d3, rfl, q1, q2, q3, -⟩ := plan_cells h2
  clear h1 h2
  go_enter Try.func24, Try.ntmps24
  go_wp2_with fail
  refine (values_eq _ S T _ _ _ _ _ (Rd.agree _ p1 (by exact (((((Keep.refl No w).alloc _).alloc _).alloc _).alloc _).agreeNo)) (Rd.agree _ q1 (by exact (((((Keep.refl No w).alloc _).alloc _).alloc _).alloc _).agreeNo)) l1).mono ?_
  rintro e w' ⟨n1, rfl, rfl⟩
  go_wp2_with fail
  refine (texts_eq _ S T _ _ _ _ _ (Rd.agree _ p2 (by exact ((((((Keep.refl No w).alloc _).alloc _).alloc _).alloc _).drewN _).agreeNo)) (Rd.agree _ q2 (by exact ((((((Keep.refl No w).alloc _).alloc _).alloc _).alloc _).drewN _).agreeNo)) l2).mono ?_
  rintro e w' ⟨n2, rfl, rfl⟩
  go_wp2_with fail
  refine (texts_eq _ S T _ _ _ _ _ (Rd.agree _ p3 (by exact ((((((Keep.refl No w).alloc _).alloc _).alloc _).alloc _).drewN _).agreeNo)) (Rd.agree _ q3 (by exact ((((((Keep.refl No w).alloc _).alloc _).alloc _).alloc _).drewN _).agreeNo)) l3).mono ?_
  rintro e w' ⟨n3, rfl, rfl⟩
  go_wp2_with fail
  go_ret
  exact ⟨rfl, by first | exact (((((Keep.refl No w).alloc _).alloc _).alloc _).alloc _).drewN _⟩

/-- a list of plans, at an index -/
theorem Rd.planAt {w : World} {S : Nat → Prop} {a : Option Addr} {n c : Nat} {l : List Plan} (h : Rd (.slice planSh) w S [.slice a n c] l) (k : Nat) (hk : k < l.length) :
    ∃ (b off x1 : Nat) (y1 : Option Addr) (x2 : Nat) (y2 : Option Addr) (x3 : Nat) (y3 : Option Addr), a = some ⟨b, off, none⟩ ∧ n = l.length ∧ b < w.heap.size ∧ S b ∧
      RowAt w b (off + k * 7) [.int .i64 l[k].client, .int .u64 l[k].token, .string l[k].name, .slice y1 l[k].args.length x1, .int .i64 l[k].how, .slice y2 l[k].reads.length x2, .slice y3 l[k].writes.length x3] ∧
      Rd planSh w S [.int .i64 l[k].client, .int .u64 l[k].token, .string l[k].name, .slice y1 l[k].args.length x1, .int .i64 l[k].how, .slice y2 l[k].reads.length x2, .slice y3 l[k].writes.length x3] l[k] := by
  obtain ⟨b, off, row, rfl, rfl, h1, h2, h3, h4, h5⟩ := h.elem k hk
  obtain ⟨y1, x1, y2, x2, y3, x3, rfl, -⟩ := plan_cells h5
  exact ⟨b, off, x1, y1, x2, y2, x3, y3, rfl, rfl, h1, h2, h4, h5⟩

/-- the sizes of a plan's lists -/
def Plan.Small (p : Plan) : Prop := p.args.length ≤ 1048576 ∧ p.reads.length ≤ 1048576 ∧ p.writes.length ≤ 1048576

set_option maxHeartbeats 1000000 in
theorem batches_eq (w : World) (S T : Nat → Prop) (e : Int) (a1 a2 : Option Addr) (c1 c2 : Nat) (l : List Plan) (h1 : Rd (.slice planSh) w S [.slice a1 l.length c1] l) (h2 : Rd (.slice planSh) w T [.slice a2 l.length c2] l) (hl : l.length ≤ 1048576) (hs : ∀ p ∈ l, p.Small) :
    Calls Try.prog 30 #[.agg #[.int .i64 e, .slice a1 l.length c1], .agg #[.int .i64 e, .slice a2 l.length c2]] w fun e w' => e = .returned (.bool true) ∧ Keep No w w' := by
  go_enter Try.func30, Try.ntmps30
  go_wp2_with fail
  go_loopw [5] (fun i wr => ∃ k : Nat, k ≤ l.length ∧ i = .int .i64 k ∧ Keep No ((w.alloc (.cells #[.int .i64 e, .slice a1 l.length c1] 53)).alloc (.cells #[.int .i64 e, .slice a2 l.length c2] 53)) wr) (fun i _ => l.length - (intOf i).toNat)
  case atStart => exact ⟨0, Nat.zero_le _, rfl, Keep.refl _ _⟩
  case round =>
    obtain ⟨k, hk, rfl, kw⟩ := hrel
    have g0 := blk_cell (kw.blk (blk_alloc (blk_new w _)) (fun x => x))
    have g1 := blk_cell (kw.blk (blk_new _ _) (fun x => x))
    simp only [World.size_alloc] at g1
    by_cases hlt : k < l.length
    · obtain ⟨b1, o1, x1, y1, x2, y2, x3, y3, rfl, -, hb1, -, hr1, hx1⟩ := h1.planAt k hlt
      obtain ⟨b2, o2, u1, v1, u2, v2, u3, v3, rfl, -, hb2, -, hr2, hx2⟩ := h2.planAt k hlt
      have K0 : Keep No w wr := (((Keep.refl No w).alloc _).alloc _).trans kw
      replace hr1 := hr1.agree (K0.block b1 hb1 (fun x => x))
      replace hr2 := hr2.agree (K0.block b2 hb2 (fun x => x))
      replace hx1 := hx1.agree _ K0.agreeNo
      replace hx2 := hx2.agree _ K0.agreeNo
      obtain ⟨m1, m2, m3⟩ := hs l[k] (List.getElem_mem _)
      have p0 := (hr1 0 (by simp)).1
      have p1 := (hr1 1 (by simp)).1
      have p2 := (hr1 2 (by simp)).1
      have p3 := (hr1 3 (by simp)).1
      have p4 := (hr1 4 (by simp)).1
      have p5 := (hr1 5 (by simp)).1
      have p6 := (hr1 6 (by simp)).1
      have s0 := (hr2 0 (by simp)).1
      have s1 := (hr2 1 (by simp)).1
      have s2 := (hr2 2 (by simp)).1
      have s3 := (hr2 3 (by simp)).1
      have s4 := (hr2 4 (by simp)).1
      have s5 := (hr2 5 (by simp)).1
      have s6 := (hr2 6 (by simp)).1
      simp at p0 p1 p2 p3 p4 p5 p6 s0 s1 s2 s3 s4 s5 s6
      have j0 : (0 : Int) ≤ (k : Int) := by omega
      have j1 : (k : Int) < (l.length : Int) := by omega
      clear hr1 hr2 h1 h2
      go_wp2_with fail
      refine wp_region_can [0, 1, 2, 3, 4, 5, 6, 7, 8, 9, 10, 11] [10] [] (by kernel_rfl) (by kernel_rfl) (by kernel_rfl) (by kernel_rfl) (by intro c a d v w h; cases d <;> exact h) ?_
      repeat (refine can_sil rfl rfl (fun K hK => ?_); go_simp; refine hK _ ?_; clear hK K)
      refine can_loud [] rfl rfl rfl (fun K hK => ?_)
      go_wp2_with fail
      refine (same_eq _ S T _ _ l[k] (Rd.agree _ hx1 (by exact ((Keep.refl No wr).drew).agreeNo)) (Rd.agree _ hx2 (by exact ((Keep.refl No wr).drew).agreeNo)) m1 m2 m3).mono ?_
      rintro e w1 ⟨rfl, k1⟩
      go_wp2_with fail
      refine Mid.normal (hK _ _ stabs_nil ?_)
      clear hK K
      repeat (refine can_sil rfl rfl (fun K hK => ?_); go_simp; refine hK _ ?_; clear hK K)
      refine can_nil ?_
      go_wp2_with fail
      go_roundw
      case rel => exact ⟨k + 1, by omega, by go_num, kw.drew.trans k1⟩
      case measure => simp [intOf]; omega
    · go_wp2_with fail
      go_ret
      exact ⟨rfl, (((Keep.refl No w).alloc _).alloc _).trans kw⟩

end Go.Proofs.Ytjillekahongeaa
