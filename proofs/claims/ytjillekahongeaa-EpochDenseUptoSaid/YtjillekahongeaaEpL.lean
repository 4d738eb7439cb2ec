/-
  The walks of EpochNames, EpochNil and EpochAge.
-/
import Derived.Test.YtjillekahongeaaEpI
namespace Go.Proofs.Ytjillekahongeaa
open Go Go.RowKit Go.Deep
set_option linter.unusedVariables false

/-- what every law's walk shows -/
def LawTrue (w : World) (e : Ending) (w' : World) : Prop := e = .returned (.bool true) ∧ Keep No w w'

theorem EpochNames_calls (w : World) : Calls Try.prog 3 #[] w (LawTrue w) := by
  go_enter Try.func3, Try.ntmps3
  go_wp2_with fail
  refine (live_any w).mono ?_
  rintro e w1 ⟨rfl, k1⟩
  go_wp2_with fail
  go_ret
  exact ⟨rfl, k1⟩

theorem nil_add (w : World) (cs : Array Value) : Calls Try.prog 12 #[.pointer none, .agg cs] w fun e w' => e = .returned (.int .i64 0) ∧ Keep No w w' := by
  go_enter Try.func12, Try.ntmps12
  go_wp2
  go_ret
  exact ⟨rfl, (Keep.refl _ _).alloc _⟩
theorem nil_tick (w : World) : Calls Try.prog 11 #[.pointer none] w fun e w' => e = .returned (.bool false) ∧ w = w' := by
  go_enter Try.func11, Try.ntmps11
  go_wp2
  go_ret
  exact ⟨rfl, rfl⟩
theorem nil_cut (w : World) : Calls Try.prog 17 #[.pointer none] w fun e w' => e = .returned (.bool false) ∧ w = w' := by
  go_enter Try.func17, Try.ntmps17
  go_wp2
  go_ret
  exact ⟨rfl, rfl⟩
theorem nil_take (w : World) : Calls Try.prog 19 #[.pointer none] w fun e w' => e = .returned (.tuple #[.agg #[.int .i64 0, .slice none 0 0], .bool false]) ∧ Keep No w w' := by
  go_enter Try.func19, Try.ntmps19
  go_wp2
  refine bodyPost_ret (v := .tuple #[.agg #[.int .i64 0, .slice none 0 0], .bool false]) (by simp [results, Try.results19, go_sem]) rfl ⟨rfl, ?_⟩
  exact (Keep.refl _ _).alloc _
theorem nil_open (w : World) : Calls Try.prog 18 #[.pointer none] w fun e w' => e = .returned (.int .i64 0) ∧ w = w' := by
  go_enter Try.func18, Try.ntmps18
  go_wp2
  go_ret
  exact ⟨rfl, rfl⟩
theorem nil_now (w : World) : Calls Try.prog 13 #[.pointer none] w fun e w' => e = .returned (.int .i64 0) ∧ w = w' := by
  go_enter Try.func13, Try.ntmps13
  go_wp2
  go_ret
  exact ⟨rfl, rfl⟩
theorem nil_waiting (w : World) : Calls Try.prog 20 #[.pointer none] w fun e w' => e = .returned (.int .i64 0) ∧ w = w' := by
  go_enter Try.func20, Try.ntmps20
  go_wp2
  go_ret
  exact ⟨rfl, rfl⟩

set_option maxHeartbeats 1000000 in
theorem EpochNil_calls (w : World) (cs : List Value) (p : Plan) (h : Rd planSh w (Lt w.heap.size) cs p) : Calls Try.prog 7 #[.agg cs.toArray] w (LawTrue w) := by
  obtain ⟨a1, c1, a2, c2, a3, c3, rfl, -⟩ := plan_cells h
  clear h
  go_enter Try.func7, Try.ntmps7
  go_wp2_with fail
  refine (nil_take _).mono ?_
  rintro e w1 ⟨rfl, k1⟩
  have b0 := k1.blk (blk_new w _) (fun x => x)
  have c0 := blk_cell b0
  have hlt := blk_lt b0
  have K1 : Keep No w w1 := ((Keep.refl No w).alloc _).trans k1
  go_wp2_with fail
  refine (nil_add _ _).mono ?_
  rintro e w2 ⟨rfl, k2⟩
  have b1 := blk_cell (k2.blk (blk_new _ _) (fun x => x))
  have K2 : Keep No w w2 := (K1.alloc _).trans k2
  go_wp2_with fail
  refine (nil_tick _).mono ?_
  rintro e w3 ⟨rfl, rfl⟩
  go_wp2_with fail
  refine (nil_cut _).mono ?_
  rintro e w3 ⟨rfl, rfl⟩
  go_wp2_with fail
  refine (nil_open _).mono ?_
  rintro e w3 ⟨rfl, rfl⟩
  go_wp2_with fail
  refine (nil_now _).mono ?_
  rintro e w3 ⟨rfl, rfl⟩
  go_wp2_with fail
  refine (nil_waiting _).mono ?_
  rintro e w3 ⟨rfl, rfl⟩
  go_wp2_with fail
  refine (live_any _).mono ?_
  rintro e w4 ⟨rfl, k4⟩
  go_wp2_with fail
  go_ret
  exact ⟨rfl, K2.trans k4⟩

/-- behind j ticks: the epoch was closed, or it is j old -/
theorem tick_late {st : CutSt} {m j : Int} (h0 : st.age < st.limit) (h1 : m ≤ st.number) (h2 : m < st.number ∨ j ≤ st.age) (h3 : 0 < st.limit) :
    st.tick.age < st.tick.limit ∧ m ≤ st.tick.number ∧ (m < st.tick.number ∨ j + 1 ≤ st.tick.age) ∧ st.tick.limit = st.limit := by
  unfold CutSt.tick
  split
  · refine ⟨by assumption, h1, h2.imp id fun h => ?_, rfl⟩
    show j + 1 ≤ st.age + 1
    omega
  · refine ⟨h3, ?_, .inl ?_, rfl⟩
    · show m ≤ st.number + 1; omega
    · show m < st.number + 1; omega
theorem new_ok (a b : Int) : (CutSt.new a b).Ok 0 := ⟨Int.le_refl _, Int.le_refl _, Int.le_refl _, Int.le_refl _, Nat.le_refl _, Nat.le_refl _⟩
theorem tick_ok {st : CutSt} {n : Nat} (h : st.Ok n) : st.tick.Ok (n + 1) := by
  obtain ⟨h1, h2, h3, h4, h5, h6⟩ := h
  unfold CutSt.tick
  split
  · refine ⟨h1, ?_, ?_, ?_, ?_, ?_⟩ <;> simp <;> omega
  · refine ⟨?_, ?_, ?_, ?_, ?_, ?_⟩ <;> simp [CutSt.close] <;> omega
theorem add_ok {st : CutSt} {n : Nat} (p : Plan) (h : st.Ok n) : (st.add p).Ok (n + 1) := by
  obtain ⟨h1, h2, h3, h4, h5, h6⟩ := h
  unfold CutSt.add
  split
  · refine ⟨?_, ?_, ?_, ?_, ?_, ?_⟩ <;> simp [CutSt.close] <;> omega
  · refine ⟨?_, ?_, ?_, ?_, ?_, ?_⟩ <;> simp <;> omega
theorem add_late {st : CutSt} (p : Plan) (h0 : st.age < st.limit) (h3 : 0 < st.limit) (ha : 0 ≤ st.age) : (st.add p).age < (st.add p).limit ∧ st.number ≤ (st.add p).number ∧ (st.number < (st.add p).number ∨ 0 ≤ (st.add p).age) ∧ (st.add p).limit = st.limit := by
  unfold CutSt.add
  split
  · refine ⟨h3, ?_, .inl ?_, rfl⟩
    · show st.number ≤ st.number + 1; omega
    · show st.number < st.number + 1; omega
  · exact ⟨h0, Int.le_refl _, .inr ha, rfl⟩

/-- a cutter of the call's own, behind n steps -/
def Mine (w wr : World) (B : Nat) (st : CutSt) (n : Nat) : Prop := ∃ S, CutAt wr B S st ∧ (∀ k, S k → w.heap.size ≤ k) ∧ Keep No w wr ∧ st.Ok n

theorem Mine.step {w w1 w2 : World} {B : Nat} {st' : CutSt} {n : Nat} {r : Value} {e : Ending} {S : Nat → Prop} (hS : ∀ k, S k → w.heap.size ≤ k) (hk : Keep No w w1) (h : Stepped CutAt w1 B S st' r e w2) (ho : st'.Ok n) : Mine w w2 B st' n := by
  obtain ⟨rfl, S', h1, h2, h3⟩ := h
  exact ⟨S', h1, fun k hk' => (h2 k hk').elim (hS k) fun h => by have := hk.size; omega, hk.then h3 fun k hl h => by have := hS k h; omega, ho⟩

set_option maxHeartbeats 2000000 in
theorem EpochAge_calls (w : World) (most : Int) (_ : (Lit.int .i64 most).wf = true) (age : Int) (_ : (Lit.int .i64 age).wf = true) (ahead : Int) (_ : (Lit.int .i64 ahead).wf = true) : Calls Try.prog 4 #[.int .i64 most, .int .i64 age, .int .i64 ahead] w (LawTrue w) := by
  have hL : ∀ w : World, Calls Try.prog 8 #[] w fun e w' => e = .returned (.bool true) ∧ Keep No w w' := live_any
  by_cases hg : 2000 < age ∨ ahead < 0 ∨ 5000 < ahead
  · have HL := Lib.hid hL
    clear hL
    go_enter Try.func4, Try.ntmps4
    go_wp2_with (go_at_call 8; refine (HL.out _).mono ?_; rintro e w1 ⟨rfl, k1⟩)
    all_goals first | (go_ret; exact ⟨rfl, k1⟩) | (exfalso; omega)
  · have i1 : ¬ 2000 < age := by omega
    have i2 : ¬ ahead < 0 := by omega
    have i3 : ¬ 5000 < ahead := by omega
    clear hg
    by_cases hb : most < 1 ∨ 256 < most ∨ age < 1 ∨ 1000000 < age
    · have HL := Lib.hid hL
      have HB := Lib.hid hb
      clear hL hb
      go_enter Try.func4, Try.ntmps4
      go_wp2_with fail
      refine (new_bad most age w HB.out).mono ?_
      rintro e w1 ⟨rfl, rfl⟩
      go_wp2_with (first | (go_at_call 10; refine (num_any _ _).mono ?_; rintro e w1 ⟨rfl, rfl⟩) | (go_at_call 8; refine (HL.out _).mono ?_; rintro e w1 ⟨rfl, k1⟩))
      go_ret
      exact ⟨rfl, k1⟩
    · have b1 : 1 ≤ most := by omega
      have b2 : most ≤ 256 := by omega
      have b3 : 1 ≤ age := by omega
      have b4 : age ≤ 1000000 := by omega
      have HL := Lib.hid hL
      clear hL hb
      go_enter Try.func4, Try.ntmps4
      go_wp2_with fail
      refine (new_good most age w b1 b2 b3 b4).mono ?_
      rintro e w1 ⟨rfl, hC1, hk1, hs1⟩
      go_wp2_with (go_at_call 10; refine (num_any _ _).mono ?_; rintro e w1 ⟨rfl, rfl⟩)
      have m0 : Mine w w1 w.heap.size (CutSt.new most age) 0 := ⟨_, hC1, fun k h => h.1, hk1, new_ok most age⟩
      clear hC1 hs1
      go_loopw [9] (fun i wr => ∃ (k : Nat) (st : CutSt), (k : Int) ≤ ahead ∧ i = .int .i64 k ∧ Mine w wr w.heap.size st k ∧ st.age < st.limit ∧ st.limit = age) (fun i _ => ahead.toNat - (intOf i).toNat)
      case atStart => exact ⟨0, _, by omega, rfl, m0, by show (0 : Int) < age; omega, rfl⟩
      case round =>
        obtain ⟨k, st, hk, rfl, ⟨S, hC, hS, hK, hO⟩, ha, hlim⟩ := hrel
        by_cases hlt : (k : Int) < ahead
        · have HI := Lib.hid hlim
          clear hlim
          go_wp2_with fail
          refine (tick_any wr _ S st k hC hO (by omega)).mono ?_
          rintro e w2 hst
          have hm := Mine.step hS hK hst (tick_ok hO)
          obtain ⟨rfl, -⟩ := hst
          have hl := tick_late (m := 0) (j := 0) ha hO.1 (.inr hO.2.2.1) (by have := HI.out; omega)
          go_wp2_with fail
          go_roundw
          case rel => exact ⟨k + 1, st.tick, by omega, by go_num, hm, hl.1, hl.2.2.2.trans HI.out⟩
          case measure => simp [intOf]; omega
        · have HI := Lib.hid hlim
          clear hlim
          go_wp2_with fail
          refine (add_any wr _ S No st k _ (howPlan 0) hC hO (by omega) (rd_howPlan _ _ 0 (by decide)) (howPlan_small 0).1 (howPlan_small 0).2.1 (howPlan_small 0).2.2).mono ?_
          rintro e w2 hst
          have hm := Mine.step hS hK hst (add_ok (howPlan 0) hO)
          obtain ⟨rfl, -⟩ := hst
          have hl := add_late (howPlan 0) ha (by have := HI.out; omega) hO.2.2.1
          have hi : (st.add (howPlan 0)).limit = age := hl.2.2.2.trans HI.out
          have hO1 := hO.1
          have hO2 := hO.2.1
          generalize st.add (howPlan 0) = s1 at *
          have HX := Lib.hid hl
          have HY := Lib.hid hi
          clear hl hi HI hO hC
          go_wp2_with fail
          go_loopw [11] (fun i wr => ∃ (j : Nat) (s : CutSt), (j : Int) ≤ age ∧ i = .int .i64 j ∧ Mine w wr w.heap.size s (k + 1 + j) ∧ s.age < s.limit ∧ s.limit = age ∧ st.number ≤ s.number ∧ (st.number < s.number ∨ (j : Int) ≤ s.age)) (fun i _ => age.toNat - (intOf i).toNat)
          case atStart => exact ⟨0, s1, by omega, rfl, hm, HX.out.1, HY.out, HX.out.2.1, HX.out.2.2.1⟩
          case round =>
            obtain ⟨j, s, hj, rfl, ⟨S2, hC, hS, hK, hO⟩, ha, hlim, hn, hor⟩ := hrel
            by_cases hlt : (j : Int) < age
            · have HI := Lib.hid hlim
              have HO := Lib.hid hor
              clear hlim hor
              go_wp2_with fail
              refine (tick_any wr _ S2 s _ hC hO (by omega)).mono ?_
              rintro e w2 hst
              have hm := Mine.step hS hK hst (tick_ok hO)
              obtain ⟨rfl, -⟩ := hst
              have hl := tick_late ha hn HO.out (by have := HI.out; omega)
              have HL2 := Lib.hid hl
              clear hl
              go_wp2_with fail
              go_roundw
              case rel => exact ⟨j + 1, s.tick, by omega, by go_num, by rw [← Nat.add_assoc]; exact hm, HL2.out.1, HL2.out.2.2.2.trans HI.out, HL2.out.2.1, HL2.out.2.2.1.imp id fun h => by push_cast; exact h⟩
              case measure => simp [intOf]; omega
            · have hgt : st.number < s.number := by
                rcases hor with h | h
                · exact h
                · omega
              clear hlim hor
              go_wp2_with fail
              refine (now_any wr _ S2 s hC).mono ?_
              rintro e w2 ⟨rfl, rfl⟩
              go_wp2_with (go_at_call 8; refine (HL.out _).mono ?_; rintro e w3 ⟨rfl, k3⟩)
              go_ret
              exact ⟨rfl, hK.trans k3⟩

end Go.Proofs.Ytjillekahongeaa
