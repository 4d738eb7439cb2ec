/-
  The document's cutter: what it does.
-/
import Derived.Test.YtjillekahongeaaEpD
import Derived.Deep.DeepCutAuto
import Derived.Deep.LoopGhost
namespace Go.Proofs.Ytjillekahongeaa
open Go Go.RowKit Go.Deep
set_option linter.unusedVariables false

set_option maxHeartbeats 400000 in
theorem ref_plan (w : World) (S : Nat → Prop) (cs : List Value) (p : Plan) (h : Rd planSh w S cs p) (l1 : p.args.length ≤ 1048576) (l2 : p.reads.length ≤ 1048576) (l3 : p.writes.length ≤ 1048576) :
    Calls Try.prog 23 #[.agg cs.toArray] w (Copied w p) := by
  obtain ⟨a1, c1, a2, c2, a3, c3, rfl, h1, h2, h3, w1, w2, w3, w4⟩ := plan_cells h
  obtain ⟨i0, hi, hz0, hz1, hz2⟩ := info_parts Try.infoValue
  obtain ⟨i1, hi', hz0', hz1', hz2'⟩ := info_parts Try.infoString
  clear h
  have k0 : Keep No w ((w.alloc (.cells #[.int .i64 p.client, .int .u64 p.token, .string p.name, .slice a1 p.args.length c1, .int .i64 p.how, .slice a2 p.reads.length c2, .slice a3 p.writes.length c3] 37)).alloc (.cells #[.int .i64 0, .int .u64 0, .string ⟨#[]⟩, .slice none 0 0, .int .i64 0, .slice none 0 0, .slice none 0 0] 37)) := ((Keep.refl No w).alloc _).alloc _
  obtain ⟨x1, y1, u1, r1, o1, k1⟩ := clone_app (Rd.agree _ h1 k0.agreeNo) rfl 30 68 30 i0 _ 32 Try.underlying30 hi hz0 hz1 hz2 rfl l1 (by decide)
  have b0 := k1.blk (blk_alloc (blk_new w _)) (fun x => x)
  have b1 := k1.blk (blk_new _ _) (fun x => x)
  have kk := k0.thenNo k1
  have hk1 := k1.size
  simp only [World.size_alloc] at b1 o1 hk1 r1
  have c0 := blk_cell b0
  have f0 := blk_fro b0
  go_enter Try.func23, Try.ntmps23
  go_upto_region 2 with (at_builtin; refine wpList_app rfl (.tmp 3) (.tmp 6) 30 30 rfl rfl rfl r1 ?_)
  have m1 := kk.setNew (p := ⟨w.heap.size, 3, none⟩) (by simp) (.slice x1 p.args.length y1)
  obtain ⟨x2, y2, u2, r2, o2, k2⟩ := clone_app (Rd.agree _ h2 m1.agreeNo) rfl 33 9 33 i1 _ 16 Try.underlying33 hi' hz0' hz1' hz2' rfl l2 (by decide)
  replace o1 := (o1.agree (agree_set (Fr.not (by omega)) 3 (.slice x1 p.args.length y1))).agree k2.agreeNo
  replace b0 := k2.blk (blk_set b0 3 _) (fun x => x)
  replace b1 := k2.blk (blk_other b1 (by simp) _) (fun x => x)
  replace kk := m1.thenNo k2
  have hk2 := k2.size
  simp only [World.size_setCell] at o2 hk2 r2
  clear r1 k1 m1
  simp at b0
  have g0 := blk_cell b0
  have e0 := blk_fro b0
  have lt1 : w.heap.size < u1.heap.size := by omega
  go_upto_region 3 with (at_builtin; refine wpList_app rfl (.tmp 10) (.tmp 13) 33 33 rfl rfl rfl r2 ?_)
  have m2 := kk.setNew (p := ⟨w.heap.size, 5, none⟩) (by simp) (.slice x2 p.reads.length y2)
  obtain ⟨x3, y3, u3, r3, o3, k3⟩ := clone_app (Rd.agree _ h3 m2.agreeNo) rfl 33 9 33 i1 _ 16 Try.underlying33 hi' hz0' hz1' hz2' rfl l3 (by decide)
  replace o1 := (o1.agree (agree_set (Fr.not (by omega)) 5 (.slice x2 p.reads.length y2))).agree k3.agreeNo
  replace o2 := (o2.agree (agree_set (Fr.not (by omega)) 5 (.slice x2 p.reads.length y2))).agree k3.agreeNo
  replace b0 := k3.blk (blk_set b0 5 _) (fun x => x)
  replace b1 := k3.blk (blk_other b1 (by simp) _) (fun x => x)
  replace kk := m2.thenNo k3
  have hk3 := k3.size
  simp only [World.size_setCell] at o3 hk3 r3
  clear c0 f0 r2 k2 m2 lt1
  simp at b0
  have c0 := blk_cell b0
  have f0 := blk_fro b0
  have lt2 : w.heap.size < u2.heap.size := by omega
  have c1 := blk_cell b1
  have f1 := blk_fro b1
  go_upto_region 4 with (at_builtin; refine wpList_app rfl (.tmp 17) (.tmp 20) 33 33 rfl rfl rfl r3 ?_)
  go_wp2_with fail
  refine bodyPost_ret (v := .agg #[.int .i64 p.client, .int .u64 p.token, .string p.name, .slice x1 p.args.length y1, .int .i64 p.how, .slice x2 p.reads.length y2, .slice x3 p.writes.length y3]) (by simp [results, Try.results23, go_sem, c1]) rfl ⟨_, rfl, ?_, ?_⟩
  · have kf : ∀ W, Keep (fun k => k < w.heap.size + 2) u3 W → Rd planSh W (Fr w.heap.size W.heap.size) [.int .i64 p.client, .int .u64 p.token, .string p.name, .slice x1 p.args.length y1, .int .i64 p.how, .slice x2 p.reads.length y2, .slice x3 p.writes.length y3] p := by
      intro W kW
      have := kW.size
      refine plan_mk p (Own.rd (Own.mono (o1.agree (kW.agree fun k _ hk hm => ?_)) fun k hk => ?_)) (Own.rd (Own.mono (o2.agree (kW.agree fun k _ hk hm => ?_)) fun k hk => ?_)) (Own.rd (Own.mono (o3.agree (kW.agree fun k _ hk hm => ?_)) fun k hk => ?_)) w1 w2 w3 w4 <;> have h1 := hk.1 <;> have h2 := hk.2 <;> first | omega | exact ⟨by omega, by omega⟩
    refine kf _ ?_
    repeat (refine Keep.setCell ?_ (fun _ => by simp) _)
    exact Keep.refl _ _
  · repeat (refine Keep.setNew ?_ (by simp) _)
    exact kk
set_option maxHeartbeats 1000000 in
theorem ref_close (w : World) (B : Nat) (S : Nat → Prop) (st : CutSt) (h : RefAt w B S st) (hn0 : 0 ≤ st.number) (hn : st.number ≤ 1000000000) (hl : st.closed.length ≤ 1048576) :
    Calls Try.prog 35 #[.pointer (some ⟨B, 0, none⟩)] w (Stepped RefAt w B S st.close (.tuple #[])) := by
  obtain ⟨ov, cv, SO, SC, h1, h2, ⟨g, rows, T, h3, h4, h5, h6⟩, h7, h8, h9, h10, h11⟩ := h
  obtain ⟨a1, k1, rfl, _⟩ := h2.form
  obtain ⟨a2, k2, rfl, _⟩ := h3.form
  have hB := blk_lt h1
  obtain ⟨i0, hi, hz0, hz1, hz2⟩ := info_parts Try.infoBatch
  have hrl : rows.length = st.closed.length := h4.length
  -- the append, ahead of the walk
  have h3' : OwnRows ((w.alloc (.cells #[.int .i64 st.number, .slice a1 st.opens.length k1] 53)).drew) 53 2 (.slice a2 rows.length k2) g rows :=
    h3.agree fun b hb => Below.heap_alloc w _ b (h3.lt hb)
  have hsrc : Src Try.prog 2 57 (.slice (some ⟨w.heap.size, 0, none⟩) 1 1) [[Value.int .i64 st.number, .slice a1 st.opens.length k1]].length [[Value.int .i64 st.number, .slice a1 st.opens.length k1]].flatten ((w.alloc (.cells #[.int .i64 st.number, .slice a1 st.opens.length k1] 53)).drew) :=
    Src.ofBlock Try.underlying57 w.heap.size 1 1 #[Value.int .i64 st.number, .slice a1 st.opens.length k1] 53 (0, 0) (blk_new w _) rfl (by intro u hu; simp at hu; rcases hu with rfl | rfl <;> rfl)
  obtain ⟨a3, k3, w1, g', hrun, ho, hg', hk, hs⟩ := own_append h3' 57 57 57 i0 _ 32 Try.underlying57 hi hz0 hz1 hz2 rfl hsrc (by simp) (by simp; omega) (by simp; omega)
  have c0 := blk_cell h1
  have f0 := blk_fro h1
  have hgB : ∀ b, g = some b → b ≠ B := fun b hb => (h9 b (h5 b hb).1).2
  have b1 : w1.heap[B]? = some (.cells #[.int .i64 st.most, .int .i64 st.limit, .int .i64 st.number, .int .i64 st.age, .slice a1 st.opens.length k1, .slice a2 rows.length k2] 62 (0, 0)) := hk.blk (blk_alloc h1) (fun e => hgB B e rfl)
  have c1 := blk_cell b1
  have f1 := blk_fro b1
  have HL := Lib.hid hrl
  clear hrl
  go_enter Try.func35, Try.ntmps35
  go_wp2_with fail
  refine wp_region_can [0, 1, 2, 3, 4, 5, 6, 7, 8, 9, 10, 11, 12, 13, 14, 15, 16, 17, 18] [14, 15, 18] [(0, 14), (1, 14), (2, 14), (3, 14), (4, 14), (0, 15)] (by kernel_rfl) (by kernel_rfl) (by kernel_rfl) (by kernel_rfl) (by intro c a d v w h; cases d <;> exact h) ?_
  repeat (refine can_sil rfl rfl (fun K hK => ?_); go_simp; refine hK _ ?_; clear hK K)
  refine can_loud [0, 1, 2, 3, 4] rfl rfl rfl (fun K hK => ?_)
  go_wp2_with fail
  refine Mid.normal (hK _ _ ?_ ?_)
  · simp only [List.forall_mem_cons]
    refine ⟨?_, ?_, ?_, ?_, ?_, fun _ h => by cases h⟩ <;> exact stab_of rfl (fun K hK => by go_simp; exact hK)
  clear hK K
  refine can_loud [0] rfl rfl rfl (fun K hK => ?_)
  refine wpList_app rfl (.tmp 6) (.tmp 16) 57 57 rfl rfl rfl hrun ?_
  go_wp2_with fail
  refine Mid.normal (hK _ _ ?_ ?_)
  · simp only [List.forall_mem_cons]
    refine ⟨?_, fun _ h => by cases h⟩ <;> exact stab_of rfl (fun K hK => by go_simp; exact hK)
  clear hK K
  repeat (refine can_sil rfl rfl (fun K hK => ?_); go_simp; refine hK _ ?_; clear hK K)
  refine can_loud [] rfl rfl rfl (fun K hK => ?_)
  go_wp2_with fail
  refine Mid.normal (hK _ _ stabs_nil ?_)
  clear hK K
  refine can_nil ?_
  go_wp2_with fail
  go_end0
  have kW : Keep (One B) w1 ((((w1.setCell ⟨B, 5, none⟩ (Value.slice a3 (rows.length + 1) k3)).setCell ⟨B, 2, none⟩ (.int .i64 (st.number + 1))).setCell ⟨B, 4, none⟩ (.slice none 0 0)).setCell ⟨B, 3, none⟩ (.int .i64 0)) :=
    (((keep_set _ _ _ _).trans (keep_set _ _ _ _)).trans (keep_set _ _ _ _)).trans (keep_set _ _ _ _)
  have b2 := blk_set (blk_set (blk_set (blk_set b1 5 (.slice a3 (rows.length + 1) k3)) 2 (.int .i64 (st.number + 1))) 4 (.slice none 0 0)) 3 (.int .i64 0)
  have hwf : (Lit.int .i64 (st.number + 1)).wf = true := by simp [Lit.wf, IntKind.min, IntKind.max, IntKind.signed, IntKind.bits]; omega
  have hsz := kW.size
  have hsz2 := hk.size
  simp only [World.size_drew, World.size_alloc, List.length_singleton] at hg' hsz2 ho
  obtain ⟨hcl, hkS⟩ := close_fin h2 h4 h5 h6 h7 h8 h9 h10 h11 ho hg' (((Keep.refl _ w).alloc _).drew.trans hk) kW hwf
  generalize ((((w1.setCell ⟨B, 5, none⟩ (Value.slice a3 (rows.length + 1) k3)).setCell ⟨B, 2, none⟩ (.int .i64 (st.number + 1))).setCell ⟨B, 4, none⟩ (.slice none 0 0)).setCell ⟨B, 3, none⟩ (.int .i64 0)) = W at *
  refine ⟨rfl, fun k => S k ∨ (w.heap.size ≤ k ∧ k < w1.heap.size), ⟨_, _, No, _, by simpa [CutSt.close] using b2, Own.nil _ _ _ _, hcl, .inl h7, fun k h => h.elim, fun k h => ?_, hwf, fun k h => ?_⟩, fun k h => h.elim .inl (fun h => .inr h.1), hkS⟩
  · rcases h with h | h | h
    · exact ⟨.inl (h9 k h).1, (h9 k h).2⟩
    · exact ⟨.inl (h8 k h).1, (h8 k h).2.1⟩
    · exact ⟨.inr h, by omega⟩
  · rcases h with h | h
    · have := h11 k h; omega
    · omega


theorem ref_new_bad (a b : Int) (w : World) (h : a < 1 ∨ 256 < a ∨ b < 1 ∨ 1000000 < b) :
    Calls Try.prog 15 #[.int .i64 a, .int .i64 b] w fun e w' => e = .returned (.tuple #[.pointer none, .int .i64 2]) ∧ w = w' := by
  go_enter Try.func15, Try.ntmps15
  go_wp2
  all_goals first | (go_ret2; exact ⟨rfl, rfl⟩) | (exfalso; omega)

theorem refAt_new (w : World) (a b : Int) (ha : (Lit.int .i64 a).wf = true) : RefAt (w.alloc (.cells #[.int .i64 a, .int .i64 b, .int .i64 0, .int .i64 0, .slice none 0 0, .slice none 0 0] 62)) w.heap.size (Fr w.heap.size (w.heap.size + 1)) (CutSt.new a b) :=
  ⟨_, _, No, No, blk_new _ _, Own.nil _ _ _ _, ⟨none, [], No, OwnRows.nil _ _ _, trivial, fun _ h => (by cases h), fun _ h => h.elim⟩, ⟨Nat.le_refl _, by omega⟩, fun _ h => h.elim, fun _ h => h.elim, rfl, fun k hk => by have := hk.2; simp; omega⟩

theorem ref_new_good (a b : Int) (w : World) (h1 : 1 ≤ a) (h2 : a ≤ 256) (h3 : 1 ≤ b) (h4 : b ≤ 1000000) :
    Calls Try.prog 15 #[.int .i64 a, .int .i64 b] w fun e w' => e = .returned (.tuple #[.pointer (some ⟨w.heap.size, 0, none⟩), .int .i64 0]) ∧
      RefAt w' w.heap.size (Fr w.heap.size (w.heap.size + 1)) (CutSt.new a b) ∧ Keep No w w' ∧ w'.heap.size = w.heap.size + 1 := by
  have i1 : ¬ a < 1 := by omega
  have i2 : ¬ 256 < a := by omega
  have i3 : ¬ b < 1 := by omega
  have i4 : ¬ 1000000 < b := by omega
  go_enter Try.func15, Try.ntmps15
  go_wp2
  go_ret2
  exact ⟨rfl, refAt_new w a b (by simp [Lit.wf, IntKind.min, IntKind.max, IntKind.signed, IntKind.bits]; omega), (Keep.refl _ _).alloc _, by simp⟩

/-- a step that turns the age alone -/
theorem RefAt.setAge {w : World} {B : Nat} {S : Nat → Prop} {st : CutSt} (h : RefAt w B S st) (x : Int) : RefAt (w.setCell ⟨B, 3, none⟩ (.int .i64 x)) B S { st with age := x } := by
  obtain ⟨ov, cv, SO, SC, h1, h2, h3, h4, h5, h6, h7, h8⟩ := h
  have b1 := blk_set h1 3 (.int .i64 x)
  exact ⟨ov, cv, SO, SC, by simpa using b1, h2.agree (agree_set (fun h => (h5 B h).2.1 rfl) _ _), h3.agree (agree_set (fun h => (h6 B h).2 rfl) _ _), h4, h5, h6, h7, fun k hk => by simpa using h8 k hk⟩

theorem RefAt.lt {w : World} {B : Nat} {S : Nat → Prop} {st : CutSt} (h : RefAt w B S st) : B < w.heap.size ∧ S B := by
  obtain ⟨ov, cv, SO, SC, h1, h2, h3, h4, h5, h6, h7, h8⟩ := h
  exact ⟨blk_lt h1, h4⟩

theorem RefAt.drew {w : World} {B : Nat} {S : Nat → Prop} {st : CutSt} (h : RefAt w B S st) : RefAt w.drew B S st := h.agree (fun _ _ _ => rfl) (Nat.le_refl _)

set_option maxHeartbeats 1000000 in
theorem ref_tick (w : World) (B : Nat) (S : Nat → Prop) (st : CutSt) (n : Nat) (h : RefAt w B S st) (hk : st.Ok n) (hn : n ≤ 1000000) :
    Calls Try.prog 27 #[.pointer (some ⟨B, 0, none⟩)] w (Stepped RefAt w B S st.tick (.bool (decide (¬ st.age + 1 < st.limit)))) := by
  obtain ⟨k1, k2, k3, k4, k5, k6⟩ := hk
  have hn' : (n : Int) ≤ 1000000 := by omega
  have h0 := h
  obtain ⟨ov, cv, SO, SC, h1, -⟩ := h
  have c0 := blk_cell h1
  have f0 := blk_fro h1
  by_cases hl : st.age + 1 < st.limit
  · have d1 : decide (st.age + 1 < st.limit) = true := by simpa using hl
    go_enter Try.func27, Try.ntmps27
    go_wp2_with fail
    refine wp_region_can [0, 1, 2, 3, 4, 5, 6, 7, 8] [] [] (by kernel_rfl) (by kernel_rfl) (by kernel_rfl) (by kernel_rfl) (by intro c a d v w h; cases d <;> exact h) ?_
    repeat (refine can_sil rfl rfl (fun K hK => ?_); go_simp; refine hK _ ?_; clear hK K)
    refine can_nil ?_
    go_wp2
    go_ret
    refine ⟨by simp [hl], S, ?_, fun k hk => .inl hk, ((keep_set _ _ _ _).mono fun k _ e => e ▸ h0.lt.2).drew⟩
    have := h0.setAge (st.age + 1)
    simp only [CutSt.tick, hl, if_true]
    exact this
  · have d1 : decide (st.age + 1 < st.limit) = false := by simpa using hl
    go_enter Try.func27, Try.ntmps27
    go_wp2_with fail
    refine wp_region_can [0, 1, 2, 3, 4, 5, 6, 7, 8] [] [] (by kernel_rfl) (by kernel_rfl) (by kernel_rfl) (by kernel_rfl) (by intro c a d v w h; cases d <;> exact h) ?_
    repeat (refine can_sil rfl rfl (fun K hK => ?_); go_simp; refine hK _ ?_; clear hK K)
    refine can_nil ?_
    go_wp2_with fail
    refine (ref_close _ B S { st with age := st.age + 1 } (RefAt.drew (h0.setAge (st.age + 1))) k1 (by simp; omega) (by simp; omega)).mono ?_
    rintro e w1 ⟨rfl, S', hC, hS, hk⟩
    go_wp2
    go_ret
    refine ⟨by simp [hl], S', ?_, fun k hk => (hS k hk).imp id fun h => by simpa using h, ?_⟩
    · simp only [CutSt.tick, if_neg (show ¬ st.age + 1 < st.limit by omega)]
      exact hC
    · exact ((keep_set _ _ _ _).mono (N := S) fun k _ e => e ▸ h0.lt.2).drew.trans hk



/-- one plan more, behind the append and the store -/
theorem ref_add_fin {w w1 w2 : World} {B : Nat} {S SO SC T : Nat → Prop} {st : CutSt} {p : Plan} {v cv : Value}
    (h3 : Closed w SC cv st.closed) (h4 : S B) (h5 : ∀ k, SO k → S k ∧ k ≠ B ∧ ¬ SC k) (h6 : ∀ k, SC k → S k ∧ k ≠ B) (h7 : (Lit.int .i64 st.number).wf = true) (h8 : ∀ k, S k → k < w.heap.size)
    (hb : w2.heap[B]? = some (.cells #[.int .i64 st.most, .int .i64 st.limit, .int .i64 st.number, .int .i64 st.age, v, cv] 62 (0, 0)))
    (ho : Own planSh 37 w1 (fun k => SO k ∨ T k) v (st.opens ++ [p])) (hT : ∀ k, T k → w.heap.size ≤ k ∧ k < w1.heap.size) (hk : Keep SO w w1) (hk2 : Keep (One B) w1 w2) :
    RefAt w2 B (fun k => S k ∨ (w.heap.size ≤ k ∧ k < w2.heap.size)) { st with opens := st.opens ++ [p] } ∧ Keep S w w2 := by
  have kw : Keep (fun k => SO k ∨ k = B) w w2 := (hk.mono fun _ _ h => .inl h).then hk2 fun _ _ h => .inr h
  have hs1 := hk.size
  have hs2 := hk2.size
  have hBl := h8 B h4
  refine ⟨⟨v, cv, fun k => SO k ∨ T k, SC, hb, ho.agree (hk2.agree fun k _ hk e => ?_), h3.agree (kw.agree fun k _ hc h => h.elim (fun h => (h5 k h).2.2 hc) (h6 k hc).2), .inl h4, fun k hk => ?_, fun k hk => ⟨.inl (h6 k hk).1, (h6 k hk).2⟩, h7, fun k hk => ?_⟩, kw.mono fun k _ h => h.elim (fun h => (h5 k h).1) (fun e => e ▸ h4)⟩
  · have : k = B := e
    rcases hk with h | h
    · exact (h5 k h).2.1 this
    · have := hT k h; omega
  · rcases hk with h | h
    · exact ⟨.inl (h5 k h).1, (h5 k h).2⟩
    · have h1 := hT k h
      exact ⟨.inr ⟨h1.1, by omega⟩, by omega, fun hc => by have := h8 k (h6 k hc).1; omega⟩
  · rcases hk with h | h
    · have := h8 k h; omega
    · exact h.2

set_option maxHeartbeats 2000000 in
theorem ref_add (w : World) (B : Nat) (S U : Nat → Prop) (st : CutSt) (n : Nat) (cs : List Value) (p : Plan) (h : RefAt w B S st) (hk : st.Ok n) (hn : n ≤ 1000000) (hp : Rd planSh w U cs p) (l1 : p.args.length ≤ 1048576) (l2 : p.reads.length ≤ 1048576) (l3 : p.writes.length ≤ 1048576) :
    Calls Try.prog 26 #[.pointer (some ⟨B, 0, none⟩), .agg cs.toArray] w (Stepped RefAt w B S (st.add p) (.int .i64 st.number)) := by
  obtain ⟨q1, q2, q3, q4, q5, q6⟩ := hk
  have hn' : (n : Int) ≤ 1000000 := by omega
  obtain ⟨i0, hi, hz0, hz1, hz2⟩ := info_parts Try.infoPlan
  have h0 := h
  obtain ⟨ov, cv, SO, SC, h1, h2, h3, h4, h5, h6, h7, h8⟩ := h
  obtain ⟨a1, k1, rfl, _⟩ := h2.form
  obtain ⟨a2, k2, rfl, _⟩ := h3.form
  have hB := blk_lt h1
  have c0 := blk_cell h1
  have f0 := blk_fro h1
  obtain ⟨x1, y1, x2, y2, x3, y3, hcs, -⟩ := plan_cells hp
  have hfin : ∀ (b : Bool), decide (((st.opens.length + 1 : Nat) : Int) = st.most) = b → Calls Try.prog 26 #[.pointer (some ⟨B, 0, none⟩), .agg cs.toArray] w (Stepped RefAt w B S (st.add p) (.int .i64 st.number)) := by
    intro b hb
    subst hcs
    have e1 : (((st.opens.length + 1 : Nat) : Int) == st.most) = b := by rw [← hb]; exact Bool.beq_eq_decide_eq _ _
    have e2 : (((st.opens.length : Int) + 1) == st.most) = b := by rw [← e1]; simp
    have HB := Lib.hid hb
    clear hb
    go_enter Try.func26, Try.ntmps26
    go_wp2_with fail
    refine wp_region_can [0, 1, 2, 3, 4, 5, 6, 7, 8, 9, 10, 11] [6, 7, 8, 11] [(0, 6), (1, 6), (2, 6), (3, 6), (4, 6), (0, 7), (1, 7), (2, 7), (3, 7), (4, 7), (0, 8)] (by kernel_rfl) (by kernel_rfl) (by kernel_rfl) (by kernel_rfl) (by intro c a d v w h; cases d <;> exact h) ?_
    repeat (refine can_sil rfl rfl (fun K hK => ?_); go_simp; refine hK _ ?_; clear hK K)
    refine can_loud [0, 1, 2, 3, 4] rfl rfl rfl (fun K hK => ?_)
    go_wp2_with fail
    refine (ref_plan _ U _ p (Rd.agree _ hp (by exact (((Keep.refl No w).alloc _).drew).agreeNo)) l1 l2 l3).mono ?_
    rintro e w1 ⟨cs', rfl, r1, m1⟩
    obtain ⟨a4, d4, a5, d5, a6, d6, rfl⟩ := Rd.toArray r1
    have b1 := m1.blk (blk_alloc h1) (fun x => x)
    have hB1 := blk_lt b1
    have c1 := blk_cell b1
    have f1 := blk_fro b1
    have M1 : Keep No w w1 := (((Keep.refl No w).alloc _).drew).thenNo m1
    simp only [World.size_drew, World.size_alloc] at r1
    clear m1
    go_wp2_with fail
    refine Mid.normal (hK _ _ ?_ ?_)
    · simp only [List.forall_mem_cons]
      refine ⟨?_, ?_, ?_, ?_, ?_, stabs_nil⟩ <;> exact stab_of rfl (fun K hK => by go_simp; exact hK)
    clear hK K
    refine can_loud [0, 1, 2, 3, 4] rfl rfl rfl (fun K hK => ?_)
    go_wp2_with fail
    refine Mid.normal (hK _ _ ?_ ?_)
    · simp only [List.forall_mem_cons]
      refine ⟨?_, ?_, ?_, ?_, ?_, stabs_nil⟩ <;> exact stab_of rfl (fun K hK => by go_simp; exact hK)
    clear hK K
    obtain ⟨a7, d7, w2, hrun, ho, m2, hs2⟩ := Own.append (s := planSh) (S := SO) (T := Fr (w.heap.size + 1) w1.heap.size) (h2.agree ((M1.alloc (.cells #[.int .i64 p.client, .int .u64 p.token, .string p.name, .slice a4 p.args.length d4, .int .i64 p.how, .slice a5 p.reads.length d5, .slice a6 p.writes.length d6] 37)).agreeNo)) 51 51 i0 _ 112 Try.underlying51 hi hz0 hz1 hz2 rfl (blk_new w1 _) (r1.agree _ ((Keep.refl No w1).alloc _).agreeNo) (fun k hk hf => by have := h8 k (h5 k hk).1; have := hf.1; omega) (by omega) (by omega) 1
    refine can_loud [0] rfl rfl rfl (fun K hK => ?_)
    refine wpList_app rfl (.tmp 14) (.tmp 17) 51 51 rfl rfl rfl hrun ?_
    have b2 := m2.blk (blk_alloc b1) (fun h => (h5 B h).2.1 rfl)
    have c2 := blk_cell b2
    have f2 := blk_fro b2
    go_wp2_with fail
    refine Mid.normal (hK _ _ ?_ ?_)
    · simp only [List.forall_mem_cons]
      refine ⟨?_, stabs_nil⟩ <;> exact stab_of rfl (fun K hK => by go_simp; exact hK)
    clear hK K
    repeat (refine can_sil rfl rfl (fun K hK => ?_); go_simp; refine hK _ ?_; clear hK K)
    refine can_loud [] rfl rfl rfl (fun K hK => ?_)
    go_wp2_with fail
    refine Mid.normal (hK _ _ stabs_nil ?_)
    clear hK K
    refine can_nil ?_
    go_wp2_with fail
    refine wp_region_can [0, 1, 2, 3, 4, 5, 6, 7, 8, 9] [] [] (by kernel_rfl) (by kernel_rfl) (by kernel_rfl) (by kernel_rfl) (by intro c a d v w h; cases d <;> exact h) ?_
    repeat (refine can_sil rfl rfl (fun K hK => ?_); go_simp; refine hK _ ?_; clear hK K)
    refine can_nil ?_
    have b3 := blk_set b2 4 (.slice a7 (st.opens.length + 1) d7)
    have hs1 := M1.size
    have hs2' := m2.size
    simp only [World.size_alloc] at hs2'
    obtain ⟨hC, hK⟩ := ref_add_fin (w := w) (w1 := w2) (p := p) (T := fun k => w.heap.size ≤ k ∧ k < w2.heap.size) h3 h4 h5 h6 h7 h8 (by simpa using b3) (ho.live.mono fun k hk => hk.1.imp id fun h => ⟨h.elim (fun h => by have := h.1; omega) (fun h => by simp at h; omega), hk.2⟩) (fun k hk => hk) (((M1.alloc _).mono fun _ _ h => h.elim).trans m2) (keep_set _ _ _ _)
    cases b with
    | true =>
      go_wp2_with fail
      refine (ref_close _ B _ _ (RefAt.drew hC) q1 (by simp; omega) (by simp; omega)).mono ?_
      rintro e w4 ⟨rfl, S', hC', hS', hk'⟩
      go_wp2
      go_ret
      refine ⟨rfl, S', ?_, fun k hk => ?_, ?_⟩
      · simp only [CutSt.add, if_pos (of_decide_eq_true HB.out)]
        exact hC'
      · rcases hS' k hk with h | h
        · exact h.imp id fun h => h.1
        · simp at h; exact .inr (by omega)
      · exact (hK.drew).then hk' fun k hk h => h.elim id fun h => by omega
    | false =>
      go_wp2
      go_ret
      have hadd : st.add p = { st with opens := st.opens ++ [p] } := by simp only [CutSt.add, if_neg (of_decide_eq_false HB.out)]
      rw [hadd]
      exact ⟨rfl, _, RefAt.drew hC, fun k hk => hk.elim .inl fun h => .inr h.1, hK.drew⟩
  exact hfin _ rfl


set_option maxHeartbeats 1000000 in
theorem ref_cut (w : World) (B : Nat) (S : Nat → Prop) (st : CutSt) (n : Nat) (h : RefAt w B S st) (hk : st.Ok n) (hn : n ≤ 1000000) :
    Calls Try.prog 28 #[.pointer (some ⟨B, 0, none⟩)] w (Stepped RefAt w B S st.cut (.bool (!st.opens.isEmpty))) := by
  obtain ⟨k1, k2, k3, k4, k5, k6⟩ := hk
  have hn' : (n : Int) ≤ 1000000 := by omega
  have h0 := h
  obtain ⟨ov, cv, SO, SC, h1, h2, -⟩ := h
  obtain ⟨a1, d1, rfl, _⟩ := h2.form
  have c0 := blk_cell h1
  have f0 := blk_fro h1
  by_cases hl : st.opens = []
  · have e1 : st.opens.length = 0 := by rw [hl]; rfl
    have e2 : ((st.opens.length : Int) == 0) = true := by rw [e1]; rfl
    rw [e1] at c0
    have HL := Lib.hid hl
    clear hl h2 h1 e1 e2
    go_enter Try.func28, Try.ntmps28
    go_wp2
    go_ret
    refine ⟨by rw [HL.out]; rfl, S, ?_, fun k hk => .inl hk, Keep.refl _ _⟩
    simp only [CutSt.cut, if_pos HL.out]
    exact h0
  · have e1 : st.opens.isEmpty = false := by simpa using hl
    have e2 : ((st.opens.length : Int) == 0) = false := by simpa using hl
    have HL := Lib.hid hl
    clear hl
    go_enter Try.func28, Try.ntmps28
    go_wp2_with fail
    refine (ref_close w B S st h0 k1 (by omega) (by omega)).mono ?_
    rintro e w1 ⟨rfl, S', hC, hS, hk⟩
    go_wp2
    go_ret
    refine ⟨by simp [e1], S', ?_, hS, hk⟩
    simp only [CutSt.cut, if_neg HL.out]
    exact hC

theorem ref_take_none (w : World) (B : Nat) (S : Nat → Prop) (st : CutSt) (h : RefAt w B S st) (hl : st.closed = []) :
    Calls Try.prog 29 #[.pointer (some ⟨B, 0, none⟩)] w fun e w' => e = .returned (.tuple #[.agg #[.int .i64 0, .slice none 0 0], .bool false]) ∧ Keep No w w' := by
  obtain ⟨ov, cv, SO, SC, h1, h2, h3, -⟩ := h
  obtain ⟨a1, d1, rfl, _⟩ := h3.form
  have e1 : st.closed.length = 0 := by rw [hl]; rfl
  rw [e1] at h1
  have c0 := blk_cell h1
  have hB := blk_lt h1
  clear h3 h1 e1 hl
  go_enter Try.func29, Try.ntmps29
  go_wp2
  refine bodyPost_ret (v := .tuple #[.agg #[.int .i64 0, .slice none 0 0], .bool false]) (by simp [results, Try.results29, go_sem]) rfl ⟨rfl, ?_⟩
  first | exact (Keep.refl _ _).alloc _ | exact ((Keep.refl _ _).alloc _).drew

set_option maxHeartbeats 1000000 in
theorem ref_take_some (w : World) (B : Nat) (S : Nat → Prop) (st : CutSt) (x : Int × List Plan) (l : List (Int × List Plan)) (h : RefAt w B S st) (hl : st.closed = x :: l) :
    Calls Try.prog 29 #[.pointer (some ⟨B, 0, none⟩)] w (Took RefAt w B S st x) := by
  obtain ⟨ov, cv, SO, SC, h1, h2, h3, h4, h5, h6, h7, h8⟩ := h
  rw [hl] at h3
  obtain ⟨b, off, _, c, pv, F, G, rfl, l1, l2, hb, hrow, hp, hF, hG, hcl⟩ := h3.pop
  have c0 := blk_cell h1
  have f0 := blk_fro h1
  have hB := blk_lt h1
  have r0 := (hrow 0 (by simp)).1
  have r1 := (hrow 1 (by simp)).1
  simp at r0 r1
  obtain ⟨a1, d1, rfl, _⟩ := hp.form
  have hbl := h8 b (h6 b hb).1
  have hbB := (h6 b hb).2
  have i1 : (0 : Int) < (l.length : Int) + 1 := by omega
  have i2 : (0 : Int) ≤ (l.length : Int) := by omega
  have HL := Lib.hid hl
  unfold maxLen at l2
  clear hl h3
  have fin : ∀ (sv : Value), Closed w G sv l → Took RefAt w B S st x (.returned (.tuple #[.agg #[.int .i64 x.1, .slice a1 x.2.length d1], .bool true])) (((w.setCell ⟨B, 5, none⟩ sv).alloc (.cells #[.int .i64 x.1, .slice a1 x.2.length d1] 53)).alloc (.cells #[.int .i64 x.1, .slice a1 x.2.length d1] 53)) := by
    intro sv hsv
    have k0 : Keep (One B) w (((w.setCell ⟨B, 5, none⟩ sv).alloc (.cells #[.int .i64 x.1, .slice a1 x.2.length d1] 53)).alloc (.cells #[.int .i64 x.1, .slice a1 x.2.length d1] 53)) := ((keep_set w B 5 sv).alloc _).alloc _
    have b0 := blk_alloc (o' := .cells #[.int .i64 x.1, .slice a1 x.2.length d1] 53) (blk_alloc (o' := .cells #[.int .i64 x.1, .slice a1 x.2.length d1] 53) (blk_set h1 5 sv))
    have hs := k0.size
    generalize ((w.setCell ⟨B, 5, none⟩ sv).alloc (.cells #[.int .i64 x.1, .slice a1 x.2.length d1] 53)).alloc (.cells #[.int .i64 x.1, .slice a1 x.2.length d1] 53) = W at *
    refine ⟨.slice a1 x.2.length d1, F, fun k => k = B ∨ SO k ∨ G k, rfl, hp.agree (k0.agree fun k _ hk e => (h6 k (hF k hk).1).2 e), ?_, fun k hk => ⟨(h6 k (hF k hk).1).1, fun h => ?_⟩, fun k hk => ?_, k0.mono fun k _ e => e ▸ h4⟩
    · refine ⟨ov, sv, SO, G, by simpa [CutSt.take] using b0, h2.agree (k0.agree fun k _ hk e => (h5 k hk).2.1 e), ?_, .inl rfl, fun k hk => ⟨.inr (.inl hk), (h5 k hk).2.1, fun hg => (h5 k hk).2.2 (hG k hg)⟩, fun k hk => ⟨.inr (.inr hk), (h6 k (hG k hk)).2⟩, h7, fun k hk => ?_⟩
      · rw [show st.take.closed = l by simp [CutSt.take, HL.out]]
        exact hsv.agree (k0.agree fun k _ hk e => (h6 k (hG k hk)).2 e)
      · rcases hk with rfl | hk | hk
        · omega
        · have := h8 k (h5 k hk).1; omega
        · have := h8 k (h6 k (hG k hk)).1; omega
    · rcases h with e | h | h
      · exact (h6 k (hF k hk).1).2 e
      · exact (h5 k h).2.2 (hF k hk).1
      · exact (hF k hk).2 h
    · rcases hk with rfl | hk | hk
      · exact h4
      · exact (h5 k hk).1
      · exact (h6 k (hG k hk)).1
  by_cases hc : c = 1
  · subst hc
    obtain rfl : l = [] := List.length_eq_zero_iff.1 (by omega)
    rw [if_pos rfl] at hcl
    have F0 := Lib.hid (fin _ hcl)
    clear fin hcl
    go_enter Try.func29, Try.ntmps29
    go_wp2
    exact bodyPost_ret (v := .tuple #[.agg #[.int .i64 x.1, .slice a1 x.2.length d1], .bool true]) (by simp [results, Try.results29, go_sem]) rfl F0.out
  · have j1 : (1 : Int) ≤ c := by omega
    rw [if_neg hc] at hcl
    have F0 := Lib.hid (fin _ hcl)
    clear fin hcl
    go_enter Try.func29, Try.ntmps29
    go_wp2
    exact bodyPost_ret (v := .tuple #[.agg #[.int .i64 x.1, .slice a1 x.2.length d1], .bool true]) (by simp [results, Try.results29, go_sem]) rfl F0.out

end Go.Proofs.Ytjillekahongeaa
