/-
  What the program does to a cutter: New, Tick, Add.
-/
import Derived.Test.YtjillekahongeaaEpB
namespace Go.Proofs.Ytjillekahongeaa
open Go Go.RowKit Go.Deep
set_option linter.unusedVariables false

/-- so many steps at the most were made -/
def CutSt.Ok (st : CutSt) (n : Nat) : Prop := 0 ≤ st.number ∧ st.number ≤ n ∧ 0 ≤ st.age ∧ st.age ≤ n ∧ st.opens.length ≤ n ∧ st.closed.length ≤ n

def CutSt.tick (st : CutSt) : CutSt := if st.age + 1 < st.limit then { st with age := st.age + 1 } else ({ st with age := st.age + 1 } : CutSt).close
def CutSt.cut (st : CutSt) : CutSt := if st.opens = [] then st else st.close
def CutSt.add (st : CutSt) (p : Plan) : CutSt := if ((st.opens.length + 1 : Nat) : Int) = st.most then ({ st with opens := st.opens ++ [p] } : CutSt).close else { st with opens := st.opens ++ [p] }
def CutSt.take (st : CutSt) : CutSt := { st with closed := st.closed.tail }

theorem num_any (a : Int) (w : World) : Calls Try.prog 10 #[.int .i64 a] w fun e w' => e = .returned (.int .i64 a) ∧ w = w' := by
  go_enter Try.func10, Try.ntmps10
  go_wp2
  go_ret
  exact ⟨rfl, rfl⟩

theorem new_bad (a b : Int) (w : World) (h : a < 1 ∨ 256 < a ∨ b < 1 ∨ 1000000 < b) :
    Calls Try.prog 9 #[.int .i64 a, .int .i64 b] w fun e w' => e = .returned (.tuple #[.pointer none, .int .i64 2]) ∧ w = w' := by
  go_enter Try.func9, Try.ntmps9
  go_wp2
  all_goals first | (go_ret2; exact ⟨rfl, rfl⟩) | (exfalso; omega)

def CutSt.new (a b : Int) : CutSt := ⟨a, b, 0, 0, [], []⟩

theorem cutAt_new (w : World) (a b : Int) (ha : (Lit.int .i64 a).wf = true) : CutAt (w.alloc (.cells #[.int .i64 a, .int .i64 b, .int .i64 0, .slice none 0 0, .int .i64 0, .slice none 0 0] 59)) w.heap.size (Fr w.heap.size (w.heap.size + 1)) (CutSt.new a b) :=
  ⟨_, _, No, No, blk_new _ _, Own.nil _ _ _ _, ⟨none, [], No, OwnRows.nil _ _ _, trivial, fun _ h => (by cases h), fun _ h => h.elim⟩, ⟨Nat.le_refl _, by omega⟩, fun _ h => h.elim, fun _ h => h.elim, rfl, fun k hk => by have := hk.2; simp; omega⟩

theorem new_good (a b : Int) (w : World) (h1 : 1 ≤ a) (h2 : a ≤ 256) (h3 : 1 ≤ b) (h4 : b ≤ 1000000) :
    Calls Try.prog 9 #[.int .i64 a, .int .i64 b] w fun e w' => e = .returned (.tuple #[.pointer (some ⟨w.heap.size, 0, none⟩), .int .i64 0]) ∧
      CutAt w' w.heap.size (Fr w.heap.size (w.heap.size + 1)) (CutSt.new a b) ∧ Keep No w w' ∧ w'.heap.size = w.heap.size + 1 := by
  have i1 : ¬ a < 1 := by omega
  have i2 : ¬ 256 < a := by omega
  have i3 : ¬ b < 1 := by omega
  have i4 : ¬ 1000000 < b := by omega
  go_enter Try.func9, Try.ntmps9
  go_wp2
  go_ret2
  exact ⟨rfl, cutAt_new w a b (by simp [Lit.wf, IntKind.min, IntKind.max, IntKind.signed, IntKind.bits]; omega), (Keep.refl _ _).alloc _, by simp⟩

/-- a step that turns the age alone -/
theorem CutAt.setAge {w : World} {B : Nat} {S : Nat → Prop} {st : CutSt} (h : CutAt w B S st) (x : Int) : CutAt (w.setCell ⟨B, 4, none⟩ (.int .i64 x)) B S { st with age := x } := by
  obtain ⟨ov, cv, SO, SC, h1, h2, h3, h4, h5, h6, h7, h8⟩ := h
  have b1 := blk_set h1 4 (.int .i64 x)
  exact ⟨ov, cv, SO, SC, by simpa using b1, h2.agree (agree_set (fun h => (h5 B h).2.1 rfl) _ _), h3.agree (agree_set (fun h => (h6 B h).2 rfl) _ _), h4, h5, h6, h7, fun k hk => by simpa using h8 k hk⟩

theorem CutAt.lt {w : World} {B : Nat} {S : Nat → Prop} {st : CutSt} (h : CutAt w B S st) : B < w.heap.size ∧ S B := by
  obtain ⟨ov, cv, SO, SC, h1, h2, h3, h4, h5, h6, h7, h8⟩ := h
  exact ⟨blk_lt h1, h4⟩

theorem CutAt.drew {w : World} {B : Nat} {S : Nat → Prop} {st : CutSt} (h : CutAt w B S st) : CutAt w.drew B S st := h.agree (fun _ _ _ => rfl) (Nat.le_refl _)

set_option maxHeartbeats 1000000 in
theorem tick_any (w : World) (B : Nat) (S : Nat → Prop) (st : CutSt) (n : Nat) (h : CutAt w B S st) (hk : st.Ok n) (hn : n ≤ 1000000) :
    Calls Try.prog 11 #[.pointer (some ⟨B, 0, none⟩)] w (Stepped CutAt w B S st.tick (.bool (decide (¬ st.age + 1 < st.limit)))) := by
  obtain ⟨k1, k2, k3, k4, k5, k6⟩ := hk
  have hn' : (n : Int) ≤ 1000000 := by omega
  have h0 := h
  obtain ⟨ov, cv, SO, SC, h1, -⟩ := h
  have c0 := blk_cell h1
  have f0 := blk_fro h1
  by_cases hl : st.age + 1 < st.limit
  · have d1 : decide (st.age + 1 < st.limit) = true := by simpa using hl
    go_enter Try.func11, Try.ntmps11
    go_wp2_with fail
    refine wp_region_can [0, 1, 2, 3, 4, 5, 6, 7, 8] [] [] (by kernel_rfl) (by kernel_rfl) (by kernel_rfl) (by kernel_rfl) (by intro c a d v w h; cases d <;> exact h) ?_
    repeat (refine can_sil rfl rfl (fun K hK => ?_); go_simp; refine hK _ ?_; clear hK K)
    refine can_nil ?_
    go_wp2
    go_ret
    refine ⟨by simp [hl], S, ?_, fun k hk => .inl hk, ((keep_set _ _ _ _).mono fun k _ e => e ▸ h0.lt.2).drew⟩
    have := h0.setAge (st.age + 1)
    simp only [CutSt.tick, hl, if_true]
    exact this
  · have d1 : decide (st.age + 1 < st.limit) = false := by simpa using hl
    go_enter Try.func11, Try.ntmps11
    go_wp2_with fail
    refine wp_region_can [0, 1, 2, 3, 4, 5, 6, 7, 8] [] [] (by kernel_rfl) (by kernel_rfl) (by kernel_rfl) (by kernel_rfl) (by intro c a d v w h; cases d <;> exact h) ?_
    repeat (refine can_sil rfl rfl (fun K hK => ?_); go_simp; refine hK _ ?_; clear hK K)
    refine can_nil ?_
    go_wp2_with fail
    refine (close_any _ B S { st with age := st.age + 1 } (CutAt.drew (h0.setAge (st.age + 1))) k1 (by simp; omega) (by simp; omega)).mono ?_
    rintro e w1 ⟨rfl, S', hC, hS, hk⟩
    go_wp2
    go_ret
    refine ⟨by simp [hl], S', ?_, fun k hk => (hS k hk).imp id fun h => by simpa using h, ?_⟩
    · simp only [CutSt.tick, if_neg (show ¬ st.age + 1 < st.limit by omega)]
      exact hC
    · exact ((keep_set _ _ _ _).mono (N := S) fun k _ e => e ▸ h0.lt.2).drew.trans hk

theorem Rd.toArray {w : World} {S : Nat → Prop} {cs : Array Value} {p : Plan} (h : Rd planSh w S cs.toList p) :
    ∃ a1 c1 a2 c2 a3 c3, cs = #[.int .i64 p.client, .int .u64 p.token, .string p.name, .slice a1 p.args.length c1, .int .i64 p.how, .slice a2 p.reads.length c2, .slice a3 p.writes.length c3] := by
  obtain ⟨a1, c1, a2, c2, a3, c3, he, _⟩ := plan_cells h
  exact ⟨a1, c1, a2, c2, a3, c3, by rw [← Array.toArray_toList (xs := cs), he]⟩

/-- one plan more, behind the append and the store -/
theorem add_fin {w w1 w2 : World} {B : Nat} {S SO SC T : Nat → Prop} {st : CutSt} {p : Plan} {v cv : Value}
    (h3 : Closed w SC cv st.closed) (h4 : S B) (h5 : ∀ k, SO k → S k ∧ k ≠ B ∧ ¬ SC k) (h6 : ∀ k, SC k → S k ∧ k ≠ B) (h7 : (Lit.int .i64 st.number).wf = true) (h8 : ∀ k, S k → k < w.heap.size)
    (hb : w2.heap[B]? = some (.cells #[.int .i64 st.most, .int .i64 st.limit, .int .i64 st.number, v, .int .i64 st.age, cv] 59 (0, 0)))
    (ho : Own planSh 37 w1 (fun k => SO k ∨ T k) v (st.opens ++ [p])) (hT : ∀ k, T k → w.heap.size ≤ k ∧ k < w1.heap.size) (hk : Keep SO w w1) (hk2 : Keep (One B) w1 w2) :
    CutAt w2 B (fun k => S k ∨ (w.heap.size ≤ k ∧ k < w2.heap.size)) { st with opens := st.opens ++ [p] } ∧ Keep S w w2 := by
  have kw : Keep (fun k => SO k ∨ k = B) w w2 := (hk.mono fun _ _ h => .inl h).then hk2 fun _ _ h => .inr h
  have hs1 := hk.size
  have hs2 := hk2.size
  have hBl := h8 B h4
  refine ⟨⟨v, cv, fun k => SO k ∨ T k, SC, hb, ho.agree (hk2.agree fun k _ hk e => ?_), h3.agree (kw.agree fun k _ hc h => h.elim (fun h => (h5 k h).2.2 hc) (h6 k hc).2), .inl h4, fun k hk => ?_, fun k hk => ⟨.inl (h6 k hk).1, (h6 k hk).2⟩, h7, fun k hk => ?_⟩, kw.mono fun k _ h => h.elim (fun h => (h5 k h).1) (fun e => e ▸ h4)⟩
  · have : k = B := e
    rcases hk with h | h
    · exact (h5 k h).2.1 this
    · have := hT k h; omega
  · rcases hk with h | h
    · exact ⟨.inl (h5 k h).1, (h5 k h).2⟩
    · have h1 := hT k h
      exact ⟨.inr ⟨h1.1, by omega⟩, by omega, fun hc => by have := h8 k (h6 k hc).1; omega⟩
  · rcases hk with h | h
    · have := h8 k h; omega
    · exact h.2

set_option maxHeartbeats 2000000 in
theorem add_any (w : World) (B : Nat) (S U : Nat → Prop) (st : CutSt) (n : Nat) (cs : List Value) (p : Plan) (h : CutAt w B S st) (hk : st.Ok n) (hn : n ≤ 1000000) (hp : Rd planSh w U cs p) (l1 : p.args.length ≤ 1048576) (l2 : p.reads.length ≤ 1048576) (l3 : p.writes.length ≤ 1048576) :
    Calls Try.prog 12 #[.pointer (some ⟨B, 0, none⟩), .agg cs.toArray] w (Stepped CutAt w B S (st.add p) (.int .i64 st.number)) := by
  obtain ⟨q1, q2, q3, q4, q5, q6⟩ := hk
  have hn' : (n : Int) ≤ 1000000 := by omega
  obtain ⟨i0, hi, hz0, hz1, hz2⟩ := info_parts Try.infoPlan
  have h0 := h
  obtain ⟨ov, cv, SO, SC, h1, h2, h3, h4, h5, h6, h7, h8⟩ := h
  obtain ⟨a1, k1, rfl, _⟩ := h2.form
  obtain ⟨a2, k2, rfl, _⟩ := h3.form
  have hB := blk_lt h1
  have c0 := blk_cell h1
  have f0 := blk_fro h1
  obtain ⟨x1, y1, x2, y2, x3, y3, hcs, -⟩ := plan_cells hp
  have hfin : ∀ (b : Bool), decide (((st.opens.length + 1 : Nat) : Int) = st.most) = b → Calls Try.prog 12 #[.pointer (some ⟨B, 0, none⟩), .agg cs.toArray] w (Stepped CutAt w B S (st.add p) (.int .i64 st.number)) := by
    intro b hb
    subst hcs
    have e1 : (((st.opens.length + 1 : Nat) : Int) == st.most) = b := by rw [← hb]; exact Bool.beq_eq_decide_eq _ _
    have e2 : (((st.opens.length : Int) + 1) == st.most) = b := by rw [← e1]; simp
    have HB := Lib.hid hb
    clear hb
    go_enter Try.func12, Try.ntmps12
    go_wp2_with fail
    refine wp_region_can [0, 1, 2, 3, 4, 5, 6, 7, 8, 9, 10, 11] [6, 7, 8, 11] [(0, 6), (1, 6), (2, 6), (3, 6), (4, 6), (0, 7), (1, 7), (2, 7), (3, 7), (4, 7), (0, 8)] (by kernel_rfl) (by kernel_rfl) (by kernel_rfl) (by kernel_rfl) (by intro c a d v w h; cases d <;> exact h) ?_
    repeat (refine can_sil rfl rfl (fun K hK => ?_); go_simp; refine hK _ ?_; clear hK K)
    refine can_loud [0, 1, 2, 3, 4] rfl rfl rfl (fun K hK => ?_)
    go_wp2_with fail
    refine (copied_any _ U _ p (Rd.agree _ hp (by exact (((Keep.refl No w).alloc _).drew).agreeNo)) l1 l2 l3).mono ?_
    rintro e w1 ⟨cs', rfl, r1, m1⟩
    obtain ⟨a4, d4, a5, d5, a6, d6, rfl⟩ := Rd.toArray r1
    have b1 := m1.blk (blk_alloc h1) (fun x => x)
    have hB1 := blk_lt b1
    have c1 := blk_cell b1
    have f1 := blk_fro b1
    have M1 : Keep No w w1 := (((Keep.refl No w).alloc _).drew).thenNo m1
    simp only [World.size_drew, World.size_alloc] at r1
    clear m1
    go_wp2_with fail
    refine Mid.normal (hK _ _ ?_ ?_)
    · simp only [List.forall_mem_cons]
      refine ⟨?_, ?_, ?_, ?_, ?_, stabs_nil⟩ <;> exact stab_of rfl (fun K hK => by go_simp; exact hK)
    clear hK K
    refine can_loud [0, 1, 2, 3, 4] rfl rfl rfl (fun K hK => ?_)
    go_wp2_with fail
    refine Mid.normal (hK _ _ ?_ ?_)
    · simp only [List.forall_mem_cons]
      refine ⟨?_, ?_, ?_, ?_, ?_, stabs_nil⟩ <;> exact stab_of rfl (fun K hK => by go_simp; exact hK)
    clear hK K
    obtain ⟨a7, d7, w2, hrun, ho, m2, hs2⟩ := Own.append (s := planSh) (S := SO) (T := Fr (w.heap.size + 1) w1.heap.size) (h2.agree ((M1.alloc (.cells #[.int .i64 p.client, .int .u64 p.token, .string p.name, .slice a4 p.args.length d4, .int .i64 p.how, .slice a5 p.reads.length d5, .slice a6 p.writes.length d6] 37)).agreeNo)) 51 51 i0 _ 112 Try.underlying51 hi hz0 hz1 hz2 rfl (blk_new w1 _) (r1.agree _ ((Keep.refl No w1).alloc _).agreeNo) (fun k hk hf => by have := h8 k (h5 k hk).1; have := hf.1; omega) (by omega) (by omega) 1
    refine can_loud [0] rfl rfl rfl (fun K hK => ?_)
    refine wpList_app rfl (.tmp 16) (.tmp 19) 51 51 rfl rfl rfl hrun ?_
    have b2 := m2.blk (blk_alloc b1) (fun h => (h5 B h).2.1 rfl)
    have c2 := blk_cell b2
    have f2 := blk_fro b2
    go_wp2_with fail
    refine Mid.normal (hK _ _ ?_ ?_)
    · simp only [List.forall_mem_cons]
      refine ⟨?_, stabs_nil⟩ <;> exact stab_of rfl (fun K hK => by go_simp; exact hK)
    clear hK K
    repeat (refine can_sil rfl rfl (fun K hK => ?_); go_simp; refine hK _ ?_; clear hK K)
    refine can_loud [] rfl rfl rfl (fun K hK => ?_)
    go_wp2_with fail
    refine Mid.normal (hK _ _ stabs_nil ?_)
    clear hK K
    refine can_nil ?_
    go_wp2_with fail
    refine wp_region_can [0, 1, 2, 3, 4, 5, 6, 7, 8, 9] [] [] (by kernel_rfl) (by kernel_rfl) (by kernel_rfl) (by kernel_rfl) (by intro c a d v w h; cases d <;> exact h) ?_
    repeat (refine can_sil rfl rfl (fun K hK => ?_); go_simp; refine hK _ ?_; clear hK K)
    refine can_nil ?_
    have b3 := blk_set b2 3 (.slice a7 (st.opens.length + 1) d7)
    have hs1 := M1.size
    have hs2' := m2.size
    simp only [World.size_alloc] at hs2'
    obtain ⟨hC, hK⟩ := add_fin (w := w) (w1 := w2) (p := p) (T := fun k => w.heap.size ≤ k ∧ k < w2.heap.size) h3 h4 h5 h6 h7 h8 (by simpa using b3) (ho.live.mono fun k hk => hk.1.imp id fun h => ⟨h.elim (fun h => by have := h.1; omega) (fun h => by simp at h; omega), hk.2⟩) (fun k hk => hk) (((M1.alloc _).mono fun _ _ h => h.elim).trans m2) (keep_set _ _ _ _)
    cases b with
    | true =>
      go_wp2_with fail
      refine (close_any _ B _ _ (CutAt.drew hC) q1 (by simp; omega) (by simp; omega)).mono ?_
      rintro e w4 ⟨rfl, S', hC', hS', hk'⟩
      go_wp2
      go_ret
      refine ⟨rfl, S', ?_, fun k hk => ?_, ?_⟩
      · simp only [CutSt.add, if_pos (of_decide_eq_true HB.out)]
        exact hC'
      · rcases hS' k hk with h | h
        · exact h.imp id fun h => h.1
        · simp at h; exact .inr (by omega)
      · exact (hK.drew).then hk' fun k hk h => h.elim id fun h => by omega
    | false =>
      go_wp2
      go_ret
      have hadd : st.add p = { st with opens := st.opens ++ [p] } := by simp only [CutSt.add, if_neg (of_decide_eq_false HB.out)]
      rw [hadd]
      exact ⟨rfl, _, CutAt.drew hC, fun k hk => hk.elim .inl fun h => .inr h.1, hK.drew⟩
  exact hfin _ rfl
end Go.Proofs.Ytjillekahongeaa
