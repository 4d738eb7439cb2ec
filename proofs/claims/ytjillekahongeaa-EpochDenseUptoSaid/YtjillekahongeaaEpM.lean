/-
  An act on both cutters.
-/
/-
  An act on both cutters: does.
-/
import Derived.Test.YtjillekahongeaaEpL
namespace Go.Proofs.Ytjillekahongeaa
open Go Go.RowKit Go.Deep
set_option linter.unusedVariables false

/-- the plans are small, and the epochs short -/
def CutSt.Sm (st : CutSt) (n : Nat) : Prop := (∀ p ∈ st.opens, p.Small) ∧ ∀ x ∈ st.closed, x.2.length ≤ n ∧ ∀ p ∈ x.2, p.Small

theorem sm_mono {st : CutSt} {n m : Nat} (h : st.Sm n) (hm : n ≤ m) : st.Sm m := ⟨h.1, fun x hx => ⟨Nat.le_trans (h.2 x hx).1 hm, (h.2 x hx).2⟩⟩
theorem ok_mono {st : CutSt} {n m : Nat} (h : st.Ok n) (hm : n ≤ m) : st.Ok m := by
  obtain ⟨h1, h2, h3, h4, h5, h6⟩ := h
  exact ⟨h1, by omega, h3, by omega, by omega, by omega⟩
theorem sm_close {st : CutSt} {n : Nat} (h : st.Sm n) (hn : st.opens.length ≤ n) : st.close.Sm n := by
  refine ⟨fun p hp => by simp [CutSt.close] at hp, fun x hx => ?_⟩
  simp only [CutSt.close, List.mem_append, List.mem_singleton] at hx
  rcases hx with hx | rfl
  · exact h.2 x hx
  · exact ⟨hn, h.1⟩
theorem sm_tick {st : CutSt} {n : Nat} (h : st.Sm n) (ho : st.Ok n) : st.tick.Sm n := by
  unfold CutSt.tick
  split
  · exact h
  · exact sm_close (st := { st with age := st.age + 1 }) h ho.2.2.2.2.1
theorem sm_cut {st : CutSt} {n : Nat} (h : st.Sm n) (ho : st.Ok n) : st.cut.Sm n := by
  unfold CutSt.cut
  split
  · exact h
  · exact sm_close h ho.2.2.2.2.1
theorem ok_cut {st : CutSt} {n : Nat} (h : st.Ok n) : st.cut.Ok (n + 1) := by
  unfold CutSt.cut
  split
  · exact ok_mono h (Nat.le_succ n)
  · obtain ⟨h1, h2, h3, h4, h5, h6⟩ := h
    refine ⟨?_, ?_, ?_, ?_, ?_, ?_⟩ <;> simp [CutSt.close] <;> omega
theorem sm_add {st : CutSt} {n : Nat} {p : Plan} (h : st.Sm n) (ho : st.Ok n) (hp : p.Small) : (st.add p).Sm (n + 1) := by
  have h1 : ({ st with opens := st.opens ++ [p] } : CutSt).Sm (n + 1) := by
    refine ⟨fun q hq => ?_, (sm_mono h (Nat.le_succ n)).2⟩
    rcases List.mem_append.1 hq with hq | hq
    · exact h.1 q hq
    · rw [List.mem_singleton.1 hq]; exact hp
  unfold CutSt.add
  split
  · exact sm_close h1 (by have := ho.2.2.2.2.1; simp; omega)
  · exact h1
theorem sm_take {st : CutSt} {n : Nat} (h : st.Sm n) : st.take.Sm n := ⟨h.1, fun x hx => h.2 x (List.mem_of_mem_tail hx)⟩
theorem ok_take {st : CutSt} {n : Nat} (h : st.Ok n) : st.take.Ok n := by
  obtain ⟨h1, h2, h3, h4, h5, h6⟩ := h
  exact ⟨h1, h2, h3, h4, h5, by simp [CutSt.take]; omega⟩

/-- both cutters, of one state, apart from one another, in what the law made -/
def Pair (w0 w : World) (B C : Nat) (st : CutSt) (n : Nat) : Prop :=
  ∃ S T : Nat → Prop, CutAt w B S st ∧ RefAt w C T st ∧ (∀ k, S k → w0.heap.size ≤ k) ∧ (∀ k, T k → w0.heap.size ≤ k) ∧ (∀ k, S k → ¬ T k) ∧ Keep No w0 w ∧ st.Ok n ∧ st.Sm n

/-- a footprint's blocks are there -/
theorem CutAt.live {w : World} {B : Nat} {S : Nat → Prop} {st : CutSt} (h : CutAt w B S st) : ∀ k, S k → k < w.heap.size := by
  obtain ⟨_, _, _, _, _, _, _, _, _, _, _, h8⟩ := h
  exact h8
theorem RefAt.live {w : World} {B : Nat} {S : Nat → Prop} {st : CutSt} (h : RefAt w B S st) : ∀ k, S k → k < w.heap.size := by
  obtain ⟨_, _, _, _, _, _, _, _, _, _, _, h8⟩ := h
  exact h8

/-- what may turn between: nothing of the two -/
theorem Pair.keep {w0 w w' : World} {B C : Nat} {st : CutSt} {M : Nat → Prop} {S T : Nat → Prop} (h1 : CutAt w B S st) (h2 : RefAt w C T st) (h3 : ∀ k, S k → w0.heap.size ≤ k) (h4 : ∀ k, T k → w0.heap.size ≤ k) (h5 : ∀ k, S k → ¬ T k) (h6 : Keep No w0 w) (k : Keep M w w') (hS : ∀ k, M k → ¬ S k) (hT : ∀ k, M k → ¬ T k) (hM : ∀ k, M k → w0.heap.size ≤ k) :
    CutAt w' B S st ∧ RefAt w' C T st ∧ Keep No w0 w' :=
  ⟨h1.agree (k.agree fun i _ hs hm => hS i hm hs) k.size, h2.agree (k.agree fun i _ hs hm => hT i hm hs) k.size, h6.then k fun i hi hm => absurd (hM i hm) (by omega)⟩

/-- a step on one, then the same on the other -/
theorem Pair.two {w0 w w1 w2 : World} {B C m : Nat} {st st' : CutSt} {S T : Nat → Prop} {r r' : Value} {e e' : Ending} (h1 : CutAt w B S st) (h2 : RefAt w C T st) (h3 : ∀ k, S k → w0.heap.size ≤ k) (h4 : ∀ k, T k → w0.heap.size ≤ k) (h5 : ∀ k, S k → ¬ T k) (h6 : Keep No w0 w)
    (a : Stepped CutAt w B S st' r e w1) (b : Stepped RefAt w1 C T st' r' e' w2) (ho : st'.Ok m) (hs : st'.Sm m) : Pair w0 w2 B C st' m := by
  obtain ⟨rfl, S1, a1, a2, a3⟩ := a
  obtain ⟨rfl, T1, b1, b2, b3⟩ := b
  have z0 := h6.size
  have z1 := a3.size
  have l1 := a1.live
  have l2 := h2.live
  refine ⟨S1, T1, a1.agree (b3.agree fun k _ hs ht => ?_) b3.size, b1, fun k hk => ?_, fun k hk => ?_, fun k hs ht => ?_, (h6.then a3 fun i hi hm => absurd (h3 i hm) (by omega)).then b3 fun i hi hm => absurd (h4 i hm) (by omega), ho, hs⟩
  · rcases a2 k hs with h | h
    · exact h5 k h ht
    · have := l2 k ht; omega
  · rcases a2 k hk with h | h
    · exact h3 k h
    · omega
  · rcases b2 k hk with h | h
    · exact h4 k h
    · omega
  · rcases b2 k ht with h | h
    · rcases a2 k hs with h' | h'
      · exact h5 k h' h
      · have := l2 k h; omega
    · have := l1 k hs; omega

def Does (w0 : World) (B C n : Nat) (e : Ending) (w' : World) : Prop := e = .returned (.bool true) ∧ ∃ st', Pair w0 w' B C st' n

set_option maxHeartbeats 1000000 in
theorem does_tick (w0 w : World) (B C n : Nat) (st : CutSt) (h : Pair w0 w B C st n) (hn : n ≤ 1000000) (a1 a2 a3 : Option Addr) (x1 x2 x4 : Int) (x3 : ByteArray) (n1 n2 n3 c1 c2 c3 : Nat) :
    Calls Try.prog 16 #[.pointer (some ⟨B, 0, none⟩), .pointer (some ⟨C, 0, none⟩), .agg #[.int .i64 2, .int .i64 x1, .int .u64 x2, .string x3, .slice a1 n1 c1, .int .i64 x4, .slice a2 n2 c2, .slice a3 n3 c3]] w (Does w0 B C (n + 1)) := by
  obtain ⟨S, T, h1, h2, h3, h4, h5, h6, h7, h8⟩ := h
  have k0 : Keep No w (w.alloc (.cells #[.int .i64 2, .int .i64 x1, .int .u64 x2, .string x3, .slice a1 n1 c1, .int .i64 x4, .slice a2 n2 c2, .slice a3 n3 c3] 47)) := (Keep.refl _ _).alloc _
  obtain ⟨g1, g2, g3⟩ := Pair.keep h1 h2 h3 h4 h5 h6 k0 (fun _ h => h.elim) (fun _ h => h.elim) (fun _ h => h.elim)
  go_enter Try.func16, Try.ntmps16
  go_wp2_with fail
  refine (tick_any _ B S st n g1 h7 hn).mono ?_
  rintro e w1 s1
  have s1' := s1
  obtain ⟨rfl, S1, q1, q2, q3⟩ := s1
  go_wp2_with fail
  refine (ref_tick _ C T st n (g2.agree (q3.agree fun k _ ht hs => h5 k hs ht) q3.size) h7 hn).mono ?_
  rintro e w2 s2
  have p := Pair.two g1 g2 h3 h4 h5 g3 s1' s2 (tick_ok h7) (sm_mono (sm_tick h8 h7) (Nat.le_succ n))
  obtain ⟨rfl, -⟩ := s2
  clear s1' q1 q2 q3
  go_wp2_with fail
  go_ret
  exact ⟨rfl, _, p⟩

set_option maxHeartbeats 1000000 in
theorem does_cut (w0 w : World) (B C n : Nat) (st : CutSt) (h : Pair w0 w B C st n) (hn : n ≤ 1000000) (a1 a2 a3 : Option Addr) (x1 x2 x4 : Int) (x3 : ByteArray) (n1 n2 n3 c1 c2 c3 : Nat) :
    Calls Try.prog 16 #[.pointer (some ⟨B, 0, none⟩), .pointer (some ⟨C, 0, none⟩), .agg #[.int .i64 3, .int .i64 x1, .int .u64 x2, .string x3, .slice a1 n1 c1, .int .i64 x4, .slice a2 n2 c2, .slice a3 n3 c3]] w (Does w0 B C (n + 1)) := by
  obtain ⟨S, T, h1, h2, h3, h4, h5, h6, h7, h8⟩ := h
  have k0 : Keep No w (w.alloc (.cells #[.int .i64 3, .int .i64 x1, .int .u64 x2, .string x3, .slice a1 n1 c1, .int .i64 x4, .slice a2 n2 c2, .slice a3 n3 c3] 47)) := (Keep.refl _ _).alloc _
  obtain ⟨g1, g2, g3⟩ := Pair.keep h1 h2 h3 h4 h5 h6 k0 (fun _ h => h.elim) (fun _ h => h.elim) (fun _ h => h.elim)
  go_enter Try.func16, Try.ntmps16
  go_wp2_with fail
  refine (cut_any _ B S st n g1 h7 hn).mono ?_
  rintro e w1 s1
  have s1' := s1
  obtain ⟨rfl, S1, q1, q2, q3⟩ := s1
  go_wp2_with fail
  refine (ref_cut _ C T st n (g2.agree (q3.agree fun k _ ht hs => h5 k hs ht) q3.size) h7 hn).mono ?_
  rintro e w2 s2
  have p := Pair.two g1 g2 h3 h4 h5 g3 s1' s2 (ok_cut h7) (sm_mono (sm_cut h8 h7) (Nat.le_succ n))
  obtain ⟨rfl, -⟩ := s2
  clear s1' q1 q2 q3
  go_wp2_with fail
  go_ret
  exact ⟨rfl, _, p⟩

set_option maxHeartbeats 2000000 in
theorem does_add (w0 w : World) (B C n : Nat) (st : CutSt) (h : Pair w0 w B C st n) (hn : n ≤ 1000000) (U : Nat → Prop) (ps : List Value) (p : Plan) (hp : Rd planSh w U ps p) (hs : p.Small) (hU : ∀ k, U k → k < w0.heap.size) :
    Calls Try.prog 16 #[.pointer (some ⟨B, 0, none⟩), .pointer (some ⟨C, 0, none⟩), .agg (.int .i64 1 :: ps).toArray] w (Does w0 B C (n + 1)) := by
  obtain ⟨S, T, h1, h2, h3, h4, h5, h6, h7, h8⟩ := h
  obtain ⟨a1, c1, a2, c2, a3, c3, rfl, -⟩ := plan_cells hp
  have k0 : Keep No w (w.alloc (.cells #[.int .i64 1, .int .i64 p.client, .int .u64 p.token, .string p.name, .slice a1 p.args.length c1, .int .i64 p.how, .slice a2 p.reads.length c2, .slice a3 p.writes.length c3] 47)) := (Keep.refl _ _).alloc _
  obtain ⟨g1, g2, g3⟩ := Pair.keep h1 h2 h3 h4 h5 h6 k0 (fun _ h => h.elim) (fun _ h => h.elim) (fun _ h => h.elim)
  obtain ⟨z1, z2, z3⟩ := hs
  have b0 := blk_new w (.cells #[.int .i64 1, .int .i64 p.client, .int .u64 p.token, .string p.name, .slice a1 p.args.length c1, .int .i64 p.how, .slice a2 p.reads.length c2, .slice a3 p.writes.length c3] 47)
  go_enter Try.func16, Try.ntmps16
  have c0 := blk_cell b0
  go_wp2_with fail
  refine (ref_plan _ U _ p (Rd.agree _ hp (by exact k0.agreeNo)) z1 z2 z3).mono ?_
  rintro e w1 ⟨cs', rfl, r1, m1⟩
  obtain ⟨a4, d4, a5, d5, a6, d6, rfl⟩ := Rd.toArray r1
  simp only [World.size_alloc] at r1
  have M1 : Keep No w w1 := k0.thenNo m1
  have hs1 := m1.size
  simp only [World.size_alloc] at hs1
  have b1 := m1.blk b0 (fun x => x)
  have b2 := blk_new w1 (.cells #[.int .i64 p.client, .int .u64 p.token, .string p.name, .slice a4 p.args.length d4, .int .i64 p.how, .slice a5 p.reads.length d5, .slice a6 p.writes.length d6] 37)
  have kb : Keep No w1 (w1.alloc (.cells #[.int .i64 p.client, .int .u64 p.token, .string p.name, .slice a4 p.args.length d4, .int .i64 p.how, .slice a5 p.reads.length d5, .slice a6 p.writes.length d6] 37)) := (Keep.refl _ _).alloc _
  have l1 := h1.live
  have l2 := h2.live
  go_wp2_with fail
  refine (add_any _ B S (Fr (w.heap.size + 1) w1.heap.size) st n _ p (g1.agree (m1.thenNo kb).agreeNo (m1.thenNo kb).size) h7 hn (Rd.agree _ r1 (by exact kb.agreeNo)) z1 z2 z3).mono ?_
  rintro e w2 ⟨rfl, S1, q1, q2, q3⟩
  simp only [World.size_alloc] at q2
  have hs2 := q3.size
  simp only [World.size_alloc] at hs2
  have K2 : Keep S w w2 := (((M1.thenNo kb)).mono fun _ _ h => h.elim).trans q3
  have b3 := q3.blk (blk_alloc b1) (fun h => by have := l1 _ h; omega)
  have b4 := q3.blk b2 (fun h => by have := l1 _ h; omega)
  have c3 := blk_cell b3
  have c4 := blk_cell b4
  go_wp2_with fail
  have U2 : Agree U w w2 := K2.agree fun k _ hu hs => by have := h3 k hs; have := hU k hu; omega
  have P2 : Agree (Fr (w.heap.size + 1) w1.heap.size) w1 w2 := (kb.mono (N := S) fun _ _ h => h.elim).trans q3 |>.agree fun k _ hp hs => by have := l1 k hs; have := hp.1; omega
  refine (same_eq _ (Fr (w.heap.size + 1) w1.heap.size) U _ _ p (Rd.agree _ r1 P2) (Rd.agree _ hp U2) z1 z2 z3).mono ?_
  rintro e w3 ⟨rfl, k3⟩
  have b5 := k3.blk b3 (fun x => x)
  have b6 := k3.blk b4 (fun x => x)
  have c5 := blk_cell b5
  have c6 := blk_cell b6
  have hs3 := k3.size
  clear c3 c4
  go_wp2_with fail
  refine (spoil_any _ (Fr (w.heap.size + 1) w1.heap.size) _ p (Rd.agree _ (Rd.agree _ r1 P2) k3.agreeNo) (fun k hk => by have := hk.2; omega) ⟨z1, z2, z3⟩).mono ?_
  rintro e w4 ⟨rfl, tm⟩
  have K4 : Keep S w w4 := (K2.thenNo k3).then tm.keep fun k hk hp => by have := hp.1; omega
  have q4 : CutAt w4 B S1 (st.add p) := (q1.agree k3.agreeNo k3.size).agree (tm.keep.agree fun k _ hs hp => by
    have := hp.1
    rcases q2 k hs with h | h
    · have := l1 k h; omega
    · have := hp.2; omega) tm.keep.size
  have t4 : RefAt w4 C T st := h2.agree (K4.agree fun k _ ht hs => h5 k hs ht) K4.size
  have b7 := tm.keep.blk b5 (fun h => by have := h.1; omega)
  have c7 := blk_cell b7
  clear c5 c6
  have U4 : Agree U w w4 := K4.agree fun k _ hu hs => by have := h3 k hs; have := hU k hu; omega
  go_wp2_with fail
  refine (ref_add _ C T U st n _ p t4 h7 hn (Rd.agree _ hp U4) z1 z2 z3).mono ?_
  rintro e w5 s2
  have pr := Pair.two h1 h2 h3 h4 h5 h6 (show Stepped CutAt w B S (st.add p) (.int .i64 st.number) (.returned (.int .i64 st.number)) w4 from ⟨rfl, S1, q4, fun k hk => (q2 k hk).imp id fun h => by omega, K4⟩) s2 (add_ok p h7) (sm_add h8 h7 ⟨z1, z2, z3⟩)
  obtain ⟨rfl, -⟩ := s2
  go_wp2_with fail
  go_ret
  exact ⟨rfl, _, pr⟩

set_option maxHeartbeats 2000000 in
theorem does_ask (w0 w : World) (B C n : Nat) (st : CutSt) (h : Pair w0 w B C st n) (hn : n ≤ 1000000) (x : Int) (hx1 : x ≠ 1) (hx2 : x ≠ 2) (hx3 : x ≠ 3) (hx4 : x ≠ 4) (a1 a2 a3 : Option Addr) (x1 x2 x4 : Int) (x3 : ByteArray) (n1 n2 n3 c1 c2 c3 : Nat) :
    Calls Try.prog 16 #[.pointer (some ⟨B, 0, none⟩), .pointer (some ⟨C, 0, none⟩), .agg #[.int .i64 x, .int .i64 x1, .int .u64 x2, .string x3, .slice a1 n1 c1, .int .i64 x4, .slice a2 n2 c2, .slice a3 n3 c3]] w (Does w0 B C n) := by
  obtain ⟨S, T, h1, h2, h3, h4, h5, h6, h7, h8⟩ := h
  have k0 : Keep No w (w.alloc (.cells #[.int .i64 x, .int .i64 x1, .int .u64 x2, .string x3, .slice a1 n1 c1, .int .i64 x4, .slice a2 n2 c2, .slice a3 n3 c3] 47)) := (Keep.refl _ _).alloc _
  obtain ⟨g1, g2, g3⟩ := Pair.keep h1 h2 h3 h4 h5 h6 k0 (fun _ h => h.elim) (fun _ h => h.elim) (fun _ h => h.elim)
  have j1 : (x == 1) = false := by simpa using hx1
  have j2 : (x == 2) = false := by simpa using hx2
  have j3 : (x == 3) = false := by simpa using hx3
  have j4 : (x == 4) = false := by simpa using hx4
  clear hx1 hx2 hx3 hx4
  have g2' := g2
  obtain ⟨ov, cv, SO, SC, m1, m2, m3, -⟩ := g2'
  obtain ⟨aa, kk, rfl, -⟩ := m2.form
  obtain ⟨ab, kb, rfl, -⟩ := m3.form
  have c0 := blk_cell m1
  have hC := blk_lt m1
  clear m2 m3 m1
  simp only [World.size_alloc] at hC
  go_enter Try.func16, Try.ntmps16
  go_wp2_with fail
  refine wp_region_can [0, 2, 3, 4, 5, 6, 1, 7, 8, 9, 11, 12, 13, 14, 10, 15, 16, 17, 18, 20, 21, 22, 23, 24, 19, 25, 26, 27] [1, 10, 19] [(2, 1), (3, 1), (4, 1), (5, 1), (6, 1), (11, 10), (12, 10), (13, 10), (14, 10), (20, 19), (21, 19), (22, 19), (23, 19), (24, 19)] (by kernel_rfl) (by kernel_rfl) (by kernel_rfl) (by kernel_rfl) (by intro c a d v w h; cases d <;> exact h) ?_
  repeat (refine can_sil rfl rfl (fun K hK => ?_); go_simp; refine hK _ ?_; clear hK K)
  refine can_loud [2, 3, 4, 5, 6] rfl rfl rfl (fun K hK => ?_)
  go_wp2_with fail
  refine (open_any _ B S st (CutAt.drew g1)).mono ?_
  rintro e w1 ⟨rfl, rfl⟩
  go_wp2_with fail
  refine Mid.normal (hK _ _ ?_ ?_)
  · simp only [List.forall_mem_cons]
    refine ⟨?_, ?_, ?_, ?_, ?_, stabs_nil⟩ <;> exact stab_of rfl (fun K hK => by go_simp; exact hK)
  clear hK K
  repeat (refine can_sil rfl rfl (fun K hK => ?_); go_simp; refine hK _ ?_; clear hK K)
  refine can_loud [11, 12, 13, 14] rfl rfl rfl (fun K hK => ?_)
  go_wp2_with fail
  refine (now_any _ B S st (CutAt.drew g1)).mono ?_
  rintro e w1 ⟨rfl, rfl⟩
  go_wp2_with fail
  refine Mid.normal (hK _ _ ?_ ?_)
  · simp only [List.forall_mem_cons]
    refine ⟨?_, ?_, ?_, ?_, stabs_nil⟩ <;> exact stab_of rfl (fun K hK => by go_simp; exact hK)
  clear hK K
  repeat (refine can_sil rfl rfl (fun K hK => ?_); go_simp; refine hK _ ?_; clear hK K)
  refine can_loud [20, 21, 22, 23, 24] rfl rfl rfl (fun K hK => ?_)
  go_wp2_with fail
  refine (waiting_any _ B S st (CutAt.drew g1)).mono ?_
  rintro e w1 ⟨rfl, rfl⟩
  go_wp2_with fail
  refine Mid.normal (hK _ _ ?_ ?_)
  · simp only [List.forall_mem_cons]
    refine ⟨?_, ?_, ?_, ?_, ?_, stabs_nil⟩ <;> exact stab_of rfl (fun K hK => by go_simp; exact hK)
  clear hK K
  repeat (refine can_sil rfl rfl (fun K hK => ?_); go_simp; refine hK _ ?_; clear hK K)
  refine can_nil ?_
  go_wp2_with fail
  go_ret
  exact ⟨rfl, st, S, T, CutAt.drew g1, RefAt.drew g2, h3, h4, h5, g3.drew, h7, h8⟩

/-- the rows from the k-th on stand as they did; their lists' cells are there -/
def Rest (w : World) (T F : Nat → Prop) (a : Option Addr) (l : List Plan) (k : Nat) : Prop :=
  ∀ j, k ≤ j → (h : j < l.length) → ∃ (b off x1 : Nat) (y1 : Option Addr) (x2 : Nat) (y2 : Option Addr) (x3 : Nat) (y3 : Option Addr), a = some ⟨b, off, none⟩ ∧ b < w.heap.size ∧ F b ∧ ¬ T b ∧
    RowAt w b (off + j * 7) [.int .i64 l[j].client, .int .u64 l[j].token, .string l[j].name, .slice y1 l[j].args.length x1, .int .i64 l[j].how, .slice y2 l[j].reads.length x2, .slice y3 l[j].writes.length x3] ∧
    There w T y1 l[j].args.length 3 ∧ There w T y2 l[j].reads.length 1 ∧ There w T y3 l[j].writes.length 1

theorem Rest.tame {w w' : World} {T F : Nat → Prop} {a : Option Addr} {l : List Plan} {k : Nat} (h : Rest w T F a l k) (t : Tame T w w') : Rest w' T F a l k := by
  intro j hk hj
  obtain ⟨b, off, x1, y1, x2, y2, x3, y3, h1, h2, h3, h4, h5, h6, h7, h8⟩ := h j hk hj
  exact ⟨b, off, x1, y1, x2, y2, x3, y3, h1, Nat.lt_of_lt_of_le h2 t.keep.size, h3, h4, h5.agree (t.keep.block b h2 h4), h6.tame t, h7.tame t, h8.tame t⟩
theorem Rest.next {w : World} {T F : Nat → Prop} {a : Option Addr} {l : List Plan} {k : Nat} (h : Rest w T F a l k) : Rest w T F a l (k + 1) := fun j hk hj => h j (by omega) hj
theorem Rest.set {w : World} {T F : Nat → Prop} {b off o : Nat} {l : List Plan} {k : Nat} (h : Rest w T F (some ⟨b, off, none⟩) l (k + 1)) (ho : o < off + (k + 1) * 7) (v : Value) (hF : F b) : Rest (w.setCell ⟨b, o, none⟩ v) T F (some ⟨b, off, none⟩) l (k + 1) := by
  intro j hk hj
  obtain ⟨b', off', x1, y1, x2, y2, x3, y3, h1, h2, h3, h4, h5, h6, h7, h8⟩ := h j hk hj
  cases h1
  have t := Tame.set w b o v hF
  have hm : (k + 1) * 7 ≤ j * 7 := Nat.mul_le_mul_right _ hk
  refine ⟨b, off, x1, y1, x2, y2, x3, y3, rfl, by simpa using h2, h3, h4, fun i hi => ?_, h6.tame t, h7.tame t, h8.tame t⟩
  rw [World.cell?_setCell_other _ _ _ _ (by intro e; cases e; omega), World.frozen?_setCell]
  exact h5 i hi

theorem Rest.ofOwn {w : World} {F : Nat → Prop} {a : Option Addr} {c : Nat} {l : List Plan} (h : Own planSh 37 w F (.slice a l.length c) l) : ∃ T, Rest w T F a l 0 ∧ ∀ k, T k → F k := by
  obtain ⟨g, rows, T, h1, h2, h3, h4, h5⟩ := h
  refine ⟨T, fun j _ hj => ?_, h5⟩
  obtain ⟨b, off, cap, hg, hv, hr⟩ := h1.at j (by omega)
  simp only [Value.slice.injEq] at hv
  have hx := h3 j (by omega) hj
  obtain ⟨y1, x1, y2, x2, y3, x3, he, p1, p2, p3, -⟩ := plan_cells hx
  exact ⟨b, off, x1, y1, x2, y2, x3, y3, hv.1, h1.lt hg, (h4 b hg).1, (h4 b hg).2, by rw [← he]; exact hr, Rd.there p1, Rd.there p2, Rd.there p3⟩

set_option maxHeartbeats 2000000 in
theorem does_none (w0 w : World) (B C n : Nat) (st : CutSt) (h : Pair w0 w B C st n) (hn : n ≤ 1000000) (hl : st.closed = []) (a1 a2 a3 : Option Addr) (x1 x2 x4 : Int) (x3 : ByteArray) (n1 n2 n3 c1 c2 c3 : Nat) :
    Calls Try.prog 16 #[.pointer (some ⟨B, 0, none⟩), .pointer (some ⟨C, 0, none⟩), .agg #[.int .i64 4, .int .i64 x1, .int .u64 x2, .string x3, .slice a1 n1 c1, .int .i64 x4, .slice a2 n2 c2, .slice a3 n3 c3]] w (Does w0 B C n) := by
  obtain ⟨S, T, h1, h2, h3, h4, h5, h6, h7, h8⟩ := h
  have k0 : Keep No w (w.alloc (.cells #[.int .i64 4, .int .i64 x1, .int .u64 x2, .string x3, .slice a1 n1 c1, .int .i64 x4, .slice a2 n2 c2, .slice a3 n3 c3] 47)) := (Keep.refl _ _).alloc _
  go_enter Try.func16, Try.ntmps16
  go_wp2_with fail
  refine (take_none _ B S st (h1.agree k0.agreeNo k0.size) hl).mono ?_
  rintro e w1 ⟨rfl, k1⟩
  have K1 := (k0.thenNo k1).alloc (.cells #[.int .i64 0, .slice none 0 0] 53)
  go_wp2_with fail
  refine (ref_take_none _ C T st (h2.agree K1.agreeNo K1.size) hl).mono ?_
  rintro e w2 ⟨rfl, k2⟩
  have K2 := (K1.thenNo k2).alloc (.cells #[.int .i64 0, .slice none 0 0] 53)
  have b1 := k2.blk (blk_new w1 _) (fun x => x)
  have hs2 := k2.size
  simp only [World.size_alloc] at hs2
  have c1' := blk_cell (blk_alloc (o' := .cells #[.int .i64 0, .slice none 0 0] 53) b1)
  have hq : w1.heap.size < w2.heap.size := by omega
  go_wp2_with fail
  refine (batches_eq _ No No 0 none none 0 0 [] rd_nil rd_nil (Nat.zero_le _) (fun _ h => by cases h)).mono ?_
  rintro e w3 ⟨rfl, k3⟩
  have K3 := K2.thenNo k3
  have b3 := k3.blk (blk_alloc b1) (fun x => x)
  have c3' := blk_cell b3
  clear c1'
  go_wp2_with fail
  go_loopw [14] (fun i wr => i = .int .i64 0 ∧ wr = w3) (fun i _ => 0)
  case atStart => exact ⟨rfl, rfl⟩
  case round =>
    obtain ⟨rfl, rfl⟩ := hrel
    go_wp2_with fail
    go_ret
    exact ⟨rfl, st, S, T, h1.agree K3.agreeNo K3.size, h2.agree K3.agreeNo K3.size, h3, h4, h5, h6.thenNo K3, h7, h8⟩

set_option maxHeartbeats 2000000 in
theorem does_some (w0 w : World) (B C n : Nat) (st : CutSt) (h : Pair w0 w B C st n) (hn : n ≤ 1000000) (x : Int × List Plan) (l : List (Int × List Plan)) (hl : st.closed = x :: l) (a1 a2 a3 : Option Addr) (x1 x2 x4 : Int) (x3 : ByteArray) (n1 n2 n3 c1 c2 c3 : Nat) :
    Calls Try.prog 16 #[.pointer (some ⟨B, 0, none⟩), .pointer (some ⟨C, 0, none⟩), .agg #[.int .i64 4, .int .i64 x1, .int .u64 x2, .string x3, .slice a1 n1 c1, .int .i64 x4, .slice a2 n2 c2, .slice a3 n3 c3]] w (Does w0 B C n) := by
  obtain ⟨S, T, h1, h2, h3, h4, h5, h6, h7, h8⟩ := h
  have k0 : Keep No w (w.alloc (.cells #[.int .i64 4, .int .i64 x1, .int .u64 x2, .string x3, .slice a1 n1 c1, .int .i64 x4, .slice a2 n2 c2, .slice a3 n3 c3] 47)) := (Keep.refl _ _).alloc _
  obtain ⟨hxl, hxs⟩ := h8.2 x (by rw [hl]; exact List.mem_cons_self ..)
  have l1 := h1.live
  go_enter Try.func16, Try.ntmps16
  go_wp2_with fail
  refine (take_some _ B S st x l (h1.agree k0.agreeNo k0.size) hl).mono ?_
  rintro e w1 ⟨v, F, S1, rfl, own, q1, hF, hS1, k1⟩
  obtain ⟨a, c, rfl, -⟩ := own.form
  have K1 : Keep S w (w1.alloc (.cells #[.int .i64 x.1, .slice a x.2.length c] 53)) := ((k0.mono fun _ _ h => h.elim).trans k1).alloc _
  go_wp2_with fail
  refine (ref_take_some _ C T st x l (h2.agree (K1.agree fun k _ ht hs => h5 k hs ht) K1.size) hl).mono ?_
  rintro e w2 ⟨v2, F2, T1, rfl, own2, t1, hF2, hT1, k2⟩
  obtain ⟨aa, cc, rfl, -⟩ := own2.form
  have k2' : Keep T w1 (w2.alloc (.cells #[.int .i64 x.1, .slice aa x.2.length cc] 53)) := (((Keep.refl T w1).alloc _).trans k2).alloc _
  have K2 : Keep (fun k => S k ∨ T k) w (w2.alloc (.cells #[.int .i64 x.1, .slice aa x.2.length cc] 53)) := ((K1.mono fun _ _ h => .inl h).then k2 fun _ _ h => .inr h).alloc _
  have own' : Own planSh 37 (w2.alloc (.cells #[.int .i64 x.1, .slice aa x.2.length cc] 53)) F (.slice a x.2.length c) x.2 := own.agree (k2'.agree fun k _ hf ht => h5 k (hF k hf).1 ht)
  have q2 : CutAt (w2.alloc (.cells #[.int .i64 x.1, .slice aa x.2.length cc] 53)) B S1 st.take := q1.agree (k2'.agree fun k _ hs ht => h5 k (hS1 k hs) ht) k2'.size
  have t2 : RefAt (w2.alloc (.cells #[.int .i64 x.1, .slice aa x.2.length cc] 53)) C T1 st.take := t1.agree ((Keep.refl No w2).alloc _).agreeNo (by simp)
  have own2' := own2.agree (((Keep.refl No w2).alloc (.cells #[.int .i64 x.1, .slice aa x.2.length cc] 53)).agreeNo)
  have l2 := h2.live
  have hs1 := K1.size
  have hs0 := k1.size
  have hs2 := k2.size
  simp only [World.size_alloc] at hs1 hs2 hs0
  have b1 := blk_alloc (o' := .cells #[.int .i64 x.1, .slice aa x.2.length cc] 53) (k2.blk (blk_new w1 _) (fun h => by have := l2 _ h; omega))
  have c1' := blk_cell b1
  have c2' := blk_cell (blk_new w2 (.cells #[.int .i64 x.1, .slice aa x.2.length cc] 53))
  go_wp2_with fail
  refine (batches_eq _ F F2 x.1 a aa c cc x.2 own'.rd own2'.rd (by omega) hxs).mono ?_
  rintro e w3 ⟨rfl, k3⟩
  have own3 := own'.agree k3.agreeNo
  have q3 := q2.agree k3.agreeNo k3.size
  have t3 := t2.agree k3.agreeNo k3.size
  have b3 := k3.blk b1 (fun x => x)
  have K3 := K2.thenNo k3
  obtain ⟨R, hR, hRF⟩ := Rest.ofOwn own3
  have hs3 := k3.size
  simp only [World.size_alloc] at hs3
  clear own own' own2 own2' q1 q2 t1 t2 c1' c2' k2' K1 K2
  go_wp2_with fail
  go_loopw [14] (fun i wr => ∃ k : Nat, k ≤ x.2.length ∧ i = .int .i64 k ∧ Tame F w3 wr ∧ Rest wr R F a x.2 k) (fun i _ => x.2.length - (intOf i).toNat)
  case atStart => exact ⟨0, Nat.zero_le _, rfl, Tame.refl _ _, hR⟩
  case round =>
    obtain ⟨k, hk, rfl, tw, hrest⟩ := hrel
    have hFl : ∀ k, F k → k < w.heap.size := fun k hk => l1 k (hF k hk).1
    have b4 := tw.keep.blk b3 (fun h => by have := hFl _ h; omega)
    have c4 := blk_cell b4
    by_cases hlt : k < x.2.length
    · obtain ⟨b, off, y1, z1, y2, z2, y3, z3, rfl, g1, g2, g3, g4, g5, g6, g7⟩ := hrest k (Nat.le_refl _) hlt
      have p0 := (g4 0 (by simp)).1
      have p1 := (g4 1 (by simp)).1
      have p2 := (g4 2 (by simp)).1
      have p3 := (g4 3 (by simp)).1
      have p4 := (g4 4 (by simp)).1
      have p5 := (g4 5 (by simp)).1
      have p6 := (g4 6 (by simp)).1
      simp at p0 p1 p2 p3 p4 p5 p6
      have j0 : (0 : Int) ≤ (k : Int) := by omega
      have j1 : (k : Int) < (x.2.length : Int) := by omega
      obtain ⟨m1, m2, m3⟩ := hxs x.2[k] (List.getElem_mem _)
      have hsz := tw.keep.size
      go_wp2_with fail
      refine (spoil_th wr R _ _ _ _ z1 z2 z3 _ _ _ y1 y2 y3 g5 g6 g7 (fun k hk => by have := hFl k (hRF k hk); omega) m1 m2 m3).mono ?_
      rintro e w4 ⟨rfl, tm⟩
      have g8 := g4.agree (tm.keep.block b g1 g3)
      have b5 := tm.keep.blk b4 (fun h => by have := hFl _ (hRF _ h); omega)
      have c5 := blk_cell b5
      have f0 := (g8 0 (by simp)).2
      have f1 := (g8 1 (by simp)).2
      have f2 := (g8 2 (by simp)).2
      have f3 := (g8 3 (by simp)).2
      have f4 := (g8 4 (by simp)).2
      have f5 := (g8 5 (by simp)).2
      have f6 := (g8 6 (by simp)).2
      have r0 := (g8 0 (by simp)).1
      have r1 := (g8 1 (by simp)).1
      have r2 := (g8 2 (by simp)).1
      have r3 := (g8 3 (by simp)).1
      have r4 := (g8 4 (by simp)).1
      have r5 := (g8 5 (by simp)).1
      have r6 := (g8 6 (by simp)).1
      simp at f0 f1 f2 f3 f4 f5 f6 r0 r1 r2 r3 r4 r5 r6
      clear p0 p1 p2 p3 p4 p5 p6 c4 g4 g5 g6 g7 g8
      go_wp2_with fail
      go_roundw
      case rel =>
        exact ⟨k + 1, by omega, by go_num, (tw.trans (tm.mono hRF)).trans (((((((Tame.set _ _ _ _ g2).trans (Tame.set _ _ _ _ g2)).trans (Tame.set _ _ _ _ g2)).trans (Tame.set _ _ _ _ g2)).trans (Tame.set _ _ _ _ g2)).trans (Tame.set _ _ _ _ g2)).trans (Tame.set _ _ _ _ g2)),
          (((((((hrest.next.tame tm).set (by omega) _ g2).set (by omega) _ g2).set (by omega) _ g2).set (by omega) _ g2).set (by omega) _ g2).set (by omega) _ g2).set (by omega) _ g2⟩
      case measure => simp [intOf]; omega
    · go_wp2_with fail
      go_ret
      refine ⟨rfl, st.take, S1, T1, q3.agree (tw.keep.agree fun k _ hs hf => (hF k hf).2 hs) tw.keep.size, t3.agree (tw.keep.agree fun k _ ht hf => h5 k (hF k hf).1 (hT1 k ht)) tw.keep.size, fun k hk => h3 k (hS1 k hk), fun k hk => h4 k (hT1 k hk), fun k hs ht => h5 k (hS1 k hs) (hT1 k ht), ?_, ok_take h7, sm_take h8⟩
      exact (h6.then K3 fun k hk h => h.elim (fun h => by have := h3 k h; omega) (fun h => by have := h4 k h; omega)).then tw.keep fun k hk h => by have := h3 k (hF k h).1; omega

theorem Does.mono {w0 : World} {B C n : Nat} {e : Ending} {w' : World} (h : Does w0 B C n e w') : Does w0 B C (n + 1) e w' := by
  obtain ⟨h0, st, S, T, h1, h2, h3, h4, h5, h6, h7, h8⟩ := h
  exact ⟨h0, st, S, T, h1, h2, h3, h4, h5, h6, ok_mono h7 (Nat.le_succ n), sm_mono h8 (Nat.le_succ n)⟩

theorem does_any (w0 w : World) (B C n : Nat) (st : CutSt) (h : Pair w0 w B C st n) (hn : n ≤ 1000000) (U : Nat → Prop) (hU : ∀ k, U k → k < w0.heap.size) (cs : List Value) (x : Act') (hx : Rd actSh w U cs x) (hs : x.plan.Small) :
    Calls Try.prog 16 #[.pointer (some ⟨B, 0, none⟩), .pointer (some ⟨C, 0, none⟩), .agg cs.toArray] w (Does w0 B C (n + 1)) := by
  obtain ⟨ps, rfl, hp, -⟩ := act_cells hx
  by_cases e1 : x.kind = 1
  · rw [e1]
    exact does_add w0 w B C n st h hn U ps x.plan hp hs hU
  obtain ⟨a1, c1, a2, c2, a3, c3, rfl, -⟩ := plan_cells hp
  by_cases e2 : x.kind = 2
  · rw [e2]
    exact does_tick w0 w B C n st h hn a1 a2 a3 _ _ _ _ _ _ _ c1 c2 c3
  by_cases e3 : x.kind = 3
  · rw [e3]
    exact does_cut w0 w B C n st h hn a1 a2 a3 _ _ _ _ _ _ _ c1 c2 c3
  by_cases e4 : x.kind = 4
  · rw [e4]
    rcases hc : st.closed with _ | ⟨y, l⟩
    · exact (does_none w0 w B C n st h hn hc a1 a2 a3 _ _ _ _ _ _ _ c1 c2 c3).mono fun _ _ h => h.mono
    · exact (does_some w0 w B C n st h hn y l hc a1 a2 a3 _ _ _ _ _ _ _ c1 c2 c3).mono fun _ _ h => h.mono
  exact (does_ask w0 w B C n st h hn x.kind e1 e2 e3 e4 a1 a2 a3 _ _ _ _ _ _ _ c1 c2 c3).mono fun _ _ h => h.mono

end Go.Proofs.Ytjillekahongeaa
