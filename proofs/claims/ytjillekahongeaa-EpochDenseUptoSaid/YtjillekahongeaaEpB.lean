/-
  The two cutters' states, how they lie in memory, and close.
-/
import Derived.Test.YtjillekahongeaaEpA
import Derived.Test.YtjillekahongeaaCanon
namespace Go.Proofs.Ytjillekahongeaa
open Go Go.RowKit Go.Deep
set_option linter.unusedVariables false

/-- Things that lie apart from one another. -/
def Seps {α : Type} (R : (Nat → Prop) → List Value → α → Prop) : (Nat → Prop) → List (List Value) → List α → Prop
  | _, [], [] => True
  | S, r :: rs, x :: xs => ∃ F G, R F r x ∧ Seps R G rs xs ∧ (∀ k, F k → S k) ∧ (∀ k, G k → S k) ∧ (∀ k, F k → ¬ G k)
  | _, _, _ => False

theorem Seps.length {α : Type} {R : (Nat → Prop) → List Value → α → Prop} : ∀ {S : Nat → Prop} {rs : List (List Value)} {xs : List α}, Seps R S rs xs → rs.length = xs.length
  | _, [], [], _ => rfl
  | _, r :: rs, x :: xs, ⟨_, _, _, h, _⟩ => by rw [List.length_cons, List.length_cons, Seps.length h]
  | _, [], _ :: _, h => h.elim
  | _, _ :: _, [], h => h.elim

theorem Seps.map {α : Type} {R R' : (Nat → Prop) → List Value → α → Prop} : ∀ {S : Nat → Prop} {rs : List (List Value)} {xs : List α}, Seps R S rs xs → (∀ F r x, (∀ k, F k → S k) → R F r x → R' F r x) → Seps R' S rs xs
  | _, [], [], _, _ => trivial
  | _, r :: rs, x :: xs, ⟨F, G, h1, h2, h3, h4, h5⟩, hm => ⟨F, G, hm F r x h3 h1, Seps.map h2 (fun F' r' x' hs => hm F' r' x' (fun k hk => h4 k (hs k hk))), h3, h4, h5⟩
  | _, [], _ :: _, h, _ => h.elim
  | _, _ :: _, [], h, _ => h.elim

theorem Seps.mono {α : Type} {R : (Nat → Prop) → List Value → α → Prop} {S T : Nat → Prop} {rs : List (List Value)} {xs : List α} (h : Seps R S rs xs) (hs : ∀ k, S k → T k) : Seps R T rs xs := by
  match rs, xs, h with
  | [], [], _ => trivial
  | r :: rs, x :: xs, ⟨F, G, h1, h2, h3, h4, h5⟩ => exact ⟨F, G, h1, h2, fun k hk => hs k (h3 k hk), fun k hk => hs k (h4 k hk), h5⟩

theorem Seps.snoc {α : Type} {R : (Nat → Prop) → List Value → α → Prop} {F : Nat → Prop} {r : List Value} {x : α} (hr : R F r x) : ∀ {S : Nat → Prop} {rs : List (List Value)} {xs : List α}, Seps R S rs xs → (∀ k, F k → ¬ S k) → Seps R (fun k => S k ∨ F k) (rs ++ [r]) (xs ++ [x])
  | S, [], [], _, _ => ⟨F, No, hr, trivial, fun k hk => .inr hk, fun _ h => h.elim, fun _ _ h => h⟩
  | S, r' :: rs, x' :: xs, ⟨F', G', h1, h2, h3, h4, h5⟩, hd =>
    ⟨F', fun k => G' k ∨ F k, h1, Seps.snoc hr h2 (fun k hk hg => hd k hk (h4 k hg)), fun k hk => .inl (h3 k hk), fun k hk => hk.elim (fun h => .inl (h4 k h)) .inr, fun k hk hg => hg.elim (h5 k hk) (fun hf => hd k hf (h3 k hk))⟩
  | _, [], _ :: _, h, _ => h.elim
  | _, _ :: _, [], h, _ => h.elim

structure CutSt where
  most : Int
  limit : Int
  number : Int
  age : Int
  opens : List Plan
  closed : List (Int × List Plan)

/-- a closed epoch, in lists of its own -/
def BatchAt (w : World) (F : Nat → Prop) (r : List Value) (x : Int × List Plan) : Prop :=
  ∃ v, r = [.int .i64 x.1, v] ∧ Own planSh 37 w F v x.2 ∧ (Lit.int .i64 x.1).wf = true

theorem BatchAt.agree {w w' : World} {F : Nat → Prop} {r : List Value} {x : Int × List Plan} (h : BatchAt w F r x) (k : Agree F w w') : BatchAt w' F r x := by
  obtain ⟨v, h1, h2, h3⟩ := h
  exact ⟨v, h1, h2.agree k, h3⟩

/-- the closed epochs' list -/
def Closed (w : World) (S : Nat → Prop) (v : Value) (l : List (Int × List Plan)) : Prop :=
  ∃ (g : Option Nat) (rows : List (List Value)) (T : Nat → Prop), OwnRows w 53 2 v g rows ∧ Seps (BatchAt w) T rows l ∧ (∀ b, g = some b → S b ∧ ¬ T b) ∧ (∀ k, T k → S k)

theorem Closed.agree {w w' : World} {S : Nat → Prop} {v : Value} {l : List (Int × List Plan)} (h : Closed w S v l) (k : Agree S w w') : Closed w' S v l := by
  obtain ⟨g, rows, T, h1, h2, h3, h4⟩ := h
  exact ⟨g, rows, T, h1.agree fun b hb => k b (h1.lt hb) (h3 b hb).1, h2.map fun F r x hF hR => hR.agree (k.mono fun j hj => h4 j (hF j hj)), h3, h4⟩
theorem Closed.form {w : World} {S : Nat → Prop} {v : Value} {l : List (Int × List Plan)} (h : Closed w S v l) : ∃ a c, v = .slice a l.length c ∧ l.length ≤ c := by
  obtain ⟨g, rows, T, h1, h2, _⟩ := h
  obtain ⟨a, c, rfl, h3, _⟩ := h1.form
  exact ⟨a, c, by rw [h2.length], by rw [← h2.length]; exact h3⟩

/-- the program's cutter at block B: B, the open plans and the closed epochs in S -/
def CutAt (w : World) (B : Nat) (S : Nat → Prop) (st : CutSt) : Prop :=
  ∃ (ov cv : Value) (SO SC : Nat → Prop),
    w.heap[B]? = some (.cells #[.int .i64 st.most, .int .i64 st.limit, .int .i64 st.number, ov, .int .i64 st.age, cv] 59 (0, 0)) ∧
    Own planSh 37 w SO ov st.opens ∧ Closed w SC cv st.closed ∧ S B ∧ (∀ k, SO k → S k ∧ k ≠ B ∧ ¬ SC k) ∧ (∀ k, SC k → S k ∧ k ≠ B) ∧ (Lit.int .i64 st.number).wf = true ∧ (∀ k, S k → k < w.heap.size)

theorem CutAt.agree {w w' : World} {B : Nat} {S : Nat → Prop} {st : CutSt} (h : CutAt w B S st) (k : Agree S w w') (hs : w.heap.size ≤ w'.heap.size) : CutAt w' B S st := by
  obtain ⟨ov, cv, SO, SC, h1, h2, h3, h4, h5, h6, h7, h8⟩ := h
  exact ⟨ov, cv, SO, SC, (k B (blk_lt h1) h4).trans h1, h2.agree (k.mono fun j hj => (h5 j hj).1), h3.agree (k.mono fun j hj => (h6 j hj).1), h4, h5, h6, h7, fun j hj => Nat.lt_of_lt_of_le (h8 j hj) hs⟩

/-- the document's cutter -/
def RefAt (w : World) (B : Nat) (S : Nat → Prop) (st : CutSt) : Prop :=
  ∃ (ov cv : Value) (SO SC : Nat → Prop),
    w.heap[B]? = some (.cells #[.int .i64 st.most, .int .i64 st.limit, .int .i64 st.number, .int .i64 st.age, ov, cv] 62 (0, 0)) ∧
    Own planSh 37 w SO ov st.opens ∧ Closed w SC cv st.closed ∧ S B ∧ (∀ k, SO k → S k ∧ k ≠ B ∧ ¬ SC k) ∧ (∀ k, SC k → S k ∧ k ≠ B) ∧ (Lit.int .i64 st.number).wf = true ∧ (∀ k, S k → k < w.heap.size)

theorem RefAt.agree {w w' : World} {B : Nat} {S : Nat → Prop} {st : CutSt} (h : RefAt w B S st) (k : Agree S w w') (hs : w.heap.size ≤ w'.heap.size) : RefAt w' B S st := by
  obtain ⟨ov, cv, SO, SC, h1, h2, h3, h4, h5, h6, h7, h8⟩ := h
  exact ⟨ov, cv, SO, SC, (k B (blk_lt h1) h4).trans h1, h2.agree (k.mono fun j hj => (h5 j hj).1), h3.agree (k.mono fun j hj => (h6 j hj).1), h4, h5, h6, h7, fun j hj => Nat.lt_of_lt_of_le (h8 j hj) hs⟩

def CutSt.close (s : CutSt) : CutSt := { s with number := s.number + 1, age := 0, opens := [], closed := s.closed ++ [(s.number, s.opens)] }

theorem Try.infoBatch : (Try.prog.info? 53).map (fun i => (i.zero, i.size, i.bytes)) = some (some (.agg #[.int .i64 0, .slice none 0 0]), 2, 32) := by kernel_rfl
theorem Try.infoPlan : (Try.prog.info? 37).map (fun i => (i.zero, i.size, i.bytes)) = some (some (.agg #[.int .i64 0, .int .u64 0, .string ⟨#[]⟩, .slice none 0 0, .int .i64 0, .slice none 0 0, .slice none 0 0]), 7, 112) := by kernel_rfl

/-- what a step on a cutter leaves -/
def Stepped (At : World → Nat → (Nat → Prop) → CutSt → Prop) (w : World) (B : Nat) (S : Nat → Prop) (st : CutSt) (r : Value) (e : Ending) (w' : World) : Prop :=
  e = .returned r ∧ ∃ S' : Nat → Prop, At w' B S' st ∧ (∀ k, S' k → S k ∨ w.heap.size ≤ k) ∧ Keep S w w'

theorem close_fin {w w1 W : World} {B : Nat} {S : Nat → Prop} {st : CutSt} {SO SC T : Nat → Prop} {a1 : Option Addr} {k1 : Nat} {g g' : Option Nat} {rows : List (List Value)} {v : Value}
    (h2 : Own planSh 37 w SO (.slice a1 st.opens.length k1) st.opens) (h4 : Seps (BatchAt w) T rows st.closed) (h5 : ∀ b, g = some b → SC b ∧ ¬ T b) (h6 : ∀ k, T k → SC k) (h7 : S B)
    (h8 : ∀ k, SO k → S k ∧ k ≠ B ∧ ¬ SC k) (h9 : ∀ k, SC k → S k ∧ k ≠ B) (h10 : (Lit.int .i64 st.number).wf = true) (h11 : ∀ k, S k → k < w.heap.size)
    (ho : OwnRows w1 53 2 v g' (rows ++ [[.int .i64 st.number, .slice a1 st.opens.length k1]])) (hg' : g' = g ∨ g' = some (w.heap.size + 1)) (hk : Keep (fun k => g = some k) w w1) (hkW : Keep (One B) w1 W)
    (hz : (Lit.int .i64 (st.number + 1)).wf = true) :
    Closed W (fun k => SC k ∨ SO k ∨ (w.heap.size ≤ k ∧ k < w1.heap.size)) v (st.closed ++ [(st.number, st.opens)]) ∧ Keep S w W := by
  have hB : B < w.heap.size := h11 B h7
  have kw : Keep (fun k => g = some k ∨ k = B) w W := (hk.mono fun _ _ h => .inl h).then hkW fun _ _ h => .inr h
  have agT : Agree T w W := kw.agree fun k _ hT h => h.elim (fun e => (h5 k e).2 hT) (fun e => (h9 k (h6 k hT)).2 e)
  have agO : Agree SO w W := kw.agree fun k _ hO h => h.elim (fun e => (h8 k hO).2.2 (h5 k e).1) (fun e => (h8 k hO).2.1 e)
  refine ⟨⟨g', rows ++ [[.int .i64 st.number, .slice a1 st.opens.length k1]], fun k => T k ∨ SO k, ?_, ?_, fun b hb => ?_, fun k hk => hk.elim (fun h => .inl (h6 k h)) (fun h => .inr (.inl h))⟩, kw.mono fun k _ h => h.elim (fun e => (h9 k (h5 k e).1).1) (fun e => e ▸ h7)⟩
  · refine ho.agree fun b hb => hkW.block b (ho.lt hb) (fun e => ?_)
    rcases hg' with rfl | rfl
    · exact (h9 b (h5 b hb).1).2 e
    · have : b = B := e
      cases hb
      omega
  · refine Seps.snoc (F := SO) ⟨_, rfl, h2.agree agO, h10⟩ (h4.map fun F r x hF hR => hR.agree (agT.mono hF)) fun k hO hT => (h8 k hO).2.2 (h6 k hT)
  · have hlt := ho.lt hb
    rcases hg' with rfl | rfl
    · exact ⟨.inl (h5 b hb).1, fun h => h.elim (h5 b hb).2 (fun h => (h8 b h).2.2 (h5 b hb).1)⟩
    · cases hb
      exact ⟨.inr (.inr ⟨by omega, hlt⟩), fun h => h.elim (fun h => by have := h11 _ (h9 _ (h6 _ h)).1; omega) (fun h => by have := h11 _ (h8 _ h).1; omega)⟩

set_option maxHeartbeats 1000000 in
theorem close_any (w : World) (B : Nat) (S : Nat → Prop) (st : CutSt) (h : CutAt w B S st) (hn0 : 0 ≤ st.number) (hn : st.number ≤ 1000000000) (hl : st.closed.length ≤ 1048576) :
    Calls Try.prog 21 #[.pointer (some ⟨B, 0, none⟩)] w (Stepped CutAt w B S st.close (.tuple #[])) := by
  obtain ⟨ov, cv, SO, SC, h1, h2, ⟨g, rows, T, h3, h4, h5, h6⟩, h7, h8, h9, h10, h11⟩ := h
  obtain ⟨a1, k1, rfl, _⟩ := h2.form
  obtain ⟨a2, k2, rfl, _⟩ := h3.form
  have hB := blk_lt h1
  obtain ⟨i0, hi, hz0, hz1, hz2⟩ := info_parts Try.infoBatch
  have hrl : rows.length = st.closed.length := h4.length
  -- the append, ahead of the walk
  have h3' : OwnRows ((w.alloc (.cells #[.int .i64 st.number, .slice a1 st.opens.length k1] 53)).drew) 53 2 (.slice a2 rows.length k2) g rows :=
    h3.agree fun b hb => Below.heap_alloc w _ b (h3.lt hb)
  have hsrc : Src Try.prog 2 57 (.slice (some ⟨w.heap.size, 0, none⟩) 1 1) [[Value.int .i64 st.number, .slice a1 st.opens.length k1]].length [[Value.int .i64 st.number, .slice a1 st.opens.length k1]].flatten ((w.alloc (.cells #[.int .i64 st.number, .slice a1 st.opens.length k1] 53)).drew) :=
    Src.ofBlock Try.underlying57 w.heap.size 1 1 #[Value.int .i64 st.number, .slice a1 st.opens.length k1] 53 (0, 0) (blk_new w _) rfl (by intro u hu; simp at hu; rcases hu with rfl | rfl <;> rfl)
  obtain ⟨a3, k3, w1, g', hrun, ho, hg', hk, hs⟩ := own_append h3' 57 57 57 i0 _ 32 Try.underlying57 hi hz0 hz1 hz2 rfl hsrc (by simp) (by simp; omega) (by simp; omega)
  have c0 := blk_cell h1
  have f0 := blk_fro h1
  have hgB : ∀ b, g = some b → b ≠ B := fun b hb => (h9 b (h5 b hb).1).2
  have b1 : w1.heap[B]? = some (.cells #[.int .i64 st.most, .int .i64 st.limit, .int .i64 st.number, .slice a1 st.opens.length k1, .int .i64 st.age, .slice a2 rows.length k2] 59 (0, 0)) := hk.blk (blk_alloc h1) (fun e => hgB B e rfl)
  have c1 := blk_cell b1
  have f1 := blk_fro b1
  have HL := Lib.hid hrl
  clear hrl
  go_enter Try.func21, Try.ntmps21
  go_wp2_with fail
  refine wp_region_can [0, 1, 2, 3, 4, 5, 6, 7, 8, 9, 10, 11, 12, 13, 14, 15, 16, 17, 18] [14, 15, 18] [(0, 14), (1, 14), (2, 14), (3, 14), (4, 14), (0, 15)] (by kernel_rfl) (by kernel_rfl) (by kernel_rfl) (by kernel_rfl) (by intro c a d v w h; cases d <;> exact h) ?_
  repeat (refine can_sil rfl rfl (fun K hK => ?_); go_simp; refine hK _ ?_; clear hK K)
  refine can_loud [0, 1, 2, 3, 4] rfl rfl rfl (fun K hK => ?_)
  go_wp2_with fail
  refine Mid.normal (hK _ _ ?_ ?_)
  · simp only [List.forall_mem_cons]
    refine ⟨?_, ?_, ?_, ?_, ?_, fun _ h => by cases h⟩ <;> exact stab_of rfl (fun K hK => by go_simp; exact hK)
  clear hK K
  refine can_loud [0] rfl rfl rfl (fun K hK => ?_)
  refine wpList_app rfl (.tmp 6) (.tmp 16) 57 57 rfl rfl rfl hrun ?_
  go_wp2_with fail
  refine Mid.normal (hK _ _ ?_ ?_)
  · simp only [List.forall_mem_cons]
    refine ⟨?_, fun _ h => by cases h⟩ <;> exact stab_of rfl (fun K hK => by go_simp; exact hK)
  clear hK K
  repeat (refine can_sil rfl rfl (fun K hK => ?_); go_simp; refine hK _ ?_; clear hK K)
  refine can_loud [] rfl rfl rfl (fun K hK => ?_)
  go_wp2_with fail
  refine Mid.normal (hK _ _ stabs_nil ?_)
  clear hK K
  refine can_nil ?_
  go_wp2_with fail
  go_end0
  have kW : Keep (One B) w1 ((((w1.setCell ⟨B, 5, none⟩ (Value.slice a3 (rows.length + 1) k3)).setCell ⟨B, 2, none⟩ (.int .i64 (st.number + 1))).setCell ⟨B, 3, none⟩ (.slice none 0 0)).setCell ⟨B, 4, none⟩ (.int .i64 0)) :=
    (((keep_set _ _ _ _).trans (keep_set _ _ _ _)).trans (keep_set _ _ _ _)).trans (keep_set _ _ _ _)
  have b2 := blk_set (blk_set (blk_set (blk_set b1 5 (.slice a3 (rows.length + 1) k3)) 2 (.int .i64 (st.number + 1))) 3 (.slice none 0 0)) 4 (.int .i64 0)
  have hwf : (Lit.int .i64 (st.number + 1)).wf = true := by simp [Lit.wf, IntKind.min, IntKind.max, IntKind.signed, IntKind.bits]; omega
  have hsz := kW.size
  have hsz2 := hk.size
  simp only [World.size_drew, World.size_alloc, List.length_singleton] at hg' hsz2 ho
  obtain ⟨hcl, hkS⟩ := close_fin h2 h4 h5 h6 h7 h8 h9 h10 h11 ho hg' (((Keep.refl _ w).alloc _).drew.trans hk) kW hwf
  generalize ((((w1.setCell ⟨B, 5, none⟩ (Value.slice a3 (rows.length + 1) k3)).setCell ⟨B, 2, none⟩ (.int .i64 (st.number + 1))).setCell ⟨B, 3, none⟩ (.slice none 0 0)).setCell ⟨B, 4, none⟩ (.int .i64 0)) = W at *
  refine ⟨rfl, fun k => S k ∨ (w.heap.size ≤ k ∧ k < w1.heap.size), ⟨_, _, No, _, by simpa [CutSt.close] using b2, Own.nil _ _ _ _, hcl, .inl h7, fun k h => h.elim, fun k h => ?_, hwf, fun k h => ?_⟩, fun k h => h.elim .inl (fun h => .inr h.1), hkS⟩
  · rcases h with h | h | h
    · exact ⟨.inl (h9 k h).1, (h9 k h).2⟩
    · exact ⟨.inl (h8 k h).1, (h8 k h).2.1⟩
    · exact ⟨.inr h, by omega⟩
  · rcases h with h | h
    · have := h11 k h; omega
    · omega
end Go.Proofs.Ytjillekahongeaa
