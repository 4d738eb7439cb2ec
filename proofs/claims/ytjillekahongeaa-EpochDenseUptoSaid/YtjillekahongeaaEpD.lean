/-
  What the program does to a cutter: Cut, Take, and what it tells.
-/
import Derived.Test.YtjillekahongeaaEpC
namespace Go.Proofs.Ytjillekahongeaa
open Go Go.RowKit Go.Deep
set_option linter.unusedVariables false

set_option maxHeartbeats 1000000 in
theorem cut_any (w : World) (B : Nat) (S : Nat → Prop) (st : CutSt) (n : Nat) (h : CutAt w B S st) (hk : st.Ok n) (hn : n ≤ 1000000) :
    Calls Try.prog 17 #[.pointer (some ⟨B, 0, none⟩)] w (Stepped CutAt w B S st.cut (.bool (!st.opens.isEmpty))) := by
  obtain ⟨k1, k2, k3, k4, k5, k6⟩ := hk
  have hn' : (n : Int) ≤ 1000000 := by omega
  have h0 := h
  obtain ⟨ov, cv, SO, SC, h1, h2, -⟩ := h
  obtain ⟨a1, d1, rfl, _⟩ := h2.form
  have c0 := blk_cell h1
  have f0 := blk_fro h1
  by_cases hl : st.opens = []
  · have e1 : st.opens.length = 0 := by rw [hl]; rfl
    have e2 : ((st.opens.length : Int) == 0) = true := by rw [e1]; rfl
    rw [e1] at c0
    have HL := Lib.hid hl
    clear hl h2 h1 e1 e2
    go_enter Try.func17, Try.ntmps17
    go_wp2
    go_ret
    refine ⟨by rw [HL.out]; rfl, S, ?_, fun k hk => .inl hk, Keep.refl _ _⟩
    simp only [CutSt.cut, if_pos HL.out]
    exact h0
  · have e1 : st.opens.isEmpty = false := by simpa using hl
    have e2 : ((st.opens.length : Int) == 0) = false := by simpa using hl
    have HL := Lib.hid hl
    clear hl
    go_enter Try.func17, Try.ntmps17
    go_wp2_with fail
    refine (close_any w B S st h0 k1 (by omega) (by omega)).mono ?_
    rintro e w1 ⟨rfl, S', hC, hS, hk⟩
    go_wp2
    go_ret
    refine ⟨by simp [e1], S', ?_, hS, hk⟩
    simp only [CutSt.cut, if_neg HL.out]
    exact hC

theorem now_any (w : World) (B : Nat) (S : Nat → Prop) (st : CutSt) (h : CutAt w B S st) :
    Calls Try.prog 13 #[.pointer (some ⟨B, 0, none⟩)] w fun e w' => e = .returned (.int .i64 st.number) ∧ w = w' := by
  obtain ⟨ov, cv, SO, SC, h1, -⟩ := h
  have c0 := blk_cell h1
  go_enter Try.func13, Try.ntmps13
  go_wp2
  go_ret
  exact ⟨rfl, rfl⟩

theorem open_any (w : World) (B : Nat) (S : Nat → Prop) (st : CutSt) (h : CutAt w B S st) :
    Calls Try.prog 18 #[.pointer (some ⟨B, 0, none⟩)] w fun e w' => e = .returned (.int .i64 st.opens.length) ∧ w = w' := by
  obtain ⟨ov, cv, SO, SC, h1, h2, -⟩ := h
  obtain ⟨a1, d1, rfl, _⟩ := h2.form
  have c0 := blk_cell h1
  go_enter Try.func18, Try.ntmps18
  go_wp2
  go_ret
  exact ⟨rfl, rfl⟩

theorem waiting_any (w : World) (B : Nat) (S : Nat → Prop) (st : CutSt) (h : CutAt w B S st) :
    Calls Try.prog 20 #[.pointer (some ⟨B, 0, none⟩)] w fun e w' => e = .returned (.int .i64 st.closed.length) ∧ w = w' := by
  obtain ⟨ov, cv, SO, SC, h1, h2, h3, -⟩ := h
  obtain ⟨a1, d1, rfl, _⟩ := h3.form
  have c0 := blk_cell h1
  go_enter Try.func20, Try.ntmps20
  go_wp2
  go_ret
  exact ⟨rfl, rfl⟩

/-- an epoch was handed out: nobody else's -/
def Took (At : World → Nat → (Nat → Prop) → CutSt → Prop) (w : World) (B : Nat) (S : Nat → Prop) (st : CutSt) (x : Int × List Plan) (e : Ending) (w' : World) : Prop :=
  ∃ (v : Value) (F S' : Nat → Prop), e = .returned (.tuple #[.agg #[.int .i64 x.1, v], .bool true]) ∧ Own planSh 37 w' F v x.2 ∧ At w' B S' st.take ∧ (∀ k, F k → S k ∧ ¬ S' k) ∧ (∀ k, S' k → S k) ∧ Keep S w w'

theorem take_none (w : World) (B : Nat) (S : Nat → Prop) (st : CutSt) (h : CutAt w B S st) (hl : st.closed = []) :
    Calls Try.prog 19 #[.pointer (some ⟨B, 0, none⟩)] w fun e w' => e = .returned (.tuple #[.agg #[.int .i64 0, .slice none 0 0], .bool false]) ∧ Keep No w w' := by
  obtain ⟨ov, cv, SO, SC, h1, h2, h3, -⟩ := h
  obtain ⟨a1, d1, rfl, _⟩ := h3.form
  have e1 : st.closed.length = 0 := by rw [hl]; rfl
  rw [e1] at h1
  have c0 := blk_cell h1
  have hB := blk_lt h1
  clear h3 h1 e1 hl
  go_enter Try.func19, Try.ntmps19
  go_wp2
  refine bodyPost_ret (v := .tuple #[.agg #[.int .i64 0, .slice none 0 0], .bool false]) (by simp [results, Try.results19, go_sem]) rfl ⟨rfl, ?_⟩
  first | exact (Keep.refl _ _).alloc _ | exact ((Keep.refl _ _).alloc _).drew

/-- the closed epochs' list, its first taken -/
theorem Closed.pop {w : World} {S : Nat → Prop} {v : Value} {x : Int × List Plan} {l : List (Int × List Plan)} (h : Closed w S v (x :: l)) :
    ∃ (b off n c : Nat) (pv : Value) (F G : Nat → Prop), v = .slice (some ⟨b, off, none⟩) (l.length + 1) c ∧ l.length + 1 ≤ c ∧ c ≤ maxLen ∧ S b ∧ RowAt w b off [.int .i64 x.1, pv] ∧ Own planSh 37 w F pv x.2 ∧ (∀ k, F k → S k ∧ ¬ G k) ∧ (∀ k, G k → S k) ∧
      Closed w G (if c = 1 then .slice (some ⟨b, off, none⟩) 0 0 else .slice (some ⟨b, off + 2, none⟩) l.length (c - 1)) l := by
  obtain ⟨g, rows, T, h1, h2, h3, h4⟩ := h
  match rows, h2 with
  | r :: rs, ⟨F, G, ⟨pv, hr, hp, hw⟩, hs, hF, hG, hd⟩ =>
    have hl : rs.length = l.length := hs.length
    subst hr
    obtain ⟨b, off, cap, hg, hv, hrow⟩ := h1.at 0 (by simp)
    subst hv
    subst hg
    obtain ⟨a, c', hf, f1, f2, _⟩ := h1.form
    simp only [Value.slice.injEq] at hf
    obtain ⟨_, _, rfl⟩ := hf
    have hb := h3 b rfl
    refine ⟨b, off, 0, cap, pv, F, fun k => G k ∨ k = b, by simp [hl], by simpa [hl] using f1, f2, hb.1, by simpa using hrow, hp, fun k hk => ⟨h4 k (hF k hk), fun h => h.elim (hd k hk) (fun e => hb.2 (e ▸ hF k hk))⟩, fun k hk => hk.elim (fun h => h4 k (hG k h)) (fun e => e ▸ hb.1), ?_⟩
    by_cases hc : cap = 1
    · subst hc
      obtain ⟨rfl, ht⟩ := h1.tailEnd
      have : l = [] := List.length_eq_zero_iff.1 (by simpa using hl.symm)
      subst this
      rw [if_pos rfl]
      exact ⟨some b, [], G, ht, hs, fun b' hb' => by cases hb'; exact ⟨.inr rfl, fun hg => hb.2 (hG _ hg)⟩, fun k hk => .inl hk⟩
    · have ht := h1.tail
      simp only [List.length_cons, Nat.add_sub_cancel, hl] at ht
      rw [if_neg hc]
      exact ⟨some b, rs, G, ht, hs, fun b' hb' => by cases hb'; exact ⟨.inr rfl, fun hg => hb.2 (hG _ hg)⟩, fun k hk => .inl hk⟩

set_option maxHeartbeats 1000000 in
theorem take_some (w : World) (B : Nat) (S : Nat → Prop) (st : CutSt) (x : Int × List Plan) (l : List (Int × List Plan)) (h : CutAt w B S st) (hl : st.closed = x :: l) :
    Calls Try.prog 19 #[.pointer (some ⟨B, 0, none⟩)] w (Took CutAt w B S st x) := by
  obtain ⟨ov, cv, SO, SC, h1, h2, h3, h4, h5, h6, h7, h8⟩ := h
  rw [hl] at h3
  obtain ⟨b, off, _, c, pv, F, G, rfl, l1, l2, hb, hrow, hp, hF, hG, hcl⟩ := h3.pop
  have c0 := blk_cell h1
  have f0 := blk_fro h1
  have hB := blk_lt h1
  have r0 := (hrow 0 (by simp)).1
  have r1 := (hrow 1 (by simp)).1
  simp at r0 r1
  obtain ⟨a1, d1, rfl, _⟩ := hp.form
  have hbl := h8 b (h6 b hb).1
  have hbB := (h6 b hb).2
  have i1 : (0 : Int) < (l.length : Int) + 1 := by omega
  have i2 : (0 : Int) ≤ (l.length : Int) := by omega
  have HL := Lib.hid hl
  unfold maxLen at l2
  clear hl h3
  have fin : ∀ (sv : Value), Closed w G sv l → Took CutAt w B S st x (.returned (.tuple #[.agg #[.int .i64 x.1, .slice a1 x.2.length d1], .bool true])) (((w.setCell ⟨B, 5, none⟩ sv).alloc (.cells #[.int .i64 x.1, .slice a1 x.2.length d1] 53)).alloc (.cells #[.int .i64 x.1, .slice a1 x.2.length d1] 53)) := by
    intro sv hsv
    have k0 : Keep (One B) w (((w.setCell ⟨B, 5, none⟩ sv).alloc (.cells #[.int .i64 x.1, .slice a1 x.2.length d1] 53)).alloc (.cells #[.int .i64 x.1, .slice a1 x.2.length d1] 53)) := ((keep_set w B 5 sv).alloc _).alloc _
    have b0 := blk_alloc (o' := .cells #[.int .i64 x.1, .slice a1 x.2.length d1] 53) (blk_alloc (o' := .cells #[.int .i64 x.1, .slice a1 x.2.length d1] 53) (blk_set h1 5 sv))
    have hs := k0.size
    generalize ((w.setCell ⟨B, 5, none⟩ sv).alloc (.cells #[.int .i64 x.1, .slice a1 x.2.length d1] 53)).alloc (.cells #[.int .i64 x.1, .slice a1 x.2.length d1] 53) = W at *
    refine ⟨.slice a1 x.2.length d1, F, fun k => k = B ∨ SO k ∨ G k, rfl, hp.agree (k0.agree fun k _ hk e => (h6 k (hF k hk).1).2 e), ?_, fun k hk => ⟨(h6 k (hF k hk).1).1, fun h => ?_⟩, fun k hk => ?_, k0.mono fun k _ e => e ▸ h4⟩
    · refine ⟨ov, sv, SO, G, by simpa [CutSt.take] using b0, h2.agree (k0.agree fun k _ hk e => (h5 k hk).2.1 e), ?_, .inl rfl, fun k hk => ⟨.inr (.inl hk), (h5 k hk).2.1, fun hg => (h5 k hk).2.2 (hG k hg)⟩, fun k hk => ⟨.inr (.inr hk), (h6 k (hG k hk)).2⟩, h7, fun k hk => ?_⟩
      · rw [show st.take.closed = l by simp [CutSt.take, HL.out]]
        exact hsv.agree (k0.agree fun k _ hk e => (h6 k (hG k hk)).2 e)
      · rcases hk with rfl | hk | hk
        · omega
        · have := h8 k (h5 k hk).1; omega
        · have := h8 k (h6 k (hG k hk)).1; omega
    · rcases h with e | h | h
      · exact (h6 k (hF k hk).1).2 e
      · exact (h5 k h).2.2 (hF k hk).1
      · exact (hF k hk).2 h
    · rcases hk with rfl | hk | hk
      · exact h4
      · exact (h5 k hk).1
      · exact (h6 k (hG k hk)).1
  by_cases hc : c = 1
  · subst hc
    obtain rfl : l = [] := List.length_eq_zero_iff.1 (by omega)
    rw [if_pos rfl] at hcl
    have F0 := Lib.hid (fin _ hcl)
    clear fin hcl
    go_enter Try.func19, Try.ntmps19
    go_wp2
    exact bodyPost_ret (v := .tuple #[.agg #[.int .i64 x.1, .slice a1 x.2.length d1], .bool true]) (by simp [results, Try.results19, go_sem]) rfl F0.out
  · have j1 : (1 : Int) ≤ c := by omega
    rw [if_neg hc] at hcl
    have F0 := Lib.hid (fin _ hcl)
    clear fin hcl
    go_enter Try.func19, Try.ntmps19
    go_wp2
    exact bodyPost_ret (v := .tuple #[.agg #[.int .i64 x.1, .slice a1 x.2.length d1], .bool true]) (by simp [results, Try.results19, go_sem]) rfl F0.out
end Go.Proofs.Ytjillekahongeaa
