/-
  Parts of what is proved for this claim; each declaration is one of the seat's texts.
-/
import Derived.Test.YtfgdnakfikpmpaaGreatDoorFLE
set_option linter.unusedVariables false
set_option linter.unusedSimpArgs false
namespace Go.Proofs.YtfgdnakfikpmpaaGreatDoor
open Go Go.RowKit Go.Deep
theorem Tryz.infoBo : (Tryz.prog.info? 4).map (fun i => (i.zero, i.size, i.bytes)) = some (some (.bool false), 1, 1) := by kernel_rfl
theorem mk_bools (n : Nat) (hn : n ≤ 1048576) (W : World) : (Instr.makeSlice 160 (.int .i64 n) (.int .i64 n)).run Tryz.prog W = .ok (.slice (some ⟨W.heap.size, 0, none⟩) n n) (W.alloc (.cells (rowA n fun _ => .bool false) 4)) := by
  obtain ⟨i0, hi, hz0, hz1, hz2⟩ := info_parts Tryz.infoBo
  have := run_make (P := Tryz.prog) W 160 4 i0 _ Tryz.underlying160 hi hz0 .i64 .i64 n n (by omega) (by omega) (by rw [hz2]; omega) (by omega)
  rw [Int.toNat_natCast, hz1, Nat.mul_one] at this
  rw [this]
  simp only [Value.cells]
  rw [made_row]
structure RCk (w : World) (bd bl n : Nat) (D : List Int) (L : List Bool) : Prop where
  d : w.heap[bd]? = some (.cells (rowA n fun k => .int .i64 (D.getD k 0)) 3 (0, 0))
  l : w.heap[bl]? = some (.cells (rowA n fun k => .bool (L.getD k false)) 4 (0, 0))
  ne : bd ≠ bl
theorem RCk.keep {w w' : World} {bd bl n : Nat} {D : List Int} {L : List Bool} (h : RCk w bd bl n D L) (hk : Keep No w w') : RCk w' bd bl n D L := ⟨hk.blk h.d (fun x => x), hk.blk h.l (fun x => x), h.ne⟩
theorem getD_set {α : Type} (l : List α) (k j : Nat) (x d : α) (hk : k < l.length) : (l.set k x).getD j d = if j = k then x else l.getD j d := by
  rw [List.getD_eq_getElem?_getD, List.getD_eq_getElem?_getD, List.getElem?_set]
  by_cases e : k = j
  · subst e; simp [hk]
  · have e2 : ¬ j = k := fun h => e h.symm
    simp [e, e2]
theorem RCk.put {w : World} {bd bl n : Nat} {D : List Int} {L : List Bool} (h : RCk w bd bl n D L) (k : Nat) (x : Int) (hk : k < D.length) : RCk (w.setCell ⟨bd, k, none⟩ (.int .i64 x)) bd bl n (D.set k x) L := by
  refine ⟨?_, blk_other h.l h.ne _, h.ne⟩
  rw [blk_set h.d k, rowA_set]
  congr 2
  apply rowA_congr
  intro j _
  rw [getD_set D k j x 0 hk]
  split <;> rfl
theorem RCk.mark {w : World} {bd bl n : Nat} {D : List Int} {L : List Bool} (h : RCk w bd bl n D L) (k : Nat) (x : Bool) (hk : k < L.length) : RCk (w.setCell ⟨bl, k, none⟩ (.bool x)) bd bl n D (L.set k x) := by
  refine ⟨blk_other h.d h.ne.symm _, ?_, h.ne⟩
  rw [blk_set h.l k, rowA_set]
  congr 2
  apply rowA_congr
  intro j _
  rw [getD_set L k j x false hk]
  split <;> rfl
theorem RCk.depth {w : World} {bd bl n : Nat} {D : List Int} {L : List Bool} (h : RCk w bd bl n D L) (k : Nat) (hk : k < n) : w.cell? ⟨bd, k, none⟩ = some (.int .i64 (D.getD k 0)) := row_cell h.d hk
theorem RCk.look {w : World} {bd bl n : Nat} {D : List Int} {L : List Bool} (h : RCk w bd bl n D L) (k : Nat) (hk : k < n) : w.cell? ⟨bl, k, none⟩ = some (.bool (L.getD k false)) := row_cell h.l hk
theorem getD_bd {D : List Int} (hD : ∀ d ∈ D, -1 ≤ d ∧ d ≤ 32) (k : Nat) : -1 ≤ D.getD k 0 ∧ D.getD k 0 ≤ 32 := by
  rw [List.getD_eq_getElem?_getD]
  cases h : D[k]? with
  | none => decide
  | some x => exact hD x (List.mem_of_getElem? h)
set_option maxRecDepth 10000 in
set_option maxHeartbeats 4000000 in
theorem rLeast_g (w : World) (bd bl n : Nat) (D : List Int) (L : List Bool) (h : RCk w bd bl n D L) (hn : n ≤ 256) (hD : ∀ d ∈ D, -1 ≤ d ∧ d ≤ 32) :
    Calls Tryz.prog 146 #[.slice (some ⟨bd, 0, none⟩) n n, .slice (some ⟨bl, 0, none⟩) n n] w fun e w' => e = .returned (.int .i64 (match nextP n D L with | some k => (k : Int) | none => -1)) ∧ w' = w := by
  have HC := Lib.hid (And.intro h hD)
  have n256 : (n : Int) ≤ 256 := by omega
  obtain ⟨r, hr⟩ : ∃ r : Int, r = (match nextP n D L with | some k => (k : Int) | none => -1) := ⟨_, rfl⟩
  rw [← hr]
  have HR := Lib.hid hr
  clear h hr hD hn
  go_enter Tryz.func146, Tryz.ntmps146
  go_wp2_with fail
  go_loopg [5] n (fun g i wr => ∃ k : Nat, k ≤ n ∧ g = n - k ∧ i = .int .i64 k ∧ RowKit.Hid (∀ j, j < k → okN D L j = false) ∧ wr = w)
  case atStart => exact ⟨0, by omega, by omega, rfl, (fun j hj => absurd hj (by omega)), rfl⟩
  case round =>
    obtain ⟨k, hk, rfl, rfl, HQ, rfl⟩ := hrel
    by_cases hlt : k < n
    · have j1 : (k : Int) < n := by omega
      have j0 : (0 : Int) ≤ k := by omega
      have j3 : (k : Int) ≤ 256 := by omega
      have q3 := HC.out.1.depth k hlt
      have q4 := HC.out.1.look k hlt
      have hb := getD_bd HC.out.2 k
      obtain ⟨dd, hdd⟩ : ∃ dd, D.getD k 0 = dd := ⟨_, rfl⟩
      obtain ⟨ll, hll⟩ : ∃ ll, L.getD k false = ll := ⟨_, rfl⟩
      rw [hdd] at q3 hb
      rw [hll] at q4
      have hok : okN D L k = (decide (dd ≠ -1) && !ll) := by unfold okN; rw [hdd, hll]
      have HO := Lib.hid (And.intro hok hlt)
      have hstep : RowKit.Hid (okN D L k = false → ∀ j, j < k + 1 → okN D L j = false) := fun h j hj => by
        rcases Nat.lt_or_ge j k with h' | h'
        · exact HQ.out j h'
        · obtain rfl : j = k := by omega
          exact h
      clear hdd hll hok hk hlt
      by_cases h1 : dd = -1
      · have b1 : ¬ (0 : Int) ≤ dd := by omega
        have HN := Lib.hid (hstep.out (by rw [HO.out.1, h1]; rfl))
        subst h1
        clear hb
        go_wp2_with fail
        go_roundg (n - (k + 1))
        case measure => have := HO.out.2; omega
        case rel => exact ⟨k + 1, HO.out.2, rfl, by simp, HN.out, rfl⟩
      · have b1 : (0 : Int) ≤ dd := by omega
        have b2 : ¬ dd < 0 := by omega
        cases ll with
        | true =>
          have HN := Lib.hid (hstep.out (by rw [HO.out.1]; simp))
          clear h1 hb
          go_wp2_with fail
          go_roundg (n - (k + 1))
          case measure => have := HO.out.2; omega
          case rel => exact ⟨k + 1, HO.out.2, rfl, by simp, HN.out, rfl⟩
        | false =>
          have hr2 : r = k := by rw [HR.out, nextP_some HO.out.2 (by rw [HO.out.1]; simp [h1]) HQ.out]
          subst hr2
          clear h1 hb
          go_wp2_with fail
          go_ret
          exact ⟨rfl, rfl⟩
    · obtain rfl : k = n := by omega
      have j1 : ¬ (k : Int) < k := by omega
      have hr2 : r = -1 := by rw [HR.out, nextP_none HQ.out]
      subst hr2
      clear hk hlt
      go_wp2_with fail
      go_ret
      exact ⟨rfl, rfl⟩
def nextsL (op : Int) (N k : Nat) : List Nat := if op = 18 then [N] else if op = 19 then [k + 1, N] else if op = 30 ∨ op = 31 then [] else [k + 1]
def PlacesAt (w : World) (a : Option Addr) (l : List Nat) : Prop := ∀ j (hj : j < l.length), ∃ b, a = some ⟨b, 0, none⟩ ∧ w.cell? ⟨b, j, none⟩ = some (.int .i64 (l[j]'hj))
theorem PlacesAt.keep {w w' : World} {a : Option Addr} {l : List Nat} (h : PlacesAt w a l) {M : Nat → Prop} (hk : Keep M w w') (hM : ∀ b, a = some ⟨b, 0, none⟩ → ¬ M b) : PlacesAt w' a l := fun j hj => by
  obtain ⟨b, e, hc⟩ := h j hj
  exact ⟨b, e, (hk.cell (World.block_lt_of_cell? _ _ hc) (hM b e)).trans hc⟩
set_option maxRecDepth 10000 in
set_option maxHeartbeats 4000000 in
theorem rNexts_g (w : World) (T : Nat → Prop) (v1 v2 : Value) (o1 : v1.oneCell' = true) (o2 : v2.oneCell' = true) (a5 : Option Addr) (c5 : Nat) (code : List Ins) (h5 : Rd (.slice instrSh) w T [.slice a5 code.length c5] code) (k N : Nat) (hk : k < code.length) (op : Int) (hop : code[k] = (op, (N : Int), ())) (h256 : code.length ≤ 256) :
    Calls Tryz.prog 148 #[.agg #[v1, v2, .slice a5 code.length c5], .int .i64 k] w fun e w' => ∃ a c, e = .returned (.slice a (nextsL op N k).length c) ∧ RowKit.Hid (PlacesAt w' a (nextsL op N k) ∧ (∀ b, a = some ⟨b, 0, none⟩ → w.heap.size ≤ b ∧ b < w'.heap.size) ∧ Keep No w w') := by
  have K1 := (Keep.refl No w).alloc (.cells #[v1, v2, .slice a5 code.length c5] 27)
  have x1 := blk_new w (.cells #[v1, v2, .slice a5 code.length c5] 27)
  obtain ⟨b, off, rfl, hb, -, r0, r1⟩ := instrs_get (h5.agree _ K1.agreeNo) k hk
  rw [hop] at r0 r1
  have r0' : (w.alloc (.cells #[v1, v2, .slice (some ⟨b, off, none⟩) code.length c5] 27)).cell? ⟨b, off + k * 2, none⟩ = some (.int .i64 op) := r0
  have r1' : (w.alloc (.cells #[v1, v2, .slice (some ⟨b, off, none⟩) code.length c5] 27)).cell? ⟨b, off + k * 2 + 1, none⟩ = some (.int .i64 N) := r1
  have K2 := K1.alloc (.cells #[.int .i64 op, .int .i64 N] 144)
  have x2 := blk_new (w.alloc (.cells #[v1, v2, .slice (some ⟨b, off, none⟩) code.length c5] 27)) (.cells #[.int .i64 op, .int .i64 N] 144)
  have q1 := blk_cell x1
  have q2 := blk_cell x2
  have j1 : (k : Int) < code.length := by omega
  have j0 : (0 : Int) ≤ k := by omega
  have j3 : (k : Int) ≤ 256 := by omega
  have hsz : ((w.alloc (.cells #[v1, v2, .slice (some ⟨b, off, none⟩) code.length c5] 27)).alloc (.cells #[.int .i64 op, .int .i64 N] 144)).heap.size = w.heap.size + 2 := by simp
  have HX := Lib.hid (And.intro K2 hsz)
  have hone : ∀ (W : World) (m : Nat), PlacesAt (W.alloc (.cells #[.int .i64 m] 3)) (some ⟨W.heap.size, 0, none⟩) [m] := fun W m j hj => by
    obtain rfl : j = 0 := by simp at hj; omega
    exact ⟨W.heap.size, rfl, (blk_cell (blk_new W _) 0).trans rfl⟩
  have htwo : ∀ (W : World) (m m2 : Nat), PlacesAt (W.alloc (.cells #[.int .i64 m, .int .i64 m2] 3)) (some ⟨W.heap.size, 0, none⟩) [m, m2] := fun W m m2 j hj => by
    have hj2 : j = 0 ∨ j = 1 := by simp at hj; omega
    rcases hj2 with rfl | rfl
    · exact ⟨W.heap.size, rfl, (blk_cell (blk_new W _) 0).trans rfl⟩
    · exact ⟨W.heap.size, rfl, (blk_cell (blk_new W _) 1).trans rfl⟩
  have H1 := Lib.hid (And.intro hone htwo)
  clear h5 hk hop r0 r1 hb x1 x2 K1 K2 hsz hone htwo h256
  by_cases e1 : op = 18
  · have HN := Lib.hid (show nextsL op N k = [N] by unfold nextsL; rw [if_pos e1])
    subst e1
    go_enter Tryz.func148, Tryz.ntmps148
    go_wp2_with fail
    go_ret
    rw [HN.out]
    refine ⟨_, _, rfl, ?_, fun b' hb' => ?_, HX.out.1.alloc _⟩
    · have hp := H1.out.1 ((w.alloc (.cells #[v1, v2, .slice (some ⟨b, off, none⟩) code.length c5] 27)).alloc (.cells #[.int .i64 18, .int .i64 N] 144)) N
      simp only [World.size_alloc] at hp
      exact hp
    · simp only [Option.some.injEq, Addr.mk.injEq, and_true] at hb'
      subst hb'
      have := HX.out.2
      simp only [World.size_alloc] at this ⊢
      omega
  by_cases e2 : op = 19
  · have HN := Lib.hid (show nextsL op N k = [k + 1, N] by unfold nextsL; rw [if_neg e1, if_pos e2])
    subst e2
    clear e1
    go_enter Tryz.func148, Tryz.ntmps148
    go_wp2_with fail
    go_ret
    rw [HN.out]
    refine ⟨_, _, rfl, ?_, fun b' hb' => ?_, HX.out.1.alloc _⟩
    · have hp := H1.out.2 ((w.alloc (.cells #[v1, v2, .slice (some ⟨b, off, none⟩) code.length c5] 27)).alloc (.cells #[.int .i64 19, .int .i64 N] 144)) (k + 1) N
      have e : ((k + 1 : Nat) : Int) = (k : Int) + 1 := by omega
      simp only [World.size_alloc, e] at hp
      exact hp
    · simp only [Option.some.injEq, Addr.mk.injEq, and_true] at hb'
      subst hb'
      have := HX.out.2
      simp only [World.size_alloc] at this ⊢
      omega
  have i1 : (op == 18) = false := by rw [beq_eq_false_iff_ne]; exact e1
  have i2 : (op == 19) = false := by rw [beq_eq_false_iff_ne]; exact e2
  by_cases e3 : op = 30
  · have HN := Lib.hid (show nextsL op N k = [] by unfold nextsL; rw [if_neg e1, if_neg e2, if_pos (.inl e3)])
    subst e3
    clear e1 e2 i1 i2
    go_enter Tryz.func148, Tryz.ntmps148
    go_wp2_with fail
    go_ret
    rw [HN.out]
    exact ⟨none, 0, rfl, fun j hj => absurd hj (Nat.not_lt_zero _), fun b' hb' => (by cases hb'), HX.out.1⟩
  by_cases e4 : op = 31
  · have HN := Lib.hid (show nextsL op N k = [] by unfold nextsL; rw [if_neg e1, if_neg e2, if_pos (.inr e4)])
    subst e4
    clear e1 e2 i1 i2 e3
    go_enter Tryz.func148, Tryz.ntmps148
    go_wp2_with fail
    go_ret
    rw [HN.out]
    exact ⟨none, 0, rfl, fun j hj => absurd hj (Nat.not_lt_zero _), fun b' hb' => (by cases hb'), HX.out.1⟩
  have i3 : (op == 30) = false := by rw [beq_eq_false_iff_ne]; exact e3
  have i4 : (op == 31) = false := by rw [beq_eq_false_iff_ne]; exact e4
  have HN := Lib.hid (show nextsL op N k = [k + 1] by unfold nextsL; rw [if_neg e1, if_neg e2, if_neg (by omega)])
  clear e1 e2 e3 e4
  go_enter Tryz.func148, Tryz.ntmps148
  go_wp2_with fail
  go_ret
  rw [HN.out]
  refine ⟨_, _, rfl, ?_, fun b' hb' => ?_, HX.out.1.alloc _⟩
  · have hp := H1.out.1 ((w.alloc (.cells #[v1, v2, .slice (some ⟨b, off, none⟩) code.length c5] 27)).alloc (.cells #[.int .i64 op, .int .i64 N] 144)) (k + 1)
    have e : ((k + 1 : Nat) : Int) = (k : Int) + 1 := by omega
    simp only [World.size_alloc, e] at hp
    exact hp
  · simp only [Option.some.injEq, Addr.mk.injEq, and_true] at hb'
    subst hb'
    have := HX.out.2
    simp only [World.size_alloc] at this ⊢
    omega
def leadsF (n : Nat) (k : Nat) (p : Int) : List Nat → List Int → (Int × Int) ⊕ List Int
  | [], D => .inr D
  | t :: l, D => match leadsP n D k t p with
    | .inl x => .inl x
    | .inr D' => leadsF n k p l D'
theorem lookP_is (code : List Ins) (D : List Int) (k : Nat) (hk : k < code.length) (op : Int) (N : Nat) (hop : code[k] = (op, (N : Int), ())) :
    lookP code D k = if D.getD k 0 < (opAt op).2.2.1 ∨ 32 < D.getD k 0 - (opAt op).2.2.1 + (opAt op).2.2.2 then .inl (55, k) else leadsF code.length k (D.getD k 0 - (opAt op).2.2.1 + (opAt op).2.2.2) (nextsL op N k) D := by
  have hget : code.getD k (0, 0, ()) = (op, (N : Int), ()) := by rw [List.getD_eq_getElem?_getD, List.getElem?_eq_getElem hk, hop]; rfl
  unfold lookP
  simp only [hget]
  split
  · rfl
  · unfold nextsL
    by_cases e3 : op = 30 ∨ op = 31
    · have h1 : ¬ op = 18 := by omega
      have h2 : ¬ op = 19 := by omega
      rw [if_pos e3, if_neg h1, if_neg h2, if_pos e3]
      rfl
    · rw [if_neg e3]
      by_cases e1 : op = 18
      · rw [if_pos e1, if_pos e1, Int.toNat_natCast]
        unfold leadsF
        cases leadsP code.length D k N (D.getD k 0 - (opAt op).2.2.1 + (opAt op).2.2.2) <;> rfl
      · rw [if_neg e1, if_neg e1]
        by_cases e2 : op = 19
        · rw [if_pos e2, if_pos e2, Int.toNat_natCast]
          unfold leadsF
          cases leadsP code.length D k (k + 1) (D.getD k 0 - (opAt op).2.2.1 + (opAt op).2.2.2) with
          | inl x => rfl
          | inr D' =>
            simp only
            unfold leadsF
            cases leadsP code.length D' k N (D.getD k 0 - (opAt op).2.2.1 + (opAt op).2.2.2) <;> rfl
        · rw [if_neg e2, if_neg e2, if_neg e3]
          unfold leadsF
          cases leadsP code.length D k (k + 1) (D.getD k 0 - (opAt op).2.2.1 + (opAt op).2.2.2) <;> rfl
end Go.Proofs.YtfgdnakfikpmpaaGreatDoor
