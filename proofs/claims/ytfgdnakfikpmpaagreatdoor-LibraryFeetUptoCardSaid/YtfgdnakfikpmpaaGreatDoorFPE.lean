/-
  Parts of what is proved for this claim; each declaration is one of the seat's texts.
-/
import Derived.Test.YtfgdnakfikpmpaaGreatDoorFPD
set_option linter.unusedVariables false
set_option linter.unusedSimpArgs false
namespace Go.Proofs.YtfgdnakfikpmpaaGreatDoor
open Go Go.RowKit Go.Deep
theorem Tryz.infoI : (Tryz.prog.info? 3).map (fun i => (i.zero, i.size, i.bytes)) = some (some (.int .i64 0), 1, 8) := by kernel_rfl
theorem find_idle (p q s : Addr) (w : World) :
    CallsD Tryz.prog 141 #[.pointer (some p), .pointer (some q), .pointer (some s)] .returning w fun e u' w' => e = .returned (.tuple #[]) ∧ u' = .returning ∧ w' = w := by
  refine callsD_of_wpS Tryz.func141 rfl fun c₀ cs hu => ?_
  apply wpS_seq
  apply wpS_region
  simp [wpOpsS, go_sem, recoverD, hu, Tryz.ntmps141, Exit.thenS]
  apply wpS_seq
  apply wpS_region
  simp [wpOpsS, go_sem, Exit.thenS]
  refine wpS_cond (t := false) (by simp [Act.eval, Array.replicate]) ?_
  simp only [Bool.false_eq_true, if_false]
  refine wpS_of_wp (wp_skip ?_)
  cases c₀
  simp_all [bodyPostS, results, Tryz.results141]
theorem app_nil {P : Program} {w : World} {S : Nat → Prop} {v : Value} {s : Sh} {l : List s.T} (h : Rd (.slice s) w S [v] l) (t e ty : TypeId) (i : TypeInfo) (z : Value) (bytes : Nat)
    (ht : P.underlying t = some (.slice e)) (hi : P.info? e = some i) (hz : i.zero = some z) (hsz : i.size = s.size) (hby : i.bytes = bytes) (hzs : z.cells.size = s.size) (hl : l.length ≤ 1048576) (hb : bytes ≤ 4096) :
    ∃ a c w', (Builtin.append_ #[t, t] ty #[.slice none 0 0, v]).run P w = .ok (.slice a l.length c) w' ∧ Keep No w w' := by
  obtain ⟨rows, hrl, hr, hsrc⟩ := Rd.rows h
  obtain ⟨a, c, w', g', hrun, ho, hg', hk, hs⟩ := own_append (OwnRows.nil w e s.size) t t ty i z bytes ht hi hz hsz hby hzs (hsrc P t e ht _ (Agree.refl _ _)) (fun r hr' => by
    obtain ⟨j, hj, rfl⟩ := List.getElem_of_mem hr'
    exact (hr j hj (by omega)).length s) (by simp; omega) (by
      simp only [List.length_nil, Nat.zero_add, hrl]
      exact Nat.le_trans (Nat.mul_le_mul hl hb) (by decide))
  simp only [List.length_nil, Nat.zero_add, hrl, List.nil_append] at hrun ho
  exact ⟨a, c, w', hrun, hk.mono fun k _ hh => by cases hh⟩
def NoPc (Q : Exit → Act → World → Prop) : Exit → Act → World → Prop
  | .normal, a, w => Q .normal a w
  | _, _, _ => False
theorem wp_nopc {P : Program} {c : Code} {Q : Exit → Act → World → Prop} {a : Act} {w : World} (h : c.wp P (NoPc Q) a w) : c.wp P Q a w :=
  wp_mono h fun e a w h => by cases e <;> first | exact h | exact False.elim h
theorem NoPc.normal {Q : Exit → Act → World → Prop} {a : Act} {w : World} (h : Q .normal a w) : NoPc Q .normal a w := h
theorem three_done {w : World} {d1 d2 d3 : Nat} {s0 s1 s2 x0 x1 x2 : Value} {t0 t1 t2 : TypeId} (h0 : w.heap[d1]? = some (.cells #[s0] t0 (0, 0))) (h1 : w.heap[d2]? = some (.cells #[s1] t1 (0, 0))) (h2 : w.heap[d3]? = some (.cells #[s2] t2 (0, 0))) (n1 : d1 ≠ d2) (n2 : d1 ≠ d3) (n3 : d2 ≠ d3) :
    (((w.setCell ⟨d1, 0, none⟩ x0).setCell ⟨d2, 0, none⟩ x1).setCell ⟨d3, 0, none⟩ x2).cell? ⟨d1, 0, none⟩ = some x0 ∧ (((w.setCell ⟨d1, 0, none⟩ x0).setCell ⟨d2, 0, none⟩ x1).setCell ⟨d3, 0, none⟩ x2).cell? ⟨d2, 0, none⟩ = some x1 ∧ (((w.setCell ⟨d1, 0, none⟩ x0).setCell ⟨d2, 0, none⟩ x1).setCell ⟨d3, 0, none⟩ x2).cell? ⟨d3, 0, none⟩ = some x2 := by
  refine ⟨?_, ?_, ?_⟩
  · exact (blk_cell (blk_other (a := ⟨d3, 0, none⟩) (blk_other (a := ⟨d2, 0, none⟩) (blk_set h0 0 x0) (fun e => n1 e.symm) x1) (fun e => n2 e.symm) x2) 0).trans (by simp)
  · exact (blk_cell (blk_other (a := ⟨d3, 0, none⟩) (blk_set (blk_other (a := ⟨d1, 0, none⟩) h1 (fun e => n1 e) x0) 0 x1) (fun e => n3 e.symm) x2) 0).trans (by simp)
  · exact (blk_cell (blk_set (blk_other (a := ⟨d2, 0, none⟩) (blk_other (a := ⟨d1, 0, none⟩) h2 (fun e => n2 e) x0) (fun e => n3 e) x1) 0 x2) 0).trans (by simp)
structure Look0 (w : World) (b : Nat) (n : Int) (v4 v5 : Value) (W : World) : Prop where
  keep : Keep No w W
  p : W.heap[w.heap.size]? = some (.cells #[.int .i64 n, v4, v5] 27 (0, 0))
  d : W.heap[w.heap.size + 1]? = some (.cells #[.slice none 0 0] 22 (0, 0))
  e : W.heap[w.heap.size + 1 + 1]? = some (.cells #[.int .i64 0] 34 (0, 0))
  a : W.heap[w.heap.size + 1 + 1 + 1]? = some (.cells #[.int .i64 0] 3 (0, 0))
  lt : w.heap.size + 1 + 1 + 1 < b
theorem Look0.more {w : World} {b : Nat} {n : Int} {v4 v5 : Value} {W W' : World} (h : Look0 w b n v4 v5 W) (hk : Keep (One b) W W') : Look0 w b n v4 v5 W' :=
  ⟨h.keep.then hk fun i hi e => by have : i = b := e; have := h.lt; omega, hk.blk h.p (fun e => by have : w.heap.size = b := e; have := h.lt; omega), hk.blk h.d (fun e => by have : w.heap.size + 1 = b := e; have := h.lt; omega),
    hk.blk h.e (fun e => by have : w.heap.size + 1 + 1 = b := e; have := h.lt; omega), hk.blk h.a (fun e => by have : w.heap.size + 1 + 1 + 1 = b := e; have := h.lt; omega), h.lt⟩
end Go.Proofs.YtfgdnakfikpmpaaGreatDoor
namespace Go.Proofs.YtfgdnakfikpmpaaGreatDoor
open Go Go.RowKit Go.Deep
def ckCells (cs : List Value) (D : List Int) (L : List Bool) : List Value := cs ++ (D.map (Value.int .i64) ++ L.map Value.bool)
structure CkG (w : World) (b : Nat) (cs : List Value) (D : List Int) (L : List Bool) : Prop where
  blk : w.heap[b]? = some (.cells (ckCells cs D L).toArray 231 (0, 0))
  c3 : cs.length = 3
  d : D.length = 256
  l : L.length = 256
theorem CkG.keep {w w' : World} {b : Nat} {cs : List Value} {D : List Int} {L : List Bool} (h : CkG w b cs D L) {M : Nat → Prop} (hk : Keep M w w') (hM : ¬ M b) : CkG w' b cs D L := ⟨hk.blk h.blk hM, h.c3, h.d, h.l⟩
theorem CkG.lt {w : World} {b : Nat} {cs : List Value} {D : List Int} {L : List Bool} (h : CkG w b cs D L) : b < w.heap.size := blk_lt h.blk
theorem CkG.head {w : World} {b : Nat} {cs : List Value} {D : List Int} {L : List Bool} (h : CkG w b cs D L) (k : Nat) (hk : k < 3) : w.cell? ⟨b, k, none⟩ = cs[k]? := by
  rw [blk_cell h.blk k]
  have := h.c3
  simp only [ckCells, List.getElem?_toArray]
  rw [List.getElem?_append_left (by omega)]
theorem CkG.depth {w : World} {b : Nat} {cs : List Value} {D : List Int} {L : List Bool} (h : CkG w b cs D L) (k : Nat) (hk : k < D.length) : w.cell? ⟨b, 3 + k, none⟩ = some (.int .i64 (D[k]'hk)) := by
  rw [blk_cell h.blk (3 + k)]
  have := h.c3
  simp only [ckCells, List.getElem?_toArray]
  rw [List.getElem?_append_right (by omega), List.getElem?_append_left (by rw [List.length_map]; omega)]
  have e : 3 + k - cs.length = k := by omega
  rw [e]
  simp [hk]
theorem CkG.look {w : World} {b : Nat} {cs : List Value} {D : List Int} {L : List Bool} (h : CkG w b cs D L) (k : Nat) (hk : k < L.length) : w.cell? ⟨b, 259 + k, none⟩ = some (.bool (L[k]'hk)) := by
  rw [blk_cell h.blk (259 + k)]
  have := h.c3
  have := h.d
  simp only [ckCells, List.getElem?_toArray]
  rw [List.getElem?_append_right (by omega), List.getElem?_append_right (by rw [List.length_map]; omega)]
  have e : 259 + k - cs.length - (D.map (Value.int .i64)).length = k := by rw [List.length_map]; omega
  rw [e]
  simp [hk]
theorem CkG.put {w : World} {b : Nat} {cs : List Value} {D : List Int} {L : List Bool} (h : CkG w b cs D L) (k : Nat) (hk : k < D.length) (x : Int) : CkG (w.setCell ⟨b, 3 + k, none⟩ (.int .i64 x)) b cs (D.set k x) L := by
  refine ⟨?_, h.c3, by rw [List.length_set]; exact h.d, h.l⟩
  have := blk_set h.blk (3 + k) (.int .i64 x)
  rw [this]
  have h3 := h.c3
  simp only [ckCells, List.setIfInBounds_toArray]
  rw [List.set_append, if_neg (by omega), List.set_append, if_pos (by rw [List.length_map]; omega)]
  have e : 3 + k - cs.length = k := by omega
  rw [e, List.map_set]
theorem CkG.mark {w : World} {b : Nat} {cs : List Value} {D : List Int} {L : List Bool} (h : CkG w b cs D L) (k : Nat) (hk : k < L.length) : CkG (w.setCell ⟨b, 259 + k, none⟩ (.bool true)) b cs D (L.set k true) := by
  refine ⟨?_, h.c3, h.d, by rw [List.length_set]; exact h.l⟩
  have := blk_set h.blk (259 + k) (.bool true)
  rw [this]
  have h3 := h.c3
  have h4 := h.d
  simp only [ckCells, List.setIfInBounds_toArray]
  rw [List.set_append, if_neg (by omega), List.set_append, if_neg (by rw [List.length_map]; omega)]
  have e : 259 + k - cs.length - (D.map (Value.int .i64)).length = k := by rw [List.length_map]; omega
  rw [e, List.map_set]
def leadsP (n : Nat) (D : List Int) (fr tt : Nat) (depth : Int) : (Int × Int) ⊕ List Int :=
  if n ≤ tt then .inl (57, fr) else if D.getD tt 0 = -1 then .inr (D.set tt depth) else if D.getD tt 0 ≠ depth then .inl (56, fr) else .inr D
def GivesCk (w : World) (b : Nat) (cs : List Value) (L : List Bool) (r : (Int × Int) ⊕ List Int) (e : Ending) (w' : World) : Prop :=
  match r with
  | .inl x => e = .panicked [{ v := .iface 233 (.agg #[.int .i64 x.1, .int .i64 x.2]), recovered := false }] ∧ Keep (One b) w w'
  | .inr D => e = .returned (.tuple #[]) ∧ CkG w' b cs D L ∧ Keep (One b) w w'
set_option maxRecDepth 10000 in
set_option maxHeartbeats 4000000 in
theorem leads_g (w : World) (b : Nat) (x0 x1 : Value) (a5 : Option Addr) (n c5 : Nat) (D : List Int) (L : List Bool) (h : CkG w b [x0, x1, .slice a5 n c5] D L) (hn : n ≤ 256) (fr tt : Nat) (depth : Int) :
    Calls Tryz.prog 181 #[.pointer (some ⟨b, 0, none⟩), .int .i64 fr, .int .i64 tt, .int .i64 depth] w (GivesCk w b [x0, x1, .slice a5 n c5] L (leadsP n D fr tt depth)) := by
  have q2 : w.cell? ⟨b, 2, none⟩ = some (.slice a5 n c5) := h.head 2 (by omega)
  have HC := Lib.hid h
  have k0 : Keep (One b) w w := Keep.refl _ w
  have HK := Lib.hid k0
  unfold leadsP
  by_cases h1 : n ≤ tt
  · rw [if_pos h1]
    have j1 : (n : Int) ≤ tt := by omega
    clear h k0 h1
    unfold GivesCk
    go_enter Tryz.func181, Tryz.ntmps181
    go_wp2_with fail
    exact ⟨rfl, rfl, HK.out⟩
  · rw [if_neg h1]
    have j1 : ¬ (n : Int) ≤ tt := by omega
    have hd := h.d
    have htt : tt < D.length := by omega
    have e : D.getD tt 0 = D[tt]'htt := by simp [htt]
    rw [e]
    obtain ⟨dd, hdd⟩ : ∃ dd, D[tt]'htt = dd := ⟨_, rfl⟩
    have q3 := h.depth tt htt
    rw [hdd] at q3 ⊢
    have j0 : (0 : Int) ≤ tt := by omega
    have j2 : (tt : Int) < 256 := by omega
    have f3 := blk_fro h.blk (3 + tt)
    have hset := h.put tt htt depth
    have hks := keep_set w b (3 + tt) (.int .i64 depth)
    have HS := Lib.hid (And.intro hset hks)
    by_cases h2 : dd = -1
    · rw [if_pos h2]
      have b1 : (dd == -1) = true := by rw [h2]; rfl
      subst h2
      clear h k0 h1 e hd htt hdd hset hks
      unfold GivesCk
      go_enter Tryz.func181, Tryz.ntmps181
      go_wp2_with fail
      go_end0
      exact ⟨rfl, HS.out.1, HS.out.2⟩
    · rw [if_neg h2]
      have b1 : (dd == -1) = false := by simpa using h2
      by_cases h3 : dd ≠ depth
      · rw [if_pos h3]
        have b2 : (dd != depth) = true := by simpa using h3
        clear h k0 h1 e hd htt hdd hset hks h2 h3
        unfold GivesCk
        go_enter Tryz.func181, Tryz.ntmps181
        go_wp2_with fail
        exact ⟨rfl, rfl, HK.out⟩
      · rw [if_neg h3]
        have b2 : (dd != depth) = false := by simpa using h3
        clear h k0 h1 e hd htt hdd hset hks h2 h3
        unfold GivesCk
        go_enter Tryz.func181, Tryz.ntmps181
        go_wp2_with fail
        go_end0
        exact ⟨rfl, HC.out, HK.out⟩
end Go.Proofs.YtfgdnakfikpmpaaGreatDoor
namespace Go.Proofs.YtfgdnakfikpmpaaGreatDoor
open Go Go.RowKit Go.Deep
def okN (D : List Int) (L : List Bool) (k : Nat) : Bool := decide (D.getD k 0 ≠ -1) && !L.getD k false
def nextP (n : Nat) (D : List Int) (L : List Bool) : Option Nat := (List.range n).find? (okN D L)
theorem nextP_some {n k : Nat} {D : List Int} {L : List Bool} (hk : k < n) (h : okN D L k = true) (hb : ∀ j, j < k → okN D L j = false) : nextP n D L = some k :=
  List.find?_range_eq_some.2 ⟨h, List.mem_range.2 hk, fun j hj => by rw [hb j hj]; rfl⟩
theorem nextP_none {n : Nat} {D : List Int} {L : List Bool} (hb : ∀ j, j < n → okN D L j = false) : nextP n D L = none :=
  List.find?_range_eq_none.2 fun j hj => by rw [hb j hj]; rfl
def GivesNx (w : World) (r : Option Nat) (e : Ending) (w' : World) : Prop := e = .returned (.tuple #[.int .i64 (r.getD 0 : Nat), .bool r.isSome]) ∧ w' = w
set_option maxRecDepth 10000 in
set_option maxHeartbeats 4000000 in
theorem next_g (w : World) (b : Nat) (x0 x1 : Value) (a5 : Option Addr) (n c5 : Nat) (D : List Int) (L : List Bool) (h : CkG w b [x0, x1, .slice a5 n c5] D L) (hn : n ≤ 256) :
    Calls Tryz.prog 142 #[.pointer (some ⟨b, 0, none⟩)] w (GivesNx w (nextP n D L)) := by
  have q2 : w.cell? ⟨b, 2, none⟩ = some (.slice a5 n c5) := h.head 2 (by omega)
  have HC := Lib.hid h
  obtain ⟨r, hr⟩ : ∃ r, nextP n D L = r := ⟨_, rfl⟩
  rw [hr]
  have HR := Lib.hid hr
  clear h hr
  go_enter Tryz.func142, Tryz.ntmps142
  go_wp2_with fail
  go_loopg [11] n (fun g i wr => ∃ k : Nat, k ≤ n ∧ g = n - k ∧ i = .int .i64 k ∧ RowKit.Hid (∀ j, j < k → okN D L j = false) ∧ wr = w)
  case atStart => exact ⟨0, by omega, by omega, rfl, (fun j hj => absurd hj (by omega)), rfl⟩
  case round =>
    obtain ⟨k, hk, rfl, rfl, HK, hw⟩ := hrel
    have HQ := Lib.hid HK
    subst hw
    clear HK
    by_cases hlt : k < n
    · have j1 : (k : Int) < n := by omega
      have j0 : (0 : Int) ≤ k := by omega
      have j2 : (k : Int) < 256 := by omega
      have hdl := HC.out.d
      have hll := HC.out.l
      have hkd : k < D.length := by omega
      have hkl : k < L.length := by omega
      have q3 := HC.out.depth k hkd
      have q4 := HC.out.look k hkl
      have ed : D.getD k 0 = D[k]'hkd := by simp [hkd]
      have el : L.getD k false = L[k]'hkl := by simp [hkl]
      obtain ⟨dd, hdd⟩ : ∃ dd, D[k]'hkd = dd := ⟨_, rfl⟩
      obtain ⟨ll, hl9⟩ : ∃ ll, L[k]'hkl = ll := ⟨_, rfl⟩
      rw [hdd] at q3 ed
      rw [hl9] at q4 el
      have hok : okN D L k = (decide (dd ≠ -1) && !ll) := by unfold okN; rw [ed, el]
      have HO := Lib.hid (And.intro hok hlt)
      clear ed el hdd hl9 hkd hkl hdl hll hok hk hlt
      have hstep : RowKit.Hid (okN D L k = false → ∀ j, j < k + 1 → okN D L j = false) := fun h j hj => by
        rcases Nat.lt_or_ge j k with h' | h'
        · exact HQ.out j h'
        · obtain rfl : j = k := by omega
          exact h
      by_cases h1 : dd = -1
      · have b1 : (dd != -1) = false := by rw [h1]; rfl
        have HN := Lib.hid (hstep.out (by rw [HO.out.1, h1]; rfl))
        clear h1
        go_wp2_with fail
        go_roundg (n - (k + 1))
        case measure => have := HO.out.2; omega
        case rel => exact ⟨k + 1, HO.out.2, rfl, by simp, HN.out, rfl⟩
      · have b1 : (dd != -1) = true := by simpa using h1
        cases ll with
        | true =>
          have HN := Lib.hid (hstep.out (by rw [HO.out.1]; simp))
          clear h1
          go_wp2_with fail
          go_roundg (n - (k + 1))
          case measure => have := HO.out.2; omega
          case rel => exact ⟨k + 1, HO.out.2, rfl, by simp, HN.out, rfl⟩
        | false =>
          have hr2 : r = some k := by rw [← HR.out]; exact nextP_some HO.out.2 (by rw [HO.out.1]; simp [h1]) HQ.out
          subst hr2
          clear h1
          unfold GivesNx
          go_wp2_with fail
          go_ret2
          exact ⟨rfl, rfl⟩
    · obtain rfl : k = n := by omega
      have j1 : ¬ (k : Int) < k := by omega
      have hr2 : r = none := by rw [← HR.out]; exact nextP_none HQ.out
      subst hr2
      clear hk hlt
      unfold GivesNx
      go_wp2_with fail
      go_ret2
      exact ⟨rfl, rfl⟩
end Go.Proofs.YtfgdnakfikpmpaaGreatDoor
namespace Go.Proofs.YtfgdnakfikpmpaaGreatDoor
open Go Go.RowKit Go.Deep
theorem wrap_pc {x : Int} (h0 : -9223372036854775808 ≤ x) (h1 : x ≤ 9223372036854775807) : IntKind.i64.wrap x = x := by
  unfold IntKind.wrap
  simp only [IntKind.signed, IntKind.bits, Bool.true_and, decide_eq_true_eq, ge_iff_le]
  split <;> omega
theorem ops_small : ∀ x ∈ opsL, 0 ≤ x.2.2.1 ∧ x.2.2.1 ≤ 2 ∧ 0 ≤ x.2.2.2 ∧ x.2.2.2 ≤ 3 := by decide
theorem opAt_small (op : Int) : 0 ≤ (opAt op).2.2.1 ∧ (opAt op).2.2.1 ≤ 2 ∧ 0 ≤ (opAt op).2.2.2 ∧ (opAt op).2.2.2 ≤ 3 := by
  unfold opAt
  split
  · rw [List.getD_eq_getElem?_getD]
    cases h : opsL[op.toNat]? with
    | none => decide
    | some x => exact ops_small x (List.mem_of_getElem? h)
  · decide
def lookP (code : List Ins) (D : List Int) (k : Nat) : (Int × Int) ⊕ List Int :=
  let i := code.getD k (0, 0, ())
  let d := D.getD k 0
  let p := d - (opAt i.1).2.2.1 + (opAt i.1).2.2.2
  if d < (opAt i.1).2.2.1 ∨ 32 < p then .inl (55, k)
  else if i.1 = 30 ∨ i.1 = 31 then .inr D
  else if i.1 = 18 then leadsP code.length D k i.2.1.toNat p
  else if i.1 = 19 then (match leadsP code.length D k (k + 1) p with
    | .inl x => .inl x
    | .inr D' => leadsP code.length D' k i.2.1.toNat p)
  else leadsP code.length D k (k + 1) p
set_option maxRecDepth 10000 in
set_option maxHeartbeats 4000000 in
theorem look_g (w : World) (b : Nat) (x0 x1 : Value) (a5 : Option Addr) (c5 : Nat) (T : Nat → Prop) (code : List Ins) (D : List Int) (L : List Bool) (h : CkG w b [x0, x1, .slice a5 code.length c5] D L) (hn : code.length ≤ 256)
    (hr : Rd (.slice instrSh) w T [.slice a5 code.length c5] code) (hT : ∀ i, T i → i ≠ b) (k : Nat) (hk : k < code.length) (hD : ∀ d ∈ D, -1 ≤ d ∧ d ≤ 32) (hN : 0 ≤ (code[k]'hk).2.1) :
    Calls Tryz.prog 143 #[.pointer (some ⟨b, 0, none⟩), .int .i64 k] w (GivesCk w b [x0, x1, .slice a5 code.length c5] (L.set k true) (lookP code D k)) := by
  have hd := h.d
  have hl := h.l
  have hkd : k < D.length := by omega
  have hkl : k < L.length := by omega
  obtain ⟨o1, o2, hv⟩ : ∃ o1 o2 : Int, code[k] = (o1, o2, ()) := ⟨code[k].1, code[k].2.1, rfl⟩
  rw [hv] at hN
  obtain ⟨m, rfl⟩ : ∃ m : Nat, o2 = m := ⟨o2.toNat, by have : 0 ≤ o2 := hN; omega⟩
  obtain ⟨b5, off, rfl, hb5, hTb, r0, r1⟩ := instrs_get hr k hk
  rw [hv] at r0 r1
  have hne := hT b5 hTb
  have h2 := h.mark k hkl
  have k2 := keep_set w b (259 + k) (.bool true)
  have r0' : (w.setCell ⟨b, 259 + k, none⟩ (.bool true)).cell? ⟨b5, off + k * 2, none⟩ = some (.int .i64 o1) := (k2.cell hb5 hne).trans r0
  have r1' : (w.setCell ⟨b, 259 + k, none⟩ (.bool true)).cell? ⟨b5, off + k * 2 + 1, none⟩ = some (.int .i64 m) := (k2.cell hb5 hne).trans r1
  obtain ⟨dk, hdk⟩ : ∃ dk, D[k]'hkd = dk := ⟨_, rfl⟩
  have hdb := hD _ (List.getElem_mem hkd)
  rw [hdk] at hdb
  obtain ⟨ll, hll⟩ : ∃ ll, L[k]'hkl = ll := ⟨_, rfl⟩
  have q4 := h.look k hkl
  rw [hll] at q4
  clear hll
  have f4 := blk_fro h.blk (259 + k)
  have p2 : (w.setCell ⟨b, 259 + k, none⟩ (.bool true)).cell? ⟨b, 2, none⟩ = some (.slice (some ⟨b5, off, none⟩) code.length c5) := h2.head 2 (by omega)
  obtain ⟨tk, ly, htl⟩ : ∃ tk ly, (opAt o1).2.2.1 = tk ∧ (opAt o1).2.2.2 = ly := ⟨_, _, rfl, rfl⟩
  have hsm := opAt_small o1
  rw [htl.1, htl.2] at hsm
  obtain ⟨res, hres⟩ : ∃ res, lookP code D k = res := ⟨_, rfl⟩
  rw [hres]
  have hlk : lookP code D k = (if dk < tk ∨ 32 < dk - tk + ly then .inl (55, (k : Int))
      else if o1 = 30 ∨ o1 = 31 then .inr D
      else if o1 = 18 then leadsP code.length D k m (dk - tk + ly)
      else if o1 = 19 then (match leadsP code.length D k (k + 1) (dk - tk + ly) with
        | .inl x => .inl x
        | .inr D' => leadsP code.length D' k m (dk - tk + ly))
      else leadsP code.length D k (k + 1) (dk - tk + ly)) := by
    have e1 : code.getD k (0, 0, ()) = (o1, (m : Int), ()) := by rw [← hv]; simp [hk]
    have e2 : D.getD k 0 = dk := by rw [← hdk]; simp [hkd]
    unfold lookP
    simp only [e1, e2, htl.1, htl.2]
    rfl
  rw [hres] at hlk
  have htk := (takes_g o1 ((w.setCell ⟨b, 259 + k, none⟩ (.bool true)).alloc (.cells #[.int .i64 o1, .int .i64 m] 144))).mono (R' := fun e w3 => e = .returned (.tuple #[.int .i64 tk, .int .i64 ly]) ∧ w3.heap[w.heap.size]? = some (.cells #[.int .i64 o1, .int .i64 m] 144 (0, 0)) ∧ RowKit.Hid (CkG w3 b [x0, x1, .slice (some ⟨b5, off, none⟩) code.length c5] D (L.set k true)) ∧ RowKit.Hid (Keep (One b) w w3)) (by
    rintro e w3 ⟨rfl, hk3⟩
    have kA := (Keep.refl No (w.setCell ⟨b, 259 + k, none⟩ (.bool true))).alloc (.cells #[.int .i64 o1, .int .i64 m] 144)
    have xA := blk_new (w.setCell ⟨b, 259 + k, none⟩ (.bool true)) (.cells #[.int .i64 o1, .int .i64 m] 144)
    simp only [World.size_setCell] at xA
    exact ⟨by rw [htl.1, htl.2], hk3.out.blk xA (fun x => x), h2.keep (kA.trans hk3.out) (fun x => x), k2.thenNo (kA.trans hk3.out)⟩)
  obtain ⟨s1, hs1⟩ : ∃ s1, s1 = dk - tk := ⟨_, rfl⟩
  have e1 : IntKind.i64.wrap (dk - tk) = s1 := by rw [hs1]; exact wrap_pc (by omega) (by omega)
  obtain ⟨dp, hdp⟩ : ∃ dp, dp = s1 + ly := ⟨_, rfl⟩
  have e2 : IntKind.i64.wrap (s1 + ly) = dp := by rw [hdp]; exact wrap_pc (by omega) (by omega)
  have e3 : dk - tk + ly = dp := by omega
  have e4 : IntKind.i64.wrap ((k : Int) + 1) = (k : Int) + 1 := wrap_pc (by omega) (by omega)
  rw [e3] at hlk
  have HP : RowKit.Hid (∀ W, CkG W b [x0, x1, .slice (some ⟨b5, off, none⟩) code.length c5] D (L.set k true) → W.cell? ⟨b, 3 + k, none⟩ = some (.int .i64 dk)) := fun W hW => by rw [hW.depth k hkd, hdk]
  have HN := Lib.hid hn
  have HLT := Lib.hid h.lt
  have j0 : (0 : Int) ≤ k := by omega
  have j1 : (k : Int) < 256 := by omega
  have j2 : (k : Int) < code.length := by omega
  have hsn : Keep (One b) w w := Keep.refl _ w
  clear hN hv r0 r1 hr hT hTb hne hb5 h2 k2 hdk hdb htl hsm hres hs1 hdp e3 hkd hkl hd hl hD hn h hk
  by_cases hA : dk < tk ∨ 32 < dp
  · rw [if_pos hA] at hlk
    subst hlk
    rcases Int.lt_or_le dk tk with h1 | h1
    · clear hA
      unfold GivesCk
      go_enter Tryz.func143, Tryz.ntmps143
      go_wp2_with (go_at_call 167; refine htk.mono ?_; clear htk; rintro e w3 ⟨rfl, y3, C3, H3⟩; have q3 := blk_cell y3; have p3 := HP.out w3 C3.out)
      exact ⟨rfl, rfl, H3.out⟩
    · have h2 : (32 : Int) < dp := by omega
      have h3 : ¬ dk < tk := by omega
      clear hA h1
      unfold GivesCk
      go_enter Tryz.func143, Tryz.ntmps143
      go_wp2_with (go_at_call 167; refine htk.mono ?_; clear htk; rintro e w3 ⟨rfl, y3, C3, H3⟩; have q3 := blk_cell y3; have p3 := HP.out w3 C3.out)
      exact ⟨rfl, rfl, H3.out⟩
  · rw [if_neg hA] at hlk
    have h1 : ¬ dk < tk := by omega
    have h2 : ¬ (32 : Int) < dp := by omega
    clear hA
    by_cases g1 : o1 = 30
    · rw [if_pos (.inl g1)] at hlk
      subst hlk
      subst g1
      unfold GivesCk
      go_enter Tryz.func143, Tryz.ntmps143
      go_wp2_with (go_at_call 167; refine htk.mono ?_; clear htk; rintro e w3 ⟨rfl, y3, C3, H3⟩; have q3 := blk_cell y3; have p3 := HP.out w3 C3.out)
      go_end0
      exact ⟨rfl, C3.out, H3.out⟩
    · by_cases g2 : o1 = 31
      · rw [if_pos (.inr g2)] at hlk
        subst hlk
        subst g2
        unfold GivesCk
        go_enter Tryz.func143, Tryz.ntmps143
        go_wp2_with (go_at_call 167; refine htk.mono ?_; clear htk; rintro e w3 ⟨rfl, y3, C3, H3⟩; have q3 := blk_cell y3; have p3 := HP.out w3 C3.out)
        go_end0
        exact ⟨rfl, C3.out, H3.out⟩
      · rw [if_neg (fun h => h.elim g1 g2)] at hlk
        have b1 : (o1 == 30) = false := by simpa using g1
        have b2 : (o1 == 31) = false := by simpa using g2
        by_cases g3 : o1 = 18
        · rw [if_pos g3] at hlk
          subst g3
          clear g1 g2
          have hld : RowKit.Hid (∀ W, CkG W b [x0, x1, .slice (some ⟨b5, off, none⟩) code.length c5] D (L.set k true) → Calls Tryz.prog 181 #[.pointer (some ⟨b, 0, none⟩), .int .i64 k, .int .i64 m, .int .i64 dp] W (GivesCk W b [x0, x1, .slice (some ⟨b5, off, none⟩) code.length c5] (L.set k true) res)) := fun W hW => by
            have := leads_g W b x0 x1 _ code.length c5 D (L.set k true) hW HN.out k m dp
            rw [← hlk] at this
            exact this
          clear hlk
          cases res with
          | inl x =>
            unfold GivesCk
            go_enter Tryz.func143, Tryz.ntmps143
            go_wp2_with (first | (go_at_call 167; refine htk.mono ?_; clear htk; rintro e w3 ⟨rfl, y3, C3, H3⟩; have q3 := blk_cell y3; have p3 := HP.out w3 C3.out) | (go_at_call 181; refine (hld.out w3 C3.out).mono ?_; rintro e w4 ⟨rfl, H4⟩))
            exact ⟨rfl, rfl, H3.out.trans H4⟩
          | inr D2 =>
            unfold GivesCk
            go_enter Tryz.func143, Tryz.ntmps143
            go_wp2_with (first | (go_at_call 167; refine htk.mono ?_; clear htk; rintro e w3 ⟨rfl, y3, C3, H3⟩; have q3 := blk_cell y3; have p3 := HP.out w3 C3.out) | (go_at_call 181; refine (hld.out w3 C3.out).mono ?_; rintro e w4 ⟨rfl, C4, H4⟩))
            go_end0
            exact ⟨rfl, C4, H3.out.trans H4⟩
        · rw [if_neg g3] at hlk
          have b3 : (o1 == 18) = false := by simpa using g3
          by_cases g4 : o1 = 19
          · rw [if_pos g4] at hlk
            subst g4
            clear g1 g2 g3
            obtain ⟨r1, hr1⟩ : ∃ r1, leadsP code.length D k (k + 1) dp = r1 := ⟨_, rfl⟩
            rw [hr1] at hlk
            have hld1 : RowKit.Hid (∀ W, CkG W b [x0, x1, .slice (some ⟨b5, off, none⟩) code.length c5] D (L.set k true) → Calls Tryz.prog 181 #[.pointer (some ⟨b, 0, none⟩), .int .i64 k, .int .i64 (k + 1), .int .i64 dp] W (GivesCk W b [x0, x1, .slice (some ⟨b5, off, none⟩) code.length c5] (L.set k true) r1)) := fun W hW => by
              have := leads_g W b x0 x1 _ code.length c5 D (L.set k true) hW HN.out k (k + 1) dp
              rw [hr1] at this
              exact this
            clear hr1
            cases r1 with
            | inl x =>
              simp only at hlk
              subst hlk
              unfold GivesCk
              go_enter Tryz.func143, Tryz.ntmps143
              go_wp2_with (first | (go_at_call 167; refine htk.mono ?_; clear htk; rintro e w3 ⟨rfl, y3, C3, H3⟩; have q3 := blk_cell y3; have p3 := HP.out w3 C3.out) | (go_at_call 181; refine (hld1.out w3 C3.out).mono ?_; rintro e w4 ⟨rfl, H4⟩))
              exact ⟨rfl, rfl, H3.out.trans H4⟩
            | inr D1 =>
              simp only at hlk
              have hld2 : RowKit.Hid (∀ W, CkG W b [x0, x1, .slice (some ⟨b5, off, none⟩) code.length c5] D1 (L.set k true) → Calls Tryz.prog 181 #[.pointer (some ⟨b, 0, none⟩), .int .i64 k, .int .i64 m, .int .i64 dp] W (GivesCk W b [x0, x1, .slice (some ⟨b5, off, none⟩) code.length c5] (L.set k true) res)) := fun W hW => by
                have := leads_g W b x0 x1 _ code.length c5 D1 (L.set k true) hW HN.out k m dp
                rw [← hlk] at this
                exact this
              clear hlk
              cases res with
              | inl x =>
                unfold GivesCk
                go_enter Tryz.func143, Tryz.ntmps143
                go_wp2_with (first | (go_at_call 167; refine htk.mono ?_; clear htk; rintro e w3 ⟨rfl, y3, C3, H3⟩; have q3 := blk_cell y3; have p3 := HP.out w3 C3.out) | (go_at_call 181; refine (hld1.out w3 C3.out).mono ?_; rintro e w4 ⟨rfl, C4, H4⟩; clear q3 p3 hld1; have hl4 := hld2.out w4 C4; have q5 := blk_cell (H4.blk y3 (fun h => by have : w.heap.size = b := h; have := HLT.out; omega))) | (go_at_call 181; refine hl4.mono ?_; rintro e w5 ⟨rfl, H5⟩))
                exact ⟨rfl, rfl, (H3.out.trans H4).trans H5⟩
              | inr D2 =>
                unfold GivesCk
                go_enter Tryz.func143, Tryz.ntmps143
                go_wp2_with (first | (go_at_call 167; refine htk.mono ?_; clear htk; rintro e w3 ⟨rfl, y3, C3, H3⟩; have q3 := blk_cell y3; have p3 := HP.out w3 C3.out) | (go_at_call 181; refine (hld1.out w3 C3.out).mono ?_; rintro e w4 ⟨rfl, C4, H4⟩; clear q3 p3 hld1; have hl4 := hld2.out w4 C4; have q5 := blk_cell (H4.blk y3 (fun h => by have : w.heap.size = b := h; have := HLT.out; omega))) | (go_at_call 181; refine hl4.mono ?_; rintro e w5 ⟨rfl, C5, H5⟩))
                go_end0
                exact ⟨rfl, C5, (H3.out.trans H4).trans H5⟩
          · rw [if_neg g4] at hlk
            have b4 : (o1 == 19) = false := by simpa using g4
            clear g1 g2 g3 g4
            have hld : RowKit.Hid (∀ W, CkG W b [x0, x1, .slice (some ⟨b5, off, none⟩) code.length c5] D (L.set k true) → Calls Tryz.prog 181 #[.pointer (some ⟨b, 0, none⟩), .int .i64 k, .int .i64 (k + 1), .int .i64 dp] W (GivesCk W b [x0, x1, .slice (some ⟨b5, off, none⟩) code.length c5] (L.set k true) res)) := fun W hW => by
              have := leads_g W b x0 x1 _ code.length c5 D (L.set k true) hW HN.out k (k + 1) dp
              rw [← hlk] at this
              exact this
            clear hlk
            cases res with
            | inl x =>
              unfold GivesCk
              go_enter Tryz.func143, Tryz.ntmps143
              go_wp2_with (first | (go_at_call 167; refine htk.mono ?_; clear htk; rintro e w3 ⟨rfl, y3, C3, H3⟩; have q3 := blk_cell y3; have p3 := HP.out w3 C3.out) | (go_at_call 181; refine (hld.out w3 C3.out).mono ?_; rintro e w4 ⟨rfl, H4⟩))
              exact ⟨rfl, rfl, H3.out.trans H4⟩
            | inr D2 =>
              unfold GivesCk
              go_enter Tryz.func143, Tryz.ntmps143
              go_wp2_with (first | (go_at_call 167; refine htk.mono ?_; clear htk; rintro e w3 ⟨rfl, y3, C3, H3⟩; have q3 := blk_cell y3; have p3 := HP.out w3 C3.out) | (go_at_call 181; refine (hld.out w3 C3.out).mono ?_; rintro e w4 ⟨rfl, C4, H4⟩))
              go_end0
              exact ⟨rfl, C4, H3.out.trans H4⟩
end Go.Proofs.YtfgdnakfikpmpaaGreatDoor
namespace Go.Proofs.YtfgdnakfikpmpaaGreatDoor
open Go Go.RowKit Go.Deep
theorem wp_cast {P : Program} {c : Code} {Q : Exit → Act → World → Prop} {a a' : Act} {w : World} (e : a = a') (h : c.wp P Q a' w) : c.wp P Q a w := e ▸ h
set_option maxRecDepth 10000 in
set_option maxHeartbeats 1000000 in
theorem find_caught (p q s : Nat) (er at' : Int) (w : World) (s0 s1 s2 : Value) (h0 : w.heap[p]? = some (.cells #[s0] 22 (0, 0))) (h1 : w.heap[q]? = some (.cells #[s1] 34 (0, 0))) (h2 : w.heap[s]? = some (.cells #[s2] 3 (0, 0))) (n1 : p ≠ q) (n2 : p ≠ s) (n3 : q ≠ s) (lp : p < w.heap.size) (lq : q < w.heap.size) :
    CallsD Tryz.prog 141 #[.pointer (some ⟨p, 0, none⟩), .pointer (some ⟨q, 0, none⟩), .pointer (some ⟨s, 0, none⟩)] (.panicking [{ v := .iface 233 (.agg #[.int .i64 er, .int .i64 at']), recovered := false }]) w fun e u' w' => e = .returned (.tuple #[]) ∧ u' = .panicking [{ v := .iface 233 (.agg #[.int .i64 er, .int .i64 at']), recovered := true }] ∧ ∃ wx, Keep No w wx ∧ w' = ((wx.setCell ⟨p, 0, none⟩ (.slice none 0 0)).setCell ⟨q, 0, none⟩ (.int .i64 er)).setCell ⟨s, 0, none⟩ (.int .i64 at') := by
  refine callsD_of_wpS Tryz.func141 rfl fun c₀ cs hu => ?_
  apply wpS_seq
  apply wpS_region
  simp [wpOpsS, go_sem, recoverD, hu, Tryz.ntmps141, Exit.thenS]
  apply wpS_seq
  apply wpS_region
  simp [wpOpsS, go_sem, Exit.thenS]
  refine wpS_cond (t := true) (by simp [Act.eval, Array.replicate]) ?_
  simp only [if_true]
  have hta : ∀ W, (Instr.typeAssert (.iface 233 (.agg #[.int .i64 er, .int .i64 at'])) 20 233 true).run Tryz.prog W = .ok (.tuple #[.agg #[.int .i64 er, .int .i64 at'], .bool true]) W := fun W => by kernel_rfl
  refine wpS_of_wp ?_
  refine wp_cast (a' := { tmps := #[.pointer (some ⟨p, 0, none⟩), .pointer (some ⟨q, 0, none⟩), .pointer (some ⟨s, 0, none⟩), (.iface 233 (.agg #[.int .i64 er, .int .i64 at'])), undef, undef, (.iface 233 (.agg #[.int .i64 er, .int .i64 at'])), (.iface 233 (.agg #[.int .i64 er, .int .i64 at'])), .bool true, undef, undef, undef, undef, undef, undef, undef, undef, undef, undef, undef, undef], defers := [] }) (by kernel_rfl) ?_
  have kA := ((Keep.refl No w).alloc (.cells #[.int .i64 er, .int .i64 at'] 233)).drew
  have HA := Lib.hid kA
  have qG := blk_cell (((Keep.refl No (w.alloc (.cells #[.int .i64 er, .int .i64 at'] 233))).drew).blk (blk_new w (.cells #[.int .i64 er, .int .i64 at'] 233)) (fun x => x))
  have g0 := blk_cell (kA.blk h0 (fun x => x))
  have g1 := blk_cell (kA.blk h1 (fun x => x))
  have g2 := blk_cell (kA.blk h2 (fun x => x))
  have f0 := blk_fro (kA.blk h0 (fun x => x))
  have f1 := blk_fro (kA.blk h1 (fun x => x))
  have f2 := blk_fro (kA.blk h2 (fun x => x))
  clear kA h0 h1 h2
  go_wp2_with fail
  refine wp_nopc ?_
  refine wp_region_canw [0, 1, 2, 3, 4, 5, 6] [4, 5, 6] [(0, 4), (1, 4), (2, 4), (3, 4), (2, 5), (3, 5)] (by kernel_rfl) (by kernel_rfl) (by kernel_rfl) (by kernel_rfl) (by intro c a d v w h; exact h) ?_
  generalize (w.alloc (.cells #[.int .i64 er, .int .i64 at'] 233)).drew = wx at *
  iterate 4 (refine canw_sil rfl rfl (fun K hK => ?_); go_simp; refine hK _ ?_; clear hK K)
  refine canw_loud [0, 1, 2, 3] rfl rfl rfl (fun K hK => ?_)
  go_wp2_with fail
  refine Mid.normal (hK _ _ ?_ ?_)
  · simp only [List.forall_mem_cons]
    refine ⟨?_, ?_, ?_, ?_, stabs_nil⟩ <;> exact stab_of rfl (fun K hK => by go_simp; exact hK)
  clear hK K
  refine canw_loud [2, 3] rfl rfl rfl (fun K hK => ?_)
  go_wp2_with fail
  refine Mid.normal (hK _ _ ?_ ?_)
  · simp only [List.forall_mem_cons]
    refine ⟨?_, ?_, stabs_nil⟩ <;> exact stab_of rfl (fun K hK => by go_simp; exact hK)
  clear hK K
  refine canw_loud [] rfl rfl rfl (fun K hK => ?_)
  go_wp2_with fail
  refine Mid.normal (hK _ _ stabs_nil ?_)
  clear hK K
  refine canw_nil ?_
  refine NoPc.normal ?_
  clear qG g0 g1 g2 f0 f1 f2 hta
  have hx : ∃ wy, Keep No w wy ∧ (((wx.setCell ⟨p, 0, none⟩ (.slice none 0 0)).setCell ⟨q, 0, none⟩ (.int .i64 er)).setCell ⟨s, 0, none⟩ (.int .i64 at')) = ((wy.setCell ⟨p, 0, none⟩ (.slice none 0 0)).setCell ⟨q, 0, none⟩ (.int .i64 er)).setCell ⟨s, 0, none⟩ (.int .i64 at') := ⟨wx, HA.out, rfl⟩
  change bodyPostS _ _ _ _ _ _ _ _ _
  simp [bodyPostS, results, Tryz.results141, go_sem, hx]
end Go.Proofs.YtfgdnakfikpmpaaGreatDoor
