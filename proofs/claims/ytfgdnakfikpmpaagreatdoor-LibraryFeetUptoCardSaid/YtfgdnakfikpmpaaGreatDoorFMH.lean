/-
  Parts of what is proved for this claim; each declaration is one of the seat's texts.
-/
import Derived.Test.YtfgdnakfikpmpaaGreatDoorFME
import Derived.Test.YtfgdnakfikpmpaaGreatDoorFMF
set_option linter.unusedVariables false
set_option linter.unusedSimpArgs false
namespace Go.Proofs.YtfgdnakfikpmpaaGreatDoor
open Go Go.RowKit Go.Deep
theorem repl_at {α : Type} (n k : Nat) (x d : α) (hk : k < n) : (List.replicate n x).getD k d = x := by
  rw [List.getD_eq_getElem?_getD, List.getElem?_replicate, if_pos hk]
  rfl
theorem repl_no {α : Type} (n k : Nat) (x : α) : (List.replicate n x).getD k x = x := by
  rw [List.getD_eq_getElem?_getD, List.getElem?_replicate]
  split <;> rfl
theorem dep0_at (k : Nat) (hk : k < 256) : dep0.getD k 0 = if 1 ≤ k then -1 else 0 := by
  unfold dep0
  rw [getD_set _ _ _ _ _ (by rw [List.length_replicate]; omega)]
  by_cases e : k = 0
  · rw [if_pos e, if_neg (by omega)]
  · rw [if_neg e, if_pos (by omega), repl_at 256 k (-1) 0 hk]
theorem lk0_at (k : Nat) : lk0.getD k false = false := repl_no 256 k false
theorem set_same {D : List Int} {t : Nat} {p : Int} (ht : t < D.length) (h : D.getD t 0 = p) : D.set t p = D := by
  rw [List.getD_eq_getElem?_getD, List.getElem?_eq_getElem ht] at h
  have h' : D[t] = p := h
  subst h'
  exact List.set_getElem_self ht
def contP (code : List Ins) (f : Nat) (L : List Bool) (k : Nat) (p : Int) (l : List Nat) (D : List Int) : (Int × Int) ⊕ List Int :=
  match leadsF code.length k p l D with
  | .inl x => .inl x
  | .inr D' => runP code f D' L
theorem contP_bad {code : List Ins} {f : Nat} {L : List Bool} {k t : Nat} {p : Int} {l : List Nat} {D : List Int} (h : code.length ≤ t) : contP code f L k p (t :: l) D = .inl (57, (k : Int)) := by
  have e : leadsP code.length D k t p = .inl (57, (k : Int)) := by unfold leadsP; rw [if_pos h]
  unfold contP leadsF
  rw [e]
theorem contP_new {code : List Ins} {f : Nat} {L : List Bool} {k t : Nat} {p : Int} {l : List Nat} {D : List Int} (h : t < code.length) (hd : D.getD t 0 = -1) : contP code f L k p (t :: l) D = contP code f L k p l (D.set t p) := by
  have e : leadsP code.length D k t p = .inr (D.set t p) := by unfold leadsP; rw [if_neg (by omega), if_pos hd]
  unfold contP
  rw [leadsF, e]
theorem contP_other {code : List Ins} {f : Nat} {L : List Bool} {k t : Nat} {p : Int} {l : List Nat} {D : List Int} (h : t < code.length) (hd : D.getD t 0 ≠ -1) (hp : D.getD t 0 ≠ p) : contP code f L k p (t :: l) D = .inl (56, (k : Int)) := by
  have e : leadsP code.length D k t p = .inl (56, (k : Int)) := by unfold leadsP; rw [if_neg (by omega), if_neg hd, if_pos hp]
  unfold contP
  rw [leadsF, e]
theorem contP_same {code : List Ins} {f : Nat} {L : List Bool} {k t : Nat} {p : Int} {l : List Nat} {D : List Int} (h : t < code.length) (hd : D.getD t 0 ≠ -1) (hp : D.getD t 0 = p) : contP code f L k p (t :: l) D = contP code f L k p l D := by
  have e : leadsP code.length D k t p = .inr D := by unfold leadsP; rw [if_neg (by omega), if_neg hd, if_neg (fun x => x hp)]
  unfold contP
  rw [leadsF, e]
theorem run_step {code : List Ins} {f : Nat} {D : List Int} {L : List Bool} {k : Nat} (hn : nextP code.length D L = some k) (hk : k < code.length) (op : Int) (N : Nat) (hop : code[k] = (op, (N : Int), ())) :
    runP code (f + 1) D L = if D.getD k 0 < (opAt op).2.2.1 ∨ 32 < D.getD k 0 - (opAt op).2.2.1 + (opAt op).2.2.2 then .inl (55, (k : Int)) else contP code f (L.set k true) k (D.getD k 0 - (opAt op).2.2.1 + (opAt op).2.2.2) (nextsL op N k) D := by
  rw [runP, hn]
  simp only
  rw [lookP_is code D k hk op N hop]
  by_cases h : D.getD k 0 < (opAt op).2.2.1 ∨ 32 < D.getD k 0 - (opAt op).2.2.1 + (opAt op).2.2.2
  · rw [if_pos h, if_pos h]
  · rw [if_neg h, if_neg h]
    rfl
structure FdW (w : World) (bd bl : Nat) (v1 v2 : Value) (a5 : Option Addr) (c5 : Nat) (n : Nat) (D : List Int) (L : List Bool) (W : World) : Prop where
  keep : Keep No w W
  p : W.heap[w.heap.size]? = some (.cells #[v1, v2, .slice a5 n c5] 27 (0, 0))
  ck : RCk W bd bl n D L
  lo : w.heap.size < bd ∧ w.heap.size < bl
  dl : D.length = 256
  ll : L.length = 256
  bd : ∀ d ∈ D, -1 ≤ d ∧ d ≤ 32
theorem FdW.more {w : World} {bd bl : Nat} {v1 v2 : Value} {a5 : Option Addr} {c5 n : Nat} {D : List Int} {L : List Bool} {W W' : World} (h : FdW w bd bl v1 v2 a5 c5 n D L W) (hk : Keep No W W') : FdW w bd bl v1 v2 a5 c5 n D L W' :=
  ⟨h.keep.trans hk, hk.blk h.p (fun x => x), h.ck.keep hk, h.lo, h.dl, h.ll, h.bd⟩
theorem FdW.mark {w : World} {bd bl : Nat} {v1 v2 : Value} {a5 : Option Addr} {c5 n : Nat} {D : List Int} {L : List Bool} {W : World} (h : FdW w bd bl v1 v2 a5 c5 n D L W) (k : Nat) (hk : k < 256) : FdW w bd bl v1 v2 a5 c5 n D (L.set k true) (W.setCell ⟨bl, k, none⟩ (.bool true)) :=
  ⟨h.keep.then (keep_set W bl k _) fun i hi e => by have : i = bl := e; have := h.lo; omega, blk_other h.p (by have := h.lo; show ¬ bl = w.heap.size; omega) _, h.ck.mark k true (by rw [h.ll]; exact hk), h.lo, h.dl, by rw [List.length_set]; exact h.ll, h.bd⟩
theorem FdW.put {w : World} {bd bl : Nat} {v1 v2 : Value} {a5 : Option Addr} {c5 n : Nat} {D : List Int} {L : List Bool} {W : World} (h : FdW w bd bl v1 v2 a5 c5 n D L W) (t : Nat) (ht : t < 256) (p : Int) (h0 : -1 ≤ p) (h1 : p ≤ 32) : FdW w bd bl v1 v2 a5 c5 n (D.set t p) L (W.setCell ⟨bd, t, none⟩ (.int .i64 p)) :=
  ⟨h.keep.then (keep_set W bd t _) fun i hi e => by have : i = bd := e; have := h.lo; omega, blk_other h.p (by have := h.lo; show ¬ bd = w.heap.size; omega) _, h.ck.put t p (by rw [h.dl]; exact ht), h.lo, by rw [List.length_set]; exact h.dl, h.ll, mem_set_bd h.bd h0 h1⟩
set_option maxRecDepth 10000 in
set_option maxHeartbeats 8000000 in
theorem rFind_g (w : World) (T : Nat → Prop) (v1 v2 : Value) (o1' : v1.oneCell' = true) (o2' : v2.oneCell' = true) (a5 : Option Addr) (c5 : Nat) (code : List Ins) (h5 : Rd (.slice instrSh) w T [.slice a5 code.length c5] code) (hn : 1 ≤ code.length ∧ code.length ≤ 256) (hnat : ∀ k (hk : k < code.length), 0 ≤ (code[k]'hk).2.1) :
    Calls Tryz.prog 101 #[.agg #[v1, v2, .slice a5 code.length c5]] w fun e w' => (∃ v, e = .returned (.tuple #[v, .int .i64 (pgmR (runP code 257 dep0 lk0)).1, .int .i64 (pgmR (runP code 257 dep0 lk0)).2])) ∧ RowKit.Hid (Keep No w w') := by
  obtain ⟨res, hres⟩ : ∃ res, runP code 257 dep0 lk0 = res := ⟨_, rfl⟩
  rw [hres]
  obtain ⟨er, at', hRR⟩ : ∃ er at', pgmR res = (er, at') := ⟨_, _, rfl⟩
  rw [hRR]
  have K1 := (Keep.refl No w).alloc (.cells #[v1, v2, .slice a5 code.length c5] 27)
  have x1 := blk_new w (.cells #[v1, v2, .slice a5 code.length c5] 27)
  have K2 := K1.alloc (.cells (rowA code.length fun _ => .int .i64 0) 3)
  have x2 := blk_alloc (o' := .cells (rowA code.length fun _ => .int .i64 0) 3) x1
  have d2 := blk_new (w.alloc (.cells #[v1, v2, .slice a5 code.length c5] 27)) (.cells (rowA code.length fun _ => .int .i64 0) 3)
  have K3 := K2.alloc (.cells (rowA code.length fun _ => .bool false) 4)
  have x3 := blk_alloc (o' := .cells (rowA code.length fun _ => .bool false) 4) x2
  have d3 := blk_alloc (o' := .cells (rowA code.length fun _ => .bool false) 4) d2
  have l3 := blk_new ((w.alloc (.cells #[v1, v2, .slice a5 code.length c5] 27)).alloc (.cells (rowA code.length fun _ => .int .i64 0) 3)) (.cells (rowA code.length fun _ => .bool false) 4)
  simp only [World.size_alloc] at d3 l3
  have q1 := blk_cell x1
  have q2 := blk_cell x2
  have q3 := blk_cell x3
  have hm1 := mk_ints code.length (by omega) (w.alloc (.cells #[v1, v2, .slice a5 code.length c5] 27))
  have hm2 := mk_bools code.length (by omega) ((w.alloc (.cells #[v1, v2, .slice a5 code.length c5] 27)).alloc (.cells (rowA code.length fun _ => .int .i64 0) 3))
  have HX := Lib.hid (And.intro h5 (And.intro hn (And.intro hnat (And.intro hres hRR))))
  have H3 := Lib.hid (And.intro K3 (And.intro x3 (And.intro d3 l3)))
  have n1 : (1 : Int) ≤ code.length := by omega
  have n256 : (code.length : Int) ≤ 256 := by omega
  clear h5 hn hnat hres hRR K1 K2 K3 x1 x2 x3 d2 d3 l3
  go_enter Tryz.func101, Tryz.ntmps101
  go_upto_region 3 with fail
  clear q1 q2 hm1 hm2
  generalize ((w.alloc (.cells #[v1, v2, .slice a5 code.length c5] 27)).alloc (.cells (rowA code.length fun _ => .int .i64 0) 3)).alloc (.cells (rowA code.length fun _ => .bool false) 4) = w3 at *
  obtain ⟨bd, hbd⟩ : ∃ bd, w.heap.size + 1 = bd := ⟨_, rfl⟩
  rw [hbd] at H3 ⊢
  obtain ⟨bl, hbl⟩ : ∃ bl, bd + 1 = bl := ⟨_, rfl⟩
  rw [hbl] at H3 ⊢
  have HBB := Lib.hid (And.intro hbd hbl)
  clear hbd hbl
  go_wp2_with fail
  go_loopg [7] (code.length - 1) (fun g i wr => ∃ k : Nat, 1 ≤ k ∧ k ≤ code.length ∧ g = code.length - k ∧ i = .int .i64 k ∧ RowKit.Hid (Keep No w wr ∧ wr.heap[w.heap.size]? = some (.cells #[v1, v2, .slice a5 code.length c5] 27 (0, 0)) ∧ wr.heap[bd]? = some (.cells (rowA code.length fun j => .int .i64 (if 1 ≤ j ∧ j < k then -1 else 0)) 3 (0, 0)) ∧ wr.heap[bl]? = some (.cells (rowA code.length fun _ => .bool false) 4 (0, 0))))
  case atStart =>
    refine ⟨1, Nat.le_refl _, HX.out.2.1.1, by omega, rfl, H3.out.1, H3.out.2.1, ?_, H3.out.2.2.2⟩
    rw [H3.out.2.2.1]
    congr 2
    apply rowA_congr
    intro j _
    rw [if_neg (by omega)]
  case round =>
    obtain ⟨k, hk1, hk, rfl, rfl, HR⟩ := hrel
    by_cases hlt : k < code.length
    · have j1 : (k : Int) < code.length := by omega
      have j0 : (0 : Int) ≤ k := by omega
      have j3 : (k : Int) ≤ 256 := by omega
      have r1 := row_cell HR.out.2.2.1 hlt
      have z1 := blk_fro HR.out.2.2.1 k
      have y1 := blk_set HR.out.2.2.1 k (.int .i64 (-1))
      rw [rowA_set] at y1
      have hlo : w.heap.size < bd ∧ w.heap.size < bl ∧ bd ≠ bl := by have := HBB.out; omega
      have HN : RowKit.Hid (Keep No w (wr.setCell ⟨bd, k, none⟩ (.int .i64 (-1))) ∧ (wr.setCell ⟨bd, k, none⟩ (.int .i64 (-1))).heap[w.heap.size]? = some (.cells #[v1, v2, .slice a5 code.length c5] 27 (0, 0)) ∧ (wr.setCell ⟨bd, k, none⟩ (.int .i64 (-1))).heap[bd]? = some (.cells (rowA code.length fun j => .int .i64 (if 1 ≤ j ∧ j < k + 1 then -1 else 0)) 3 (0, 0)) ∧ (wr.setCell ⟨bd, k, none⟩ (.int .i64 (-1))).heap[bl]? = some (.cells (rowA code.length fun _ => .bool false) 4 (0, 0))) := by
        refine ⟨HR.out.1.then (keep_set wr bd k _) fun i hi e => by have : i = bd := e; omega, blk_other HR.out.2.1 (by show ¬ bd = w.heap.size; omega) _, ?_, blk_other HR.out.2.2.2 (by show ¬ bd = bl; exact hlo.2.2) _⟩
        rw [y1]
        congr 2
        apply rowA_congr
        intro j _
        by_cases e : j = k
        · rw [if_pos e, if_pos (by omega)]
        · rw [if_neg e]
          by_cases e2 : 1 ≤ j ∧ j < k
          · rw [if_pos e2, if_pos (by omega)]
          · rw [if_neg e2, if_neg (by omega)]
      have HL := Lib.hid hlt
      clear hlt hk hk1 y1 hlo
      go_wp2_with fail
      go_roundg (code.length - (k + 1))
      case measure => have := HL.out; omega
      case rel => exact ⟨k + 1, by omega, HL.out, rfl, by simp, HN.out⟩
    · obtain rfl : k = code.length := by omega
      have j1 : ¬ (code.length : Int) < code.length := by omega
      have hF : FdW w bd bl v1 v2 a5 c5 code.length dep0 lk0 wr := by
        refine ⟨HR.out.1, HR.out.2.1, ⟨?_, ?_, by have := HBB.out; omega⟩, by have := HBB.out; omega, by unfold dep0; rw [List.length_set, List.length_replicate], List.length_replicate, mem_set_bd (fun d hd => by rw [List.eq_of_mem_replicate hd]; decide) (by decide) (by decide)⟩
        · rw [HR.out.2.2.1]
          congr 2
          apply rowA_congr
          intro j hj
          rw [dep0_at j (by omega)]
          by_cases e : 1 ≤ j
          · rw [if_pos e, if_pos ⟨e, hj⟩]
          · rw [if_neg e, if_neg (fun x => e x.1)]
        · rw [HR.out.2.2.2]
          congr 2
          apply rowA_congr
          intro j _
          rw [lk0_at j]
      have HF0 := Lib.hid hF
      clear hk hk1 hlt hF
      go_wp2_with fail
      have HC0 : RowKit.Hid (lk0.count false = 256) := by show lk0.count false = 256; decide
      clear HR H3
      generalize wr = w4 at *
      go_loopg [] 256 (fun g wq => ∃ (D : List Int) (L : List Bool), g = L.count false ∧ RowKit.Hid (FdW w bd bl v1 v2 a5 c5 code.length D L wq ∧ runP code (L.count false + 1) D L = res))
      case atStart => exact ⟨dep0, lk0, HC0.out.symm, HF0.out, by rw [HC0.out]; exact HX.out.2.2.2.1⟩
      case round =>
        clear HF0 HC0
        obtain ⟨D, L, rfl, HQ⟩ := hrel
        have hls := rLeast_g wr bd bl code.length D L HQ.out.1.ck HX.out.2.1.2 HQ.out.1.bd
        cases hn : nextP code.length D L with
        | none =>
          rw [hn] at hls
          simp only at hls
          have hr0 : er = 0 ∧ at' = 0 := by
            have h1 := HQ.out.2
            rw [runP, hn] at h1
            have h2 := HX.out.2.2.2.2
            rw [← h1] at h2
            have h3 : ((0 : Int), (0 : Int)) = (er, at') := h2
            simp only [Prod.mk.injEq] at h3
            exact ⟨h3.1.symm, h3.2.symm⟩
          obtain ⟨rfl, rfl⟩ := hr0
          have HK := Lib.hid HQ.out.1.keep
          clear hn
          go_wp2_with (go_at_call 146; refine hls.mono ?_; clear hls; rintro e w5 ⟨rfl, hw5⟩)
          subst hw5
          go_ret3
          exact ⟨⟨_, rfl⟩, HK.out⟩
        | some k =>
          rw [hn] at hls
          simp only at hls
          obtain ⟨hkn, hkl⟩ := nextP_spec hn
          obtain ⟨o1, N, hop⟩ : ∃ (o1 : Int) (N : Nat), code[k] = (o1, (N : Int), ()) := ⟨code[k].1, code[k].2.1.toNat, by
            have := HX.out.2.2.1 k hkn
            rw [Int.toNat_of_nonneg this]⟩
          have hrs := run_step (f := L.count false) hn hkn o1 N hop
          rw [HQ.out.2] at hrs
          have hcs := count_set (L := L) (k := k) (by rw [HQ.out.1.ll]; have := HX.out.2.1.2; omega) (by
            rw [List.getD_eq_getElem?_getD, List.getElem?_eq_getElem (by rw [HQ.out.1.ll]; have := HX.out.2.1.2; omega)] at hkl
            exact hkl)
          have hF4 := HQ.out.1.mark k (by have := HX.out.2.1.2; omega)
          have z4 := blk_fro HQ.out.1.ck.l k
          have q4 := HQ.out.1.ck.look k hkn
          have hbk := getD_bd HQ.out.1.bd k
          have j1 : (k : Int) < code.length := by omega
          have j0 : (0 : Int) ≤ k := by omega
          have j3 : (k : Int) ≤ 256 := by omega
          have j4 : ¬ (k : Int) < 0 := by omega
          have HS := Lib.hid (And.intro hrs (And.intro hcs (And.intro hF4 hbk)))
          have HKH : RowKit.Hid (∃ hkn : k < code.length, code[k] = (o1, (N : Int), ())) := ⟨hkn, hop⟩
          generalize L.getD k false = lk at *
          clear hn hkl hkn hop hrs hcs hF4 hbk
          go_upto_region 11 with (go_at_call 146; refine hls.mono ?_; clear hls; rintro e w5 ⟨rfl, hw5⟩; subst hw5)
          have HF4 := Lib.hid HS.out.2.2.1
          generalize w5.setCell ⟨bl, k, none⟩ (.bool true) = w6 at *
          obtain ⟨hkn, hop⟩ := HKH.out
          have hR6 := Lib.hid (HX.out.1.agree _ HF4.out.keep.agreeNo)
          obtain ⟨b5, off5, ha5, -, -, r0, r1⟩ := instrs_get hR6.out k hkn
          rw [hop] at r0 r1
          subst ha5
          have q6 := blk_cell HF4.out.p
          have qd := HF4.out.ck.depth k hkn
          have htk := fun W => rTakes_g o1 W
          have hsm := opAt_small o1
          have hrs := HS.out.1
          have hbk := HS.out.2.2.2
          obtain ⟨dk, hdk⟩ : ∃ dk, D.getD k 0 = dk := ⟨_, rfl⟩
          rw [hdk] at hrs qd hbk
          obtain ⟨t1, ht1⟩ : ∃ t1, (opAt o1).2.2.1 = t1 := ⟨_, rfl⟩
          obtain ⟨t2, ht2⟩ : ∃ t2, (opAt o1).2.2.2 = t2 := ⟨_, rfl⟩
          rw [ht1, ht2] at hrs htk hsm
          obtain ⟨x, hx⟩ : ∃ x, dk - t1 = x := ⟨_, rfl⟩
          obtain ⟨p, hp⟩ : ∃ p, x + t2 = p := ⟨_, rfl⟩
          rw [hx, hp] at hrs
          have e1 : IntKind.i64.wrap (dk - t1) = x := by rw [hx]; exact wrap_pc (by omega) (by omega)
          have e2 : IntKind.i64.wrap (x + t2) = p := by rw [hp]; exact wrap_pc (by omega) (by omega)
          have HP := Lib.hid (show dk - t1 = x ∧ x + t2 = p ∧ 0 ≤ t1 ∧ t1 ≤ 2 ∧ 0 ≤ t2 ∧ t2 ≤ 3 ∧ -1 ≤ dk ∧ dk ≤ 32 from ⟨hx, hp, hsm.1, hsm.2.1, hsm.2.2.1, hsm.2.2.2, hbk.1, hbk.2⟩)
          have r0' : w6.cell? ⟨b5, off5 + k * 2, none⟩ = some (.int .i64 o1) := r0
          clear hx hp hsm hbk hdk ht1 ht2 hkn hop r1 r0 q4 z4
          go_upto_region 13 with (go_at_call 147; refine (htk _).mono ?_; clear htk; rintro e w7 ⟨rfl, hw7⟩; subst hw7)
          by_cases c1 : dk < t1
          · rw [if_pos (.inl c1)] at hrs
            have hr0 : er = 55 ∧ at' = k := by
              have h2 := HX.out.2.2.2.2
              rw [hrs] at h2
              have h3 : ((55 : Int), (k : Int)) = (er, at') := h2
              simp only [Prod.mk.injEq] at h3
              exact ⟨h3.1.symm, h3.2.symm⟩
            obtain ⟨rfl, rfl⟩ := hr0
            have HK := Lib.hid HF4.out.keep
            clear hrs
            go_wp2_with fail
            go_ret3
            exact ⟨⟨_, rfl⟩, HK.out⟩
          by_cases c2 : 32 < p
          · rw [if_pos (.inr c2)] at hrs
            have hr0 : er = 55 ∧ at' = k := by
              have h2 := HX.out.2.2.2.2
              rw [hrs] at h2
              have h3 : ((55 : Int), (k : Int)) = (er, at') := h2
              simp only [Prod.mk.injEq] at h3
              exact ⟨h3.1.symm, h3.2.symm⟩
            obtain ⟨rfl, rfl⟩ := hr0
            have HK := Lib.hid HF4.out.keep
            clear hrs
            go_wp2_with fail
            go_ret3
            exact ⟨⟨_, rfl⟩, HK.out⟩
          rw [if_neg (by omega)] at hrs
          have HRS := Lib.hid (And.intro hrs (show 0 ≤ p ∧ p ≤ 32 by have := HP.out; omega))
          clear hrs e1 e2 r0'
          obtain ⟨hkn, hop⟩ := HKH.out
          have hnx := rNexts_g w7 _ v1 v2 o1' o2' (some ⟨b5, off5, none⟩) c5 code hR6.out k N hkn o1 hop HX.out.2.1.2
          have hl2 : (nextsL o1 N k).length ≤ 2 := by unfold nextsL; split <;> (try split) <;> (try split) <;> simp
          obtain ⟨l, hl⟩ : ∃ l, nextsL o1 N k = l := ⟨_, rfl⟩
          rw [hl] at hnx HRS hl2
          have l2 : (l.length : Int) ≤ 2 := by omega
          have hbdlt := blk_lt HF4.out.ck.d
          have HLT := Lib.hid hbdlt
          clear hkn hop hl hl2 hbdlt
          go_upto_region 16 with (go_at_call 148; refine hnx.mono ?_; clear hnx; rintro e w8 ⟨a, c8, rfl, H8⟩)
          have HF8 := Lib.hid (HF4.out.more H8.out.2.2)
          clear q6 qd HQ
          go_wp2_with fail
          go_loopg [13] l.length (fun g i wq => ∃ (j : Nat) (E : List Int), j ≤ l.length ∧ g = l.length - j ∧ i = .int .i64 j ∧ RowKit.Hid (FdW w bd bl v1 v2 (some ⟨b5, off5, none⟩) c5 code.length E (L.set k true) wq ∧ PlacesAt wq a l ∧ contP code (L.count false) (L.set k true) k p (l.drop j) E = res))
          case atStart => exact ⟨0, D, by omega, by omega, rfl, HF8.out, H8.out.1, by rw [List.drop_zero]; exact HRS.out.1.symm⟩
          case round =>
            obtain ⟨j, E, hj, rfl, rfl, HR⟩ := hrel
            by_cases hlt : j < l.length
            · have i1 : (j : Int) < l.length := by omega
              have i0 : (0 : Int) ≤ j := by omega
              have i3 : (j : Int) ≤ 2 := by omega
              have hct := HR.out.2.2
              rw [List.drop_eq_getElem_cons hlt] at hct
              obtain ⟨b, rfl, hc⟩ := HR.out.2.1 j hlt
              obtain ⟨t, htt⟩ : ∃ t, l[j] = t := ⟨_, rfl⟩
              rw [htt] at hct hc
              have q9 := blk_cell HR.out.1.p
              have hc0 : wr.cell? ⟨b, 0 + j, none⟩ = some (.int .i64 t) := by rw [Nat.zero_add]; exact hc
              have HJ := Lib.hid hlt
              clear htt hlt hj
              by_cases g1 : code.length ≤ t
              · rw [contP_bad g1] at hct
                have t1' : (code.length : Int) ≤ t := by omega
                have hr0 : er = 57 ∧ at' = k := by
                  have h2 := HX.out.2.2.2.2
                  rw [← hct] at h2
                  have h3 : ((57 : Int), (k : Int)) = (er, at') := h2
                  simp only [Prod.mk.injEq] at h3
                  exact ⟨h3.1.symm, h3.2.symm⟩
                obtain ⟨rfl, rfl⟩ := hr0
                have HK := Lib.hid HR.out.1.keep
                clear hct
                clear g1
                go_wp2_with fail
                go_quiet (fail)
                go_wp2_with fail
                go_ret3
                exact ⟨⟨_, rfl⟩, HK.out.drewN _⟩
              · have t1' : ¬ (code.length : Int) ≤ t := by omega
                have t2' : (t : Int) < code.length := by omega
                have t0' : (0 : Int) ≤ t := by omega
                have qe := HR.out.1.ck.depth t (by omega)
                have ze := blk_fro HR.out.1.ck.d t
                have hbe := getD_bd HR.out.1.bd t
                have hp := HRS.out.2
                have HPUT : RowKit.Hid (∀ n, FdW w bd bl v1 v2 (some ⟨b5, off5, none⟩) c5 code.length (E.set t p) (L.set k true) ((wr.drewN n).setCell ⟨bd, t, none⟩ (.int .i64 p))) := fun n => (HR.out.1.more ((Keep.refl No wr).drewN n)).put t (by omega) p (by omega) hp.2
                have HPL : RowKit.Hid (∀ n, PlacesAt ((wr.drewN n).setCell ⟨bd, t, none⟩ (.int .i64 p)) (some ⟨b, 0, none⟩) l) := fun n => HR.out.2.1.keep (((Keep.refl (One bd) wr).drewN n).trans (keep_set _ bd t _)) fun b' e hb => by
                  have h1 := H8.out.2.1 b' e
                  have h2 := HLT.out
                  have h3 : b' = bd := hb
                  omega
                obtain ⟨ee, hee⟩ : ∃ ee, E.getD t 0 = ee := ⟨_, rfl⟩
                rw [hee] at qe hbe
                clear hp
                by_cases g2 : ee = -1
                · rw [contP_new (by omega) (by rw [hee]; exact g2)] at hct
                  subst g2
                  have HCT := Lib.hid hct
                  clear hct hee hbe g1
                  go_wp2_with fail
                  go_quiet (fail)
                  go_wp2_with fail
                  go_roundg (l.length - (j + 1))
                  case measure => have := HJ.out; omega
                  case rel =>
                    exact ⟨j + 1, E.set t p, HJ.out, rfl, by simp, HPUT.out _, HPL.out _, HCT.out⟩
                · have b1 : (0 : Int) ≤ ee := by omega
                  have b2 : ¬ ee < 0 := by omega
                  by_cases g3 : ee = p
                  · rw [contP_same (by omega) (by rw [hee]; exact g2) (by rw [hee]; exact g3)] at hct
                    have hset : E.set t p = E := set_same (by rw [HR.out.1.dl]; omega) (by rw [hee]; exact g3)
                    have HCT := Lib.hid hct
                    rw [hset] at HPUT
                    clear hct hee hbe g1 g2 hset
                    subst g3
                    go_wp2_with fail
                    go_quiet (fail)
                    go_wp2_with fail
                    go_roundg (l.length - (j + 1))
                    case measure => have := HJ.out; omega
                    case rel =>
                      exact ⟨j + 1, E, HJ.out, rfl, by simp, HPUT.out _, HPL.out _, HCT.out⟩
                  · rw [contP_other (by omega) (by rw [hee]; exact g2) (by rw [hee]; exact g3)] at hct
                    have b3 : (ee != p) = true := by simpa using g3
                    have hr0 : er = 56 ∧ at' = k := by
                      have h2 := HX.out.2.2.2.2
                      rw [← hct] at h2
                      have h3 : ((56 : Int), (k : Int)) = (er, at') := h2
                      simp only [Prod.mk.injEq] at h3
                      exact ⟨h3.1.symm, h3.2.symm⟩
                    obtain ⟨rfl, rfl⟩ := hr0
                    have HK := Lib.hid HR.out.1.keep
                    clear hct
                    clear hee hbe g1 g2 g3 HPUT HPL
                    go_wp2_with fail
                    go_quiet (fail)
                    go_wp2_with fail
                    go_ret3
                    exact ⟨⟨_, rfl⟩, HK.out.drewN _⟩
            · obtain rfl : j = l.length := by omega
              have i1 : ¬ (l.length : Int) < l.length := by omega
              have hct := HR.out.2.2
              rw [List.drop_length] at hct
              have hfin : runP code (L.count false) E (L.set k true) = res := hct
              rw [← HS.out.2.1] at hfin
              have HFIN := Lib.hid hfin
              clear hct hfin hj hlt
              go_wp2_with fail
              go_roundg ((L.set k true).count false)
              case measure => have := HS.out.2.1; omega
              case rel => exact ⟨E, L.set k true, rfl, HR.out.1, HFIN.out⟩
theorem rpCheck_g (w : World) (S T : Nat → Prop) (args : Int) (a4 a5 : Option Addr) (c4 c5 : Nat) (consts : List Val) (code : List Ins) (h4 : Rd (.slice valueSh) w S [.slice a4 consts.length c4] consts) (h5 : Rd (.slice instrSh) w T [.slice a5 code.length c5] code) :
    Calls Tryz.prog 53 #[.agg #[.int .i64 args, .slice a4 consts.length c4, .slice a5 code.length c5]] w fun e w' => e = .returned (.tuple #[.int .i64 (pgmE args consts code).1, .int .i64 (pgmE args consts code).2]) ∧ RowKit.Hid (Keep No w w') := by
  have K1 := (Keep.refl No w).alloc (.cells #[.int .i64 args, .slice a4 consts.length c4, .slice a5 code.length c5] 27)
  have x1 := blk_new w (.cells #[.int .i64 args, .slice a4 consts.length c4, .slice a5 code.length c5] 27)
  have q1 := blk_cell x1
  obtain ⟨fe, fa, hF⟩ : ∃ fe fa, formL args consts code = (fe, fa) := ⟨_, _, rfl⟩
  have hf := rForm_g _ S T args a4 a5 c4 c5 consts code (h4.agree _ K1.agreeNo) (h5.agree _ K1.agreeNo)
  rw [hF] at hf
  simp only at hf
  by_cases hz : fe = 0
  · subst hz
    have hf0 : (formL args consts code).1 = 0 := by rw [hF]
    have hE := pgmE_form hf0
    have hok := formL_ok hf0
    have HFD : RowKit.Hid (∀ W, Keep No w W → Calls Tryz.prog 101 #[.agg #[.int .i64 args, .slice a4 consts.length c4, .slice a5 code.length c5]] W fun e w' => (∃ v, e = .returned (.tuple #[v, .int .i64 (pgmE args consts code).1, .int .i64 (pgmE args consts code).2])) ∧ RowKit.Hid (Keep No W w')) := fun W hW => by
      rw [hE]
      exact rFind_g W T _ _ rfl rfl a5 c5 code (h5.agree _ hW.agreeNo) hok.2.2.1 (form_nat hf0)
    have HX := Lib.hid (And.intro K1 x1)
    clear hE hok hf0 hF K1 x1 h4 h5
    generalize (pgmE args consts code).1 = pe at *
    generalize (pgmE args consts code).2 = pa at *
    go_enter Tryz.func53, Tryz.ntmps53
    go_wp2_with (first | (go_at_call 100; refine hf.mono ?_; clear hf; rintro e w2 ⟨rfl, HK2⟩; have q2 := blk_cell (HK2.out.blk HX.out.2 (fun x => x)); clear q1) | (go_at_call 101; refine (HFD.out _ (HX.out.1.trans HK2.out)).mono ?_; clear HFD; rintro e w3 ⟨⟨v, rfl⟩, HK3⟩))
    go_ret2
    exact ⟨rfl, (HX.out.1.trans HK2.out).trans HK3.out⟩
  · have hE : pgmE args consts code = (fe, fa) := by unfold pgmE; rw [if_pos (by rw [hF]; exact hz), hF]
    rw [hE]
    have hb : (fe != 0) = true := by simpa using hz
    have HX := Lib.hid K1
    clear hE hF K1 x1 h4 h5 hz
    go_enter Tryz.func53, Tryz.ntmps53
    go_wp2_with (go_at_call 100; refine hf.mono ?_; clear hf; rintro e w2 ⟨rfl, HK2⟩)
    go_ret2
    exact ⟨rfl, HX.out.trans HK2.out⟩
end Go.Proofs.YtfgdnakfikpmpaaGreatDoor
