/-
  The law's indexed: two indexes that are asked the same.
-/
import Derived.Test.YtnknihmchmmenaaGreatRiD
namespace Go.Proofs.YtnknihmchmmenaaGreat
open Go Go.RowKit Go.Deep
set_option linter.unusedVariables false
set_option linter.unusedSimpArgs false

/-- what Last says -/
def LastOk (l : List Int) (t v : Int) (ok : Bool) : Prop := ∃ k, Below' l t k ∧ ((k = 0 ∧ v = 0 ∧ ok = false) ∨ ∃ h : k - 1 < l.length, 0 < k ∧ v = l[k - 1] ∧ ok = true)
theorem LastOk.eq {l : List Int} {t v v' : Int} {ok ok' : Bool} (h : LastOk l t v ok) (h' : LastOk l t v' ok') : v = v' ∧ ok = ok' := by
  obtain ⟨k, hb, hk⟩ := h
  obtain ⟨k', hb', hk'⟩ := h'
  obtain rfl := hb.eq hb'
  rcases hk with ⟨h1, rfl, rfl⟩ | ⟨h1, h2, rfl, rfl⟩ <;> rcases hk' with ⟨g1, rfl, rfl⟩ | ⟨g1, g2, rfl, rfl⟩
  · exact ⟨rfl, rfl⟩
  · omega
  · omega
  · exact ⟨rfl, rfl⟩
def GivesLO (w : World) (l : List Int) (t : Int) (e : Ending) (w' : World) : Prop := ∃ (v : Int) (ok : Bool), e = .returned (.tuple #[.int .i64 v, .bool ok]) ∧ RowKit.Hid (LastOk l t v ok ∧ Keep No w w')
theorem IxAt.last {w : World} {B : Nat} {S : Nat → Prop} {l : List Ent} (h : IxAt w B S l) (hl : l.length ≤ 65536) (x : ByteArray) (wx : x.size ≤ 9223372036854775807) (t : Int) :
    Calls Tryz.prog 57 #[.pointer (some ⟨B, 0, none⟩), .string x, .int .i64 t] w (GivesLO w (idxs (fun e => hasT e.plan.writes x) 0 l) t) := by
  obtain ⟨lab, ve, m, n, D, hix, -⟩ := h
  have h0 := ixLast_any hix x wx (Nat.le_trans (fI_len l 4 _) (by omega)) (by rw [fI_4]; exact (idxs_sorted _ 0 l).imp fun h => by omega) t
  rw [fI_4] at h0
  refine h0.mono ?_
  rintro e w' ⟨k, hb, rfl, ⟨rfl, rfl⟩ | ⟨h1, h2, rfl⟩⟩
  · exact ⟨_, _, rfl, ⟨0, hb, .inl ⟨rfl, rfl, rfl⟩⟩, Keep.refl _ _⟩
  · exact ⟨_, _, rfl, ⟨k, hb, .inr ⟨h1, h2, rfl, rfl⟩⟩, Keep.refl _ _⟩
theorem RxAt.last {w : World} {B : Nat} {S : Nat → Prop} {l : List Ent} (h : RxAt w B S l) (hl : l.length ≤ 65536) (x : ByteArray) (t : Int) :
    Calls Tryz.prog 101 #[.pointer (some ⟨B, 0, none⟩), .string x, .int .i64 t] w (GivesLO w (idxs (fun e => hasT e.plan.writes x) 0 l) t) := by
  refine (rixLast_any h hl x t).mono ?_
  rintro e w' ⟨k, hb, hk, ⟨rfl, rfl⟩ | ⟨h1, h2, rfl⟩⟩
  · exact ⟨_, _, rfl, ⟨0, hb, .inl ⟨rfl, rfl, rfl⟩⟩, hk⟩
  · exact ⟨_, _, rfl, ⟨k, hb, .inr ⟨h1, h2, rfl, rfl⟩⟩, hk⟩

/-- numbers that are new since m -/
def Cl (m : Nat) (L : List Int) (a : Option Addr) (n c : Nat) (w : World) : Prop := n = L.length ∧ Own (.int .i64) 2 w (Up m) (.slice a n c) L
theorem Cl.more {m : Nat} {L : List Int} {a : Option Addr} {n c : Nat} {w w' : World} (h : Cl m L a n c w) (hk : Keep No w w') : Cl m L a n c w' := ⟨h.1, h.2.agree hk.agreeNo⟩
def GivesCl (m : Nat) (W : World) (L : List Int) (e : Ending) (w' : World) : Prop := ∃ (a : Option Addr) (n c : Nat), e = .returned (.slice a n c) ∧ RowKit.Hid (Cl m L a n c w' ∧ Keep No W w')
theorem cl_of {w W : World} {L : List Int} (hm : w.heap.size ≤ W.heap.size) {e : Ending} {w' : World} (h : Cloned (.int .i64) 2 W L e w') : GivesCl w.heap.size W L e w' := by
  obtain ⟨a, c, rfl, ho, hk⟩ := h
  exact ⟨a, _, c, rfl, ⟨rfl, ho.mono fun k hk => by have := hk.1; show _ ≤ _; omega⟩, hk⟩

/-- a slice of numbers that may be written -/
def Sp (m AB : Nat) (w : World) (a : Option Addr) (n : Nat) : Prop := n ≤ 65536 ∧ (0 < n → ∃ b off cs, a = some ⟨b, off, none⟩ ∧ m ≤ b ∧ b ≠ AB ∧ w.heap[b]? = some (.cells cs 2 (0, 0)) ∧ off + n ≤ cs.size)
theorem Sp.set {m AB : Nat} {w : World} {a : Option Addr} {n : Nat} (h : Sp m AB w a n) (b i : Nat) (v : Value) : Sp m AB (w.setCell ⟨b, i, none⟩ v) a n := by
  refine ⟨h.1, fun hn => ?_⟩
  obtain ⟨b', off, cs, ha, h1, h2, h3, h4⟩ := h.2 hn
  by_cases hb : b' = b
  · subst hb
    exact ⟨b', off, _, ha, h1, h2, blk_set h3 i v, by simpa using h4⟩
  · exact ⟨b', off, cs, ha, h1, h2, blk_other h3 (fun e => hb e.symm) v, h4⟩
theorem Sp.drew {m AB : Nat} {w : World} {a : Option Addr} {n : Nat} (h : Sp m AB w a n) : Sp m AB w.drew a n := h
theorem Cl.sp {m : Nat} {L : List Int} {a : Option Addr} {n c : Nat} {w w' : World} (h : Cl m L a n c w) (hL : L.length ≤ 65536) (hk : Keep No w w') : Sp m w.heap.size w' a n := by
  obtain ⟨h1, g, rows, T, ho, h2, h3, h4, h5⟩ := h
  refine ⟨by omega, fun hn => ?_⟩
  rcases ho.2 with ⟨-, hr, -⟩ | ⟨b, off, cap, cur, rfl, hv, hb, hl, hc, hs, -⟩
  · rw [hr] at h2; simp at h2; omega
  · simp only [Value.slice.injEq] at hv
    obtain ⟨rfl, hn', -⟩ := hv
    have hlt := blk_lt hb
    exact ⟨b, off, cur, rfl, (h4 b rfl).1, by omega, hk.blk hb (fun x => x), by simp only [Sh.size] at hs; omega⟩
/-- the four lists that are spoilt -/
structure Sq (w : World) (AB : Nat) (wr : World) : Prop where
  keep : Keep No w wr
  lo : w.heap.size ≤ AB
  hi : AB < wr.heap.size
  at' : ∀ i : Nat, i < 4 → ∃ (a : Option Addr) (n c : Nat), wr.cell? ⟨AB, i, none⟩ = some (.slice a n c) ∧ Sp w.heap.size AB wr a n
theorem Sq.drew {w : World} {AB : Nat} {wr : World} (h : Sq w AB wr) : Sq w AB wr.drew := ⟨h.keep.drew, h.lo, h.hi, h.at'⟩
theorem Sq.set {w : World} {AB : Nat} {wr : World} (h : Sq w AB wr) {b : Nat} (h1 : w.heap.size ≤ b) (h2 : b ≠ AB) (i : Nat) (v : Value) : Sq w AB (wr.setCell ⟨b, i, none⟩ v) := by
  refine ⟨h.keep.setCell (fun hh => absurd hh (by show ¬ b < _; omega)) v, h.lo, by have := (keep_set wr b i v).size; have := h.hi; omega, fun j hj => ?_⟩
  obtain ⟨a, n, c, e1, e2⟩ := h.at' j hj
  exact ⟨a, n, c, by rw [(keep_set wr b i v).cell h.hi (fun e => h2 e.symm)]; exact e1, e2.set b i v⟩

set_option maxRecDepth 10000 in
set_option maxHeartbeats 8000000 in
theorem indexed_any (w : World) (X R : Nat) (SX SR : Nat → Prop) (l : List Ent) (hx : IxAt w X SX l) (hr : RxAt w R SR l) (hl : l.length ≤ 65536) (hs : (l.map (fun e => e.epoch)).Pairwise (· ≤ ·)) (qc qt : Int) (qn qk : ByteArray) (qa qe : Int)
    (wc : (Lit.int .i64 qc).wf = true) (wt : (Lit.int .u64 qt).wf = true) (wn : qn.size ≤ 9223372036854775807) (wk : qk.size ≤ 9223372036854775807) :
    Calls Tryz.prog 55 #[.pointer (some ⟨X, 0, none⟩), .pointer (some ⟨R, 0, none⟩), .agg #[.int .i64 qc, .int .u64 qt, .string qn, .string qk, .int .i64 qa, .int .i64 qe]] w fun e w' => e = .returned (.bool true) ∧ Keep No w w' := by
  have kx : ∀ W, Keep No w W → IxAt W X SX l := fun W hk => hx.keep hk fun _ _ x => x
  have kr : ∀ W, Keep No w W → RxAt W R SR l := fun W hk => hr.keep hk fun _ _ x => x
  obtain ⟨LC, hLC⟩ : ∃ L, idxs (fun e => e.plan.client == qc) 0 l = L := ⟨_, rfl⟩
  obtain ⟨LN, hLN⟩ : ∃ L, idxs (fun e => decide (e.plan.name = qn)) 0 l = L := ⟨_, rfl⟩
  obtain ⟨LR, hLR⟩ : ∃ L, idxs (fun e => hasT e.plan.reads qk) 0 l = L := ⟨_, rfl⟩
  obtain ⟨LW, hLW⟩ : ∃ L, idxs (fun e => hasT e.plan.writes qk) 0 l = L := ⟨_, rfl⟩
  have HLL : RowKit.Hid (LC.length ≤ 65536 ∧ LN.length ≤ 65536 ∧ LR.length ≤ 65536 ∧ LW.length ≤ 65536) := by
    rw [← hLC, ← hLN, ← hLR, ← hLW]
    exact ⟨Nat.le_trans (idxs_len _ _ _) hl, Nat.le_trans (idxs_len _ _ _) hl, Nat.le_trans (idxs_len _ _ _) hl, Nat.le_trans (idxs_len _ _ _) hl⟩
  have XC : RowKit.Hid (∀ W, Keep No w W → Calls Tryz.prog 49 #[.pointer (some ⟨X, 0, none⟩), .int .i64 qc] W (GivesCl w.heap.size W LC)) := fun W hk => by
    rw [← hLC]; exact ((kx W hk).client hl qc wc).mono fun _ _ h => cl_of hk.size h
  have XN : RowKit.Hid (∀ W, Keep No w W → Calls Tryz.prog 50 #[.pointer (some ⟨X, 0, none⟩), .string qn] W (GivesCl w.heap.size W LN)) := fun W hk => by
    rw [← hLN]; exact ((kx W hk).name hl qn wn).mono fun _ _ h => cl_of hk.size h
  have XR : RowKit.Hid (∀ W, Keep No w W → Calls Tryz.prog 46 #[.pointer (some ⟨X, 0, none⟩), .string qk] W (GivesCl w.heap.size W LR)) := fun W hk => by
    rw [← hLR]; exact ((kx W hk).readers hl qk wk).mono fun _ _ h => cl_of hk.size h
  have XW : RowKit.Hid (∀ W, Keep No w W → Calls Tryz.prog 47 #[.pointer (some ⟨X, 0, none⟩), .string qk] W (GivesCl w.heap.size W LW)) := fun W hk => by
    rw [← hLW]; exact ((kx W hk).writers hl qk wk).mono fun _ _ h => cl_of hk.size h
  have RC : RowKit.Hid (∀ W, Keep No w W → Calls Tryz.prog 105 #[.pointer (some ⟨R, 0, none⟩), .int .i64 1, .int .i64 qc, .string ⟨#[]⟩] W (GivesCl w.heap.size W LC)) := fun W hk => by
    rw [← hLC]; exact (rixByC_any (kr W hk) hl qc).mono fun _ _ h => cl_of hk.size h
  have RN : RowKit.Hid (∀ W, Keep No w W → Calls Tryz.prog 105 #[.pointer (some ⟨R, 0, none⟩), .int .i64 2, .int .i64 0, .string qn] W (GivesCl w.heap.size W LN)) := fun W hk => by
    rw [← hLN]; exact (rixByN_any (kr W hk) hl qn).mono fun _ _ h => cl_of hk.size h
  have RR : RowKit.Hid (∀ W, Keep No w W → Calls Tryz.prog 105 #[.pointer (some ⟨R, 0, none⟩), .int .i64 3, .int .i64 0, .string qk] W (GivesCl w.heap.size W LR)) := fun W hk => by
    rw [← hLR]; exact (rixByR_any (kr W hk) hl qk).mono fun _ _ h => cl_of hk.size h
  have RW : RowKit.Hid (∀ W, Keep No w W → Calls Tryz.prog 105 #[.pointer (some ⟨R, 0, none⟩), .int .i64 4, .int .i64 0, .string qk] W (GivesCl w.heap.size W LW)) := fun W hk => by
    rw [← hLW]; exact (rixByW_any (kr W hk) hl qk).mono fun _ _ h => cl_of hk.size h
  have XL : RowKit.Hid (∀ W, Keep No w W → Calls Tryz.prog 57 #[.pointer (some ⟨X, 0, none⟩), .string qk, .int .i64 qa] W (GivesLO W LW qa)) := fun W hk => by
    rw [← hLW]; exact (kx W hk).last hl qk wk qa
  have RL : RowKit.Hid (∀ W, Keep No w W → Calls Tryz.prog 101 #[.pointer (some ⟨R, 0, none⟩), .string qk, .int .i64 qa] W (GivesLO W LW qa)) := fun W hk => by
    rw [← hLW]; exact (kr W hk).last hl qk qa
  have XE : RowKit.Hid (∀ W, Keep No w W → Calls Tryz.prog 52 #[.pointer (some ⟨X, 0, none⟩), .int .i64 qe] W (GivesEp W (l.map (fun e => e.epoch)) qe)) := fun W hk => (kx W hk).epochs hl hs qe
  have RE : RowKit.Hid (∀ W, Keep No w W → Calls Tryz.prog 102 #[.pointer (some ⟨R, 0, none⟩), .int .i64 qe] W (GivesEp W (l.map (fun e => e.epoch)) qe)) := fun W hk => rixEpoch_any (kr W hk) hl hs qe
  obtain ⟨fv, hfv⟩ : ∃ v, (askI l qc qt).getLast?.getD 0 = v := ⟨_, rfl⟩
  obtain ⟨fo, hfo⟩ : ∃ v, decide (askI l qc qt ≠ []) = v := ⟨_, rfl⟩
  have XF : RowKit.Hid (∀ W, Keep No w W → Calls Tryz.prog 53 #[.pointer (some ⟨X, 0, none⟩), .int .i64 qc, .int .u64 qt] W (fun e w' => e = .returned (.tuple #[.int .i64 fv, .bool fo]) ∧ W = w')) := fun W hk => by
    rw [← hfv, ← hfo]; exact (kx W hk).find qc qt wc wt
  have RF : RowKit.Hid (∀ W, Keep No w W → Calls Tryz.prog 103 #[.pointer (some ⟨R, 0, none⟩), .int .i64 qc, .int .u64 qt] W (fun e w' => e = .returned (.tuple #[.int .i64 fv, .bool fo]) ∧ RowKit.Hid (Keep No W w'))) := fun W hk => by
    rw [← hfv, ← hfo]; exact (rixFind_any (kr W hk) hl qc qt).mono (by rintro e w' ⟨rfl, h⟩; exact ⟨rfl, h⟩)
  have XLn : RowKit.Hid (∀ W, Keep No w W → Calls Tryz.prog 58 #[.pointer (some ⟨X, 0, none⟩)] W (fun e w' => e = .returned (.int .i64 l.length) ∧ W = w')) := fun W hk => by
    obtain ⟨lab, ve, m, n, D, hix, -⟩ := kx W hk
    have := ixLen_any hix
    simpa using this
  obtain ⟨ra, rc, hrb, -⟩ := hr.cell
  have HRB : RowKit.Hid (∀ W, Keep No w W → W.heap[R]? = some (.cells #[.slice ra l.length rc] 106 (0, 0))) := fun W hk => hk.blk hrb fun x => x
  obtain ⟨q, hq⟩ : ∃ q, l.length = q := ⟨_, rfl⟩
  rw [hq] at XLn HRB
  clear hx hr hl hs kx kr hLC hLN hLR hLW wc wt wn wk hfv hfo hrb hq
  go_enter Tryz.func55, Tryz.ntmps55
  go_upto_region 1 with fail
  have xQ0 := blk_new w (.cells #[.int .i64 qc, .int .u64 qt, .string qn, .string qk, .int .i64 qa, .int .i64 qe] 110)
  have kQ0 := ((Keep.refl No w).alloc (.cells #[.int .i64 qc, .int .u64 qt, .string qn, .string qk, .int .i64 qa, .int .i64 qe] 110)).drew
  have xQ : (w.alloc (.cells #[.int .i64 qc, .int .u64 qt, .string qn, .string qk, .int .i64 qa, .int .i64 qe] 110)).drew.heap[w.heap.size]? = some (.cells #[.int .i64 qc, .int .u64 qt, .string qn, .string qk, .int .i64 qa, .int .i64 qe] 110 (0, 0)) := xQ0
  clear xQ0
  obtain ⟨Q, hQ⟩ : ∃ Q, w.heap.size = Q := ⟨_, rfl⟩
  rw [hQ] at xQ
  have cQ := blk_cell xQ
  have HQ := Lib.hid (And.intro xQ kQ0)
  have hc := XC.out _ kQ0
  clear xQ kQ0
  refine wp_region_canw [0, 1, 2, 4, 5, 6, 8, 9, 10, 12, 13, 14, 3, 7, 11, 15, 16, 17, 18, 19] [3, 7, 11, 15] [(4, 3), (5, 3), (6, 3), (8, 3), (9, 3), (10, 3), (12, 3), (13, 3), (14, 3), (8, 7), (9, 7), (10, 7), (12, 7), (13, 7), (14, 7), (12, 11), (13, 11), (14, 11)] (by kernel_rfl) (by kernel_rfl) (by kernel_rfl) (by kernel_rfl) (by intro c a d v w h; cases d <;> exact h) ?_
  rw [hQ]
  generalize (w.alloc (.cells #[.int .i64 qc, .int .u64 qt, .string qn, .string qk, .int .i64 qa, .int .i64 qe] 110)).drew = w2 at *
  iterate 12 (refine canw_sil rfl rfl (fun K hK => ?_); go_simp; refine hK _ ?_; clear hK K)
  refine canw_loud [4, 5, 6, 8, 9, 10, 12, 13, 14] rfl rfl rfl (fun K hK => ?_)
  go_wp2_with (go_at_call 49; refine hc.mono ?_; clear hc; rintro en w3 ⟨aC, nC, cC, rfl, HC⟩)
  have cQ3 := blk_cell (HC.out.2.blk HQ.out.1 (fun x => x))
  refine Mid.normal (hK _ _ ?_ ?_)
  · simp only [List.forall_mem_cons]
    refine ⟨?_, ?_, ?_, ?_, ?_, ?_, ?_, ?_, ?_, stabs_nil⟩ <;> exact stab_of rfl (fun K hK => by go_simp; exact hK)
  clear hK K
  have K3 := Lib.hid (HQ.out.2.trans HC.out.2)
  have hc := XN.out _ K3.out
  refine canw_loud [8, 9, 10, 12, 13, 14] rfl rfl rfl (fun K hK => ?_)
  go_wp2_with (go_at_call 50; refine hc.mono ?_; clear hc; rintro en w4 ⟨aN, nN, cN, rfl, HN⟩)
  have cQ4 := blk_cell ((HC.out.2.trans HN.out.2).blk HQ.out.1 (fun x => x))
  refine Mid.normal (hK _ _ ?_ ?_)
  · simp only [List.forall_mem_cons]
    refine ⟨?_, ?_, ?_, ?_, ?_, ?_, stabs_nil⟩ <;> exact stab_of rfl (fun K hK => by go_simp; exact hK)
  clear hK K
  have K4 := Lib.hid (K3.out.trans HN.out.2)
  have hc := XR.out _ K4.out
  refine canw_loud [12, 13, 14] rfl rfl rfl (fun K hK => ?_)
  go_wp2_with (go_at_call 46; refine hc.mono ?_; clear hc; rintro en w5 ⟨aR, nR, cR, rfl, HR⟩)
  have cQ5 := blk_cell (((HC.out.2.trans HN.out.2).trans HR.out.2).blk HQ.out.1 (fun x => x))
  refine Mid.normal (hK _ _ ?_ ?_)
  · simp only [List.forall_mem_cons]
    refine ⟨?_, ?_, ?_, stabs_nil⟩ <;> exact stab_of rfl (fun K hK => by go_simp; exact hK)
  clear hK K
  have K5 := Lib.hid (K4.out.trans HR.out.2)
  have hc := XW.out _ K5.out
  refine canw_loud [] rfl rfl rfl (fun K hK => ?_)
  go_wp2_with (go_at_call 47; refine hc.mono ?_; clear hc; rintro en w6 ⟨aW, nW, cW, rfl, HW⟩)
  refine Mid.normal (hK _ _ stabs_nil ?_)
  clear hK K
  have HS : RowKit.Hid (Cl w.heap.size LC aC nC cC w6 ∧ Cl w.heap.size LN aN nN cN w6 ∧ Cl w.heap.size LR aR nR cR w6 ∧ Cl w.heap.size LW aW nW cW w6 ∧ Keep No w w6 ∧ w6.heap[Q]? = some (.cells #[.int .i64 qc, .int .u64 qt, .string qn, .string qk, .int .i64 qa, .int .i64 qe] 110 (0, 0))) :=
    ⟨HC.out.1.more ((HN.out.2.trans HR.out.2).trans HW.out.2), HN.out.1.more (HR.out.2.trans HW.out.2), HR.out.1.more HW.out.2, HW.out.1, K5.out.trans HW.out.2, (((HC.out.2.trans HN.out.2).trans HR.out.2).trans HW.out.2).blk HQ.out.1 (fun x => x)⟩
  clear cQ cQ3 cQ4 cQ5 HC HN HR HW K3 K4 K5 HQ
  have cQ := blk_cell HS.out.2.2.2.2.2
  have hc := XL.out _ HS.out.2.2.2.2.1
  iterate 4 (refine canw_sil rfl rfl (fun K hK => ?_); go_simp; refine hK _ ?_; clear hK K)
  refine canw_nil ?_
  go_upto_region 3 with (go_at_call 57; refine hc.mono ?_; clear hc; rintro en w7 ⟨v1, o1, rfl, H7⟩)
  have cQ7 := blk_cell (H7.out.2.blk HS.out.2.2.2.2.2 (fun x => x))
  have hc := RL.out _ (HS.out.2.2.2.2.1.trans H7.out.2)
  clear cQ
  go_upto_region 4 with (go_at_call 101; refine hc.mono ?_; clear hc; rintro en w8 ⟨v2, o2, rfl, H8⟩)
  obtain ⟨rfl, rfl⟩ := LastOk.eq H7.out.1 H8.out.1
  have K8 := Lib.hid (H7.out.2.trans H8.out.2)
  have cQ8 := blk_cell (K8.out.blk HS.out.2.2.2.2.2 (fun x => x))
  have hc := XE.out _ (HS.out.2.2.2.2.1.trans K8.out)
  have hd := RE.out _ (HS.out.2.2.2.2.1.trans K8.out)
  clear cQ7 H7 H8
  go_upto_region 5 with (go_at_call 52; refine hc.mono ?_; clear hc; rintro en w9 ⟨p1, p2, hp1, hp2, hw, rfl⟩; subst hw)
  go_upto_region 6 with (go_at_call 102; refine hd.mono ?_; clear hd; rintro en w9 ⟨p3, p4, hp3, hp4, hw, rfl⟩; subst hw)
  obtain rfl := hp1.eq hp3
  obtain rfl := hp2.eq hp4
  clear hp1 hp2 hp3 hp4
  generalize (p1 : Int) = r1 at *
  generalize (p2 : Int) = r2 at *
  have hc := XF.out _ (HS.out.2.2.2.2.1.trans K8.out)
  have hd := RF.out _ (HS.out.2.2.2.2.1.trans K8.out)
  go_upto_region 7 with (go_at_call 53; refine hc.mono ?_; clear hc; rintro en w9 ⟨rfl, hw⟩; subst hw)
  go_upto_region 8 with (go_at_call 103; refine hd.mono ?_; clear hd; rintro en w9 ⟨rfl, H9⟩)
  have HT : RowKit.Hid (Cl w.heap.size LC aC nC cC w9.drew ∧ Cl w.heap.size LN aN nN cN w9.drew ∧ Cl w.heap.size LR aR nR cR w9.drew ∧ Cl w.heap.size LW aW nW cW w9.drew ∧ Keep No w w9.drew ∧ w9.drew.heap[Q]? = some (.cells #[.int .i64 qc, .int .u64 qt, .string qn, .string qk, .int .i64 qa, .int .i64 qe] 110 (0, 0))) := by
    have k9 := (K8.out.trans H9.out).drew
    obtain ⟨h1, h2, h3, h4, h5, h6⟩ := HS.out
    exact ⟨h1.more k9, h2.more k9, h3.more k9, h4.more k9, h5.trans k9, k9.blk h6 (fun x => x)⟩
  clear cQ8 HS K8 H9
  have cQ := blk_cell HT.out.2.2.2.2.2
  have hc := RC.out _ HT.out.2.2.2.2.1
  refine wp_region_canw [0, 1, 2, 3, 4, 5, 6, 7, 8, 9, 10, 11, 12, 13, 14, 15, 16, 17, 18, 19, 20, 21, 22, 23, 24, 25, 26, 27, 28, 29, 30, 31, 32, 33, 34, 35, 36, 37, 38, 39, 40, 41, 42, 43, 44, 45, 46, 47, 48, 49, 50, 51, 52, 53, 54, 55, 56, 57, 58, 59, 60, 61, 62, 63, 64, 65, 67, 68, 69, 70, 71, 66, 72, 73] [4, 5, 12, 13, 21, 22, 30, 31, 66] [(0, 4), (8, 12), (17, 21), (26, 30), (67, 66), (68, 66), (69, 66), (70, 66), (71, 66)] (by kernel_rfl) (by kernel_rfl) (by kernel_rfl) (by kernel_rfl) (by intro c a d v w h; cases d <;> exact h) ?_
  generalize w9.drew = v0 at *
  iterate 4 (refine canw_sil rfl rfl (fun K hK => ?_); go_simp; refine hK _ ?_; clear hK K)
  refine canw_loud [0] rfl rfl rfl (fun K hK => ?_)
  go_wp2_with (go_at_call 105; refine hc.mono ?_; clear hc; rintro en b0 ⟨ax, nx, cx, rfl, HX⟩)
  refine Mid.normal (hK _ _ ?_ ?_)
  · simp only [List.forall_mem_cons]
    refine ⟨?_, stabs_nil⟩ <;> exact stab_of rfl (fun K hK => by go_simp; exact hK)
  clear hK K
  have hd := (numbers_eq b0 _ _ _ _ _ ((HT.out.1.more ((Keep.refl No v0).trans HX.out.2)).2.rd) HX.out.1.2.rd (by have := HLL.out; omega)).mono (R' := fun e w' => e = .returned (.bool true) ∧ RowKit.Hid (Keep No b0 w')) (by rintro e w' ⟨rfl, h⟩; exact ⟨rfl, h⟩)
  refine canw_loud [] rfl rfl rfl (fun K hK => ?_)
  go_wp2_with (go_at_call 104; refine hd.mono ?_; clear hd; rintro en v1 ⟨rfl, HY⟩)
  refine Mid.normal (hK _ _ stabs_nil ?_)
  clear hK K
  have KV1 := Lib.hid (((Keep.refl No v0).trans HX.out.2).trans HY.out)
  clear HX HY cQ
  have cQ := blk_cell (KV1.out.blk HT.out.2.2.2.2.2 (fun x => x))
  have hc := RN.out _ (HT.out.2.2.2.2.1.trans KV1.out)
  iterate 6 (refine canw_sil rfl rfl (fun K hK => ?_); go_simp; refine hK _ ?_; clear hK K)
  refine canw_loud [8] rfl rfl rfl (fun K hK => ?_)
  go_wp2_with (go_at_call 105; refine hc.mono ?_; clear hc; rintro en b1 ⟨ax, nx, cx, rfl, HX⟩)
  refine Mid.normal (hK _ _ ?_ ?_)
  · simp only [List.forall_mem_cons]
    refine ⟨?_, stabs_nil⟩ <;> exact stab_of rfl (fun K hK => by go_simp; exact hK)
  clear hK K
  have hd := (numbers_eq b1 _ _ _ _ _ ((HT.out.2.1.more (KV1.out.trans HX.out.2)).2.rd) HX.out.1.2.rd (by have := HLL.out; omega)).mono (R' := fun e w' => e = .returned (.bool true) ∧ RowKit.Hid (Keep No b1 w')) (by rintro e w' ⟨rfl, h⟩; exact ⟨rfl, h⟩)
  refine canw_loud [] rfl rfl rfl (fun K hK => ?_)
  go_wp2_with (go_at_call 104; refine hd.mono ?_; clear hd; rintro en v2 ⟨rfl, HY⟩)
  refine Mid.normal (hK _ _ stabs_nil ?_)
  clear hK K
  have KV2 := Lib.hid ((KV1.out.trans HX.out.2).trans HY.out)
  clear HX HY cQ
  have cQ := blk_cell (KV2.out.blk HT.out.2.2.2.2.2 (fun x => x))
  have hc := RR.out _ (HT.out.2.2.2.2.1.trans KV2.out)
  iterate 7 (refine canw_sil rfl rfl (fun K hK => ?_); go_simp; refine hK _ ?_; clear hK K)
  refine canw_loud [17] rfl rfl rfl (fun K hK => ?_)
  go_wp2_with (go_at_call 105; refine hc.mono ?_; clear hc; rintro en b2 ⟨ax, nx, cx, rfl, HX⟩)
  refine Mid.normal (hK _ _ ?_ ?_)
  · simp only [List.forall_mem_cons]
    refine ⟨?_, stabs_nil⟩ <;> exact stab_of rfl (fun K hK => by go_simp; exact hK)
  clear hK K
  have hd := (numbers_eq b2 _ _ _ _ _ ((HT.out.2.2.1.more (KV2.out.trans HX.out.2)).2.rd) HX.out.1.2.rd (by have := HLL.out; omega)).mono (R' := fun e w' => e = .returned (.bool true) ∧ RowKit.Hid (Keep No b2 w')) (by rintro e w' ⟨rfl, h⟩; exact ⟨rfl, h⟩)
  refine canw_loud [] rfl rfl rfl (fun K hK => ?_)
  go_wp2_with (go_at_call 104; refine hd.mono ?_; clear hd; rintro en v3 ⟨rfl, HY⟩)
  refine Mid.normal (hK _ _ stabs_nil ?_)
  clear hK K
  have KV3 := Lib.hid ((KV2.out.trans HX.out.2).trans HY.out)
  clear HX HY cQ
  have cQ := blk_cell (KV3.out.blk HT.out.2.2.2.2.2 (fun x => x))
  have hc := RW.out _ (HT.out.2.2.2.2.1.trans KV3.out)
  iterate 7 (refine canw_sil rfl rfl (fun K hK => ?_); go_simp; refine hK _ ?_; clear hK K)
  refine canw_loud [26] rfl rfl rfl (fun K hK => ?_)
  go_wp2_with (go_at_call 105; refine hc.mono ?_; clear hc; rintro en b3 ⟨ax, nx, cx, rfl, HX⟩)
  refine Mid.normal (hK _ _ ?_ ?_)
  · simp only [List.forall_mem_cons]
    refine ⟨?_, stabs_nil⟩ <;> exact stab_of rfl (fun K hK => by go_simp; exact hK)
  clear hK K
  have hd := (numbers_eq b3 _ _ _ _ _ ((HT.out.2.2.2.1.more (KV3.out.trans HX.out.2)).2.rd) HX.out.1.2.rd (by have := HLL.out; omega)).mono (R' := fun e w' => e = .returned (.bool true) ∧ RowKit.Hid (Keep No b3 w')) (by rintro e w' ⟨rfl, h⟩; exact ⟨rfl, h⟩)
  refine canw_loud [] rfl rfl rfl (fun K hK => ?_)
  go_wp2_with (go_at_call 104; refine hd.mono ?_; clear hd; rintro en v4 ⟨rfl, HY⟩)
  refine Mid.normal (hK _ _ stabs_nil ?_)
  clear hK K
  have KV4 := Lib.hid ((KV3.out.trans HX.out.2).trans HY.out)
  clear HX HY cQ
  have cQ := blk_cell (KV4.out.blk HT.out.2.2.2.2.2 (fun x => x))
  have hc := XLn.out _ (HT.out.2.2.2.2.1.trans KV4.out)
  have cR := blk_cell (HRB.out _ (HT.out.2.2.2.2.1.trans KV4.out))
  iterate 39 (refine canw_sil rfl rfl (fun K hK => ?_); go_simp; refine hK _ ?_; clear hK K)
  refine canw_loud [67, 68, 69, 70, 71] rfl rfl rfl (fun K hK => ?_)
  go_wp2_with (go_at_call 58; refine hc.mono ?_; clear hc; rintro en v5 ⟨rfl, hw⟩; subst hw)
  refine Mid.normal (hK _ _ ?_ ?_)
  · simp only [List.forall_mem_cons]
    refine ⟨?_, ?_, ?_, ?_, ?_, stabs_nil⟩ <;> exact stab_of rfl (fun K hK => by go_simp; exact hK)
  clear hK K
  iterate 2 (refine canw_sil rfl rfl (fun K hK => ?_); go_simp; refine hK _ ?_; clear hK K)
  refine canw_nil ?_
  clear cQ cR
  have HF : RowKit.Hid (Cl w.heap.size LC aC nC cC v4 ∧ Cl w.heap.size LN aN nN cN v4 ∧ Cl w.heap.size LR aR nR cR v4 ∧ Cl w.heap.size LW aW nW cW v4 ∧ Keep No w v4) := by
    obtain ⟨h1, h2, h3, h4, h5, h6⟩ := HT.out
    exact ⟨h1.more KV4.out, h2.more KV4.out, h3.more KV4.out, h4.more KV4.out, h5.trans KV4.out⟩
  clear HT KV1 KV2 KV3 KV4 XC XN XR XW RC RN RR RW XL RL XE RE XF RF XLn HRB
  go_upto_region 11 with fail
  obtain ⟨AB, hAB⟩ : ∃ AB, v4.heap.size = AB := ⟨_, rfl⟩
  have HQ0 : RowKit.Hid (Sq w AB (v4.alloc (.cells #[.slice aC nC cC, .slice aN nN cN, .slice aR nR cR, .slice aW nW cW] 93))) := by
    obtain ⟨h1, h2, h3, h4, h5⟩ := HF.out
    obtain ⟨l1, l2, l3, l4⟩ := HLL.out
    have ka := (Keep.refl No v4).alloc (.cells #[.slice aC nC cC, .slice aN nN cN, .slice aR nR cR, .slice aW nW cW] 93)
    have xA := blk_cell (blk_new v4 (.cells #[.slice aC nC cC, .slice aN nN cN, .slice aR nR cR, .slice aW nW cW] 93))
    refine ⟨h5.alloc _, by rw [← hAB]; exact h5.size, by rw [← hAB]; simp, fun i hi => ?_⟩
    rw [← hAB]
    rcases (show i = 0 ∨ i = 1 ∨ i = 2 ∨ i = 3 by omega) with rfl | rfl | rfl | rfl
    · exact ⟨aC, nC, cC, by rw [xA]; rfl, h1.sp l1 ka⟩
    · exact ⟨aN, nN, cN, by rw [xA]; rfl, h2.sp l2 ka⟩
    · exact ⟨aR, nR, cR, by rw [xA]; rfl, h3.sp l3 ka⟩
    · exact ⟨aW, nW, cW, by rw [xA]; rfl, h4.sp l4 ka⟩
  rw [hAB]
  generalize (v4.alloc (.cells #[.slice aC nC cC, .slice aN nN cN, .slice aR nR cR, .slice aW nW cW] 93)) = v5 at *
  clear HF HLL hAB
  go_wp2_with fail
  go_loopw [24] (fun i wr => ∃ k : Nat, i = .int .i64 k ∧ k ≤ 4 ∧ RowKit.Hid (Sq w AB wr)) (fun i _ => 4 - (intOf i).toNat)
  case atStart => exact ⟨0, rfl, by omega, HQ0.out⟩
  case round =>
    clear HQ0
    obtain ⟨k, rfl, hk, HA⟩ := hrel
    rename World => wo
    by_cases hlt : k < 4
    · obtain ⟨a9, n9, c9, q9, hsp⟩ := HA.out.at' k hlt
      have HSP := Lib.hid (And.intro q9 hsp)
      have j0 : (0 : Int) ≤ (k : Int) := by omega
      have j1 : (k : Int) < 4 := by omega
      have j3 : (k : Int) ≤ 9223372036854775806 := by omega
      clear hk hsp q9
      go_wp2_with fail
      go_loopw [25] (fun i wr => ∃ m : Nat, i = .int .i64 m ∧ RowKit.Hid (m ≤ n9 ∧ Sq w AB wr ∧ wr.cell? ⟨AB, k, none⟩ = some (.slice a9 n9 c9) ∧ Sp w.heap.size AB wr a9 n9)) (fun i _ => n9 - (intOf i).toNat)
      case atStart => exact ⟨0, rfl, Nat.zero_le _, HA.out, HSP.out.1, HSP.out.2⟩
      case round =>
        obtain ⟨m, rfl, HM⟩ := hrel
        rename World => wi
        have q9 := HM.out.2.2.1
        by_cases hm : m < n9
        · obtain ⟨b, off, cs, rfl, hb1, hb2, hb3, hb4⟩ := HM.out.2.2.2.2 (by omega)
          have i0 : (0 : Int) ≤ (m : Int) := by omega
          have i1 : (m : Int) < (n9 : Int) := by omega
          have i3 : (m : Int) ≤ 9223372036854775806 := by have := HM.out.2.2.2.1; omega
          obtain ⟨z, hz⟩ : ∃ z, wi.cell? ⟨b, off + m, none⟩ = some z := by
            rw [blk_cell hb3]
            exact ⟨cs[off + m]'(by omega), Array.getElem?_eq_getElem _⟩
          have fz := blk_fro hb3
          have HB := Lib.hid (And.intro hb1 (And.intro hb2 hm))
          clear hb1 hb2 hb3 hb4 hm
          go_wp2_with fail
          go_roundw
          case rel => exact ⟨m + 1, by simp, HB.out.2.2, HM.out.2.1.set HB.out.1 HB.out.2.1 _ _, by rw [(keep_set wi b _ _).cell HM.out.2.1.hi (fun e => HB.out.2.1 e.symm)]; exact HM.out.2.2.1, HM.out.2.2.2.set _ _ _⟩
          case measure => simp [intOf]; have := HB.out.2.2; omega
        · have i1 : ¬ (m : Int) < (n9 : Int) := by omega
          have HML : RowKit.Hid (k < 4) := hlt
          go_wp2_with fail
          go_roundw
          case rel => exact ⟨k + 1, by simp, HML.out, HM.out.2.1⟩
          case measure => simp [intOf]; have := HML.out; omega
    · have hke : k = 4 := by omega
      subst hke
      have j1 : ¬ (4 : Int) < 4 := by omega
      clear hlt hk
      go_wp2_with fail
      go_ret
      exact ⟨rfl, HA.out.keep⟩
end Go.Proofs.YtnknihmchmmenaaGreat
