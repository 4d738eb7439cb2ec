/-
  Parts of what is proved for this claim; each declaration is one of the seat's texts.
-/
import Derived.Test.YtfgdnakfikpmpaaGreatDoorFLD
set_option linter.unusedVariables false
set_option linter.unusedSimpArgs false
namespace Go.Proofs.YtfgdnakfikpmpaaGreatDoor
open Go Go.RowKit Go.Deep
def rowA (n : Nat) (f : Nat → Value) : Array Value := ((List.range n).map f).toArray
theorem rowA_size (n : Nat) (f : Nat → Value) : (rowA n f).size = n := by simp [rowA]
theorem rowA_get {n k : Nat} {f : Nat → Value} (h : k < n) : (rowA n f)[k]? = some (f k) := by simp [rowA, h]
theorem rowA_congr {n : Nat} {f g : Nat → Value} (h : ∀ j, j < n → f j = g j) : rowA n f = rowA n g := by
  unfold rowA
  rw [List.map_congr_left fun j hj => h j (List.mem_range.1 hj)]
theorem rowA_set {n t : Nat} {f : Nat → Value} (v : Value) : (rowA n f).setIfInBounds t v = rowA n fun j => if j = t then v else f j := by
  apply Array.ext
  · simp [rowA_size]
  · intro i h1 h2
    rw [Array.size_setIfInBounds, rowA_size] at h1
    rw [Array.getElem_setIfInBounds (by rw [rowA_size]; exact h1)]
    by_cases e : t = i
    · subst e; simp [rowA]
    · rw [if_neg e]
      have e2 : ¬ i = t := fun h => e h.symm
      simp [rowA, e2]
theorem row_cell {w : World} {b n k : Nat} {f : Nat → Value} {e : TypeId} (h : w.heap[b]? = some (.cells (rowA n f) e (0, 0))) (hk : k < n) : w.cell? ⟨b, k, none⟩ = some (f k) := by
  rw [blk_cell h k, rowA_get hk]
theorem made_row (z : Value) (n : Nat) : madeCells #[z] n = rowA n fun _ => z := by
  apply Array.toList_inj.1
  rw [toList_madeCells_one]
  simp only [rowA]
  rw [List.map_const']
  simp
theorem mk_ints (n : Nat) (hn : n ≤ 1048576) (W : World) : (Instr.makeSlice 22 (.int .i64 n) (.int .i64 n)).run Tryz.prog W = .ok (.slice (some ⟨W.heap.size, 0, none⟩) n n) (W.alloc (.cells (rowA n fun _ => .int .i64 0) 3)) := by
  obtain ⟨i0, hi, hz0, hz1, hz2⟩ := info_parts Tryz.infoClI
  have := run_make (P := Tryz.prog) W 22 3 i0 _ Tryz.underlying22 hi hz0 .i64 .i64 n n (by omega) (by omega) (by rw [hz2]; omega) (by omega)
  rw [Int.toNat_natCast, hz1, Nat.mul_one] at this
  rw [this]
  simp only [Value.cells]
  rw [made_row]
theorem mk_strs (n : Nat) (hn : n ≤ 1048576) (W : World) : (Instr.makeSlice 23 (.int .i64 n) (.int .i64 n)).run Tryz.prog W = .ok (.slice (some ⟨W.heap.size, 0, none⟩) n n) (W.alloc (.cells (rowA n fun _ => .string noText) 9)) := by
  obtain ⟨i0, hi, hz0, hz1, hz2⟩ := info_parts Tryz.infoText
  have := run_make (P := Tryz.prog) W 23 9 i0 _ Tryz.underlying23 hi hz0 .i64 .i64 n n (by omega) (by omega) (by rw [hz2]; omega) (by omega)
  rw [Int.toNat_natCast, hz1, Nat.mul_one] at this
  rw [this]
  simp only [Value.cells]
  rw [made_row]
  rfl
def tgK (code : List Ins) (k j : Nat) : Bool := (code.take k).any fun i => decide ((opAt i.1).2.1 = 3) && decide (i.2.1 = (j : Int))
theorem tgK_all (code : List Ins) (j : Nat) : tgK code code.length j = isTgt code j := by unfold tgK isTgt; rw [List.take_length]
theorem tgK_step {code : List Ins} {k : Nat} (hk : k < code.length) (j : Nat) : tgK code (k + 1) j = (tgK code k j || (decide ((opAt code[k].1).2.1 = 3) && decide (code[k].2.1 = (j : Int)))) := by
  unfold tgK
  rw [List.take_succ_eq_append_getElem hk, List.any_append]
  simp
def numV (b : Bool) : Value := .int .i64 (if b then 1 else 0)
theorem named_other {code : List Ins} {k n : Nat} (hk : k < code.length) (h : ¬ (opAt code[k].1).2.1 = 3) : rowA n (fun j => numV (tgK code (k + 1) j)) = rowA n fun j => numV (tgK code k j) :=
  rowA_congr fun j _ => by rw [tgK_step hk]; simp [h]
theorem named_set {code : List Ins} {k n t : Nat} (hk : k < code.length) (h : (opAt code[k].1).2.1 = 3) (ht : code[k].2.1 = (t : Int)) : (rowA n fun j => numV (tgK code k j)).setIfInBounds t (.int .i64 1) = rowA n fun j => numV (tgK code (k + 1) j) := by
  rw [rowA_set]
  refine rowA_congr fun j _ => ?_
  rw [tgK_step hk]
  by_cases e : j = t
  · subst e; simp [h, ht, numV]
  · have : ¬ (t : Int) = (j : Int) := by omega
    simp [h, ht, e, this]
def nmT (code : List Ins) (j : Nat) : ByteArray := ⟨(lblS code j).toArray⟩
theorem nmT_size (code : List Ins) (j : Nat) : (nmT code j).size = (lblS code j).length := by simp [nmT, ByteArray.size]
def nmV (code : List Ins) (k j : Nat) : Value := .string (if j < k then nmT code j else noText)
theorem lblNo_step (code : List Ins) (k : Nat) : lblNo code (k + 1) = lblNo code k + if isTgt code k then 1 else 0 := by
  unfold lblNo
  rw [List.range_succ, List.filter_append, List.length_append]
  cases h : isTgt code k <;> simp [h]
theorem lblNo_le (code : List Ins) (k : Nat) : lblNo code k ≤ k := by
  unfold lblNo
  have := List.length_filter_le (isTgt code) (List.range k)
  rwa [List.length_range] at this
theorem names_skip {code : List Ins} {k n : Nat} (h : isTgt code k = false) : rowA n (nmV code (k + 1)) = rowA n (nmV code k) := by
  refine rowA_congr fun j _ => ?_
  unfold nmV
  by_cases e : j = k
  · subst e
    rw [if_pos (by omega), if_neg (by omega)]
    unfold nmT lblS
    rw [h]
    rfl
  · by_cases e2 : j < k
    · rw [if_pos (by omega), if_pos e2]
    · rw [if_neg (by omega), if_neg e2]
theorem names_set {code : List Ins} {k n : Nat} (h : isTgt code k = true) : (rowA n (nmV code k)).setIfInBounds k (.string ⟨(lblW (lblNo code k)).toArray⟩) = rowA n (nmV code (k + 1)) := by
  rw [rowA_set]
  refine rowA_congr fun j _ => ?_
  unfold nmV
  by_cases e : j = k
  · subst e
    rw [if_pos rfl, if_pos (by omega)]
    unfold nmT lblS
    rw [if_pos h]
  · rw [if_neg e]
    by_cases e2 : j < k
    · rw [if_pos e2, if_pos (by omega)]
    · rw [if_neg e2, if_neg (by omega)]
theorem insF_snoc (cs : List Val) (code : List Ins) : ∀ (l : List Ins) (s : Nat) (i : Ins), insF cs code s (l ++ [i]) = insF cs code s l ++ insS cs code (s + l.length) i
  | [], s, i => by simp [insF]
  | a :: l, s, i => by
    rw [List.cons_append, insF, insF, insF_snoc cs code l (s + 1) i, List.append_assoc, List.length_cons]
    rw [show s + 1 + l.length = s + (l.length + 1) by omega]
theorem insF_step {cs : List Val} {code : List Ins} {k : Nat} (hk : k < code.length) : insF cs code 0 (code.take (k + 1)) = insF cs code 0 (code.take k) ++ insS cs code k code[k] := by
  rw [List.take_succ_eq_append_getElem hk, insF_snoc, List.length_take, Nat.zero_add, Nat.min_eq_left (by omega)]
theorem lblS_len (code : List Ins) (k : Nat) (hk : k ≤ 100000) : (lblS code k).length ≤ 22 := by
  unfold lblS
  split
  · have := itoa_len (lblNo code k) (by omega) (by have := lblNo_le code k; omega)
    unfold lblW
    simp
    omega
  · simp
theorem word_len (op : Int) : (opAt op).1.size ≤ 6 := by
  unfold opAt
  split
  · rename_i h
    obtain ⟨k, rfl⟩ : ∃ k : Nat, op = k := ⟨op.toNat, by omega⟩
    have hk : k < 32 := by omega
    rw [Int.toNat_natCast]
    have hall : ∀ k : Fin 32, (opsL.getD k.val (⟨#[]⟩, 0, 0, 0)).1.size ≤ 6 := by decide
    exact hall ⟨k, hk⟩
  · decide
theorem valPrint_len {v : Val} (h : v.ok = true) (hI : v.In) : v.print.length ≤ 140 := by
  unfold Val.print
  split
  · have := itoa_len v.num hI.n0 hI.n1; omega
  · split
    · simp
    · rename_i h1 h0
      have h2 := quoted_len v.text.data.toList
      have : v.text.size ≤ 64 := by
        unfold Val.ok at h
        rw [if_neg h0, if_neg h1] at h
        split at h
        · simp only [Bool.and_eq_true, decide_eq_true_eq] at h
          exact h.1.2
        · cases h
      have e : v.text.data.toList.length = v.text.size := rfl
      simp
      omega
theorem bldWrite2 (B b : Nat) (l : List UInt8) (s : ByteArray) (w : World) (h : Bld B b l w) (hlen : l.length + s.size ≤ 140737488355328) (hBw : B ≤ w.heap.size) :
    Calls Tryz.prog 71 #[.pointer (some ⟨b, 0, none⟩), .string s] w fun e w' => (∃ v, e = .returned v) ∧ Bld B b (l ++ s.data.toList) w' ∧ Below B w w' ∧ Lib.OthersKept 5 (some b) w w' := by
  have := Any.Builder_WriteString_k { Tryz.laysJoin with } Tryz.buildX B b (Lib.byteCells l) s w h (by simpa [Lib.byteCells] using hlen) hBw
  refine this.mono ?_
  rintro e w' ⟨rfl, h1, h2, h3⟩
  refine ⟨⟨_, rfl⟩, ?_, h2, h3⟩
  have h3 : Lib.byteCells (l ++ s.data.toList) = Lib.byteCells l ++ Lib.strCells s := by rw [Lib.byteCells_append, Lib.strCells_eq]
  unfold Bld
  rw [h3]
  exact .inr h1
theorem others_blk {e t : TypeId} {b k : Nat} {w w' : World} {cs : Array Value} (h : Lib.OthersKept e (some b) w w') (hx : w.heap[k]? = some (.cells cs t (0, 0))) (hb : k ≠ b) (ht : t ≠ e) : w'.heap[k]? = some (.cells cs t (0, 0)) :=
  h k _ hx (fun hh => hb (Option.some.inj hh)) (fun c fz hh => by cases hh; exact ht rfl)
theorem cat_toA (a b : List UInt8) : (⟨a.toArray⟩ : ByteArray) ++ ⟨b.toArray⟩ = ⟨(a ++ b).toArray⟩ := by
  apply ByteArray.ext
  simp
theorem cat_list (a b : ByteArray) : (a ++ b).data.toList = a.data.toList ++ b.data.toList := by simp
theorem insS_len {args : Int} {cs : List Val} {code : List Ins} (hc : ∀ v ∈ cs, badC v = false ∧ v.In) (hi : ∀ i ∈ code, badI args cs.length code.length i = false) (ha : args ≤ 8) (hn : code.length ≤ 256) (k : Nat) (hk : k < code.length) : (insS cs code k code[k]).length ≤ 200 := by
  have h1 := lblS_len code k (by omega)
  have h2 := word_len code[k].1
  have h3 : (headA code k).length ≤ 24 := by
    unfold headA
    split
    · simp; omega
    · simp
  have hb := hi _ (List.getElem_mem hk)
  simp only [badI, Bool.or_eq_false_iff, Bool.not_eq_false', fitsB, Bool.and_eq_true, decide_eq_true_eq] at hb
  obtain ⟨i, hii⟩ : ∃ i, code[k] = i := ⟨_, rfl⟩
  rw [hii] at hb h2 ⊢
  obtain ⟨op, N, hcc⟩ : ∃ (op N : Int), i = (op, N, ()) := ⟨i.1, i.2.1, rfl⟩
  subst hcc
  have hb2 : 0 ≤ N ∧ N < mostOf args cs.length code.length (opAt op).2.1 := hb.2
  have h4 : (operS cs code (op, N, ())).length ≤ 141 := by
    unfold operS
    show (if (opAt op).2.1 = 1 then 32 :: (cs.getD N.toNat val0).print else if (opAt op).2.1 = 2 then 32 :: Lib.itoa N else if (opAt op).2.1 = 3 then 32 :: lblS code N.toNat else []).length ≤ 141
    unfold mostOf at hb2
    split
    · rename_i e
      rw [if_pos e] at hb2
      have hN : N.toNat < cs.length := by omega
      have hm := hc cs[N.toNat] (List.getElem_mem hN)
      have hok : (cs[N.toNat]).ok = true := by
        have := hm.1
        unfold badC at this
        simp only [Bool.or_eq_false_iff, Bool.not_eq_false'] at this
        exact this.1
      have := valPrint_len hok hm.2
      rw [show cs.getD N.toNat val0 = cs[N.toNat] by simp [List.getD, hN]]
      simp
      omega
    · split
      · rename_i e1 e2
        rw [if_neg e1, if_pos e2] at hb2
        have := itoa_len N (by omega) (by omega)
        simp
        omega
      · split
        · rename_i e1 e2 e3
          rw [if_neg e1, if_neg e2, if_pos e3] at hb2
          have := lblS_len code N.toNat (by omega)
          simp
          omega
        · simp
  have h5 : ((opAt op).1.data.toList).length = (opAt op).1.size := rfl
  unfold insS
  simp only [List.length_append, List.length_cons, List.length_nil]
  have h2 : (opAt op).1.size ≤ 6 := h2
  show (headA code k).length + ((opAt op).1.data.toList).length + (operS cs code (op, N, ())).length + (0 + 1) ≤ 200
  omega
theorem insF_len {args : Int} {cs : List Val} {code : List Ins} (hc : ∀ v ∈ cs, badC v = false ∧ v.In) (hi : ∀ i ∈ code, badI args cs.length code.length i = false) (ha : args ≤ 8) (hn : code.length ≤ 256) : ∀ k, k ≤ code.length → (insF cs code 0 (code.take k)).length ≤ 200 * k
  | 0, _ => by simp [insF]
  | k + 1, hk => by
    have := insF_len hc hi ha hn k (by omega)
    have h2 := insS_len hc hi ha hn k (by omega)
    rw [insF_step (by omega), List.length_append]
    omega
theorem argsHd_len (n : Int) (h : n ≤ 8) : (argsHd n).length ≤ 30 := by
  unfold argsHd
  split
  · have := itoa_len n (by omega) (by omega)
    simp
    omega
  · simp
end Go.Proofs.YtfgdnakfikpmpaaGreatDoor
namespace Go.Proofs.YtfgdnakfikpmpaaGreatDoor
open Go Go.RowKit Go.Deep
def GivesDis (w : World) (args : Int) (consts : List Val) (code : List Ins) (e : Ending) (w' : World) : Prop :=
  e = .returned (.tuple #[.string ⟨(if (pgmE args consts code).1 = 0 then disS (mkPgm args consts code) else []).toArray⟩, .int .i64 (pgmE args consts code).1]) ∧ RowKit.Hid (Keep No w w')
structure DisW (wr : World) (B : Nat) (acc : List UInt8) (L : Nat) (op N : Int) (X : World) : Prop where
  bld : Bld B B acc X
  keep : Keep No wr X
  blk : X.heap[L]? = some (.cells #[.int .i64 op, .int .i64 N] 144 (0, 0))
structure NmAt (w3 : World) (N1 : Nat) (code : List Ins) (n k : Nat) (wr : World) : Prop where
  keep : Keep (One N1) w3 wr
  blk : wr.heap[N1]? = some (.cells (rowA n fun j => numV (tgK code k j)) 3 (0, 0))
theorem fits_kind {args : Int} {n4 n5 : Nat} {i : Ins} (h : badI args n4 n5 i = false) : 0 ≤ i.2.1 ∧ i.2.1 < mostOf args n4 n5 (opAt i.1).2.1 := by
  simp only [badI, Bool.or_eq_false_iff, Bool.not_eq_false', fitsB, Bool.and_eq_true, decide_eq_true_eq] at h
  exact h.2
set_option maxRecDepth 10000 in
set_option maxHeartbeats 8000000 in
theorem asDis_any (w : World) (S T : Nat → Prop) (args : Int) (consts : List Val) (code : List Ins) (a3 a4 : Option Addr) (c3 c4 : Nat) (h3 : Rd (.slice valueSh) w S [.slice a3 consts.length c3] consts) (h4 : Rd (.slice instrSh) w T [.slice a4 code.length c4] code) (ht : Tab w) :
    Calls Tryz.prog 84 #[.agg #[.int .i64 args, .slice a3 consts.length c3, .slice a4 code.length c4]] w (GivesDis w args consts code) := by
  obtain ⟨pe, hpe⟩ : ∃ e, pgmE args consts code = e := ⟨_, rfl⟩
  have K1 := (Keep.refl No w).alloc (.cells #[.int .i64 args, .slice a3 consts.length c3, .slice a4 code.length c4] 27)
  have x1 := blk_new w (.cells #[.int .i64 args, .slice a3 consts.length c3, .slice a4 code.length c4] 27)
  have hck := pgCheck_g (args := args) h3 h4 _ K1
  unfold GivesDis
  rw [hpe] at hck ⊢
  have HPZ := Lib.hid hpe
  obtain ⟨pe, pk⟩ := pe
  dsimp only at hck ⊢
  obtain ⟨n, hn⟩ : ∃ n, code.length = n := ⟨_, rfl⟩
  have HN := Lib.hid hn
  rw [hn] at hck K1 x1 h4 ⊢
  clear hn
  have q1 := blk_cell x1
  have HX := Lib.hid (And.intro K1 (And.intro x1 (And.intro h3 (And.intro h4 ht))))
  clear hpe K1 x1 h3 h4 ht
  by_cases hp0 : pe = 0
  · subst hp0
    have hform := (pgmE_zero (by rw [HPZ.out])).2
    have hfo := formL_ok hform
    have HF := Lib.hid hfo
    have hn1 : 1 ≤ n ∧ n ≤ 256 := by have := hfo.2.2.1; rw [HN.out] at this; omega
    have i256 : (n : Int) ≤ 256 := by omega
    have hmi := mk_ints n (by omega)
    have hms := mk_strs n (by omega)
    clear hform hfo
    simp only [if_true]
    go_enter Tryz.func84, Tryz.ntmps84
    go_upto_region 5 with (go_at_call 50; refine hck.mono ?_; clear hck; rintro e w2 ⟨rfl, hk2⟩; have HK2 := Lib.hid hk2; clear hk2; have q2 := blk_cell (HK2.out.blk HX.out.2.1 (fun x => x)); clear q1)
    have HK3 := Lib.hid ((HX.out.1.trans HK2.out).alloc (.cells (rowA n fun _ => .int .i64 0) 3))
    have x3 := blk_alloc (o' := .cells (rowA n fun _ => .int .i64 0) 3) (HK2.out.blk HX.out.2.1 (fun x => x))
    have y3 := blk_new w2 (.cells (rowA n fun _ => .int .i64 0) 3)
    have hsz : w.heap.size < w2.heap.size := blk_lt (HK2.out.blk HX.out.2.1 (fun x => x))
    have HB3 := Lib.hid (And.intro x3 (And.intro y3 hsz))
    have q3 := blk_cell x3
    clear x3 y3 hsz q2
    generalize w2.alloc (.cells (rowA n fun _ => .int .i64 0) 3) = w3 at *
    obtain ⟨N1, hN1⟩ : ∃ N, N = w2.heap.size := ⟨_, rfl⟩
    rw [← hN1] at HB3 ⊢
    clear hN1 HK2
    go_wp2_with fail
    go_loopg [33] n (fun g i wr => ∃ k : Nat, k ≤ n ∧ g = n - k ∧ i = .int .i64 k ∧ RowKit.Hid (NmAt w3 N1 code n k wr))
    case atStart => exact ⟨0, by omega, by omega, rfl, Keep.refl _ _, by have := HB3.out.2.1; rw [this]; congr 2⟩
    case round =>
      obtain ⟨k, hk, rfl, rfl, HR⟩ := hrel
      by_cases hlt : k < n
      · have j1 : (k : Int) < n := by omega
        have j0 : (0 : Int) ≤ k := by omega
        have k3 : Keep No w wr := HK3.out.then HR.out.keep (fun i hi e => by have e : i = N1 := e; have := HB3.out.2.2; omega)
        have hkc : k < code.length := by rw [HN.out]; exact hlt
        obtain ⟨bc, fc, hac, -, -, pc0, pc1⟩ := instrs_get (HX.out.2.2.2.1.agree _ k3.agreeNo) k hkc
        have hfit := fits_kind (HF.out.2.2.2.2 _ (List.getElem_mem hkc))
        have hst := fun h => named_other (n := n) hkc h
        have hst2 := fun t h h2 => named_set (n := n) (t := t) hkc h h2
        obtain ⟨ck, hck⟩ : ∃ c, code[k]'hkc = c := ⟨_, rfl⟩
        rw [hck] at pc0 pc1 hfit hst hst2
        obtain ⟨op, N, hcc⟩ : ∃ (op N : Int), ck = (op, N, ()) := ⟨ck.1, ck.2.1, rfl⟩
        subst hcc
        dsimp only at pc0 pc1 hfit hst hst2
        have hfit : 0 ≤ N ∧ N < mostOf args consts.length code.length (opAt op).2.1 := hfit
        subst hac
        have hop := (operand_g op (wr.alloc (.cells #[.int .i64 op, .int .i64 N] 144))).mono (R' := fun e w5 => e = .returned (.int .i64 (opAt op).2.1) ∧ w5.heap[wr.heap.size]? = some (.cells #[.int .i64 op, .int .i64 N] 144 (0, 0)) ∧ RowKit.Hid (Keep No wr w5)) (by
          rintro e w5 ⟨rfl, hk5⟩
          exact ⟨rfl, hk5.out.blk (blk_new _ _) (fun x => x), ((Keep.refl No wr).alloc _).trans hk5.out⟩)
        have HST := Lib.hid (And.intro hst hst2)
        have HME := Lib.hid (And.intro (show n - (k + 1) < n - k by omega) (show k + 1 ≤ n by omega))
        rw [HN.out] at hfit
        clear hst hst2 hck hkc k3 hk hlt
        by_cases h3 : (opAt op).2.1 = 3
        · have hm : mostOf args consts.length n (opAt op).2.1 = n := by rw [h3]; rfl
          rw [hm] at hfit
          obtain ⟨t, rfl⟩ : ∃ t : Nat, N = t := ⟨N.toNat, by omega⟩
          have i1 : (t : Int) < n := hfit.2
          have i0 : (0 : Int) ≤ t := hfit.1
          have ht : t < n := by omega
          have HT := Lib.hid (HST.out.2 t h3 rfl)
          rw [h3] at hop
          clear hm hfit h3
          have hy : ∀ w5, Keep No wr w5 → w5.cell? ⟨N1, t, none⟩ = some (numV (tgK code k t)) := fun w5 h => row_cell (h.blk HR.out.blk (fun x => x)) ht
          have HY := Lib.hid (And.intro hy (fun w5 (h : Keep No wr w5) => blk_fro (h.blk HR.out.blk (fun x => x)) t))
          clear hy ht
          go_wp2_with (go_at_call 128; refine hop.mono ?_; clear hop; rintro e w5 ⟨rfl, x5, HK5⟩; have q5 := blk_cell x5; have r5 := HY.out.1 w5 HK5.out; have z5 := HY.out.2 w5 HK5.out)
          go_roundg (n - (k + 1))
          case measure => exact HME.out.1
          case rel => exact ⟨k + 1, HME.out.2, rfl, by simp, (HR.out.keep.thenNo HK5.out).setCell (p := ⟨N1, t, none⟩) (fun _ => rfl) _, by have := blk_set (HK5.out.blk HR.out.blk (fun x => x)) t (.int .i64 1); rw [HT.out] at this; exact this⟩
        · have b3 : ((opAt op).2.1 == 3) = false := by simpa using h3
          have HT := Lib.hid (HST.out.1 h3)
          generalize (opAt op).2.1 = kd at *
          clear hfit h3
          go_wp2_with (go_at_call 128; refine hop.mono ?_; clear hop; rintro e w5 ⟨rfl, x5, HK5⟩; have q5 := blk_cell x5)
          go_roundg (n - (k + 1))
          case measure => exact HME.out.1
          case rel => exact ⟨k + 1, HME.out.2, rfl, by simp, HR.out.keep.thenNo HK5.out, by rw [HT.out]; exact HK5.out.blk HR.out.blk (fun x => x)⟩
      · have hkn : k = n := by omega
        subst hkn
        have HA := Lib.hid (And.intro HR.out.keep (show wr.heap[N1]? = some (.cells (rowA k fun j => numV (isTgt code j)) 3 (0, 0)) from by
          have := HR.out.blk
          rw [this]
          congr 2
          refine rowA_congr fun j _ => ?_
          rw [← tgK_all, HN.out]))
        have hxr := HA.out.1.blk HB3.out.1 (fun e => by have e : w.heap.size = N1 := e; have := HB3.out.2.2; omega)
        have kr : Keep No w wr := HK3.out.then HR.out.keep (fun i hi e => by have e : i = N1 := e; have := HB3.out.2.2; omega)
        have hnr : N1 < wr.heap.size := blk_lt HA.out.2
        have HD := Lib.hid (And.intro hxr (And.intro kr hnr))
        have qr := blk_cell hxr
        clear hxr kr hnr hlt hk q3 HR
        go_upto_region 13 with fail
        have HK4 := Lib.hid (HD.out.2.1.alloc (.cells (rowA k fun _ => .string noText) 9))
        have x4 := blk_alloc (o' := .cells (rowA k fun _ => .string noText) 9) HD.out.1
        have y4 := blk_alloc (o' := .cells (rowA k fun _ => .string noText) 9) HA.out.2
        have z4 := blk_new wr (.cells (rowA k fun _ => .string noText) 9)
        have HB4 := Lib.hid (And.intro x4 (And.intro y4 (And.intro z4 (And.intro HD.out.2.2 (show w.heap.size < wr.heap.size from Nat.lt_of_lt_of_le (blk_lt HD.out.1) (Nat.le_refl _))))))
        have q4 := blk_cell x4
        clear x4 y4 z4 qr
        generalize wr.alloc (.cells (rowA k fun _ => .string noText) 9) = w4 at *
        obtain ⟨N2, hN2⟩ : ∃ N, N = wr.heap.size := ⟨_, rfl⟩
        rw [← hN2] at HB4 ⊢
        clear hN2 HD
        have HN12 := Lib.hid (show ¬ N1 = N2 by have := HB4.out.2.2.2.1; omega)
        go_wp2_with fail
        go_loopg [52, 10] k (fun g i c wr => ∃ m : Nat, m ≤ k ∧ g = k - m ∧ i = .int .i64 m ∧ c = .int .i64 (lblNo code m) ∧ RowKit.Hid (Keep (One N2) w4 wr ∧ wr.heap[N2]? = some (.cells (rowA k (nmV code m)) 9 (0, 0))))
        case atStart => exact ⟨0, by omega, by omega, rfl, rfl, Keep.refl _ _, by have := HB4.out.2.2.1; rw [this]; congr 2⟩
        case round =>
          obtain ⟨m, hm, rfl, rfl, rfl, HR⟩ := hrel
          by_cases hlt : m < k
          · have j1 : (m : Int) < k := by omega
            have j0 : (0 : Int) ≤ m := by omega
            have c1 := row_cell (HR.out.1.blk HB4.out.2.1 (fun e => HN12.out e)) hlt
            have HME := Lib.hid (And.intro (show k - (m + 1) < k - m by omega) (show m + 1 ≤ k by omega))
            have kr : Keep No w wr := HK4.out.then HR.out.1 (fun i hi e => by have e : i = N2 := e; have := HB4.out.2.2.2.2; omega)
            have hls := lblNo_step code m
            cases hb : isTgt code m with
            | true =>
              have hd := digits_any (lblNo code m : Int) (by omega) (by have := lblNo_le code m; omega) wr (HX.out.2.2.2.2.keep kr)
              have hil := itoa_len (lblNo code m : Int) (by omega) (by have := lblNo_le code m; omega)
              have hnx := names_set (n := k) hb
              unfold lblW at hnx
              obtain ⟨B, hB⟩ : ∃ B, Lib.itoa (lblNo code m : Int) = B := ⟨_, rfl⟩
              rw [hB] at hd hil hnx
              rw [hb] at c1 hls
              have hc : ¬ 9223372036854775807 < 1 + B.length := by omega
              replace c1 : wr.cell? ⟨N1, m, none⟩ = some (.int .i64 1) := c1
              have hlb : (lblNo code m : Int) ≤ 256 := by have := lblNo_le code m; omega
              have hlc : (lblNo code m : Int) + 1 = (lblNo code (m + 1) : Int) := by rw [hls]; simp
              have hy : ∀ w5, Keep No wr w5 → w5.cell? ⟨N2, m, none⟩ = some (nmV code m m) := fun w5 h => row_cell (h.blk HR.out.2 (fun x => x)) hlt
              have HY := Lib.hid (And.intro hy (fun w5 (h : Keep No wr w5) => blk_fro (h.blk HR.out.2 (fun x => x)) m))
              have HNX := Lib.hid (And.intro hnx hlc)
              clear hy hnx hlc hls hil hB hb kr hlt hm
              generalize lblNo code m = q at *
              have q0 : (0 : Int) ≤ q := by omega
              go_wp2_with (go_at_call 73; refine hd.mono ?_; clear hd; rintro e w5 ⟨rfl, hk5⟩; have HK5 := Lib.hid hk5; clear hk5; have r5 := HY.out.1 w5 HK5.out; have z5 := HY.out.2 w5 HK5.out)
              go_roundg (k - (m + 1))
              case measure => exact HME.out.1
              case rel => exact ⟨m + 1, HME.out.2, rfl, by simp, by rw [HNX.out.2], (HR.out.1.thenNo HK5.out).setCell (p := ⟨N2, m, none⟩) (fun _ => rfl) _, by
                have := blk_set (HK5.out.blk HR.out.2 (fun x => x)) m (.string ⟨(108 :: B).toArray⟩)
                rw [HNX.out.1] at this
                rw [show ((⟨#[108]⟩ : ByteArray) ++ ⟨B.toArray⟩) = ⟨(108 :: B).toArray⟩ from cat_toA [108] B]
                exact this⟩
            | false =>
              rw [hb] at c1 hls
              replace c1 : wr.cell? ⟨N1, m, none⟩ = some (.int .i64 0) := c1
              have hlc : lblNo code (m + 1) = lblNo code m := by rw [hls]; simp
              have HNX := Lib.hid (And.intro (names_skip (n := k) hb) hlc)
              clear hlc hls hb kr hlt hm
              generalize lblNo code m = q at *
              go_wp2_with fail
              go_roundg (k - (m + 1))
              case measure => exact HME.out.1
              case rel => exact ⟨m + 1, HME.out.2, rfl, by simp, by rw [HNX.out.2], HR.out.1, by rw [HNX.out.1]; exact HR.out.2⟩
          · obtain rfl : k = m := by omega
            have kr : Keep No w wr := HK4.out.then HR.out.1 (fun i hi e => by have e : i = N2 := e; have := HB4.out.2.2.2.2; omega)
            have xr := HR.out.1.blk HB4.out.1 (fun e => by have e : w.heap.size = N2 := e; have := HB4.out.2.2.2.2; omega)
            have HD := Lib.hid (And.intro kr (And.intro xr HR.out.2))
            have hin : ∀ v ∈ consts, badC v = false ∧ v.In := fun v hv => ⟨HF.out.2.2.2.1 v hv, by
              obtain ⟨i, hi, rfl⟩ := List.getElem_of_mem hv
              obtain ⟨_, _, _, _, _, _, _, _, h, _⟩ := vals_get HX.out.2.2.1 i hi
              exact h⟩
            have HV := Lib.hid hin
            have hil := insF_len (args := args) hin HF.out.2.2.2.2 HF.out.1.2 HF.out.2.2.1.2
            have hal := argsHd_len args HF.out.1.2
            have HLN := Lib.hid (And.intro hil hal)
            have HB0 := Lib.hid (bld_new wr)
            have q5 := blk_cell (blk_alloc (o' := .cells #[.pointer none, .slice none 0 0] 125) xr)
            have HK6 := Lib.hid ((Keep.refl No wr).alloc (.cells #[.pointer none, .slice none 0 0] 125))
            clear kr xr hin hil hal hlt hm q4 HA
            go_upto_region 21 with fail
            generalize wr.alloc (.cells #[.pointer none, .slice none 0 0] 125) = w6 at *
            obtain ⟨B, hB⟩ : ∃ B, B = wr.heap.size := ⟨_, rfl⟩
            have HWS : RowKit.Hid (∀ (W : World) (acc : List UInt8) (x : ByteArray), Bld B B acc W → Keep No wr W → acc.length ≤ 100000 → x.size ≤ 1000 → Calls Tryz.prog 71 #[.pointer (some ⟨B, 0, none⟩), .string x] W fun e w8 => ∃ v, e = .returned v ∧ RowKit.Hid (Bld B B (acc ++ x.data.toList) w8 ∧ Keep No wr w8 ∧ Lib.OthersKept 5 (some B) W w8)) := fun W acc x hb hk ha hx =>
              (bldWrite2 B B acc x W hb (by omega) (by rw [hB]; exact hk.size)).mono (by
                rintro e w8 ⟨⟨v, rfl⟩, h1, h2, h3⟩
                exact ⟨v, rfl, h1, hk.thenUp (by rw [hB]; exact Nat.le_refl _) (Keep.ofB h2), h3⟩)
            rw [← hB] at HB0 ⊢
            have HBB := Lib.hid hB
            clear hB
            obtain ⟨ba, hba⟩ : ∃ b, decide ((0 : Int) < args) = b := ⟨_, rfl⟩
            have HBA := Lib.hid hba
            go_upto_if 70 with fail
            go_cut [13] (fun p wx => p = .pointer (some ⟨B, 0, none⟩) ∧ RowKit.Hid (Bld B B (argsHd args) wx ∧ Keep No wr wx))
            case first =>
              cases ba with
              | true =>
                have hpos : 0 < args := of_decide_eq_true hba
                have HE := Lib.hid (show argsHd args = [97, 114, 103, 115, 32] ++ Lib.itoa args ++ [10] from if_pos hpos)
                have hd := digits_any args (by omega) (by have := HF.out.1.2; omega) w6 ((HX.out.2.2.2.2.keep HD.out.1).keep HK6.out)
                have hil := itoa_len args (by omega) (by have := HF.out.1.2; omega)
                obtain ⟨A, hA⟩ : ∃ A, Lib.itoa args = A := ⟨_, rfl⟩
                rw [hA] at hd hil HE
                have hc : ¬ 9223372036854775807 < 5 + A.length := by omega
                have hc2 : ¬ 9223372036854775807 < 5 + A.length + 1 := by omega
                clear hA hpos hba
                have HIL := Lib.hid hil
                clear hil
                go_wp2_with (go_at_call 73; refine hd.mono ?_; clear hd; rintro e w7 ⟨rfl, hk7⟩; have HK7 := Lib.hid hk7; clear hk7)
                go_at_call 71
                refine (HWS.out _ _ _ (HB0.out.keep HK7.out) (HK6.out.trans HK7.out) (by simp) (by have := HIL.out; simp [ByteArray.size_append, ByteArray.size]; omega)).mono ?_
                rintro e w8 ⟨v, rfl, H8⟩
                go_wp2_with fail
                go_meet
                case rel => exact ⟨rfl, by rw [HE.out]; have := H8.out.1; simpa [cat_list] using this, H8.out.2.1⟩
              | false =>
                have hpos : ¬ 0 < args := of_decide_eq_false hba
                have HE := Lib.hid (show argsHd args = [] from if_neg hpos)
                clear hpos hba
                go_wp2_with fail
                go_meet
                case rel => exact ⟨rfl, by rw [HE.out]; exact HB0.out, HK6.out⟩
            case rest =>
              obtain ⟨rfl, HC⟩ := hcut
              have kc := HD.out.1.trans HC.out.2
              have xc := HC.out.2.blk HD.out.2.1 (fun x => x)
              have qc := blk_cell xc
              clear q5 hba kc xc HK6 HB0
              go_wp2_with fail
              generalize wr = w5 at *
              go_loopg [80] k (fun g i wr => ∃ m : Nat, m ≤ k ∧ g = k - m ∧ i = .int .i64 m ∧ RowKit.Hid (Bld B B (argsHd args ++ insF consts code 0 (code.take m)) wr ∧ Keep No w5 wr))
              case atStart => exact ⟨0, by omega, by omega, rfl, by simpa [insF] using HC.out.1, HC.out.2⟩
              case round =>
                obtain ⟨m, hm, rfl, rfl, HR2⟩ := hrel
                by_cases hlt : m < k
                · have j1 : (m : Int) < k := by omega
                  have j0 : (0 : Int) ≤ m := by omega
                  have kW : Keep No w wr := HD.out.1.trans HR2.out.2
                  have hmc : m < code.length := by rw [HN.out]; exact hlt
                  obtain ⟨bc, fc, hac, -, -, pc0, pc1⟩ := instrs_get (HX.out.2.2.2.1.agree _ kW.agreeNo) m hmc
                  have hfit := fits_kind (HF.out.2.2.2.2 _ (List.getElem_mem hmc))
                  have hstep := insF_step (cs := consts) hmc
                  have hins := insS_len (args := args) HV.out HF.out.2.2.2.2 HF.out.1.2 HF.out.2.2.1.2 m hmc
                  obtain ⟨ck, hck⟩ : ∃ c, code[m]'hmc = c := ⟨_, rfl⟩
                  rw [hck] at pc0 pc1 hfit hstep hins
                  obtain ⟨op, N, hcc⟩ : ∃ (op N : Int), ck = (op, N, ()) := ⟨ck.1, ck.2.1, rfl⟩
                  subst hcc
                  dsimp only at pc0 pc1
                  have hfit : 0 ≤ N ∧ N < mostOf args consts.length code.length (opAt op).2.1 := hfit
                  rw [HN.out] at hfit
                  subst hac
                  have hnm0 : wr.cell? ⟨N2, m, none⟩ = some (.string (nmT code m)) := by
                    have := row_cell (HR2.out.2.blk HD.out.2.2 (fun x => x)) hlt
                    rw [this]
                    unfold nmV
                    rw [if_pos hlt]
                  obtain ⟨nm, hnm⟩ : ∃ n, nmT code m = n := ⟨_, rfl⟩
                  rw [hnm] at hnm0
                  obtain ⟨bn, hbn⟩ : ∃ b, isTgt code m = b := ⟨_, rfl⟩
                  have hn1 : nm.data.toList = lblS code m := by rw [← hnm]; simp [nmT]
                  have hn2 : nm.size ≤ 22 := by rw [← hnm, nmT_size]; exact lblS_len code m (by have := HF.out.2.2.1.2; omega)
                  have hn3 : bn = false → nm = ⟨#[]⟩ := fun h => by rw [← hnm]; unfold nmT lblS; rw [hbn, h]; rfl
                  have hn4 : bn = true → (nm.toList == ([] : List UInt8)) = false := fun h => empty_beq (by rw [← hnm, nmT_size]; unfold lblS lblW; rw [hbn, h]; simp)
                  have hq : (nm.toList == ([] : List UInt8)) = !bn := by
                    cases bn with
                    | true => exact hn4 rfl
                    | false => rw [hn3 rfl]; rw [show ((⟨#[]⟩ : ByteArray).toList) = [] by simp [ByteArray.toList_eq]]; rfl
                  have hh : headA code m = if bn = true then nm.data.toList ++ [58, 32] else [] := by unfold headA; rw [hn1, hbn]
                  have HNM := Lib.hid (And.intro hn2 (And.intro hn3 (And.intro hn4 hh)))
                  obtain ⟨acc, hacc⟩ : ∃ acc, argsHd args ++ insF consts code 0 (code.take m) = acc := ⟨_, rfl⟩
                  have hal : acc.length ≤ 60000 := by
                    rw [← hacc, List.length_append]
                    have h1 := HLN.out.1 m (by omega)
                    have h2 := HLN.out.2
                    have h3 := HF.out.2.2.1.2
                    omega
                  have HAC := Lib.hid (And.intro hal (show argsHd args ++ insF consts code 0 (code.take (m + 1)) = acc ++ insS consts code m (op, N, ()) by rw [hstep, ← List.append_assoc, hacc]))
                  have hb9 := HR2.out.1
                  rw [hacc] at hb9
                  have hszB : B < wr.heap.size := by
                    have h1 := HR2.out.1
                    rcases h1 with h1 | h1 <;> exact World.block_lt_of_cell? _ _ h1.cell0
                  have HW := Lib.hid (And.intro hb9 (And.intro HR2.out.2 hszB))
                  have HME := Lib.hid (And.intro (show k - (m + 1) < k - m by omega) (show m + 1 ≤ k by omega))
                  have HFT := Lib.hid hfit
                  have HOM := Lib.hid (show (operS consts code (op, N, ())).length ≤ 1000 from by unfold insS at hins; simp only [List.length_append] at hins; omega)
                  clear hins
                  clear hn1 hn2 hn3 hn4 hh hnm hstep hck hmc kW hal hacc hb9 hszB hlt hm hfit HR2
                  have hnm1 : (wr.alloc (.cells #[.int .i64 op, .int .i64 N] 144)).cell? ⟨N2, m, none⟩ = some (.string nm) := (((Keep.refl No wr).alloc _).cell (World.block_lt_of_cell? _ _ hnm0) (fun x => x)).trans hnm0
                  have HD0 := Lib.hid (show DisW w5 B acc wr.heap.size op N (wr.alloc (.cells #[.int .i64 op, .int .i64 N] 144)) from ⟨HW.out.1.keep ((Keep.refl No wr).alloc _), HW.out.2.1.alloc _, blk_new _ _⟩)
                  obtain ⟨L, hL⟩ : ∃ L, L = wr.heap.size := ⟨_, rfl⟩
                  have HBL := Lib.hid (show ¬ L = B from by have := HW.out.2.2; omega)
                  have HWD : RowKit.Hid (∀ (X : World) (a x : List UInt8) (y : ByteArray), DisW w5 B a L op N X → a.length ≤ 100000 → y.data.toList = x → y.size ≤ 1000 → Calls Tryz.prog 71 #[.pointer (some ⟨B, 0, none⟩), .string y] X fun e w8 => ∃ v, e = .returned v ∧ RowKit.Hid (DisW w5 B (a ++ x) L op N w8)) := fun X a x y hd ha hx hy => by
                    refine (HWS.out X a y hd.bld hd.keep ha hy).mono ?_
                    rintro e w8 ⟨v, rfl, h⟩
                    refine ⟨v, rfl, ?_⟩
                    rw [← hx]
                    exact ⟨h.out.1, h.out.2.1, others_blk h.out.2.2 hd.blk HBL.out (by decide)⟩
                  rw [← hL] at HD0
                  have HLL := Lib.hid hL
                  clear hL
                  go_upto_if 89 with fail
                  rw [← HLL.out]
                  generalize wr.alloc (.cells #[.int .i64 op, .int .i64 N] 144) = X1 at *
                  clear hnm0 pc0 pc1
                  go_cut [15] (fun p wx => p = .pointer (some ⟨L, 0, none⟩) ∧ RowKit.Hid (DisW w5 B (acc ++ headA code m) L op N wx))
                  case first =>
                    cases bn with
                    | true =>
                      have HE := Lib.hid (show headA code m = nm.data.toList ++ [58, 32] from by rw [HNM.out.2.2.2]; rfl)
                      have hc : ¬ 9223372036854775807 < nm.size + 2 := by have := HNM.out.1; omega
                      clear hq
                      go_wp2_with (go_at_call 71; refine (HWD.out _ acc (headA code m) _ HD0.out (by have := HAC.out.1; omega) (by rw [HE.out, cat_list]) (by rw [ByteArray.size_append]; show nm.size + 2 ≤ 1000; have := HNM.out.1; omega)).mono ?_; rintro e w8 ⟨v, rfl, H8⟩)
                      go_meet
                      case rel => exact ⟨rfl, H8.out⟩
                    | false =>
                      clear hq
                      have HE := Lib.hid (show headA code m = [] from by rw [HNM.out.2.2.2]; rfl)
                      go_wp2_with fail
                      go_meet
                      case rel => exact ⟨rfl, by rw [HE.out, List.append_nil]; exact HD0.out⟩
                  case rest =>
                    obtain ⟨rfl, HC1⟩ := hcut
                    have xl := blk_cell HC1.out.blk
                    have hwd := word_g op wc
                    have hwl := word_len op
                    have hhl : (headA code m).length ≤ 24 := by
                      unfold headA
                      split
                      · have := lblS_len code m (by have := HF.out.2.2.1.2; have := HME.out.2; omega); simp; omega
                      · simp
                    have HLW := Lib.hid (And.intro hwl hhl)
                    clear hq hwl hhl hnm1
                    obtain ⟨kd, hkd⟩ : ∃ k, (opAt op).2.1 = k := ⟨_, rfl⟩
                    have hpd := fun X => operand_g op X
                    rw [hkd] at hpd
                    go_upto_block 6 with (first | (go_at_call 129; refine hwd.mono ?_; clear hwd; rintro e w8 ⟨rfl, hk8⟩; have HD8 := Lib.hid (show DisW w5 B (acc ++ headA code m) L op N w8 from ⟨HC1.out.bld.keep hk8.out, HC1.out.keep.trans hk8.out, hk8.out.blk HC1.out.blk (fun x => x)⟩)) | (go_at_call 71; refine (HWD.out _ (acc ++ headA code m) _ _ HD8.out (by have := HAC.out.1; have := HLW.out.2; rw [List.length_append]; omega) rfl (by have := HLW.out.1; omega)).mono ?_; rintro e w9 ⟨v, rfl, H9⟩; have x9 := blk_cell H9.out.blk) | (go_at_call 128; refine (hpd _).mono ?_; clear hpd; rintro e w10 ⟨rfl, hk10⟩; have HD10 := Lib.hid (show DisW w5 B (acc ++ headA code m ++ (opAt op).1.data.toList) L op N w10 from ⟨H9.out.bld.keep hk10.out, H9.out.keep.trans hk10.out, hk10.out.blk H9.out.blk (fun x => x)⟩); have x10 := blk_cell HD10.out.blk))
                    obtain ⟨A, hA⟩ : ∃ A, acc ++ headA code m ++ (opAt op).1.data.toList = A := ⟨_, rfl⟩
                    have hAl : A.length ≤ 61000 := by
                      rw [← hA, List.length_append, List.length_append]
                      have h1 := HAC.out.1
                      have h2 := HLW.out
                      have h3 : (opAt op).1.data.toList.length = (opAt op).1.size := rfl
                      omega
                    have hfin : argsHd args ++ insF consts code 0 (code.take (m + 1)) = A ++ operS consts code (op, N, ()) ++ [10] := by
                      rw [HAC.out.2, ← hA]
                      show acc ++ (headA code m ++ (opAt op).1.data.toList ++ operS consts code (op, N, ()) ++ [10]) = _
                      simp only [List.append_assoc]
                    rw [hA] at HD10
                    have hol : operS consts code (op, N, ()) = if kd = 1 then 32 :: (consts.getD N.toNat val0).print else if kd = 2 then 32 :: Lib.itoa N else if kd = 3 then 32 :: lblS code N.toNat else [] := by
                      rw [← hkd]; rfl
                    have hfit := HFT.out
                    rw [hkd] at hfit
                    have hkc := opKind op
                    rw [hkd] at hkc
                    have HAF := Lib.hid (And.intro hAl (And.intro hfin (And.intro hfit hkc)))
                    have kz := Lib.hid (HD.out.1.trans HD10.out.keep)
                    have xP := blk_cell (HD10.out.keep.blk HD.out.2.1 (fun x => x))
                    have HOL := Lib.hid hol
                    clear x9 xl hA hAl hfin hkd qc hfit hkc hol
                    go_cut [15] (fun p wx => p = .pointer (some ⟨L, 0, none⟩) ∧ RowKit.Hid (DisW w5 B (A ++ operS consts code (op, N, ())) L op N wx))
                    case first =>
                      by_cases e1 : kd = 1
                      · subst e1
                        have hfit := HAF.out.2.2.1
                        have hN : N.toNat < consts.length := by have := hfit.2; unfold mostOf at this; rw [if_pos rfl] at this; omega
                        obtain ⟨t, rfl⟩ : ∃ t : Nat, N = t := ⟨N.toNat, by omega⟩
                        rw [Int.toNat_natCast] at hN
                        have i1 : (t : Int) < consts.length := by omega
                        have i0 : (0 : Int) ≤ t := by omega
                        obtain ⟨bv, fv, hav, hbv, -, s0, s1, s2, hI, hs⟩ := vals_get (HX.out.2.2.1.agree _ kz.out.agreeNo) t hN
                        have hgv := HV.out _ (List.getElem_mem hN)
                        have hok : (consts[t]'hN).ok = true := by
                          have := hgv.1
                          unfold badC at this
                          simp only [Bool.or_eq_false_iff, Bool.not_eq_false'] at this
                          exact this.1
                        have hpl := valPrint_len hok hI
                        have hol : operS consts code (op, (t : Int), ()) = 32 :: (consts[t]'hN).print := by
                          rw [HOL.out, if_pos rfl, Int.toNat_natCast]
                          congr 2
                          simp [List.getD, hN]
                        obtain ⟨v, hv⟩ : ∃ v, consts[t]'hN = v := ⟨_, rfl⟩
                        rw [hv] at s0 s1 s2 hI hs hok hpl hol
                        have hpr := printV_any v hok hI w10 (HX.out.2.2.2.2.keep kz.out)
                        subst hav
                        obtain ⟨pv, hpv⟩ : ∃ l, v.print = l := ⟨_, rfl⟩
                        rw [hpv] at hpr hpl hol
                        have hc : ¬ 9223372036854775807 < 1 + pv.length := by omega
                        have HOL2 := Lib.hid (And.intro hol hpl)
                        clear hfit hgv hok hpl hol hv hpv hI hs hbv hN
                        generalize v.kind = y1 at *
                        generalize v.num = y2 at *
                        generalize v.text = y3 at *
                        go_wp2_with (go_at_call 130; refine hpr.mono ?_; clear hpr; rintro e w11 ⟨rfl, hk11⟩; have HD11 := Lib.hid (show DisW w5 B A L op (t : Int) w11 from ⟨HD10.out.bld.keep hk11, HD10.out.keep.trans hk11, hk11.blk HD10.out.blk (fun x => x)⟩); clear hk11)
                        go_at_call 71
                        refine (HWD.out _ A (operS consts code (op, (t : Int), ())) _ HD11.out (by have := HAF.out.1; omega) (by rw [HOL2.out.1, cat_list]; simp) (by rw [ByteArray.size_append]; show 1 + pv.toArray.size ≤ 1000; have := HOL2.out.2; simp; omega)).mono ?_
                        rintro e w12 ⟨v, rfl, H12⟩
                        go_wp2_with fail
                        go_meet
                        case rel => exact ⟨rfl, H12.out⟩
                      · have f1 : (kd == 1) = false := by simpa using e1
                        by_cases e2 : kd = 2
                        · subst e2
                          have hfit := HAF.out.2.2.1
                          have hN8 : N ≤ 8 := by have := hfit.2; unfold mostOf at this; rw [if_neg (by decide), if_pos rfl] at this; have := HF.out.1.2; omega
                          have hd := digits_any N (by omega) (by omega) w10 (HX.out.2.2.2.2.keep kz.out)
                          have hil := itoa_len N (by omega) (by omega)
                          have hol : operS consts code (op, N, ()) = 32 :: Lib.itoa N := by rw [HOL.out, if_neg (by decide), if_pos rfl]
                          obtain ⟨pv, hpv⟩ : ∃ l, Lib.itoa N = l := ⟨_, rfl⟩
                          rw [hpv] at hd hil hol
                          have hc : ¬ 9223372036854775807 < 1 + pv.length := by omega
                          have HOL2 := Lib.hid (And.intro hol hil)
                          clear hfit hN8 hil hol hpv e1
                          go_wp2_with (go_at_call 73; refine hd.mono ?_; clear hd; rintro e w11 ⟨rfl, hk11⟩; have HD11 := Lib.hid (show DisW w5 B A L op N w11 from ⟨HD10.out.bld.keep hk11, HD10.out.keep.trans hk11, hk11.blk HD10.out.blk (fun x => x)⟩); clear hk11)
                          go_at_call 71
                          refine (HWD.out _ A (operS consts code (op, N, ())) _ HD11.out (by have := HAF.out.1; omega) (by rw [HOL2.out.1, cat_list]; simp) (by rw [ByteArray.size_append]; show 1 + pv.toArray.size ≤ 1000; have := HOL2.out.2; simp; omega)).mono ?_
                          rintro e w12 ⟨v, rfl, H12⟩
                          go_wp2_with fail
                          go_meet
                          case rel => exact ⟨rfl, H12.out⟩
                        · have f2 : (kd == 2) = false := by simpa using e2
                          by_cases e3 : kd = 3
                          · subst e3
                            have hfit := HAF.out.2.2.1
                            have hNk : N < k := by have := hfit.2; unfold mostOf at this; rw [if_neg (by decide), if_neg (by decide), if_pos rfl] at this; exact this
                            obtain ⟨t, rfl⟩ : ∃ t : Nat, N = t := ⟨N.toNat, by omega⟩
                            have htk : t < k := by omega
                            have i1 : (t : Int) < k := by omega
                            have i0 : (0 : Int) ≤ t := by omega
                            have hnm0 : w10.cell? ⟨N2, t, none⟩ = some (.string (nmT code t)) := by
                              have := row_cell (HD10.out.keep.blk HD.out.2.2 (fun x => x)) htk
                              rw [this]
                              unfold nmV
                              rw [if_pos htk]
                            have hsz : (nmT code t).size ≤ 22 := by rw [nmT_size]; exact lblS_len code t (by have := HF.out.2.2.1.2; rw [HN.out] at this; omega)
                            have hol : operS consts code (op, (t : Int), ()) = 32 :: (nmT code t).data.toList := by
                              rw [HOL.out, if_neg (by decide), if_neg (by decide), if_pos rfl, Int.toNat_natCast]
                              simp [nmT]
                            obtain ⟨n2, hn2⟩ : ∃ n, nmT code t = n := ⟨_, rfl⟩
                            rw [hn2] at hnm0 hsz hol
                            have hc : ¬ 9223372036854775807 < 1 + n2.size := by omega
                            have HOL2 := Lib.hid (And.intro hol hsz)
                            clear hfit hNk htk hsz hol hn2 e1 e2
                            go_wp2_with fail
                            go_at_call 71
                            refine (HWD.out _ A (operS consts code (op, (t : Int), ())) _ HD10.out (by have := HAF.out.1; omega) (by rw [HOL2.out.1, cat_list]; rfl) (by rw [ByteArray.size_append]; show 1 + n2.size ≤ 1000; have := HOL2.out.2; omega)).mono ?_
                            rintro e w12 ⟨v, rfl, H12⟩
                            go_wp2_with fail
                            go_meet
                            case rel => exact ⟨rfl, H12.out⟩
                          · have f3 : (kd == 3) = false := by simpa using e3
                            have HOL2 := Lib.hid (show operS consts code (op, N, ()) = [] by rw [HOL.out, if_neg e1, if_neg e2, if_neg e3])
                            clear e1 e2 e3
                            go_wp2_with fail
                            go_meet
                            case rel => exact ⟨rfl, by rw [HOL2.out, List.append_nil]; exact HD10.out⟩
                    case rest =>
                      obtain ⟨rfl, HC2⟩ := hcut
                      clear x10 xP
                      go_wp2_with fail
                      go_at_call 71
                      refine (HWD.out _ (A ++ operS consts code (op, N, ())) [10] _ HC2.out (by have := HAF.out.1; have := HOM.out; rw [List.length_append]; omega) rfl (by decide)).mono ?_
                      rintro e w12 ⟨v, rfl, H12⟩
                      go_wp2_with fail
                      go_roundg (k - (m + 1))
                      case measure => exact HME.out.1
                      case rel => exact ⟨m + 1, HME.out.2, rfl, by simp, by rw [HAF.out.2.1]; exact H12.out.bld, H12.out.keep⟩
                · obtain rfl : k = m := by omega
                  have hst := bldString B B _ wr HR2.out.1 (by have := HR2.out.2.size; have := HBB.out; omega)
                  have he : disS (mkPgm args consts code) = argsHd args ++ insF consts code 0 (code.take k) := by
                    rw [List.take_of_length_le (by rw [HN.out]; exact Nat.le_refl _)]
                    rfl
                  rw [← he] at hst
                  have HKW := Lib.hid (And.intro HD.out.1 (And.intro HR2.out.2 (show w5.heap.size ≤ B from by rw [HBB.out]; exact Nat.le_refl _)))
                  clear he hlt hm
                  obtain ⟨txt, htxt⟩ : ∃ t, disS (mkPgm args consts code) = t := ⟨_, rfl⟩
                  rw [htxt] at hst
                  have HTX := Lib.hid htxt
                  clear htxt
                  go_wp2_with (go_at_call 75; refine hst.mono ?_; clear hst; rintro e w9 ⟨rfl, -, hb9⟩; have HB9 := Lib.hid hb9; clear hb9)
                  go_ret2
                  rw [HTX.out]
                  exact ⟨rfl, HKW.out.1.trans (HKW.out.2.1.thenUp HKW.out.2.2 (Keep.ofB HB9.out))⟩
  · have b1 : (pe != 0) = true := by simpa using hp0
    rw [if_neg hp0]
    clear hp0
    go_enter Tryz.func84, Tryz.ntmps84
    go_wp2_with (go_at_call 50; refine hck.mono ?_; clear hck; rintro e w2 ⟨rfl, hk2⟩; have HK2 := Lib.hid hk2; clear hk2)
    go_ret2
    exact ⟨rfl, HX.out.1.trans HK2.out⟩
end Go.Proofs.YtfgdnakfikpmpaaGreatDoor
