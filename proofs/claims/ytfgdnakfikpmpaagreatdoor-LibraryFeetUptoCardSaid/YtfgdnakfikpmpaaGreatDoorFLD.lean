/-
  Parts of what is proved for this claim; each declaration is one of the seat's texts.
-/
import Derived.Test.YtfgdnakfikpmpaaGreatDoorFLC
set_option linter.unusedVariables false
set_option linter.unusedSimpArgs false
namespace Go.Proofs.YtfgdnakfikpmpaaGreatDoor
open Go Go.RowKit Go.Deep
theorem asmT_rd (s : ByteArray) : asmT s = if (rdS s).2.1 ≠ 0 then (pgm0, (rdS s).2.1, (rdS s).2.2) else if (rdS s).1.code.length = 0 then (pgm0, 52, 0) else
    match linkS (rdS s).1.labs (rdS s).1.code.length (rdS s).1.uses (rdS s).1.code (rdS s).1.wher with
    | .inr e => (pgm0, e.1, e.2)
    | .inl code => if (pgmE (rdS s).1.args (rdS s).1.consts code).1 ≠ 0 then (pgm0, (pgmE (rdS s).1.args (rdS s).1.consts code).1, (rdS s).1.wher.getD (pgmE (rdS s).1.args (rdS s).1.consts code).2.toNat 0) else (mkPgm (rdS s).1.args (rdS s).1.consts code, 0, 0) := by
  unfold asmT rdS
  by_cases h : 65536 < s.size
  · rw [if_pos h, if_pos h]
    rfl
  · rw [if_neg h, if_neg h]
    rfl
def joinL (pre : List Ins) : List Ins ⊕ (Int × Int) → List Ins ⊕ (Int × Int)
  | .inl r => .inl (pre ++ r)
  | .inr e => .inr e
theorem joinL_nil (r : List Ins ⊕ (Int × Int)) : joinL [] r = r := by cases r <;> rfl
theorem joinL_snoc (pre : List Ins) (c : Ins) (r : List Ins ⊕ (Int × Int)) : joinL pre (match r with | .inl r => .inl (c :: r) | .inr e => .inr e) = joinL (pre ++ [c]) r := by
  cases r with
  | inl r => simp [joinL]
  | inr e => rfl
theorem linkS_cons (labs : List (ByteArray × Nat)) (len : Nat) (u : ByteArray) (us : List ByteArray) (c : Ins) (cs : List Ins) (w : Int) (ws : List Int) : linkS labs len (u :: us) (c :: cs) (w :: ws) =
    if u.size = 0 then (match linkS labs len us cs ws with | .inl r => .inl (c :: r) | .inr e => .inr e) else
    match labAt labs u with
    | none => .inr (63, w)
    | some n => if n = len then .inr (57, w) else (match linkS labs len us cs ws with | .inl r => .inl ((c.1, (n : Int), ()) :: r) | .inr e => .inr e) := by
  rw [linkS]
  cases labAt labs u <;> rfl
theorem rdIns_set {w : World} {S : Nat → Prop} {b off n c : Nat} {l : List Ins} (h : Rd (.slice instrSh) w S [.slice (some ⟨b, off, none⟩) n c] l) (i : Nat) (hi : i < l.length) (v : Int) (hv : (Lit.int .i64 v).wf = true) :
    Rd (.slice instrSh) (w.setCell ⟨b, off + i * 2 + 1, none⟩ (.int .i64 v)) S [.slice (some ⟨b, off, none⟩) n c] (l.set i (l[i].1, v, ())) := by
  obtain ⟨a', c', e, h1, h2, h3, h4⟩ := h
  simp only [List.cons.injEq, Value.slice.injEq, and_true] at e
  obtain ⟨rfl, rfl, rfl⟩ := e
  refine ⟨some ⟨b, off, none⟩, c, by rw [List.length_set], by rw [List.length_set]; exact h1, h2, (fun e => by cases e), fun j hj => ?_⟩
  rw [List.length_set] at hj
  obtain ⟨b', off', row, e, g1, g2, g3, g4, g5⟩ := h4 j hj
  simp only [Option.some.injEq, Addr.mk.injEq, and_true] at e
  obtain ⟨rfl, rfl⟩ := e
  obtain ⟨r1, r2, hrow, ⟨e1, w1⟩, r3, r4, hr2, ⟨e2, w2⟩, e3⟩ := g5
  subst e1 e2
  have e3 : r4 = [] := e3
  subst e3 hr2 hrow
  have c0 := g4 0 (by simp)
  have c1 := g4 1 (by simp)
  simp only [Nat.add_zero, List.cons_append, List.nil_append, List.getElem_cons_zero, List.getElem_cons_succ, Sh.size] at c0 c1
  by_cases e : i = j
  · subst e
    rw [List.getElem_set_self]
    refine ⟨b, off, [.int .i64 l[i].1, .int .i64 v], rfl, by simpa using g1, g2, rfl, fun q hq => ?_, ins_row w1 hv⟩
    have hq2 : q = 0 ∨ q = 1 := by simp at hq; omega
    rcases hq2 with rfl | rfl
    · refine ⟨?_, by rw [World.frozen?_setCell]; simpa [Sh.size] using c0.2⟩
      rw [World.cell?_setCell_other _ _ _ _ (fun e => by simp only [Addr.mk.injEq, and_true, true_and, Sh.size] at e; omega)]
      simpa [Sh.size] using c0.1
    · refine ⟨?_, by rw [World.frozen?_setCell]; simpa [Sh.size] using c1.2⟩
      exact World.cell?_setCell_same w _ _ (by simpa [Sh.size] using c1.1)
  · rw [List.getElem_set_ne e]
    refine ⟨b, off, [.int .i64 l[j].1, .int .i64 l[j].2.1], rfl, by simpa using g1, g2, rfl, fun q hq => ?_, ins_row w1 w2⟩
    have hq2 : q = 0 ∨ q = 1 := by simp at hq; omega
    rcases hq2 with rfl | rfl
    · refine ⟨?_, by rw [World.frozen?_setCell]; simpa [Sh.size] using c0.2⟩
      rw [World.cell?_setCell_other _ _ _ _ (fun e => by simp only [Addr.mk.injEq, and_true, true_and, Sh.size] at e; omega)]
      simpa [Sh.size] using c0.1
    · refine ⟨?_, by rw [World.frozen?_setCell]; simpa [Sh.size] using c1.2⟩
      rw [World.cell?_setCell_other _ _ _ _ (fun e' => by simp only [Addr.mk.injEq, and_true, true_and, Sh.size] at e'; omega)]
      simpa [Sh.size] using c1.1
def GivesAs (w : World) (y : Pgm × Int × Int) (e : Ending) (w' : World) : Prop :=
  ∃ a3 c3 a4 c4, e = .returned (.tuple #[.agg #[.int .i64 y.1.args, .slice a3 y.1.consts.length c3, .slice a4 y.1.code.length c4], .int .i64 y.2.1, .int .i64 y.2.2]) ∧
    RowKit.Hid (Keep No w w' ∧ Rd (.slice valueSh) w' (Fr w.heap.size w'.heap.size) [.slice a3 y.1.consts.length c3] y.1.consts ∧ Rd (.slice instrSh) w' (Fr w.heap.size w'.heap.size) [.slice a4 y.1.code.length c4] y.1.code)
theorem rd_nilS {s : Sh} (w : World) (S : Nat → Prop) : Rd (.slice s) w S [.slice none ([] : List s.T).length 0] [] :=
  ⟨none, 0, rfl, Nat.le_refl _, Nat.zero_le _, fun _ => ⟨rfl, rfl⟩, fun i hi => absurd hi (by simp)⟩
theorem GivesAs.bad {w w' : World} (hk : Keep No w w') (x y : Int) : GivesAs w (pgm0, x, y) (.returned (.tuple #[.agg #[.int .i64 0, .slice none 0 0, .slice none 0 0], .int .i64 x, .int .i64 y])) w' :=
  ⟨none, 0, none, 0, rfl, hk, rd_nilS _ _, rd_nilS _ _⟩
theorem blk_3 {w : World} {b : Nat} {c0 c1 c2 : Value} {t : TypeId} (h : w.heap[b]? = some (.cells #[c0, c1, c2] t (0, 0))) (u0 u1 u2 : Value) : (((w.setCell ⟨b, 0, none⟩ u0).setCell ⟨b, 1, none⟩ u1).setCell ⟨b, 2, none⟩ u2).heap[b]? = some (.cells #[u0, u1, u2] t (0, 0)) := by
  simpa using blk_set (blk_set (blk_set h 0 u0) 1 u1) 2 u2
theorem noText_iff {u : ByteArray} : u.size = 0 ↔ u = ⟨#[]⟩ := by
  constructor
  · intro h
    apply ByteArray.ext
    apply Array.toList_inj.1
    exact List.length_eq_zero_iff.1 h
  · rintro rfl; rfl
theorem empty_beq {u : ByteArray} (h : ¬ u.size = 0) : (u.toList == ([] : List UInt8)) = false := by
  have := text_beq u ⟨#[]⟩
  rw [show ((⟨#[]⟩ : ByteArray).toList) = [] by simp [ByteArray.toList_eq]] at this
  rw [this]
  exact decide_eq_false fun e => h (noText_iff.2 e)
theorem cell_set3 {w : World} {b c i : Nat} {v u0 u1 u2 : Value} (hn : ¬ b = c) (h : w.cell? ⟨c, i, none⟩ = some v) : (((w.setCell ⟨b, 0, none⟩ u0).setCell ⟨b, 1, none⟩ u1).setCell ⟨b, 2, none⟩ u2).cell? ⟨c, i, none⟩ = some v := by
  have hne : ∀ j : Nat, (⟨b, j, none⟩ : Addr) ≠ ⟨c, i, none⟩ := fun j e => by simp only [Addr.mk.injEq] at e; exact hn e.1
  rw [World.cell?_setCell_other _ _ _ _ (hne 2), World.cell?_setCell_other _ _ _ _ (hne 1), World.cell?_setCell_other _ _ _ _ (hne 0)]
  exact h
def LkTo (w1 : World) (lab : Nat → Nat) (a2 : Option Addr) (c2 : Nat) (x : AsmS) (k : Nat) (C : List Ins) (wr : World) : Prop :=
  Keep (fun i => lab i = 4) w1 wr ∧ Rd (.slice instrSh) wr (fun i => lab i = 4) [.slice a2 C.length c2] C ∧ C.length = x.code.length ∧ C.drop k = x.code.drop k ∧
    linkS x.labs x.code.length x.uses x.code x.wher = joinL (C.take k) (linkS x.labs x.code.length (x.uses.drop k) (x.code.drop k) (x.wher.drop k))
theorem link_at {labs : List (ByteArray × Nat)} {len : Nat} {uses : List ByteArray} {code C : List Ins} {wher : List Int} {k : Nat} {R : List Ins ⊕ (Int × Int)} (hk : k < code.length) (hu : uses.length = code.length) (hw : wher.length = code.length) (hC : C.length = code.length) (hd : C.drop k = code.drop k)
    (h : R = joinL (C.take k) (linkS labs len (uses.drop k) (code.drop k) (wher.drop k))) :
    ((uses[k]'(by omega)).size = 0 → R = joinL (C.take (k + 1)) (linkS labs len (uses.drop (k + 1)) (code.drop (k + 1)) (wher.drop (k + 1))) ∧ C.drop (k + 1) = code.drop (k + 1)) ∧
    (¬ (uses[k]'(by omega)).size = 0 → (labAt labs (uses[k]'(by omega)) = none → R = .inr (63, wher[k]'(by omega))) ∧
      ∀ q, labAt labs (uses[k]'(by omega)) = some q → (q = len → R = .inr (57, wher[k]'(by omega))) ∧
        (¬ q = len → R = joinL ((C.set k ((C[k]'(by omega)).1, (q : Int), ())).take (k + 1)) (linkS labs len (uses.drop (k + 1)) (code.drop (k + 1)) (wher.drop (k + 1))) ∧ (C.set k ((C[k]'(by omega)).1, (q : Int), ())).drop (k + 1) = code.drop (k + 1))) := by
  have hkC : k < C.length := by omega
  have e1 : C[k] = code[k] := by
    have : (C.drop k)[0]? = (code.drop k)[0]? := by rw [hd]
    rw [List.getElem?_drop, List.getElem?_drop, Nat.add_zero, List.getElem?_eq_getElem hkC, List.getElem?_eq_getElem hk] at this
    exact Option.some.inj this
  have e2 : C.drop (k + 1) = code.drop (k + 1) := by rw [← List.drop_drop, ← List.drop_drop, hd]
  rw [List.drop_eq_getElem_cons (show k < uses.length by omega), List.drop_eq_getElem_cons hk, List.drop_eq_getElem_cons (show k < wher.length by omega), linkS_cons] at h
  refine ⟨fun hz => ⟨?_, e2⟩, fun hz => ⟨fun hn => ?_, fun q hq => ⟨fun hl => ?_, fun hl => ⟨?_, ?_⟩⟩⟩⟩
  · rw [if_pos hz, joinL_snoc, ← e1, ← List.take_succ_eq_append_getElem hkC] at h
    exact h
  · rw [if_neg hz, hn] at h
    exact h
  · rw [if_neg hz, hq] at h
    simp only [if_pos hl] at h
    exact h
  · rw [if_neg hz, hq] at h
    simp only [if_neg hl] at h
    rw [joinL_snoc, ← e1] at h
    rw [List.take_succ_eq_append_getElem (by rw [List.length_set]; exact hkC), List.getElem_set_self, List.take_set_of_le (Nat.le_refl k)]
    exact h
  · rw [List.drop_set_of_lt (Nat.lt_succ_self k)]
    exact e2
set_option maxRecDepth 10000 in
set_option maxHeartbeats 4000000 in
theorem asAssemble_any (s : ByteArray) (hs : s.size ≤ 9223372036854775806) (w : World) (he : Errs w) : Calls Tryz.prog 58 #[.string s] w (GivesAs w (asmT s)) := by
  obtain ⟨y, hy⟩ : ∃ y, asmT s = y := ⟨_, rfl⟩
  rw [hy]
  rw [asmT_rd] at hy
  have K0 := (Keep.refl No w).alloc (.cells #[.int .i64 0, .slice none 0 0, .slice none 0 0] 27)
  have x0 := blk_new w (.cells #[.int .i64 0, .slice none 0 0, .slice none 0 0] 27)
  have hrd := asRead_any s hs (w.alloc (.cells #[.int .i64 0, .slice none 0 0, .slice none 0 0] 27)) (he.keep K0)
  have hcg := rdS_cg s
  rw [show (if 65536 < s.size then (asm0, (1 : Int), (0 : Int)) else readS asm0 (linesT s) 0) = rdS s from rfl] at hcg
  obtain ⟨r, hr⟩ : ∃ r, rdS s = r := ⟨_, rfl⟩
  rw [hr] at hy hrd hcg
  obtain ⟨x, er, at'⟩ := r
  unfold GivesRd at hrd
  dsimp only at hy hrd hcg
  have HX := Lib.hid (And.intro K0 (And.intro x0 hcg))
  have HY := Lib.hid hy
  clear hy hr K0 x0 he hs hcg
  by_cases h1 : er = 0
  · subst h1
    have hy := HY.out
    rw [if_neg (fun h => h rfl)] at hy
    have HY := Lib.hid hy
    clear hy
    go_enter Tryz.func58, Tryz.ntmps58
    go_upto_region 4 with (go_at_call 106; refine hrd.mono ?_; clear hrd; rintro e w1 ⟨B, rfl, H1⟩)
    obtain ⟨⟨lab, m, v1, v2, v4, v5, hsr, hlb⟩, hfit⟩ := H1.out.2 trivial
    have hk := HX.out.1.trans H1.out.1
    have x1 := H1.out.1.blk HX.out.2.1 (fun x => x)
    obtain ⟨a1, c1, rfl, -⟩ := Own.form hsr.cs
    obtain ⟨a2, c2, rfl, -⟩ := Own.form hsr.cd
    obtain ⟨a4, c4, rfl, -⟩ := Own.form hsr.us
    obtain ⟨a5, c5, rfl, -⟩ := Own.form hsr.wh
    have hR0 : lab w.heap.size = 0 := hlb _ (by simp)
    have i256 : (x.code.length : Int) ≤ 256 := by have := hfit.cd; omega
    have HS := Lib.hid (And.intro hsr (And.intro hlb (And.intro hfit (And.intro hk (And.intro x1 hR0)))))
    have q1 := blk_cell x1
    have z1 := blk_fro x1
    have rb := blk_cell hsr.blk
    have hul : x.uses.length = x.code.length := hfit.us
    have hwl : x.wher.length = x.code.length := hfit.wh
    clear hsr hlb hfit hk H1 x1 hR0
    rw [hul, hwl] at rb
    by_cases h2 : x.code.length = 0
    · have b2 : ((x.code.length : Int) == 0) = true := by simpa using h2
      have hy := HY.out
      rw [if_pos h2] at hy
      subst hy
      have y2 := blk_3 HS.out.2.2.2.2.1 (.int .i64 0) (.slice none 0 0) (.slice none 0 0)
      clear h2 i256 hul hwl
      generalize x.code.length = n at *
      go_wp2_with fail
      have s2 := blk_cell y2
      have s0 := s2 0
      have s1 := s2 1
      have s22 := s2 2
      simp at s0 s1 s22
      refine bodyPost_ret (v := .tuple #[.agg #[.int .i64 0, .slice none 0 0, .slice none 0 0], .int .i64 52, .int .i64 0]) (by simp [results, Tryz.results58, go_sem, s0, s1, s22]) rfl ?_
      exact GivesAs.bad (((HS.out.2.2.2.1.setNew (by simp) _).setNew (by simp) _).setNew (by simp) _) _ _
    · have b2 : ((x.code.length : Int) == 0) = false := by simpa using h2
      have hy := HY.out
      rw [if_neg h2] at hy
      have HY := Lib.hid (And.intro hy h2)
      have HU := Lib.hid (And.intro hul hwl)
      clear hy h2 hul hwl
      obtain ⟨n, hn⟩ : ∃ n, x.code.length = n := ⟨_, rfl⟩
      have HN := Lib.hid hn
      rw [hn] at rb b2 i256
      clear hn
      go_wp2_with fail
      go_loopg [38] n (fun g i wr => ∃ (k : Nat) (C : List Ins), k ≤ n ∧ g = n - k ∧ i = .int .i64 k ∧ RowKit.Hid (LkTo w1 lab a2 c2 x k C wr))
      case atStart => exact ⟨0, x.code, by omega, by omega, rfl, Keep.refl _ _, Own.rd HS.out.1.cd, rfl, rfl, by rw [List.take_zero, joinL_nil]; rfl⟩
      case round =>
        obtain ⟨k, C, hk, rfl, rfl, HR⟩ := hrel
        by_cases hlt : k < n
        · have hnC : C.length = n := by rw [HR.out.2.2.1]; exact HN.out
          have hnU : x.uses.length = n := by rw [HU.out.1]; exact HN.out
          have hnW : x.wher.length = n := by rw [HU.out.2]; exact HN.out
          have kr := HR.out.1
          have hsr := HS.out.1
          have hR0 := HS.out.2.2.2.2.2
          have xr := kr.blk HS.out.2.2.2.2.1 (fun h => by rw [hR0] at h; cases h)
          have br := kr.blk hsr.blk (fun h => by rw [hsr.lB] at h; cases h)
          rw [hnU, hnW, HN.out] at br
          obtain ⟨bu, fu, hau, pu, hus⟩ := strs_get ((Own.rd hsr.us).agree _ (kr.agree fun i hi h5 h4 => by omega)) k (by omega)
          obtain ⟨bw, fw, haw, -, hbw, pw, -⟩ := ints_get ((Own.rd hsr.wh).agree _ (kr.agree fun i hi h5 h4 => by omega)) k (by omega)
          have hlk := link_at (labs := x.labs) (len := x.code.length) (wher := x.wher) (uses := x.uses) (k := k) (by rw [HN.out]; exact hlt) HU.out.1 HU.out.2 HR.out.2.2.1 HR.out.2.2.2.1 HR.out.2.2.2.2
          obtain ⟨u, hu⟩ : ∃ u, x.uses[k]'(by omega) = u := ⟨_, rfl⟩
          obtain ⟨wk, hwk⟩ : ∃ u, x.wher[k]'(by omega) = u := ⟨_, rfl⟩
          obtain ⟨ck, hck⟩ : ∃ c, C[k]'(by omega) = c := ⟨_, rfl⟩
          rw [hu] at pu hus hlk
          rw [hwk] at pw hlk
          obtain ⟨bc, fc, hac, -, hbc, pc0, pc1⟩ := instrs_get HR.out.2.1 k (by omega)
          have hset := fun (v : Int) (hv : (Lit.int .i64 v).wf = true) => rdIns_set (b := bc) (off := fc) (by rw [← hac]; exact HR.out.2.1) k (by omega) v hv
          have pz : wr.frozen? ⟨bc, fc + k * 2 + 1, none⟩ = false := by
            obtain ⟨b', off', row, ha, -, -, -, hlen, hrow, hx⟩ := Rd.elem' HR.out.2.1 k (by omega)
            rw [hac] at ha
            cases ha
            have := (hrow 1 (by rw [hlen]; decide)).2
            simpa [Sh.size, Nat.add_assoc] using this
          rw [hck] at hlk hset pc0 pc1
          subst hac
          have HSET := Lib.hid (And.intro hset hbc)
          clear hu hwk hck hset hbc
          have hmp := hsr.mp.keep kr (fun h => by rw [hsr.lm] at h; cases h)
          subst hau haw
          have j1 : (k : Int) < n := by omega
          have j0 : (0 : Int) ≤ k := by omega
          have HB0 := Lib.hid (show ¬ w.heap.size = B from fun e => by rw [e] at hR0; rw [hsr.lB] at hR0; cases hR0)
          have HME := Lib.hid (And.intro (show n - (k + 1) < n - k by omega) (show k + 1 ≤ n by omega))
          have HBW := Lib.hid (show ¬ w.heap.size = bw from fun e => by rw [e] at hR0; omega)
          clear hbw
          have HL := Lib.hid (And.intro hlk (And.intro hlt (And.intro xr br)))
          have kz : RowKit.Hid (Keep No w wr) := HS.out.2.2.2.1.then kr (fun i hi h => by have := HS.out.2.1 i (by simp; omega); omega)
          have qr := blk_cell xr
          have zr := blk_fro xr
          have rbr := blk_cell br
          clear hlk kr hsr hR0 xr hnC hnU hnW rb
          by_cases hu0 : u.size = 0
          · have HZ := Lib.hid (HL.out.1.1 hu0)
            obtain rfl := noText_iff.1 hu0
            clear hu0 hus hmp hlt hk br
            go_wp2_with fail
            go_roundg (n - (k + 1))
            case measure => exact HME.out.1
            case rel => exact ⟨k + 1, C, HME.out.2, rfl, by simp, HR.out.1, HR.out.2.1, HR.out.2.2.1, HZ.out.2, HZ.out.1⟩
          · have hg := empty_beq hu0
            have hlook := look_int hmp u (by omega)
            have HQ := Lib.hid (HL.out.1.2 hu0)
            cases hla : labAt x.labs u with
            | none =>
              have hlk1 := hlook wr (Keep.refl _ _)
              rw [hla] at hlk1
              have HE := Lib.hid (HQ.out.1 hla)
              clear hla hlook hu0 hus hmp hlt hk
              have y2 := blk_3 (w := wr.drew) HL.out.2.2.1 (.int .i64 0) (.slice none 0 0) (.slice none 0 0)
              have HR5 := Lib.hid (And.intro (show wr.drew.heap[w.heap.size]? = _ from HL.out.2.2.1) (And.intro (show wr.drew.heap[B]? = _ from HL.out.2.2.2) (And.intro (show wr.drew.cell? ⟨bw, fw + k, none⟩ = some (.int .i64 wk) from pw) kz.out.drew)))
              go_upto_region 12 with fail
              refine wp_region_canw [0, 1, 2, 3, 4, 5, 6, 7, 8, 9, 10] [8] [(1, 8), (2, 8), (3, 8), (4, 8), (5, 8), (6, 8), (7, 8)] (by kernel_rfl) (by kernel_rfl) (by kernel_rfl) (by kernel_rfl) (by intro c a d v w h; cases d <;> exact h) ?_
              generalize wr.drew = w5 at *
              have q5 := blk_cell HR5.out.1
              have z5 := blk_fro HR5.out.1
              have r5 := blk_cell HR5.out.2.1
              have p5 := HR5.out.2.2.1
              have p6 := fun (u0 u1 u2 : Value) => cell_set3 (u0 := u0) (u1 := u1) (u2 := u2) HBW.out HR5.out.2.2.1
              clear qr zr rbr pu pw pc0 pc1 hlk1
              iterate 8 (refine canw_sil rfl rfl (fun K hK => ?_); go_simp; refine hK _ ?_; clear hK K)
              refine canw_loud [1, 2, 3, 4, 5, 6, 7] rfl rfl rfl (fun K hK => ?_)
              go_wp2_with fail
              refine Mid.normal (hK _ _ ?_ ?_)
              · simp only [List.forall_mem_cons]
                refine ⟨?_, ?_, ?_, ?_, ?_, ?_, ?_, stabs_nil⟩ <;> exact stab_of rfl (fun K hK => by go_simp; exact hK)
              clear hK K
              iterate 2 (refine canw_sil rfl rfl (fun K hK => ?_); go_simp; refine hK _ ?_; clear hK K)
              refine canw_nil ?_
              go_wp2_with fail
              have s2 := blk_cell y2
              have s0 := s2 0
              have s1 := s2 1
              have s22 := s2 2
              simp at s0 s1 s22
              refine bodyPost_ret (v := .tuple #[.agg #[.int .i64 0, .slice none 0 0, .slice none 0 0], .int .i64 63, .int .i64 wk]) (by simp [results, Tryz.results58, go_sem, s0, s1, s22]) rfl ?_
              have hyy := HY.out.1
              rw [HE.out] at hyy
              subst hyy
              exact GivesAs.bad (((HR5.out.2.2.2.setNew (Nat.le_refl _) _).setNew (Nat.le_refl _) _).setNew (Nat.le_refl _) _) _ _
            | some q =>
              have hlk1 := hlook wr (Keep.refl _ _)
              rw [hla] at hlk1
              simp only [Option.getD_some, Option.isSome_some] at hlk1
              have HE := Lib.hid (HQ.out.2 q hla)
              have hq9 : q ≤ n := by obtain ⟨p, hp, rfl⟩ := labAt_mem hla; have := HX.out.2.2.2 p hp; rw [HN.out] at this; exact this
              have HWF := Lib.hid (show (Lit.int .i64 (q : Int)).wf = true from wf_small (by omega) (by omega))
              clear hq9
              clear hla hlook hu0 hus hmp hlt hk
              by_cases hqn : q = n
              · subst hqn
                have b3 : ((q : Int) == q) = true := by simp
                have HE2 := Lib.hid (HE.out.1 HN.out.symm)
                have y2 := blk_3 (w := wr.drew) HL.out.2.2.1 (.int .i64 0) (.slice none 0 0) (.slice none 0 0)
                have HR5 := Lib.hid (And.intro (show wr.drew.heap[w.heap.size]? = _ from HL.out.2.2.1) (And.intro (show wr.drew.heap[B]? = _ from HL.out.2.2.2) (And.intro (show wr.drew.cell? ⟨bw, fw + k, none⟩ = some (.int .i64 wk) from pw) kz.out.drew)))
                go_upto_region 14 with fail
                refine wp_region_canw [0, 1, 2, 3, 4, 5, 6, 7, 8, 9, 10] [8] [(1, 8), (2, 8), (3, 8), (4, 8), (5, 8), (6, 8), (7, 8)] (by kernel_rfl) (by kernel_rfl) (by kernel_rfl) (by kernel_rfl) (by intro c a d v w h; cases d <;> exact h) ?_
                generalize wr.drew = w5 at *
                have q5 := blk_cell HR5.out.1
                have z5 := blk_fro HR5.out.1
                have r5 := blk_cell HR5.out.2.1
                have p5 := HR5.out.2.2.1
                have p6 := fun (u0 u1 u2 : Value) => cell_set3 (u0 := u0) (u1 := u1) (u2 := u2) HBW.out HR5.out.2.2.1
                clear qr zr rbr pu pw pc0 pc1 hlk1
                iterate 8 (refine canw_sil rfl rfl (fun K hK => ?_); go_simp; refine hK _ ?_; clear hK K)
                refine canw_loud [1, 2, 3, 4, 5, 6, 7] rfl rfl rfl (fun K hK => ?_)
                go_wp2_with fail
                refine Mid.normal (hK _ _ ?_ ?_)
                · simp only [List.forall_mem_cons]
                  refine ⟨?_, ?_, ?_, ?_, ?_, ?_, ?_, stabs_nil⟩ <;> exact stab_of rfl (fun K hK => by go_simp; exact hK)
                clear hK K
                iterate 2 (refine canw_sil rfl rfl (fun K hK => ?_); go_simp; refine hK _ ?_; clear hK K)
                refine canw_nil ?_
                go_wp2_with fail
                have s2 := blk_cell y2
                have s0 := s2 0
                have s1 := s2 1
                have s22 := s2 2
                simp at s0 s1 s22
                refine bodyPost_ret (v := .tuple #[.agg #[.int .i64 0, .slice none 0 0, .slice none 0 0], .int .i64 57, .int .i64 wk]) (by simp [results, Tryz.results58, go_sem, s0, s1, s22]) rfl ?_
                have hyy := HY.out.1
                rw [HE2.out] at hyy
                subst hyy
                exact GivesAs.bad (((HR5.out.2.2.2.setNew (Nat.le_refl _) _).setNew (Nat.le_refl _) _).setNew (Nat.le_refl _) _) _ _

              · have b3 : ((q : Int) == n) = false := by simp; omega
                have HE2 := Lib.hid (HE.out.2 (by rw [HN.out]; exact hqn))
                have i2 : (0 : Int) ≤ q := by omega
                clear hqn
                go_wp2_with fail
                go_roundg (n - (k + 1))
                case measure => exact HME.out.1
                case rel => exact ⟨k + 1, C.set k (ck.1, (q : Int), ()), HME.out.2, rfl, by simp, HR.out.1.setCell (fun _ => HSET.out.2) _, by rw [List.length_set]; exact HSET.out.1 q HWF.out, by rw [List.length_set]; exact HR.out.2.2.1, HE2.out.2, HE2.out.1⟩
        · have hkn : k = n := by omega
          subst hkn
          have kr := HR.out.1
          have hsr := HS.out.1
          have hR0 := HS.out.2.2.2.2.2
          have xr := kr.blk HS.out.2.2.2.2.1 (fun h => by rw [hR0] at h; cases h)
          have br := kr.blk hsr.blk (fun h => by rw [hsr.lB] at h; cases h)
          have hnW : x.wher.length = k := by rw [HU.out.2]; exact HN.out
          have hnU : x.uses.length = k := by rw [HU.out.1]; exact HN.out
          have hnC : C.length = k := by rw [HR.out.2.2.1]; exact HN.out
          rw [hnU, hnW, HN.out] at br
          have hlink : linkS x.labs x.code.length x.uses x.code x.wher = .inl C := by
            have := HR.out.2.2.2.2
            rw [List.drop_of_length_le (by omega), List.drop_of_length_le (by rw [HN.out]; exact Nat.le_refl _), List.drop_of_length_le (by omega), List.take_of_length_le (by omega)] at this
            rw [this]
            show joinL C (.inl []) = _
            simp [joinL]
          have hcsr : Rd (.slice valueSh) wr (fun i => lab i = 3) [.slice a1 x.consts.length c1] x.consts := (Own.rd hsr.cs).agree _ (kr.agree fun i hi h5 h4 => by omega)
          have hcdr := HR.out.2.1
          rw [hnC] at hcdr
          have hck := fun W (hW : Keep No wr W) => pgCheck_g (args := x.args) hcsr (code := C) (c5 := c2) (a5 := a2) (by rw [hnC]; exact hcdr) W hW
          rw [hnC] at hck
          obtain ⟨pe, hpe⟩ : ∃ e, pgmE x.args x.consts C = e := ⟨_, rfl⟩
          rw [hpe] at hck
          have kz : RowKit.Hid (Keep No w wr) := HS.out.2.2.2.1.then kr (fun i hi h => by have := HS.out.2.1 i (by simp; omega); omega)
          have hfit := HS.out.2.2.1
          have HPP := Lib.hid (fun he => pgmE_at (args := x.args) (consts := x.consts) (code := C) ⟨hfit.a0, hfit.a8⟩ hfit.cs (HX.out.2.2.1) (by have := HY.out.2; rw [hnC]; rw [HN.out] at this; exact this) he)
          rw [hpe, hnC] at HPP
          have HE := Lib.hid hlink
          have HPZ := Lib.hid hpe
          have HC := Lib.hid (And.intro hcsr (And.intro hcdr hnC))
          have HXR := Lib.hid (And.intro xr (And.intro br hnW))
          have qr := blk_cell xr
          have zr := blk_fro xr
          have rbr := blk_cell br
          obtain ⟨pe, pk⟩ := pe
          dsimp only at hck HPP
          clear hlink hcsr hcdr hnC hnU hnW hfit kr hsr hR0 xr br rb hpe hlt hk z1 q1
          have hck1 := hck wr (Keep.refl No wr)
          clear hck
          go_upto_region 18 with (go_at_call 50; refine hck1.mono ?_; clear hck1; rintro e w9 ⟨rfl, hk9⟩; have HK9 := Lib.hid hk9; clear hk9)
          have X9 := Lib.hid (And.intro (HK9.out.blk HXR.out.1 (fun x => x)) (And.intro (HK9.out.blk HXR.out.2.1 (fun x => x)) (kz.out.trans HK9.out)))
          have q9 := blk_cell X9.out.1
          have z9 := blk_fro X9.out.1
          have r9 := blk_cell X9.out.2.1
          clear qr zr rbr
          by_cases hp0 : pe = 0
          · subst hp0
            have hyy := HY.out.1
            rw [HE.out] at hyy
            simp only [HPZ.out] at hyy
            rw [if_neg (fun h => h rfl)] at hyy
            subst hyy
            have y2 := blk_3 (w := w9) X9.out.1 (.int .i64 x.args) (.slice a1 x.consts.length c1) (.slice a2 k c2)
            go_wp2_with fail
            have s2 := blk_cell y2
            have s0 := s2 0
            have s1 := s2 1
            have s22 := s2 2
            simp at s0 s1 s22
            refine bodyPost_ret (v := .tuple #[.agg #[.int .i64 x.args, .slice a1 x.consts.length c1, .slice a2 k c2], .int .i64 0, .int .i64 0]) (by simp [results, Tryz.results58, go_sem, s0, s1, s22]) rfl ?_
            have hlow : ∀ i, lab i ≠ 0 → w.heap.size ≤ i := fun i hi => Classical.byContradiction fun hh => hi (HS.out.2.1 i (by simp; omega))
            have hup : ∀ i, lab i ≠ 0 → i < ((((w9.setCell ⟨w.heap.size, 0, none⟩ (.int .i64 x.args)).setCell ⟨w.heap.size, 1, none⟩ (.slice a1 x.consts.length c1)).setCell ⟨w.heap.size, 2, none⟩ (.slice a2 k c2))).heap.size := fun i hi => by
              have h1 := HS.out.1.lt i hi
              have h2 := HR.out.1.size
              have h3 := HK9.out.size
              simp
              omega
            have hag : ∀ c : Nat, c ≠ 0 → Agree (fun i => lab i = c) wr (((w9.setCell ⟨w.heap.size, 0, none⟩ (.int .i64 x.args)).setCell ⟨w.heap.size, 1, none⟩ (.slice a1 x.consts.length c1)).setCell ⟨w.heap.size, 2, none⟩ (.slice a2 k c2)) := fun c hc =>
              ((((HK9.out.mono (fun _ _ x => x.elim) : Keep (One w.heap.size) wr w9).trans (keep_set _ _ _ _)).trans (keep_set _ _ _ _)).trans (keep_set _ _ _ _)).agree (fun i hi h5 h6 => by have := HS.out.2.2.2.2.2; have h6 : i = w.heap.size := h6; rw [h6] at h5; omega)
            refine ⟨a1, c1, a2, c2, ?_, ((X9.out.2.2.setNew (by simp) _).setNew (by simp) _).setNew (by simp) _, (HC.out.1.agree _ (hag 3 (by decide))).mono _ fun i _ hi => ⟨hlow i (by omega), hup i (by omega)⟩, ?_⟩
            · show Ending.returned _ = Ending.returned _
              simp only [mkPgm, Pgm.args, Pgm.consts, Pgm.code, HC.out.2.2]
            · show Rd (.slice instrSh) _ _ [.slice a2 C.length c2] C
              rw [HC.out.2.2]
              exact (HC.out.2.1.agree _ (hag 4 (by decide))).mono _ fun i _ hi => ⟨hlow i (by omega), hup i (by omega)⟩
          · have b5 : (pe != 0) = true := by simpa using hp0
            have HPE := Lib.hid hp0
            have hat := HPP.out hp0
            obtain ⟨k9, rfl⟩ : ∃ k9 : Nat, pk = k9 := ⟨pk.toNat, by omega⟩
            have hk9 : k9 < k := by omega
            obtain ⟨bw, fw, haw, -, hbw, pw, -⟩ := ints_get ((Own.rd HS.out.1.wh).agree _ (HR.out.1.agree fun i hi h5 h4 => by omega)) k9 (by rw [HXR.out.2.2]; exact hk9)
            subst haw
            obtain ⟨wk, hwk⟩ : ∃ u, x.wher[k9]'(by rw [HXR.out.2.2]; exact hk9) = u := ⟨_, rfl⟩
            rw [hwk] at pw
            have HWK := Lib.hid (show x.wher.getD k9 0 = wk by rw [← hwk]; simp [List.getD, HXR.out.2.2, hk9])
            have p9 := (HK9.out.cell (World.block_lt_of_cell? _ _ pw) (fun x => x)).trans pw
            have HBW := Lib.hid (show ¬ w.heap.size = bw from fun e => by have := HS.out.2.2.2.2.2; rw [e] at this; omega)
            have j8 : (k9 : Int) < k := by omega
            have j7 : (0 : Int) ≤ k9 := by omega
            clear hwk pw hbw hat hk9 hp0
            have y2 := blk_3 (w := w9.drew) X9.out.1 (.int .i64 0) (.slice none 0 0) (.slice none 0 0)
            have HR5 := Lib.hid (And.intro (show w9.drew.heap[w.heap.size]? = _ from X9.out.1) (And.intro (show w9.drew.heap[B]? = _ from X9.out.2.1) (And.intro (show w9.drew.cell? ⟨bw, fw + k9, none⟩ = some (.int .i64 wk) from p9) X9.out.2.2.drew)))
            go_upto_region 19 with fail
            refine wp_region_canw [0, 1, 2, 3, 4, 5, 6, 7, 8, 9, 10, 11] [9] [(1, 9), (2, 9), (3, 9), (4, 9), (5, 9), (6, 9), (7, 9), (8, 9)] (by kernel_rfl) (by kernel_rfl) (by kernel_rfl) (by kernel_rfl) (by intro c a d v w h; cases d <;> exact h) ?_
            generalize w9.drew = w5 at *
            have q5 := blk_cell HR5.out.1
            have z5 := blk_fro HR5.out.1
            have r5 := blk_cell HR5.out.2.1
            have p5 := HR5.out.2.2.1
            have p6 := fun (u0 u1 u2 : Value) => cell_set3 (u0 := u0) (u1 := u1) (u2 := u2) HBW.out HR5.out.2.2.1
            clear q9 z9 r9 p9
            iterate 9 (refine canw_sil rfl rfl (fun K hK => ?_); go_simp; refine hK _ ?_; clear hK K)
            refine canw_loud [1, 2, 3, 4, 5, 6, 7, 8] rfl rfl rfl (fun K hK => ?_)
            go_wp2_with fail
            refine Mid.normal (hK _ _ ?_ ?_)
            · simp only [List.forall_mem_cons]
              refine ⟨?_, ?_, ?_, ?_, ?_, ?_, ?_, ?_, stabs_nil⟩ <;> exact stab_of rfl (fun K hK => by go_simp; exact hK)
            clear hK K
            iterate 2 (refine canw_sil rfl rfl (fun K hK => ?_); go_simp; refine hK _ ?_; clear hK K)
            refine canw_nil ?_
            go_wp2_with fail
            have s2 := blk_cell y2
            have s0 := s2 0
            have s1 := s2 1
            have s22 := s2 2
            simp at s0 s1 s22
            refine bodyPost_ret (v := .tuple #[.agg #[.int .i64 0, .slice none 0 0, .slice none 0 0], .int .i64 pe, .int .i64 wk]) (by simp [results, Tryz.results58, go_sem, s0, s1, s22]) rfl ?_
            have hyy := HY.out.1
            rw [HE.out] at hyy
            simp only [HPZ.out] at hyy
            rw [if_pos HPE.out] at hyy
            simp only [Int.toNat_natCast, HWK.out] at hyy
            subst hyy
            exact GivesAs.bad (((HR5.out.2.2.2.setNew (Nat.le_refl _) _).setNew (Nat.le_refl _) _).setNew (Nat.le_refl _) _) _ _
  · have b1 : (er != 0) = true := by simpa using h1
    have hy := HY.out
    rw [if_pos h1] at hy
    subst hy
    go_enter Tryz.func58, Tryz.ntmps58
    go_upto_region 3 with (go_at_call 106; refine hrd.mono ?_; clear hrd; rintro e w1 ⟨B, rfl, H1⟩)
    have hk := HX.out.1.trans H1.out.1
    have x1 := H1.out.1.blk HX.out.2.1 (fun x => x)
    have HK := Lib.hid hk
    have q1 := blk_cell x1
    have z1 := blk_fro x1
    clear hk
    go_wp2_with fail
    have y2 := blk_3 x1 (.int .i64 0) (.slice none 0 0) (.slice none 0 0)
    have s2 := blk_cell y2
    have s0 := s2 0
    have s1 := s2 1
    have s22 := s2 2
    simp at s0 s1 s22
    refine bodyPost_ret (v := .tuple #[.agg #[.int .i64 0, .slice none 0 0, .slice none 0 0], .int .i64 er, .int .i64 at']) (by simp [results, Tryz.results58, go_sem, s0, s1, s22]) rfl ?_
    exact GivesAs.bad (((HK.out.setNew (by simp) _).setNew (by simp) _).setNew (by simp) _) _ _
end Go.Proofs.YtfgdnakfikpmpaaGreatDoor
