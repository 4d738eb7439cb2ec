/-
  Parts of what is proved for this claim; each declaration is one of the seat's texts.
-/
import Derived.Test.YtfgdnakfikpmpaaGreatDoorFLG
import Derived.Test.YtfgdnakfikpmpaaGreatDoorFLJ
set_option linter.unusedVariables false
set_option linter.unusedSimpArgs false
namespace Go.Proofs.YtfgdnakfikpmpaaGreatDoor
open Go Go.RowKit Go.Deep
def GivesPl (w : World) (r : List Prc ⊕ (Int × Int)) (e : Ending) (w' : World) : Prop :=
  match r with
  | .inl L => ∃ B m, e = .returned (.tuple #[.pointer (some ⟨B, 0, none⟩), .int .i64 0, .int .i64 0]) ∧ RowKit.Hid (LibAt w' (Fr w.heap.size w'.heap.size) B m L ∧ Keep No w w')
  | .inr x => e = .returned (.tuple #[.pointer none, .int .i64 x.1, .int .i64 x.2]) ∧ RowKit.Hid (Keep No w w')
theorem LibMap.mono {w : World} {S S' : Nat → Prop} {m : Nat} {L : List Prc} (h : LibMap w S m L) (hs : ∀ k, S k → S' k) : LibMap w S' m L := by
  obtain ⟨D, ho, h2, h3, hsz, h4⟩ := h
  refine ⟨D, ho, hs m h2, h3, hsz, fun n => ?_⟩
  have := h4 n
  cases hf : findP L n with
  | none => rw [hf] at this; exact this
  | some p =>
    rw [hf] at this
    obtain ⟨a, cs, b, c⟩ := this
    exact ⟨a, cs, b, c.mono procSh fun k _ hk => ⟨hs k hk.1, hk.2⟩⟩
theorem LibAt.mono {w : World} {S S' : Nat → Prop} {B m : Nat} {L : List Prc} (h : LibAt w S B m L) (hs : ∀ k, S k → S' k) : LibAt w S' B m L :=
  ⟨h.blk, hs _ h.inS, h.ne, h.map.mono fun k hk => ⟨hs k hk.1, hk.2⟩, h.home, h.size⟩
section
variable {L : List Prc} {lines : List ByteArray} {i : Nat} {p : Prc}
theorem blockT_none (h : headS (lines.getD i noText) = none) : blockT L lines i = .inr (84, (i : Int) + 1) := by unfold blockT; rw [h]
theorem blockT_r {k : Nat} (h : headS (lines.getD i noText) = some p) (h1 : sideT' readsW lines (i + 1) = .inr k) : blockT L lines i = .inr (84, k) := by unfold blockT; rw [h]; simp only; rw [h1]
theorem blockT_w {k i1 : Nat} {rs : List ByteArray} (h : headS (lines.getD i noText) = some p) (h1 : sideT' readsW lines (i + 1) = .inl (rs, i1)) (h2 : sideT' writesW lines i1 = .inr k) : blockT L lines i = .inr (84, k) := by
  unfold blockT; rw [h]; simp only; rw [h1]; simp only; rw [h2]
theorem blockT_mid {i1 i2 : Nat} {rs ws : List ByteArray} (h : headS (lines.getD i noText) = some p) (h1 : sideT' readsW lines (i + 1) = .inl (rs, i1)) (h2 : sideT' writesW lines i1 = .inl (ws, i2)) :
    blockT L lines i = if lines.length ≤ endAt lines i2 then .inr (84, (lines.length : Int) + 1) else
      if (asmT (joinT ((lines.drop i2).take (endAt lines i2 - i2)))).2.1 ≠ 0 then .inr ((asmT (joinT ((lines.drop i2).take (endAt lines i2 - i2)))).2.1, if (asmT (joinT ((lines.drop i2).take (endAt lines i2 - i2)))).2.2 = 0 then (i : Int) + 1 else i2 + (asmT (joinT ((lines.drop i2).take (endAt lines i2 - i2)))).2.2) else
      if addE L (mkPrc p.name p.kinds p.dep rs ws (asmT (joinT ((lines.drop i2).take (endAt lines i2 - i2)))).1) ≠ 0 then .inr (addE L (mkPrc p.name p.kinds p.dep rs ws (asmT (joinT ((lines.drop i2).take (endAt lines i2 - i2)))).1), (i : Int) + 1)
      else .inl (mkPrc p.name p.kinds p.dep rs ws (asmT (joinT ((lines.drop i2).take (endAt lines i2 - i2)))).1, endAt lines i2 + 1) := by
  unfold blockT; rw [h]; simp only; rw [h1]; simp only; rw [h2]
end
theorem sideT_end {w : List UInt8} {lines : List ByteArray} {i : Nat} (h : lines.length ≤ i) : sideT' w lines i = .inl ([], i) := by unfold sideT'; rw [if_pos h]
theorem sideT_bad {w : List UInt8} {lines : List ByteArray} {i : Nat} {r : List ByteArray × Bool × Bool} (h : i < lines.length) (hr : tmplsT w lines[i] = r) (hb : r.2.2 = false) : sideT' w lines i = .inr (i + 1) := by
  unfold sideT'; rw [if_neg (by omega), getD_at h, hr, if_pos hb]
theorem sideT_does {w : List UInt8} {lines : List ByteArray} {i : Nat} {r : List ByteArray × Bool × Bool} (h : i < lines.length) (hr : tmplsT w lines[i] = r) (hb : r.2.2 = true) (hd : r.2.1 = true) : sideT' w lines i = .inl (r.1, i + 1) := by
  unfold sideT'; rw [if_neg (by omega), getD_at h, hr, if_neg (by rw [hb]; decide), if_pos hd]
theorem sideT_not {w : List UInt8} {lines : List ByteArray} {i : Nat} {r : List ByteArray × Bool × Bool} (h : i < lines.length) (hr : tmplsT w lines[i] = r) (hb : r.2.2 = true) (hd : r.2.1 = false) : sideT' w lines i = .inl ([], i) := by
  unfold sideT'; rw [if_neg (by omega), getD_at h, hr, if_neg (by rw [hb]; decide), if_neg (by rw [hd]; decide)]
theorem cutL_len1 (c : UInt8) (s : ByteArray) : (cutT' c s).length ≤ s.size + 1 := by
  have := (cutL_bd c s.data.toList).1
  unfold cutT'
  rw [List.length_map]
  exact this
theorem tmplsT_len {w : List UInt8} {s : ByteArray} (h : s.size ≤ 1073741000) : (tmplsT w s).1.length ≤ 1073741824 := by
  unfold tmplsT
  split
  · exact Nat.zero_le _
  · have h1 := cutL_len1 32 (s.extract (w.length + 1) s.size)
    have h2 : (s.extract (w.length + 1) s.size).size ≤ s.size := by rw [ByteArray.size_extract]; omega
    unfold wordsT
    simp only
    omega
structure SdTo (w4 : World) (P : Nat) (p : Prc) (lines : List ByteArray) (i0 kk j : Nat) (W : World) : Prop where
  go : ∃ rs ws, ((kk = 0 → j = i0 ∧ rs = [] ∧ ws = []) ∧ (kk = 1 → sideT' readsW lines i0 = .inl (rs, j) ∧ ws = []) ∧ (kk = 2 → ∃ i1, sideT' readsW lines i0 = .inl (rs, i1) ∧ sideT' writesW lines i1 = .inl (ws, j))) ∧
    PsAt W P (fun k => ¬ k = P) p.name p.kinds p.dep rs ws ∧ rs.length ≤ 1073741824 ∧ ws.length ≤ 1073741824
  keep : Keep (One P) w4 W
  lo : i0 ≤ j
  hi : j ≤ lines.length
structure PlTo (w1 : World) (B m : Nat) (lines : List ByteArray) (r : List Prc ⊕ (Int × Int)) (i : Nat) (wr : World) : Prop where
  fuel : ∃ f Lc, lines.length - i ≤ f ∧ parseF f Lc lines i = r ∧ LibAt wr (Fr w1.heap.size wr.heap.size) B m Lc
  keep : Keep No w1 wr
theorem lines_cases (s : ByteArray) {L : List ByteArray} (hL : pcsAt 10 s = L) (hne : 1 ≤ L.length) : ∃ n, linesL s = L.take n ∧ n ≤ L.length ∧ (linesL s).length = n ∧ n = if (L[L.length - 1]'(by omega)).size = 0 then L.length - 1 else L.length := by
  have e : linesT s = L := hL
  have hg : L.getD (L.length - 1) noText = L[L.length - 1]'(by omega) := by simp [List.getD, show L.length - 1 < L.length by omega]
  unfold linesL
  rw [e, hg]
  split
  · exact ⟨L.length - 1, rfl, by omega, by simp, rfl⟩
  · exact ⟨L.length, by simp, Nat.le_refl _, rfl, rfl⟩
set_option maxRecDepth 10000 in
set_option maxHeartbeats 8000000 in
theorem parse_any (s : ByteArray) (hs : s.size ≤ 1073740000) (w : World) (he : Errs w) (hkw : KindsW w) : Calls Tryz.prog 20 #[.string s] w (GivesPl w (parseT s)) := by
  obtain ⟨r, hr⟩ : ∃ r, parseT s = r := ⟨_, rfl⟩
  rw [hr]
  unfold parseT at hr
  have hsp := splitC_any s 10 (by omega) w
  have hbd := pcs_bd 10 s
  obtain ⟨L, hL⟩ : ∃ L, pcsAt 10 s = L := ⟨_, rfl⟩
  rw [hL] at hsp hbd
  obtain ⟨n, hpre, hn1, hn2, hn3⟩ := lines_cases s hL hbd.2.1
  obtain ⟨lines, hlines⟩ : ∃ l, linesL s = l := ⟨_, rfl⟩
  rw [hlines] at hr hpre hn2
  have y1 := blk_new w (.cells (L.map Value.string).toArray 9)
  have K1 := (Keep.refl No w).alloc (.cells (L.map Value.string).toArray 9)
  have hrd : Rd (.slice .str) (w.alloc (.cells (L.map Value.string).toArray 9)) (One w.heap.size) [.slice (some ⟨w.heap.size, 0, none⟩) n L.length] lines := by
    have h0 := row_rd (S := One w.heap.size) y1 rfl (fun x hx => by have := hbd.2.2 x hx; omega) (by omega)
    have h1 := h0.midT 0 n (Nat.zero_le _) hn1
    simp only [List.drop_zero, Nat.sub_zero, Nat.add_zero] at h1
    rw [← hpre, hn2] at h1
    exact h1
  have hlsz : ∀ x ∈ lines, x.size ≤ s.size := fun x hx => by
    rw [hpre] at hx
    exact hbd.2.2 x (List.mem_of_mem_take hx)
  have hsl : lines.Sublist (linesT s) := by
    rw [show linesT s = L from hL, hpre]
    exact List.take_sublist _ _
  have HSL := Lib.hid hsl
  have hlast := row_str y1 (L.length - 1) (by have := hbd.2.1; omega)
  obtain ⟨lst, hlst⟩ : ∃ x, L[L.length - 1]'(by have := hbd.2.1; omega) = x := ⟨_, rfl⟩
  rw [hlst] at hlast hn3
  have HX := Lib.hid (And.intro he (And.intro hkw (And.intro K1 (And.intro hrd (And.intro hlsz (And.intro hs (And.intro hr (And.intro hn2 hn3))))))))
  obtain ⟨q, hq⟩ : ∃ q, L.length = q + 1 := ⟨L.length - 1, by have := hbd.2.1; omega⟩
  have i1 : ((L.length : Int) - 1) = (q : Int) := by omega
  have i2 : (q : Int) < L.length := by omega
  have i3 : (0 : Int) ≤ q := by omega
  have i5 : (L.length : Int) ≤ 1073740001 := by have := hbd.1; omega
  have HQ := Lib.hid (And.intro hq hn1)
  rw [show L.length - 1 = q by omega] at hlast
  clear he hkw K1 hrd hlsz hs hr hL hbd hpre hn1 hn2 hn3 hlines y1 hlst hq hsl
  go_enter Tryz.func20, Tryz.ntmps20
  go_upto_region 2 with (go_at_call 55; refine hsp.mono ?_; clear hsp; rintro e w8 ⟨rfl, rfl⟩)
  generalize w.alloc (.cells (L.map Value.string).toArray 9) = w1 at *
  obtain ⟨bz, hbz⟩ : ∃ b : Bool, (lst.toList == ([] : List UInt8)) = b := ⟨_, rfl⟩
  have HBZ := Lib.hid hbz
  go_upto_if 28 with fail
  go_cut [5] (fun v wx => v = .slice (some ⟨w.heap.size, 0, none⟩) n L.length ∧ wx = w1)
  case first =>
    cases bz with
    | true =>
      have hz : lst.size = 0 := Classical.byContradiction fun h => by have := empty_beq h; rw [HBZ.out] at this; cases this
      have e : n = q := by have := HX.out.2.2.2.2.2.2.2.2; rw [if_pos hz] at this; have := HQ.out.1; omega
      subst e
      have i6 : (n : Int) ≤ L.length := by omega
      clear hz hbz
      go_wp2_with fail
      go_meet
      case rel => exact ⟨rfl, rfl⟩
    | false =>
      have hz : ¬ lst.size = 0 := fun h => by have := HBZ.out; rw [noText_iff.1 h] at this; simp [ByteArray.toList_eq] at this
      have e : n = L.length := by have := HX.out.2.2.2.2.2.2.2.2; rw [if_neg hz] at this; exact this
      have HE := Lib.hid e
      clear hz hbz e
      go_wp2_with fail
      go_meet
      case rel => exact ⟨by rw [HE.out], rfl⟩
  case rest =>
    obtain ⟨rfl, hwx⟩ := hcut
    subst hwx
    clear hbz HBZ hlast i1 i2 i3
    generalize wc = w1 at *
    have K2 : Keep No w1 ((w1.alloc (.map #[] 0)).alloc (.cells #[.map (some w1.heap.size)] 101)) := ((Keep.refl No w1).alloc _).alloc _
    have hA : LibAt ((w1.alloc (.map #[] 0)).alloc (.cells #[.map (some w1.heap.size)] 101)) (Fr w1.heap.size (w1.heap.size + 2)) (w1.heap.size + 1) w1.heap.size [] := by
      have h1 := blk_new (w1.alloc (.map #[] 0)) (.cells #[.map (some w1.heap.size)] 101)
      simp only [World.size_alloc] at h1
      refine ⟨h1, ⟨by omega, by omega⟩, by omega, ?_, (fun p hp => by cases hp), Nat.zero_le _⟩
      exact (LibMap.new w1 (fun k => Fr w1.heap.size (w1.heap.size + 2) k ∧ k ≠ w1.heap.size + 1) ⟨⟨by omega, by omega⟩, by omega⟩).keep ((Keep.refl No _).alloc _) (fun _ _ x => x)
    have HA := Lib.hid (And.intro K2 hA)
    have i8 : (n : Int) ≤ 1073740001 := by have := HQ.out.2; omega
    clear K2 hA
    have hmm := @run_makeMap Tryz.prog
    go_wp2_with fail
    clear hmm
    go_loopg [7] n (fun g v wr => ∃ i : Nat, i ≤ n ∧ g = n - i ∧ v = .int .i64 i ∧ RowKit.Hid (PlTo w1 (w1.heap.size + 1) w1.heap.size lines r i wr))
    case atStart => exact ⟨0, by omega, by omega, rfl, ⟨n, [], by rw [HX.out.2.2.2.2.2.2.2.1]; omega, by have := HX.out.2.2.2.2.2.2.1; rw [HX.out.2.2.2.2.2.2.2.1] at this; exact this, by simpa using HA.out.2⟩, HA.out.1⟩
    case round =>
      obtain ⟨i, hi, rfl, rfl, HR⟩ := hrel
      by_cases hlt : i < n
      · have j1 : (i : Int) < n := by omega
        have j0 : (0 : Int) ≤ i := by omega
        have hll : lines.length = n := HX.out.2.2.2.2.2.2.2.1
        have hin : i < lines.length := by omega
        obtain ⟨f, Lc, hf, hp, hlib⟩ := HR.out.fuel
        have k1r := HX.out.2.2.1.trans HR.out.keep
        have hcell : wr.cell? ⟨w.heap.size, i, none⟩ = some (.string lines[i]) := by
          obtain ⟨b, off, e, hc, -⟩ := strs_cells (HX.out.2.2.2.1.agree _ HR.out.keep.agreeNo) i hin
          simp only [Option.some.injEq, Addr.mk.injEq, and_true] at e
          obtain ⟨rfl, rfl⟩ := e
          simpa using hc
        have hhd := head_any lines[i] (by have := HX.out.2.2.2.2.1 _ (List.getElem_mem hin); have := HX.out.2.2.2.2.2.1; omega) wr (HX.out.2.1.keep k1r (fun x => x))
        have hgd := getD_at hin
        obtain ⟨li, hli⟩ : ∃ x, lines[i] = x := ⟨_, rfl⟩
        rw [hli] at hcell hhd hgd
        obtain ⟨hd, hh⟩ : ∃ h, headS li = h := ⟨_, rfl⟩
        rw [hh] at hhd
        have hdl : headS (lines.getD i noText) = hd := by rw [hgd]; exact hh
        have HI := Lib.hid (And.intro hf (And.intro hp (And.intro hlib (And.intro k1r (And.intro hdl hin)))))
        have HLL := Lib.hid hll
        clear hf hp hlib k1r hdl hgd hli hh hin hll
        cases hd with
        | none =>
          have hrr : r = .inr (84, (i : Int) + 1) := by rw [← HI.out.2.1]; exact parseF_err HI.out.2.2.2.2.2 HI.out.1 (blockT_none HI.out.2.2.2.2.1)
          subst hrr
          clear hlt hi
          unfold GivesHd at hhd
          simp only at hhd
          go_wp2_with (go_at_call 56; refine hhd.mono ?_; clear hhd; rintro e w3 ⟨rfl, HK3⟩)
          go_ret3
          exact ⟨rfl, (HI.out.2.2.2.1.trans HK3.out).alloc _⟩
        | some p =>
          generalize wr = wo at *
          have hhd2 := hhd.mono (R' := fun e w' => ∃ a c, e = .returned (.tuple #[.agg #[.string p.name, .slice a p.kinds.length c, .bool p.dep, .slice none 0 0, .slice none 0 0, .int .i64 0, .slice none 0 0, .slice none 0 0], .bool true]) ∧ RowKit.Hid (Keep No wo w' ∧ Rd (.slice (.int .i64)) w' (Fr wo.heap.size w'.heap.size) [.slice a p.kinds.length c] p.kinds)) (fun e w' h => h)
          have HRK := Lib.hid HR.out.keep
          clear hhd hlt hi HR
          go_upto_block 2 with (go_at_call 56; refine hhd2.mono ?_; clear hhd2; rintro e w3 ⟨a, c, rfl, H3⟩)
          have kW := (H3.out.1.alloc (.cells #[.string p.name, .slice a p.kinds.length c, .bool p.dep, .slice none 0 0, .slice none 0 0, .int .i64 0, .slice none 0 0, .slice none 0 0] 29)).alloc (.cells #[.string ⟨#[114, 101, 97, 100, 115]⟩, .pointer (some ⟨w3.heap.size, 3, none⟩), .string ⟨#[119, 114, 105, 116, 101, 115]⟩, .pointer (some ⟨w3.heap.size, 4, none⟩)] 103)
          have xW := blk_alloc (o' := .cells #[.string ⟨#[114, 101, 97, 100, 115]⟩, .pointer (some ⟨w3.heap.size, 3, none⟩), .string ⟨#[119, 114, 105, 116, 101, 115]⟩, .pointer (some ⟨w3.heap.size, 4, none⟩)] 103) (blk_new w3 (.cells #[.string p.name, .slice a p.kinds.length c, .bool p.dep, .slice none 0 0, .slice none 0 0, .int .i64 0, .slice none 0 0, .slice none 0 0] 29))
          have yW := blk_new (w3.alloc (.cells #[.string p.name, .slice a p.kinds.length c, .bool p.dep, .slice none 0 0, .slice none 0 0, .int .i64 0, .slice none 0 0, .slice none 0 0] 29)) (.cells #[.string ⟨#[114, 101, 97, 100, 115]⟩, .pointer (some ⟨w3.heap.size, 3, none⟩), .string ⟨#[119, 114, 105, 116, 101, 115]⟩, .pointer (some ⟨w3.heap.size, 4, none⟩)] 103)
          simp only [World.size_alloc] at yW
          have kinds5 := H3.out.2.agree _ ((((Keep.refl No w3).alloc (.cells #[.string p.name, .slice a p.kinds.length c, .bool p.dep, .slice none 0 0, .slice none 0 0, .int .i64 0, .slice none 0 0, .slice none 0 0] 29)).alloc (.cells #[.string ⟨#[114, 101, 97, 100, 115]⟩, .pointer (some ⟨w3.heap.size, 3, none⟩), .string ⟨#[119, 114, 105, 116, 101, 115]⟩, .pointer (some ⟨w3.heap.size, 4, none⟩)] 103)).agreeNo)
          have hs35 := H3.out.1.size
          generalize (w3.alloc (.cells #[.string p.name, .slice a p.kinds.length c, .bool p.dep, .slice none 0 0, .slice none 0 0, .int .i64 0, .slice none 0 0, .slice none 0 0] 29)).alloc (.cells #[.string ⟨#[114, 101, 97, 100, 115]⟩, .pointer (some ⟨w3.heap.size, 3, none⟩), .string ⟨#[119, 114, 105, 116, 101, 115]⟩, .pointer (some ⟨w3.heap.size, 4, none⟩)] 103) = w5 at *
          have hS5 : SdTo w5 w3.heap.size p lines (i + 1) 0 (i + 1) w5 := ⟨⟨[], [], ⟨fun _ => ⟨rfl, rfl, rfl⟩, (fun h => by cases h), (fun h => by cases h)⟩, ⟨a, c, none, 0, none, 0, xW, kinds5.mono _ (fun k _ hk e => by have := hk.2; omega), rd_nilS _ _, rd_nilS _ _⟩, Nat.zero_le _, Nat.zero_le _⟩, Keep.refl _ _, Nat.le_refl _, HI.out.2.2.2.2.2⟩
          obtain ⟨P, hP⟩ : ∃ P, P = w3.heap.size := ⟨_, rfl⟩
          rw [← hP] at xW yW hS5 hs35 ⊢
          have HW := Lib.hid (And.intro xW (And.intro yW (And.intro kW hs35)))
          have HS5 := Lib.hid hS5
          clear kW xW yW kinds5 hS5 hs35 hP H3
          go_cut [7] (fun v wx => ∃ j : Nat, v = .int .i64 j ∧ RowKit.Hid (SdTo w5 P p lines (i + 1) 2 j wx))
          case first =>
            go_wp2_with fail
            go_loopg [62, 7] 2 (fun g k v wr => ∃ kk j : Nat, kk ≤ 2 ∧ g = 2 - kk ∧ k = .int .i64 kk ∧ v = .int .i64 j ∧ RowKit.Hid (SdTo w5 P p lines (i + 1) kk j wr))
            case atStart => exact ⟨0, i + 1, by omega, by omega, rfl, by simp, HS5.out⟩
            case round =>
              obtain ⟨kk, j, hkk, rfl, rfl, rfl, HR2⟩ := hrel
              have hcase : kk = 0 ∨ kk = 1 ∨ kk = 2 := by omega
              rcases hcase with rfl | rfl | rfl
              · obtain ⟨rs, ws, ⟨g0, g1, g2⟩, ⟨a1, c1, a2, c2, a3, c3, hb, hr1, hr2, hr3⟩, hl1, hl2⟩ := HR2.out.go
                obtain ⟨hj0, rfl, rfl⟩ := g0 rfl
                have hQ := HR2.out.keep.blk HW.out.2.1 (fun e => by have e : P + 1 = P := e; omega)
                have qQ0 := (blk_cell hQ 0).trans rfl
                have qQ1 := (blk_cell hQ (0 + 1)).trans rfl
                have kro : Keep No wo wr := HW.out.2.2.1.then HR2.out.keep (fun q hq e => by have e : q = P := e; have := HW.out.2.2.2; omega)
                by_cases hjn : j = n
                · have f1 : ((j : Int) == n) = true := by simp; omega
                  have HFIN := Lib.hid (show SdTo w5 P p lines (i + 1) 2 j (wr.alloc (.cells #[.string ⟨#[114, 101, 97, 100, 115]⟩, .pointer (some ⟨P, 3, none⟩)] 103)) from ⟨⟨[], [], ⟨(fun h => by cases h), (fun h => by cases h), fun _ => ⟨j, by rw [← hj0]; exact sideT_end (by rw [HLL.out]; omega), sideT_end (by rw [HLL.out]; omega)⟩⟩, (PsAt.keep (M := No) (w := wr) (P := P) (S := fun k => ¬ k = P) (rs := []) (ws := []) ⟨a1, c1, a2, c2, a3, c3, hb, hr1, hr2, hr3⟩ ((Keep.refl No wr).alloc _) (fun x => x) (fun _ _ x => x)), hl1, hl2⟩, HR2.out.keep.alloc _, HR2.out.lo, HR2.out.hi⟩)
                  clear g0 g1 g2 hb hr1 hr2 hr3 hl1 hl2 hQ kro hjn hj0
                  go_wp2_with fail
                  go_meet
                  case rel => exact ⟨j, rfl, HFIN.out⟩
                · have hjl : j < n := by have := HR2.out.hi; have := HLL.out; omega
                  have hjm : j < lines.length := by rw [HLL.out]; exact hjl
                  have f1 : ((j : Int) == n) = false := by simp; omega
                  have i1 : (j : Int) < n := by omega
                  have i0 : (0 : Int) ≤ j := by omega
                  have hcell2 : wr.cell? ⟨w.heap.size, j, none⟩ = some (.string lines[j]) := by
                    obtain ⟨b, off, e, hc, -⟩ := strs_cells ((HX.out.2.2.2.1.agree _ HRK.out.agreeNo).agree _ kro.agreeNo) j hjm
                    simp only [Option.some.injEq, Addr.mk.injEq, and_true] at e
                    obtain ⟨rfl, rfl⟩ := e
                    simpa using hc
                  have htm := fun W => templates_any lines[j] ⟨#[114, 101, 97, 100, 115]⟩ (by have := HX.out.2.2.2.2.1 _ (List.getElem_mem hjm); have := HX.out.2.2.2.2.2.1; omega) (by decide) W
                  have hsb := fun (h : (tmplsT readsW lines[j]).2.2 = false) => sideT_bad (w := readsW) (r := tmplsT readsW lines[j]) hjm rfl h
                  have hsd := fun (h1 : (tmplsT readsW lines[j]).2.2 = true) (h2 : (tmplsT readsW lines[j]).2.1 = true) => sideT_does (w := readsW) (r := tmplsT readsW lines[j]) hjm rfl h1 h2
                  have hsn := fun (h1 : (tmplsT readsW lines[j]).2.2 = true) (h2 : (tmplsT readsW lines[j]).2.1 = false) => sideT_not (w := readsW) (r := tmplsT readsW lines[j]) hjm rfl h1 h2
                  have hwl : (⟨#[114, 101, 97, 100, 115]⟩ : ByteArray).data.toList = readsW := rfl
                  have htl : (tmplsT readsW lines[j]).1.length ≤ 1073741824 := tmplsT_len (by have := HX.out.2.2.2.2.1 _ (List.getElem_mem hjm); have := HX.out.2.2.2.2.2.1; omega)
                  rw [hwl] at htm
                  obtain ⟨lj, hlj⟩ : ∃ x, lines[j] = x := ⟨_, rfl⟩
                  rw [hlj] at hcell2 htm hsb hsd hsn htl
                  obtain ⟨tm, htmr⟩ : ∃ x, tmplsT readsW lj = x := ⟨_, rfl⟩
                  rw [htmr] at htm hsb hsd hsn htl
                  obtain ⟨tl, td, tr⟩ := tm
                  dsimp only at htm hsb hsd hsn htl
                  have hPr : P < wr.heap.size := blk_lt hb
                  have HG := Lib.hid (And.intro (hj0) (And.intro hsb (And.intro hsd (And.intro hsn (And.intro htl (And.intro hl1 (And.intro hl2 (show j + 1 ≤ lines.length from hjm))))))))
                  have HB := Lib.hid (And.intro hb (And.intro hr1 (And.intro hr2 (And.intro hr3 (And.intro kro (And.intro hcell2 hPr))))))
                  clear g0 g1 g2 hb hr1 hr2 hr3 hl1 hl2 hQ kro hjn hsb hsd hsn htl hlj htmr hwl hjl hjm hPr hj0
                  go_upto_region 16 with fail
                  have HC0 := Lib.hid (And.intro (show (wr.alloc (.cells #[.string ⟨#[114, 101, 97, 100, 115]⟩, .pointer (some ⟨P, 3, none⟩)] 103)).drew.heap[wr.heap.size]? = _ from blk_new wr (.cells #[.string ⟨#[114, 101, 97, 100, 115]⟩, .pointer (some ⟨P, 3, none⟩)] 103)) (And.intro (show (wr.alloc (.cells #[.string ⟨#[114, 101, 97, 100, 115]⟩, .pointer (some ⟨P, 3, none⟩)] 103)).drew.cell? ⟨w.heap.size, j, none⟩ = some (.string lj) from (((Keep.refl No wr).alloc _).cell (World.block_lt_of_cell? _ _ HB.out.2.2.2.2.2.1) (fun x => x)).trans HB.out.2.2.2.2.2.1) (show Keep No wr (wr.alloc (.cells #[.string ⟨#[114, 101, 97, 100, 115]⟩, .pointer (some ⟨P, 3, none⟩)] 103)).drew from ((Keep.refl No wr).alloc _).drew)))
                  refine wp_region_canw [0, 1, 2, 3, 4, 5, 6, 7, 8, 9, 10, 11, 12, 13] [6] [] (by kernel_rfl) (by kernel_rfl) (by kernel_rfl) (by kernel_rfl) (by intro c a d v w h; cases d <;> exact h) ?_
                  generalize (wr.alloc (.cells #[.string ⟨#[114, 101, 97, 100, 115]⟩, .pointer (some ⟨P, 3, none⟩)] 103)).drew = w6 at *
                  have q6 := blk_cell HC0.out.1
                  have r6 := HC0.out.2.1
                  have htm6 := htm w6
                  clear qQ0 qQ1 hcell2 htm
                  iterate 6 (refine canw_sil rfl rfl (fun K hK => ?_); go_simp; refine hK _ ?_; clear hK K)
                  refine canw_loud [] rfl rfl rfl (fun K hK => ?_)
                  go_wp2_with (go_at_call 57; refine htm6.mono ?_; clear htm6; rintro e w7 ⟨a9, c9, rfl, H7⟩)
                  refine Mid.normal (hK _ _ stabs_nil ?_)
                  clear hK K
                  iterate 7 (refine canw_sil rfl rfl (fun K hK => ?_); go_simp; refine hK _ ?_; clear hK K)
                  refine canw_nil ?_
                  have k17 := HC0.out.2.2.trans H7.out.1
                  have xc := H7.out.1.blk HC0.out.1 (fun x => x)
                  have qc := blk_cell xc
                  have xp := k17.blk HB.out.1 (fun x => x)
                  have qp := blk_cell xp
                  have zp := blk_fro xp
                  have H17 := Lib.hid (And.intro k17 xp)
                  clear k17 xc xp q6 r6
                  cases tr with
                  | false =>
                    have hrr : r = .inr (84, (j : Int) + 1) := by
                      rw [← HI.out.2.1]
                      refine parseF_err HI.out.2.2.2.2.2 HI.out.1 ?_
                      have := HG.out.2.1 rfl
                      refine blockT_r HI.out.2.2.2.2.1 ?_
                      rw [← HG.out.1]
                      exact this
                    subst hrr
                    go_wp2_with fail
                    go_ret3
                    exact ⟨rfl, HI.out.2.2.2.1.trans (HB.out.2.2.2.2.1.trans H17.out.1)⟩
                  | true =>
                    cases td with
                    | true =>
                      have hnx := HG.out.2.2.1 rfl rfl
                      have HNX := Lib.hid (show SdTo w5 P p lines (i + 1) 1 (j + 1) (w7.setCell ⟨P, 3, none⟩ (.slice a9 tl.length c9)) from ⟨⟨tl, [], ⟨(fun h => by cases h), (fun _ => ⟨by rw [← HG.out.1]; exact hnx, rfl⟩), (fun h => by cases h)⟩, ⟨a1, c1, a9, c9, a3, c3, by simpa using blk_set H17.out.2 3 (.slice a9 tl.length c9), ((HB.out.2.1.agree _ H17.out.1.agreeNo).agree _ (agree_set (fun h => h rfl) _ _)), ((H7.out.2.mono _ (fun k _ hk e => by have := hk.1; have h8 := HB.out.2.2.2.2.2.2; have h9 := HC0.out.2.2.size; omega)).agree _ (agree_set (fun h => h rfl) _ _)), ((HB.out.2.2.2.1.agree _ H17.out.1.agreeNo).agree _ (agree_set (fun h => h rfl) _ _))⟩, HG.out.2.2.2.2.1, Nat.zero_le _⟩, (HR2.out.keep.thenNo H17.out.1).setCell (p := ⟨P, 3, none⟩) (fun _ => rfl) _, by have := HR2.out.lo; omega, HG.out.2.2.2.2.2.2.2⟩)
                      clear hnx
                      go_wp2_with fail
                      go_roundg (2 - 1)
                      case measure => decide
                      case rel => exact ⟨1, j + 1, by omega, rfl, by simp, by simp, HNX.out⟩
                    | false =>
                      have hnx := HG.out.2.2.2.1 rfl rfl
                      have HNX := Lib.hid (show SdTo w5 P p lines (i + 1) 1 j w7 from ⟨⟨[], [], ⟨(fun h => by cases h), (fun _ => ⟨by rw [← HG.out.1]; exact hnx, rfl⟩), (fun h => by cases h)⟩, ⟨a1, c1, a2, c2, a3, c3, H17.out.2, (HB.out.2.1.agree _ H17.out.1.agreeNo), (HB.out.2.2.1.agree _ H17.out.1.agreeNo), (HB.out.2.2.2.1.agree _ H17.out.1.agreeNo)⟩, Nat.zero_le _, Nat.zero_le _⟩, HR2.out.keep.thenNo H17.out.1, HR2.out.lo, HR2.out.hi⟩)
                      clear hnx
                      go_wp2_with fail
                      go_roundg (2 - 1)
                      case measure => decide
                      case rel => exact ⟨1, j, by omega, rfl, by simp, rfl, HNX.out⟩
              · obtain ⟨rs, ws, ⟨g0, g1, g2⟩, ⟨a1, c1, a2, c2, a3, c3, hb, hr1, hr2, hr3⟩, hl1, hl2⟩ := HR2.out.go
                obtain ⟨hsr, rfl⟩ := g1 rfl
                have hQ := HR2.out.keep.blk HW.out.2.1 (fun e => by have e : P + 1 = P := e; omega)
                have qQ0 := (blk_cell hQ 2).trans rfl
                have qQ1 := (blk_cell hQ (2 + 1)).trans rfl
                have kro : Keep No wo wr := HW.out.2.2.1.then HR2.out.keep (fun q hq e => by have e : q = P := e; have := HW.out.2.2.2; omega)
                by_cases hjn : j = n
                · have f1 : ((j : Int) == n) = true := by simp; omega
                  have HFIN := Lib.hid (show SdTo w5 P p lines (i + 1) 2 j (wr.alloc (.cells #[.string ⟨#[119, 114, 105, 116, 101, 115]⟩, .pointer (some ⟨P, 4, none⟩)] 103)) from ⟨⟨rs, [], ⟨(fun h => by cases h), (fun h => by cases h), fun _ => ⟨j, hsr, sideT_end (by rw [HLL.out]; omega)⟩⟩, (PsAt.keep (M := No) (w := wr) (P := P) (S := fun k => ¬ k = P) (rs := rs) (ws := []) ⟨a1, c1, a2, c2, a3, c3, hb, hr1, hr2, hr3⟩ ((Keep.refl No wr).alloc _) (fun x => x) (fun _ _ x => x)), hl1, hl2⟩, HR2.out.keep.alloc _, HR2.out.lo, HR2.out.hi⟩)
                  clear g0 g1 g2 hb hr1 hr2 hr3 hl1 hl2 hQ kro hjn hsr
                  go_wp2_with fail
                  go_meet
                  case rel => exact ⟨j, rfl, HFIN.out⟩
                · have hjl : j < n := by have := HR2.out.hi; have := HLL.out; omega
                  have hjm : j < lines.length := by rw [HLL.out]; exact hjl
                  have f1 : ((j : Int) == n) = false := by simp; omega
                  have i1 : (j : Int) < n := by omega
                  have i0 : (0 : Int) ≤ j := by omega
                  have hcell2 : wr.cell? ⟨w.heap.size, j, none⟩ = some (.string lines[j]) := by
                    obtain ⟨b, off, e, hc, -⟩ := strs_cells ((HX.out.2.2.2.1.agree _ HRK.out.agreeNo).agree _ kro.agreeNo) j hjm
                    simp only [Option.some.injEq, Addr.mk.injEq, and_true] at e
                    obtain ⟨rfl, rfl⟩ := e
                    simpa using hc
                  have htm := fun W => templates_any lines[j] ⟨#[119, 114, 105, 116, 101, 115]⟩ (by have := HX.out.2.2.2.2.1 _ (List.getElem_mem hjm); have := HX.out.2.2.2.2.2.1; omega) (by decide) W
                  have hsb := fun (h : (tmplsT writesW lines[j]).2.2 = false) => sideT_bad (w := writesW) (r := tmplsT writesW lines[j]) hjm rfl h
                  have hsd := fun (h1 : (tmplsT writesW lines[j]).2.2 = true) (h2 : (tmplsT writesW lines[j]).2.1 = true) => sideT_does (w := writesW) (r := tmplsT writesW lines[j]) hjm rfl h1 h2
                  have hsn := fun (h1 : (tmplsT writesW lines[j]).2.2 = true) (h2 : (tmplsT writesW lines[j]).2.1 = false) => sideT_not (w := writesW) (r := tmplsT writesW lines[j]) hjm rfl h1 h2
                  have hwl : (⟨#[119, 114, 105, 116, 101, 115]⟩ : ByteArray).data.toList = writesW := rfl
                  have htl : (tmplsT writesW lines[j]).1.length ≤ 1073741824 := tmplsT_len (by have := HX.out.2.2.2.2.1 _ (List.getElem_mem hjm); have := HX.out.2.2.2.2.2.1; omega)
                  rw [hwl] at htm
                  obtain ⟨lj, hlj⟩ : ∃ x, lines[j] = x := ⟨_, rfl⟩
                  rw [hlj] at hcell2 htm hsb hsd hsn htl
                  obtain ⟨tm, htmr⟩ : ∃ x, tmplsT writesW lj = x := ⟨_, rfl⟩
                  rw [htmr] at htm hsb hsd hsn htl
                  obtain ⟨tl, td, tr⟩ := tm
                  dsimp only at htm hsb hsd hsn htl
                  have hPr : P < wr.heap.size := blk_lt hb
                  have HG := Lib.hid (And.intro (hsr) (And.intro hsb (And.intro hsd (And.intro hsn (And.intro htl (And.intro hl1 (And.intro hl2 (show j + 1 ≤ lines.length from hjm))))))))
                  have HB := Lib.hid (And.intro hb (And.intro hr1 (And.intro hr2 (And.intro hr3 (And.intro kro (And.intro hcell2 hPr))))))
                  clear g0 g1 g2 hb hr1 hr2 hr3 hl1 hl2 hQ kro hjn hsb hsd hsn htl hlj htmr hwl hjl hjm hPr hsr
                  go_upto_region 16 with fail
                  have HC0 := Lib.hid (And.intro (show (wr.alloc (.cells #[.string ⟨#[119, 114, 105, 116, 101, 115]⟩, .pointer (some ⟨P, 4, none⟩)] 103)).drew.heap[wr.heap.size]? = _ from blk_new wr (.cells #[.string ⟨#[119, 114, 105, 116, 101, 115]⟩, .pointer (some ⟨P, 4, none⟩)] 103)) (And.intro (show (wr.alloc (.cells #[.string ⟨#[119, 114, 105, 116, 101, 115]⟩, .pointer (some ⟨P, 4, none⟩)] 103)).drew.cell? ⟨w.heap.size, j, none⟩ = some (.string lj) from (((Keep.refl No wr).alloc _).cell (World.block_lt_of_cell? _ _ HB.out.2.2.2.2.2.1) (fun x => x)).trans HB.out.2.2.2.2.2.1) (show Keep No wr (wr.alloc (.cells #[.string ⟨#[119, 114, 105, 116, 101, 115]⟩, .pointer (some ⟨P, 4, none⟩)] 103)).drew from ((Keep.refl No wr).alloc _).drew)))
                  refine wp_region_canw [0, 1, 2, 3, 4, 5, 6, 7, 8, 9, 10, 11, 12, 13] [6] [] (by kernel_rfl) (by kernel_rfl) (by kernel_rfl) (by kernel_rfl) (by intro c a d v w h; cases d <;> exact h) ?_
                  generalize (wr.alloc (.cells #[.string ⟨#[119, 114, 105, 116, 101, 115]⟩, .pointer (some ⟨P, 4, none⟩)] 103)).drew = w6 at *
                  have q6 := blk_cell HC0.out.1
                  have r6 := HC0.out.2.1
                  have htm6 := htm w6
                  clear qQ0 qQ1 hcell2 htm
                  iterate 6 (refine canw_sil rfl rfl (fun K hK => ?_); go_simp; refine hK _ ?_; clear hK K)
                  refine canw_loud [] rfl rfl rfl (fun K hK => ?_)
                  go_wp2_with (go_at_call 57; refine htm6.mono ?_; clear htm6; rintro e w7 ⟨a9, c9, rfl, H7⟩)
                  refine Mid.normal (hK _ _ stabs_nil ?_)
                  clear hK K
                  iterate 7 (refine canw_sil rfl rfl (fun K hK => ?_); go_simp; refine hK _ ?_; clear hK K)
                  refine canw_nil ?_
                  have k17 := HC0.out.2.2.trans H7.out.1
                  have xc := H7.out.1.blk HC0.out.1 (fun x => x)
                  have qc := blk_cell xc
                  have xp := k17.blk HB.out.1 (fun x => x)
                  have qp := blk_cell xp
                  have zp := blk_fro xp
                  have H17 := Lib.hid (And.intro k17 xp)
                  clear k17 xc xp q6 r6
                  cases tr with
                  | false =>
                    have hrr : r = .inr (84, (j : Int) + 1) := by
                      rw [← HI.out.2.1]
                      refine parseF_err HI.out.2.2.2.2.2 HI.out.1 ?_
                      have := HG.out.2.1 rfl
                      exact blockT_w HI.out.2.2.2.2.1 HG.out.1 this
                    subst hrr
                    go_wp2_with fail
                    go_ret3
                    exact ⟨rfl, HI.out.2.2.2.1.trans (HB.out.2.2.2.2.1.trans H17.out.1)⟩
                  | true =>
                    cases td with
                    | true =>
                      have hnx := HG.out.2.2.1 rfl rfl
                      have HNX := Lib.hid (show SdTo w5 P p lines (i + 1) 2 (j + 1) (w7.setCell ⟨P, 4, none⟩ (.slice a9 tl.length c9)) from ⟨⟨rs, tl, ⟨(fun h => by cases h), (fun h => by cases h), fun _ => ⟨j, HG.out.1, hnx⟩⟩, ⟨a1, c1, a2, c2, a9, c9, by simpa using blk_set H17.out.2 4 (.slice a9 tl.length c9), ((HB.out.2.1.agree _ H17.out.1.agreeNo).agree _ (agree_set (fun h => h rfl) _ _)), ((HB.out.2.2.1.agree _ H17.out.1.agreeNo).agree _ (agree_set (fun h => h rfl) _ _)), ((H7.out.2.mono _ (fun k _ hk e => by have := hk.1; have h8 := HB.out.2.2.2.2.2.2; have h9 := HC0.out.2.2.size; omega)).agree _ (agree_set (fun h => h rfl) _ _))⟩, HG.out.2.2.2.2.2.1, HG.out.2.2.2.2.1⟩, (HR2.out.keep.thenNo H17.out.1).setCell (p := ⟨P, 4, none⟩) (fun _ => rfl) _, by have := HR2.out.lo; omega, HG.out.2.2.2.2.2.2.2⟩)
                      clear hnx
                      go_wp2_with fail
                      go_roundg (2 - 2)
                      case measure => decide
                      case rel => exact ⟨2, j + 1, by omega, rfl, by simp, by simp, HNX.out⟩
                    | false =>
                      have hnx := HG.out.2.2.2.1 rfl rfl
                      have HNX := Lib.hid (show SdTo w5 P p lines (i + 1) 2 j w7 from ⟨⟨rs, [], ⟨(fun h => by cases h), (fun h => by cases h), fun _ => ⟨j, HG.out.1, hnx⟩⟩, ⟨a1, c1, a2, c2, a3, c3, H17.out.2, (HB.out.2.1.agree _ H17.out.1.agreeNo), (HB.out.2.2.1.agree _ H17.out.1.agreeNo), (HB.out.2.2.2.1.agree _ H17.out.1.agreeNo)⟩, HG.out.2.2.2.2.2.1, Nat.zero_le _⟩, HR2.out.keep.thenNo H17.out.1, HR2.out.lo, HR2.out.hi⟩)
                      clear hnx
                      go_wp2_with fail
                      go_roundg (2 - 2)
                      case measure => decide
                      case rel => exact ⟨2, j, by omega, rfl, by simp, rfl, HNX.out⟩
              · go_wp2_with fail
                go_meet
                case rel => exact ⟨j, rfl, HR2.out⟩
          case rest =>
            obtain ⟨j, rfl, HS⟩ := hcut
            obtain ⟨rs, ws, ⟨-, -, g2⟩, hps, hl1, hl2⟩ := HS.out.go
            obtain ⟨i1', hs1, hs2⟩ := g2 rfl
            have kro : Keep No wo wc := HW.out.2.2.1.then HS.out.keep (fun q hq e => by have e : q = P := e; have := HW.out.2.2.2; omega)
            have hjn : j ≤ n := by have := HS.out.hi; have := HLL.out; omega
            have HJ := Lib.hid (And.intro hs1 (And.intro hs2 (And.intro hps (And.intro hl1 (And.intro hl2 (And.intro kro hjn))))))
            obtain ⟨E, hE⟩ : ∃ E, endAt lines j = E := ⟨_, rfl⟩
            have HE := Lib.hid hE
            clear hs1 hs2 hps hl1 hl2 kro g2 HS5 hE
            go_upto_block 4 with fail
            generalize wc = w6 at *
            go_cut [7] (fun v wx => v = .int .i64 E ∧ wx = w6)
            case first =>
              go_wp2_with fail
              go_loopg [7] (n - j) (fun g v wr => ∃ q : Nat, q ≤ n ∧ g = n - q ∧ v = .int .i64 q ∧ wr = w6 ∧ RowKit.Hid (endAt lines q = E))
              case atStart => exact ⟨j, hjn, rfl, rfl, rfl, HE.out⟩
              case round =>
                obtain ⟨q, hqn, rfl, rfl, hwr, HR3⟩ := hrel
                subst hwr
                by_cases hlq : q < n
                · have i1 : (q : Int) < n := by omega
                  have i0 : (0 : Int) ≤ q := by omega
                  have hqm : q < lines.length := by rw [HLL.out]; exact hlq
                  have hcell3 : wr.cell? ⟨w.heap.size, q, none⟩ = some (.string lines[q]) := by
                    obtain ⟨b, off, e, hc, -⟩ := strs_cells ((HX.out.2.2.2.1.agree _ HRK.out.agreeNo).agree _ HJ.out.2.2.2.2.2.1.agreeNo) q hqm
                    simp only [Option.some.injEq, Addr.mk.injEq, and_true] at e
                    obtain ⟨rfl, rfl⟩ := e
                    simpa using hc
                  have hw := isW_beq lines[q] endW
                  unfold endW at hw
                  have hst := fun h => endAt_step hqm h
                  have hsp := fun h => endAt_stop (lines := lines) (i := q) (.inr ⟨hqm, h⟩)
                  unfold endW at hst hsp
                  obtain ⟨lq, hlq2⟩ : ∃ x, lines[q] = x := ⟨_, rfl⟩
                  rw [hlq2] at hcell3 hw hst hsp
                  obtain ⟨be, hbe⟩ : ∃ b, isW lq [101, 110, 100] = b := ⟨_, rfl⟩
                  rw [hbe] at hw hst hsp
                  have HME := Lib.hid (And.intro (show n - (q + 1) < n - q by omega) (show q + 1 ≤ n by omega))
                  cases be with
                  | true =>
                    have HT := Lib.hid (hsp rfl)
                    clear hst hsp hbe hlq2 hqm hlq hqn
                    go_wp2_with fail
                    go_meet
                    case rel => exact ⟨by rw [← HR3.out, HT.out], rfl⟩
                  | false =>
                    have HT := Lib.hid (hst rfl)
                    clear hst hsp hbe hlq2 hqm hlq hqn
                    go_wp2_with fail
                    go_roundg (n - (q + 1))
                    case measure => exact HME.out.1
                    case rel => exact ⟨q + 1, HME.out.2, rfl, by simp, rfl, by rw [← HT.out]; exact HR3.out⟩
                · have i1 : ¬ (q : Int) < n := by omega
                  have HT := Lib.hid (endAt_stop (lines := lines) (i := q) (.inl (by rw [HLL.out]; omega)))
                  clear hlq hqn
                  go_wp2_with fail
                  go_meet
                  case rel => exact ⟨by rw [← HR3.out, HT.out], rfl⟩
            case rest =>
              obtain ⟨rfl, hwx⟩ := hcut
              subst hwx
              have hEj : j ≤ E ∧ E ≤ n := by
                have h1 := HE.out
                unfold endAt at h1
                have h2 := (List.takeWhile_sublist (l := lines.drop j) (fun s => !isW s endW)).length_le
                rw [List.length_drop, HLL.out] at h2
                omega
              have hmid := blockT_mid (L := []) HI.out.2.2.2.2.1 HJ.out.1 HJ.out.2.1
              clear hmid
              by_cases hEn : E = n
              · have f1 : ((E : Int) == n) = true := by simp; omega
                have hrr : r = .inr (84, (n : Int) + 1) := by
                  rw [← HI.out.2.1]
                  refine parseF_err HI.out.2.2.2.2.2 HI.out.1 ?_
                  rw [blockT_mid HI.out.2.2.2.2.1 HJ.out.1 HJ.out.2.1, HE.out, if_pos (by rw [HLL.out]; omega), HLL.out]
                have HEN := Lib.hid hEn
                subst hrr
                have iE : (E : Int) ≤ 1073740001 := by omega
                clear hEn hEj hjn
                go_wp2_with fail
                go_ret3
                rw [HEN.out]
                exact ⟨rfl, HI.out.2.2.2.1.trans HJ.out.2.2.2.2.2.1⟩
              · have f1 : ((E : Int) == n) = false := by simp; omega
                have hElt : E < n := by omega
                have hxl : ((lines.drop j).take (E - j)).length = E - j := by rw [List.length_take, List.length_drop, HLL.out]; omega
                have hrdl : Rd (.slice .str) wc (One w.heap.size) [.slice (some ⟨w.heap.size, 0, none⟩) n L.length] lines := (HX.out.2.2.2.1.agree _ HRK.out.agreeNo).agree _ HJ.out.2.2.2.2.2.1.agreeNo
                have hrdx := hrdl.midT j E hEj.1 (by rw [HLL.out]; exact hEj.2)
                obtain ⟨xs, hxs⟩ : ∃ x, (lines.drop j).take (E - j) = x := ⟨_, rfl⟩
                rw [hxs] at hxl hrdx
                have hln : lensP xs ≤ 1073740001 := by
                  have h1 : lensP xs ≤ lensP (linesT s) := by
                    refine lensP_sub ?_
                    rw [← hxs]
                    refine ((List.take_sublist _ _).trans (List.drop_sublist _ _)).trans ?_
                    exact HSL.out
                  rw [linesT_cut, lensP_cut] at h1
                  have := HX.out.2.2.2.2.2.1
                  omega
                have hjl := join_le xs 10
                have hjs := joinT_size xs
                have hjoin := joinC_any wc (One w.heap.size) (some ⟨w.heap.size, 0 + j, none⟩) (L.length - j) xs hrdx ⟨#[10]⟩ (by show (Lib.join (xs.map (·.data.toList)) [10]).length ≤ _; omega) (by rw [hxl]; omega)
                have hjoin : Calls Tryz.prog 59 #[.slice (some ⟨w.heap.size, j, none⟩) (E - j) (L.length - j), .string ⟨#[10]⟩] wc fun e w' => e = .returned (.string (joinT xs)) ∧ RowKit.Hid (Keep No wc w') := by
                  rw [Nat.zero_add, hxl] at hjoin
                  exact hjoin
                have hErr : Errs wc := (((HX.out.1.keep HX.out.2.2.1).keep HRK.out).keep HJ.out.2.2.2.2.2.1)
                have hasm := fun W (hk : Keep No wc W) => asAssemble_any (joinT xs) (by omega) W (hErr.keep hk)
                have harg := asmT_args (joinT xs)
                have hlin := asmT_line (joinT xs)
                obtain ⟨y, hy⟩ : ∃ y, asmT (joinT xs) = y := ⟨_, rfl⟩
                rw [hy] at hasm harg hlin
                have hmid : ∀ Lc, blockT Lc lines i = if y.2.1 ≠ 0 then .inr (y.2.1, if y.2.2 = 0 then (i : Int) + 1 else j + y.2.2) else if addE Lc (mkPrc p.name p.kinds p.dep rs ws y.1) ≠ 0 then .inr (addE Lc (mkPrc p.name p.kinds p.dep rs ws y.1), (i : Int) + 1) else .inl (mkPrc p.name p.kinds p.dep rs ws y.1, E + 1) := fun Lc => by
                  rw [blockT_mid HI.out.2.2.2.2.1 HJ.out.1 HJ.out.2.1, HE.out, if_neg (by rw [HLL.out]; omega), hxs, hy]
                obtain ⟨g, er, at'⟩ := y
                dsimp only at hasm harg hmid hlin
                have HLIN := Lib.hid hlin
                clear hlin
                unfold GivesAs at hasm
                dsimp only at hasm
                obtain ⟨a1, c1, a2, c2, a3, c3, hb, hr1, hr2, hr3⟩ := HJ.out.2.2.1
                have HM := Lib.hid (And.intro hmid (And.intro harg (And.intro hb (And.intro hr1 (And.intro hr2 (And.intro hr3 (And.intro hEj hElt)))))))
                have HAS := Lib.hid hasm
                have t0 : (0 : Int) ≤ j := by omega
                have t1 : (j : Int) ≤ E := by omega
                have t2 : (E : Int) ≤ L.length := by have := HQ.out.2; omega
                have t3 : (j : Int) < L.length := by have := HQ.out.2; omega
                have t4 : ¬ L.length = j := by have := HQ.out.2; omega
                have t5 : (E : Int) ≤ 1073740001 := by omega
                have t6 : ((E : Int) - j).toNat = E - j := by omega
                clear hmid harg hb hr1 hr2 hr3 hElt hEj hxl hrdl hrdx hxs hln hjl hjs hErr hy hasm hEn hjn
                go_upto_region 31 with (first | (go_at_call 59; refine hjoin.mono ?_; clear hjoin; rintro e w8 ⟨rfl, HK8⟩) | (go_at_call 58; refine (HAS.out _ HK8.out).mono ?_; rintro e w9 ⟨a4, c4, a5, c5, rfl, H9⟩; have x9 := H9.out.1.blk (HK8.out.blk HM.out.2.2.1 (fun x => x)) (fun x => x); have q9 := blk_cell x9; have z9 := blk_fro x9))
                have x10 : (((w9.setCell ⟨P, 5, none⟩ (.int .i64 g.args)).setCell ⟨P, 6, none⟩ (.slice a4 g.consts.length c4)).setCell ⟨P, 7, none⟩ (.slice a5 g.code.length c5)).heap[P]? = some (.cells #[.string p.name, .slice a1 p.kinds.length c1, .bool p.dep, .slice a2 rs.length c2, .slice a3 ws.length c3, .int .i64 g.args, .slice a4 g.consts.length c4, .slice a5 g.code.length c5] 29 (0, 0)) := by
                  simpa using blk_set (blk_set (blk_set (H9.out.1.blk (HK8.out.blk HM.out.2.2.1 (fun x => x)) (fun x => x)) 5 (.int .i64 g.args)) 6 (.slice a4 g.consts.length c4)) 7 (.slice a5 g.code.length c5)
                have hPw : P < wc.heap.size := blk_lt HM.out.2.2.1
                have k910 : Keep (One P) w9 (((w9.setCell ⟨P, 5, none⟩ (.int .i64 g.args)).setCell ⟨P, 6, none⟩ (.slice a4 g.consts.length c4)).setCell ⟨P, 7, none⟩ (.slice a5 g.code.length c5)) := ((keep_set _ _ _ _).trans (keep_set _ _ _ _)).trans (keep_set _ _ _ _)
                have ko10 : Keep No wo (((w9.setCell ⟨P, 5, none⟩ (.int .i64 g.args)).setCell ⟨P, 6, none⟩ (.slice a4 g.consts.length c4)).setCell ⟨P, 7, none⟩ (.slice a5 g.code.length c5)) := ((HJ.out.2.2.2.2.2.1.trans HK8.out).trans H9.out.1).then k910 (fun q hq e => by have e : q = P := e; have := HW.out.2.2.2; omega)
                have hag : Agree (fun k => ¬ k = P) w9 (((w9.setCell ⟨P, 5, none⟩ (.int .i64 g.args)).setCell ⟨P, 6, none⟩ (.slice a4 g.consts.length c4)).setCell ⟨P, 7, none⟩ (.slice a5 g.code.length c5)) := k910.agree (fun q _ hq e => hq e)
                have k89 := (HK8.out.trans H9.out.1)
                have hsz8 := HK8.out.size
                have hnm : nameOk p.name = true := headS_name HI.out.2.2.2.2.1
                have hn16 : p.name.size ≤ 16 := by
                  unfold nameOk at hnm
                  simp only [Bool.and_eq_true, decide_eq_true_eq] at hnm
                  omega
                have hprc : Rd procSh (((w9.setCell ⟨P, 5, none⟩ (.int .i64 g.args)).setCell ⟨P, 6, none⟩ (.slice a4 g.consts.length c4)).setCell ⟨P, 7, none⟩ (.slice a5 g.code.length c5)) (fun k => ¬ k = P) [.string p.name, .slice a1 p.kinds.length c1, .bool p.dep, .slice a2 rs.length c2, .slice a3 ws.length c3, .int .i64 g.args, .slice a4 g.consts.length c4, .slice a5 g.code.length c5] (mkPrc p.name p.kinds p.dep rs ws g) :=
                  proc_mk (mkPrc p.name p.kinds p.dep rs ws g) ((HM.out.2.2.2.1.agree _ k89.agreeNo).agree _ hag) ((HM.out.2.2.2.2.1.agree _ k89.agreeNo).agree _ hag) ((HM.out.2.2.2.2.2.1.agree _ k89.agreeNo).agree _ hag) ((H9.out.2.1.mono _ (fun q _ hq e => by have := hq.1; omega)).agree _ hag) ((H9.out.2.2.mono _ (fun q _ hq e => by have := hq.1; omega)).agree _ hag) (by rw [maxLen_is]; show p.name.size ≤ _; omega) (wf_small (by have := HM.out.2.1.1; show -9223372036854775808 ≤ g.args; omega) (by have := HM.out.2.1.2; show g.args ≤ 9223372036854775807; omega))
                have H10 := Lib.hid (And.intro x10 (And.intro ko10 (And.intro hprc hn16)))
                have q10 := blk_cell x10
                clear x10 k910 ko10 hag k89 hsz8 hnm hn16 hprc hPw q9 z9 x9 H9
                generalize ((w9.setCell ⟨P, 5, none⟩ (.int .i64 g.args)).setCell ⟨P, 6, none⟩ (.slice a4 g.consts.length c4)).setCell ⟨P, 7, none⟩ (.slice a5 g.code.length c5) = w10 at *
                by_cases her : er = 0
                · subst her
                  have hsum : rs.length + ws.length ≤ 9223372036854775807 := by have := HJ.out.2.2.2.1; have := HJ.out.2.2.2.2.1; omega
                  obtain ⟨f, Lc, hf, hp, hlib⟩ : ∃ f Lc, lines.length - i ≤ f ∧ parseF f Lc lines i = r ∧ LibAt wo (Fr w1.heap.size wo.heap.size) (w1.heap.size + 1) w1.heap.size Lc := ⟨_, _, HI.out.1, HI.out.2.1, HI.out.2.2.1⟩
                  have hadd := add_any w10 (Fr w1.heap.size wo.heap.size) (fun k => ¬ k = P) (w1.heap.size + 1) w1.heap.size Lc (hlib.keep H10.out.2.1 (fun _ _ x => x)) _ (mkPrc p.name p.kinds p.dep rs ws g) H10.out.2.2.1 (by show p.name.size ≤ _; have := H10.out.2.2.2; omega) hsum
                  have hmid := HM.out.1 Lc
                  rw [if_neg (fun h => h rfl)] at hmid
                  obtain ⟨ex, hex⟩ : ∃ e, addE Lc (mkPrc p.name p.kinds p.dep rs ws g) = e := ⟨_, rfl⟩
                  unfold AddR at hadd
                  rw [hex] at hadd hmid
                  have HF := Lib.hid (And.intro hf (And.intro hp hmid))
                  clear hf hp hlib hmid hex hsum
                  by_cases hex0 : ex = 0
                  · subst hex0
                    simp only [if_true] at hadd
                    have hmid := HF.out.2.2
                    rw [if_neg (fun h => h rfl)] at hmid
                    obtain ⟨f', hf', hpp⟩ := parseF_more HI.out.2.2.2.2.2 HF.out.1 hmid (by have := HM.out.2.2.2.2.2.2.1.1; have := HS.out.lo; show i < E + 1; omega)
                    have HNX := Lib.hid (And.intro hf' (show parseF f' (Lc ++ [mkPrc p.name p.kinds p.dep rs ws g]) lines (E + 1) = r from by rw [← HF.out.2.1, hpp]))
                    have HME := Lib.hid (And.intro (show n - (E + 1) < n - i by have := HM.out.2.2.2.2.2.2.1.1; have := HS.out.lo; have := HM.out.2.2.2.2.2.2.2; omega) (show E + 1 ≤ n by have := HM.out.2.2.2.2.2.2.2; omega))
                    clear hmid hf' hpp
                    go_wp2_with (go_at_call 60; refine hadd.mono ?_; clear hadd; rintro e w11 ⟨rfl, hlib2, hk11⟩; have H11 := Lib.hid (And.intro hlib2 hk11); clear hlib2 hk11)
                    go_roundg (n - (E + 1))
                    case measure => exact HME.out.1
                    case rel =>
                      have ks := H10.out.2.1.size
                      have k2s := H11.out.2.size
                      have hw1 := HRK.out.size
                      exact ⟨E + 1, HME.out.2, rfl, by simp, ⟨f', _, HNX.out.1, HNX.out.2, H11.out.1.mono (fun q hq => hq.elim (fun h => ⟨h.1, by have := h.2; omega⟩) (fun h => ⟨by omega, h.2⟩))⟩, (HRK.out.trans H10.out.2.1).then H11.out.2 (fun q hq e => by have e : q = w1.heap.size := e; omega)⟩
                  · simp only [if_neg hex0] at hadd
                    have b1 : (ex != 0) = true := by simpa using hex0
                    have hrr : r = .inr (ex, (i : Int) + 1) := by
                      rw [← HF.out.2.1]
                      refine parseF_err HI.out.2.2.2.2.2 HF.out.1 ?_
                      rw [HF.out.2.2, if_pos hex0]
                    subst hrr
                    clear hex0
                    go_wp2_with (go_at_call 60; refine hadd.mono ?_; clear hadd; rintro e w11 ⟨rfl, hk11⟩; have HK11 := Lib.hid hk11; clear hk11)
                    go_ret3
                    exact ⟨rfl, HI.out.2.2.2.1.trans (H10.out.2.1.trans HK11.out)⟩
                · have b1 : (er != 0) = true := by simpa using her
                  have hrr : r = .inr (er, if at' = 0 then (i : Int) + 1 else j + at') := by
                    rw [← HI.out.2.1]
                    refine parseF_err HI.out.2.2.2.2.2 HI.out.1 ?_
                    rw [HM.out.1, if_pos her]
                  clear her
                  by_cases hat : at' = 0
                  · subst hat
                    rw [if_pos rfl] at hrr
                    subst hrr
                    go_wp2_with fail
                    go_ret3
                    exact ⟨rfl, HI.out.2.2.2.1.trans H10.out.2.1⟩
                  · rw [if_neg hat] at hrr
                    have b2 : (at' == 0) = false := by simpa using hat
                    have b3 : 0 ≤ at' := HLIN.out.1
                    have b4 : at' ≤ 65537 := HLIN.out.2
                    have b5 : (j : Int) ≤ 1073740001 := by omega
                    subst hrr
                    clear hat
                    go_wp2_with fail
                    go_ret3
                    exact ⟨rfl, HI.out.2.2.2.1.trans H10.out.2.1⟩
      · obtain rfl : n = i := by omega
        obtain ⟨f, Lc, hf, hp, hlib⟩ := HR.out.fuel
        rw [parseF_end (by rw [HX.out.2.2.2.2.2.2.2.1]; exact Nat.le_refl _)] at hp
        subst hp
        have HL := Lib.hid (And.intro hlib (HX.out.2.2.1.trans HR.out.keep))
        have HW1 := Lib.hid (HX.out.2.2.1.size)
        clear hf hlib hlt hi
        go_wp2_with fail
        go_ret3
        exact ⟨w1.heap.size + 1, w1.heap.size, rfl, HL.out.1.mono (fun k hk => ⟨Nat.le_trans HW1.out hk.1, hk.2⟩), HL.out.2⟩
end Go.Proofs.YtfgdnakfikpmpaaGreatDoor
