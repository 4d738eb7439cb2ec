/-
  Parts of what is proved for this claim; each declaration is one of the seat's texts.
-/
import Derived.Test.YtfgdnakfikpmpaaGreatDoorFLF
set_option linter.unusedVariables false
set_option linter.unusedSimpArgs false
namespace Go.Proofs.YtfgdnakfikpmpaaGreatDoor
open Go Go.RowKit Go.Deep
theorem drop_get {L : List ByteArray} {j : Nat} (hj : j < (L.drop 2).length) : (L.drop 2)[j] = L[2 + j]'(by rw [List.length_drop] at hj; omega) := by rw [List.getElem_drop]
theorem headK_pre (l : List ByteArray) : ∃ n, (headK l).1 = l.take n ∧ n ≤ l.length ∧ (headK l).1.length = n ∧ n = if (headK l).2 = true then l.length - 1 else l.length := by
  unfold headK
  split
  · exact ⟨l.length - 1, rfl, by omega, by simp, by simp⟩
  · exact ⟨l.length, by simp, Nat.le_refl _, rfl, by simp⟩
theorem headK_dep (l : List ByteArray) : (headK l).2 = (decide (0 < l.length) && isW (l.getD (l.length - 1) noText) depW) := by
  unfold headK
  split
  · rename_i h
    rw [h.2]
    simp [h.1]
  · rename_i h
    by_cases h1 : 0 < l.length
    · have : ¬ isW (l.getD (l.length - 1) noText) depW = true := fun e => h ⟨h1, e⟩
      simp only [h1, decide_true, Bool.true_and]
      simpa using this
    · simp [h1]
theorem kindOf_bd (s : ByteArray) : 0 ≤ kindOf s ∧ kindOf s ≤ 3 := by
  unfold kindOf
  split
  · omega
  · split
    · omega
    · split
      · omega
      · omega
structure HdTo (w3 : World) (P : Nat) (nm : ByteArray) (dp : Bool) (M : List ByteArray) (j : Nat) (wr : World) : Prop where
  pr : PrAt wr P (P + 1) nm dp ((M.take j).map kindOf)
  keep : Keep (MayP P (P + 1)) w3 wr
  ok : ∀ i (hi : i < M.length), i < j → kindOf M[i] ≠ 0
set_option maxRecDepth 10000 in
set_option maxHeartbeats 8000000 in
theorem head_any (s : ByteArray) (hs : s.size ≤ 1073741000) (w : World) (hkw : KindsW w) : Calls Tryz.prog 56 #[.string s] w (GivesHd w (headS s)) := by
  have K0 := (Keep.refl No w).alloc (.cells #[.string ⟨#[]⟩, .slice none 0 0, .bool false, .slice none 0 0, .slice none 0 0, .int .i64 0, .slice none 0 0, .slice none 0 0] 29)
  have x0 := blk_new w (.cells #[.string ⟨#[]⟩, .slice none 0 0, .bool false, .slice none 0 0, .slice none 0 0, .int .i64 0, .slice none 0 0, .slice none 0 0] 29)
  have hsp := splitC_any s 32 (by omega) (w.alloc (.cells #[.string ⟨#[]⟩, .slice none 0 0, .bool false, .slice none 0 0, .slice none 0 0, .int .i64 0, .slice none 0 0, .slice none 0 0] 29))
  have hbd := pcs_bd 32 s
  obtain ⟨L, hL⟩ : ∃ L, pcsAt 32 s = L := ⟨_, rfl⟩
  rw [hL] at hsp hbd
  have hw : wordsT s = L := by unfold wordsT; rw [← pcs_cut]; exact hL
  have K1 := K0.alloc (.cells (L.map Value.string).toArray 9)
  have x1 := blk_alloc (o' := .cells (L.map Value.string).toArray 9) x0
  have y1 := blk_new (w.alloc (.cells #[.string ⟨#[]⟩, .slice none 0 0, .bool false, .slice none 0 0, .slice none 0 0, .int .i64 0, .slice none 0 0, .slice none 0 0] 29)) (.cells (L.map Value.string).toArray 9)
  simp only [World.size_alloc] at y1 hsp
  obtain ⟨r, hr⟩ : ∃ r, headS s = r := ⟨_, rfl⟩
  rw [hr]
  obtain ⟨bad, hbad⟩ : ∃ b : Bool, b = (decide (L.length < 2) || (!isW (L.getD 0 noText) procW || !nameOk (L.getD 1 noText))) := ⟨_, rfl⟩
  have HX := Lib.hid (And.intro hkw (And.intro K1 (And.intro x1 (And.intro y1 (And.intro hbd (And.intro hs (And.intro hw (And.intro hr hbad))))))))
  have q1 := blk_cell x1
  have z1 := blk_fro x1
  have i63 : (L.length : Int) ≤ 1073741001 := by have := hbd.1; omega
  clear hkw K0 K1 x0 x1 y1 hbd hs hw hr hL
  go_enter Tryz.func56, Tryz.ntmps56
  go_upto_region 2 with (go_at_call 55; refine hsp.mono ?_; clear hsp; rintro e w8 ⟨rfl, rfl⟩)
  generalize (w.alloc (.cells #[.string ⟨#[]⟩, .slice none 0 0, .bool false, .slice none 0 0, .slice none 0 0, .int .i64 0, .slice none 0 0, .slice none 0 0] 29)).alloc (.cells (L.map Value.string).toArray 9) = w1 at *
  go_cut [28] (fun u wx => u = .bool bad ∧ wx = w1)
  case first =>
    by_cases h1 : L.length < 2
    · have j1 : (L.length : Int) < 2 := by omega
      have e : bad = true := by rw [hbad]; simp [h1]
      subst e
      clear hbad h1
      go_wp2_with fail
      go_meet
      case rel => exact ⟨rfl, rfl⟩
    · have j1 : ¬ (L.length : Int) < 2 := by omega
      have j2 : (1 : Int) < L.length := by omega
      have j3 : (0 : Int) < L.length := by omega
      have c0 := row_str HX.out.2.2.2.1 0 (by omega)
      have c1 := row_str HX.out.2.2.2.1 1 (by omega)
      have e0 : L.getD 0 noText = L[0]'(by omega) := by simp [List.getD, show 0 < L.length by omega]
      have e1 : L.getD 1 noText = L[1]'(by omega) := by simp [List.getD, show 1 < L.length by omega]
      rw [e0, e1] at hbad
      have hsz := HX.out.2.2.2.2.1.2.2 _ (List.getElem_mem (show 1 < L.length by omega))
      have hnm := libName_any (L[1]'(by omega)) (by have := HX.out.2.2.2.2.2.1; omega) w1
      obtain ⟨l0, hl0⟩ : ∃ x, L[0]'(by omega) = x := ⟨_, rfl⟩
      obtain ⟨l1, hl1⟩ : ∃ x, L[1]'(by omega) = x := ⟨_, rfl⟩
      rw [hl0] at c0 hbad
      rw [hl1] at c1 hbad hnm
      have hp := isW_beq l0 procW
      unfold procW at hp
      have hb2 : bad = (!isW l0 procW || !nameOk l1) := by rw [hbad]; simp [h1]
      unfold procW at hb2
      clear hbad e0 e1 hl0 hl1 hsz h1
      cases hw0 : isW l0 [112, 114, 111, 99] with
      | false =>
        rw [hw0] at hp hb2
        have e : bad = true := by rw [hb2]; rfl
        subst e
        clear hb2 hnm
        go_wp2_with fail
        go_meet
        case rel => exact ⟨rfl, rfl⟩
      | true =>
        rw [hw0] at hp hb2
        have e : (!nameOk l1) = bad := by rw [hb2]; rfl
        clear hb2
        obtain ⟨bn, hbn⟩ : ∃ b, nameOk l1 = b := ⟨_, rfl⟩
        rw [hbn] at hnm e
        subst e
        clear hbn
        go_wp2_with (go_at_call 44; refine hnm.mono ?_; clear hnm; rintro e w8 ⟨rfl, rfl⟩)
        go_meet
        case rel => exact ⟨rfl, rfl⟩
  case rest =>
    obtain ⟨rfl, hwx⟩ := hcut
    subst hwx
    cases bad with
    | true =>
      have hrn : r = none := by
        rw [← HX.out.2.2.2.2.2.2.2.1]
        refine headS_none1 HX.out.2.2.2.2.2.2.1 ?_
        have := hbad.symm
        simp only [Bool.or_eq_true, decide_eq_true_eq, Bool.not_eq_true'] at this
        exact this
      subst hrn
      clear hbad
      go_wp2_with fail
      refine bodyPost_ret (v := .tuple #[.agg #[.string ⟨#[]⟩, .slice none 0 0, .bool false, .slice none 0 0, .slice none 0 0, .int .i64 0, .slice none 0 0, .slice none 0 0], .bool false]) (by simp [results, Tryz.results56, go_sem, q1]) rfl ⟨rfl, ?_⟩
      repeat (refine Keep.setNew ?_ (Nat.le_refl _) _)
      exact HX.out.2.1
    | false =>
      have hnb : ¬ (L.length < 2 ∨ isW (L.getD 0 noText) procW = false ∨ nameOk (L.getD 1 noText) = false) := fun h => by
        have := hbad.symm
        simp only [Bool.or_eq_false_iff, decide_eq_false_iff_not, Bool.not_eq_false'] at this
        rcases h with h | h | h
        · exact this.1 h
        · rw [this.2.1] at h; cases h
        · rw [this.2.2] at h; cases h
      have hrs := headS_some HX.out.2.2.2.2.2.2.1 hnb
      rw [HX.out.2.2.2.2.2.2.2.1] at hrs
      have hl2 : 2 ≤ L.length := Nat.le_of_not_lt fun h => hnb (.inl h)
      have j2 : (1 : Int) < L.length := by omega
      have j3 : (2 : Int) ≤ L.length := by omega
      have c1 := row_str HX.out.2.2.2.1 1 (by omega)
      have e1 : L.getD 1 noText = L[1]'(by omega) := by simp [List.getD, show 1 < L.length by omega]
      rw [e1] at hrs
      obtain ⟨nm, hnm⟩ : ∃ x, L[1]'(by omega) = x := ⟨_, rfl⟩
      rw [hnm] at c1 hrs
      obtain ⟨M0, hM0⟩ : ∃ M, L.drop 2 = M := ⟨_, rfl⟩
      rw [hM0] at hrs
      have hm0 : M0.length = L.length - 2 := by rw [← hM0, List.length_drop]
      have hgetM : ∀ j (hj : j < M0.length), ∃ hj2 : 2 + j < L.length, M0[j] = L[2 + j] := fun j hj => ⟨by omega, by subst hM0; rw [drop_get hj]⟩
      obtain ⟨dp, hdp⟩ : ∃ b, (headK M0).2 = b := ⟨_, rfl⟩
      have hdk := headK_dep M0
      rw [hdp] at hdk hrs
      obtain ⟨n, hpre, hn1, hn2, hn3⟩ := headK_pre M0
      rw [hdp] at hn3
      have K2 := HX.out.2.1.alloc (.cells #[.string nm, .slice none 0 0, .bool false, .slice none 0 0, .slice none 0 0, .int .i64 0, .slice none 0 0, .slice none 0 0] 29)
      have x2 := blk_alloc (o' := .cells #[.string nm, .slice none 0 0, .bool false, .slice none 0 0, .slice none 0 0, .int .i64 0, .slice none 0 0, .slice none 0 0] 29) HX.out.2.2.1
      have y2 := blk_alloc (o' := .cells #[.string nm, .slice none 0 0, .bool false, .slice none 0 0, .slice none 0 0, .int .i64 0, .slice none 0 0, .slice none 0 0] 29) HX.out.2.2.2.1
      have z2 := blk_new wc (.cells #[.string nm, .slice none 0 0, .bool false, .slice none 0 0, .slice none 0 0, .int .i64 0, .slice none 0 0, .slice none 0 0] 29)
      have h1sz : w.heap.size + 1 < wc.heap.size := blk_lt HX.out.2.2.2.1
      have HM := Lib.hid (And.intro hrs (And.intro hm0 (And.intro hgetM (And.intro hdk (And.intro hpre (And.intro hn1 (And.intro hn2 hn3)))))))
      have H2 := Lib.hid (And.intro K2 (And.intro x2 (And.intro y2 (And.intro z2 h1sz))))
      clear hbad hnb hrs e1 hnm hM0 hm0 hgetM hdp hdk hpre hn1 hn2 hn3 hl2 K2 x2 y2 h1sz q1 z1
      go_upto_region 7 with fail
      have q2 := blk_cell z2
      have p2 := blk_fro z2
      clear z2
      generalize wc.alloc (.cells #[.string nm, .slice none 0 0, .bool false, .slice none 0 0, .slice none 0 0, .int .i64 0, .slice none 0 0, .slice none 0 0] 29) = w2 at *
      obtain ⟨P, hP⟩ : ∃ P, P = wc.heap.size := ⟨_, rfl⟩
      rw [← hP] at H2 q2 p2 ⊢
      clear hP c1
      have hcm : ∀ W : World, W.heap[w.heap.size + 1]? = some (.cells (L.map Value.string).toArray 9 (0, 0)) → CellsS W (if L.length = 2 then some ⟨w.heap.size + 1, 0, none⟩ else some ⟨w.heap.size + 1, 2, none⟩) M0 := fun W hW j hj => by
        obtain ⟨hj2, e⟩ := HM.out.2.2.1 j hj
        refine ⟨w.heap.size + 1, 2, by rw [if_neg (by omega)], ?_⟩
        rw [e]
        exact row_str hW (2 + j) hj2
      obtain ⟨av, hav⟩ : ∃ a : Option Addr, (if L.length = 2 then some ⟨w.heap.size + 1, 0, none⟩ else some ⟨w.heap.size + 1, 2, none⟩) = a := ⟨_, rfl⟩
      rw [hav] at hcm ⊢
      clear hav
      rw [← HM.out.2.1]
      have hmm : M0.length ≤ 1073741001 := by have := HM.out.2.1; have := HX.out.2.2.2.2.1.1; have := HX.out.2.2.2.2.2.1; omega
      have HCM := Lib.hid (And.intro hcm hmm)
      have i1m : (M0.length : Int) ≤ 1073741001 := by omega
      clear hcm hmm j2 j3 i63
      go_cut [47] (fun u wx => u = .bool dp ∧ wx = w2)
      case first =>
        have hdk := HM.out.2.2.2.1
        by_cases hm : M0.length = 0
        · have e : dp = false := by rw [hdk, hm]; rfl
          subst e
          have i4 : ¬ (0 : Int) < M0.length := by omega
          clear hdk hm
          go_wp2_with fail
          go_meet
          case rel => exact ⟨rfl, rfl⟩
        · obtain ⟨q, hq⟩ : ∃ q, M0.length = q + 1 := ⟨M0.length - 1, by omega⟩
          obtain ⟨b, off, hab, hcell⟩ := HCM.out.1 _ H2.out.2.2.1 q (by omega)
          have hg : M0.getD (M0.length - 1) noText = M0[q]'(by omega) := by rw [show M0.length - 1 = q by omega]; simp [List.getD, show q < M0.length by omega]
          rw [hg] at hdk
          obtain ⟨y, hy⟩ : ∃ y, M0[q]'(by omega) = y := ⟨_, rfl⟩
          rw [hy] at hdk hcell
          have hp := isW_beq y depW
          unfold depW at hp hdk
          have e : isW y [100, 101, 112, 101, 110, 100, 101, 110, 116] = dp := by rw [hdk]; simp [hq]
          rw [e] at hp
          have i4 : (0 : Int) < M0.length := by omega
          have i5 : ((M0.length : Int) - 1) = (q : Int) := by omega
          have i6 : (q : Int) < M0.length := by omega
          have i7 : (0 : Int) ≤ q := by omega
          clear hdk hg hy e hq hm
          subst hab
          go_wp2_with fail
          go_meet
          case rel => exact ⟨rfl, rfl⟩
      case rest =>
        obtain ⟨rfl, hwx⟩ := hcut
        subst hwx
        have HS2 := Lib.hid (show PrAt wc P (P + 1) nm false [] from ⟨.slice none 0 0, H2.out.2.2.2.1, Own.nil _ _ _ _⟩)
        go_upto_if 47 with fail
        go_cut [6] (fun v wx => v = .slice av n M0.length ∧ RowKit.Hid (PrAt wx P (P + 1) nm dp [] ∧ Keep (MayP P (P + 1)) wc wx))
        case first =>
          cases dp with
          | true =>
            have hn3 := HM.out.2.2.2.2.2.2.2
            rw [if_pos rfl] at hn3
            have hdk := HM.out.2.2.2.1
            have hpos : 0 < M0.length := by
              by_cases h0 : 0 < M0.length
              · exact h0
              · rw [decide_eq_false h0] at hdk; cases hdk
            have i5 : ((M0.length : Int) - 1) = (n : Int) := by omega
            have i6 : (n : Int) ≤ M0.length := by omega
            have i7 : (0 : Int) ≤ n := by omega
            have HN := Lib.hid (show PrAt (wc.setCell ⟨P, 2, none⟩ (.bool true)) P (P + 1) nm true [] ∧ Keep (MayP P (P + 1)) wc (wc.setCell ⟨P, 2, none⟩ (.bool true)) from ⟨⟨.slice none 0 0, by simpa using blk_set H2.out.2.2.2.1 2 (.bool true), Own.nil _ _ _ _⟩, (keep_set _ _ _ _).mono fun k _ e => .inl e⟩)
            clear hn3 hdk hpos
            go_wp2_with fail
            go_meet
            case rel => exact ⟨rfl, HN.out⟩
          | false =>
            have hn3 := HM.out.2.2.2.2.2.2.2
            rw [if_neg (by decide)] at hn3
            have HN := Lib.hid hn3
            clear hn3
            go_wp2_with fail
            go_meet
            case rel => exact ⟨by rw [HN.out], HS2.out, Keep.refl _ _⟩
        case rest =>
          obtain ⟨rfl, HC⟩ := hcut
          clear q2 p2
          have hn1 : n ≤ 1073741001 := by have := HCM.out.2; have := HM.out.2.2.2.2.2.1; omega
          have i1n : (n : Int) ≤ 1073741001 := by omega
          obtain ⟨M, hM⟩ : ∃ M, (headK M0).1 = M := ⟨_, rfl⟩
          have hmn : M.length = n := by rw [← hM]; exact HM.out.2.2.2.2.2.2.1
          have hmg : ∀ j (hj : j < M.length), ∃ hj2 : j < M0.length, M[j] = M0[j] := fun j hj => by
            have hp := HM.out.2.2.2.2.1
            rw [hM] at hp
            subst hp
            exact ⟨by simp at hj; omega, by rw [List.getElem_take]⟩
          have hrr := HM.out.1
          rw [hM] at hrr
          have HMM := Lib.hid (And.intro hmn (And.intro hmg (And.intro hrr hn1)))
          clear hM hmn hmg hrr hn1
          have K3 : Keep No w wc := H2.out.1.then HC.out.2 (fun i hi h => by have := H2.out.2.2.2.2; rcases h with h | h <;> omega)
          have x3 := HC.out.2.blk H2.out.2.1 (fun h => by have := H2.out.2.2.2.2; rcases h with h | h <;> omega)
          have y3 := HC.out.2.blk H2.out.2.2.1 (fun h => by have := H2.out.2.2.2.2; rcases h with h | h <;> omega)
          have hPs : P < wc.heap.size := by obtain ⟨v, hb, -⟩ := HC.out.1; exact blk_lt hb
          have HP2 := Lib.hid (show w.heap.size + 1 < P from H2.out.2.2.2.2)
          have H3 := Lib.hid (And.intro K3 (And.intro x3 (And.intro y3 (And.intro hPs HC.out.1))))
          clear K3 x3 y3 hPs HS2 H2 HC
          go_wp2_with fail
          go_loopg [55] n (fun g i wr => ∃ j : Nat, j ≤ n ∧ g = n - j ∧ i = .int .i64 j ∧ RowKit.Hid (HdTo wc P nm dp M j wr))
          case atStart => exact ⟨0, by omega, by omega, rfl, by simpa using H3.out.2.2.2.2, Keep.refl _ _, fun i hi h => absurd h (Nat.not_lt_zero _)⟩
          case round =>
            obtain ⟨j, hj, rfl, rfl, HR⟩ := hrel
            have kr : Keep No w wr := H3.out.1.then HR.out.keep (fun i hi h => by have := HP2.out; rcases h with h | h <;> omega)
            have xr := HR.out.keep.blk H3.out.2.1 (fun h => by have := HP2.out; rcases h with h | h <;> omega)
            have yr := HR.out.keep.blk H3.out.2.2.1 (fun h => by have := HP2.out; rcases h with h | h <;> omega)
            have hPr : P < wr.heap.size := by have := HR.out.keep.size; have := H3.out.2.2.2.1; omega
            by_cases hlt : j < n
            · have j1 : (j : Int) < n := by omega
              have j0 : (0 : Int) ≤ j := by omega
              have hjm : j < M.length := by rw [HMM.out.1]; exact hlt
              obtain ⟨hj2, hMj⟩ := HMM.out.2.1 j hjm
              obtain ⟨b, off, hab, hcell⟩ := HCM.out.1 _ yr j hj2
              rw [← hMj] at hcell
              have hix : Calls Tryz.prog 103 #[.slice (some ⟨0, 0, none⟩) 4 4, .string M[j]] wr fun e w' => e = .returned (.int .i64 (idxS kindsL M[j])) ∧ w' = wr := indexS_any wr (some ⟨0, 0, none⟩) 4 kindsL M[j] (HX.out.1.keep kr (fun x => x)) (by decide)
              obtain ⟨hk1, hk2⟩ := kind_idx M[j]
              have hnext := fun h : kindOf M[j] ≠ 0 => show ∀ i (hi : i < M.length), i < j + 1 → kindOf M[i] ≠ 0 from fun i hi hh => by
                by_cases h3 : i < j
                · exact HR.out.ok i hi h3
                · obtain rfl : i = j := by omega
                  exact h
              have htk : (M.take (j + 1)).map kindOf = (M.take j).map kindOf ++ [kindOf M[j]] := by
                rw [List.take_succ_eq_append_getElem hjm, List.map_append]; rfl
              have hall : kindOf M[j] = 0 → r = none := fun h => by
                rw [HMM.out.2.2.1, if_neg]
                intro hh
                rw [List.all_eq_true] at hh
                have := hh _ (List.getElem_mem hjm)
                simp [h] at this
              have hkl : ((M.take j).map kindOf).length = j := by simp; omega
              obtain ⟨sk, hsk⟩ : ∃ x, M[j] = x := ⟨_, rfl⟩
              rw [hsk] at hcell hix hk1 hk2 hnext htk hall
              obtain ⟨kx, hkx⟩ : ∃ k, idxS kindsL sk = k := ⟨_, rfl⟩
              rw [hkx] at hix hk1 hk2
              subst hab
              have HNX := Lib.hid (And.intro hnext (And.intro htk (And.intro hall hkl)))
              have HME := Lib.hid (And.intro (show n - (j + 1) < n - j by omega) (show j + 1 ≤ n by omega))
              have HXR := Lib.hid (And.intro xr (And.intro kr hPr))
              clear hnext htk hall hkl hsk hkx hjm hj2 hMj yr hlt hj
              by_cases hk0 : kx < 1
              · have hrn : r = none := HNX.out.2.2.1 (hk1.1 hk0)
                have qr := blk_cell xr
                have zr := blk_fro xr
                clear xr kr hPr hk1 hk2
                go_wp2_with (go_at_call 103; refine hix.mono ?_; clear hix; rintro e w8 ⟨rfl, rfl⟩)
                subst hrn
                refine bodyPost_ret (v := .tuple #[.agg #[.string ⟨#[]⟩, .slice none 0 0, .bool false, .slice none 0 0, .slice none 0 0, .int .i64 0, .slice none 0 0, .slice none 0 0], .bool false]) (by simp [results, Tryz.results56, go_sem, qr]) rfl ⟨rfl, ?_⟩
                repeat (refine Keep.setNew ?_ (Nat.le_refl _) _)
                exact HXR.out.2.1
              · have hkk := hk2 hk0
                have hbd := kindOf_bd sk
                have hwf : (Lit.int .i64 kx).wf = true := wf_small (by omega) (by omega)
                obtain ⟨a, c, a', c', w9, f0, hrun, f9, z9, hP9, hk9⟩ := HR.out.pr.look (Nat.lt_succ_self P) (by omega) (by rw [HNX.out.2.2.2]; have := HMM.out.2.2.2; have := HME.out.2; omega) kx hwf
                have f0a : (wr.alloc (.cells #[.int .i64 kx] 3)).cell? ⟨P, 1, none⟩ = some (.slice a ((M.take j).map kindOf).length c) := (((Keep.refl No wr).alloc _).cell (World.block_lt_of_cell? _ _ f0) (fun x => x)).trans f0
                have H9 := Lib.hid (HdTo.mk (w3 := wc) (P := P) (nm := nm) (dp := dp) (M := M) (j := j + 1) (by rw [HNX.out.2.1, ← hkk]; exact hP9) (HR.out.keep.trans hk9) (HNX.out.1 (fun h => hk0 (hk1.2 h))))
                clear hkk hbd hwf hP9 hk9 hk1 hk2 xr kr hPr
                generalize ((M.take j).map kindOf).length = nk at *
                go_wp2_with (first | (go_at_call 103; refine hix.mono ?_; clear hix; rintro e w8 ⟨rfl, rfl⟩) | (at_builtin; refine wpList_app rfl (.tmp 66) (.tmp 68) 22 22 rfl rfl rfl hrun ?_))
                go_roundg (n - (j + 1))
                case measure => exact HME.out.1
                case rel => exact ⟨j + 1, HME.out.2, rfl, by simp, H9.out⟩
            · obtain rfl : n = j := by omega
              obtain ⟨v, hb, ho⟩ := HR.out.pr
              rw [List.take_of_length_le (by rw [HMM.out.1]; exact Nat.le_refl _)] at ho
              obtain ⟨a, c, rfl, -⟩ := Own.form ho
              have hrs : r = some (mkPrc nm (M.map kindOf) dp [] [] pgm0) := by
                rw [HMM.out.2.2.1, if_pos]
                rw [List.all_eq_true]
                intro x hx
                obtain ⟨i, hi, rfl⟩ := List.getElem_of_mem hx
                have := HR.out.ok i hi (by have := HMM.out.1; omega)
                simpa using this
              have qr := blk_cell xr
              have zr := blk_fro xr
              have qb := blk_cell hb
              have HXR := Lib.hid (And.intro xr (And.intro kr (And.intro ho hrs)))
              clear xr yr kr hPr hb ho hrs hlt hj
              generalize hgl : (M.map kindOf).length = nk at *
              have HGL := Lib.hid hgl
              clear hgl
              go_wp2_with fail
              refine bodyPost_ret (v := .tuple #[.agg #[.string nm, .slice a nk c, .bool dp, .slice none 0 0, .slice none 0 0, .int .i64 0, .slice none 0 0, .slice none 0 0], .bool true]) (by simp [results, Tryz.results56, go_sem, qr]) rfl ?_
              rw [HXR.out.2.2.2]
              refine ⟨a, c, ?_, ?_, ?_⟩
              · have hkl : ((mkPrc nm (M.map kindOf) dp [] [] pgm0).kinds).length = nk := HGL.out
                rw [hkl]
                rfl
              · repeat (refine Keep.setNew ?_ (Nat.le_refl _) _)
                exact HXR.out.2.1
              · have hkl : ((mkPrc nm (M.map kindOf) dp [] [] pgm0).kinds).length = nk := HGL.out
                have hrdv : Rd (.slice (.int .i64)) wr (Fr (P + 1) wr.heap.size) [.slice a nk c] (M.map kindOf) := by
                  have := Own.rd HXR.out.2.2.1
                  exact this
                rw [hkl]
                have hpl := HP2.out
                clear HXR HX HM HMM HCM
                refine Rd.mono (S := Fr (P + 1) wr.heap.size) (.slice (.int .i64)) (Rd.agree (.slice (.int .i64)) hrdv (Keep.agree (M := One w.heap.size) ?_ ?_)) ?_
                · iterate 8 (refine Keep.trans ?_ (keep_set _ _ _ _))
                  exact Keep.refl _ _
                · intro i _ hi e
                  have h1 := hi.1
                  have e : i = w.heap.size := e
                  omega
                · intro i _ hi
                  have h1 := hi.1
                  have h2 := hi.2
                  simp only [World.size_setCell]
                  exact ⟨by omega, h2⟩
end Go.Proofs.YtfgdnakfikpmpaaGreatDoor
