/-
  Parts of what is proved for this claim; each declaration is one of the seat's texts.
-/
import Derived.Test.YtfgdnakfikpmpaaGreatDoorFMD
import Derived.Test.YtfgdnakfikpmpaaGreatDoorFMG
import Derived.Test.YtfgdnakfikpmpaaGreatDoorFMH
set_option linter.unusedVariables false
set_option linter.unusedSimpArgs false
namespace Go.Proofs.YtfgdnakfikpmpaaGreatDoor
open Go Go.RowKit Go.Deep
structure Prc.Small (p : Prc) : Prop where
  lens : p.Lens
  reads : ∀ t ∈ p.reads, t.size ≤ 1048576
  writes : ∀ t ∈ p.writes, t.size ≤ 1048576
theorem prc_small {p : Prc} (h : procSh.bulk p ≤ 1048576) : p.Small := by
  have e : procSh.bulk p = ((p.name.size + 1) + (((p.kinds.map (Sh.int .i64).bulk).sum + 1) + (1 + (((p.reads.map Sh.str.bulk).sum + 1) + (((p.writes.map Sh.str.bulk).sum + 1) + (((1 + (((p.pgm.consts.map valueSh.bulk).sum + 1) + (((p.pgm.code.map instrSh.bulk).sum + 1) + 0))) + 1) + 0)))))) + 1 := rfl
  refine ⟨prc_lens h, fun t ht => ?_, fun t ht => ?_⟩
  · have h1 := sum_mem Sh.str.bulk p.reads t ht
    have h2 : Sh.str.bulk t = t.size + 1 := rfl
    omega
  · have h1 := sum_mem Sh.str.bulk p.writes t ht
    have h2 : Sh.str.bulk t = t.size + 1 := rfl
    omega
set_option maxRecDepth 10000 in
set_option maxHeartbeats 8000000 in
theorem rCheckP_any (w : World) (S : Nat → Prop) (cs : List Value) (p : Prc) (h : Rd procSh w S cs p) (hs : p.Small) :
    Calls Tryz.prog 18 #[.agg cs.toArray] w fun e w' => e = .returned (.int .i64 p.chk) ∧ RowKit.Hid (Keep No w w') := by
  obtain ⟨a1, c1, a2, c2, a3, c3, a4, c4, a5, c5, rfl, h1, h2, h3, h4, h5, -⟩ := proc_cells h
  have K1 := (Keep.refl No w).alloc (.cells #[.string p.name, .slice a1 p.kinds.length c1, .bool p.dep, .slice a2 p.reads.length c2, .slice a3 p.writes.length c3, .int .i64 p.pgm.args, .slice a4 p.pgm.consts.length c4, .slice a5 p.pgm.code.length c5] 29)
  have x1 := blk_new w (.cells #[.string p.name, .slice a1 p.kinds.length c1, .bool p.dep, .slice a2 p.reads.length c2, .slice a3 p.writes.length c3, .int .i64 p.pgm.args, .slice a4 p.pgm.consts.length c4, .slice a5 p.pgm.code.length c5] 29)
  have q1 := blk_cell x1
  have HX := Lib.hid (And.intro K1 (And.intro x1 (And.intro (h2.agree _ K1.agreeNo) (And.intro (h3.agree _ K1.agreeNo) (h1.agree _ K1.agreeNo)))))
  have HPC : RowKit.Hid (∀ W, Keep No w W → Calls Tryz.prog 53 #[.agg #[.int .i64 p.pgm.args, .slice a4 p.pgm.consts.length c4, .slice a5 p.pgm.code.length c5]] W fun e w' => ∃ at', e = .returned (.tuple #[.int .i64 (pgmE p.pgm.args p.pgm.consts p.pgm.code).1, .int .i64 at']) ∧ RowKit.Hid (Keep No W w')) := fun W hW => (rpCheck_g W S S _ _ _ _ _ _ _ (h4.agree _ hW.agreeNo) (h5.agree _ hW.agreeNo)).mono (by rintro e w' ⟨rfl, hk⟩; exact ⟨_, rfl, hk⟩)
  have HT := Lib.hid (And.intro hs.reads hs.writes)
  have hsz := hs.lens
  have l1 : (p.kinds.length : Int) ≤ 1048576 := by have := hsz.kinds; omega
  have l2 : (p.reads.length : Int) ≤ 1048576 := by have := hsz.reads; omega
  have l3 : (p.writes.length : Int) ≤ 1048576 := by have := hsz.writes; omega
  obtain ⟨er, hE⟩ : ∃ er, p.chk = er := ⟨_, rfl⟩
  rw [hE]
  unfold Prc.chk Prc.check at hE
  obtain ⟨pg, hpg⟩ : ∃ pg, (pgmE p.pgm.args p.pgm.consts p.pgm.code).1 = pg := ⟨_, rfl⟩
  rw [hpg] at hE HPC
  obtain ⟨R5, hR5⟩ : ∃ R, (if p.pgm.args ≠ p.kinds.length then (80 : Int) else 0) = R := ⟨_, rfl⟩
  rw [hR5] at hE
  obtain ⟨R4, hR4⟩ : ∃ R, (if pg ≠ 0 then pg else R5) = R := ⟨_, rfl⟩
  rw [hR4] at hE
  obtain ⟨R3, hR3⟩ : ∃ R, (if p.reads.all (tmplOk · p.kinds.length) = false ∨ p.writes.all (tmplOk · p.kinds.length) = false then (81 : Int) else R4) = R := ⟨_, rfl⟩
  rw [hR3] at hE
  obtain ⟨R2, hR2⟩ : ∃ R, (if 32 < p.reads.length ∨ 32 < p.writes.length then (6 : Int) else R3) = R := ⟨_, rfl⟩
  rw [hR2] at hE
  obtain ⟨R1, hR1⟩ : ∃ R, (if p.dep = true ∧ 0 < p.reads.length + p.writes.length then (80 : Int) else R2) = R := ⟨_, rfl⟩
  rw [hR1] at hE
  have HRR := Lib.hid (And.intro hR1 (And.intro hR2 (And.intro hR3 (And.intro hR4 hR5))))
  obtain ⟨nb, hnb⟩ : ∃ nb, nameOk p.name = nb := ⟨_, rfl⟩
  have hnm := fun W => rName_any p.name (by have := hsz.name; omega) W
  rw [hnb] at hnm hE
  clear h h1 h2 h3 h4 h5 K1 x1 hpg hR1 hR2 hR3 hR4 hR5 hnb hs hsz
  generalize p.dep = db at *
  by_cases hA : nb = false
  · rw [if_pos (.inl hA)] at hE
    subst hA
    subst hE
    go_enter Tryz.func18, Tryz.ntmps18
    go_wp2_with (go_at_call 51; refine (hnm _).mono ?_; rintro e w3 ⟨rfl, rfl⟩)
    go_ret
    exact ⟨rfl, HX.out.1⟩
  have hA' : nb = true := by simpa using hA
  by_cases hB : 8 < p.kinds.length
  · rw [if_pos (.inr hB)] at hE
    have i1 : (8 : Int) < p.kinds.length := by omega
    subst hA'
    subst hE
    clear hA hB
    go_enter Tryz.func18, Tryz.ntmps18
    go_wp2_with (go_at_call 51; refine (hnm _).mono ?_; rintro e w3 ⟨rfl, rfl⟩)
    go_ret
    exact ⟨rfl, HX.out.1⟩
  rw [if_neg (by simp [hA', hB])] at hE
  have i1 : ¬ (8 : Int) < p.kinds.length := by omega
  have i8 : (p.kinds.length : Int) ≤ 8 := by omega
  have HE := Lib.hid hE
  subst hA'
  clear hA hB hE
  go_enter Tryz.func18, Tryz.ntmps18
  go_upto_region 3 with (go_at_call 51; refine (hnm _).mono ?_; rintro e w3 ⟨rfl, hw3⟩; subst hw3)
  clear hnm
  generalize w.alloc (.cells #[.string p.name, .slice a1 p.kinds.length c1, .bool db, .slice a2 p.reads.length c2, .slice a3 p.writes.length c3, .int .i64 p.pgm.args, .slice a4 p.pgm.consts.length c4, .slice a5 p.pgm.code.length c5] 29) = w1 at *
  go_wp2_with fail
  go_loopg [3] p.kinds.length (fun g i wr => ∃ k : Nat, k ≤ p.kinds.length ∧ g = p.kinds.length - k ∧ i = .int .i64 k ∧ RowKit.Hid (∀ x ∈ p.kinds.take k, kindOk x = true) ∧ w1 = wr)
  case atStart => exact ⟨0, by omega, by omega, rfl, (fun x hx => by simp at hx), rfl⟩
  case round =>
    obtain ⟨k, hk, rfl, rfl, HK, rfl⟩ := hrel
    by_cases hlt : k < p.kinds.length
    · have j1 : (k : Int) < p.kinds.length := by omega
      have j0 : (0 : Int) ≤ k := by omega
      have j3 : (k : Int) ≤ 8 := by omega
      obtain ⟨b, off, rfl, r0⟩ := ints_cell HX.out.2.2.2.2 k hlt
      obtain ⟨x, hx⟩ : ∃ x, p.kinds[k] = x := ⟨_, rfl⟩
      rw [hx] at r0
      have HB : RowKit.Hid (∃ hl : k < p.kinds.length, p.kinds[k] = x) := ⟨hlt, hx⟩
      clear hx hlt hk
      by_cases hbad : x < 1 ∨ 3 < x
      · have hr0 : er = 80 := by
          obtain ⟨hl, hb⟩ := HB.out
          have hall : p.kinds.all kindOk = false := by
            rw [List.all_eq_false]
            refine ⟨_, List.getElem_mem hl, ?_⟩
            rw [hb]
            unfold kindOk
            simp only [Bool.and_eq_true, decide_eq_true_eq]
            omega
          have h3 := HE.out
          rw [if_pos hall] at h3
          exact h3.symm
        subst hr0
        rcases hbad with hb | hb
        · go_wp2_with fail
          go_ret
          exact ⟨rfl, HX.out.1⟩
        · have hb2 : ¬ x < 1 := by omega
          go_wp2_with fail
          go_ret
          exact ⟨rfl, HX.out.1⟩
      · have hb1 : ¬ x < 1 := by omega
        have hb2 : ¬ 3 < x := by omega
        have HN := Lib.hid (show ∀ y ∈ p.kinds.take (k + 1), kindOk y = true from fun y hy => by
          obtain ⟨hl, hb⟩ := HB.out
          rw [List.take_succ_eq_append_getElem hl] at hy
          rcases List.mem_append.1 hy with h | h
          · exact HK.out y h
          · rw [List.mem_singleton] at h
            rw [h, hb]
            unfold kindOk
            simp only [Bool.and_eq_true, decide_eq_true_eq]
            omega)
        clear hbad
        go_wp2_with fail
        go_roundg (p.kinds.length - (k + 1))
        case measure => obtain ⟨hl, -⟩ := HB.out; omega
        case rel => exact ⟨k + 1, (by obtain ⟨hl, -⟩ := HB.out; exact hl), rfl, by simp, HN.out, rfl⟩
    · obtain rfl : k = p.kinds.length := by omega
      have j1 : ¬ (p.kinds.length : Int) < p.kinds.length := by omega
      have hE1 := HE.out
      rw [if_neg (by
        have : p.kinds.all kindOk = true := by
          rw [List.all_eq_true]
          intro y hy
          exact HK.out y (by rw [List.take_length]; exact hy)
        rw [this]; simp), ← HRR.out.1] at hE1
      clear HE HK hlt hk
      by_cases hC : db = true ∧ 0 < p.reads.length + p.writes.length
      · rw [if_pos hC] at hE1
        have i2 : (0 : Int) < (p.reads.length : Int) + p.writes.length := by omega
        obtain ⟨hdt, -⟩ := hC
        subst hdt
        subst hE1
        go_wp2_with fail
        go_ret
        exact ⟨rfl, HX.out.1⟩
      rw [if_neg hC, ← HRR.out.2.1] at hE1
      have hCC : db = false ∨ (db = true ∧ ¬ (0 : Int) < (p.reads.length : Int) + p.writes.length) := by
        cases db with
        | false => exact .inl rfl
        | true => exact .inr ⟨rfl, fun h => hC ⟨rfl, by omega⟩⟩
      have HE2 := Lib.hid hE1
      clear hC hE1
      go_upto_region 8 with fail
      go_cut [50] (fun c wx => c = .bool false ∧ w1 = wx)
      case first =>
        rcases hCC with e | ⟨e, i2⟩
        · subst e
          go_wp2_with fail
          go_meet
          case rel => exact ⟨rfl, rfl⟩
        · subst e
          go_wp2_with fail
          go_meet
          case rel => exact ⟨rfl, rfl⟩
      case rest =>
        obtain ⟨rfl, hwx⟩ := hcut
        subst hwx
        clear hCC
        have hE1 := HE2.out
        by_cases hD : 32 < p.reads.length ∨ 32 < p.writes.length
        · rw [if_pos hD] at hE1
          subst hE1
          rcases hD with hD | hD
          · have i3 : (32 : Int) < p.reads.length := by omega
            clear hD
            go_wp2_with fail
            go_ret
            exact ⟨rfl, HX.out.1⟩
          · by_cases hD2 : 32 < p.reads.length
            · have i3 : (32 : Int) < p.reads.length := by omega
              clear hD hD2
              go_wp2_with fail
              go_ret
              exact ⟨rfl, HX.out.1⟩
            · have i3 : ¬ (32 : Int) < p.reads.length := by omega
              have i4 : (32 : Int) < p.writes.length := by omega
              clear hD hD2
              go_wp2_with fail
              go_ret
              exact ⟨rfl, HX.out.1⟩
        rw [if_neg hD, ← HRR.out.2.2.1] at hE1
        have HE3 := Lib.hid hE1
        have i3 : ¬ (32 : Int) < p.reads.length := by omega
        have i4 : ¬ (32 : Int) < p.writes.length := by omega
        have i5 : (p.reads.length : Int) ≤ 32 := by omega
        have i6 : (p.writes.length : Int) ≤ 32 := by omega
        clear hD hE1 HE2
        go_wp2_with fail
        go_loopg [4] p.reads.length (fun g i wr => ∃ k : Nat, k ≤ p.reads.length ∧ g = p.reads.length - k ∧ i = .int .i64 k ∧ RowKit.Hid (Keep No w1 wr ∧ ∀ t ∈ p.reads.take k, tmplOk t p.kinds.length = true))
        case atStart => exact ⟨0, by omega, by omega, rfl, Keep.refl _ _, fun t ht => by simp at ht⟩
        case round =>
          obtain ⟨k, hk, rfl, rfl, HR⟩ := hrel
          have q1 := blk_cell (HR.out.1.blk HX.out.2.1 (fun x => x))
          by_cases hlt : k < p.reads.length
          · have j1 : (k : Int) < p.reads.length := by omega
            have j0 : (0 : Int) ≤ k := by omega
            have j3 : (k : Int) ≤ 32 := by omega
            obtain ⟨b, off, rfl, p0, -⟩ := strs_get (HX.out.2.2.1.agree _ (HR.out.1.trans (Keep.refl No wr).drew).agreeNo) k hlt
            have q2 := blk_cell ((HR.out.1.trans (Keep.refl No wr).drew).blk HX.out.2.1 (fun x => x))
            have htp := fun W => rTemplate_any p.reads[k] (HT.out.1 _ (List.getElem_mem hlt)) p.kinds.length W
            obtain ⟨tb, htb⟩ : ∃ tb, tmplOk p.reads[k] p.kinds.length = tb := ⟨_, rfl⟩
            rw [htb] at htp
            have HB : RowKit.Hid (∃ hl : k < p.reads.length, tmplOk (p.reads[k]'hl) p.kinds.length = tb) := ⟨hlt, htb⟩
            generalize p.reads[k] = tx at *
            clear htb hlt hk
            go_upto_region 15 with fail
            refine wp_region_canw [0, 1, 2, 3, 4, 5, 6, 7, 8, 9] [8] [] (by kernel_rfl) (by kernel_rfl) (by kernel_rfl) (by kernel_rfl) (by intro c a d v w h; cases d <;> exact h) ?_
            have HK3 := Lib.hid (HR.out.1.trans (Keep.refl No wr).drew)
            have HK4 := Lib.hid HR.out.2
            clear HR q1
            generalize wr.drew = w3 at *
            iterate 8 (refine canw_sil rfl rfl (fun K hK => ?_); go_simp; refine hK _ ?_; clear hK K)
            refine canw_loud [] rfl rfl rfl (fun K hK => ?_)
            go_wp2_with (go_at_call 52; refine (htp _).mono ?_; rintro e w4 ⟨rfl, HK5⟩)
            refine Mid.normal (hK _ _ stabs_nil ?_)
            clear hK K
            iterate 1 (refine canw_sil rfl rfl (fun K hK => ?_); go_simp; refine hK _ ?_; clear hK K)
            refine canw_nil ?_
            cases tb with
            | true =>
              have HN := Lib.hid (show ∀ t ∈ p.reads.take (k + 1), tmplOk t p.kinds.length = true from fun t ht => by
                obtain ⟨hl, hb⟩ := HB.out
                rw [List.take_succ_eq_append_getElem hl] at ht
                rcases List.mem_append.1 ht with h | h
                · exact HK4.out t h
                · rw [List.mem_singleton] at h
                  rw [h]; exact hb)
              go_wp2_with fail
              go_roundg (p.reads.length - (k + 1))
              case measure => obtain ⟨hl, -⟩ := HB.out; omega
              case rel => exact ⟨k + 1, (by obtain ⟨hl, -⟩ := HB.out; exact hl), rfl, by simp, HK3.out.trans HK5.out, HN.out⟩
            | false =>
              have hr0 : er = 81 := by
                obtain ⟨hl, hb⟩ := HB.out
                have hbad : p.reads.all (tmplOk · p.kinds.length) = false := by
                  rw [List.all_eq_false]
                  exact ⟨_, List.getElem_mem hl, by rw [hb]; decide⟩
                have h3 := HE3.out
                rw [if_pos (.inl hbad)] at h3
                exact h3.symm
              subst hr0
              go_wp2_with fail
              go_ret
              exact ⟨rfl, (HX.out.1.trans HK3.out).trans HK5.out⟩
          · obtain rfl : k = p.reads.length := by omega
            have j1 : ¬ (p.reads.length : Int) < p.reads.length := by omega
            have NR := Lib.hid (show p.reads.all (tmplOk · p.kinds.length) = true from by
              rw [List.all_eq_true]
              intro t ht
              exact HR.out.2 t (by rw [List.take_length]; exact ht))
            have HKNR := Lib.hid HR.out.1
            clear hlt hk
            generalize wr = w2 at *
            go_wp2_with fail
            go_loopg [5] p.writes.length (fun g i wr => ∃ k : Nat, k ≤ p.writes.length ∧ g = p.writes.length - k ∧ i = .int .i64 k ∧ RowKit.Hid (Keep No w1 wr ∧ ∀ t ∈ p.writes.take k, tmplOk t p.kinds.length = true))
            case atStart => exact ⟨0, by omega, by omega, rfl, HKNR.out, fun t ht => by simp at ht⟩
            case round =>
              obtain ⟨k, hk, rfl, rfl, HR⟩ := hrel
              have q1 := blk_cell (HR.out.1.blk HX.out.2.1 (fun x => x))
              by_cases hlt : k < p.writes.length
              · have j1 : (k : Int) < p.writes.length := by omega
                have j0 : (0 : Int) ≤ k := by omega
                have j3 : (k : Int) ≤ 32 := by omega
                obtain ⟨b, off, rfl, p0, -⟩ := strs_get (HX.out.2.2.2.1.agree _ (HR.out.1.trans (Keep.refl No wr).drew).agreeNo) k hlt
                have q2 := blk_cell ((HR.out.1.trans (Keep.refl No wr).drew).blk HX.out.2.1 (fun x => x))
                have htp := fun W => rTemplate_any p.writes[k] (HT.out.2 _ (List.getElem_mem hlt)) p.kinds.length W
                obtain ⟨tb, htb⟩ : ∃ tb, tmplOk p.writes[k] p.kinds.length = tb := ⟨_, rfl⟩
                rw [htb] at htp
                have HB : RowKit.Hid (∃ hl : k < p.writes.length, tmplOk (p.writes[k]'hl) p.kinds.length = tb) := ⟨hlt, htb⟩
                generalize p.writes[k] = tx at *
                clear htb hlt hk
                go_upto_region 20 with fail
                refine wp_region_canw [0, 1, 2, 3, 4, 5, 6, 7, 8, 9] [8] [] (by kernel_rfl) (by kernel_rfl) (by kernel_rfl) (by kernel_rfl) (by intro c a d v w h; cases d <;> exact h) ?_
                have HK3 := Lib.hid (HR.out.1.trans (Keep.refl No wr).drew)
                have HK4 := Lib.hid HR.out.2
                clear HR q1
                generalize wr.drew = w3 at *
                iterate 8 (refine canw_sil rfl rfl (fun K hK => ?_); go_simp; refine hK _ ?_; clear hK K)
                refine canw_loud [] rfl rfl rfl (fun K hK => ?_)
                go_wp2_with (go_at_call 52; refine (htp _).mono ?_; rintro e w4 ⟨rfl, HK5⟩)
                refine Mid.normal (hK _ _ stabs_nil ?_)
                clear hK K
                iterate 1 (refine canw_sil rfl rfl (fun K hK => ?_); go_simp; refine hK _ ?_; clear hK K)
                refine canw_nil ?_
                cases tb with
                | true =>
                  have HN := Lib.hid (show ∀ t ∈ p.writes.take (k + 1), tmplOk t p.kinds.length = true from fun t ht => by
                    obtain ⟨hl, hb⟩ := HB.out
                    rw [List.take_succ_eq_append_getElem hl] at ht
                    rcases List.mem_append.1 ht with h | h
                    · exact HK4.out t h
                    · rw [List.mem_singleton] at h
                      rw [h]; exact hb)
                  go_wp2_with fail
                  go_roundg (p.writes.length - (k + 1))
                  case measure => obtain ⟨hl, -⟩ := HB.out; omega
                  case rel => exact ⟨k + 1, (by obtain ⟨hl, -⟩ := HB.out; exact hl), rfl, by simp, HK3.out.trans HK5.out, HN.out⟩
                | false =>
                  have hr0 : er = 81 := by
                    obtain ⟨hl, hb⟩ := HB.out
                    have hbad : p.writes.all (tmplOk · p.kinds.length) = false := by
                      rw [List.all_eq_false]
                      exact ⟨_, List.getElem_mem hl, by rw [hb]; decide⟩
                    have h3 := HE3.out
                    rw [if_pos (.inr hbad)] at h3
                    exact h3.symm
                  subst hr0
                  go_wp2_with fail
                  go_ret
                  exact ⟨rfl, (HX.out.1.trans HK3.out).trans HK5.out⟩
              · obtain rfl : k = p.writes.length := by omega
                have j1 : ¬ (p.writes.length : Int) < p.writes.length := by omega
                have NW := Lib.hid (show p.writes.all (tmplOk · p.kinds.length) = true from by
                  rw [List.all_eq_true]
                  intro t ht
                  exact HR.out.2 t (by rw [List.take_length]; exact ht))
                have HKNW := Lib.hid HR.out.1
                clear hlt hk
                have hE1 := HE3.out
                rw [if_neg (by rw [NR.out, NW.out]; simp), ← HRR.out.2.2.2.1] at hE1
                have HE4 := Lib.hid hE1
                have q1 := blk_cell (HKNW.out.blk HX.out.2.1 (fun x => x))
                have HKW := Lib.hid (HX.out.1.trans HKNW.out)
                have HXB := Lib.hid (HKNW.out.blk HX.out.2.1 (fun x => x))
                clear hE1 HE3 NR NW HKNR HR
                generalize wr = w4 at *
                by_cases hz : pg = 0
                · subst hz
                  have hE5 := HE4.out
                  rw [if_neg (by simp), ← HRR.out.2.2.2.2] at hE5
                  by_cases ha : p.pgm.args = p.kinds.length
                  · rw [if_neg (by simp [ha])] at hE5
                    subst hE5
                    have i7 : (p.pgm.args != (p.kinds.length : Int)) = false := by simp [ha]
                    clear HE4 ha
                    generalize p.pgm.args = ar at *
                    go_wp2_with (go_at_call 53; refine (HPC.out _ HKW.out).mono ?_; clear HPC; rintro e w5 ⟨at', rfl, HK5⟩; have q5 := blk_cell (HK5.out.blk HXB.out (fun x => x)); clear q1)
                    go_ret
                    exact ⟨rfl, HKW.out.trans HK5.out⟩
                  · rw [if_pos ha] at hE5
                    subst hE5
                    have i7 : (p.pgm.args != (p.kinds.length : Int)) = true := by simpa using ha
                    clear HE4 ha
                    generalize p.pgm.args = ar at *
                    go_wp2_with (go_at_call 53; refine (HPC.out _ HKW.out).mono ?_; clear HPC; rintro e w5 ⟨at', rfl, HK5⟩; have q5 := blk_cell (HK5.out.blk HXB.out (fun x => x)); clear q1)
                    go_ret
                    exact ⟨rfl, HKW.out.trans HK5.out⟩
                · have hE5 := HE4.out
                  rw [if_pos hz] at hE5
                  subst hE5
                  have i7 : (pg != 0) = true := by simpa using hz
                  clear HE4 hz
                  go_wp2_with (go_at_call 53; refine (HPC.out _ HKW.out).mono ?_; clear HPC; rintro e w5 ⟨at', rfl, HK5⟩)
                  go_ret
                  exact ⟨rfl, HKW.out.trans HK5.out⟩
end Go.Proofs.YtfgdnakfikpmpaaGreatDoor
