/-
  LogPlays: what the law does.
-/
import Derived.Test.YtnknihmchmmenaaGreatPlA
import Derived.Test.YtnknihmchmmenaaGreatTaC
namespace Go.Proofs.YtnknihmchmmenaaGreat
open Go Go.RowKit Go.Deep
set_option linter.unusedVariables false
set_option linter.unusedSimpArgs false

theorem pnum_eq (w : World) (e : Int) : Calls Tryz.prog 25 #[.int .i64 e] w fun en w' => en = .returned (.int .i64 e) ∧ w = w' :=
  (lnum_any w e).mono (by rintro _ _ ⟨rfl, rfl⟩; exact ⟨rfl, rfl⟩)
theorem Play1.keep {w : World} {LB WB : Nat} {x x2 : Lg} {G : Nat → Prop} {w3 wr : World} (h : Play1 w LB WB x x2 G w3 wr) : Keep No w wr := by
  obtain ⟨S, T, h1, -⟩ := h
  exact h1
theorem Play1.size {w : World} {LB WB : Nat} {x x2 : Lg} {G : Nat → Prop} {w3 wr : World} (h : Play1 w LB WB x x2 G w3 wr) : w3.heap.size ≤ wr.heap.size := by
  obtain ⟨S, T, -, -, -, -, -, -, h⟩ := h
  exact h.size
theorem Play1.more {w : World} {LB WB : Nat} {x x2 : Lg} {G : Nat → Prop} {w3 wr w' : World} (h : Play1 w LB WB x x2 G w3 wr) (hk : Keep No wr w') : Play1 w LB WB x x2 G w3 w' := by
  obtain ⟨S, T, h1, h2, h3, h4, h5, h6, h7⟩ := h
  exact ⟨S, T, h1.trans hk, h2.agree hk.agreeNo hk.size, h3.agree hk.agreeNo hk.size, h4, h5, h6, h7.thenNo hk⟩
theorem PlayG.new {w w1 w2 : World} (h0 : Keep No w w1) (h : LogAt 117 w2 w1.heap.size (One w1.heap.size) lg0) (hk : Keep No w1 w2) (hs : w2.heap.size = w1.heap.size + 1) :
    PlayG w w1.heap.size w2.heap.size lg0 No (w2.alloc (.cells #[.slice none 0 0, .int .i64 0] 43)) := by
  have ka := (Keep.refl No w2).alloc (.cells #[.slice none 0 0, .int .i64 0] 43)
  have h1 := h0.size
  exact ⟨One w1.heap.size, One w2.heap.size, (h0.trans hk).trans ka, h.agree ka.agreeNo ka.size, ⟨_, No, blk_new _ _, Own.nil _ _ _ _, rfl, fun _ h => h.elim, rfl, fun k hk => by have : k = w2.heap.size := hk; simp; omega⟩,
    fun k h1 h2 => by have : k = w1.heap.size := h1; have : k = w2.heap.size := h2; omega, fun k hk => ⟨by have : k = w1.heap.size := hk; omega, fun x => x⟩, fun k hk => ⟨by have : k = w2.heap.size := hk; omega, fun x => x⟩⟩

set_option maxRecDepth 10000 in
set_option maxHeartbeats 8000000 in
theorem LogPlays_main (w : World) (a : Option Addr) (c : Nat) (l : List Act') (h : Rd (.slice actSh) w (Lt w.heap.size) [.slice a l.length c] l) (hb : (l.map actSh.bulk).sum ≤ 1048576) (fr mo : Int) (hfr : (Lit.int .i64 fr).wf = true) (hlong : longB l = false) :
    Calls Tryz.prog 5 #[.slice a l.length c, .int .i64 fr, .int .i64 mo] w fun e w' => e = .returned (.bool true) ∧ Keep No w w' := by
  have hab := acts_bulk l
  have hl := (long_any w _ a c l h (by omega) (by omega)).mono (R' := fun e w1 => e = .returned (.bool false) ∧ RowKit.Hid (Keep No w w1)) (by rintro e w1 ⟨rfl, hk⟩; rw [hlong]; exact ⟨rfl, hk⟩)
  have HH := Lib.hid (And.intro h (And.intro hb (And.intro hab hfr)))
  clear h hb hab hlong hfr
  go_enter Tryz.func5, Tryz.ntmps5
  go_wp2_with (go_at_call 29; refine hl.mono ?_; clear hl; rintro e w1 ⟨rfl, HK1⟩)
  refine (logNew_any w1).mono ?_
  rintro e w2 ⟨rfl, hL2, hk2, hs2⟩
  have HP2 := Lib.hid (PlayG.new HK1.out hL2 hk2 hs2)
  generalize w1.heap.size = LB at *
  clear hL2 hk2 HK1 hs2
  go_wp2_with (go_at_call 17; refine (live_any _).mono ?_; rintro e w3 ⟨rfl, hk3⟩; have HP3 := Lib.hid (HP2.out.more hk3); clear hk3)
  clear HP2
  generalize w2.heap.size = WB at *
  go_loopw [9] (fun i wr => ∃ (k : Nat) (x : Lg), i = .int .i64 k ∧ k ≤ l.length ∧ RowKit.Hid (x.Good ∧ PlayG w LB WB x No wr)) (fun i _ => l.length - (intOf i).toNat)
  case atStart => exact ⟨0, lg0, rfl, Nat.zero_le _, ⟨lg0_good, HP3.out⟩⟩
  case round =>
    clear HP3
    obtain ⟨k, x, rfl, hk, HA⟩ := hrel
    rename World => wo
    by_cases hlt : k < l.length
    · obtain ⟨h, hb, hab, hfr⟩ := HH.out
      obtain ⟨b, off, a5, c5, rfl, -, hbw, r0w, r1w, hx, hwe⟩ := acts_get h k hlt
      have hbw : b < w.heap.size := hbw
      have hkw := HA.out.2.keep
      have r1 := (hkw.cell (o := off + k * 2 + 1) hbw (fun x => x)).trans r1w
      have j0 : (0 : Int) ≤ (k : Int) := by omega
      have j1 : (k : Int) < (l.length : Int) := by omega
      have j3 : (k : Int) ≤ 9223372036854775806 := by omega
      have hmem := List.getElem_mem hlt
      have hpa : partsL l[k].plans ≤ 1048575 := by have := partsA_mem hmem; omega
      have hpb : (l[k].plans.map planSh.bulk).sum ≤ 1048576 := by have := act_bulk l[k]; have := mem_bulk actSh hmem; omega
      have hplen : l[k].plans.length ≤ 1048576 := by have := partsL_len l[k].plans; omega
      have hok := plansOk_of hpb
      have hin := rd_plans_in hx
      have hown := (lown_any wo _ a5 c5 l[k].plans (hx.agree _ hkw.agreeNo) hpa).mono (R' := fun e w3 => ∃ a6 c6, e = .returned (.slice a6 l[k].plans.length c6) ∧ w3.cell? ⟨b, off + k * 2, none⟩ = some (.int .i64 l[k].epoch) ∧ RowKit.Hid (Keep No wo w3 ∧ Rd (.slice planSh) w3 (Fr wo.heap.size w3.heap.size) [.slice a6 l[k].plans.length c6] l[k].plans)) (by
        rintro e w3 ⟨a6, c6, rfl, ho⟩
        have h6 := ho.out.own.rd
        rw [List.take_length] at h6
        exact ⟨a6, c6, rfl, ((hkw.trans ho.out.keep).cell hbw (fun x => x)).trans r0w, ho.out.keep, h6⟩)
      obtain ⟨x2, hx2⟩ : ∃ x2, (x.append l[k].epoch l[k].plans).2 = x2 := ⟨_, rfl⟩
      have hgd : x2.Good := by
        rw [← hx2]
        exact append_good HA.out.1 (by have := hwe; simp [Lit.wf, IntKind.min, IntKind.max, IntKind.signed, IntKind.bits] at this; omega) hin
      obtain ⟨rn, hrn⟩ : ∃ r, (x.append l[k].epoch l[k].plans).1.n = r := ⟨_, rfl⟩
      obtain ⟨re, hre⟩ : ∃ r, (x.append l[k].epoch l[k].plans).1.err = r := ⟨_, rfl⟩
      obtain ⟨ra, hra⟩ : ∃ r, (x.append l[k].epoch l[k].plans).1.at' = r := ⟨_, rfl⟩
      have ha1 : ∀ w3 a6 c6, Keep No wo w3 → Rd (.slice planSh) w3 (Fr wo.heap.size w3.heap.size) [.slice a6 l[k].plans.length c6] l[k].plans → Calls Tryz.prog 14 #[.pointer (some ⟨LB, 0, none⟩), .int .i64 l[k].epoch, .slice a6 l[k].plans.length c6] w3 fun e w' => e = .returned (.tuple #[.int .i64 rn, .int .i64 re, .int .i64 ra]) ∧ RowKit.Hid (Play1 w LB WB x x2 (Fr wo.heap.size w3.heap.size) w3 w') := fun w3 a6 c6 hk3 hr3 => by
        have := play_append1 HA.out.2 hk3 HA.out.1.len l[k].epoch hwe hr3 hok (by omega)
        rw [hrn, hre, hra, hx2] at this
        exact this
      have ha2 : ∀ w3 w4 G, Play1 w LB WB x x2 G w3 w4 → (∀ k, G k → k < w4.heap.size) → Calls Tryz.prog 32 #[.pointer (some ⟨WB, 0, none⟩), .int .i64 l[k].epoch, .slice a5 l[k].plans.length c5] w4 fun e w' => e = .returned (.tuple #[.int .i64 rn, .int .i64 re, .int .i64 ra]) ∧ RowKit.Hid (PlayG w LB WB x2 G w' ∧ Keep (fun k => w.heap.size ≤ k ∧ ¬ G k) w3 w') := fun w3 w4 G hp hG => by
        have := play_append2 hp hG HA.out.1.len l[k].epoch hwe hx hok (by omega) hx2
        rw [hrn, hre, hra] at this
        exact this
      have HGD := Lib.hid (And.intro hlt hgd)
      have HA1 := Lib.hid ha1
      have HA2 := Lib.hid ha2
      have HIN := Lib.hid (And.intro hx (And.intro hok (And.intro hpa hplen)))
      have HROW := Lib.hid (And.intro hbw (And.intro r0w r1w))
      generalize l[k].plans = ps at *
      generalize l[k].epoch = ep at *
      generalize hpm : ps.length = pm at *
      have HPM := Lib.hid hpm
      clear hpm hmem hpa hpb hplen hok hin hgd ha1 ha2 hx hwe hlt h hb hab hfr hk r0w r1w hbw hkw hx2 hrn hre hra
      go_wp2_with (first | (go_at_call 31; refine hown.mono ?_; clear hown r1; rintro e w3 ⟨a6, c6, rfl, r3, HO⟩) | (go_at_call 14; refine (HA1.out w3 a6 c6 HO.out.1 HO.out.2).mono ?_; clear r3; rintro e w4 ⟨rfl, H4⟩))
      have hk4 := H4.out.keep.drew
      have q0 := (hk4.cell (o := off + k * 2) HROW.out.1 (fun x => x)).trans HROW.out.2.1
      have q1 := (hk4.cell (o := off + k * 2 + 1) HROW.out.1 (fun x => x)).trans HROW.out.2.2
      have h32 := HA2.out w3 w4.drew _ (H4.out.more (Keep.refl No w4).drew) (fun k hk => Nat.lt_of_lt_of_le hk.2 H4.out.size)
      clear hk4
      refine wp_region_can [0, 1, 2, 3, 4, 5, 6, 7, 8, 9, 10, 11, 12, 13, 14, 15, 16, 17, 18] [11] [] (by kernel_rfl) (by kernel_rfl) (by kernel_rfl) (by kernel_rfl) (by intro c a d v w h; cases d <;> exact h) ?_
      iterate 11 (refine can_sil rfl rfl (fun K hK => ?_); go_simp; refine hK _ ?_; clear hK K)
      refine can_loud [] rfl rfl rfl (fun K hK => ?_)
      go_wp2_with (go_at_call 32; refine h32.mono ?_; clear h32; rintro e w5 ⟨rfl, H5⟩)
      refine Mid.normal (hK _ _ stabs_nil ?_)
      clear hK K q0 q1
      iterate 7 (refine can_sil rfl rfl (fun K hK => ?_); go_simp; refine hK _ ?_; clear hK K)
      refine can_nil ?_
      go_wp2_with (go_at_call 25; refine (pnum_eq _ _).mono ?_; rintro e w20 ⟨rfl, rfl⟩)
      have HG5 : RowKit.Hid (PlayG w LB WB x2 (Fr wo.heap.size w3.heap.size) w5 ∧ Rd (.slice planSh) w5 (Fr wo.heap.size w3.heap.size) [.slice a6 pm c6] ps ∧ (∀ k, Fr wo.heap.size w3.heap.size k → w.heap.size ≤ k) ∧ (∀ k, Fr wo.heap.size w3.heap.size k → k < w5.heap.size)) :=
        ⟨H5.out.1, HO.out.2.agree _ (H5.out.2.agree fun i _ hi hh => hh.2 hi), fun k hk => Nat.le_trans HA.out.2.keep.size hk.1, fun k hk => Nat.lt_of_lt_of_le hk.2 H5.out.2.size⟩
      clear H4 H5 HA1 HA2 HO
      generalize Fr wo.heap.size w3.heap.size = G at *
      go_loopw [17] (fun i wr => ∃ j : Nat, i = .int .i64 j ∧ j ≤ pm ∧ RowKit.Hid (Keep No w5 wr)) (fun i _ => pm - (intOf i).toNat)
      case atStart => exact ⟨0, rfl, Nat.zero_le _, Keep.refl _ _⟩
      case round =>
        obtain ⟨j, rfl, hj, HK⟩ := hrel
        rename World => wi
        by_cases hjt : j < pm
        · have hps : j < ps.length := by rw [HPM.out]; exact hjt
          obtain ⟨hx, hok, hpa, hplen⟩ := HIN.out
          have hk5 := HG5.out.1.keep.trans HK.out
          obtain ⟨bi, oi, ix1, iy1, ix2, iy2, ix3, iy3, rfl, -, hbi, -, hri, hxi⟩ := planAt' (hx.agree _ hk5.agreeNo) j hps
          obtain ⟨bg, og, gx1, gy1, gx2, gy2, gx3, gy3, rfl, -, hbg, -, hrg, hxg⟩ := planAt' (HG5.out.2.1.agree _ HK.out.agreeNo) j hps
          have hpn := partsL_mem (List.getElem_mem hps)
          have hfew := parts_few hpn (by omega)
          have hfit := (hok _ (List.getElem_mem hps)).1
          have hrow : ∀ W, Keep No wi W → RowAt W bg (og + j * 7) [.int .i64 ps[j].client, .int .u64 ps[j].token, .string ps[j].name, .slice gy1 ps[j].args.length gx1, .int .i64 ps[j].how, .slice gy2 ps[j].reads.length gx2, .slice gy3 ps[j].writes.length gx3] ∧ RowAt W bi (oi + j * 7) [.int .i64 ps[j].client, .int .u64 ps[j].token, .string ps[j].name, .slice iy1 ps[j].args.length ix1, .int .i64 ps[j].how, .slice iy2 ps[j].reads.length ix2, .slice iy3 ps[j].writes.length ix3] ∧ W.cell? ⟨b, off + k * 2 + 1, none⟩ = some (.slice (some ⟨bi, oi, none⟩) pm c5) := fun W hW =>
            ⟨hrg.agree (hW.block bg hbg (fun x => x)), hri.agree (hW.block bi hbi (fun x => x)), ((hk5.trans hW).cell HROW.out.1 (fun x => x)).trans HROW.out.2.2⟩
          have hsame := (same_eq wi.drew _ _ _ _ ps[j] (hxg.agree _ (Keep.refl No wi).drew.agreeNo) (hxi.agree _ (Keep.refl No wi).drew.agreeNo) hfew.args hfew.reads hfew.writes).mono (R' := fun e w' => e = .returned (.bool true) ∧ RowKit.Hid (Keep No wi w')) (by
            rintro e w' ⟨rfl, hk⟩
            exact ⟨rfl, (Keep.refl No wi).drew.trans hk⟩)
          have hrt : ∀ W, Keep No wi W → Calls Tryz.prog 27 #[.agg #[.int .i64 ps[j].client, .int .u64 ps[j].token, .string ps[j].name, .slice gy1 ps[j].args.length gx1, .int .i64 ps[j].how, .slice gy2 ps[j].reads.length gx2, .slice gy3 ps[j].writes.length gx3]] W fun e w' => e = .returned (.int .i64 ps[j].right) ∧ RowKit.Hid (Keep No wi w') := fun W hW => (right_any W _ _ ps[j] (hxg.agree _ hW.agreeNo) hfit).mono (by
            rintro e w' ⟨rfl, hk⟩
            exact ⟨rfl, hW.trans hk⟩)
          have hrr : ∀ W, Keep No wi W → Calls Tryz.prog 28 #[.agg #[.int .i64 ps[j].client, .int .u64 ps[j].token, .string ps[j].name, .slice iy1 ps[j].args.length ix1, .int .i64 ps[j].how, .slice iy2 ps[j].reads.length ix2, .slice iy3 ps[j].writes.length ix3]] W fun e w' => e = .returned (.int .i64 ps[j].right) ∧ RowKit.Hid (Keep No wi w') := fun W hW => (rRight_any W _ _ ps[j] (hxi.agree _ hW.agreeNo) hfit).mono (by
            rintro e w' ⟨rfl, hk⟩
            exact ⟨rfl, hW.trans hk⟩)
          have HJT : RowKit.Hid (j < pm) := hjt
          have HRW := Lib.hid hrow
          have HRT := Lib.hid (And.intro hrt hrr)
          have j0 : (0 : Int) ≤ (j : Int) := by omega
          have jj1 : (j : Int) < (pm : Int) := by omega
          have jj3 : (j : Int) ≤ 9223372036854775806 := by omega
          have kk0 : (0 : Int) ≤ (k : Int) := by omega
          clear hrow hrt hrr hri hrg hxi hxg hbi hbg hpn hfew hfit hx hok hpa hplen hk5 hjt hj
          generalize ps[j] = pj at *
          generalize pj.right = rj at *
          generalize pj.client = v2 at *
          generalize pj.token = v3 at *
          generalize pj.name = v4 at *
          generalize pj.how = v5 at *
          generalize pj.args.length = n1 at *
          generalize pj.reads.length = n2 at *
          generalize pj.writes.length = n3 at *
          clear hps
          obtain ⟨hg, hi, q1⟩ := HRW.out wi.drew (Keep.refl No wi).drew
          obtain ⟨g0, g1, g2, g3, g4, g5, g6⟩ := row_seven hg
          obtain ⟨i0, i1, i2, i3, i4, i5, i6⟩ := row_seven hi
          go_wp2_with fail
          refine wp_region_can [0, 1, 2, 3, 4, 5, 6, 7, 8, 9, 10, 11, 12, 13, 14, 15, 16, 17, 18, 21, 22, 23, 24, 25, 26, 27, 28, 19, 20, 29, 30, 31] [12, 19, 20, 29] [(21, 19), (22, 19), (23, 19), (24, 19), (25, 19), (26, 19), (27, 19), (28, 19), (21, 20), (22, 20), (23, 20), (24, 20), (25, 20), (26, 20), (27, 20), (28, 20)] (by kernel_rfl) (by kernel_rfl) (by kernel_rfl) (by kernel_rfl) (by intro c a d v w h; cases d <;> exact h) ?_
          iterate 12 (refine can_sil rfl rfl (fun K hK => ?_); go_simp; refine hK _ ?_; clear hK K)
          refine can_loud [] rfl rfl rfl (fun K hK => ?_)
          go_wp2_with (go_at_call 33; refine hsame.mono ?_; clear hsame; rintro e w7 ⟨rfl, H7⟩)
          refine Mid.normal (hK _ _ stabs_nil ?_)
          clear hK K g0 g1 g2 g3 g4 g5 g6 i0 i1 i2 i3 i4 i5 i6 q1 hg hi
          obtain ⟨hg, hi, q1⟩ := HRW.out w7 H7.out
          obtain ⟨g0, g1, g2, g3, g4, g5, g6⟩ := row_seven hg
          obtain ⟨i0, i1, i2, i3, i4, i5, i6⟩ := row_seven hi
          iterate 14 (refine can_sil rfl rfl (fun K hK => ?_); go_simp; refine hK _ ?_; clear hK K)
          have h27 := HRT.out.1 w7 H7.out
          refine can_loud [21, 22, 23, 24, 25, 26, 27, 28] rfl rfl rfl (fun K hK => ?_)
          go_wp2_with (go_at_call 27; refine h27.mono ?_; clear h27; rintro e w8 ⟨rfl, H8⟩)
          clear g0 g1 g2 g3 g4 g5 g6 i0 i1 i2 i3 i4 i5 i6 q1 hg hi
          obtain ⟨hg, hi, q1⟩ := HRW.out w8 H8.out
          obtain ⟨i0, i1, i2, i3, i4, i5, i6⟩ := row_seven hi
          refine Mid.normal (hK _ _ ?_ ?_)
          · simp only [List.forall_mem_cons]
            refine ⟨?_, ?_, ?_, ?_, ?_, ?_, ?_, ?_, stabs_nil⟩ <;> exact stab_of rfl (fun K hK => by go_simp; exact hK)
          clear hK K
          refine can_loud [21, 22, 23, 24, 25, 26, 27, 28] rfl rfl rfl (fun K hK => ?_)
          go_wp2_with (go_at_call 25; refine (pnum_eq _ _).mono ?_; rintro e w20 ⟨rfl, rfl⟩)
          refine Mid.normal (hK _ _ ?_ ?_)
          · simp only [List.forall_mem_cons]
            refine ⟨?_, ?_, ?_, ?_, ?_, ?_, ?_, ?_, stabs_nil⟩ <;> exact stab_of rfl (fun K hK => by go_simp; exact hK)
          clear hK K
          clear i0 i1 i2 i3 i4 i5 i6 q1 hg hi
          have h28 := HRT.out.2 w8 H8.out
          refine can_loud [] rfl rfl rfl (fun K hK => ?_)
          go_wp2_with (go_at_call 28; refine h28.mono ?_; clear h28; rintro e w9 ⟨rfl, H9⟩)
          refine Mid.normal (hK _ _ stabs_nil ?_)
          clear hK K
          iterate 2 (refine can_sil rfl rfl (fun K hK => ?_); go_simp; refine hK _ ?_; clear hK K)
          refine can_nil ?_
          go_wp2_with fail
          go_roundw
          case rel => exact ⟨j + 1, by simp, HJT.out, HK.out.trans H9.out⟩
          case measure => simp [intOf]; have := HJT.out; omega
        · have hjp : j = pm := by omega
          subst hjp
          have hsp := (lspoil_any wi G a6 j c6 ps (HG5.out.2.1.agree _ HK.out.agreeNo) (fun k hk => Nat.lt_of_lt_of_le (HG5.out.2.2.2 k hk) HK.out.size)).mono (R' := fun e w' => e = .returned (.tuple #[]) ∧ RowKit.Hid (PlayG w LB WB x2 No w')) (by
            rintro e w' ⟨rfl, hk⟩
            exact ⟨rfl, (HG5.out.1.more HK.out).spoil HG5.out.2.2.1 hk.keep⟩)
          have HLT : RowKit.Hid (k < l.length ∧ x2.Good) := HGD.out
          clear hjt hj HG5 HK HIN HROW HGD HPM HA
          go_wp2_with (go_at_call 34; refine hsp.mono ?_; clear hsp; rintro e w9 ⟨rfl, H9⟩)
          go_roundw
          case rel => exact ⟨k + 1, x2, by simp, HLT.out.1, ⟨HLT.out.2, H9.out⟩⟩
          case measure => simp [intOf]; have := HLT.out.1; omega
    · have hke : k = l.length := by omega
      subst hke
      clear hlt hk
      obtain ⟨L, hL⟩ : ∃ L, x.from' fr mo = L := ⟨_, rfl⟩
      have hLn : L.length ≤ 65536 := by
        rw [← hL]
        have := HA.out.1.len
        unfold Lg.from'
        rw [List.length_take, List.length_drop]
        omega
      have hf1 : fr ≤ 9223372036854775807 := by have := HH.out.2.2.2; simp [Lit.wf, IntKind.min, IntKind.max, IntKind.signed, IntKind.bits] at this; omega
      obtain ⟨S, T, hl1, hl2⟩ := HA.out.2.logs
      have h36 := (logFrom_any wo LB S x hl1 HA.out.1.few fr mo hf1).mono (R' := fun e w' => ∃ a7 c7, e = .returned (.slice a7 L.length c7) ∧ RowKit.Hid (Keep No wo w' ∧ Rd (.slice entrySh) w' (Fr wo.heap.size w'.heap.size) [.slice a7 L.length c7] L)) (by
        rintro e w' ⟨v, rfl, ho, hk⟩
        rw [hL] at ho
        obtain ⟨a7, c7, hv, -⟩ := Own.form ho
        subst hv
        exact ⟨a7, c7, rfl, hk, Own.rd ho⟩)
      have h37 : ∀ W, Keep No wo W → Calls Tryz.prog 37 #[.pointer (some ⟨WB, 0, none⟩), .int .i64 fr, .int .i64 mo] W fun e w' => ∃ a7 c7, e = .returned (.slice a7 L.length c7) ∧ RowKit.Hid (Keep No W w' ∧ Rd (.slice entrySh) w' (Fr W.heap.size w'.heap.size) [.slice a7 L.length c7] L) := fun W hk => (rFrom_any W WB T x (hl2.agree hk.agreeNo hk.size) HA.out.1.few fr mo).mono (by
        rintro e w' ⟨v, rfl, ho, hk⟩
        rw [rfrom_eq HA.out.1, hL] at ho
        obtain ⟨a7, c7, hv, -⟩ := Own.form ho
        subst hv
        exact ⟨a7, c7, rfl, hk, Own.rd ho⟩)
      have h38 : ∀ W, Keep No wo W → Calls Tryz.prog 38 #[.pointer (some ⟨LB, 0, none⟩), .pointer (some ⟨WB, 0, none⟩)] W fun e w' => e = .returned (.bool true) ∧ RowKit.Hid (Keep No wo w') := fun W hk => (stands_any W LB WB S T x (hl1.agree hk.agreeNo hk.size) (hl2.agree hk.agreeNo hk.size) HA.out.1).mono (by
        rintro e w' ⟨rfl, hk'⟩
        exact ⟨rfl, hk.trans hk'⟩)
      have HF := Lib.hid (And.intro h37 (And.intro h38 (And.intro hLn HA.out.2.keep)))
      clear h37 h38 hl1 hl2 hL hLn hf1 HA HH
      go_wp2_with (go_at_call 36; refine h36.mono ?_; clear h36; rintro e w6 ⟨a6, c6, rfl, H6⟩)
      refine (HF.out.1 w6 H6.out.1).mono ?_
      rintro e w7 ⟨a7, c7, rfl, H7⟩
      have hent := lentries_eq w7 _ _ a6 a7 c6 c7 L (H6.out.2.agree _ H7.out.1.agreeNo) H7.out.2 (by have := HF.out.2.2.1; omega)
      go_wp2_with (go_at_call 35; refine hent.mono ?_; clear hent; rintro e w8 ⟨rfl, hk8⟩; have H8 := Lib.hid ((H6.out.1.trans H7.out.1).trans hk8); clear hk8)
      refine (HF.out.2.1 w8 H8.out).mono ?_
      rintro e w9 ⟨rfl, H9⟩
      go_wp2_with fail
      refine (HF.out.2.1 w9 H9.out).mono ?_
      rintro e w10 ⟨rfl, H10⟩
      go_wp2_with fail
      go_ret
      exact ⟨by simp, HF.out.2.2.2.trans H10.out⟩
end Go.Proofs.YtnknihmchmmenaaGreat
