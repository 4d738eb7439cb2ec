/-
  LogBack: what the law does.
-/
import Derived.Test.YtnknihmchmmenaaGreatHJ
import Derived.Test.YtnknihmchmmenaaGreatHK
import Derived.Test.YtnknihmchmmenaaGreatGI
import Derived.Test.YtnknihmchmmenaaGreatCan3
namespace Go.Proofs.YtnknihmchmmenaaGreat
open Go Go.RowKit Go.Deep
set_option linter.unusedVariables false
set_option linter.unusedSimpArgs false

theorem lsame_eq (w : World) (S T : Nat → Prop) (a1 a2 : Option Addr) (n1 c1 n2 c2 : Nat) (b : Bytes) (h1 : Rd bytesSh w S [.slice a1 n1 c1] b) (h2 : Rd bytesSh w T [.slice a2 n2 c2] b) : Calls Tryz.prog 24 #[.slice a1 n1 c1, .slice a2 n2 c2] w fun e w' => e = .returned (.bool true) ∧ w' = w := by
  have e1 := run_string_back (P := Tryz.prog) 53 9 5 a1 c1 n1 Tryz.underlying53 Tryz.underlying5 Tryz.underlying9 h1
  have e2 := run_string_back (P := Tryz.prog) 53 9 5 a2 c2 n2 Tryz.underlying53 Tryz.underlying5 Tryz.underlying9 h2
  clear h1 h2
  generalize textOf b = t at *
  go_enter Tryz.func24, Tryz.ntmps24
  go_wp2_with fail
  go_ret
  exact ⟨by simp, by first | rfl | trivial⟩

theorem lnum_eq (w : World) (e : Int) : Calls Tryz.prog 25 #[.int .i64 e] w fun en w' => en = .returned (.int .i64 e) ∧ w = w' :=
  (lnum_any w e).mono (by rintro _ _ ⟨rfl, rfl⟩; exact ⟨rfl, rfl⟩)
theorem BackAt.new' {w w1 w2 : World} (h0 : Keep No w w1) (h : LogAt 117 w2 w1.heap.size (One w1.heap.size) lg0) (hk : Keep No w1 w2) : BackAt w w1.heap.size lg0 (.slice none 0 0) [] w2 :=
  ⟨_, No, h, Own.nil _ _ _ _, fun _ _ h => h, fun k hk => by have : k = w1.heap.size := hk; have := h0.size; omega, fun _ h => h.elim, h0.trans hk⟩

/-- behind k acts -/
structure Back1 (w : World) (l : List Act') (B k : Nat) (x : Lg) (v : Value) (wr : World) : Prop where
  good : x.Good
  len : x.l.length ≤ lensA (l.take k)
  back : BackAt w B x v x.l wr

theorem loadF_err {most : Int → Int} {m ep : Int} : ∀ (n i : Nat) (last : Int) (l : List Ent) (r : Rs) (e : Int) (k : Nat), loadF most m ep n i last l r = .inr (e, k) → e ≠ 0
  | 0, i, last, l, r, e, k, h => by simp [loadF] at h
  | n + 1, i, last, l, r, e, k, h => by
    simp only [loadF] at h
    split at h
    · simp only [Sum.inr.injEq, Prod.mk.injEq] at h; omega
    · split at h
      · rename_i h2
        simp only [Sum.inr.injEq, Prod.mk.injEq] at h
        rw [← h.1]; exact h2
      · split at h
        · simp only [Sum.inr.injEq, Prod.mk.injEq] at h; omega
        · split at h
          · simp only [Sum.inr.injEq, Prod.mk.injEq] at h; omega
          · exact loadF_err n _ _ _ _ e k h
theorem load_none {b : Bytes} {e : Int} {k : Nat} (h : load b = (none, e, k)) : e ≠ 0 := by
  unfold load loadL at h
  simp only at h
  split at h
  · simp only [Prod.mk.injEq] at h; omega
  · split at h
    · rename_i h2
      simp only [Prod.mk.injEq] at h
      rw [← h.2.1]
      exact loadF_err _ _ _ _ _ _ _ h2
    · split at h
      · simp only [Prod.mk.injEq] at h; omega
      · simp at h
theorem lg_bytes_len {x : Lg} (h : x.Good) : x.bytes.length ≤ 140737488355328 := by
  have h1 := framed_all x.l fun e he => (h.ok e he).1
  have h2 := h.len
  have h3 := (uintB_length x.epoch.toNat).2
  have h4 := (uintB_length x.l.length).2
  unfold Lg.bytes
  simp only [List.length_append]
  omega
theorem from_append {x : Lg} {ep : Int} {ps : List Plan} : Lg.from' ⟨x.l ++ layAt x.l.length ep ps, ep⟩ x.l.length ps.length = layAt x.l.length ep ps := by
  unfold Lg.from'
  rw [Int.toNat_natCast, Int.toNat_natCast, List.drop_left, List.take_of_length_le (by rw [layAt_len]; exact Nat.le_refl _)]
theorem from_all (x : Lg) (n : Nat) (h : x.l.length ≤ n) : x.from' 0 n = x.l := by
  unfold Lg.from'
  rw [Int.toNat_zero, List.drop_zero, Int.toNat_natCast, List.take_of_length_le h]

set_option maxRecDepth 10000 in
set_option maxHeartbeats 40000000 in
theorem LogBack_main (w : World) (a : Option Addr) (c : Nat) (l : List Act') (h : Rd (.slice actSh) w (Lt w.heap.size) [.slice a l.length c] l) (hb : (l.map actSh.bulk).sum ≤ 1048576) (v1 : Value) (raw : Bytes) (hr : Rd bytesSh w (Lt w.heap.size) [v1] raw) (hraw : raw.length ≤ 200000) (hlong : longB l = false) :
    Calls Tryz.prog 7 #[.slice a l.length c, v1] w fun e w' => e = .returned (.bool true) ∧ Keep No w w' := by
  have hab := acts_bulk l
  have hl := (long_any w _ a c l h (by omega) (by omega)).mono (R' := fun e w1 => e = .returned (.bool false) ∧ RowKit.Hid (Keep No w w1)) (by rintro e w1 ⟨rfl, hk⟩; rw [hlong]; exact ⟨rfl, hk⟩)
  obtain ⟨a1, c1, rfl, -⟩ := bytes_at hr
  have HH := Lib.hid (And.intro h (And.intro hb (And.intro hr (And.intro hab hraw))))
  have hrl : ¬ (200000 : Int) < raw.length := by omega
  clear h hb hr hab hraw hlong
  generalize hrn : raw.length = rn at *
  go_enter Tryz.func7, Tryz.ntmps7
  go_wp2_with (go_at_call 29; refine hl.mono ?_; clear hl; rintro e w1 ⟨rfl, HK1⟩)
  refine (logNew_any w1).mono ?_
  rintro e w2 ⟨rfl, hL2, hk2, -⟩
  have HB2 := Lib.hid (BackAt.new' HK1.out hL2 hk2)
  generalize w1.heap.size = B at *
  clear hL2 hk2 HK1
  go_wp2_with fail
  go_loopw [6, 7] (fun v i wr => ∃ (k : Nat) (x : Lg) (a : Option Addr) (m c : Nat), i = .int .i64 k ∧ v = .slice a m c ∧ k ≤ l.length ∧ RowKit.Hid (Back1 w l B k x (.slice a m c) wr)) (fun _ i _ => l.length - (intOf i).toNat)
  case atStart => exact ⟨0, lg0, none, 0, 0, rfl, rfl, Nat.zero_le _, ⟨lg0_good, Nat.zero_le _, HB2.out⟩⟩
  case round =>
    clear HB2
    obtain ⟨k, x, av, mv, cv, rfl, rfl, hk, HA⟩ := hrel
    by_cases hlt : k < l.length
    · obtain ⟨h, hb, hr, hab, hraw⟩ := HH.out
      obtain ⟨b, off, a5, c5, rfl, -, hbw, r0w, r1w, hx, hwe⟩ := acts_get h k hlt
      have hbw : b < w.heap.size := hbw
      have r0 := (HA.out.back.keep.cell (o := off + k * 2) hbw (fun x => x)).trans r0w
      have r1 := (HA.out.back.keep.cell (o := off + k * 2 + 1) hbw (fun x => x)).trans r1w
      obtain ⟨S, hS⟩ := HA.out.back.log
      have hl1 := logLen_any wr B S x hS
      have he1 := logEpoch_any wr B S x hS
      have j0 : (0 : Int) ≤ (k : Int) := by omega
      have j1 : (k : Int) < (l.length : Int) := by omega
      have j3 : (k : Int) ≤ 9223372036854775806 := by omega
      have hmem := List.getElem_mem hlt
      have hpa : partsL l[k].plans ≤ 1048575 := by have := partsA_mem hmem; omega
      have hpb : (l[k].plans.map planSh.bulk).sum ≤ 1048576 := by have := act_bulk l[k]; have := mem_bulk actSh hmem; omega
      have hlens := lensA_succ l k hlt
      have hkd : Keep No wr wr.drew := (Keep.refl No wr).drew
      have hown := (lown_any wr.drew _ a5 c5 l[k].plans (hx.agree _ (HA.out.back.keep.trans hkd).agreeNo) hpa).mono (R' := fun e w3 => ∃ a6 c6, e = .returned (.slice a6 l[k].plans.length c6) ∧ w3.cell? ⟨b, off + k * 2, none⟩ = some (.int .i64 l[k].epoch) ∧ RowKit.Hid (Keep No wr w3 ∧ Rd (.slice planSh) w3 (Fr wr.heap.size w3.heap.size) [.slice a6 l[k].plans.length c6] l[k].plans)) (by
        rintro e w3 ⟨a6, c6, rfl, ho⟩
        have h6 := ho.out.own.rd
        rw [List.take_length] at h6
        exact ⟨a6, c6, rfl, ((HA.out.back.keep.trans (hkd.trans ho.out.keep)).cell hbw (fun x => x)).trans r0w, hkd.trans ho.out.keep, h6⟩)
      have HX := Lib.hid (And.intro hlt (And.intro hwe (And.intro hpa (And.intro hpb (And.intro hlens (And.intro hbw (And.intro r0w r1w)))))))
      have hplen : l[k].plans.length ≤ 1048576 := by have := partsL_len l[k].plans; omega
      generalize hps : l[k].plans = ps at *
      generalize hep : l[k].epoch = ep at *
      generalize hpm : ps.length = pm at *
      have HPS := Lib.hid (And.intro hpm hplen)
      clear hps hep hpm hmem hpa hpb hlens hx hwe hlt h hb hr hab hraw hS hk r0w r1w hbw hkd hplen
      go_wp2_with (first | (go_at_call 41; refine hl1.mono ?_; clear hl1; rintro e w5 ⟨rfl, rfl⟩) | (go_at_call 15; refine he1.mono ?_; clear he1; rintro e w5 ⟨rfl, rfl⟩))
      refine wp_region_canw [0, 1, 2, 3, 4, 5, 6, 7, 8, 9, 10, 11, 12, 13, 14, 15, 16, 17, 18, 19] [11, 12] [(0, 11), (1, 11), (2, 11), (3, 11), (4, 11), (5, 11)] (by kernel_rfl) (by kernel_rfl) (by kernel_rfl) (by kernel_rfl) (by intro c a d v w h; cases d <;> exact h) ?_
      iterate 11 (refine canw_sil rfl rfl (fun K hK => ?_); go_simp; refine hK _ ?_; clear hK K)
      refine canw_loud [0, 1, 2, 3, 4, 5] rfl rfl rfl (fun K hK => ?_)
      go_wp2_with (go_at_call 31; refine hown.mono ?_; clear hown; rintro e w3 ⟨a6, c6, rfl, r3, HO⟩)
      refine Mid.normal (hK _ _ ?_ ?_)
      · simp only [List.forall_mem_cons]
        refine ⟨?_, ?_, ?_, ?_, ?_, ?_, stabs_nil⟩ <;> exact stab_of rfl (fun K hK => by go_simp; exact hK)
      clear hK K r0 r1
      have happ := HA.out.back.append HO.out.1 HA.out.good.len ep HX.out.2.1 (u := .slice a6 pm c6) (ps := ps) HO.out.2 (plansOk_of HX.out.2.2.2.1) (by have := HPS.out; omega)
      have hcs := append_cases x ep ps
      have hgd := append_good (ps := ps) (ep := ep) HA.out.good (by have := HX.out.2.1; simp [Lit.wf, IntKind.min, IntKind.max, IntKind.signed, IntKind.bits] at this; omega) (rd_plans_in HO.out.2)
      generalize happ2 : (x.append ep ps).2 = x2 at *
      have hn1 : ∀ r, (x.append ep ps).1.n = r → (x.append ep ps).1.n = r := fun _ h => h
      obtain ⟨rn', hrn'⟩ : ∃ r, (x.append ep ps).1.n = r := ⟨_, rfl⟩
      obtain ⟨re, hre⟩ : ∃ r, (x.append ep ps).1.err = r := ⟨_, rfl⟩
      obtain ⟨ra, hra⟩ : ∃ r, (x.append ep ps).1.at' = r := ⟨_, rfl⟩
      rw [hrn', hre, hra] at happ
      have HC := Lib.hid (And.intro hcs (And.intro hgd (And.intro happ2 (And.intro hrn' (And.intro hre hra)))))
      clear hcs hgd happ2 hrn' hre hra hn1 r3
      refine canw_loud [] rfl rfl rfl (fun K hK => ?_)
      go_wp2_with (go_at_call 14; refine happ.mono ?_; clear happ; rintro e w4 ⟨rfl, HBK⟩)
      refine Mid.normal (hK _ _ stabs_nil ?_)
      clear hK K
      iterate 7 (refine canw_sil rfl rfl (fun K hK => ?_); go_simp; refine hK _ ?_; clear hK K)
      refine canw_nil ?_
      obtain ⟨S5, hS5⟩ := HBK.out.1.log
      by_cases hre0 : re = 0
      · obtain ⟨hcs, hgd, happ2, hrn', hre, hra⟩ := HC.out
        have hs := hcs.resolve_left (fun h => h.1 (by rw [hre]; exact hre0))
        have hx2 : x2 = ⟨x.l ++ layAt x.l.length ep ps, ep⟩ := by rw [← happ2, hs.1]
        have hrn2 : rn' = x.l.length := by rw [← hrn', hs.1]
        have hlay : (layAt x.l.length ep ps).length = pm := by rw [layAt_len, HPS.out.1]
        have hx2l : x2.l.length = x.l.length + pm := by rw [hx2]; show (x.l ++ layAt x.l.length ep ps).length = _; rw [List.length_append, hlay]
        have hx2e : x2.epoch = ep := by rw [hx2]
        have hl5 : ∀ n, Calls Tryz.prog 41 #[.pointer (some ⟨B, 0, none⟩)] (w4.drewN n) fun e w' => e = .returned (.int .i64 ((x.l.length : Int) + (pm : Int))) ∧ w' = w4.drewN n := fun n =>
          (logLen_any _ B S5 x2 (hS5.agree ((Keep.refl No w4).drewN n).agreeNo ((Keep.refl No w4).drewN n).size)).mono (by rintro e w' ⟨rfl, rfl⟩; exact ⟨by rw [hx2l]; simp, rfl⟩)
        have hep5 : ∀ n, Calls Tryz.prog 15 #[.pointer (some ⟨B, 0, none⟩)] (w4.drewN n) fun e w' => e = .returned (.int .i64 ep) ∧ w' = w4.drewN n := fun n =>
          (logEpoch_any _ B S5 x2 (hS5.agree ((Keep.refl No w4).drewN n).agreeNo ((Keep.refl No w4).drewN n).size)).mono (by rintro e w' ⟨rfl, rfl⟩; exact ⟨by rw [hx2e], rfl⟩)
        have hfrl : x2.from' x.l.length pm = layAt x.l.length ep ps := by rw [hx2, ← HPS.out.1]; exact from_append
        have hlen65 : x.l.length + pm ≤ 65536 := by rw [← HPS.out.1]; exact hs.2.2.2.1
        have hfr : ∀ n, Calls Tryz.prog 36 #[.pointer (some ⟨B, 0, none⟩), .int .i64 x.l.length, .int .i64 pm] (w4.drewN n) fun e w' => ∃ a7 c7, e = .returned (.slice a7 pm c7) ∧ RowKit.Hid (Keep No w4 w' ∧ Rd (.slice entrySh) w' (Fr w4.heap.size w'.heap.size) [.slice a7 pm c7] (layAt x.l.length ep ps)) := fun n =>
          (logFrom_any _ B S5 x2 (hS5.agree ((Keep.refl No w4).drewN n).agreeNo ((Keep.refl No w4).drewN n).size) hgd.few x.l.length pm (by omega)).mono (by
            rintro e w' ⟨v, rfl, ho, hk⟩
            rw [hfrl] at ho
            obtain ⟨a7, c7, hv, -⟩ := Own.form ho
            rw [hlay] at hv
            subst hv
            exact ⟨a7, c7, rfl, ((Keep.refl No w4).drewN n).trans hk, Own.rd ho⟩)
        have q0 := (HBK.out.2.cell (o := off + k * 2) HX.out.2.2.2.2.2.1 (fun x => x)).trans HX.out.2.2.2.2.2.2.1
        have q1 := (HBK.out.2.cell (o := off + k * 2 + 1) HX.out.2.2.2.2.2.1 (fun x => x)).trans HX.out.2.2.2.2.2.2.2
        have bE : decide (ep < x.epoch) = false := by have := hs.2.1; simp; omega
        have HY := Lib.hid (And.intro hgd (And.intro hx2 (And.intro hx2l (And.intro hlen65 (And.intro hlay hfr)))))
        have e65 : (x.l.length : Int) + (pm : Int) ≤ 65536 := by omega
        clear hcs hgd happ2 hrn' hre hra hs hx2 hx2l hx2e hlay hlen65 hS5 hfrl hfr
        subst hre0
        subst hrn2
        go_wp2_with (go_at_call 25; refine (lnum_eq _ _).mono ?_; rintro e w20 ⟨rfl, rfl⟩)
        go_quiet (first | (go_at_call 41; exact quiet_call (hl5 _)) | (go_at_call 15; exact quiet_call (hep5 _)))
        have hfr := HY.out.2.2.2.2.2
        clear hl5 hep5 bE e65
        go_wp2_with (first | (go_at_call 36; refine (hfr _).mono ?_; clear hfr; rintro e w6 ⟨a7, c7, rfl, HF⟩; obtain ⟨a8, m8, c8, w8, hrun, hback⟩ := HBK.out.1.put HF.out.1 HF.out.2 (by have h1 := HY.out.2.2.2.2.1; have h2 := HY.out.2.2.2.1; omega); have HW := Lib.hid hback; clear hback) | (at_builtin; refine wpList_app rfl (.tmp 107) (.tmp 116) 41 41 rfl rfl rfl hrun ?_; clear hrun))
        go_roundw
        case rel =>
          obtain ⟨hgd, hx2, hx2l, hlen65, hlay, -⟩ := HY.out
          refine ⟨k + 1, x2, a8, m8, c8, by simp, rfl, HX.out.1, ⟨hgd, ?_, ?_⟩⟩
          · have h1 := HA.out.len; have h2 := HX.out.2.2.2.2.1; omega
          · have h3 := HW.out
            have h4 : x2.l = x.l ++ layAt x.l.length ep ps := by rw [hx2]
            rw [h4]; exact h3
        case measure => simp [intOf]; have := HX.out.1; omega
      · obtain ⟨hcs, hgd, happ2, hrn', hre, hra⟩ := HC.out
        have hs := hcs.resolve_right (fun h => hre0 (by rw [← hre, h.1]))
        have hx2 : x2 = x := hs.2.1
        subst hx2
        have hl5 := logLen_any w4 B S5 x2 hS5
        have hep5 := logEpoch_any w4 B S5 x2 hS5
        have b1 : (re != 0) = true := by simpa using hre0
        clear hcs hgd happ2 hrn' hre hra hs hS5 hre0
        go_wp2_with (first | (go_at_call 25; refine (lnum_eq _ _).mono ?_; rintro e w20 ⟨rfl, rfl⟩) | (go_at_call 41; refine hl5.mono ?_; clear hl5; rintro e w5 ⟨rfl, rfl⟩) | (go_at_call 15; refine hep5.mono ?_; clear hep5; rintro e w5 ⟨rfl, rfl⟩))
        go_roundw
        case rel =>
          refine ⟨k + 1, x2, av, mv, cv, by simp, rfl, HX.out.1, ⟨HA.out.good, ?_, HBK.out.1⟩⟩
          have h1 := HA.out.len; have h2 := HX.out.2.2.2.2.1; omega
        case measure => simp [intOf]; have := HX.out.1; omega
    · obtain rfl : k = l.length := by omega
      have hgood := HA.out.good
      have hbk := HA.out.back
      have hlen := HA.out.len
      rw [List.take_length] at hlen
      have hl0 := lensA_le l
      have hn65 := hgood.len
      obtain ⟨A, hA⟩ := hbk.list
      obtain ⟨av', cv', hv, hcv⟩ := hA.form
      simp only [Value.slice.injEq] at hv
      obtain ⟨rfl, hmv, rfl⟩ := hv
      obtain ⟨S, hS⟩ := hbk.log
      have hfrl : x.from' 0 (mv + 1 : Nat) = x.l := from_all x _ (by omega)
      have hfr := (logFrom_any wr B S x hS hgood.few 0 (mv + 1 : Nat) (by omega)).mono (R' := fun e w' => ∃ a7 c7, e = .returned (.slice a7 mv c7) ∧ RowKit.Hid (Keep No wr w' ∧ Rd (.slice entrySh) w' (Fr wr.heap.size w'.heap.size) [.slice a7 mv c7] x.l)) (by
        rintro e w' ⟨v, rfl, ho, hk⟩
        rw [hfrl] at ho
        obtain ⟨a7, c7, hv, -⟩ := Own.form ho
        rw [← hmv] at hv
        subst hv
        exact ⟨a7, c7, rfl, hk, Own.rd ho⟩)
      have HM := Lib.hid (And.intro hgood (And.intro hbk (And.intro hmv (And.intro hn65 hA))))
      have e65 : (mv : Int) ≤ 65536 := by omega
      clear hgood hbk hlen hl0 hn65 hA hcv hS hfrl hlt hk HA hmv
      go_wp2_with (first | (go_at_call 36; refine hfr.mono ?_; clear hfr; rintro e w6 ⟨a7, c7, rfl, HF⟩) | (go_at_call 35; obtain ⟨hgood, hbk, hmv, hn65, hA⟩ := HM.out; have hent := lentries_eq w6 _ A a7 av c7 cv x.l (by rw [← hmv]; exact HF.out.2) (by rw [← hmv]; exact (hA.agree HF.out.1.agreeNo).rd) (by omega); rw [← hmv] at hent; refine hent.mono ?_; clear hent hgood hbk hmv hn65 hA; rintro e w7 ⟨rfl, hk7⟩; have HK7 := Lib.hid (HF.out.1.trans hk7); clear hk7 HF))
      have HB7 := Lib.hid (And.intro (HM.out.2.1.more HK7.out) (And.intro HM.out.1 (And.intro HM.out.2.2.1 HM.out.2.2.2.1)))
      clear HM HK7
      go_loopw [13] (fun i wx => ∃ q : Nat, i = .int .i64 q ∧ q ≤ mv ∧ RowKit.Hid (BackAt w B x (.slice av mv cv) x.l wx)) (fun i _ => mv - (intOf i).toNat)
      case atStart => exact ⟨0, rfl, Nat.zero_le _, HB7.out.1⟩
      case round =>
        rename_i wr0 _
        obtain ⟨q, rfl, hq, HB⟩ := hrel
        by_cases hlt : q < mv
        · obtain ⟨-, hgood, hmv, hn65⟩ := HB7.out
          obtain ⟨A2, hA2⟩ := HB.out.list
          have hqx : q < x.l.length := by omega
          obtain ⟨bb, oo, x1, y1, x2', y2, x3, y3, rfl, hbb, -, hr', hx⟩ := ents_get hA2.rd q hqx
          have hrow := hr'
          obtain ⟨hf1, hf2⟩ := hgood.fit _ (List.getElem_mem hqx)
          have hok := hgood.ok _ (List.getElem_mem hqx)
          have hsq := hgood.seq q hqx
          have hput := (putEnt_any wr _ No (.slice none 0 0) [] ⟨none, 0, rfl, by simp, by simp, fun _ => ⟨rfl, rfl⟩, fun i hi => absurd hi (by simp)⟩ (by simp) _ x.l[q] hx hf1).mono (R' := fun e w' => ∃ a m c, e = .returned (.tuple #[.slice a m c, .int .i64 0]) ∧ RowKit.Hid (OwnB wr w' (.slice a m c) x.l[q].bytes)) (by
            rintro e w' ⟨a, m, c, rfl, ho⟩
            rw [if_pos hf2, List.nil_append] at ho
            rw [hf2]
            exact ⟨a, m, c, rfl, ho⟩)
          have hbl := Ent.bytes_length hf2
          have hget : ∀ (W : World) a m c, OwnB wr W (.slice a m c) x.l[q].bytes → Calls Tryz.prog 22 #[.slice a m c] W fun e w' => ∃ b1 d1 b2 d2 b3 d3, e = .returned (.tuple #[.agg #[.int .i64 x.l[q].seq, .int .i64 x.l[q].epoch, .int .i64 x.l[q].plan.client, .int .u64 x.l[q].plan.token, .string x.l[q].plan.name, .slice b1 x.l[q].plan.args.length d1, .int .i64 x.l[q].plan.how, .slice b2 x.l[q].plan.reads.length d2, .slice b3 x.l[q].plan.writes.length d3], .int .i64 0]) ∧
              RowKit.Hid (Keep No wr w' ∧ Rd entrySh w' (Fr W.heap.size w'.heap.size) [.int .i64 x.l[q].seq, .int .i64 x.l[q].epoch, .int .i64 x.l[q].plan.client, .int .u64 x.l[q].plan.token, .string x.l[q].plan.name, .slice b1 x.l[q].plan.args.length d1, .int .i64 x.l[q].plan.how, .slice b2 x.l[q].plan.reads.length d2, .slice b3 x.l[q].plan.writes.length d3] x.l[q]) := fun W a m c ho =>
            (getEnt_any W _ _ _ ho.rd (by omega)).mono (by
              have hge : entGet x.l[q].bytes = (x.l[q], 0) := entGet_bytes hf2 hok.2.1 _ (.inr (Nat.le_refl _))
              rw [hge]
              rintro e w' ⟨cs, rfl, hr3, hk3⟩
              obtain ⟨b1, k1, b2, k2, b3, k3, ec⟩ := ent_array hr3
              subst ec
              exact ⟨b1, k1, b2, k2, b3, k3, rfl, ho.2.trans hk3, hr3⟩)
          have j0 : (0 : Int) ≤ q := by omega
          have j1 : (q : Int) < mv := by omega
          have j3 : (q : Int) ≤ 9223372036854775806 := by omega
          obtain ⟨r0, r1, r2, r3, r4, r5, r6, r7, r8⟩ := row_nine hr'
          have hprev : ∀ pq, pq + 1 = q → ∃ pe, wr.cell? ⟨bb, oo + pq * 9 + 1, none⟩ = some (.int .i64 pe) ∧ pe ≤ x.l[q].epoch := fun pq hpq => by
            obtain ⟨bb', oo', u1, t1, u2, t2, u3, t3, hbo, -, -, hrp, -⟩ := ents_get hA2.rd pq (by omega)
            simp only [Option.some.injEq, Addr.mk.injEq, and_true] at hbo
            obtain ⟨rfl, rfl⟩ := hbo
            obtain ⟨-, p1, -⟩ := row_nine hrp
            exact ⟨_, p1, List.pairwise_iff_getElem.1 hgood.rise pq q (by omega) hqx (by omega)⟩
          have HLT : RowKit.Hid (q + 1 ≤ mv) := hlt
          clear hgood hok hf1 hf2 hbl hr' hq hA2
          generalize x.l[q] = xq at *
          have HR := Lib.hid (And.intro hrow hx)
          clear hrow hx
          generalize xq.seq = vs at *
          subst hsq
          generalize xq.epoch = v2 at *
          generalize xq.plan.client = v3 at *
          generalize xq.plan.token = v4 at *
          generalize xq.plan.name = v5 at *
          generalize xq.plan.how = v6 at *
          generalize xq.plan.args.length = m1 at *
          generalize xq.plan.reads.length = m2 at *
          generalize xq.plan.writes.length = m3 at *
          clear hlt hmv hn65 hqx
          by_cases hq0 : 0 < q
          · obtain ⟨pe, hp1, hp2⟩ := hprev (q - 1) (by omega)
            obtain ⟨pq, hpq⟩ : ∃ pq, q - 1 = pq := ⟨_, rfl⟩
            rw [hpq] at hp1
            have i0 : (0 : Int) < q := by omega
            have HP : RowKit.Hid ((0 : Int) ≤ (pq : Int) ∧ (pq : Int) < mv ∧ wr.cell? ⟨bb, oo + pq * 9 + 1, none⟩ = some (.int .i64 pe) ∧ decide (v2 < pe) = false ∧ IntKind.i64.wrap ((q : Int) - 1) = (pq : Int)) := ⟨by omega, by omega, hp1, by simp; omega, by rw [IntKind.wrap_i64]; omega⟩
            clear hprev hp1 hp2 hpq
            go_wp2_with (first | (go_at_call 19; refine hput.mono ?_; clear hput; rintro e w8 ⟨a8, m8, c8, rfl, HO8⟩; have hg := hget w8 a8 m8 c8 HO8.out) | (go_at_call 22; refine hg.mono ?_; clear hg hget; rintro e w9 ⟨b1, d1, b2, d2, b3, d3, rfl, HG9⟩))
            have x10 := blk_new w9 (.cells #[.int .i64 q, .int .i64 v2, .int .i64 v3, .int .u64 v4, .string v5, .slice b1 m1 d1, .int .i64 v6, .slice b2 m2 d2, .slice b3 m3 d3] 40)
            have ka := (Keep.refl No w9).alloc (.cells #[.int .i64 q, .int .i64 v2, .int .i64 v3, .int .u64 v4, .string v5, .slice b1 m1 d1, .int .i64 v6, .slice b2 m2 d2, .slice b3 m3 d3] 40)
            generalize (w9.alloc (.cells #[.int .i64 q, .int .i64 v2, .int .i64 v3, .int .u64 v4, .string v5, .slice b1 m1 d1, .int .i64 v6, .slice b2 m2 d2, .slice b3 m3 d3] 40)) = w10 at *
            have kd : Keep No w10 w10.drew := (Keep.refl No w10).drew
            have K10 : Keep No wr w10.drew := (HG9.out.1.trans ka).trans kd
            have y10 := kd.blk x10 (fun x => x)
            have heq := (rEqual_any w10.drew _ _ _ _ xq xq (HG9.out.2.agree _ (ka.trans kd).agreeNo) (HR.out.2.agree _ K10.agreeNo)).mono (R' := fun e w' => e = .returned (.bool true) ∧ RowKit.Hid (Keep No wr w')) (by
              rintro e w' ⟨rfl, hk⟩
              exact ⟨by rw [(Ent.eqb_iff _ _).2 rfl], K10.trans hk⟩)
            obtain ⟨s0, s1, s2, s3, s4, s5, s6, s7, s8⟩ := row_nine (HR.out.1.agree (K10.block bb hbb (fun x => x)))
            have c10 := blk_cell y10
            have p10 := (K10.cell (o := oo + pq * 9 + 1) hbb (fun x => x)).trans HP.out.2.2.1
            have jp0 : (0 : Int) ≤ (pq : Int) := HP.out.1
            have jp1 : (pq : Int) < mv := HP.out.2.1
            have hwq := HP.out.2.2.2.2
            have bE : decide (v2 < pe) = false := HP.out.2.2.2.1
            refine wp_region_canw [0, 1, 2, 3, 4, 5, 6, 7, 8, 9, 10, 11, 12, 13, 14, 15, 16, 17, 18, 19, 20, 21, 22, 23, 24, 25, 26, 27, 28, 29, 30, 31, 32, 33, 34, 35, 36, 37, 38, 39, 40, 41, 42, 43] [27, 32, 41] [] (by kernel_rfl) (by kernel_rfl) (by kernel_rfl) (by kernel_rfl) (by intro c a d v w h; cases d <;> exact h) ?_
            clear K10 y10 kd ka x10
            generalize w10.drew = wd at *
            generalize w9.heap.size = E at *
            iterate 19 (refine canw_sil rfl rfl (fun K hK => ?_); go_simp; refine hK _ ?_; clear hK K)
            try rw [hwq]
            clear hwq
            iterate 8 (refine canw_sil rfl rfl (fun K hK => ?_); go_simp; refine hK _ ?_; clear hK K)
            refine canw_loud [] rfl rfl rfl (fun K hK => ?_)
            go_wp2_with (go_at_call 25; refine (lnum_eq _ _).mono ?_; rintro e w20 ⟨rfl, rfl⟩)
            refine Mid.normal (hK _ _ stabs_nil ?_)
            clear hK K
            iterate 4 (refine canw_sil rfl rfl (fun K hK => ?_); go_simp; refine hK _ ?_; clear hK K)
            refine canw_loud [] rfl rfl rfl (fun K hK => ?_)
            go_wp2_with (go_at_call 25; refine (lnum_eq _ _).mono ?_; rintro e w20 ⟨rfl, rfl⟩)
            refine Mid.normal (hK _ _ stabs_nil ?_)
            clear hK K
            iterate 8 (refine canw_sil rfl rfl (fun K hK => ?_); go_simp; refine hK _ ?_; clear hK K)
            refine canw_loud [] rfl rfl rfl (fun K hK => ?_)
            go_wp2_with (go_at_call 13; refine heq.mono ?_; clear heq; rintro e w21 ⟨rfl, HK21⟩)
            refine Mid.normal (hK _ _ stabs_nil ?_)
            clear hK K
            iterate 2 (refine canw_sil rfl rfl (fun K hK => ?_); go_simp; refine hK _ ?_; clear hK K)
            refine canw_nil ?_
            clear s0 s1 s2 s3 s4 s5 s6 s7 s8 c10
            go_wp2_with fail
            go_roundw
            case rel => exact ⟨q + 1, by simp, HLT.out, HB.out.more HK21.out⟩
            case measure => simp [intOf]; have := HLT.out; omega
          · have HDQ : RowKit.Hid (decide (0 < q) = false ∧ decide ((0 : Int) < (q : Int)) = false) := ⟨by simp; omega, by simp; omega⟩
            clear hprev hq0
            go_wp2_with (first | (go_at_call 19; refine hput.mono ?_; clear hput; rintro e w8 ⟨a8, m8, c8, rfl, HO8⟩; have hg := hget w8 a8 m8 c8 HO8.out) | (go_at_call 22; refine hg.mono ?_; clear hg hget; rintro e w9 ⟨b1, d1, b2, d2, b3, d3, rfl, HG9⟩))
            have x10 := blk_new w9 (.cells #[.int .i64 q, .int .i64 v2, .int .i64 v3, .int .u64 v4, .string v5, .slice b1 m1 d1, .int .i64 v6, .slice b2 m2 d2, .slice b3 m3 d3] 40)
            have ka := (Keep.refl No w9).alloc (.cells #[.int .i64 q, .int .i64 v2, .int .i64 v3, .int .u64 v4, .string v5, .slice b1 m1 d1, .int .i64 v6, .slice b2 m2 d2, .slice b3 m3 d3] 40)
            generalize (w9.alloc (.cells #[.int .i64 q, .int .i64 v2, .int .i64 v3, .int .u64 v4, .string v5, .slice b1 m1 d1, .int .i64 v6, .slice b2 m2 d2, .slice b3 m3 d3] 40)) = w10 at *
            have kd : Keep No w10 w10.drew := (Keep.refl No w10).drew
            have K10 : Keep No wr w10.drew := (HG9.out.1.trans ka).trans kd
            have y10 := kd.blk x10 (fun x => x)
            have heq := (rEqual_any w10.drew _ _ _ _ xq xq (HG9.out.2.agree _ (ka.trans kd).agreeNo) (HR.out.2.agree _ K10.agreeNo)).mono (R' := fun e w' => e = .returned (.bool true) ∧ RowKit.Hid (Keep No wr w')) (by
              rintro e w' ⟨rfl, hk⟩
              exact ⟨by rw [(Ent.eqb_iff _ _).2 rfl], K10.trans hk⟩)
            obtain ⟨s0, s1, s2, s3, s4, s5, s6, s7, s8⟩ := row_nine (HR.out.1.agree (K10.block bb hbb (fun x => x)))
            have c10 := blk_cell y10
            refine wp_region_canw [0, 1, 2, 3, 4, 5, 6, 7, 8, 9, 10, 11, 12, 13, 14, 15, 16, 17, 18, 19, 20, 21, 22, 23, 24, 25, 26, 27, 28, 29, 30, 31, 32, 33, 34, 35, 36, 37, 38, 39, 40, 41, 42, 43] [27, 32, 41] [] (by kernel_rfl) (by kernel_rfl) (by kernel_rfl) (by kernel_rfl) (by intro c a d v w h; cases d <;> exact h) ?_
            clear K10 y10 kd ka x10
            generalize w10.drew = wd at *
            generalize w9.heap.size = E at *
            iterate 9 (refine canw_sil rfl rfl (fun K hK => ?_); go_simp; refine hK _ ?_; clear hK K)
            refine canw_sil rfl rfl (fun K hK => ?_); go_simp; first | rw [HDQ.out.1] | rw [HDQ.out.2]
            refine hK _ ?_; clear hK K
            iterate 17 (refine canw_sil rfl rfl (fun K hK => ?_); go_simp; refine hK _ ?_; clear hK K)
            refine canw_loud [] rfl rfl rfl (fun K hK => ?_)
            go_wp2_with (go_at_call 25; refine (lnum_eq _ _).mono ?_; rintro e w20 ⟨rfl, rfl⟩)
            refine Mid.normal (hK _ _ stabs_nil ?_)
            clear hK K
            iterate 4 (refine canw_sil rfl rfl (fun K hK => ?_); go_simp; refine hK _ ?_; clear hK K)
            refine canw_loud [] rfl rfl rfl (fun K hK => ?_)
            go_wp2_with (go_at_call 25; refine (lnum_eq _ _).mono ?_; rintro e w20 ⟨rfl, rfl⟩)
            refine Mid.normal (hK _ _ stabs_nil ?_)
            clear hK K
            iterate 8 (refine canw_sil rfl rfl (fun K hK => ?_); go_simp; refine hK _ ?_; clear hK K)
            refine canw_loud [] rfl rfl rfl (fun K hK => ?_)
            go_wp2_with (go_at_call 13; refine heq.mono ?_; clear heq; rintro e w21 ⟨rfl, HK21⟩)
            refine Mid.normal (hK _ _ stabs_nil ?_)
            clear hK K
            iterate 2 (refine canw_sil rfl rfl (fun K hK => ?_); go_simp; refine hK _ ?_; clear hK K)
            refine canw_nil ?_
            clear s0 s1 s2 s3 s4 s5 s6 s7 s8 c10
            go_wp2_with fail
            go_roundw
            case rel => exact ⟨q + 1, by simp, HLT.out, HB.out.more HK21.out⟩
            case measure => simp [intOf]; have := HLT.out; omega
        · obtain rfl : q = mv := by omega
          obtain ⟨-, hgood, hmv, hn65⟩ := HB7.out
          obtain ⟨A2, hA2⟩ := HB.out.list
          obtain ⟨S2, hS2⟩ := HB.out.log
          have hblen := lg_bytes_len hgood
          have hby : ∀ W, Keep No wr W → Calls Tryz.prog 42 #[.pointer (some ⟨B, 0, none⟩)] W fun e w' => ∃ a m c, e = .returned (.slice a m c) ∧ RowKit.Hid (Keep No W w' ∧ Rd bytesSh w' (Fr W.heap.size w'.heap.size) [.slice a m c] x.bytes) := fun W hk =>
            (logBytes_any W B S2 x (hS2.agree hk.agreeNo hk.size) hgood.few hgood.fit hgood.ep0).mono (by
              rintro e w' ⟨a, m, c, rfl, ho⟩
              exact ⟨a, m, c, rfl, ho.2, ho.rd⟩)
          have hepx : ∀ W, Keep No wr W → Calls Tryz.prog 15 #[.pointer (some ⟨B, 0, none⟩)] W fun e w' => e = .returned (.int .i64 x.epoch) ∧ W = w' := fun W hk => logEpoch_any W B S2 x (hS2.agree hk.agreeNo hk.size)
          have hwas : ∀ W, Keep No wr W → Rd (.slice entrySh) W A2 [.slice av q cv] x.l := fun W hk => (hA2.agree hk.agreeNo).rd
          have hfrl : x.from' 0 (q + 1 : Nat) = x.l := from_all x _ (by omega)
          have HE := Lib.hid (And.intro hgood (And.intro hmv (And.intro hn65 (And.intro hblen (And.intro hby (And.intro hepx (And.intro hwas hfrl)))))))
          have hb0 := hby wr (Keep.refl _ _)
          have e65 : (q : Int) ≤ 65536 := by omega
          clear hgood hmv hn65 hA2 hS2 hblen hby hepx hwas hfrl hlt hq HB7
          go_wp2_with (go_at_call 42; refine hb0.mono ?_; clear hb0; rintro e w8 ⟨a8, m8, c8, rfl, HB8⟩)
          have hld := logLoad_any w8 _ _ _ HB8.out.2 HE.out.2.2.2.1
          rw [load_bytes HE.out.1] at hld
          refine hld.mono ?_
          clear hld
          rintro e w9 ⟨LB, S9, rfl, hl9, -, hk9⟩
          have K9 : Keep No wr w9 := HB8.out.1.trans hk9
          have hfr := (logFrom_any w9 LB S9 x hl9 HE.out.1.few 0 (q + 1 : Nat) (by have := HE.out.2.2.1; omega)).mono (R' := fun e w' => ∃ a7 c7, e = .returned (.slice a7 q c7) ∧ RowKit.Hid (Keep No w9 w' ∧ Rd (.slice entrySh) w' (Fr w9.heap.size w'.heap.size) [.slice a7 q c7] x.l)) (by
            rintro e w' ⟨v, rfl, ho, hk⟩
            rw [HE.out.2.2.2.2.2.2.2] at ho
            obtain ⟨a7, c7, hv, -⟩ := Own.form ho
            rw [← HE.out.2.1] at hv
            subst hv
            exact ⟨a7, c7, rfl, hk, Own.rd ho⟩)
          have hepy : ∀ W, Keep No w9 W → Calls Tryz.prog 15 #[.pointer (some ⟨LB, 0, none⟩)] W fun e w' => e = .returned (.int .i64 x.epoch) ∧ W = w' := fun W hk => logEpoch_any W LB S9 x (hl9.agree hk.agreeNo hk.size)
          have hby2 : ∀ W, Keep No w9 W → Calls Tryz.prog 42 #[.pointer (some ⟨LB, 0, none⟩)] W fun e w' => ∃ a m c, e = .returned (.slice a m c) ∧ RowKit.Hid (Keep No W w' ∧ Rd bytesSh w' (Fr W.heap.size w'.heap.size) [.slice a m c] x.bytes) := fun W hk =>
            (logBytes_any W LB S9 x (hl9.agree hk.agreeNo hk.size) HE.out.1.few HE.out.1.fit HE.out.1.ep0).mono (by
              rintro e w' ⟨a, m, c, rfl, ho⟩
              exact ⟨a, m, c, rfl, ho.2, ho.rd⟩)
          have HY := Lib.hid (And.intro K9 (And.intro hepy hby2))
          clear K9 hepy hby2 hl9 hk9 HB8
          go_wp2_with (go_at_call 25; refine (lnum_eq _ _).mono ?_; rintro e w20 ⟨rfl, rfl⟩)
          refine hfr.mono ?_
          clear hfr
          rintro e w10 ⟨a10, c10, rfl, HF10⟩
          go_wp2_with fail
          have hent := lentries_eq w10 _ A2 a10 av c10 cv x.l (by rw [← HE.out.2.1]; exact HF10.out.2) (by rw [← HE.out.2.1]; exact HE.out.2.2.2.2.2.2.1 _ (HY.out.1.trans HF10.out.1)) (by have := HE.out.2.2.1; omega)
          rw [← HE.out.2.1] at hent
          refine hent.mono ?_
          clear hent
          rintro e w11 ⟨rfl, hk11⟩
          have H11 := Lib.hid (HF10.out.1.trans hk11)
          clear hk11 HF10
          go_wp2_with fail
          refine (HY.out.2.1 _ H11.out).mono ?_
          rintro e w20 ⟨rfl, rfl⟩
          go_wp2_with fail
          refine (HE.out.2.2.2.2.2.1 _ (HY.out.1.trans H11.out)).mono ?_
          rintro e w20 ⟨rfl, rfl⟩
          go_wp2_with fail
          refine (HY.out.2.2 _ H11.out).mono ?_
          rintro e w12 ⟨a12, m12, c12, rfl, HF12⟩
          go_wp2_with fail
          refine (HE.out.2.2.2.2.1 _ ((HY.out.1.trans H11.out).trans HF12.out.1)).mono ?_
          rintro e w13 ⟨a13, m13, c13, rfl, HF13⟩
          go_wp2_with fail
          refine (lsame_eq w13 _ _ _ _ _ _ _ _ x.bytes (HF12.out.2.agree _ HF13.out.1.agreeNo) HF13.out.2).mono ?_
          rintro e w14 ⟨rfl, hw14⟩
          subst hw14
          have K14 : RowKit.Hid (Keep No w w14) := HB.out.keep.trans (((HY.out.1.trans H11.out).trans HF12.out.1).trans HF13.out.1)
          have hraw := HH.out.2.2.1
          have hld2 := logLoad_any w14 _ (.slice a1 rn c1) raw (hraw.agree _ K14.out.agreeNo) (by have := HH.out.2.2.2.2; rw [hrn]; omega)
          clear hraw
          cases hlr : load raw with
          | mk o rest =>
            obtain ⟨er, at'⟩ := rest
            rw [hlr] at hld2
            cases o with
            | none =>
              have b1 : (er != 0) = true := by have := load_none hlr; simpa using this
              have HLR := Lib.hid hlr
              clear hlr
              go_wp2_with fail
              refine hld2.mono ?_
              clear hld2
              rintro e w15 ⟨rfl, hk15⟩
              have K15 := Lib.hid (K14.out.trans hk15)
              clear hk15
              go_wp2_with (first | (go_at_call 25; refine (lnum_eq _ _).mono ?_; rintro e w20 ⟨rfl, rfl⟩) | (go_at_call 17; refine (live_any _).mono ?_; rintro e w16 ⟨rfl, hk16⟩; have K16 := Lib.hid (K15.out.trans hk16); clear hk16))
              go_ret
              exact ⟨by simp, K16.out⟩
            | some z =>
              obtain ⟨hz1, hz2, hz3⟩ := loadL_ok (m := raw.length) (bytes_all HH.out.2.2.1) (by have := HH.out.2.2.2.2; rw [hrn]; omega) (show loadL (fun n => n) (raw.length : Nat) raw = (some z, (er, at')) from hlr)
              simp only [Prod.mk.injEq] at hz3
              obtain ⟨rfl, rfl⟩ := hz3
              have HZ := Lib.hid (And.intro hz1 hz2)
              clear hz1 hz2 hlr
              go_wp2_with fail
              refine hld2.mono ?_
              clear hld2
              rintro e w15 ⟨ZB, S15, rfl, hl15, -, hk15⟩
              have K15 := Lib.hid (K14.out.trans hk15)
              have hbz := (logBytes_any w15 ZB S15 z hl15 HZ.out.1.few HZ.out.1.fit HZ.out.1.ep0).mono (R' := fun e w' => ∃ a m c, e = .returned (.slice a m c) ∧ RowKit.Hid (Keep No w15 w' ∧ Rd bytesSh w' (Fr w15.heap.size w'.heap.size) [.slice a m c] z.bytes)) (by
                rintro e w' ⟨a, m, c, rfl, ho⟩
                exact ⟨a, m, c, rfl, ho.2, ho.rd⟩)
              clear hl15 hk15
              go_wp2_with (first | (go_at_call 25; refine (lnum_eq _ _).mono ?_; rintro e w20 ⟨rfl, rfl⟩) | (go_at_call 42; refine hbz.mono ?_; clear hbz; rintro e w16 ⟨a16, m16, c16, rfl, HF16⟩) | (go_at_call 24; refine (lsame_eq w16 _ _ _ _ _ _ _ _ z.bytes HF16.out.2 (by have := (HH.out.2.2.1).agree _ (K15.out.trans HF16.out.1).agreeNo; rw [HZ.out.2] at this; exact this)).mono ?_; rintro e w17 ⟨rfl, hw17⟩; subst hw17) | (go_at_call 17; refine (live_any _).mono ?_; rintro e w18 ⟨rfl, hk18⟩; have K18 := Lib.hid ((K15.out.trans HF16.out.1).trans hk18); clear hk18))
              go_ret
              exact ⟨by simp, K18.out⟩
end Go.Proofs.YtnknihmchmmenaaGreat
