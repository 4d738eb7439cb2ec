/-
  The document's index: Add.
-/
import Derived.Test.YtnknihmchmmenaaGreatRiC
namespace Go.Proofs.YtnknihmchmmenaaGreat
open Go Go.RowKit Go.Deep
set_option linter.unusedVariables false
set_option linter.unusedSimpArgs false

/-- an entry, given back -/
def GivesEN (W : World) (e : Ent) (en : Ending) (w' : World) : Prop := ∃ (a4 a5 a6 : Option Addr) (c4 c5 c6 : Nat),
  en = .returned (.agg #[.int .i64 e.seq, .int .i64 e.epoch, .int .i64 e.plan.client, .int .u64 e.plan.token, .string e.plan.name, .slice a4 e.plan.args.length c4, .int .i64 e.plan.how, .slice a5 e.plan.reads.length c5, .slice a6 e.plan.writes.length c6]) ∧ RowKit.Hid (Rd entrySh w' (Fr W.heap.size w'.heap.size) [.int .i64 e.seq, .int .i64 e.epoch, .int .i64 e.plan.client, .int .u64 e.plan.token, .string e.plan.name, .slice a4 e.plan.args.length c4, .int .i64 e.plan.how, .slice a5 e.plan.reads.length c5, .slice a6 e.plan.writes.length c6] e ∧ Keep No W w')
theorem ge_n {W : World} {e : Ent} {en : Ending} {w' : World} (h : GivesE W e en w') : GivesEN W e en w' := by
  obtain ⟨⟨cs⟩, rfl, hr, hk⟩ := h
  obtain ⟨ps, e1, h3, -⟩ := ent_cells hr
  obtain ⟨a1, c1, a2, c2, a3, c3, e2, -⟩ := plan_form h3
  subst e2
  simp only at e1
  subst e1
  exact ⟨a1, a2, a3, c1, c2, c3, rfl, hr, hk⟩

set_option maxRecDepth 10000 in
set_option maxHeartbeats 4000000 in
theorem rixAdd_any (w : World) (B : Nat) (S U : Nat → Prop) (l : List Ent) (h : RxAt w B S l) (hl : l.length ≤ 65536) (e : Ent) (a1 a2 a3 : Option Addr) (c1 c2 c3 : Nat)
    (he : Rd entrySh w U [.int .i64 e.seq, .int .i64 e.epoch, .int .i64 e.plan.client, .int .u64 e.plan.token, .string e.plan.name, .slice a1 e.plan.args.length c1, .int .i64 e.plan.how, .slice a2 e.plan.reads.length c2, .slice a3 e.plan.writes.length c3] e) (hf : e.plan.Fit) (hp : e.plan.Few) :
    Calls Tryz.prog 54 #[.pointer (some ⟨B, 0, none⟩), .agg #[.int .i64 e.seq, .int .i64 e.epoch, .int .i64 e.plan.client, .int .u64 e.plan.token, .string e.plan.name, .slice a1 e.plan.args.length c1, .int .i64 e.plan.how, .slice a2 e.plan.reads.length c2, .slice a3 e.plan.writes.length c3]] w (RxAdded w B S (addI l e)) := by
  have h0 := h
  obtain ⟨v, A, h1, h2, h3, h4, h5⟩ := h
  obtain ⟨av, cv, rfl, -⟩ := h2.form
  obtain ⟨ps, eps, hpl, wq, we⟩ := ent_cells he
  simp only [List.cons.injEq, true_and] at eps
  have hpl : Rd planSh w U [.int .i64 e.plan.client, .int .u64 e.plan.token, .string e.plan.name, .slice a1 e.plan.args.length c1, .int .i64 e.plan.how, .slice a2 e.plan.reads.length c2, .slice a3 e.plan.writes.length c3] e.plan := by rw [eps]; exact hpl
  have HR : RowKit.Hid (∀ W, Keep No w W → Calls Tryz.prog 28 #[.agg #[.int .i64 e.plan.client, .int .u64 e.plan.token, .string e.plan.name, .slice a1 e.plan.args.length c1, .int .i64 e.plan.how, .slice a2 e.plan.reads.length c2, .slice a3 e.plan.writes.length c3]] W fun en w' => en = .returned (.int .i64 e.plan.right) ∧ RowKit.Hid (Keep No W w')) := fun W hk => (rRight_any W U _ e.plan (hpl.agree _ hk.agreeNo) hf).mono (by rintro _ w' ⟨rfl, hk'⟩; exact ⟨rfl, hk'⟩)
  have HX : RowKit.Hid (∀ W, Keep No w W → Calls Tryz.prog 20 #[.agg #[.int .i64 e.seq, .int .i64 e.epoch, .int .i64 e.plan.client, .int .u64 e.plan.token, .string e.plan.name, .slice a1 e.plan.args.length c1, .int .i64 e.plan.how, .slice a2 e.plan.reads.length c2, .slice a3 e.plan.writes.length c3]] W (GivesEN W e)) := fun W hk => (rEntry_any W U _ e (he.agree _ hk.agreeNo) hp).mono fun _ _ h => ge_n h
  have HH := Lib.hid (And.intro h1 (And.intro h2 (And.intro h3 (And.intro h4 (And.intro h5 hl)))))
  have HERR : RowKit.Hid (∀ x W, addI l e = (x, l) → Keep No w W → RxAdded w B S (addI l e) (.returned (.int .i64 x)) W) := fun x W ha hk => by
    rw [ha]
    exact ⟨rfl, S, h0.keep hk (fun _ _ x => x), fun k hk => .inl hk, hk.mono fun _ _ x => x.elim⟩
  have HRD := Lib.hid (Own.rd h2)
  clear h0 h1 h2 h3 h4 h5 hl hpl wq we eps he hf hp
  go_enter Tryz.func54, Tryz.ntmps54
  go_upto_region 1 with fail
  have xE := blk_new w (.cells #[.int .i64 e.seq, .int .i64 e.epoch, .int .i64 e.plan.client, .int .u64 e.plan.token, .string e.plan.name, .slice a1 e.plan.args.length c1, .int .i64 e.plan.how, .slice a2 e.plan.reads.length c2, .slice a3 e.plan.writes.length c3] 40)
  have KE := (Keep.refl No w).alloc (.cells #[.int .i64 e.seq, .int .i64 e.epoch, .int .i64 e.plan.client, .int .u64 e.plan.token, .string e.plan.name, .slice a1 e.plan.args.length c1, .int .i64 e.plan.how, .slice a2 e.plan.reads.length c2, .slice a3 e.plan.writes.length c3] 40)
  generalize (w.alloc (.cells #[.int .i64 e.seq, .int .i64 e.epoch, .int .i64 e.plan.client, .int .u64 e.plan.token, .string e.plan.name, .slice a1 e.plan.args.length c1, .int .i64 e.plan.how, .slice a2 e.plan.reads.length c2, .slice a3 e.plan.writes.length c3] 40)) = w1 at *
  obtain ⟨E, hE⟩ : ∃ E, w.heap.size = E := ⟨_, rfl⟩
  rw [hE] at xE ⊢
  have cE := blk_cell xE
  have cB := blk_cell (KE.blk HH.out.1 (fun x => x))
  have HE := Lib.hid (And.intro xE (And.intro KE hE))
  clear xE KE hE
  by_cases hsq : e.seq = (l.length : Int)
  · have e1 : (e.seq != (l.length : Int)) = false := by simpa using hsq
    have HSQ := Lib.hid hsq
    clear hsq
    go_upto_region 4 with fail
    obtain ⟨bad, hbad⟩ : ∃ bad : Bool, (bad = true ↔ (e.epoch < 0 ∨ ∃ h : l ≠ [], e.epoch < (l.getLast h).epoch)) := by classical exact ⟨decide (e.epoch < 0 ∨ ∃ h : l ≠ [], e.epoch < (l.getLast h).epoch), by simp⟩
    have HB := Lib.hid hbad
    clear hbad
    go_cut [36] (fun c wx => c = .bool bad ∧ RowKit.Hid (Keep No w1 wx))
    case first =>
      by_cases hneg : e.epoch < 0
      · have d1 : decide (e.epoch < 0) = true := by simpa using hneg
        have hb : bad = true := HB.out.2 (.inl hneg)
        clear hneg
        go_quiet (fail)
        go_wp2_with fail
        go_meet
        case rel => exact ⟨by rw [hb], (Keep.refl No _).drewN _⟩
      · have d1 : decide (e.epoch < 0) = false := by simpa using hneg
        by_cases hlen : l.length = 0
        · have d2 : decide ((0 : Int) < (l.length : Int)) = false := by simp; exact List.length_eq_zero_iff.1 hlen
          have d2b : decide (0 < l.length) = false := by simp; exact List.length_eq_zero_iff.1 hlen
          have hb : bad = false := by
            rw [Bool.eq_false_iff]
            intro hh
            rcases HB.out.1 hh with h | ⟨h, -⟩
            · exact hneg h
            · exact h (List.length_eq_zero_iff.1 hlen)
          clear hneg hlen
          go_quiet (fail)
          go_wp2_with fail
          go_meet
          case rel => exact ⟨by rw [hb], (Keep.refl No _).drewN _⟩
        · obtain ⟨p, hp⟩ : ∃ p, l.length = p + 1 := ⟨l.length - 1, by omega⟩
          have hne : l ≠ [] := fun h => hlen (by rw [h]; rfl)
          obtain ⟨b0, o0, y1, z1, y2, z2, y3, z3, rfl, -, -, hrow, -⟩ := ents_get (HRD.out.agree _ HE.out.2.1.agreeNo) p (by omega)
          have hcell := (row_nine hrow).2.1
          have hy : (l[p]'(by omega)).epoch = (l.getLast hne).epoch := by
            rw [List.getLast_eq_getElem]
            congr 2
            omega
          rw [hy] at hcell
          have e2 : IntKind.i64.wrap ((l.length : Int) - 1) = (p : Int) := by rw [IntKind.wrap_i64]; have := HH.out.2.2.2.2.2; omega
          have d2 : decide ((0 : Int) < (l.length : Int)) = true := by simp; omega
          have d2b : decide (0 < l.length) = true := by simp; omega
          have i0 : (0 : Int) ≤ (p : Int) := by omega
          have i1 : (p : Int) < (l.length : Int) := by omega
          obtain ⟨y, hyy⟩ : ∃ y, (l.getLast hne).epoch = y := ⟨_, rfl⟩
          rw [hyy] at hcell
          by_cases hlt : e.epoch < y
          · have d3 : decide (e.epoch < y) = true := by simpa using hlt
            have hb : bad = true := HB.out.2 (.inr ⟨hne, by rw [hyy]; exact hlt⟩)
            clear hneg hlen hp hrow hy hyy hlt hne
            go_quiet (fail)
            go_wp2_with fail
            go_meet
            case rel => exact ⟨by rw [hb], (Keep.refl No _).drewN _⟩
          · have d3 : decide (e.epoch < y) = false := by simpa using hlt
            have hb : bad = false := by
              rw [Bool.eq_false_iff]
              intro hh
              rcases HB.out.1 hh with h | ⟨h, h'⟩
              · exact hneg h
              · rw [hyy] at h'
                exact hlt h'
            clear hneg hlen hp hrow hy hyy hlt hne
            go_quiet (fail)
            go_wp2_with fail
            go_meet
            case rel => exact ⟨by rw [hb], (Keep.refl No _).drewN _⟩
    case rest =>
      obtain ⟨rfl, HK3⟩ := hcut
      have HE3 : RowKit.Hid (wc.heap[E]? = some (.cells #[.int .i64 e.seq, .int .i64 e.epoch, .int .i64 e.plan.client, .int .u64 e.plan.token, .string e.plan.name, .slice a1 e.plan.args.length c1, .int .i64 e.plan.how, .slice a2 e.plan.reads.length c2, .slice a3 e.plan.writes.length c3] 40 (0, 0)) ∧ Keep No w wc ∧ w.heap.size = E) := ⟨HK3.out.blk HE.out.1 (fun x => x), HE.out.2.1.trans HK3.out, HE.out.2.2⟩
      clear cE cB
      cases bad with
      | true =>
        have HADD := Lib.hid (show addI l e = (120, l) from by unfold addI; rw [if_neg (fun h => h HSQ.out), if_pos (HB.out.1 rfl)])
        go_wp2_with fail
        go_ret
        exact HERR.out _ _ HADD.out HE3.out.2.1
      | false =>
        have HOK := Lib.hid (show ¬ (e.epoch < 0 ∨ ∃ h : l ≠ [], e.epoch < (l.getLast h).epoch) from fun h => by have := HB.out.2 h; cases this)
        have cE := blk_cell HE3.out.1
        have hrt := HR.out wc HE3.out.2.1
        clear HE HB HK3
        by_cases hr0 : e.plan.right = 0
        · have HR0 := Lib.hid hr0
          rw [hr0] at hrt
          clear hr0
          go_upto_region 9 with (go_at_call 28; refine hrt.mono ?_; clear hrt; rintro en w4 ⟨rfl, H4⟩)
          have xE4 := H4.out.blk HE3.out.1 (fun x => x)
          have K4 := HE3.out.2.1.trans H4.out
          have cE4 := blk_cell xE4
          have cB4 := blk_cell (K4.blk HH.out.1 (fun x => x))
          have HADD := Lib.hid (show addI l e = (0, l ++ [e]) from by unfold addI; rw [if_neg (fun h => h HSQ.out), if_neg HOK.out, if_neg (fun h => h HR0.out)])
          have hown := (HX.out w4.drew K4.drew).mono (R' := fun en w3 => ∃ (a4 a5 a6 : Option Addr) (c4 c5 c6 : Nat), en = .returned (.agg #[.int .i64 e.seq, .int .i64 e.epoch, .int .i64 e.plan.client, .int .u64 e.plan.token, .string e.plan.name, .slice a4 e.plan.args.length c4, .int .i64 e.plan.how, .slice a5 e.plan.reads.length c5, .slice a6 e.plan.writes.length c6]) ∧ w3.heap[B]? = some (.cells #[.slice av l.length cv] 106 (0, 0)) ∧
              RowKit.Hid (Rd entrySh w3 (Fr w4.heap.size w3.heap.size) [.int .i64 e.seq, .int .i64 e.epoch, .int .i64 e.plan.client, .int .u64 e.plan.token, .string e.plan.name, .slice a4 e.plan.args.length c4, .int .i64 e.plan.how, .slice a5 e.plan.reads.length c5, .slice a6 e.plan.writes.length c6] e ∧ Keep No w w3)) (by
            rintro en w3 ⟨a4, a5, a6, c4, c5, c6, rfl, HD⟩
            exact ⟨a4, a5, a6, c4, c5, c6, rfl, (K4.drew.trans HD.out.2).blk HH.out.1 (fun x => x), HD.out.1, K4.drew.trans HD.out.2⟩)
          have HS4 : RowKit.Hid (w.heap.size ≤ w4.heap.size) := K4.size
          clear xE4 K4 HE3 H4 HR0 HOK HSQ HX HR HERR HRD
          refine wp_region_canw [0, 1, 2, 3, 4, 5, 6, 7, 8, 9, 10, 11] [6, 7, 8, 11] [(0, 6), (1, 6), (2, 6), (3, 6), (4, 6), (0, 7), (1, 7), (2, 7), (3, 7), (4, 7), (0, 8)] (by kernel_rfl) (by kernel_rfl) (by kernel_rfl) (by kernel_rfl) (by intro c a d v w h; cases d <;> exact h) ?_
          iterate 6 (refine canw_sil rfl rfl (fun K hK => ?_); go_simp; refine hK _ ?_; clear hK K)
          refine canw_loud [0, 1, 2, 3, 4] rfl rfl rfl (fun K hK => ?_)
          go_wp2_with (go_at_call 20; refine hown.mono ?_; clear hown cB4 cE4; rintro en w3 ⟨a4, a5, a6, c4, c5, c6, rfl, z1, HD⟩)
          have cB3 := blk_cell z1
          have cB3a : ∀ o j, (w3.alloc o).cell? ⟨B, j, none⟩ = #[Value.slice av l.length cv][j]? := fun o => blk_cell (blk_alloc z1)
          go_wp2_with fail
          refine Mid.normal (hK _ _ ?_ ?_)
          · simp only [List.forall_mem_cons]
            refine ⟨?_, ?_, ?_, ?_, ?_, stabs_nil⟩ <;> exact stab_of rfl (fun K hK => by go_simp; exact hK)
          clear hK K
          refine canw_loud [0, 1, 2, 3, 4] rfl rfl rfl (fun K hK => ?_)
          go_wp2_with fail
          refine Mid.normal (hK _ _ ?_ ?_)
          · simp only [List.forall_mem_cons]
            refine ⟨?_, ?_, ?_, ?_, ?_, stabs_nil⟩ <;> exact stab_of rfl (fun K hK => by go_simp; exact hK)
          clear hK K
          obtain ⟨i0, hi, hz0, hz1, hz2⟩ := info_parts Tryz.infoEnt
          obtain ⟨g1, g2, g3, g4, g5, g6⟩ := HH.out
          obtain ⟨hrd, m1⟩ := HD.out
          have n2 := (g2.agree m1.agreeNo).agree ((Keep.refl No w3).alloc (.cells #[.int .i64 e.seq, .int .i64 e.epoch, .int .i64 e.plan.client, .int .u64 e.plan.token, .string e.plan.name, .slice a4 e.plan.args.length c4, .int .i64 e.plan.how, .slice a5 e.plan.reads.length c5, .slice a6 e.plan.writes.length c6] 40)).agreeNo
          obtain ⟨a7, d7, w5, hrun, ho, m2, hs2⟩ := Own.append (s := entrySh) (S := A) (T := Fr w4.heap.size w3.heap.size) n2 41 41 i0 _ 128 Tryz.underlying41 hi hz0 hz1 hz2 rfl (blk_new w3 _) (hrd.agree _ ((Keep.refl No w3).alloc _).agreeNo) (fun j hj hf => by have := g5 j (g4 j hj).1; have := hf.1; have := HS4.out; omega) (by omega) (by omega) 1
          refine canw_loud [0] rfl rfl rfl (fun K hK => ?_)
          refine wpList_app rfl (.tmp 47) (.tmp 50) 41 41 rfl rfl rfl hrun ?_
          have z4 := m2.blk (blk_alloc z1) (fun h => (g4 B h).2 rfl)
          have c5' := blk_cell z4
          have f5 := blk_fro z4
          have HF : RowKit.Hid (RxAdded w B S (0, l ++ [e]) (.returned (.int .i64 0)) (w5.setCell ⟨B, 0, none⟩ (.slice a7 (l.length + 1) d7))) := by
            have z5 := blk_set z4 0 (.slice a7 (l.length + 1) d7)
            have hs1 := m1.size
            have hs2' := m2.size
            have hsB := (keep_set w5 B 0 (.slice a7 (l.length + 1) d7)).size
            have hs4 := HS4.out
            have hBl := g5 B g3
            simp only [World.size_alloc] at hs2' ho
            have kA : Keep S w w5 := (((m1.alloc (.cells #[.int .i64 e.seq, .int .i64 e.epoch, .int .i64 e.plan.client, .int .u64 e.plan.token, .string e.plan.name, .slice a4 e.plan.args.length c4, .int .i64 e.plan.how, .slice a5 e.plan.reads.length c5, .slice a6 e.plan.writes.length c6] 40)).mono fun _ _ h => h.elim).trans m2).mono fun k _ hk => (g4 k hk).1
            refine ⟨rfl, fun k => S k ∨ (w.heap.size ≤ k ∧ k < (w5.setCell ⟨B, 0, none⟩ (.slice a7 (l.length + 1) d7)).heap.size), ⟨_, fun k => (A k ∨ w.heap.size ≤ k) ∧ k < w5.heap.size, by simpa using z5, ?_, .inl g3, fun k hk => ⟨hk.1.elim (fun h => .inl (g4 k h).1) (fun h => .inr ⟨h, by omega⟩), fun hkB => ?_⟩, fun k hk => hk.elim (fun h => by have := g5 k h; omega) (fun h => h.2)⟩, fun k hk => hk.imp id (fun h => h.1), ?_⟩
            · have := (ho.live.mono (S' := fun k => (A k ∨ w.heap.size ≤ k) ∧ k < w5.heap.size) fun j hj => ⟨hj.1.imp id fun h => h.elim (fun h => by have := h.1; omega) (fun h => by omega), hj.2⟩)
              refine this.agree ((keep_set w5 B 0 _).agree fun i _ hi hiB => ?_)
              obtain rfl : i = B := hiB
              exact hi.1.elim (fun h => (g4 _ h).2 rfl) (fun h => by omega)
            · subst hkB
              exact hk.1.elim (fun h => (g4 _ h).2 rfl) (fun h => by omega)
            · refine kA.then (keep_set _ _ _ _) fun i _ hiB => ?_
              obtain rfl : i = B := hiB
              exact g3
          clear m2 z4 hs2 ho n2 m1 hrd g1 g2 g3 g4 g5 g6 HH HD z1
          go_wp2_with fail
          refine Mid.normal (hK _ _ ?_ ?_)
          · simp only [List.forall_mem_cons]
            refine ⟨?_, stabs_nil⟩ <;> exact stab_of rfl (fun K hK => by go_simp; exact hK)
          clear hK K
          iterate 2 (refine canw_sil rfl rfl (fun K hK => ?_); go_simp; refine hK _ ?_; clear hK K)
          refine canw_loud [] rfl rfl rfl (fun K hK => ?_)
          go_wp2_with fail
          refine Mid.normal (hK _ _ stabs_nil ?_)
          clear hK K
          refine canw_nil ?_
          clear c5' f5 cB3 cB3a hrun
          go_wp2_with fail
          go_ret
          rw [HADD.out]
          exact HF.out
        · have e3 : (e.plan.right != 0) = true := by simpa using hr0
          have HADD := Lib.hid (show addI l e = (e.plan.right, l) from by unfold addI; rw [if_neg (fun h => h HSQ.out), if_neg HOK.out, if_pos hr0])
          clear hr0
          go_wp2_with (go_at_call 28; refine hrt.mono ?_; clear hrt; rintro en w4 ⟨rfl, H4⟩)
          go_ret
          exact HERR.out _ _ HADD.out (HE3.out.2.1.trans H4.out)
  · have e1 : (e.seq != (l.length : Int)) = true := by simpa using hsq
    have HADD := Lib.hid (show addI l e = (122, l) from by unfold addI; rw [if_pos hsq])
    clear hsq
    go_wp2_with fail
    go_ret
    exact HERR.out _ _ HADD.out HE.out.2.1
end Go.Proofs.YtnknihmchmmenaaGreat
