/-
  The document's log: its bytes.
-/
import Derived.Test.YtnknihmchmmenaaGreatRnM
import Derived.Test.YtnknihmchmmenaaGreatHF
import Derived.Test.YtnknihmchmmenaaGreatHE
namespace Go.Proofs.YtnknihmchmmenaaGreat
open Go Go.RowKit Go.Deep
set_option linter.unusedVariables false
set_option linter.unusedSimpArgs false

set_option maxRecDepth 10000 in
set_option maxHeartbeats 4000000 in
theorem rBytes_any (w : World) (B : Nat) (S : Nat → Prop) (x : Lg) (h : LogAt 43 w B S x) (hf : x.Few) (hfit : ∀ e ∈ x.l, e.plan.Fit ∧ e.err = 0) (he : 0 ≤ x.epoch) : Calls Tryz.prog 94 #[.pointer (some ⟨B, 0, none⟩)] w (Puts w x.bytes) := by
  obtain ⟨ov, SO, h1, h2, h3, h4, h5, h6⟩ := h
  obtain ⟨a1, d1, rfl, _⟩ := h2.form
  have hB := blk_lt h1
  have f1 : x.epoch ≤ 9223372036854775807 := by have := h5; simp [Lit.wf, IntKind.min, IntKind.max, IntKind.signed, IntKind.bits] at this; omega
  have hl65 := hf.l
  have hlu := (uintB_length x.epoch.toNat).2
  have hll := (uintB_length x.l.length).2
  have c0 := blk_cell h1
  have hp1 := (rPutUint_any w.drew No (.slice none 0 0) [] ⟨none, 0, rfl, by simp, by simp, fun _ => ⟨rfl, rfl⟩, fun i hi => absurd hi (by simp)⟩ x.epoch he (by omega) (by simp)).mono (R' := fun e w' => ∃ a m c, e = .returned (.slice a m c) ∧ w'.heap[B]? = some (.cells #[.slice a1 x.l.length d1, .int .i64 x.epoch] 43 (0, 0)) ∧ RowKit.Hid (OwnB w.drew w' (.slice a m c) (uintB x.epoch.toNat))) (by
    rintro e w' ⟨a, c, rfl, ho⟩
    exact ⟨a, _, c, rfl, ((Keep.refl No w).drew.trans ho.2).blk h1 (fun x => x), ho⟩)
  have hp2 : ∀ W a m c, OwnB w.drew W (.slice a m c) (uintB x.epoch.toNat) → Calls Tryz.prog 71 #[.slice a m c, .int .u64 x.l.length] W (fun e w' => ∃ a m c, e = .returned (.slice a m c) ∧ RowKit.Hid (OwnB w w' (.slice a m c) x.head)) := fun W a m c ho =>
    (rPutUint_any W _ _ _ ho.rd (x.l.length : Int) (by omega) (by omega) (by omega)).mono (by
      rintro e w' ⟨a, c, rfl, ho'⟩
      rw [Int.toNat_natCast] at ho'
      exact ⟨a, _, c, rfl, (ho'.back ho.2).back (Keep.refl No w).drew⟩)
  have hwr : IntKind.u64.wrap x.epoch = x.epoch := by rw [IntKind.wrap_u64]; omega
  have hwl : IntKind.u64.wrap (x.l.length : Int) = (x.l.length : Int) := by rw [IntKind.wrap_u64]; omega
  have hhd : x.head.length ≤ 20 := by unfold Lg.head; rw [List.length_append]; omega
  have HH := Lib.hid (And.intro h1 (And.intro h2 (And.intro hf (And.intro hfit (And.intro hl65 (And.intro hhd hp2))))))
  clear h1 h2 h3 h4 h5 h6 hf hfit hlu hll hp2 hhd he
  go_enter Tryz.func94, Tryz.ntmps94
  go_wp2_with fail
  refine wp_region_can [0, 1, 2, 3, 4, 6, 7, 8, 9, 10, 11, 5, 12, 13] [5, 12] [(6, 5), (7, 5), (8, 5), (9, 5), (10, 5), (11, 5)] (by kernel_rfl) (by kernel_rfl) (by kernel_rfl) (by kernel_rfl) (by intro c a d v w h; cases d <;> exact h) ?_
  iterate 11 (refine can_sil rfl rfl (fun K hK => ?_); go_simp; refine hK _ ?_; clear hK K)
  try rw [hwr]
  try rw [hwl]
  refine can_loud [6, 7, 8, 9, 10, 11] rfl rfl rfl (fun K hK => ?_)
  go_wp2_with (go_at_call 71; refine hp1.mono ?_; clear hp1; rintro e w5 ⟨a5, m5, c5, rfl, y5, HO5⟩)
  have e5 := blk_cell y5
  refine Mid.normal (hK _ _ ?_ ?_)
  · simp only [List.forall_mem_cons]
    refine ⟨?_, ?_, ?_, ?_, ?_, ?_, stabs_nil⟩ <;> exact stab_of rfl (fun K hK => by go_simp; exact hK)
  clear hK K
  refine can_loud [] rfl rfl rfl (fun K hK => ?_)
  go_wp2_with (go_at_call 71; refine (HH.out.2.2.2.2.2.2 _ _ _ _ HO5.out).mono ?_; rintro e w6 ⟨a6, m6, c6, rfl, HO6⟩)
  refine Mid.normal (hK _ _ stabs_nil ?_)
  clear hK K
  refine can_sil rfl rfl (fun K hK => ?_); go_simp; refine hK _ ?_; clear hK K
  refine can_nil ?_
  clear e5 y5 HO5 hwr hwl c0 f1
  go_wp2_with fail
  go_loopw [3, 4] (fun v i wr => ∃ (k : Nat) (a : Option Addr) (m c : Nat), i = .int .i64 k ∧ v = .slice a m c ∧ k ≤ x.l.length ∧ RowKit.Hid (OwnB w wr (.slice a m c) (x.head ++ (x.l.take k).flatMap Ent.framed))) (fun _ i _ => x.l.length - (intOf i).toNat)
  case atStart => exact ⟨0, a6, m6, c6, rfl, rfl, Nat.zero_le _, Lib.hid (by have h := HO6.out; simpa using h)⟩
  case round =>
    clear HO6
    obtain ⟨k, a, m, c, rfl, rfl, hk, HR⟩ := hrel
    obtain ⟨h1, h2, hf, hfit, -, hhd, -⟩ := HH.out
    have b1 := HR.out.2.blk h1 (fun x => x)
    have c1' := blk_cell b1
    by_cases hlt : k < x.l.length
    · obtain ⟨b, off, x1, y1, x2, y2, x3, y3, rfl, hb, -, hr, hx⟩ := ents_get (h2.agree HR.out.2.agreeNo).rd k hlt
      obtain ⟨r0, r1, r2, r3, r4, r5, r6, r7, r8⟩ := row_nine hr
      obtain ⟨ft1, ft2⟩ := hfit _ (List.getElem_mem hlt)
      have j0 : (0 : Int) ≤ k := by omega
      have j1 : (k : Int) < x.l.length := by omega
      have j3 : (k : Int) ≤ 9223372036854775806 := by omega
      have hel := Ent.bytes_length ft2
      have hput := (rputEnt_any wr _ No (.slice none 0 0) [] ⟨none, 0, rfl, by simp, by simp, fun _ => ⟨rfl, rfl⟩, fun i hi => absurd hi (by simp)⟩ (by simp) _ x.l[k] hx ft1).mono (R' := fun e w' => ∃ a m c, e = .returned (.tuple #[.slice a m c, .int .i64 0]) ∧ (convert 53 9 (.slice a m c)).run Tryz.prog w' = .ok (.string (textOf x.l[k].bytes)) w' ∧ RowKit.Hid (textB (textOf x.l[k].bytes) = x.l[k].framed ∧ Keep No wr w')) (by
        rintro e w' ⟨a, m, c, rfl, ho⟩
        rw [if_pos ft2, List.nil_append] at ho
        rw [ft2]
        refine ⟨a, m, c, rfl, run_string_back _ _ 5 _ _ _ Tryz.underlying53 Tryz.underlying5 Tryz.underlying9 ho.rd, ?_, ho.2⟩
        unfold textB Ent.framed
        rw [textOf_size, bytesOf_textOf (bytes_all ho.rd)])
      have hpt : ∀ W, Calls Tryz.prog 70 #[.slice none 0 0, .string (textOf x.l[k].bytes)] W fun e w' => ∃ a m c, e = .returned (.slice a m c) ∧ RowKit.Hid (OwnB W w' (.slice a m c) (textB (textOf x.l[k].bytes))) := fun W =>
        (rPutText_any W No (.slice none 0 0) [] ⟨none, 0, rfl, by simp, by simp, fun _ => ⟨rfl, rfl⟩, fun i hi => absurd hi (by simp)⟩ (textOf x.l[k].bytes) (by rw [textOf_size]; simp; omega)).mono (by
          rintro e w' ⟨a, c, rfl, ho⟩
          exact ⟨a, _, c, rfl, Lib.hid (by simpa using ho)⟩)
      have htk : (x.l.take (k + 1)).flatMap Ent.framed = (x.l.take k).flatMap Ent.framed ++ x.l[k].framed := by
        rw [List.take_succ_eq_append_getElem hlt, List.flatMap_append]; simp
      have hfr := framed_all (x.l.take k) fun e he => (hfit e (List.mem_of_mem_take he)).2
      have hfk := framed_len ft2
      rw [List.length_take] at hfr
      have hbnd : (x.head ++ (x.l.take k).flatMap Ent.framed).length + x.l[k].framed.length ≤ 140737488355328 := by
        rw [List.length_append]; omega
      have HX := Lib.hid (And.intro hlt (And.intro htk hbnd))
      clear hr hx hb h1 h2 hf hfit b1 hk hhd hel ft1 ft2 htk hfr hfk hbnd
      generalize x.l[k] = xk at *
      generalize xk.seq = v1 at *
      generalize xk.epoch = v2 at *
      generalize xk.plan.client = v3 at *
      generalize xk.plan.token = v4 at *
      generalize xk.plan.name = v5 at *
      generalize xk.plan.how = v6 at *
      generalize xk.plan.args.length = m1 at *
      generalize xk.plan.reads.length = m2 at *
      generalize xk.plan.writes.length = m3 at *
      clear hlt
      go_wp2_with (go_at_call 21; refine hput.mono ?_; clear hput; rintro e w7 ⟨a7, m7, c7, rfl, hconv, H7⟩)
      refine (hpt w7).mono ?_
      clear hpt
      rintro e w8 ⟨a8, m8, c8, rfl, H8⟩
      obtain ⟨a9, m9, c9, w9, hrun, ho9, hk9⟩ := app_sliceA ((HR.out.more (H7.out.2.trans H8.out.2)).1) H8.out.rd (by rw [H7.out.1]; exact HX.out.2.2)
      have H9 := Lib.hid (And.intro ho9 hk9)
      clear ho9 hk9
      go_wp2_with (at_builtin; refine wpList_app rfl (.tmp 40) (.tmp 43) 53 53 rfl rfl rfl hrun ?_)
      go_roundw
      case rel =>
        obtain ⟨o1, o2⟩ := H9.out
        have hm := HR.out.more (H7.out.2.trans H8.out.2)
        refine ⟨k + 1, a9, m9, c9, by simp, rfl, HX.out.1, ⟨?_, hm.2.then o2 fun i hi hh => by have := hh.1; omega⟩⟩
        rw [HX.out.2.1, ← H7.out.1, ← List.append_assoc]
        refine Own.mono o1 fun i hi => ⟨?_, hi.2⟩
        rcases hi.1 with h | h
        · exact h.1
        · have := hm.2.size; omega
      case measure => simp [intOf]; have := HX.out.1; omega
    · obtain rfl : k = x.l.length := by omega
      clear hlt hk h1 h2 hf hfit b1 hhd
      go_wp2_with fail
      go_ret
      have hfin := HR.out
      rw [List.take_length] at hfin
      exact ⟨a, m, c, rfl, hfin⟩
end Go.Proofs.YtnknihmchmmenaaGreat
