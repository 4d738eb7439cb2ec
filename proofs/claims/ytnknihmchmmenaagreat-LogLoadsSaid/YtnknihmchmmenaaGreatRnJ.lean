/-
  The document's log: From.
-/
import Derived.Test.YtnknihmchmmenaaGreatRnI
import Derived.Test.YtnknihmchmmenaaGreatHB
namespace Go.Proofs.YtnknihmchmmenaaGreat
open Go Go.RowKit Go.Deep
set_option linter.unusedVariables false
set_option linter.unusedSimpArgs false

/-- the entries from a number on, so many -/
def Lg.rfrom (x : Lg) (s m : Int) : List Ent := (x.l.filter fun e => decide (s ≤ e.seq)).take m.toNat
/-- behind j entries, k of them taken -/
structure RFromAt (w : World) (l : List Ent) (s : Int) (j k : Nat) (v : Value) (wr : World) : Prop where
  keep : Keep No w wr
  own : OwnE w.heap.size wr v ((l.take j).filter fun e => decide (s ≤ e.seq))
  len : ((l.take j).filter fun e => decide (s ≤ e.seq)).length = k

set_option maxRecDepth 10000 in
set_option maxHeartbeats 2000000 in
theorem rFrom_any (w : World) (B : Nat) (S : Nat → Prop) (x : Lg) (h : LogAt 43 w B S x) (hf : x.Few) (s m : Int) :
    Calls Tryz.prog 37 #[.pointer (some ⟨B, 0, none⟩), .int .i64 s, .int .i64 m] w (GivesL w (x.rfrom s m)) := by
  obtain ⟨ov, SO, h1, h2, -⟩ := h
  obtain ⟨a1, d1, rfl, _⟩ := h2.form
  have HH := Lib.hid (And.intro h1 (And.intro h2 hf))
  clear h1 h2 hf
  go_enter Tryz.func37, Tryz.ntmps37
  go_wp2_with fail
  go_loopw [7, 8] (fun v i wr => ∃ (j k : Nat) (a : Option Addr) (c : Nat), i = .int .i64 j ∧ v = .slice a k c ∧ j ≤ x.l.length ∧ k ≤ m.toNat ∧ RowKit.Hid (RFromAt w x.l s j k (.slice a k c) wr)) (fun _ i _ => x.l.length - (intOf i).toNat)
  case atStart => exact ⟨0, 0, none, 0, rfl, rfl, Nat.zero_le _, Nat.zero_le _, ⟨Keep.refl _ _, Own.nil _ _ _ _, rfl⟩⟩
  case round =>
    obtain ⟨j, k, a, c, rfl, rfl, hj, hkm, HF⟩ := hrel
    obtain ⟨h1, h2, hf⟩ := HH.out
    have hl65 := hf.l
    have b1 := HF.out.keep.blk h1 (fun x => x)
    have c1 := blk_cell b1
    by_cases hlt : j < x.l.length
    · by_cases hm : (k : Int) < m
      · have d2 : decide ((k : Int) < m) = true := by simpa using hm
        obtain ⟨b, off, x1, y1, x2, y2, x3, y3, rfl, hb, -, hr, hx⟩ := ents_get (h2.agree HF.out.keep.agreeNo).rd j hlt
        obtain ⟨r0, r1, r2, r3, r4, r5, r6, r7, r8⟩ := row_nine hr
        have j0 : (0 : Int) ≤ j := by omega
        have j1 : (j : Int) < x.l.length := by omega
        have j3 : (j : Int) ≤ 9223372036854775806 := by omega
        have hent := (rEntry_any wr SO _ _ hx (hf.e _ (List.getElem_mem hlt))).mono (R' := fun e w6 => ∃ u1 v1 u2 v2 u3 v3, e = .returned (.agg #[.int .i64 x.l[j].seq, .int .i64 x.l[j].epoch, .int .i64 x.l[j].plan.client, .int .u64 x.l[j].plan.token, .string x.l[j].plan.name, .slice u1 x.l[j].plan.args.length v1, .int .i64 x.l[j].plan.how, .slice u2 x.l[j].plan.reads.length v2, .slice u3 x.l[j].plan.writes.length v3]) ∧
            RowKit.Hid (Keep No wr w6 ∧ Rd entrySh w6 (Fr wr.heap.size w6.heap.size) [.int .i64 x.l[j].seq, .int .i64 x.l[j].epoch, .int .i64 x.l[j].plan.client, .int .u64 x.l[j].plan.token, .string x.l[j].plan.name, .slice u1 x.l[j].plan.args.length v1, .int .i64 x.l[j].plan.how, .slice u2 x.l[j].plan.reads.length v2, .slice u3 x.l[j].plan.writes.length v3] x.l[j])) (by
          rintro e w6 ⟨⟨cs⟩, rfl, hr, hk⟩
          obtain ⟨ps, e1, h3, w1, w2⟩ := ent_cells hr
          obtain ⟨b1, d1, b2, d2, b3, d3, e3, -⟩ := plan_form h3
          subst e3
          subst e1
          exact ⟨b1, d1, b2, d2, b3, d3, rfl, hk, hr⟩)
        have htk : x.l.take (j + 1) = x.l.take j ++ [x.l[j]] := List.take_succ_eq_append_getElem hlt
        have hyes : s ≤ x.l[j].seq → ((x.l.take (j + 1)).filter fun e => decide (s ≤ e.seq)) = ((x.l.take j).filter fun e => decide (s ≤ e.seq)) ++ [x.l[j]] := fun h => by
          rw [htk, List.filter_append]; simp [h]
        have hno : ¬ s ≤ x.l[j].seq → ((x.l.take (j + 1)).filter fun e => decide (s ≤ e.seq)) = ((x.l.take j).filter fun e => decide (s ≤ e.seq)) := fun h => by
          rw [htk, List.filter_append]; simp [h]
        have hkl : k ≤ j := by
          have h3 := HF.out.len
          have h4 := List.length_filter_le (fun e : Ent => decide (s ≤ e.seq)) (x.l.take j)
          rw [List.length_take] at h4
          omega
        have hm1 : k + 1 ≤ m.toNat := by omega
        have HX := Lib.hid (And.intro hlt (And.intro hyes (And.intro hno (And.intro hm1 (And.intro hl65 hkl)))))
        clear htk hyes hno hx hr hb h1 h2 hf b1 hm hkm hj hl65 hkl hm1
        generalize x.l[j] = xj at *
        generalize xj.seq = v0 at *
        generalize xj.epoch = v1 at *
        generalize xj.plan.client = v2 at *
        generalize xj.plan.token = v3 at *
        generalize xj.plan.name = v4 at *
        generalize xj.plan.how = v5 at *
        generalize xj.plan.args.length = m1 at *
        generalize xj.plan.reads.length = m2 at *
        generalize xj.plan.writes.length = m3 at *
        clear hlt
        by_cases hs : s ≤ v0
        · have HS := Lib.hid (HX.out.2.1 hs)
          go_wp2_with (first | (go_at_call 20; refine hent.mono ?_; clear hent; rintro e w6 ⟨u1, t1, u2, t2, u3, t3, rfl, HT⟩; obtain ⟨a', c', w7, hrun, hown7, hk7⟩ := own_ent (Own.agree HF.out.own HT.out.1.agreeNo) HT.out.2 HF.out.keep.size HT.out.1.size (by have h1 := HX.out; have h2 := HF.out.len; omega); rw [HF.out.len] at hrun hown7; obtain ⟨k1, hk1⟩ : ∃ k1, k + 1 = k1 := ⟨_, rfl⟩; rw [hk1] at hrun hown7; have HO := Lib.hid (And.intro hown7 (And.intro hk7 hk1)); clear hown7 hk7 hk1) | (at_builtin; refine wpList_app rfl (.tmp 34) (.tmp 43) 41 41 rfl rfl rfl hrun ?_; clear hrun))
          go_roundw
          case rel =>
            obtain ⟨o1, o2, rfl⟩ := HO.out
            refine ⟨j + 1, k + 1, a', c', by simp, rfl, HX.out.1, HX.out.2.2.2.1, ⟨?_, ?_, ?_⟩⟩
            · exact (HF.out.keep.thenNo HT.out.1).then o2 fun i hi h => by have := h.1; omega
            · rw [HS.out]; exact o1
            · rw [HS.out, List.length_append, HF.out.len]; rfl
          case measure => simp [intOf]; have := HX.out.1; omega
        · have HS := Lib.hid (HX.out.2.2.1 hs)
          clear hent
          go_wp2_with fail
          go_roundw
          case rel => exact ⟨j + 1, k, a, c, by simp, rfl, HX.out.1, by have := HX.out.2.2.2.1; omega, ⟨HF.out.keep, by rw [HS.out]; exact HF.out.own, by rw [HS.out]; exact HF.out.len⟩⟩
          case measure => simp [intOf]; have := HX.out.1; omega
      · have d2 : decide ((k : Int) < m) = false := by simpa using hm
        have hkm' : k = m.toNat := by omega
        have hres : x.rfrom s m = (x.l.take j).filter fun e => decide (s ≤ e.seq) := by
          unfold Lg.rfrom
          rw [← hkm', ← HF.out.len]
          have e1 : (x.l.filter fun e => decide (s ≤ e.seq)) = ((x.l.take j).filter fun e => decide (s ≤ e.seq)) ++ ((x.l.drop j).filter fun e => decide (s ≤ e.seq)) := by
            rw [← List.filter_append, List.take_append_drop]
          rw [e1, List.take_left]
        have HX := Lib.hid hres
        clear hres hkm' hm hkm hj hf h1 h2 hl65 b1
        go_wp2_with fail
        go_ret
        rw [HX.out]
        exact ⟨_, rfl, HF.out.own, HF.out.keep⟩
    · obtain rfl : j = x.l.length := by omega
      have hres : x.rfrom s m = (x.l.take x.l.length).filter fun e => decide (s ≤ e.seq) := by
        have h3 := HF.out.len
        unfold Lg.rfrom
        rw [List.take_length] at h3 ⊢
        exact List.take_of_length_le (by omega)
      have HX := Lib.hid hres
      clear hres hkm hj hf h1 h2 hl65 b1 hlt
      go_wp2_with fail
      go_ret
      rw [HX.out]
      exact ⟨_, rfl, HF.out.own, HF.out.keep⟩
end Go.Proofs.YtnknihmchmmenaaGreat
