/-
  The document's log: At.
-/
import Derived.Test.YtnknihmchmmenaaGreatHH
namespace Go.Proofs.YtnknihmchmmenaaGreat
open Go Go.RowKit Go.Deep
set_option linter.unusedVariables false
set_option linter.unusedSimpArgs false

set_option maxRecDepth 10000 in
theorem rAt_out (w : World) (B : Nat) (S : Nat → Prop) (x : Lg) (h : LogAt 43 w B S x) (s : Int) (hs : s < 0 ∨ (x.l.length : Int) ≤ s) : Calls Tryz.prog 95 #[.pointer (some ⟨B, 0, none⟩), .int .i64 s] w (GivesEB w (ent0, false)) := by
  obtain ⟨ov, SO, h1, h2, -⟩ := h
  obtain ⟨a, d1, rfl, _⟩ := h2.form
  have y1 := blk_new w (.cells #[.int .i64 0, .int .i64 0, .int .i64 0, .int .u64 0, .string ⟨#[]⟩, .slice none 0 0, .int .i64 0, .slice none 0 0, .slice none 0 0] 40)
  have c0 := blk_cell (blk_alloc (o' := .cells #[.int .i64 0, .int .i64 0, .int .i64 0, .int .u64 0, .string ⟨#[]⟩, .slice none 0 0, .int .i64 0, .slice none 0 0, .slice none 0 0] 40) h1)
  have c2 := blk_cell y1
  have f2 := blk_fro y1
  have K1 : Keep No w (w.alloc (.cells #[.int .i64 0, .int .i64 0, .int .i64 0, .int .u64 0, .string ⟨#[]⟩, .slice none 0 0, .int .i64 0, .slice none 0 0, .slice none 0 0] 40)) := (Keep.refl No w).alloc _
  have HK := Lib.hid K1
  clear K1 h2
  by_cases h0 : s < 0
  · have d : decide (s < 0) = true := by simpa using h0
    clear h0 hs
    go_enter Tryz.func95, Tryz.ntmps95
    go_wp2_with fail
    refine bodyPost_ret (v := .tuple #[.agg #[.int .i64 0, .int .i64 0, .int .i64 0, .int .u64 0, .string ⟨#[]⟩, .slice none 0 0, .int .i64 0, .slice none 0 0, .slice none 0 0], .bool false]) (by simp [results, Tryz.results95, go_sem, c2]) rfl ⟨_, rfl, rd_ent0 _ _, HK.out⟩
  · have d : decide (s < 0) = false := by simpa using h0
    have d2 : decide ((x.l.length : Int) ≤ s) = true := by simpa using hs.resolve_left h0
    clear h0 hs
    go_enter Tryz.func95, Tryz.ntmps95
    go_wp2_with fail
    refine bodyPost_ret (v := .tuple #[.agg #[.int .i64 0, .int .i64 0, .int .i64 0, .int .u64 0, .string ⟨#[]⟩, .slice none 0 0, .int .i64 0, .slice none 0 0, .slice none 0 0], .bool false]) (by simp [results, Tryz.results95, go_sem, c2]) rfl ⟨_, rfl, rd_ent0 _ _, HK.out⟩

set_option maxRecDepth 10000 in
theorem rAt_in (w : World) (B : Nat) (S : Nat → Prop) (x : Lg) (h : LogAt 43 w B S x) (hf : x.Few) (i : Nat) (hi : i < x.l.length) : Calls Tryz.prog 95 #[.pointer (some ⟨B, 0, none⟩), .int .i64 i] w (GivesEB w (x.l[i], true)) := by
  obtain ⟨ov, SO, h1, h2, -⟩ := h
  obtain ⟨a, d1, rfl, _⟩ := h2.form
  obtain ⟨b, off, a1, c1, a2, c2, a3, c3, rfl, hb, -, hrow, hx⟩ := ents_get h2.rd i hi
  have K1 : Keep No w (w.alloc (.cells #[.int .i64 0, .int .i64 0, .int .i64 0, .int .u64 0, .string ⟨#[]⟩, .slice none 0 0, .int .i64 0, .slice none 0 0, .slice none 0 0] 40)) := (Keep.refl No w).alloc _
  have ht := (rEntry_any _ SO _ x.l[i] (hx.agree _ K1.agreeNo) (hf.e _ (List.getElem_mem hi))).mono (R' := fun e w5 => ∃ b1 d1 b2 d2 b3 d3, e = .returned (.agg #[.int .i64 x.l[i].seq, .int .i64 x.l[i].epoch, .int .i64 x.l[i].plan.client, .int .u64 x.l[i].plan.token, .string x.l[i].plan.name, .slice b1 x.l[i].plan.args.length d1, .int .i64 x.l[i].plan.how, .slice b2 x.l[i].plan.reads.length d2, .slice b3 x.l[i].plan.writes.length d3]) ∧
      w5.heap[w.heap.size]? = some (.cells #[.int .i64 0, .int .i64 0, .int .i64 0, .int .u64 0, .string ⟨#[]⟩, .slice none 0 0, .int .i64 0, .slice none 0 0, .slice none 0 0] 40 (0, 0)) ∧
      RowKit.Hid (Keep No w w5 ∧ Rd entrySh w5 (Fr (w.heap.size + 1) w5.heap.size) [.int .i64 x.l[i].seq, .int .i64 x.l[i].epoch, .int .i64 x.l[i].plan.client, .int .u64 x.l[i].plan.token, .string x.l[i].plan.name, .slice b1 x.l[i].plan.args.length d1, .int .i64 x.l[i].plan.how, .slice b2 x.l[i].plan.reads.length d2, .slice b3 x.l[i].plan.writes.length d3] x.l[i])) (by
    rintro e w5 ⟨⟨cs⟩, rfl, hr, hk⟩
    simp only [World.size_alloc] at hr
    obtain ⟨ps, e1, h3, w1, w2⟩ := ent_cells hr
    obtain ⟨b1, d1, b2, d2, b3, d3, e3, -⟩ := plan_form h3
    subst e3
    subst e1
    exact ⟨b1, d1, b2, d2, b3, d3, rfl, hk.blk (blk_new _ _) (fun x => x), K1.trans hk, hr⟩)
  obtain ⟨r0, r1, r2, r3, r4, r5, r6, r7, r8⟩ := row_nine hrow
  have c0 := blk_cell h1
  have hB := blk_lt h1
  have hil : (i : Int) < (x.l.length : Int) := by omega
  have d0 : decide ((i : Int) < 0) = false := by simp
  have d2 : decide ((x.l.length : Int) ≤ (i : Int)) = false := by simpa using hi
  have HX := Lib.hid hx
  clear hx hrow h1 h2 K1 hf
  generalize hxi : x.l[i] = xi at *
  go_enter Tryz.func95, Tryz.ntmps95
  go_wp2_with fail
  refine ht.mono ?_
  clear ht
  rintro e w5 ⟨b1, d1, b2, d2, b3, d3, rfl, y1, HK⟩
  have c2 := blk_cell y1
  have f2 := blk_fro y1
  go_wp2_with fail
  have u2 := blk_all9 y1 (.int .i64 xi.seq) (.int .i64 xi.epoch) (.int .i64 xi.plan.client) (.int .u64 xi.plan.token) (.string xi.plan.name) (.slice b1 xi.plan.args.length d1) (.int .i64 xi.plan.how) (.slice b2 xi.plan.reads.length d2) (.slice b3 xi.plan.writes.length d3)
  have k2 := keep_all9 w5 w.heap.size (.int .i64 xi.seq) (.int .i64 xi.epoch) (.int .i64 xi.plan.client) (.int .u64 xi.plan.token) (.string xi.plan.name) (.slice b1 xi.plan.args.length d1) (.int .i64 xi.plan.how) (.slice b2 xi.plan.reads.length d2) (.slice b3 xi.plan.writes.length d3)
  clear c2 f2
  have HK2 := Lib.hid k2
  clear k2
  generalize (((((((((w5.setCell ⟨w.heap.size, 0, none⟩ (.int .i64 xi.seq)).setCell ⟨w.heap.size, 1, none⟩ (.int .i64 xi.epoch)).setCell ⟨w.heap.size, 2, none⟩ (.int .i64 xi.plan.client)).setCell ⟨w.heap.size, 3, none⟩ (.int .u64 xi.plan.token)).setCell ⟨w.heap.size, 4, none⟩ (.string xi.plan.name)).setCell ⟨w.heap.size, 5, none⟩ (.slice b1 xi.plan.args.length d1)).setCell ⟨w.heap.size, 6, none⟩ (.int .i64 xi.plan.how)).setCell ⟨w.heap.size, 7, none⟩ (.slice b2 xi.plan.reads.length d2)).setCell ⟨w.heap.size, 8, none⟩ (.slice b3 xi.plan.writes.length d3)) = w6 at *
  have c5 := blk_cell u2
  have h2 := HK2.out
  have hs2 := h2.size
  have hr := (HK.out.2.agree _ (h2.agree fun i _ hi e => by have : i = w.heap.size := e; have := hi.1; omega)).mono _ (T := Fr w.heap.size w6.heap.size) fun i _ hi => ⟨by have := hi.1; omega, by have := hi.2; omega⟩
  exact bodyPost_ret (v := .tuple #[.agg #[.int .i64 xi.seq, .int .i64 xi.epoch, .int .i64 xi.plan.client, .int .u64 xi.plan.token, .string xi.plan.name, .slice b1 xi.plan.args.length d1, .int .i64 xi.plan.how, .slice b2 xi.plan.reads.length d2, .slice b3 xi.plan.writes.length d3], .bool true]) (by simp [results, Tryz.results95, go_sem, c5]) rfl ⟨_, rfl, hr, HK.out.1.then h2 fun i hi e => by have : i = w.heap.size := e; omega⟩
theorem rAt_any (w : World) (B : Nat) (S : Nat → Prop) (x : Lg) (h : LogAt 43 w B S x) (hf : x.Few) (s : Int) : Calls Tryz.prog 95 #[.pointer (some ⟨B, 0, none⟩), .int .i64 s] w (GivesEB w (x.at' s)) := by
  unfold Lg.at'
  by_cases hc : s < 0 ∨ (x.l.length : Int) ≤ s
  · rw [if_pos hc]
    exact rAt_out w B S x h s hc
  · rw [if_neg hc]
    obtain ⟨k, rfl⟩ := Int.eq_ofNat_of_zero_le (a := s) (by omega)
    have hk : k < x.l.length := by omega
    have := rAt_in w B S x h hf k hk
    simpa [hk] using this
end Go.Proofs.YtnknihmchmmenaaGreat
