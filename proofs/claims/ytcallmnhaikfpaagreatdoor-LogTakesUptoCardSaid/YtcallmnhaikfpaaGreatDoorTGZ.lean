/-
  Parts of what is proved for this claim; each declaration is one of the seat's texts.
-/
import Derived.Test.YtcallmnhaikfpaaGreatDoorTGA
import Derived.Test.YtcallmnhaikfpaaGreatDoorTGC
import Derived.Test.YtcallmnhaikfpaaGreatDoorTGD
import Derived.Test.YtcallmnhaikfpaaGreatDoorTGK
import Derived.Test.YtcallmnhaikfpaaGreatDoorTGR
import Derived.Test.YtcallmnhaikfpaaGreatDoorTGU
import Derived.Test.YtcallmnhaikfpaaGreatDoorTGV
import Derived.WalkKit
import Derived.WalkSpells
import Derived.WalkLawsBesides
import Derived.ProofKit
import Derived.Deep.Slices
import Derived.Deep.AppendSrc
import Derived.Lib.Hide
import Derived.Still
import Derived.StillTactics
import Derived.Recover
import Derived.Defers
import Derived.Deep.QuietTactic
import Derived.BigQuiet
import Derived.Handy
import Derived.Laws.Bits64b
import Derived.Lib.Zigzag
import Derived.OwnWalk
import Derived.Deep.DeepCutAuto
import Derived.Lib.Bytealg
import Derived.Laws.Externs
import Derived.Deep.LoopGhost
import Derived.Laws.CopyRow
import Derived.Laws.IdiomCopy
import Derived.Maps.OwnSet
import Derived.Maps.RangeWalk
import Derived.Shelf.SortM.Plain
import Derived.Shelf.SortM.SortNone
import Derived.Ground.SlgmProg
import Derived.Maps.OwnOps
set_option linter.unusedVariables false
set_option linter.unusedSimpArgs false
namespace Go.Proofs.YtcallmnhaikfpaaGreatDoor
open Go Go.RowKit Go.Deep
theorem ent_cells {w : World} {S : Nat → Prop} {cs : List Value} {x : Ent} (h : Rd entrySh w S cs x) :
    ∃ ps, cs = .int .i64 x.seq :: .int .i64 x.epoch :: ps ∧ Rd planSh w S ps x.plan ∧ (Lit.int .i64 x.seq).wf = true ∧ (Lit.int .i64 x.epoch).wf = true := by
  obtain ⟨_, _, rfl, ⟨rfl, w1⟩, _, _, rfl, ⟨rfl, w2⟩, _, _, rfl, h3, rfl⟩ := h
  exact ⟨_, by simp, h3, w1, w2⟩
theorem ent_mk {w : World} {S : Nat → Prop} {ps : List Value} {s e : Int} {p : Plan} (h : Rd planSh w S ps p) (w1 : (Lit.int .i64 s).wf = true) (w2 : (Lit.int .i64 e).wf = true) : Rd entrySh w S (.int .i64 s :: .int .i64 e :: ps) (mkEnt s e p) :=
  ⟨[.int .i64 s], _, rfl, ⟨rfl, w1⟩, [.int .i64 e], _, rfl, ⟨rfl, w2⟩, ps, [], by simp, h, rfl⟩
theorem plan_form {w : World} {S : Nat → Prop} {cs : List Value} {p : Plan} (h : Rd planSh w S cs p) :
    ∃ a1 c1 a2 c2 a3 c3, cs = [.int .i64 p.client, .int .u64 p.token, .string p.name, .slice a1 p.args.length c1, .int .i64 p.how, .slice a2 p.reads.length c2, .slice a3 p.writes.length c3] ∧ True := by
  obtain ⟨a1, c1, a2, c2, a3, c3, e, h1, h2, h3, h4⟩ := plan_cells h
  exact ⟨a1, c1, a2, c2, a3, c3, e, trivial⟩
theorem blk_tail7 {w : World} {b : Nat} {x0 x1 x2 x3 x4 x5 x6 x7 x8 : Value} {t : TypeId} (h : w.heap[b]? = some (.cells #[x0, x1, x2, x3, x4, x5, x6, x7, x8] t (0, 0))) (y0 y1 y2 y3 y4 y5 y6 : Value) :
    (((((((w.setCell ⟨b, 2, none⟩ y0).setCell ⟨b, 3, none⟩ y1).setCell ⟨b, 4, none⟩ y2).setCell ⟨b, 5, none⟩ y3).setCell ⟨b, 6, none⟩ y4).setCell ⟨b, 7, none⟩ y5).setCell ⟨b, 8, none⟩ y6).heap[b]? = some (.cells #[x0, x1, y0, y1, y2, y3, y4, y5, y6] t (0, 0)) := by
  have := blk_set (blk_set (blk_set (blk_set (blk_set (blk_set (blk_set h 2 y0) 3 y1) 4 y2) 5 y3) 6 y4) 7 y5) 8 y6
  simpa using this
theorem keep_tail7 (w : World) (b : Nat) (y0 y1 y2 y3 y4 y5 y6 : Value) : Keep (One b) w (((((((w.setCell ⟨b, 2, none⟩ y0).setCell ⟨b, 3, none⟩ y1).setCell ⟨b, 4, none⟩ y2).setCell ⟨b, 5, none⟩ y3).setCell ⟨b, 6, none⟩ y4).setCell ⟨b, 7, none⟩ y5).setCell ⟨b, 8, none⟩ y6) :=
  ((((((keep_set w b 2 y0).trans (keep_set _ b 3 y1)).trans (keep_set _ b 4 y2)).trans (keep_set _ b 5 y3)).trans (keep_set _ b 6 y4)).trans (keep_set _ b 7 y5)).trans (keep_set _ b 8 y6)
theorem blk_all9 {w : World} {b : Nat} {x0 x1 x2 x3 x4 x5 x6 x7 x8 : Value} {t : TypeId} (h : w.heap[b]? = some (.cells #[x0, x1, x2, x3, x4, x5, x6, x7, x8] t (0, 0))) (z0 z1 z2 z3 z4 z5 z6 z7 z8 : Value) :
    (((((((((w.setCell ⟨b, 0, none⟩ z0).setCell ⟨b, 1, none⟩ z1).setCell ⟨b, 2, none⟩ z2).setCell ⟨b, 3, none⟩ z3).setCell ⟨b, 4, none⟩ z4).setCell ⟨b, 5, none⟩ z5).setCell ⟨b, 6, none⟩ z6).setCell ⟨b, 7, none⟩ z7).setCell ⟨b, 8, none⟩ z8).heap[b]? = some (.cells #[z0, z1, z2, z3, z4, z5, z6, z7, z8] t (0, 0)) := by
  have := blk_set (blk_set (blk_set (blk_set (blk_set (blk_set (blk_set (blk_set (blk_set h 0 z0) 1 z1) 2 z2) 3 z3) 4 z4) 5 z5) 6 z6) 7 z7) 8 z8
  simpa using this
theorem keep_all9 (w : World) (b : Nat) (z0 z1 z2 z3 z4 z5 z6 z7 z8 : Value) : Keep (One b) w (((((((((w.setCell ⟨b, 0, none⟩ z0).setCell ⟨b, 1, none⟩ z1).setCell ⟨b, 2, none⟩ z2).setCell ⟨b, 3, none⟩ z3).setCell ⟨b, 4, none⟩ z4).setCell ⟨b, 5, none⟩ z5).setCell ⟨b, 6, none⟩ z6).setCell ⟨b, 7, none⟩ z7).setCell ⟨b, 8, none⟩ z8) :=
  ((((((((keep_set w b 0 z0).trans (keep_set _ b 1 z1)).trans (keep_set _ b 2 z2)).trans (keep_set _ b 3 z3)).trans (keep_set _ b 4 z4)).trans (keep_set _ b 5 z5)).trans (keep_set _ b 6 z6)).trans (keep_set _ b 7 z7)).trans (keep_set _ b 8 z8)
structure Plan.Few (p : Plan) : Prop where
  args : p.args.length ≤ 1048576
  reads : p.reads.length ≤ 1048576
  writes : p.writes.length ≤ 1048576
def GivesE (w : World) (x : Ent) (e : Ending) (w' : World) : Prop := ∃ cs : Array Value, e = .returned (.agg cs) ∧ Rd entrySh w' (Fr w.heap.size w'.heap.size) cs.toList x ∧ Keep No w w'
set_option maxRecDepth 10000 in
set_option maxHeartbeats 2000000 in
theorem told_any (w : World) (S : Nat → Prop) (cs : List Value) (x : Ent) (h : Rd entrySh w S cs x) (hp : x.plan.Few) :
    Calls Tryz.prog 38 #[.agg cs.toArray] w (GivesE w x) := by
  obtain ⟨ps, rfl, h3, w1, w2⟩ := ent_cells h
  have hp3 := h3
  obtain ⟨a1, c1, a2, c2, a3, c3, hps, -⟩ := plan_form h3
  subst hps
  clear h h3
  have K2 : Keep No w ((w.alloc (.cells #[.int .i64 x.seq, .int .i64 x.epoch, .int .i64 x.plan.client, .int .u64 x.plan.token, .string x.plan.name, .slice a1 x.plan.args.length c1, .int .i64 x.plan.how, .slice a2 x.plan.reads.length c2, .slice a3 x.plan.writes.length c3] 58)).alloc (.cells #[.int .i64 0, .int .i64 0, .int .i64 0, .int .u64 0, .string ⟨#[]⟩, .slice none 0 0, .int .i64 0, .slice none 0 0, .slice none 0 0] 58)) := ((Keep.refl No w).alloc _).alloc _
  have y1 := blk_alloc (o' := .cells #[.int .i64 0, .int .i64 0, .int .i64 0, .int .u64 0, .string ⟨#[]⟩, .slice none 0 0, .int .i64 0, .slice none 0 0, .slice none 0 0] 58) (blk_new w (.cells #[.int .i64 x.seq, .int .i64 x.epoch, .int .i64 x.plan.client, .int .u64 x.plan.token, .string x.plan.name, .slice a1 x.plan.args.length c1, .int .i64 x.plan.how, .slice a2 x.plan.reads.length c2, .slice a3 x.plan.writes.length c3] 58))
  have y2 := blk_new (w.alloc (.cells #[.int .i64 x.seq, .int .i64 x.epoch, .int .i64 x.plan.client, .int .u64 x.plan.token, .string x.plan.name, .slice a1 x.plan.args.length c1, .int .i64 x.plan.how, .slice a2 x.plan.reads.length c2, .slice a3 x.plan.writes.length c3] 58)) (.cells #[.int .i64 0, .int .i64 0, .int .i64 0, .int .u64 0, .string ⟨#[]⟩, .slice none 0 0, .int .i64 0, .slice none 0 0, .slice none 0 0] 58)
  simp only [World.size_alloc] at y2
  have hown := (ownP_any _ S _ x.plan (hp3.agree _ K2.agreeNo) hp.args hp.reads hp.writes).mono (R' := fun e w3 => ∃ b1 d1 b2 d2 b3 d3, e = .returned (.agg #[.int .i64 x.plan.client, .int .u64 x.plan.token, .string x.plan.name, .slice b1 x.plan.args.length d1, .int .i64 x.plan.how, .slice b2 x.plan.reads.length d2, .slice b3 x.plan.writes.length d3]) ∧
      w3.heap[w.heap.size]? = some (.cells #[.int .i64 x.seq, .int .i64 x.epoch, .int .i64 x.plan.client, .int .u64 x.plan.token, .string x.plan.name, .slice a1 x.plan.args.length c1, .int .i64 x.plan.how, .slice a2 x.plan.reads.length c2, .slice a3 x.plan.writes.length c3] 58 (0, 0)) ∧
      w3.heap[w.heap.size + 1]? = some (.cells #[.int .i64 0, .int .i64 0, .int .i64 0, .int .u64 0, .string ⟨#[]⟩, .slice none 0 0, .int .i64 0, .slice none 0 0, .slice none 0 0] 58 (0, 0)) ∧
      RowKit.Hid (Keep No w w3 ∧ Rd planSh w3 (Fr (w.heap.size + 2) w3.heap.size) [.int .i64 x.plan.client, .int .u64 x.plan.token, .string x.plan.name, .slice b1 x.plan.args.length d1, .int .i64 x.plan.how, .slice b2 x.plan.reads.length d2, .slice b3 x.plan.writes.length d3] x.plan)) (by
    rintro e w3 ⟨cs', rfl, hr, hk⟩
    have hr' := hr
    simp only [World.size_alloc] at hr'
    obtain ⟨b1, d1, b2, d2, b3, d3, e3, -⟩ := plan_form hr
    obtain ⟨csl⟩ := cs'
    simp only at e3
    subst e3
    exact ⟨b1, d1, b2, d2, b3, d3, rfl, hk.blk y1 (fun x => x), hk.blk y2 (fun x => x), K2.trans hk, hr'⟩)
  have HW := Lib.hid (And.intro w1 w2)
  clear hp3 hp K2 y1 y2 w1 w2
  generalize hxs : x.seq = s at *
  generalize hxe : x.epoch = ep at *
  generalize x.plan.client = v1 at *
  generalize x.plan.token = v2 at *
  generalize x.plan.name = v3 at *
  generalize x.plan.how = v4 at *
  generalize x.plan.args.length = m1 at *
  generalize x.plan.reads.length = m2 at *
  generalize x.plan.writes.length = m3 at *
  have HXS := Lib.hid (And.intro hxs hxe)
  clear hxs hxe
  go_enter Tryz.func38, Tryz.ntmps38
  go_wp2_with fail
  refine hown.mono ?_
  clear hown
  rintro e w3 ⟨b1, d1, b2, d2, b3, d3, rfl, y1, y2, HK⟩
  have c1 := blk_cell y1
  have f1 := blk_fro y1
  have c2 := blk_cell y2
  have f2 := blk_fro y2
  go_upto_region 2 with fail
  have z1 := blk_tail7 y1 (.int .i64 v1) (.int .u64 v2) (.string v3) (.slice b1 m1 d1) (.int .i64 v4) (.slice b2 m2 d2) (.slice b3 m3 d3)
  have k1 := keep_tail7 w3 w.heap.size (.int .i64 v1) (.int .u64 v2) (.string v3) (.slice b1 m1 d1) (.int .i64 v4) (.slice b2 m2 d2) (.slice b3 m3 d3)
  have z2 := k1.blk y2 (fun e => by have : w.heap.size + 1 = w.heap.size := e; omega)
  clear c1 f1 c2 f2 y1 y2
  have HK1 := Lib.hid k1
  clear k1
  generalize (((((((w3.setCell ⟨w.heap.size, 2, none⟩ (.int .i64 v1)).setCell ⟨w.heap.size, 3, none⟩ (.int .u64 v2)).setCell ⟨w.heap.size, 4, none⟩ (.string v3)).setCell ⟨w.heap.size, 5, none⟩ (.slice b1 m1 d1)).setCell ⟨w.heap.size, 6, none⟩ (.int .i64 v4)).setCell ⟨w.heap.size, 7, none⟩ (.slice b2 m2 d2)).setCell ⟨w.heap.size, 8, none⟩ (.slice b3 m3 d3)) = w4 at *
  have c1 := blk_cell z1
  have c2 := blk_cell z2
  have f2 := blk_fro z2
  go_wp2_with fail
  have u2 := blk_all9 z2 (.int .i64 s) (.int .i64 ep) (.int .i64 v1) (.int .u64 v2) (.string v3) (.slice b1 m1 d1) (.int .i64 v4) (.slice b2 m2 d2) (.slice b3 m3 d3)
  have k2 := keep_all9 w4 (w.heap.size + 1) (.int .i64 s) (.int .i64 ep) (.int .i64 v1) (.int .u64 v2) (.string v3) (.slice b1 m1 d1) (.int .i64 v4) (.slice b2 m2 d2) (.slice b3 m3 d3)
  clear c1 c2 f2
  have HK2 := Lib.hid k2
  clear k2
  generalize (((((((((w4.setCell ⟨w.heap.size + 1, 0, none⟩ (.int .i64 s)).setCell ⟨w.heap.size + 1, 1, none⟩ (.int .i64 ep)).setCell ⟨w.heap.size + 1, 2, none⟩ (.int .i64 v1)).setCell ⟨w.heap.size + 1, 3, none⟩ (.int .u64 v2)).setCell ⟨w.heap.size + 1, 4, none⟩ (.string v3)).setCell ⟨w.heap.size + 1, 5, none⟩ (.slice b1 m1 d1)).setCell ⟨w.heap.size + 1, 6, none⟩ (.int .i64 v4)).setCell ⟨w.heap.size + 1, 7, none⟩ (.slice b2 m2 d2)).setCell ⟨w.heap.size + 1, 8, none⟩ (.slice b3 m3 d3)) = w5 at *
  have c5 := blk_cell u2
  refine bodyPost_ret (v := .agg #[.int .i64 s, .int .i64 ep, .int .i64 v1, .int .u64 v2, .string v3, .slice b1 m1 d1, .int .i64 v4, .slice b2 m2 d2, .slice b3 m3 d3]) (by simp [results, Tryz.results38, go_sem, c5]) rfl ?_
  have h1 := HK1.out
  have h2 := HK2.out
  have hs1 := h1.size
  have hs2 := h2.size
  have hr := ((HK.out.2.agree _ (h1.agree fun i _ hi e => by have : i = w.heap.size := e; have := hi.1; omega)).agree _ (h2.agree fun i _ hi e => by have : i = w.heap.size + 1 := e; have := hi.1; omega)).mono _ (T := Fr w.heap.size w5.heap.size) fun i _ hi => ⟨by have := hi.1; omega, by have := hi.2; omega⟩
  refine ⟨_, rfl, ?_, (HK.out.1.then h1 fun i hi e => by have : i = w.heap.size := e; omega).then h2 fun i hi e => by have : i = w.heap.size + 1 := e; omega⟩
  have hm := ent_mk hr HW.out.1 HW.out.2
  have hx : mkEnt s ep x.plan = x := by rw [← HXS.out.1, ← HXS.out.2]; rfl
  rw [hx] at hm
  exact hm
end Go.Proofs.YtcallmnhaikfpaaGreatDoor
namespace Go.Proofs.YtcallmnhaikfpaaGreatDoor
open Go Go.RowKit Go.Deep
structure Plan.Fit (p : Plan) : Prop where
  name : p.name.size ≤ 9223372036854775806
  feet : (p.reads.length + p.writes.length + 1) * 16 ≤ 140737488355200
set_option maxRecDepth 10000 in
set_option maxHeartbeats 2000000 in
theorem right_any (w : World) (S : Nat → Prop) (cs : List Value) (p : Plan) (h : Rd planSh w S cs p) (hf : p.Fit) :
    Calls Tryz.prog 31 #[.agg cs.toArray] w (GivesI w p.right) := by
  obtain ⟨a1, c1, a2, c2, a3, c3, rfl, h1, h2, h3, w1, w2, w3, w4⟩ := plan_cells h
  have K1 : Keep No w (w.alloc (.cells #[.int .i64 p.client, .int .u64 p.token, .string p.name, .slice a1 p.args.length c1, .int .i64 p.how, .slice a2 p.reads.length c2, .slice a3 p.writes.length c3] 43)) := (Keep.refl No w).alloc _
  have hreq : Rd requestSh w S [.int .i64 p.client, .int .u64 p.token, .string p.name, .slice a1 p.args.length c1] p.req :=
    ⟨[.int .i64 p.client], _, rfl, ⟨rfl, w1⟩, [.int .u64 p.token], _, rfl, ⟨rfl, w2⟩, [.string p.name], _, rfl, ⟨rfl, w3⟩, [_], _, rfl, h1, rfl⟩
  have hnil : Rd bytesSh w S [.slice none 0 0] ([] : Bytes) := ⟨none, 0, rfl, by simp, by simp, fun _ => ⟨rfl, rfl⟩, fun i hi => absurd hi (by simp)⟩
  have hput := (rqPut_any _ S S _ [] (hnil.agree _ K1.agreeNo) (by simp) _ p.req (hreq.agree _ K1.agreeNo) hf.name).mono (R' := fun e w5 => ∃ a n k, e = .returned (.tuple #[.slice a n k, .int .i64 p.req.check]) ∧
      w5.heap[w.heap.size]? = some (.cells #[.int .i64 p.client, .int .u64 p.token, .string p.name, .slice a1 p.args.length c1, .int .i64 p.how, .slice a2 p.reads.length c2, .slice a3 p.writes.length c3] 43 (0, 0)) ∧ RowKit.Hid (Keep No w w5)) (by
    rintro e w5 ⟨a, n, k, rfl, ho⟩
    exact ⟨a, n, k, rfl, ho.2.blk (blk_new w _) (fun x => x), K1.trans ho.2⟩)
  have hnorm := fun (W : World) (hk : Keep No w W) => (sNormal_any W S (.slice a2 p.reads.length c2) (.slice a3 p.writes.length c3) p.fp ⟨h2.agree _ hk.agreeNo, h3.agree _ hk.agreeNo⟩ hf.feet).mono (R' := fun e w6 => e = .returned (.bool p.fp.normal) ∧ RowKit.Hid (Keep No w w6)) (by
    rintro e w6 ⟨rfl, hk6⟩
    exact ⟨rfl, hk.trans hk6⟩)
  have HN := Lib.hid hnorm
  have hr : p.right = if p.req.check ≠ 0 then p.req.check else if p.how ≠ 1 ∧ p.how ≠ 2 then 121 else if p.fp.normal = false then 31 else 0 := rfl
  rw [hr]
  clear hr h h1 h2 h3 w1 w2 w3 w4 K1 hreq hnil hf hnorm
  generalize p.req.check = ck at *
  generalize p.fp.normal = nb at *
  generalize p.client = v1 at *
  generalize p.token = v2 at *
  generalize p.name = v3 at *
  generalize p.how = v4 at *
  generalize p.args.length = m1 at *
  generalize p.reads.length = m2 at *
  generalize p.writes.length = m3 at *
  by_cases hc : ck = 0
  · subst hc
    rw [if_neg (by simp)]
    by_cases hh : v4 ≠ 1 ∧ v4 ≠ 2
    · rw [if_pos hh]
      have d1 : (v4 != 1) = true := by simpa using hh.1
      have d2 : (v4 != 2) = true := by simpa using hh.2
      clear hh HN
      go_enter Tryz.func31, Tryz.ntmps31
      go_wp2_with fail
      refine hput.mono ?_
      clear hput
      rintro e w5 ⟨a, n, k, rfl, x1, HK⟩
      have q1 := blk_cell x1
      go_wp2_with fail
      go_ret
      exact ⟨rfl, HK⟩
    · rw [if_neg hh]
      have hv : v4 = 1 ∨ v4 = 2 := by
        by_cases h1 : v4 = 1
        · exact .inl h1
        · exact .inr (Classical.byContradiction fun h2 => hh ⟨h1, h2⟩)
      clear hh
      cases nb with
      | true =>
        simp only [Bool.true_eq_false, if_false]
        rcases hv with rfl | rfl
        all_goals
          go_enter Tryz.func31, Tryz.ntmps31
          go_wp2_with fail
          refine hput.mono ?_
          clear hput
          rintro e w5 ⟨a, n, k, rfl, x1, HK⟩
          have q1 := blk_cell x1
          have hn := HN.out w5 HK.out
          go_wp2_with (go_at_call 58; refine hn.mono ?_; clear hn; rintro e w6 ⟨rfl, HK6⟩)
          go_ret
          exact ⟨rfl, HK6⟩
      | false =>
        simp only [if_true]
        rcases hv with rfl | rfl
        all_goals
          go_enter Tryz.func31, Tryz.ntmps31
          go_wp2_with fail
          refine hput.mono ?_
          clear hput
          rintro e w5 ⟨a, n, k, rfl, x1, HK⟩
          have q1 := blk_cell x1
          have hn := HN.out w5 HK.out
          go_wp2_with (go_at_call 58; refine hn.mono ?_; clear hn; rintro e w6 ⟨rfl, HK6⟩)
          go_ret
          exact ⟨rfl, HK6⟩
  · rw [if_pos hc]
    have d1 : (ck != 0) = true := by simpa using hc
    clear hc HN
    go_enter Tryz.func31, Tryz.ntmps31
    go_wp2_with fail
    refine hput.mono ?_
    clear hput
    rintro e w5 ⟨a, n, k, rfl, x1, HK⟩
    go_wp2_with fail
    go_ret
    exact ⟨rfl, HK⟩
end Go.Proofs.YtcallmnhaikfpaaGreatDoor
