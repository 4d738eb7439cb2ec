/-
  The document's log: Append.
-/
import Derived.Test.YtnknihmchmmenaaGreatGA
import Derived.Test.YtnknihmchmmenaaGreatGB
import Derived.Test.YtnknihmchmmenaaGreatGC
import Derived.Test.YtnknihmchmmenaaGreatGD
import Derived.Test.YtnknihmchmmenaaGreatGK
import Derived.Test.YtnknihmchmmenaaGreatGW
import Derived.Test.YtnknihmchmmenaaGreatGZ
import Derived.Test.YtnknihmchmmenaaGreatGX
import Derived.Test.YtnknihmchmmenaaGreatHA
import Derived.Test.YtnknihmchmmenaaGreatHB
import Derived.Still
import Derived.StillTactics
import Derived.WalkKit
import Derived.WalkSpells
import Derived.WalkLawsBesides
import Derived.ProofKit
import Derived.Deep.Slices
import Derived.Deep.AppendSrc
import Derived.Lib.Hide
import Derived.Recover
import Derived.Defers
import Derived.Deep.QuietTactic
import Derived.BigQuiet
import Derived.Handy
import Derived.Laws.Bits64b
import Derived.Lib.Zigzag
import Derived.OwnWalk
import Derived.Deep.DeepCutAuto
import Derived.Lib.Bytealg
import Derived.Laws.Externs
import Derived.Deep.LoopGhost
import Derived.Laws.CopyRow
import Derived.Laws.IdiomCopy
import Derived.Maps.OwnSet
import Derived.Maps.RangeWalk
import Derived.Shelf.SortM.Plain
import Derived.Shelf.SortM.SortNone
import Derived.Ground.SlgmProg
import Derived.Maps.OwnOps
namespace Go.Proofs.YtnknihmchmmenaaGreat
set_option linter.unusedVariables false
set_option linter.unusedSimpArgs false
open Go Go.RowKit Go.Deep

/-- one entry more, behind the append and the store -/
theorem rapp_fin {w w1 w2 : World} {B : Nat} {S SO T : Nat → Prop} {x : Lg} {e : Ent} {v : Value}
    (h1 : w2.heap[B]? = some (.cells #[v, .int .i64 x.epoch] 43 (0, 0))) (h3 : S B) (h4 : ∀ k, SO k → S k ∧ k ≠ B) (h5 : (Lit.int .i64 x.epoch).wf = true) (h6 : ∀ k, S k → k < w.heap.size)
    (ho : Own entrySh 40 w1 (fun k => SO k ∨ T k) v (x.l ++ [e])) (hT : ∀ k, T k → w.heap.size ≤ k ∧ k < w1.heap.size) (hk : Keep SO w w1) (hk2 : Keep (One B) w1 w2) :
    LogAt 43 w2 B (fun k => S k ∨ (w.heap.size ≤ k ∧ k < w2.heap.size)) ⟨x.l ++ [e], x.epoch⟩ ∧ Keep S w w2 := by
  have kw : Keep (fun k => SO k ∨ k = B) w w2 := (hk.mono fun _ _ h => .inl h).then hk2 fun _ _ h => .inr h
  have hs1 := hk.size
  have hs2 := hk2.size
  have hBl := h6 B h3
  refine ⟨⟨v, fun k => SO k ∨ T k, h1, ho.agree (hk2.agree fun k _ hk e => ?_), .inl h3, fun k hk => ?_, h5, fun k hk => ?_⟩, kw.mono fun k _ h => h.elim (fun h => (h4 k h).1) (fun e => e ▸ h3)⟩
  · have : k = B := e
    rcases hk with h | h
    · exact (h4 k h).2 this
    · have := hT k h; omega
  · rcases hk with h | h
    · exact ⟨.inl (h4 k h).1, (h4 k h).2⟩
    · have h1 := hT k h
      exact ⟨.inr ⟨h1.1, by omega⟩, by omega⟩
  · rcases hk with h | h
    · have := h6 k h; omega
    · exact h.2

/-- what Append says, and what it leaves -/
def RAppended (w : World) (B : Nat) (S : Nat → Prop) (r : Said3 × Lg) (e : Ending) (w' : World) : Prop :=
  e = .returned (.tuple #[.int .i64 r.1.n, .int .i64 r.1.err, .int .i64 r.1.at']) ∧ ∃ S' : Nat → Prop, LogAt 43 w' B S' r.2 ∧ (∀ k, S' k → S k ∨ w.heap.size ≤ k) ∧ Keep S w w'

theorem rAppend_epoch (w : World) (B : Nat) (S : Nat → Prop) (x : Lg) (h : LogAt 43 w B S x) (ep : Int) (v : Value) (he : ep < x.epoch ∨ ep < 0) :
    Calls Tryz.prog 32 #[.pointer (some ⟨B, 0, none⟩), .int .i64 ep, v] w (RAppended w B S (⟨0, 120, 0⟩, x)) := by
  have h0 := h
  obtain ⟨ov, SO, h1, h2, -⟩ := h
  have c0 := blk_cell h1
  by_cases d1 : ep < x.epoch
  · clear he h1 h2
    have d2 : decide (ep < x.epoch) = true := by simpa using d1
    clear d1
    go_enter Tryz.func32, Tryz.ntmps32
    go_wp2_with fail
    refine bodyPost_ret (v := .tuple #[.int .i64 0, .int .i64 120, .int .i64 0]) (by simp [results, Tryz.results32, go_sem]) rfl ?_
    exact ⟨rfl, S, h0, fun k hk => .inl hk, Keep.refl _ _⟩
  · have d2 : decide (ep < x.epoch) = false := by simpa using d1
    have d3 : decide (ep < 0) = true := by simpa using he.resolve_left d1
    clear he h1 h2 d1
    go_enter Tryz.func32, Tryz.ntmps32
    go_wp2_with fail
    refine bodyPost_ret (v := .tuple #[.int .i64 0, .int .i64 120, .int .i64 0]) (by simp [results, Tryz.results32, go_sem]) rfl ?_
    exact ⟨rfl, S, h0, fun k hk => .inl hk, Keep.refl _ _⟩

theorem rAppend_many (w : World) (B : Nat) (S : Nat → Prop) (x : Lg) (h : LogAt 43 w B S x) (ep : Int) (a : Option Addr) (m c : Nat) (he : ¬ (ep < x.epoch ∨ ep < 0)) (hx : x.l.length ≤ 65536) (hm : 65536 < x.l.length + m) (h63 : m ≤ 4611686018427387904) :
    Calls Tryz.prog 32 #[.pointer (some ⟨B, 0, none⟩), .int .i64 ep, .slice a m c] w (RAppended w B S (⟨0, 6, 0⟩, x)) := by
  have h0 := h
  obtain ⟨ov, SO, h1, h2, -⟩ := h
  obtain ⟨a1, d1, rfl, _⟩ := h2.form
  have c0 := blk_cell h1
  have e1 : ¬ ep < x.epoch := fun hh => he (.inl hh)
  have e2 : ¬ ep < 0 := fun hh => he (.inr hh)
  have e3 : (65536 : Int) < (x.l.length : Int) + (m : Int) := by omega
  clear he hm h1 h2
  go_enter Tryz.func32, Tryz.ntmps32
  go_wp2_with fail
  refine bodyPost_ret (v := .tuple #[.int .i64 0, .int .i64 6, .int .i64 0]) (by simp [results, Tryz.results32, go_sem]) rfl ?_
  exact ⟨rfl, S, h0, fun k hk => .inl hk, Keep.refl _ _⟩

/-- behind the second loop's k rounds -/
structure RApp2 (w : World) (B : Nat) (S : Nat → Prop) (x : Lg) (ep : Int) (ps : List Plan) (k : Nat) (wr : World) : Prop where
  kle : k ≤ ps.length
  keep : Keep S w wr
  at' : ∃ S' : Nat → Prop, LogAt 43 wr B S' ⟨x.l ++ layAt x.l.length ep (ps.take k), x.epoch⟩ ∧ ∀ i, S' i → S i ∨ w.heap.size ≤ i

theorem rRight_w (w : World) (U : Nat → Prop) (W : World) (cs : List Value) (p : Plan) (h : Rd planSh w U cs p) (hk : Keep No w W) (hf : p.Fit) : Calls Tryz.prog 28 #[.agg cs.toArray] W fun e w' => e = .returned (.int .i64 p.right) ∧ RowKit.Hid (Keep No w w') :=
  (rRight_any W U cs p (h.agree _ hk.agreeNo) hf).mono (by
    rintro e w' ⟨rfl, hk'⟩
    exact ⟨rfl, hk.trans hk'⟩)

set_option maxRecDepth 10000 in
set_option maxHeartbeats 4000000 in
theorem rAppend_main (w : World) (B : Nat) (S U : Nat → Prop) (x : Lg) (h : LogAt 43 w B S x) (ep : Int) (hwe : (Lit.int .i64 ep).wf = true) (a : Option Addr) (m c : Nat) (ps : List Plan) (hps : Rd (.slice planSh) w U [.slice a m c] ps) (hU : ∀ k, U k → ¬ S k)
    (hok : PlansOk ps) (he : ¬ (ep < x.epoch ∨ ep < 0)) (hm : ¬ 65536 < x.l.length + ps.length) :
    Calls Tryz.prog 32 #[.pointer (some ⟨B, 0, none⟩), .int .i64 ep, .slice a m c] w (RAppended w B S (x.append ep ps)) := by
  have h0 := h
  obtain ⟨ov, SO, h1, h2, -⟩ := h
  obtain ⟨a1, d1, rfl, _⟩ := h2.form
  obtain rfl : m = ps.length := by obtain ⟨a', c', e, -⟩ := hps; simp at e; exact e.2.1
  have hps0 := hps
  have c0 := blk_cell h1
  have hB := blk_lt h1
  have e1 : ¬ ep < x.epoch := fun hh => he (.inl hh)
  have e2 : ¬ ep < 0 := fun hh => he (.inr hh)
  have e3 : ¬ (65536 : Int) < (x.l.length : Int) + (ps.length : Int) := by omega
  have e4 : ps.length ≤ 65536 := by omega
  have hnone : badAt 0 ps = none → x.append ep ps = (⟨x.l.length, 0, 0⟩, ⟨x.l ++ layAt x.l.length ep ps, ep⟩) := fun hh => by
    unfold Lg.append; rw [if_neg he, if_neg hm, hh]
  have hsome : ∀ e i, badAt 0 ps = some (e, i) → x.append ep ps = (⟨0, e, i⟩, x) := fun e i hh => by
    unfold Lg.append; rw [if_neg he, if_neg hm, hh]
  have HH := Lib.hid (And.intro h2 (And.intro he (And.intro hm (And.intro e4 (And.intro hnone (And.intro hsome h0))))))
  clear hnone hsome he hm h2 e4
  go_enter Tryz.func32, Tryz.ntmps32
  go_wp2_with fail
  go_loopw [9] (fun i wr => ∃ k : Nat, i = .int .i64 k ∧ RowKit.Hid (App1 w ps k wr)) (fun i _ => ps.length - (intOf i).toNat)
  case atStart => exact ⟨0, rfl, ⟨Nat.zero_le _, Keep.refl _ _, rfl⟩⟩
  case round =>
    obtain ⟨k, rfl, HA⟩ := hrel
    by_cases hlt : k < ps.length
    · obtain ⟨b, off, x1, y1, x2, y2, x3, y3, rfl, -, hb, -, hr, hx⟩ := planAt' hps k hlt
      have hfit := (hok ps[k] (List.getElem_mem hlt)).1
      have hbad := badAt_at hlt
      obtain ⟨r0, r1, r2, r3, r4, r5, r6⟩ := row_seven (hr.agree (HA.out.keep.block b hb (fun x => x)))
      have hright := rRight_w wr U wr _ ps[k] (hx.agree _ HA.out.keep.agreeNo) (Keep.refl No wr) hfit
      have hw0 := HA.out.keep.size
      have HX := Lib.hid (And.intro hlt hbad)
      generalize hrt : ps[k].right = rt at *
      have j0 : (0 : Int) ≤ k := by omega
      have j1 : (k : Int) < ps.length := by omega
      have j3 : (k : Int) ≤ 9223372036854775806 := by have := HH.out.2.2.2.1; omega
      clear hx hr hfit hbad hps hps0 hok hrt
      generalize ps[k].client = v1 at *
      generalize ps[k].token = v2 at *
      generalize ps[k].name = v3 at *
      generalize ps[k].how = v4 at *
      generalize ps[k].args.length = m1 at *
      generalize ps[k].reads.length = m2 at *
      generalize ps[k].writes.length = m3 at *
      clear hlt h0 h1 hwe hB c0
      by_cases hz : rt = 0
      · subst hz
        go_wp2_with (go_at_call 28; refine hright.mono ?_; clear hright; rintro e w5 ⟨rfl, HK⟩)
        go_roundw
        case rel => exact ⟨k + 1, by simp, HX.out.1, (HA.out.keep.trans HK.out), by rw [HA.out.bad, HX.out.2]; simp⟩
        case measure => simp [intOf]; have := HX.out.1; omega
      · have hzb : (rt != 0) = true := by simpa using hz
        have HZ := Lib.hid hz
        clear hz
        go_wp2_with (go_at_call 28; refine hright.mono ?_; clear hright; rintro e w5 ⟨rfl, HK⟩)
        refine bodyPost_ret (v := .tuple #[.int .i64 0, .int .i64 rt, .int .i64 k]) (by simp [results, Tryz.results32, go_sem]) rfl ?_
        have hb0 := HA.out.bad
        rw [HX.out.2, if_pos HZ.out] at hb0
        rw [HH.out.2.2.2.2.2.1 _ _ hb0]
        have hk := (HA.out.keep.trans HK.out)
        exact ⟨rfl, S, HH.out.2.2.2.2.2.2.agree hk.agreeNo hk.size, fun k hk => .inl hk, hk.mono fun _ _ h => h.elim⟩
    · obtain rfl : k = ps.length := by have := HA.out.kle; omega
      have K1 := HA.out.keep
      have hb0 := HA.out.bad
      rw [badAt_end (Nat.le_refl _)] at hb0
      have HN := Lib.hid (HH.out.2.2.2.2.1 hb0)
      have b1 := K1.blk h1 (fun x => x)
      have c1 := blk_cell b1
      clear hb0 hlt hps HA c0 h1
      have HB := Lib.hid (And.intro hps0 (And.intro hok (And.intro K1 (And.intro hU hwe))))
      clear hps0 hok K1 hB b1 h0 hwe hU
      go_wp2_with fail
      go_loopw [12] (fun i wr => ∃ k : Nat, i = .int .i64 k ∧ RowKit.Hid (RApp2 w B S x ep ps k wr)) (fun i _ => ps.length - (intOf i).toNat)
      case atStart => exact ⟨0, rfl, ⟨Nat.zero_le _, HB.out.2.2.1.mono fun _ _ h => h.elim, S, by simpa [layAt] using HH.out.2.2.2.2.2.2.agree HB.out.2.2.1.agreeNo HB.out.2.2.1.size, fun i hi => .inl hi⟩⟩
      case round =>
        clear c1
        rename_i wr0 _
        obtain ⟨k, rfl, HA⟩ := hrel
        by_cases hlt : k < ps.length
        · have hps := HB.out.1
          have K2 := HA.out.keep
          have hU := HB.out.2.2.2.1
          obtain ⟨S', ⟨ov', SO', g1, g2, g3, g4, g5, g6⟩, hS'⟩ := HA.out.at'
          have hpk := HB.out.2.1 ps[k] (List.getElem_mem hlt)
          have hlen65 := HH.out.2.2.1
          have hyl : (x.l ++ layAt x.l.length ep (ps.take k)).length = x.l.length + k := by
            rw [List.length_append, layAt_length, List.length_take, Nat.min_eq_left (by omega)]
          have hsn : x.l ++ layAt x.l.length ep (ps.take (k + 1)) = (x.l ++ layAt x.l.length ep (ps.take k)) ++ [mkEnt ((x.l.length + k : Nat) : Int) ep ps[k]] := by
            rw [List.take_succ_eq_append_getElem hlt, layAt_snoc, List.length_take, Nat.min_eq_left (by omega), List.append_assoc]
          simp only at g1 g2 g5
          generalize hY : x.l ++ layAt x.l.length ep (ps.take k) = Y at *
          obtain ⟨a9, d9, rfl, _⟩ := g2.form
          rw [hyl] at g1 g2
          generalize hnk : x.l.length + k = nk at *
          obtain ⟨b, off, x1, y1, x2, y2, x3, y3, rfl, -, hb, hUb, hr, hx⟩ := planAt' hps k hlt
          obtain ⟨r0, r1, r2, r3, r4, r5, r6⟩ := row_seven (hr.agree (K2.block b hb (hU _ hUb)))
          have hx2 := hx.agree _ (K2.agree fun i _ hi => hU i hi)
          have j0 : (0 : Int) ≤ k := by omega
          have j1 : (k : Int) < ps.length := by omega
          have j3 : (k : Int) ≤ 9223372036854775806 := by omega
          have hwr := g6 B g3
          have bA := g1
          have cA := blk_cell bA
          have MA : Keep No wr wr := Keep.refl No wr
          have hown := (ref_plan _ U _ ps[k] (hx2.agree _ MA.drew.agreeNo) hpk.2.args hpk.2.reads hpk.2.writes).mono (R' := fun e w3 => ∃ b1 d1 b2 d2 b3 d3, e = .returned (.agg #[.int .i64 ps[k].client, .int .u64 ps[k].token, .string ps[k].name, .slice b1 ps[k].args.length d1, .int .i64 ps[k].how, .slice b2 ps[k].reads.length d2, .slice b3 ps[k].writes.length d3]) ∧
              w3.heap[B]? = some (.cells #[.slice a9 nk d9, .int .i64 x.epoch] 43 (0, 0)) ∧
              RowKit.Hid (Keep No wr w3 ∧ Rd planSh w3 (Fr wr.heap.size w3.heap.size) [.int .i64 ps[k].client, .int .u64 ps[k].token, .string ps[k].name, .slice b1 ps[k].args.length d1, .int .i64 ps[k].how, .slice b2 ps[k].reads.length d2, .slice b3 ps[k].writes.length d3] ps[k])) (by
            rintro e w3 ⟨⟨cs'⟩, rfl, hr3, hk3⟩
            obtain ⟨b1, d1, b2, d2, b3, d3, e3, -⟩ := plan_form hr3
            subst e3
            exact ⟨b1, d1, b2, d2, b3, d3, rfl, hk3.blk bA (fun x => x), (MA.drew).trans hk3, hr3.mono _ fun i _ hi => ⟨by have := hi.1; simp at this; omega, hi.2⟩⟩)
          have HG := Lib.hid (And.intro g2 (And.intro g3 (And.intro g4 (And.intro g5 (And.intro g6 (And.intro hS' (And.intro hsn (And.intro hyl (And.intro hlt (And.intro hlen65 hnk))))))))))
          have HW : RowKit.Hid (w.heap.size ≤ wr.heap.size) := K2.size
          clear g1 g2 g3 g4 g5 g6 hS' hsn hyl hlen65 hnk hx hx2 hr K2 hU hps hpk MA bA
          generalize ps[k] = pk at *
          clear hlt
          go_upto_region 15 with fail
          refine wp_region_can [0, 1, 2, 3, 4, 5, 6, 7, 8, 9, 10, 11, 12, 13, 14, 15, 16, 17, 18, 19, 20, 21] [15, 17, 18, 21] [(0, 15), (1, 15), (2, 15), (3, 15), (4, 15), (5, 15), (6, 15), (7, 15), (8, 15), (9, 15), (10, 15), (0, 17), (1, 17), (2, 17), (3, 17), (4, 17), (0, 18)] (by kernel_rfl) (by kernel_rfl) (by kernel_rfl) (by kernel_rfl) (by intro c a d v w h; cases d <;> exact h) ?_
          iterate 15 (refine can_sil rfl rfl (fun K hK => ?_); go_simp; refine hK _ ?_; clear hK K)
          refine can_loud [0, 1, 2, 3, 4, 5, 6, 7, 8, 9, 10] rfl rfl rfl (fun K hK => ?_)
          go_wp2_with fail
          refine hown.mono ?_
          clear hown cA
          rintro e w3 ⟨b1, d1, b2, d2, b3, d3, rfl, z1, HD⟩
          have c3 := blk_cell z1
          have c4 : ∀ o j, (w3.alloc o).cell? ⟨B, j, none⟩ = #[Value.slice a9 nk d9, .int .i64 x.epoch][j]? := fun o => blk_cell (blk_alloc z1)
          go_wp2_with fail
          refine Mid.normal (hK _ _ ?_ ?_)
          · simp only [List.forall_mem_cons]
            refine ⟨?_, ?_, ?_, ?_, ?_, ?_, ?_, ?_, ?_, ?_, ?_, stabs_nil⟩ <;> exact stab_of rfl (fun K hK => by go_simp; exact hK)
          clear hK K
          refine can_sil rfl rfl (fun K hK => ?_); go_simp; refine hK _ ?_; clear hK K
          refine can_loud [0, 1, 2, 3, 4] rfl rfl rfl (fun K hK => ?_)
          go_wp2_with fail
          refine Mid.normal (hK _ _ ?_ ?_)
          · simp only [List.forall_mem_cons]
            refine ⟨?_, ?_, ?_, ?_, ?_, stabs_nil⟩ <;> exact stab_of rfl (fun K hK => by go_simp; exact hK)
          clear hK K
          obtain ⟨i0, hi, hz0, hz1, hz2⟩ := info_parts Tryz.infoEnt
          obtain ⟨n2, n3, n4, n5, n6, hS', hsn, hyl, hlt, hlen65, hnk⟩ := HG.out
          obtain ⟨m1, hrd⟩ := HD.out
          have hlen1 : Y.length + 1 ≤ 65536 := by omega
          have wfs : (Lit.int .i64 (nk : Int)).wf = true := wf_i64 (by omega) (by omega)
          have hent := ent_mk (s := (nk : Int)) (e := ep) hrd wfs HB.out.2.2.2.2
          rw [← hyl] at n2
          have n2' := n2.agree (m1.alloc (.cells #[.int .i64 (nk : Int), .int .i64 ep, .int .i64 pk.client, .int .u64 pk.token, .string pk.name, .slice b1 pk.args.length d1, .int .i64 pk.how, .slice b2 pk.reads.length d2, .slice b3 pk.writes.length d3] 40)).agreeNo
          obtain ⟨a7, d7, w4, hrun, ho, m2, hs2⟩ := Own.append (s := entrySh) (S := SO') (T := Fr wr.heap.size w3.heap.size) n2' 41 41 i0 _ 128 Tryz.underlying41 hi hz0 hz1 hz2 rfl (blk_new w3 _) (hent.agree _ ((Keep.refl No w3).alloc _).agreeNo) (fun j hj hf => by have := n6 j (n4 j hj).1; have := hf.1; omega) (by omega) (by omega) 1
          rw [hyl] at hrun ho
          refine can_loud [0] rfl rfl rfl (fun K hK => ?_)
          refine wpList_app rfl (.tmp 62) (.tmp 75) 41 41 rfl rfl rfl hrun ?_
          have z4 := m2.blk (blk_alloc z1) (fun h => (n4 B h).2 rfl)
          have c5 := blk_cell z4
          have f5 := blk_fro z4
          go_wp2_with fail
          refine Mid.normal (hK _ _ ?_ ?_)
          · simp only [List.forall_mem_cons]
            refine ⟨?_, stabs_nil⟩ <;> exact stab_of rfl (fun K hK => by go_simp; exact hK)
          clear hK K
          iterate 2 (refine can_sil rfl rfl (fun K hK => ?_); go_simp; refine hK _ ?_; clear hK K)
          refine can_loud [] rfl rfl rfl (fun K hK => ?_)
          go_wp2_with fail
          refine Mid.normal (hK _ _ stabs_nil ?_)
          clear hK K
          refine can_nil ?_
          have z5 := blk_set z4 0 (.slice a7 (nk + 1) d7)
          have hs1 := m1.size
          have hs2' := m2.size
          simp only [World.size_alloc] at hs2'
          obtain ⟨hC, hKF⟩ := rapp_fin (w := wr) (w1 := w4) (x := ⟨Y, x.epoch⟩) (e := mkEnt nk ep pk) (T := fun i => wr.heap.size ≤ i ∧ i < w4.heap.size) (by simpa using z5) n3 n4 n5 n6 (ho.live.mono fun j hj => hj.1.imp id fun h => ⟨h.elim (fun h => h.1) (fun h => by simp at h; omega), hj.2⟩) (fun _ h => h) (((m1.alloc _).mono fun _ _ h => h.elim).trans m2) (keep_set _ _ _ _)
          rw [← hsn] at hC
          clear c5 f5 z4 z5 c3 c4 hrun ho m2 hs2 hs2' n2 n2' hent m1 hrd
          clear r0 r1 r2 r3 r4 r5 r6 z1
          go_wp2_with fail
          go_roundw
          case rel =>
            have hws := HW.out
            exact ⟨k + 1, by simp, hlt, HA.out.keep.then hKF (fun i hi h => (hS' i h).elim id (fun h => by omega)), _, hC, fun i hi => hi.elim (fun h => hS' i h) (fun h => .inr (by omega))⟩
          case measure => simp [intOf]; omega
        · obtain rfl : k = ps.length := by have := HA.out.kle; omega
          obtain ⟨S', ⟨ov', SO', g1, g2, g3, g4, g5, g6⟩, hS'⟩ := HA.out.at'
          rw [List.take_length] at g1 g2
          simp only at g1 g2 g5
          have cA := blk_cell g1
          have fA := blk_fro g1
          have z5 := blk_set g1 1 (.int .i64 ep)
          have HG := Lib.hid (And.intro g2 (And.intro g3 (And.intro g4 (And.intro g6 (And.intro hS' z5)))))
          clear g1 g2 g3 g4 g5 g6 hS' z5 hlt
          go_wp2_with fail
          refine bodyPost_ret (v := .tuple #[.int .i64 x.l.length, .int .i64 0, .int .i64 0]) (by simp [results, Tryz.results32, go_sem]) rfl ?_
          obtain ⟨n2, n3, n4, n6, hS', z5⟩ := HG.out
          rw [HN.out]
          refine ⟨rfl, S', ⟨ov', SO', by simpa using z5, n2.agree ?_, n3, n4, HB.out.2.2.2.2, fun i hi => by simpa using n6 i hi⟩, hS', HA.out.keep.then (keep_set _ _ _ _) fun i hi e => ?_⟩
          · exact agree_set (fun h => (n4 B h).2 rfl) _ _
          · obtain rfl : i = B := e
            exact (hS' i n3).elim id fun h => by omega
/-- Append, as the plain law has it -/
theorem rAppend_any (w : World) (B : Nat) (S U : Nat → Prop) (x : Lg) (h : LogAt 43 w B S x) (hx : x.l.length ≤ 65536) (ep : Int) (hwe : (Lit.int .i64 ep).wf = true) (v : Value) (ps : List Plan) (hps : Rd (.slice planSh) w U [v] ps) (hU : ∀ k, U k → ¬ S k)
    (hok : PlansOk ps) (hm : ps.length ≤ 4611686018427387904) :
    Calls Tryz.prog 32 #[.pointer (some ⟨B, 0, none⟩), .int .i64 ep, v] w (RAppended w B S (x.append ep ps)) := by
  obtain ⟨a, c, hv, -⟩ := id hps
  simp only [List.cons.injEq, and_true] at hv
  subst hv
  by_cases he : ep < x.epoch ∨ ep < 0
  · have := rAppend_epoch w B S x h ep (.slice a ps.length c) he
    unfold Lg.append
    rw [if_pos he]
    exact this
  · by_cases hc : 65536 < x.l.length + ps.length
    · have := rAppend_many w B S x h ep a ps.length c he hx hc hm
      unfold Lg.append
      rw [if_neg he, if_pos hc]
      exact this
    · exact rAppend_main w B S U x h ep hwe a _ c ps hps hU hok he hc
end Go.Proofs.YtnknihmchmmenaaGreat
