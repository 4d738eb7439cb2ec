/-
  Parts of what is proved for this claim; each declaration is one of the seat's texts.
-/
import Derived.Test.YtcallmnhaikfpaaGreatDoorTGA
import Derived.Test.YtcallmnhaikfpaaGreatDoorTGB
import Derived.Test.YtcallmnhaikfpaaGreatDoorTGC
import Derived.Test.YtcallmnhaikfpaaGreatDoorTGD
import Derived.Test.YtcallmnhaikfpaaGreatDoorTGK
import Derived.Test.YtcallmnhaikfpaaGreatDoorTGU
import Derived.Test.YtcallmnhaikfpaaGreatDoorTGW
import Derived.Test.YtcallmnhaikfpaaGreatDoorTGZ
import Derived.Test.YtcallmnhaikfpaaGreatDoorTHA
import Derived.WalkKit
import Derived.WalkSpells
import Derived.WalkLawsBesides
import Derived.ProofKit
import Derived.Deep.Slices
import Derived.Deep.AppendSrc
import Derived.Lib.Hide
import Derived.Still
import Derived.StillTactics
import Derived.Recover
import Derived.Defers
import Derived.Deep.QuietTactic
import Derived.BigQuiet
import Derived.Handy
import Derived.Laws.Bits64b
import Derived.Lib.Zigzag
import Derived.OwnWalk
import Derived.Deep.DeepCutAuto
import Derived.Lib.Bytealg
import Derived.Laws.Externs
import Derived.Deep.LoopGhost
import Derived.Laws.CopyRow
import Derived.Laws.IdiomCopy
import Derived.Maps.OwnSet
import Derived.Maps.RangeWalk
import Derived.Shelf.SortM.Plain
import Derived.Shelf.SortM.SortNone
import Derived.Ground.SlgmProg
import Derived.Maps.OwnOps
set_option linter.unusedVariables false
set_option linter.unusedSimpArgs false
namespace Go.Proofs.YtcallmnhaikfpaaGreatDoor
open Go Go.RowKit Go.Deep
section
variable {P : Program} {w : World}
theorem own_append_old {e : TypeId} {sz : Nat} {v : Value} {g : Option Nat} {rows : List (List Value)} (h : OwnRows w e sz v g rows) (t u ty : TypeId) (i : TypeInfo) (z : Value) (bytes : Nat)
    (ht : P.underlying t = some (.slice e)) (hi : P.info? e = some i) (hz : i.zero = some z) (hsz : i.size = sz) (hby : i.bytes = bytes) (hzs : z.cells.size = sz)
    {x : Value} {news : List (List Value)} (hsrc : Src P sz u x news.length news.flatten w) (hnl : ∀ r ∈ news, r.length = sz) (h63 : rows.length + news.length ≤ 9223372036854775807) (hb : (rows.length + news.length) * bytes ≤ 140737488355328)
    {v' : Value} {w' : World} (hrun : (Builtin.append_ #[t, u] ty #[v, x]).run P w = .ok v' w') : OwnRows w' e sz v g rows := by
  subst hsz
  subst hby
  rcases id h.2 with ⟨rfl, rfl, rfl⟩ | ⟨b, off, cap, cur, rfl, rfl, hg, hl, hm, hs, htk⟩
  · exact OwnRows.nil _ _ _
  · have hrl : rows.flatten.length = rows.length * i.size := flatten_length h.1
    by_cases hroom : rows.length + news.length ≤ cap
    · have hfl : news.flatten.length = news.length * i.size := flatten_length hnl
      have h1 : (rows.length + news.length) * i.size ≤ cap * i.size := Nat.mul_le_mul_right _ hroom
      rw [Nat.add_mul] at h1
      have hst := run_storeCells_at P b (off + rows.length * i.size) e news.flatten 0 cur w hg (by omega) hsrc.one
      simp only [Nat.add_zero] at hst
      have hr : (Builtin.append_ #[t, u] ty #[.slice (some ⟨b, off, none⟩) rows.length cap, x]).run P w = .ok (.slice (some ⟨b, off, none⟩) (rows.length + news.length) cap) (w.setRow b (cur.toList.take (off + rows.length * i.size) ++ news.flatten ++ cur.toList.drop (off + rows.length * i.size + news.flatten.length)).toArray) := by
        rcases hsrc.kind with ⟨e', hk⟩ | hk <;> simp [Builtin.append_, run_underlying ht, run_underlying hk, sizeOf, typeInfo, hi, hsrc.len, hroom, hsrc.cells, Addr.add_lit, hst]
      rw [hr] at hrun
      cases hrun
      refine ⟨h.1, .inr ⟨b, off, cap, _, rfl, rfl, setRow_heap w b cur _ e _ hg, hl, hm, ?_, ?_⟩⟩
      · simp only [List.size_toArray, List.length_append, List.length_take, List.length_drop, Array.length_toList]
        omega
      · rw [List.append_assoc, List.drop_append]
        have e1 : (cur.toList.take (off + rows.length * i.size)).drop off = rows.flatten := by
          rw [List.drop_take, Nat.add_sub_cancel_left, htk]
        have e2 : off - (cur.toList.take (off + rows.length * i.size)).length = 0 := by simp; omega
        rw [e1, e2, List.drop_zero, ← hrl, List.take_left]
    · have hold : (Builtin.firstCells i.size rows.length (.slice (some ⟨b, off, none⟩) rows.length cap)).run P w.drew = .ok rows.flatten.toArray w.drew := by
        refine run_firstCells_some w.drew i.size rows.length ⟨b, off, none⟩ _ _ _ (flatten_length h.1) fun j q hq => ?_
        rw [Addr.add_lit, cell_of_row w.drew b _ cur e (0, 0) hg]
        rw [← htk, List.getElem?_take] at hq
        split at hq
        · rw [List.getElem?_drop] at hq; simpa using hq
        · cases hq
      have hr := run_append_grow_src (P := P) w t u ty e i z ht hi hz (some ⟨b, off, none⟩) rows.length cap rows.flatten hold x news.length news.flatten hsrc (by omega) (by omega) (growslice_fits (by omega) hb)
      rw [hr] at hrun
      cases hrun
      exact h.agree fun b' hb' => (((Keep.refl No w).drew).alloc _).block b' (h.lt hb') fun x => x
theorem Own.append_old {s : Sh} {e : TypeId} {S T : Nat → Prop} {v : Value} {l : List s.T} (h : Own s e w S v l) (t ty : TypeId) (i : TypeInfo) (z : Value) (bytes : Nat)
    (ht : P.underlying t = some (.slice e)) (hi : P.info? e = some i) (hz : i.zero = some z) (hsz : i.size = s.size) (hby : i.bytes = bytes) (hzs : z.cells.size = s.size)
    {b : Nat} {cs : Array Value} {x : s.T} {tb : TypeId} {fr : Nat × Nat} (hg : w.heap[b]? = some (.cells cs tb fr)) (hx : Rd s w T cs.toList x) (h63 : l.length + 1 ≤ 9223372036854775807) (hb : (l.length + 1) * bytes ≤ 140737488355328) (c0 : Nat)
    {v' : Value} {w' : World} (hrun : (Builtin.append_ #[t, t] ty #[v, .slice (some ⟨b, 0, none⟩) 1 c0]).run P w = .ok v' w') : Own s e w' S v l := by
  obtain ⟨g, rows, U, h1, h2, h3, h4, h5⟩ := h
  have hlen : cs.toList.length = s.size := hx.length s
  have hsrc : Src P s.size t (.slice (some ⟨b, 0, none⟩) 1 c0) [cs.toList].length [cs.toList].flatten w := by
    simp only [List.flatten_cons, List.flatten_nil, List.append_nil]
    exact Src.ofBlock ht b 1 c0 cs tb fr hg (by simpa using hlen) (hx.one s)
  have ho := own_append_old h1 t t ty i z bytes ht hi hz hsz hby hzs hsrc (by simpa using hlen) (by simp; omega) (by simpa [h2] using hb) hrun
  obtain ⟨a, c, w2, g', hr, -, -, hk, -⟩ := own_append h1 t t ty i z bytes ht hi hz hsz hby hzs hsrc (by simpa using hlen) (by simp; omega) (by simpa [h2] using hb)
  rw [hrun] at hr
  cases hr
  exact ⟨g, rows, U, ho, h2, fun j hj hj' => (h3 j hj hj').agree s (hk.agree fun k _ hu hgk => (h4 k hgk).2 hu), h4, h5⟩
end
end Go.Proofs.YtcallmnhaikfpaaGreatDoor
namespace Go.Proofs.YtcallmnhaikfpaaGreatDoor
open Go Go.RowKit Go.Deep
theorem planAt' {w : World} {S : Nat → Prop} {a : Option Addr} {n c : Nat} {l : List Plan} (h : Rd (.slice planSh) w S [.slice a n c] l) (k : Nat) (hk : k < l.length) :
    ∃ (b off x1 : Nat) (y1 : Option Addr) (x2 : Nat) (y2 : Option Addr) (x3 : Nat) (y3 : Option Addr), a = some ⟨b, off, none⟩ ∧ n = l.length ∧ b < w.heap.size ∧ S b ∧
      RowAt w b (off + k * 7) [.int .i64 l[k].client, .int .u64 l[k].token, .string l[k].name, .slice y1 l[k].args.length x1, .int .i64 l[k].how, .slice y2 l[k].reads.length x2, .slice y3 l[k].writes.length x3] ∧
      Rd planSh w S [.int .i64 l[k].client, .int .u64 l[k].token, .string l[k].name, .slice y1 l[k].args.length x1, .int .i64 l[k].how, .slice y2 l[k].reads.length x2, .slice y3 l[k].writes.length x3] l[k] := by
  obtain ⟨b, off, row, rfl, rfl, h1, h2, h3, h4, h5⟩ := Rd.elem' h k hk
  obtain ⟨y1, x1, y2, x2, y3, x3, rfl, -⟩ := plan_form h5
  exact ⟨b, off, x1, y1, x2, y2, x3, y3, rfl, rfl, h1, h2, h4, h5⟩
theorem row_seven {w : World} {b o : Nat} {x0 x1 x2 x3 x4 x5 x6 : Value} (h : RowAt w b o [x0, x1, x2, x3, x4, x5, x6]) :
    w.cell? ⟨b, o, none⟩ = some x0 ∧ w.cell? ⟨b, o + 1, none⟩ = some x1 ∧ w.cell? ⟨b, o + 2, none⟩ = some x2 ∧ w.cell? ⟨b, o + 3, none⟩ = some x3 ∧ w.cell? ⟨b, o + 4, none⟩ = some x4 ∧ w.cell? ⟨b, o + 5, none⟩ = some x5 ∧ w.cell? ⟨b, o + 6, none⟩ = some x6 :=
  ⟨(h 0 (by simp)).1, (h 1 (by simp)).1, (h 2 (by simp)).1, (h 3 (by simp)).1, (h 4 (by simp)).1, (h 5 (by simp)).1, (h 6 (by simp)).1⟩
def PlansOk (ps : List Plan) : Prop := ∀ p ∈ ps, p.Fit ∧ p.Few
structure App1 (w : World) (ps : List Plan) (k : Nat) (wr : World) : Prop where
  kle : k ≤ ps.length
  keep : Keep No w wr
  bad : badAt 0 ps = badAt k (ps.drop k)
def OldView (w : World) (B : Nat) (S : Nat → Prop) (x : Lg) (W : World) : Prop :=
  ∀ a c, w.heap[B]? = some (.cells #[.slice a x.l.length c, .int .i64 x.epoch] 80 (0, 0)) → Rd (.slice entrySh) W (fun i => (S i ∨ w.heap.size ≤ i) ∧ i ≠ B) [.slice a x.l.length c] x.l
structure App2 (w : World) (B : Nat) (S : Nat → Prop) (x : Lg) (ep : Int) (ps : List Plan) (k : Nat) (wr : World) : Prop where
  kle : k ≤ ps.length
  keep : Keep S w wr
  at' : ∃ S' : Nat → Prop, LogAt 80 wr B S' ⟨x.l ++ layAt x.l.length ep (ps.take k), x.epoch⟩ ∧ ∀ i, S' i → S i ∨ w.heap.size ≤ i
  first : k = 0 → Keep No w wr
  old : k ≤ 1 → OldView w B S x wr
theorem right_w (w : World) (U : Nat → Prop) (W : World) (cs : List Value) (p : Plan) (h : Rd planSh w U cs p) (hk : Keep No w W) (hf : p.Fit) : Calls Tryz.prog 31 #[.agg cs.toArray] W fun e w' => e = .returned (.int .i64 p.right) ∧ RowKit.Hid (Keep No w w') :=
  (right_any W U cs p (h.agree _ hk.agreeNo) hf).mono (by
    rintro e w' ⟨rfl, hk'⟩
    exact ⟨rfl, hk.trans hk'⟩)
set_option maxRecDepth 10000 in
set_option maxHeartbeats 4000000 in
theorem logAppend_main2 (w : World) (B : Nat) (S U : Nat → Prop) (x : Lg) (h : LogAt 80 w B S x) (ep : Int) (hwe : (Lit.int .i64 ep).wf = true) (a : Option Addr) (m c : Nat) (ps : List Plan) (hps : Rd (.slice planSh) w U [.slice a m c] ps) (hU : ∀ k, U k → ¬ S k)
    (hok : PlansOk ps) (he : ¬ (ep < x.epoch ∨ ep < 0)) (hm : ¬ 65536 < x.l.length + ps.length) :
    Calls Tryz.prog 11 #[.pointer (some ⟨B, 0, none⟩), .int .i64 ep, .slice a m c] w (fun e w' => Appended w B S (x.append ep ps) e w' ∧ (ps.length ≤ 1 → OldView w B S x w')) := by
  have h0 := h
  obtain ⟨ov, SO, h1, h2, -, h2S, -⟩ := h
  obtain ⟨a1, d1, rfl, _⟩ := h2.form
  have HV : RowKit.Hid (∀ W, Keep No w W → OldView w B S x W) := fun W hk a c hbl => by
    rw [h1] at hbl
    simp only [Option.some.injEq, Obj.cells.injEq, Array.mk.injEq, List.cons.injEq, Value.slice.injEq, and_true, true_and] at hbl
    obtain ⟨rfl, rfl⟩ := hbl
    exact (Own.rd (h2.agree hk.agreeNo)).mono _ fun i _ hi => ⟨.inl (h2S i hi).1, (h2S i hi).2⟩
  clear h2S
  obtain rfl : m = ps.length := by obtain ⟨a', c', e, -⟩ := hps; simp at e; exact e.2.1
  have hps0 := hps
  have c0 := blk_cell h1
  have hB := blk_lt h1
  have e1 : ¬ ep < x.epoch := fun hh => he (.inl hh)
  have e2 : ¬ ep < 0 := fun hh => he (.inr hh)
  have e3 : ¬ (65536 : Int) < (x.l.length : Int) + (ps.length : Int) := by omega
  have e4 : ps.length ≤ 65536 := by omega
  have hnone : badAt 0 ps = none → x.append ep ps = (⟨x.l.length, 0, 0⟩, ⟨x.l ++ layAt x.l.length ep ps, ep⟩) := fun hh => by
    unfold Lg.append; rw [if_neg he, if_neg hm, hh]
  have hsome : ∀ e i, badAt 0 ps = some (e, i) → x.append ep ps = (⟨0, e, i⟩, x) := fun e i hh => by
    unfold Lg.append; rw [if_neg he, if_neg hm, hh]
  have HH := Lib.hid (And.intro h2 (And.intro he (And.intro hm (And.intro e4 (And.intro hnone (And.intro hsome h0))))))
  clear hnone hsome he hm h2 e4
  go_enter Tryz.func11, Tryz.ntmps11
  go_wp2_with fail
  go_loopw [41] (fun i wr => ∃ k : Nat, i = .int .i64 k ∧ RowKit.Hid (App1 w ps k wr)) (fun i _ => ps.length - (intOf i).toNat)
  case atStart => exact ⟨0, rfl, ⟨Nat.zero_le _, Keep.refl _ _, rfl⟩⟩
  case round =>
    obtain ⟨k, rfl, HA⟩ := hrel
    by_cases hlt : k < ps.length
    · obtain ⟨b, off, x1, y1, x2, y2, x3, y3, rfl, -, hb, -, hr, hx⟩ := planAt' hps k hlt
      have hfit := (hok ps[k] (List.getElem_mem hlt)).1
      have hbad := badAt_at hlt
      obtain ⟨r0, r1, r2, r3, r4, r5, r6⟩ := row_seven (hr.agree (HA.out.keep.block b hb (fun x => x)))
      have hright := right_w wr U (wr.alloc (.cells [.int .i64 ps[k].client, .int .u64 ps[k].token, .string ps[k].name, .slice y1 ps[k].args.length x1, .int .i64 ps[k].how, .slice y2 ps[k].reads.length x2, .slice y3 ps[k].writes.length x3].toArray 43)) _ ps[k] (hx.agree _ HA.out.keep.agreeNo) ((Keep.refl No wr).alloc _) hfit
      have hw0 := HA.out.keep.size
      have HX := Lib.hid (And.intro hlt hbad)
      generalize hrt : ps[k].right = rt at *
      have j0 : (0 : Int) ≤ k := by omega
      have j1 : (k : Int) < ps.length := by omega
      have j3 : (k : Int) ≤ 9223372036854775806 := by have := HH.out.2.2.2.1; omega
      clear hx hr hfit hbad hps hps0 hok hrt
      generalize ps[k].client = v1 at *
      generalize ps[k].token = v2 at *
      generalize ps[k].name = v3 at *
      generalize ps[k].how = v4 at *
      generalize ps[k].args.length = m1 at *
      generalize ps[k].reads.length = m2 at *
      generalize ps[k].writes.length = m3 at *
      clear hlt h0 h1 hwe hB c0
      by_cases hz : rt = 0
      · subst hz
        go_wp2_with (go_at_call 31; refine hright.mono ?_; clear hright; rintro e w5 ⟨rfl, HK⟩)
        go_roundw
        case rel => exact ⟨k + 1, by simp, HX.out.1, (HA.out.keep.trans HK.out), by rw [HA.out.bad, HX.out.2]; simp⟩
        case measure => simp [intOf]; have := HX.out.1; omega
      · have hzb : (rt != 0) = true := by simpa using hz
        have HZ := Lib.hid hz
        clear hz
        go_wp2_with (go_at_call 31; refine hright.mono ?_; clear hright; rintro e w5 ⟨rfl, HK⟩)
        refine bodyPost_ret (v := .tuple #[.int .i64 0, .int .i64 rt, .int .i64 k]) (by simp [results, Tryz.results11, go_sem]) rfl ?_
        have hb0 := HA.out.bad
        rw [HX.out.2, if_pos HZ.out] at hb0
        rw [HH.out.2.2.2.2.2.1 _ _ hb0]
        have hk := (HA.out.keep.trans HK.out)
        exact ⟨⟨rfl, S, HH.out.2.2.2.2.2.2.agree hk.agreeNo hk.size, fun k hk => .inl hk, hk.mono fun _ _ h => h.elim⟩, fun _ => HV.out _ hk⟩
    · obtain rfl : k = ps.length := by have := HA.out.kle; omega
      have K1 := HA.out.keep
      have hb0 := HA.out.bad
      rw [badAt_end (Nat.le_refl _)] at hb0
      have HN := Lib.hid (HH.out.2.2.2.2.1 hb0)
      have b1 := K1.blk h1 (fun x => x)
      have c1 := blk_cell b1
      clear hb0 hlt hps HA c0 h1
      have HB := Lib.hid (And.intro hps0 (And.intro hok (And.intro K1 (And.intro hU hwe))))
      clear hps0 hok K1 hB b1 h0 hwe hU
      go_wp2_with fail
      go_loopw [60] (fun i wr => ∃ k : Nat, i = .int .i64 k ∧ RowKit.Hid (App2 w B S x ep ps k wr)) (fun i _ => ps.length - (intOf i).toNat)
      case atStart => exact ⟨0, rfl, ⟨Nat.zero_le _, HB.out.2.2.1.mono fun _ _ h => h.elim, ⟨S, by simpa [layAt] using HH.out.2.2.2.2.2.2.agree HB.out.2.2.1.agreeNo HB.out.2.2.1.size, fun i hi => .inl hi⟩, fun _ => HB.out.2.2.1, fun _ => HV.out _ HB.out.2.2.1⟩⟩
      case round =>
        clear c1
        rename_i wr0 _
        obtain ⟨k, rfl, HA⟩ := hrel
        by_cases hlt : k < ps.length
        · have hps := HB.out.1
          have K2 := HA.out.keep
          have hU := HB.out.2.2.2.1
          obtain ⟨S', ⟨ov', SO', g1, g2, g3, g4, g5, g6⟩, hS'⟩ := HA.out.at'
          have hpk := HB.out.2.1 ps[k] (List.getElem_mem hlt)
          have hlen65 := HH.out.2.2.1
          have hyl : (x.l ++ layAt x.l.length ep (ps.take k)).length = x.l.length + k := by
            rw [List.length_append, layAt_length, List.length_take, Nat.min_eq_left (by omega)]
          have hsn : x.l ++ layAt x.l.length ep (ps.take (k + 1)) = (x.l ++ layAt x.l.length ep (ps.take k)) ++ [mkEnt ((x.l.length + k : Nat) : Int) ep ps[k]] := by
            rw [List.take_succ_eq_append_getElem hlt, layAt_snoc, List.length_take, Nat.min_eq_left (by omega), List.append_assoc]
          simp only at g1 g2 g5
          generalize hY : x.l ++ layAt x.l.length ep (ps.take k) = Y at *
          obtain ⟨a9, d9, rfl, _⟩ := g2.form
          rw [hyl] at g1 g2
          generalize hnk : x.l.length + k = nk at *
          obtain ⟨b, off, x1, y1, x2, y2, x3, y3, rfl, -, hb, hUb, hr, hx⟩ := planAt' hps k hlt
          obtain ⟨r0, r1, r2, r3, r4, r5, r6⟩ := row_seven (hr.agree (K2.block b hb (hU _ hUb)))
          have hx2 := hx.agree _ (K2.agree fun i _ hi => hU i hi)
          have j0 : (0 : Int) ≤ k := by omega
          have j1 : (k : Int) < ps.length := by omega
          have j3 : (k : Int) ≤ 9223372036854775806 := by omega
          have hwr := g6 B g3
          have bA := blk_alloc (o' := .cells [.int .i64 ps[k].client, .int .u64 ps[k].token, .string ps[k].name, .slice y1 ps[k].args.length x1, .int .i64 ps[k].how, .slice y2 ps[k].reads.length x2, .slice y3 ps[k].writes.length x3].toArray 43) g1
          have cA := blk_cell bA
          have MA : Keep No wr (wr.alloc (.cells [.int .i64 ps[k].client, .int .u64 ps[k].token, .string ps[k].name, .slice y1 ps[k].args.length x1, .int .i64 ps[k].how, .slice y2 ps[k].reads.length x2, .slice y3 ps[k].writes.length x3].toArray 43)) := (Keep.refl No wr).alloc _
          have hown := (ownP_any _ U _ ps[k] (hx2.agree _ MA.drew.agreeNo) hpk.2.args hpk.2.reads hpk.2.writes).mono (R' := fun e w3 => ∃ b1 d1 b2 d2 b3 d3, e = .returned (.agg #[.int .i64 ps[k].client, .int .u64 ps[k].token, .string ps[k].name, .slice b1 ps[k].args.length d1, .int .i64 ps[k].how, .slice b2 ps[k].reads.length d2, .slice b3 ps[k].writes.length d3]) ∧
              w3.heap[B]? = some (.cells #[.slice a9 nk d9, .int .i64 x.epoch] 80 (0, 0)) ∧
              RowKit.Hid (Keep No wr w3 ∧ Rd planSh w3 (Fr wr.heap.size w3.heap.size) [.int .i64 ps[k].client, .int .u64 ps[k].token, .string ps[k].name, .slice b1 ps[k].args.length d1, .int .i64 ps[k].how, .slice b2 ps[k].reads.length d2, .slice b3 ps[k].writes.length d3] ps[k])) (by
            rintro e w3 ⟨⟨cs'⟩, rfl, hr3, hk3⟩
            obtain ⟨b1, d1, b2, d2, b3, d3, e3, -⟩ := plan_form hr3
            subst e3
            exact ⟨b1, d1, b2, d2, b3, d3, rfl, hk3.blk bA (fun x => x), (MA.drew).trans hk3, hr3.mono _ fun i _ hi => ⟨by have := hi.1; simp at this; omega, hi.2⟩⟩)
          have HG := Lib.hid (And.intro g2 (And.intro g3 (And.intro g4 (And.intro g5 (And.intro g6 (And.intro hS' (And.intro hsn (And.intro hyl (And.intro hlt (And.intro hlen65 hnk))))))))))
          have HW : RowKit.Hid (w.heap.size ≤ wr.heap.size) := K2.size
          have HY1 := Lib.hid (And.intro g1 hY)
          clear g1 g2 g3 g4 g5 g6 hS' hsn hyl hlen65 hnk hx hx2 hr K2 hU hps hpk MA bA
          generalize ps[k] = pk at *
          clear hlt
          go_upto_region 18 with fail
          refine wp_region_can [0, 1, 2, 3, 4, 5, 6, 7, 8, 9, 10, 11, 12, 13, 14, 15, 16, 17, 18] [12, 14, 15, 18] [(0, 12), (1, 12), (2, 12), (3, 12), (4, 12), (5, 12), (6, 12), (7, 12), (8, 12), (9, 12), (10, 12), (0, 14), (1, 14), (2, 14), (3, 14), (4, 14), (0, 15)] (by kernel_rfl) (by kernel_rfl) (by kernel_rfl) (by kernel_rfl) (by intro c a d v w h; cases d <;> exact h) ?_
          iterate 12 (refine can_sil rfl rfl (fun K hK => ?_); go_simp; refine hK _ ?_; clear hK K)
          refine can_loud [0, 1, 2, 3, 4, 5, 6, 7, 8, 9, 10] rfl rfl rfl (fun K hK => ?_)
          go_wp2_with fail
          refine hown.mono ?_
          clear hown cA
          rintro e w3 ⟨b1, d1, b2, d2, b3, d3, rfl, z1, HD⟩
          have c3 := blk_cell z1
          have c4 : ∀ o j, (w3.alloc o).cell? ⟨B, j, none⟩ = #[Value.slice a9 nk d9, .int .i64 x.epoch][j]? := fun o => blk_cell (blk_alloc z1)
          go_wp2_with fail
          refine Mid.normal (hK _ _ ?_ ?_)
          · simp only [List.forall_mem_cons]
            refine ⟨?_, ?_, ?_, ?_, ?_, ?_, ?_, ?_, ?_, ?_, ?_, stabs_nil⟩ <;> exact stab_of rfl (fun K hK => by go_simp; exact hK)
          clear hK K
          refine can_sil rfl rfl (fun K hK => ?_); go_simp; refine hK _ ?_; clear hK K
          refine can_loud [0, 1, 2, 3, 4] rfl rfl rfl (fun K hK => ?_)
          go_wp2_with fail
          refine Mid.normal (hK _ _ ?_ ?_)
          · simp only [List.forall_mem_cons]
            refine ⟨?_, ?_, ?_, ?_, ?_, stabs_nil⟩ <;> exact stab_of rfl (fun K hK => by go_simp; exact hK)
          clear hK K
          obtain ⟨i0, hi, hz0, hz1, hz2⟩ := info_parts Tryz.infoEnt
          obtain ⟨n2, n3, n4, n5, n6, hS', hsn, hyl, hlt, hlen65, hnk⟩ := HG.out
          obtain ⟨m1, hrd⟩ := HD.out
          have hlen1 : Y.length + 1 ≤ 65536 := by omega
          have wfs : (Lit.int .i64 (nk : Int)).wf = true := wf_i64 (by omega) (by omega)
          have hent := ent_mk (s := (nk : Int)) (e := ep) hrd wfs HB.out.2.2.2.2
          rw [← hyl] at n2
          have n2' := n2.agree (m1.alloc (.cells #[.int .i64 (nk : Int), .int .i64 ep, .int .i64 pk.client, .int .u64 pk.token, .string pk.name, .slice b1 pk.args.length d1, .int .i64 pk.how, .slice b2 pk.reads.length d2, .slice b3 pk.writes.length d3] 58)).agreeNo
          obtain ⟨a7, d7, w4, hrun, ho, m2, hs2⟩ := Own.append (s := entrySh) (S := SO') (T := Fr wr.heap.size w3.heap.size) n2' 78 78 i0 _ 128 Tryz.underlying78 hi hz0 hz1 hz2 rfl (blk_new w3 _) (hent.agree _ ((Keep.refl No w3).alloc _).agreeNo) (fun j hj hf => by have := n6 j (n4 j hj).1; have := hf.1; omega) (by omega) (by omega) 1
          rw [hyl] at hrun ho
          refine can_loud [0] rfl rfl rfl (fun K hK => ?_)
          refine wpList_app rfl (.tmp 68) (.tmp 78) 78 78 rfl rfl rfl hrun ?_
          have z4 := m2.blk (blk_alloc z1) (fun h => (n4 B h).2 rfl)
          have c5 := blk_cell z4
          have f5 := blk_fro z4
          go_wp2_with fail
          refine Mid.normal (hK _ _ ?_ ?_)
          · simp only [List.forall_mem_cons]
            refine ⟨?_, stabs_nil⟩ <;> exact stab_of rfl (fun K hK => by go_simp; exact hK)
          clear hK K
          iterate 2 (refine can_sil rfl rfl (fun K hK => ?_); go_simp; refine hK _ ?_; clear hK K)
          refine can_loud [] rfl rfl rfl (fun K hK => ?_)
          go_wp2_with fail
          refine Mid.normal (hK _ _ stabs_nil ?_)
          clear hK K
          refine can_nil ?_
          have z5 := blk_set z4 0 (.slice a7 (nk + 1) d7)
          have hs1 := m1.size
          have hs2' := m2.size
          simp only [World.size_alloc] at hs2'
          obtain ⟨hC, hKF⟩ := app_fin (w := wr) (w1 := w4) (x := ⟨Y, x.epoch⟩) (e := mkEnt nk ep pk) (T := fun i => wr.heap.size ≤ i ∧ i < w4.heap.size) (by simpa using z5) n3 n4 n5 n6 (ho.live.mono fun j hj => hj.1.imp id fun h => ⟨h.elim (fun h => h.1) (fun h => by simp at h; omega), hj.2⟩) (fun _ h => h) (((m1.alloc _).mono fun _ _ h => h.elim).trans m2) (keep_set _ _ _ _)
          rw [← hsn] at hC
          have hO : RowKit.Hid (k + 1 ≤ 1 → OldView w B S x (w4.setCell ⟨B, 0, none⟩ (.slice a7 (nk + 1) d7))) := fun hk1 a c hbl => by
            obtain rfl : k = 0 := by omega
            have hB2 := (HA.out.first rfl).blk hbl (fun x => x)
            obtain ⟨g1, hY⟩ := HY1.out
            rw [g1] at hB2
            simp only [Option.some.injEq, Obj.cells.injEq, Array.mk.injEq, List.cons.injEq, Value.slice.injEq, and_true, true_and] at hB2
            obtain ⟨rfl, rfl, rfl⟩ := hB2
            have hYx : Y = x.l := by rw [← hY]; simp [layAt]
            have hold := Own.append_old (s := entrySh) (S := SO') (T := Fr wr.heap.size w3.heap.size) n2' 78 78 i0 _ 128 Tryz.underlying78 hi hz0 hz1 hz2 rfl (blk_new w3 _) (hent.agree _ ((Keep.refl No w3).alloc _).agreeNo) (by omega) (by omega) 1 (by rw [hyl]; exact hrun)
            rw [hYx] at hold
            exact (Own.rd (hold.agree (agree_set (fun h => (n4 B h).2 rfl) _ _))).mono _ fun i _ hi => ⟨hS' i (n4 i hi).1, (n4 i hi).2⟩
          clear c5 f5 z4 z5 c3 c4 hrun ho m2 hs2 hs2' n2 n2' hent m1 hrd
          clear r0 r1 r2 r3 r4 r5 r6 z1
          go_wp2_with fail
          go_roundw
          case rel =>
            have hws := HW.out
            exact ⟨k + 1, by simp, hlt, HA.out.keep.then hKF (fun i hi h => (hS' i h).elim id (fun h => by omega)), ⟨_, hC, fun i hi => hi.elim (fun h => hS' i h) (fun h => .inr (by omega))⟩, fun h => by omega, hO.out⟩
          case measure => simp [intOf]; omega
        · obtain rfl : k = ps.length := by have := HA.out.kle; omega
          obtain ⟨S', ⟨ov', SO', g1, g2, g3, g4, g5, g6⟩, hS'⟩ := HA.out.at'
          rw [List.take_length] at g1 g2
          simp only at g1 g2 g5
          have cA := blk_cell g1
          have fA := blk_fro g1
          have z5 := blk_set g1 1 (.int .i64 ep)
          have HG := Lib.hid (And.intro g2 (And.intro g3 (And.intro g4 (And.intro g6 (And.intro hS' z5)))))
          clear g1 g2 g3 g4 g5 g6 hS' z5 hlt
          go_wp2_with fail
          refine bodyPost_ret (v := .tuple #[.int .i64 x.l.length, .int .i64 0, .int .i64 0]) (by simp [results, Tryz.results11, go_sem]) rfl ?_
          obtain ⟨n2, n3, n4, n6, hS', z5⟩ := HG.out
          rw [HN.out]
          refine ⟨⟨rfl, S', ⟨ov', SO', by simpa using z5, n2.agree ?_, n3, n4, HB.out.2.2.2.2, fun i hi => by simpa using n6 i hi⟩, hS', HA.out.keep.then (keep_set _ _ _ _) fun i hi e => ?_⟩, fun hl1 a c hbl => (HA.out.old hl1 a c hbl).agree _ (agree_set (fun h => h.2 rfl) _ _)⟩
          · exact agree_set (fun h => (n4 B h).2 rfl) _ _
          · obtain rfl : i = B := e
            exact (hS' i n3).elim id fun h => by omega
theorem logAppend_main (w : World) (B : Nat) (S U : Nat → Prop) (x : Lg) (h : LogAt 80 w B S x) (ep : Int) (hwe : (Lit.int .i64 ep).wf = true) (a : Option Addr) (m c : Nat) (ps : List Plan) (hps : Rd (.slice planSh) w U [.slice a m c] ps) (hU : ∀ k, U k → ¬ S k)
    (hok : PlansOk ps) (he : ¬ (ep < x.epoch ∨ ep < 0)) (hm : ¬ 65536 < x.l.length + ps.length) :
    Calls Tryz.prog 11 #[.pointer (some ⟨B, 0, none⟩), .int .i64 ep, .slice a m c] w (Appended w B S (x.append ep ps)) :=
  (logAppend_main2 w B S U x h ep hwe a m c ps hps hU hok he hm).mono fun _ _ h => h.1
theorem logAppend_any (w : World) (B : Nat) (S U : Nat → Prop) (x : Lg) (h : LogAt 80 w B S x) (hx : x.l.length ≤ 65536) (ep : Int) (hwe : (Lit.int .i64 ep).wf = true) (v : Value) (ps : List Plan) (hps : Rd (.slice planSh) w U [v] ps) (hU : ∀ k, U k → ¬ S k)
    (hok : PlansOk ps) (hm : ps.length ≤ 4611686018427387904) :
    Calls Tryz.prog 11 #[.pointer (some ⟨B, 0, none⟩), .int .i64 ep, v] w (Appended w B S (x.append ep ps)) := by
  obtain ⟨a, c, hv, -⟩ := id hps
  simp only [List.cons.injEq, and_true] at hv
  subst hv
  by_cases he : ep < x.epoch ∨ ep < 0
  · have := logAppend_epoch w B S x h ep (.slice a ps.length c) he
    unfold Lg.append
    rw [if_pos he]
    exact this
  · by_cases hc : 65536 < x.l.length + ps.length
    · have := logAppend_many w B S x h ep a ps.length c he hx hc hm
      unfold Lg.append
      rw [if_neg he, if_pos hc]
      exact this
    · exact logAppend_main w B S U x h ep hwe a _ c ps hps hU hok he hc
end Go.Proofs.YtcallmnhaikfpaaGreatDoor
namespace Go.Proofs.YtcallmnhaikfpaaGreatDoor
open Go Go.RowKit Go.Deep
def OwnE (lo : Nat) (w : World) (v : Value) (l : List Ent) : Prop := Own entrySh 58 w (Fr lo w.heap.size) v l
theorem OwnE.keep {lo : Nat} {w w' : World} {v : Value} {l : List Ent} (h : OwnE lo w v l) {M : Nat → Prop} (hk : Keep M w w') (hM : ∀ i, lo ≤ i → ¬ M i) : OwnE lo w' v l := by
  unfold OwnE at h ⊢
  have hs := hk.size
  exact Own.mono (h.agree (hk.agree fun i _ hi => hM i hi.1)) fun i hi => ⟨hi.1, by have := hi.2; omega⟩
theorem own_ent {w : World} {lo m : Nat} {v : Value} {l : List Ent} (h : Own entrySh 58 w (Fr lo m) v l) {cs : List Value} {x : Ent} (hx : Rd entrySh w (Fr m w.heap.size) cs x) (hlo : lo ≤ m) (hm : m ≤ w.heap.size) (hl : l.length + 1 ≤ 1048576) :
    ∃ a c w', (Builtin.append_ #[78, 78] 78 #[v, .slice (some ⟨w.heap.size, 0, none⟩) 1 1]).run Tryz.prog (w.alloc (.cells cs.toArray 58)) = .ok (.slice a (l.length + 1) c) w' ∧ OwnE lo w' (.slice a (l.length + 1) c) (l ++ [x]) ∧ Keep (Fr lo m) w w' := by
  obtain ⟨i0, hi0, hz0, hz1, hz2⟩ := info_parts Tryz.infoEnt
  have h1 : Own entrySh 58 (w.alloc (.cells cs.toArray 58)) (Fr lo m) v l := Own.agree h ((Keep.refl No w).alloc _).agreeNo
  obtain ⟨a, c, w', hr, ho, hk, hs⟩ := Own.append (P := Tryz.prog) (s := entrySh) (T := Fr m w.heap.size) h1 78 78 i0 _ 128 Tryz.underlying78 hi0 hz0 hz1 hz2 rfl (blk_new w _) (x := x) (by simpa using Rd.agree _ hx ((Keep.refl No w).alloc (.cells cs.toArray 58)).agreeNo) (fun k h1 h2 => by have := h1.2; have := h2.1; omega) (by omega) (by omega) 1
  have hs' := hk.size
  simp only [World.size_alloc] at hs'
  refine ⟨a, c, w', hr, Own.mono ho.live fun k hk' => ?_, ((Keep.refl _ w).alloc _).then hk fun i _ hi => hi⟩
  obtain ⟨h1 | h1 | h1, h2⟩ := hk'
  · exact ⟨h1.1, h2⟩
  · exact ⟨by have := h1.1; omega, h2⟩
  · simp only [World.size_alloc] at h1; exact ⟨by omega, h2⟩
theorem told_cells (w : World) (S : Nat → Prop) (cs : List Value) (x : Ent) (h : Rd entrySh w S cs x) (hp : x.plan.Few) :
    Calls Tryz.prog 38 #[.agg cs.toArray] w fun e w' => ∃ b1 d1 b2 d2 b3 d3, e = .returned (.agg #[.int .i64 x.seq, .int .i64 x.epoch, .int .i64 x.plan.client, .int .u64 x.plan.token, .string x.plan.name, .slice b1 x.plan.args.length d1, .int .i64 x.plan.how, .slice b2 x.plan.reads.length d2, .slice b3 x.plan.writes.length d3]) ∧
      RowKit.Hid (Keep No w w' ∧ Rd entrySh w' (Fr w.heap.size w'.heap.size) [.int .i64 x.seq, .int .i64 x.epoch, .int .i64 x.plan.client, .int .u64 x.plan.token, .string x.plan.name, .slice b1 x.plan.args.length d1, .int .i64 x.plan.how, .slice b2 x.plan.reads.length d2, .slice b3 x.plan.writes.length d3] x) := by
  refine (told_any w S cs x h hp).mono ?_
  rintro e w5 ⟨⟨cs⟩, rfl, hr, hk⟩
  obtain ⟨ps, e1, h3, w1, w2⟩ := ent_cells hr
  obtain ⟨b1, d1, b2, d2, b3, d3, e3, -⟩ := plan_form h3
  subst e3
  subst e1
  exact ⟨b1, d1, b2, d2, b3, d3, rfl, hk, hr⟩
end Go.Proofs.YtcallmnhaikfpaaGreatDoor
