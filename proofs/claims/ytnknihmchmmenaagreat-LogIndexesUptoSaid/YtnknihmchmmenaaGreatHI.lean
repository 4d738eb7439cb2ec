/-
  The laws' helpers: parts, long, own, entries.
  The laws' helpers: own, entries.
-/
import Derived.Test.YtnknihmchmmenaaGreatGA
import Derived.Test.YtnknihmchmmenaaGreatGB
import Derived.Test.YtnknihmchmmenaaGreatGC
import Derived.Test.YtnknihmchmmenaaGreatGD
import Derived.Test.YtnknihmchmmenaaGreatGK
import Derived.Test.YtnknihmchmmenaaGreatGU
import Derived.Test.YtnknihmchmmenaaGreatGZ
import Derived.Test.YtnknihmchmmenaaGreatGY
import Derived.Test.YtnknihmchmmenaaGreatHA
import Derived.Test.YtnknihmchmmenaaGreatHB
import Derived.Still
import Derived.StillTactics
import Derived.WalkKit
import Derived.WalkSpells
import Derived.WalkLawsBesides
import Derived.ProofKit
import Derived.Deep.Slices
import Derived.Deep.AppendSrc
import Derived.Lib.Hide
import Derived.Recover
import Derived.Defers
import Derived.Deep.QuietTactic
import Derived.BigQuiet
import Derived.Handy
import Derived.Laws.Bits64b
import Derived.Lib.Zigzag
import Derived.OwnWalk
import Derived.Deep.DeepCutAuto
import Derived.Lib.Bytealg
import Derived.Laws.Externs
import Derived.Deep.LoopGhost
import Derived.Laws.CopyRow
import Derived.Laws.IdiomCopy
import Derived.Maps.OwnSet
import Derived.Maps.RangeWalk
import Derived.Shelf.SortM.Plain
import Derived.Shelf.SortM.SortNone
import Derived.Ground.SlgmProg
import Derived.Maps.OwnOps
namespace Go.Proofs.YtnknihmchmmenaaGreat
set_option linter.unusedVariables false
set_option linter.unusedSimpArgs false
open Go Go.RowKit Go.Deep

@[reducible] def actSh : Sh := .struct (.cons (.int .i64) (.cons (.slice planSh) .nil))
abbrev Act' := actSh.T
abbrev Act'.epoch (x : Act') : Int := x.1
abbrev Act'.plans (x : Act') : List Plan := x.2.1
def partsN (p : Plan) : Nat := 1 + p.args.length + p.reads.length + p.writes.length
def partsL (l : List Plan) : Nat := (l.map partsN).sum
def partsA (l : List Act') : Nat := (l.map fun x => partsL x.plans).sum
def lensA (l : List Act') : Nat := (l.map fun x => x.plans.length).sum
def longB (l : List Act') : Bool := decide (100 < l.length) || decide (600 < lensA l) || decide (40000 < partsA l)

theorem partsL_len (l : List Plan) : l.length ≤ partsL l := by
  unfold partsL
  induction l with
  | nil => simp
  | cons p l ih => simp [partsN] at ih ⊢; omega
theorem lensA_le (l : List Act') : lensA l ≤ partsA l := by
  unfold lensA partsA
  induction l with
  | nil => simp
  | cons x l ih => have := partsL_len x.plans; simp at ih ⊢; omega
theorem partsL_succ (l : List Plan) (k : Nat) (h : k < l.length) : partsL (l.take (k + 1)) = partsL (l.take k) + partsN l[k] := by
  unfold partsL
  rw [List.take_succ_eq_append_getElem h, List.map_append, List.sum_append]; simp
theorem partsA_succ (l : List Act') (k : Nat) (h : k < l.length) : partsA (l.take (k + 1)) = partsA (l.take k) + partsL l[k].plans := by
  unfold partsA
  rw [List.take_succ_eq_append_getElem h, List.map_append, List.sum_append]; simp
theorem lensA_succ (l : List Act') (k : Nat) (h : k < l.length) : lensA (l.take (k + 1)) = lensA (l.take k) + l[k].plans.length := by
  unfold lensA
  rw [List.take_succ_eq_append_getElem h, List.map_append, List.sum_append]; simp
theorem partsL_take (l : List Plan) (k : Nat) : partsL (l.take k) ≤ partsL l := by
  unfold partsL
  conv => rhs; rw [← List.take_append_drop k l]
  rw [List.map_append, List.sum_append]
  omega
theorem partsA_take (l : List Act') (k : Nat) : partsA (l.take k) ≤ partsA l := by
  unfold partsA
  conv => rhs; rw [← List.take_append_drop k l]
  rw [List.map_append, List.sum_append]
  omega
theorem partsL_mem {l : List Plan} {p : Plan} (h : p ∈ l) : partsN p ≤ partsL l := by
  obtain ⟨k, hk, rfl⟩ := List.getElem_of_mem h
  have := partsL_succ l k hk
  have := partsL_take l (k + 1)
  omega
theorem partsA_mem {l : List Act'} {x : Act'} (h : x ∈ l) : partsL x.plans ≤ partsA l := by
  obtain ⟨k, hk, rfl⟩ := List.getElem_of_mem h
  have := partsA_succ l k hk
  have := partsA_take l (k + 1)
  omega
theorem parts_few {p : Plan} {n : Nat} (h : partsN p ≤ n) (hn : n ≤ 1048576) : p.Few := by
  unfold partsN at h
  exact ⟨by omega, by omega, by omega⟩

theorem act_cells {w : World} {S : Nat → Prop} {cs : List Value} {x : Act'} (h : Rd actSh w S cs x) : ∃ a c, cs = [.int .i64 x.epoch, .slice a x.plans.length c] ∧ Rd (.slice planSh) w S [.slice a x.plans.length c] x.plans ∧ (Lit.int .i64 x.epoch).wf = true := by
  obtain ⟨_, _, rfl, ⟨rfl, w1⟩, _, _, rfl, h2, rfl⟩ := h
  obtain ⟨a, c, rfl, -⟩ := Rd.sliceForm h2
  exact ⟨a, c, rfl, h2, w1⟩
theorem acts_get {w : World} {S : Nat → Prop} {a : Option Addr} {n c : Nat} {l : List Act'} (h : Rd (.slice actSh) w S [.slice a n c] l) (i : Nat) (hi : i < l.length) :
    ∃ b off a1 c1, a = some ⟨b, off, none⟩ ∧ b < w.heap.size ∧ S b ∧ w.cell? ⟨b, off + i * 2, none⟩ = some (.int .i64 l[i].epoch) ∧ w.cell? ⟨b, off + i * 2 + 1, none⟩ = some (.slice a1 l[i].plans.length c1) ∧
      Rd (.slice planSh) w S [.slice a1 l[i].plans.length c1] l[i].plans ∧ (Lit.int .i64 l[i].epoch).wf = true := by
  obtain ⟨b, off, row, ha, -, hb, hS, -, hrow, hx⟩ := h.elem' i hi
  obtain ⟨a1, c1, rfl, h2, h3⟩ := act_cells hx
  have p0 := (hrow 0 (by simp)).1
  have p1 := (hrow 1 (by simp)).1
  simp [Sh.size] at p0 p1
  exact ⟨b, off, a1, c1, ha, hb, hS, p0, p1, h2, h3⟩

set_option maxRecDepth 10000 in
set_option maxHeartbeats 1000000 in
theorem lparts_any (w : World) (S : Nat → Prop) (cs : List Value) (p : Plan) (h : Rd planSh w S cs p) (hp : partsN p ≤ 1048576) : Calls Tryz.prog 18 #[.agg cs.toArray] w fun e w' => e = .returned (.int .i64 (partsN p)) ∧ Keep No w w' := by
  obtain ⟨a1, c1, a2, c2, a3, c3, rfl, -⟩ := plan_cells h
  have he : ((partsN p : Nat) : Int) = 1 + p.args.length + p.reads.length + p.writes.length := by unfold partsN; omega
  have e1 : (1 : Int) + p.args.length + p.reads.length + p.writes.length ≤ 1048576 := by omega
  rw [he]
  clear h hp he
  generalize p.args.length = m1 at *
  generalize p.reads.length = m2 at *
  generalize p.writes.length = m3 at *
  generalize p.client = v1 at *
  generalize p.token = v2 at *
  generalize p.name = v3 at *
  generalize p.how = v4 at *
  go_enter Tryz.func18, Tryz.ntmps18
  go_wp2_with fail
  go_ret
  exact ⟨rfl, (Keep.refl _ _).alloc _⟩

/-- behind k acts, and j plans of the next -/
structure LongAt (w : World) (l : List Act') (k : Nat) (n m : Nat) (wr : World) : Prop where
  keep : Keep No w wr
  n : n = lensA (l.take k)
  m : m = partsA (l.take k)
structure LongIn (w : World) (l : List Act') (ps : List Plan) (k j : Nat) (m : Nat) (wr : World) : Prop where
  keep : Keep No w wr
  m : m = partsA (l.take k) + partsL (ps.take j)

set_option maxRecDepth 10000 in
set_option maxHeartbeats 2000000 in
theorem long_any (w : World) (S : Nat → Prop) (a : Option Addr) (c : Nat) (l : List Act') (h : Rd (.slice actSh) w S [.slice a l.length c] l) (hb : partsA l ≤ 1048576) (hl : l.length ≤ 1048576) :
    Calls Tryz.prog 29 #[.slice a l.length c] w fun e w' => e = .returned (.bool (longB l)) ∧ Keep No w w' := by
  have HH := Lib.hid (And.intro h (And.intro hb hl))
  clear h hb hl
  go_enter Tryz.func29, Tryz.ntmps29
  go_wp2_with fail
  go_loopw [3, 4, 5] (fun sn sm i wr => ∃ k n m : Nat, i = .int .i64 k ∧ sn = .int .i64 n ∧ sm = .int .i64 m ∧ k ≤ l.length ∧ RowKit.Hid (LongAt w l k n m wr)) (fun _ _ i _ => l.length - (intOf i).toNat)
  case atStart => exact ⟨0, 0, 0, rfl, rfl, rfl, Nat.zero_le _, ⟨Keep.refl _ _, rfl, rfl⟩⟩
  case round =>
    obtain ⟨k, n, m, rfl, rfl, rfl, hk, HA⟩ := hrel
    by_cases hlt : k < l.length
    · obtain ⟨h, hb, hl⟩ := HH.out
      obtain ⟨b, off, a1, c1, rfl, hbl, -, r0, r1, hx, -⟩ := acts_get (h.agree _ HA.out.keep.agreeNo) k hlt
      have j0 : (0 : Int) ≤ (k : Int) := by omega
      have j1 : (k : Int) < (l.length : Int) := by omega
      have j3 : (k : Int) ≤ 9223372036854775806 := by omega
      have s1 := lensA_succ l k hlt
      have s2 := partsA_succ l k hlt
      have s3 := partsA_take l (k + 1)
      have s4 := lensA_le (l.take (k + 1))
      have s5 := partsL_len l[k].plans
      have e1 : (n : Int) + (l[k].plans.length : Int) ≤ 1048576 := by have := HA.out.n; omega
      have HX := Lib.hid (And.intro hx (And.intro hlt (And.intro s1 (And.intro s2 (And.intro s3 (And.intro s4 s5))))))
      generalize hps : l[k].plans = ps at *
      generalize l[k].epoch = ep at *
      clear hps hx hlt s1 s2 s3 s4 s5 h hb hl hk
      go_wp2_with fail
      clear r0
      go_loopw [4, 6] (fun sm i wx => ∃ j m' : Nat, i = .int .i64 j ∧ sm = .int .i64 m' ∧ j ≤ ps.length ∧ RowKit.Hid (LongIn wr l ps k j m' wx)) (fun _ i _ => ps.length - (intOf i).toNat)
      case atStart => exact ⟨0, m, rfl, rfl, Nat.zero_le _, ⟨Keep.refl _ _, by have := HA.out.m; simpa [partsL] using this⟩⟩
      case round =>
        rename_i wr0 _
        obtain ⟨j, m', rfl, rfl, hj, HI⟩ := hrel
        have r1' := (HI.out.keep.cell (b := b) (o := off + k * 2 + 1) hbl (fun x => x)).trans r1
        by_cases hlt2 : j < ps.length
        · obtain ⟨b2, off2, x1, y1, x2, y2, x3, y3, rfl, -, hb2, -, hr2, hx2⟩ := planAt' (HX.out.1.agree _ HI.out.keep.agreeNo) j hlt2
          have hpn : partsN ps[j] ≤ 1048576 := by
            have h1 := partsL_mem (List.getElem_mem hlt2)
            have h2 := HX.out
            have h3 := HH.out.2.1
            omega
          have hpt := (lparts_any wr S _ ps[j] hx2 hpn).mono (R' := fun e w3 => e = .returned (.int .i64 (partsN ps[j])) ∧ RowKit.Hid (Keep No wr w3)) (by rintro e w3 ⟨rfl, h⟩; exact ⟨rfl, h⟩)
          obtain ⟨q0, q1, q2, q3, q4, q5, q6⟩ := row_seven hr2
          have i0 : (0 : Int) ≤ (j : Int) := by omega
          have i1 : (j : Int) < (ps.length : Int) := by omega
          have i3 : (j : Int) ≤ 9223372036854775806 := by have := HX.out.2.2.2.2.2.2; have := HX.out; have := HH.out.2.1; omega
          have hsc := partsL_succ ps j hlt2
          have hst := partsL_take ps (j + 1)
          have e2 : (m' : Int) + (partsN ps[j] : Int) ≤ 1048576 := by have := HI.out.m; have := HX.out; have := HH.out.2.1; omega
          have HJ := Lib.hid (And.intro hlt2 hsc)
          clear hr2 hx2 hpn hsc hst
          generalize partsN ps[j] = pn at *
          generalize ps[j].client = v1 at *
          generalize ps[j].token = v2 at *
          generalize ps[j].name = v3 at *
          generalize ps[j].how = v4 at *
          generalize ps[j].args.length = m1 at *
          generalize ps[j].reads.length = m2 at *
          generalize ps[j].writes.length = m3 at *
          clear hlt2 hj r1
          go_wp2_with (go_at_call 18; refine hpt.mono ?_; clear hpt; rintro e w3 ⟨rfl, HK3⟩)
          go_roundw
          case rel => exact ⟨j + 1, m' + pn, by simp, by simp, HJ.out.1, ⟨HI.out.keep.trans HK3.out, by have h1 := HI.out.m; have h2 := HJ.out.2; omega⟩⟩
          case measure => simp [intOf]; have := HJ.out.1; omega
        · obtain rfl : j = ps.length := by omega
          clear hlt2 hj r1
          go_wp2_with fail
          go_roundw
          case rel =>
            exact ⟨k + 1, n + ps.length, m', by simp, by simp, rfl, HX.out.2.1, ⟨HA.out.keep.trans HI.out.keep, by have h1 := HA.out.n; have h2 := HX.out.2.2.1; omega, by
              have h1 := HI.out.m
              rw [List.take_length] at h1
              have h2 := HX.out.2.2.2.1
              omega⟩⟩
          case measure => simp [intOf]; have := HX.out.2.1; omega
    · obtain rfl : k = l.length := by omega
      have hn := HA.out.n
      have hm := HA.out.m
      rw [List.take_length] at hn hm
      have hres : longB l = (decide (100 < l.length) || decide (600 < n) || decide (40000 < m)) := by rw [hn, hm]; rfl
      have HR := Lib.hid hres
      clear hres hn hm hlt hk
      by_cases e1 : 100 < (l.length : Int)
      · go_wp2_with fail
        go_ret
        exact ⟨by rw [HR.out]; congr 1; symm; simp; omega, HA.out.keep⟩
      · by_cases e2 : 600 < (n : Int)
        · go_wp2_with fail
          go_ret
          exact ⟨by rw [HR.out]; congr 1; symm; simp; omega, HA.out.keep⟩
        · by_cases e3 : 40000 < (m : Int)
          · go_wp2_with fail
            go_ret
            exact ⟨by rw [HR.out]; congr 1; symm; simp; omega, HA.out.keep⟩
          · go_wp2_with fail
            go_ret
            exact ⟨by rw [HR.out]; congr 1; symm; simp; omega, HA.out.keep⟩
end Go.Proofs.YtnknihmchmmenaaGreat

namespace Go.Proofs.YtnknihmchmmenaaGreat
set_option linter.unusedVariables false
set_option linter.unusedSimpArgs false
open Go Go.RowKit Go.Deep

theorem Tryz.infoPlan : (Tryz.prog.info? 38).map (fun i => (i.zero, i.size, i.bytes)) = some (some (.agg #[.int .i64 0, .int .u64 0, .string ⟨#[]⟩, .slice none 0 0, .int .i64 0, .slice none 0 0, .slice none 0 0]), 7, 112) := by kernel_rfl
/-- a plan whose lists are new, put behind -/
theorem own_pln {w : World} {lo m : Nat} {v : Value} {l : List Plan} (h : Own planSh 38 w (Fr lo m) v l) {cs : List Value} {x : Plan} (hx : Rd planSh w (Fr m w.heap.size) cs x) (hlo : lo ≤ m) (hm : m ≤ w.heap.size) (hl : l.length + 1 ≤ 1048576) :
    ∃ a c w', (Builtin.append_ #[50, 50] 50 #[v, .slice (some ⟨w.heap.size, 0, none⟩) 1 1]).run Tryz.prog (w.alloc (.cells cs.toArray 38)) = .ok (.slice a (l.length + 1) c) w' ∧ Own planSh 38 w' (Fr lo w'.heap.size) (.slice a (l.length + 1) c) (l ++ [x]) ∧ Keep (Fr lo m) w w' := by
  obtain ⟨i0, hi0, hz0, hz1, hz2⟩ := info_parts Tryz.infoPlan
  have h1 : Own planSh 38 (w.alloc (.cells cs.toArray 38)) (Fr lo m) v l := Own.agree h ((Keep.refl No w).alloc _).agreeNo
  obtain ⟨a, c, w', hr, ho, hk, hs⟩ := Own.append (P := Tryz.prog) (s := planSh) (T := Fr m w.heap.size) h1 50 50 i0 _ 112 Tryz.underlying50 hi0 hz0 hz1 hz2 rfl (blk_new w _) (x := x) (by simpa using Rd.agree _ hx ((Keep.refl No w).alloc (.cells cs.toArray 38)).agreeNo) (fun k h1 h2 => by have := h1.2; have := h2.1; omega) (by omega) (by omega) 1
  have hs' := hk.size
  simp only [World.size_alloc] at hs'
  refine ⟨a, c, w', hr, Own.mono ho.live fun k hk' => ?_, ((Keep.refl _ w).alloc _).then hk fun i _ hi => hi⟩
  obtain ⟨h1 | h1 | h1, h2⟩ := hk'
  · exact ⟨h1.1, h2⟩
  · exact ⟨by have := h1.1; omega, h2⟩
  · simp only [World.size_alloc] at h1; exact ⟨by omega, h2⟩

/-- behind k plans -/
structure OwnAt (w : World) (l : List Plan) (k : Nat) (v : Value) (wr : World) : Prop where
  keep : Keep No w wr
  own : Own planSh 38 wr (Fr w.heap.size wr.heap.size) v (l.take k)

set_option maxRecDepth 10000 in
set_option maxHeartbeats 2000000 in
theorem lown_any (w : World) (S : Nat → Prop) (a : Option Addr) (c : Nat) (l : List Plan) (h : Rd (.slice planSh) w S [.slice a l.length c] l) (hb : partsL l ≤ 1048575) :
    Calls Tryz.prog 31 #[.slice a l.length c] w fun e w' => ∃ a' c', e = .returned (.slice a' l.length c') ∧ RowKit.Hid (OwnAt w l l.length (.slice a' l.length c') w') := by
  have HH := Lib.hid (And.intro h hb)
  clear h hb
  go_enter Tryz.func31, Tryz.ntmps31
  go_wp2_with fail
  go_loopw [3, 4] (fun v i wr => ∃ (k : Nat) (a' : Option Addr) (c' : Nat), i = .int .i64 k ∧ v = .slice a' k c' ∧ k ≤ l.length ∧ RowKit.Hid (OwnAt w l k (.slice a' k c') wr)) (fun _ i _ => l.length - (intOf i).toNat)
  case atStart => exact ⟨0, none, 0, rfl, rfl, Nat.zero_le _, ⟨Keep.refl _ _, Own.nil _ _ _ _⟩⟩
  case round =>
    obtain ⟨k, a', c', rfl, rfl, hk, HA⟩ := hrel
    by_cases hlt : k < l.length
    · obtain ⟨h, hb⟩ := HH.out
      obtain ⟨b, off, x1, y1, x2, y2, x3, y3, rfl, -, hbl, -, hr, hx⟩ := planAt' (h.agree _ HA.out.keep.agreeNo) k hlt
      have hpn := partsL_mem (List.getElem_mem hlt)
      have hlen := partsL_len l
      have hfew := parts_few hpn (by omega)
      have hpl := (ref_plan wr S _ l[k] hx hfew.args hfew.reads hfew.writes).mono (R' := fun e w3 => ∃ b1 d1 b2 d2 b3 d3, e = .returned (.agg #[.int .i64 l[k].client, .int .u64 l[k].token, .string l[k].name, .slice b1 l[k].args.length d1, .int .i64 l[k].how, .slice b2 l[k].reads.length d2, .slice b3 l[k].writes.length d3]) ∧
          RowKit.Hid (Keep No wr w3 ∧ Rd planSh w3 (Fr wr.heap.size w3.heap.size) [.int .i64 l[k].client, .int .u64 l[k].token, .string l[k].name, .slice b1 l[k].args.length d1, .int .i64 l[k].how, .slice b2 l[k].reads.length d2, .slice b3 l[k].writes.length d3] l[k])) (by
        rintro e w3 ⟨⟨cs'⟩, rfl, hr3, hk3⟩
        obtain ⟨b1, d1, b2, d2, b3, d3, e3, -⟩ := plan_form hr3
        subst e3
        exact ⟨b1, d1, b2, d2, b3, d3, rfl, hk3, hr3⟩)
      obtain ⟨r0, r1, r2, r3, r4, r5, r6⟩ := row_seven hr
      have j0 : (0 : Int) ≤ k := by omega
      have j1 : (k : Int) < l.length := by omega
      have j3 : (k : Int) ≤ 9223372036854775806 := by omega
      have htk : l.take (k + 1) = l.take k ++ [l[k]] := List.take_succ_eq_append_getElem hlt
      have hlk : (l.take k).length = k := by rw [List.length_take]; omega
      have HX := Lib.hid (And.intro hlt (And.intro htk (And.intro hlk hlen)))
      clear htk hlk hfew hpn hx hr hlen h
      generalize l[k] = pk at *
      generalize pk.client = v1 at *
      generalize pk.token = v2 at *
      generalize pk.name = v3 at *
      generalize pk.how = v4 at *
      generalize pk.args.length = m1 at *
      generalize pk.reads.length = m2 at *
      generalize pk.writes.length = m3 at *
      clear hlt hk hb
      go_wp2_with (first | (go_at_call 68; refine hpl.mono ?_; clear hpl; rintro e w3 ⟨b1, d1, b2, d2, b3, d3, rfl, HP⟩; obtain ⟨a7, c7, w7, hrun, hown7, hk7⟩ := own_pln (Own.agree HA.out.own HP.out.1.agreeNo) HP.out.2 HA.out.keep.size HP.out.1.size (by have h1 := HX.out; have h2 := HH.out.2; omega); rw [HX.out.2.2.1] at hrun hown7; obtain ⟨k1, hk1⟩ : ∃ k1, k + 1 = k1 := ⟨_, rfl⟩; rw [hk1] at hrun hown7; have HO := Lib.hid (And.intro hown7 (And.intro hk7 hk1)); clear hown7 hk7 hk1) | (at_builtin; refine wpList_app rfl (.tmp 11) (.tmp 17) 50 50 rfl rfl rfl hrun ?_; clear hrun))
      go_roundw
      case rel =>
        obtain ⟨o1, o2, rfl⟩ := HO.out
        refine ⟨k + 1, a7, c7, by simp, rfl, HX.out.1, ⟨?_, ?_⟩⟩
        · exact (HA.out.keep.thenNo HP.out.1).then o2 fun i hi h => by have := h.1; omega
        · rw [HX.out.2.1]; exact o1
      case measure => simp [intOf]; have := HX.out.1; omega
    · obtain rfl : k = l.length := by omega
      clear hlt hk
      go_wp2_with fail
      go_ret
      exact ⟨a', c', rfl, HA⟩

/-- behind k entries -/
structure EntsAt (w : World) (l : List Ent) (k : Nat) (wr : World) : Prop where
  kle : k ≤ l.length
  keep : Keep No w wr

set_option maxRecDepth 10000 in
set_option maxHeartbeats 2000000 in
theorem lentries_eq (w : World) (S T : Nat → Prop) (a1 a2 : Option Addr) (c1 c2 : Nat) (l : List Ent) (h1 : Rd (.slice entrySh) w S [.slice a1 l.length c1] l) (h2 : Rd (.slice entrySh) w T [.slice a2 l.length c2] l) (hl : l.length ≤ 1048576) :
    Calls Tryz.prog 35 #[.slice a1 l.length c1, .slice a2 l.length c2] w fun e w' => e = .returned (.bool true) ∧ Keep No w w' := by
  have HH := Lib.hid (And.intro h1 (And.intro h2 hl))
  clear h1 h2 hl
  go_enter Tryz.func35, Tryz.ntmps35
  go_wp2_with fail
  go_loopw [5] (fun i wr => ∃ k : Nat, i = .int .i64 k ∧ RowKit.Hid (EntsAt w l k wr)) (fun i _ => l.length - (intOf i).toNat)
  case atStart => exact ⟨0, rfl, ⟨Nat.zero_le _, Keep.refl _ _⟩⟩
  case round =>
    obtain ⟨k, rfl, HA⟩ := hrel
    by_cases hlt : k < l.length
    · obtain ⟨h1, h2, hl⟩ := HH.out
      obtain ⟨b, off, x1, y1, x2, y2, x3, y3, rfl, hb, -, hr, hx⟩ := ents_get (h1.agree _ HA.out.keep.agreeNo) k hlt
      obtain ⟨b', off', x1', y1', x2', y2', x3', y3', rfl, hb', -, hr', hx'⟩ := ents_get (h2.agree _ HA.out.keep.agreeNo) k hlt
      obtain ⟨r0, r1, r2, r3, r4, r5, r6, r7, r8⟩ := row_nine hr
      obtain ⟨s0, s1, s2, s3, s4, s5, s6, s7, s8⟩ := row_nine hr'
      have he := (rEqual_any wr.drew S T _ _ l[k] l[k] (hx.agree _ (Keep.refl No wr).drew.agreeNo) (hx'.agree _ (Keep.refl No wr).drew.agreeNo)).mono (R' := fun e w3 => e = .returned (.bool true) ∧ RowKit.Hid (Keep No wr w3)) (by
        rintro e w3 ⟨rfl, hk3⟩
        exact ⟨by rw [(Ent.eqb_iff _ _).2 rfl], (Keep.refl No wr).drew.trans hk3⟩)
      have j0 : (0 : Int) ≤ k := by omega
      have j1 : (k : Int) < l.length := by omega
      have j3 : (k : Int) ≤ 9223372036854775806 := by omega
      have HX : RowKit.Hid (k < l.length) := hlt
      clear hr hr' hx hx' h1 h2 hl hb hb'
      generalize l[k] = xk at *
      generalize xk.seq = v1 at *
      generalize xk.epoch = v2 at *
      generalize xk.plan.client = v3 at *
      generalize xk.plan.token = v4 at *
      generalize xk.plan.name = v5 at *
      generalize xk.plan.how = v6 at *
      generalize xk.plan.args.length = m1 at *
      generalize xk.plan.reads.length = m2 at *
      generalize xk.plan.writes.length = m3 at *
      clear hlt
      go_wp2_with fail
      refine wp_region_can [0, 1, 2, 3, 4, 5, 6, 7, 8, 9] [8] [] (by kernel_rfl) (by kernel_rfl) (by kernel_rfl) (by kernel_rfl) (by intro c a d v w h; cases d <;> exact h) ?_
      iterate 8 (refine can_sil rfl rfl (fun K hK => ?_); go_simp; refine hK _ ?_; clear hK K)
      refine can_loud [] rfl rfl rfl (fun K hK => ?_)
      go_wp2_with (go_at_call 13; refine he.mono ?_; clear he; rintro e w3 ⟨rfl, HK3⟩)
      refine Mid.normal (hK _ _ stabs_nil ?_)
      clear hK K
      refine can_sil rfl rfl (fun K hK => ?_); go_simp; refine hK _ ?_; clear hK K
      refine can_nil ?_
      go_wp2_with fail
      go_roundw
      case rel => exact ⟨k + 1, by simp, HX.out, HA.out.keep.trans HK3.out⟩
      case measure => simp [intOf]; have := HX.out; omega
    · obtain rfl : k = l.length := by have := HA.out.kle; omega
      clear hlt
      go_wp2_with fail
      go_ret
      exact ⟨rfl, HA.out.keep⟩
end Go.Proofs.YtnknihmchmmenaaGreat
