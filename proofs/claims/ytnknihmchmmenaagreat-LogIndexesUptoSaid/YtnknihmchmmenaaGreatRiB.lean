/-
  The document's index: Find, By, Last.
-/
import Derived.Test.YtnknihmchmmenaaGreatRiA
import Derived.Test.YtnknihmchmmenaaGreatGM
namespace Go.Proofs.YtnknihmchmmenaaGreat
open Go Go.RowKit Go.Deep
set_option linter.unusedVariables false
set_option linter.unusedSimpArgs false

theorem idxs_last {p : Ent → Bool} {l : List Ent} {k : Nat} (hk : k < l.length) (hp : p l[k] = true) (hn : ∀ j (h : j < l.length), k < j → p l[j] = false) : idxs p 0 l ≠ [] ∧ (idxs p 0 l).getLast?.getD 0 = (k : Int) := by
  have hm : (k : Int) ∈ idxs p 0 l := (idxs_mem p 0 l k).2 ⟨k, hk, by simp, hp⟩
  have hne : idxs p 0 l ≠ [] := fun h => by rw [h] at hm; cases hm
  refine ⟨hne, ?_⟩
  rw [List.getLast?_eq_some_getLast hne, Option.getD_some]
  obtain ⟨i, hi, he, hpi⟩ := (idxs_mem p 0 l _).1 (List.getLast_mem hne)
  have hle : i ≤ k := by
    rcases Nat.lt_or_ge k i with h1 | h1
    · rw [hn i hi h1] at hpi; cases hpi
    · exact h1
  have hge : (k : Int) ≤ (idxs p 0 l).getLast hne := by
    rw [List.getLast_eq_getElem]
    obtain ⟨j, hj, hej⟩ := List.getElem_of_mem hm
    rw [← hej]
    rcases Nat.lt_or_ge j ((idxs p 0 l).length - 1) with h1 | h1
    · have := (List.pairwise_iff_getElem.1 (idxs_sorted p 0 l)) j ((idxs p 0 l).length - 1) hj (by omega) h1
      omega
    · have : j = (idxs p 0 l).length - 1 := by omega
      subst this
      exact Int.le_refl _
  omega
theorem idxs_none {p : Ent → Bool} {l : List Ent} (hn : ∀ j (h : j < l.length), p l[j] = false) : idxs p 0 l = [] := by
  cases h : idxs p 0 l with
  | nil => rfl
  | cons x r =>
    obtain ⟨i, hi, -, hp⟩ := (idxs_mem p 0 l x).1 (by rw [h]; exact List.mem_cons_self)
    rw [hn i hi] at hp
    cases hp

set_option maxRecDepth 10000 in
set_option maxHeartbeats 2000000 in
theorem rixFind_any {w : World} {B : Nat} {S : Nat → Prop} {l : List Ent} (h : RxAt w B S l) (hl : l.length ≤ 65536) (c t : Int) :
    Calls Tryz.prog 103 #[.pointer (some ⟨B, 0, none⟩), .int .i64 c, .int .u64 t] w fun e w' => e = .returned (.tuple #[.int .i64 ((askI l c t).getLast?.getD 0), .bool (decide (askI l c t ≠ []))]) ∧ Keep No w w' := by
  obtain ⟨a, cc, hb, hr⟩ := h.cell
  have cB := blk_cell hb
  have HR := Lib.hid (And.intro hr (And.intro hl hb))
  have e0 : IntKind.i64.wrap ((l.length : Int) - 1) = (l.length : Int) - 1 := by rw [IntKind.wrap_i64]; omega
  clear h hb hr hl
  obtain ⟨s0, hs0⟩ : ∃ s0, IntKind.i64.wrap ((l.length : Int) - 1) = s0 := ⟨_, rfl⟩
  have HS0 : RowKit.Hid (s0 = (l.length : Int) - 1) := by show s0 = _; rw [← hs0, e0]
  clear e0
  go_enter Tryz.func103, Tryz.ntmps103
  go_wp2_with fail
  clear hs0 cB
  go_loopw [8] (fun i wr => ((i = .int .i64 (-1) ∧ RowKit.Hid (∀ j (h : j < l.length), (l[j].plan.client == c && l[j].plan.token == t) = false)) ∨ (∃ p : Nat, i = .int .i64 p ∧ RowKit.Hid (p < l.length ∧ ∀ j (h : j < l.length), p < j → (l[j].plan.client == c && l[j].plan.token == t) = false))) ∧ RowKit.Hid (Keep No w wr)) (fun i _ => (intOf i + 1).toNat)
  case atStart =>
    refine ⟨?_, Keep.refl _ _⟩
    rw [HS0.out]
    by_cases h0 : l.length = 0
    · exact .inl ⟨by rw [h0]; rfl, fun j h => by omega⟩
    · exact .inr ⟨l.length - 1, by congr 1; omega, by omega, fun j h h2 => by omega⟩
  case round =>
    obtain ⟨hrel, HK⟩ := hrel
    rename World => wr
    rcases hrel with ⟨rfl, HN⟩ | ⟨p, rfl, HP⟩
    · have e1 : askI l c t = [] := idxs_none HN.out
      have HE := Lib.hid e1
      clear e1
      go_wp2_with fail
      refine bodyPost_ret (v := .tuple #[.int .i64 0, .bool false]) (by simp [results, Tryz.results103, go_sem]) rfl ⟨?_, HK.out⟩
      rw [HE.out]
      rfl
    · obtain ⟨b, off, y1, z1, y2, z2, y3, z3, rfl, hbi, -, hrow, -⟩ := ents_get (HR.out.1.agree _ HK.out.agreeNo) p HP.out.1
      obtain ⟨r0, r1, r2, r3, r4, r5, r6, r7, r8⟩ := row_nine hrow
      have cB := blk_cell (HK.out.blk HR.out.2.2 (fun x => x))
      have hpl := HP.out.1
      have j0 : (0 : Int) ≤ (p : Int) := by omega
      have j1 : (p : Int) < (l.length : Int) := by omega
      obtain ⟨dd, hdd⟩ : ∃ d, IntKind.i64.wrap ((p : Int) - 1) = d := ⟨_, rfl⟩
      have HD : RowKit.Hid (dd = (p : Int) - 1) := by rw [← hdd, IntKind.wrap_i64]; have := HR.out.2.1; show _ = _; omega
      obtain ⟨mb, hmb⟩ : ∃ mb, (l[p].plan.client == c && l[p].plan.token == t) = mb := ⟨_, rfl⟩
      have HM : RowKit.Hid (∃ h : p < l.length, (l[p].plan.client == c && l[p].plan.token == t) = mb) := ⟨hpl, hmb⟩
      clear hrow hbi
      generalize l[p] = xk at *
      clear hpl
      generalize xk.seq = v0 at *
      generalize xk.epoch = v1 at *
      generalize xk.plan.client = v2 at *
      generalize xk.plan.token = v3 at *
      generalize xk.plan.name = v4 at *
      generalize xk.plan.how = v5 at *
      generalize xk.plan.args.length = n1 at *
      generalize xk.plan.reads.length = n2 at *
      generalize xk.plan.writes.length = n3 at *
      have ka := (Keep.refl No wr).alloc (.cells #[.int .i64 v2, .int .u64 v3, .string v4, .slice y1 n1 z1] 33)
      have cR := blk_cell (blk_new wr (.cells #[.int .i64 v2, .int .u64 v3, .string v4, .slice y1 n1 z1] 33))
      have HKA := Lib.hid (HK.out.trans ka)
      clear ka
      cases mb with
      | true =>
        have hb := hmb
        simp only [Bool.and_eq_true] at hb
        obtain ⟨b1, b2⟩ := hb
        have HE : RowKit.Hid (askI l c t ≠ [] ∧ (askI l c t).getLast?.getD 0 = (p : Int)) := by
          obtain ⟨h1, h2⟩ := HM.out
          exact idxs_last h1 h2 HP.out.2
        clear hmb
        go_wp2_with fail
        refine bodyPost_ret (v := .tuple #[.int .i64 p, .bool true]) (by simp [results, Tryz.results103, go_sem]) rfl ⟨?_, HKA.out⟩
        rw [HE.out.2, decide_eq_true HE.out.1]
      | false =>
        have HX : RowKit.Hid (((dd = -1) ∧ ∀ j (h : j < l.length), (l[j].plan.client == c && l[j].plan.token == t) = false) ∨ (∃ p' : Nat, dd = (p' : Int) ∧ p' < l.length ∧ ∀ j (h : j < l.length), p' < j → (l[j].plan.client == c && l[j].plan.token == t) = false)) := by
          obtain ⟨h1, h2⟩ := HM.out
          have hall : ∀ j (h : j < l.length), p ≤ j → (l[j].plan.client == c && l[j].plan.token == t) = false := fun j h hpj => by
            rcases Nat.lt_or_ge p j with h3 | h3
            · exact HP.out.2 j h h3
            · obtain rfl : p = j := by omega
              exact h2
          rw [HD.out]
          by_cases h0 : p = 0
          · exact .inl ⟨by omega, fun j h => hall j h (by omega)⟩
          · exact .inr ⟨p - 1, by omega, by omega, fun j h hj => hall j h (by omega)⟩
        have HPB := Lib.hid HP.out.1
        by_cases hc1 : (v2 == c) = true
        · have b1 := hc1
          have b2 : (v3 == t) = false := by rw [hc1] at hmb; simpa using hmb
          clear hmb hc1
          go_wp2_with fail
          go_roundw
          case rel => exact ⟨HX.out.imp (fun h => ⟨by rw [h.1], h.2⟩) (fun ⟨p', h1, h2⟩ => ⟨p', by rw [h1], h2⟩), HKA.out⟩
          case measure => simp [intOf]; have := HD.out; omega
        · have b1 : (v2 == c) = false := by simpa using hc1
          clear hmb hc1
          go_wp2_with fail
          go_roundw
          case rel => exact ⟨HX.out.imp (fun h => ⟨by rw [h.1], h.2⟩) (fun ⟨p', h1, h2⟩ => ⟨p', by rw [h1], h2⟩), HKA.out⟩
          case measure => simp [intOf]; have := HD.out; omega

set_option maxRecDepth 10000 in
set_option maxHeartbeats 2000000 in
theorem rixByC_any {w : World} {B : Nat} {S : Nat → Prop} {l : List Ent} (h : RxAt w B S l) (hl : l.length ≤ 65536) (c : Int) :
    Calls Tryz.prog 105 #[.pointer (some ⟨B, 0, none⟩), .int .i64 1, .int .i64 c, .string ⟨#[]⟩] w (Cloned (.int .i64) 2 w (idxs (fun e => e.plan.client == c) 0 l)) := by
  obtain ⟨a, cc, hb, hr⟩ := h.cell
  have HR := Lib.hid (And.intro hr (And.intro hl hb))
  clear h hb hr hl
  go_enter Tryz.func105, Tryz.ntmps105
  go_wp2_with fail
  go_loopw [9, 10] (fun v i wr => ∃ (k : Nat) (va : Option Addr) (vn vc : Nat), v = .slice va vn vc ∧ i = .int .i64 k ∧ k ≤ l.length ∧ RowKit.Hid (vn = (idxs (fun e => e.plan.client == c) 0 (l.take k)).length ∧ Own (.int .i64) 2 wr (Fr w.heap.size wr.heap.size) (.slice va vn vc) (idxs (fun e => e.plan.client == c) 0 (l.take k)) ∧ Keep No w wr)) (fun _ i _ => l.length - (intOf i).toNat)
  case atStart => exact ⟨0, none, 0, 0, rfl, rfl, Nat.zero_le _, rfl, Own.nil _ _ _ _, Keep.refl _ _⟩
  case round =>
    obtain ⟨k, va, vn, vc, rfl, rfl, hk, HA⟩ := hrel
    rename World => wr
    have cB := blk_cell (HA.out.2.2.blk HR.out.2.2 (fun x => x))
    by_cases hlt : k < l.length
    · obtain ⟨b, off, y1, z1, y2, z2, y3, z3, rfl, hbi, -, hrow, hxe⟩ := ents_get (HR.out.1.agree _ HA.out.2.2.agreeNo) k hlt
      obtain ⟨r0, r1, r2, r3, r4, r5, r6, r7, r8⟩ := row_nine hrow
      have j0 : (0 : Int) ≤ (k : Int) := by omega
      have j1 : (k : Int) < (l.length : Int) := by omega
      have j3 : (k : Int) ≤ 9223372036854775806 := by have := HR.out.2.1; omega
      obtain ⟨ps, eps, hpl, -⟩ := ent_cells hxe
      simp only [List.cons.injEq, true_and] at eps
      subst eps
      obtain ⟨_, _, _, _, _, _, eq, -, g2, g3, -⟩ := plan_cells hpl
      simp only [List.cons.injEq, Value.slice.injEq, true_and, and_true] at eq
      obtain ⟨⟨rfl, rfl⟩, ⟨rfl, rfl⟩, rfl, rfl⟩ := eq
      obtain ⟨mb, hmb⟩ : ∃ mb, (l[k].plan.client == c) = mb := ⟨_, rfl⟩
      have hsn : idxs (fun e => e.plan.client == c) 0 (l.take (k + 1)) = idxs (fun e => e.plan.client == c) 0 (l.take k) ++ (if mb then [(k : Int)] else []) := by
        rw [List.take_succ_eq_append_getElem hlt, idxs_snoc, List.length_take, Nat.min_eq_left (Nat.le_of_lt hlt), Nat.zero_add]
        simp only [hmb]
      have hil := idxs_len (fun e => e.plan.client == c) 0 (l.take k)
      rw [List.length_take] at hil
      have kP := (Keep.refl No wr).alloc (.cells #[.int .i64 l[k].plan.client, .int .u64 l[k].plan.token, .string l[k].plan.name, .slice y1 l[k].plan.args.length z1, .int .i64 l[k].plan.how, .slice y2 l[k].plan.reads.length z2, .slice y3 l[k].plan.writes.length z3] 38)
      have cP := blk_cell (blk_new wr (.cells #[.int .i64 l[k].plan.client, .int .u64 l[k].plan.token, .string l[k].plan.name, .slice y1 l[k].plan.args.length z1, .int .i64 l[k].plan.how, .slice y2 l[k].plan.reads.length z2, .slice y3 l[k].plan.writes.length z3] 38))
      obtain ⟨wp, hwp⟩ : ∃ wp, wr.alloc (.cells #[.int .i64 l[k].plan.client, .int .u64 l[k].plan.token, .string l[k].plan.name, .slice y1 l[k].plan.args.length z1, .int .i64 l[k].plan.how, .slice y2 l[k].plan.reads.length z2, .slice y3 l[k].plan.writes.length z3] 38) = wp := ⟨_, rfl⟩
      rw [hwp] at kP cP
      have HLT : RowKit.Hid (k < l.length) := hlt
      have hwp2 : ∀ v2 v3 v4 n1 v5 n2 n3, v2 = l[k].plan.client → v3 = l[k].plan.token → v4 = l[k].plan.name → n1 = l[k].plan.args.length → v5 = l[k].plan.how → n2 = l[k].plan.reads.length → n3 = l[k].plan.writes.length → wr.alloc (.cells #[.int .i64 v2, .int .u64 v3, .string v4, .slice y1 n1 z1, .int .i64 v5, .slice y2 n2 z2, .slice y3 n3 z3] 38) = wp := by rintro _ _ _ _ _ _ _ rfl rfl rfl rfl rfl rfl rfl; exact hwp
      have HM := Lib.hid hmb
      have kA := HA.out.2.2.trans kP
      have HKP := Lib.hid (And.intro kP kA)
      have ho := HA.out.2.1.agree kP.agreeNo
      have hvn := HA.out.1
      cases mb with
      | true =>
        simp only [if_true] at hsn
        obtain ⟨i0, hi, hz0, hz1, hz2⟩ := info_parts Tryz.infoI64
        have ka : Keep No wp (wp.alloc (oneI k)) := (Keep.refl No wp).alloc _
        have hone : Rd (.int .i64) (wp.alloc (oneI k)) No (#[Value.int .i64 (k : Int)] : Array Value).toList (k : Int) := ⟨rfl, by have := HR.out.2.1; exact wf_i64 (by omega) (by omega)⟩
        obtain ⟨a', c', w2, hr2, ho2, k2, hs2⟩ := Own.append (s := .int .i64) (T := No) (ho.agree ka.agreeNo) 93 93 i0 _ 8 Tryz.underlying93 hi hz0 hz1 hz2 rfl (blk_new wp (oneI k)) hone (fun _ _ hn => hn) (by have := HR.out.2.1; omega) (by have := HR.out.2.1; omega) 1
        rw [← hvn] at hr2 ho2
        have HZ : RowKit.Hid (vn + 1 = (idxs (fun e => e.plan.client == c) 0 (l.take (k + 1))).length ∧ Own (.int .i64) 2 w2 (Fr w.heap.size w2.heap.size) (.slice a' (vn + 1) c') (idxs (fun e => e.plan.client == c) 0 (l.take (k + 1))) ∧ Keep No w w2) := by
          have hsz : (wp.alloc (oneI (k : Int))).heap.size = wp.heap.size + 1 := by simp
          have h1 := kP.size
          have h2 := k2.size
          have h3 := HA.out.2.2.size
          refine ⟨by rw [hsn, List.length_append, ← hvn]; rfl, ?_, (kA.trans ka).then k2 fun i hi' hf => by have := hf.1; omega⟩
          rw [hsn]
          exact Own.mono ho2.live fun i hi' => by
            rcases hi'.1 with h | h | h
            · exact ⟨h.1, hi'.2⟩
            · exact h.elim
            · exact ⟨by omega, hi'.2⟩
        clear ho2 hone ka k2 hs2 ho hsn hil HA hvn hrow hbi hxe hpl hk kP kA
        generalize l[k] = xk at *
        clear hlt
        generalize xk.seq = v0 at *
        generalize xk.epoch = v1 at *
        generalize xk.plan.client = v2 at *
        generalize xk.plan.token = v3 at *
        generalize xk.plan.name = v4 at *
        generalize xk.plan.how = v5 at *
        generalize xk.plan.args.length = n1 at *
        generalize xk.plan.reads.length = n2 at *
        generalize xk.plan.writes.length = n3 at *
        have hwp3 := hwp2 _ _ _ _ _ _ _ rfl rfl rfl rfl rfl rfl rfl
        go_upto_region 6 with fail
        try rw [hwp3]
        clear hwp2 hwp hwp3 r0 r1 r2 r3 r4 r5 r6 r7 r8 cB
        skip
        go_wp2_with (first | (at_builtin; refine wpList_app rfl (.tmp 71) (.tmp 73) 93 93 rfl rfl rfl hr2 ?_; clear hr2))
        go_roundw
        case rel => exact ⟨k + 1, a', vn + 1, c', by simp, by simp, HLT.out, HZ.out⟩
        case measure => simp [intOf]; have := HLT.out; omega
      | false =>
        simp only [Bool.false_eq_true, if_false, List.append_nil] at hsn
        have HZ : RowKit.Hid (vn = (idxs (fun e => e.plan.client == c) 0 (l.take (k + 1))).length ∧ Own (.int .i64) 2 wp (Fr w.heap.size wp.heap.size) (.slice va vn vc) (idxs (fun e => e.plan.client == c) 0 (l.take (k + 1))) ∧ Keep No w wp) := by
          rw [hsn]
          have h1 := kP.size
          exact ⟨hvn, Own.mono ho fun i hi' => ⟨hi'.1, by have := hi'.2; omega⟩, kA⟩
        clear ho hsn hil HA hvn hrow hbi hxe hpl hk kP kA
        generalize l[k] = xk at *
        clear hlt
        generalize xk.seq = v0 at *
        generalize xk.epoch = v1 at *
        generalize xk.plan.client = v2 at *
        generalize xk.plan.token = v3 at *
        generalize xk.plan.name = v4 at *
        generalize xk.plan.how = v5 at *
        generalize xk.plan.args.length = n1 at *
        generalize xk.plan.reads.length = n2 at *
        generalize xk.plan.writes.length = n3 at *
        have hwp3 := hwp2 _ _ _ _ _ _ _ rfl rfl rfl rfl rfl rfl rfl
        go_upto_region 6 with fail
        try rw [hwp3]
        clear hwp2 hwp hwp3 r0 r1 r2 r3 r4 r5 r6 r7 r8 cB
        skip
        go_wp2_with (first | fail)
        go_roundw
        case rel => exact ⟨k + 1, va, vn, vc, by simp, by simp, HLT.out, HZ.out⟩
        case measure => simp [intOf]; have := HLT.out; omega
    · have j1 : ¬ (k : Int) < (l.length : Int) := by omega
      have HZ : RowKit.Hid (Cloned (.int .i64) 2 w (idxs (fun e => e.plan.client == c) 0 l) (.returned (.slice va vn vc)) wr) := by
        have h := HA.out
        rw [List.take_of_length_le (by omega)] at h
        obtain ⟨h1, h2, h3⟩ := h
        exact ⟨va, vc, by rw [h1], by rw [← h1]; exact h2, h3⟩
      clear hlt hk HA
      go_wp2_with fail
      go_ret
      exact HZ.out

set_option maxRecDepth 10000 in
set_option maxHeartbeats 2000000 in
theorem rixByN_any {w : World} {B : Nat} {S : Nat → Prop} {l : List Ent} (h : RxAt w B S l) (hl : l.length ≤ 65536) (x : ByteArray) :
    Calls Tryz.prog 105 #[.pointer (some ⟨B, 0, none⟩), .int .i64 2, .int .i64 0, .string x] w (Cloned (.int .i64) 2 w (idxs (fun e => decide (e.plan.name = x)) 0 l)) := by
  obtain ⟨a, cc, hb, hr⟩ := h.cell
  have HR := Lib.hid (And.intro hr (And.intro hl hb))
  clear h hb hr hl
  go_enter Tryz.func105, Tryz.ntmps105
  go_wp2_with fail
  go_loopw [9, 10] (fun v i wr => ∃ (k : Nat) (va : Option Addr) (vn vc : Nat), v = .slice va vn vc ∧ i = .int .i64 k ∧ k ≤ l.length ∧ RowKit.Hid (vn = (idxs (fun e => decide (e.plan.name = x)) 0 (l.take k)).length ∧ Own (.int .i64) 2 wr (Fr w.heap.size wr.heap.size) (.slice va vn vc) (idxs (fun e => decide (e.plan.name = x)) 0 (l.take k)) ∧ Keep No w wr)) (fun _ i _ => l.length - (intOf i).toNat)
  case atStart => exact ⟨0, none, 0, 0, rfl, rfl, Nat.zero_le _, rfl, Own.nil _ _ _ _, Keep.refl _ _⟩
  case round =>
    obtain ⟨k, va, vn, vc, rfl, rfl, hk, HA⟩ := hrel
    rename World => wr
    have cB := blk_cell (HA.out.2.2.blk HR.out.2.2 (fun x => x))
    by_cases hlt : k < l.length
    · obtain ⟨b, off, y1, z1, y2, z2, y3, z3, rfl, hbi, -, hrow, hxe⟩ := ents_get (HR.out.1.agree _ HA.out.2.2.agreeNo) k hlt
      obtain ⟨r0, r1, r2, r3, r4, r5, r6, r7, r8⟩ := row_nine hrow
      have j0 : (0 : Int) ≤ (k : Int) := by omega
      have j1 : (k : Int) < (l.length : Int) := by omega
      have j3 : (k : Int) ≤ 9223372036854775806 := by have := HR.out.2.1; omega
      obtain ⟨ps, eps, hpl, -⟩ := ent_cells hxe
      simp only [List.cons.injEq, true_and] at eps
      subst eps
      obtain ⟨_, _, _, _, _, _, eq, -, g2, g3, -⟩ := plan_cells hpl
      simp only [List.cons.injEq, Value.slice.injEq, true_and, and_true] at eq
      obtain ⟨⟨rfl, rfl⟩, ⟨rfl, rfl⟩, rfl, rfl⟩ := eq
      obtain ⟨mb, hmb⟩ : ∃ mb, (decide (l[k].plan.name = x)) = mb := ⟨_, rfl⟩
      have hsn : idxs (fun e => decide (e.plan.name = x)) 0 (l.take (k + 1)) = idxs (fun e => decide (e.plan.name = x)) 0 (l.take k) ++ (if mb then [(k : Int)] else []) := by
        rw [List.take_succ_eq_append_getElem hlt, idxs_snoc, List.length_take, Nat.min_eq_left (Nat.le_of_lt hlt), Nat.zero_add]
        simp only [hmb]
      have hil := idxs_len (fun e => decide (e.plan.name = x)) 0 (l.take k)
      rw [List.length_take] at hil
      have kP := (Keep.refl No wr).alloc (.cells #[.int .i64 l[k].plan.client, .int .u64 l[k].plan.token, .string l[k].plan.name, .slice y1 l[k].plan.args.length z1, .int .i64 l[k].plan.how, .slice y2 l[k].plan.reads.length z2, .slice y3 l[k].plan.writes.length z3] 38)
      have cP := blk_cell (blk_new wr (.cells #[.int .i64 l[k].plan.client, .int .u64 l[k].plan.token, .string l[k].plan.name, .slice y1 l[k].plan.args.length z1, .int .i64 l[k].plan.how, .slice y2 l[k].plan.reads.length z2, .slice y3 l[k].plan.writes.length z3] 38))
      obtain ⟨wp, hwp⟩ : ∃ wp, wr.alloc (.cells #[.int .i64 l[k].plan.client, .int .u64 l[k].plan.token, .string l[k].plan.name, .slice y1 l[k].plan.args.length z1, .int .i64 l[k].plan.how, .slice y2 l[k].plan.reads.length z2, .slice y3 l[k].plan.writes.length z3] 38) = wp := ⟨_, rfl⟩
      rw [hwp] at kP cP
      have HLT : RowKit.Hid (k < l.length) := hlt
      have hwp2 : ∀ v2 v3 v4 n1 v5 n2 n3, v2 = l[k].plan.client → v3 = l[k].plan.token → v4 = l[k].plan.name → n1 = l[k].plan.args.length → v5 = l[k].plan.how → n2 = l[k].plan.reads.length → n3 = l[k].plan.writes.length → wr.alloc (.cells #[.int .i64 v2, .int .u64 v3, .string v4, .slice y1 n1 z1, .int .i64 v5, .slice y2 n2 z2, .slice y3 n3 z3] 38) = wp := by rintro _ _ _ _ _ _ _ rfl rfl rfl rfl rfl rfl rfl; exact hwp
      have HM := Lib.hid hmb
      have kA := HA.out.2.2.trans kP
      have HKP := Lib.hid (And.intro kP kA)
      have ho := HA.out.2.1.agree kP.agreeNo
      have hvn := HA.out.1
      cases mb with
      | true =>
        simp only [if_true] at hsn
        obtain ⟨i0, hi, hz0, hz1, hz2⟩ := info_parts Tryz.infoI64
        have ka : Keep No wp (wp.alloc (oneI k)) := (Keep.refl No wp).alloc _
        have hone : Rd (.int .i64) (wp.alloc (oneI k)) No (#[Value.int .i64 (k : Int)] : Array Value).toList (k : Int) := ⟨rfl, by have := HR.out.2.1; exact wf_i64 (by omega) (by omega)⟩
        obtain ⟨a', c', w2, hr2, ho2, k2, hs2⟩ := Own.append (s := .int .i64) (T := No) (ho.agree ka.agreeNo) 93 93 i0 _ 8 Tryz.underlying93 hi hz0 hz1 hz2 rfl (blk_new wp (oneI k)) hone (fun _ _ hn => hn) (by have := HR.out.2.1; omega) (by have := HR.out.2.1; omega) 1
        rw [← hvn] at hr2 ho2
        have HZ : RowKit.Hid (vn + 1 = (idxs (fun e => decide (e.plan.name = x)) 0 (l.take (k + 1))).length ∧ Own (.int .i64) 2 w2 (Fr w.heap.size w2.heap.size) (.slice a' (vn + 1) c') (idxs (fun e => decide (e.plan.name = x)) 0 (l.take (k + 1))) ∧ Keep No w w2) := by
          have hsz : (wp.alloc (oneI (k : Int))).heap.size = wp.heap.size + 1 := by simp
          have h1 := kP.size
          have h2 := k2.size
          have h3 := HA.out.2.2.size
          refine ⟨by rw [hsn, List.length_append, ← hvn]; rfl, ?_, (kA.trans ka).then k2 fun i hi' hf => by have := hf.1; omega⟩
          rw [hsn]
          exact Own.mono ho2.live fun i hi' => by
            rcases hi'.1 with h | h | h
            · exact ⟨h.1, hi'.2⟩
            · exact h.elim
            · exact ⟨by omega, hi'.2⟩
        clear ho2 hone ka k2 hs2 ho hsn hil HA hvn hrow hbi hxe hpl hk kP kA
        generalize l[k] = xk at *
        clear hlt
        generalize xk.seq = v0 at *
        generalize xk.epoch = v1 at *
        generalize xk.plan.client = v2 at *
        generalize xk.plan.token = v3 at *
        generalize xk.plan.name = v4 at *
        generalize xk.plan.how = v5 at *
        generalize xk.plan.args.length = n1 at *
        generalize xk.plan.reads.length = n2 at *
        generalize xk.plan.writes.length = n3 at *
        have hwp3 := hwp2 _ _ _ _ _ _ _ rfl rfl rfl rfl rfl rfl rfl
        go_upto_region 6 with fail
        try rw [hwp3]
        clear hwp2 hwp hwp3 r0 r1 r2 r3 r4 r5 r6 r7 r8 cB
        have hb := text_beq v4 x; rw [hmb] at hb; clear hmb
        go_wp2_with (first | (at_builtin; refine wpList_app rfl (.tmp 71) (.tmp 73) 93 93 rfl rfl rfl hr2 ?_; clear hr2))
        go_roundw
        case rel => exact ⟨k + 1, a', vn + 1, c', by simp, by simp, HLT.out, HZ.out⟩
        case measure => simp [intOf]; have := HLT.out; omega
      | false =>
        simp only [Bool.false_eq_true, if_false, List.append_nil] at hsn
        have HZ : RowKit.Hid (vn = (idxs (fun e => decide (e.plan.name = x)) 0 (l.take (k + 1))).length ∧ Own (.int .i64) 2 wp (Fr w.heap.size wp.heap.size) (.slice va vn vc) (idxs (fun e => decide (e.plan.name = x)) 0 (l.take (k + 1))) ∧ Keep No w wp) := by
          rw [hsn]
          have h1 := kP.size
          exact ⟨hvn, Own.mono ho fun i hi' => ⟨hi'.1, by have := hi'.2; omega⟩, kA⟩
        clear ho hsn hil HA hvn hrow hbi hxe hpl hk kP kA
        generalize l[k] = xk at *
        clear hlt
        generalize xk.seq = v0 at *
        generalize xk.epoch = v1 at *
        generalize xk.plan.client = v2 at *
        generalize xk.plan.token = v3 at *
        generalize xk.plan.name = v4 at *
        generalize xk.plan.how = v5 at *
        generalize xk.plan.args.length = n1 at *
        generalize xk.plan.reads.length = n2 at *
        generalize xk.plan.writes.length = n3 at *
        have hwp3 := hwp2 _ _ _ _ _ _ _ rfl rfl rfl rfl rfl rfl rfl
        go_upto_region 6 with fail
        try rw [hwp3]
        clear hwp2 hwp hwp3 r0 r1 r2 r3 r4 r5 r6 r7 r8 cB
        have hb := text_beq v4 x; rw [hmb] at hb; clear hmb
        go_wp2_with (first | fail)
        go_roundw
        case rel => exact ⟨k + 1, va, vn, vc, by simp, by simp, HLT.out, HZ.out⟩
        case measure => simp [intOf]; have := HLT.out; omega
    · have j1 : ¬ (k : Int) < (l.length : Int) := by omega
      have HZ : RowKit.Hid (Cloned (.int .i64) 2 w (idxs (fun e => decide (e.plan.name = x)) 0 l) (.returned (.slice va vn vc)) wr) := by
        have h := HA.out
        rw [List.take_of_length_le (by omega)] at h
        obtain ⟨h1, h2, h3⟩ := h
        exact ⟨va, vc, by rw [h1], by rw [← h1]; exact h2, h3⟩
      clear hlt hk HA
      go_wp2_with fail
      go_ret
      exact HZ.out

set_option maxRecDepth 10000 in
set_option maxHeartbeats 2000000 in
theorem rixByR_any {w : World} {B : Nat} {S : Nat → Prop} {l : List Ent} (h : RxAt w B S l) (hl : l.length ≤ 65536) (x : ByteArray) :
    Calls Tryz.prog 105 #[.pointer (some ⟨B, 0, none⟩), .int .i64 3, .int .i64 0, .string x] w (Cloned (.int .i64) 2 w (idxs (fun e => hasT e.plan.reads x) 0 l)) := by
  obtain ⟨a, cc, hb, hr⟩ := h.cell
  have HR := Lib.hid (And.intro hr (And.intro hl hb))
  clear h hb hr hl
  go_enter Tryz.func105, Tryz.ntmps105
  go_wp2_with fail
  go_loopw [9, 10] (fun v i wr => ∃ (k : Nat) (va : Option Addr) (vn vc : Nat), v = .slice va vn vc ∧ i = .int .i64 k ∧ k ≤ l.length ∧ RowKit.Hid (vn = (idxs (fun e => hasT e.plan.reads x) 0 (l.take k)).length ∧ Own (.int .i64) 2 wr (Fr w.heap.size wr.heap.size) (.slice va vn vc) (idxs (fun e => hasT e.plan.reads x) 0 (l.take k)) ∧ Keep No w wr)) (fun _ i _ => l.length - (intOf i).toNat)
  case atStart => exact ⟨0, none, 0, 0, rfl, rfl, Nat.zero_le _, rfl, Own.nil _ _ _ _, Keep.refl _ _⟩
  case round =>
    obtain ⟨k, va, vn, vc, rfl, rfl, hk, HA⟩ := hrel
    rename World => wr
    have cB := blk_cell (HA.out.2.2.blk HR.out.2.2 (fun x => x))
    by_cases hlt : k < l.length
    · obtain ⟨b, off, y1, z1, y2, z2, y3, z3, rfl, hbi, -, hrow, hxe⟩ := ents_get (HR.out.1.agree _ HA.out.2.2.agreeNo) k hlt
      obtain ⟨r0, r1, r2, r3, r4, r5, r6, r7, r8⟩ := row_nine hrow
      have j0 : (0 : Int) ≤ (k : Int) := by omega
      have j1 : (k : Int) < (l.length : Int) := by omega
      have j3 : (k : Int) ≤ 9223372036854775806 := by have := HR.out.2.1; omega
      obtain ⟨ps, eps, hpl, -⟩ := ent_cells hxe
      simp only [List.cons.injEq, true_and] at eps
      subst eps
      obtain ⟨_, _, _, _, _, _, eq, -, g2, g3, -⟩ := plan_cells hpl
      simp only [List.cons.injEq, Value.slice.injEq, true_and, and_true] at eq
      obtain ⟨⟨rfl, rfl⟩, ⟨rfl, rfl⟩, rfl, rfl⟩ := eq
      obtain ⟨mb, hmb⟩ : ∃ mb, (hasT l[k].plan.reads x) = mb := ⟨_, rfl⟩
      have hsn : idxs (fun e => hasT e.plan.reads x) 0 (l.take (k + 1)) = idxs (fun e => hasT e.plan.reads x) 0 (l.take k) ++ (if mb then [(k : Int)] else []) := by
        rw [List.take_succ_eq_append_getElem hlt, idxs_snoc, List.length_take, Nat.min_eq_left (Nat.le_of_lt hlt), Nat.zero_add]
        simp only [hmb]
      have hil := idxs_len (fun e => hasT e.plan.reads x) 0 (l.take k)
      rw [List.length_take] at hil
      have kP := (Keep.refl No wr).alloc (.cells #[.int .i64 l[k].plan.client, .int .u64 l[k].plan.token, .string l[k].plan.name, .slice y1 l[k].plan.args.length z1, .int .i64 l[k].plan.how, .slice y2 l[k].plan.reads.length z2, .slice y3 l[k].plan.writes.length z3] 38)
      have cP := blk_cell (blk_new wr (.cells #[.int .i64 l[k].plan.client, .int .u64 l[k].plan.token, .string l[k].plan.name, .slice y1 l[k].plan.args.length z1, .int .i64 l[k].plan.how, .slice y2 l[k].plan.reads.length z2, .slice y3 l[k].plan.writes.length z3] 38))
      obtain ⟨wp, hwp⟩ : ∃ wp, wr.alloc (.cells #[.int .i64 l[k].plan.client, .int .u64 l[k].plan.token, .string l[k].plan.name, .slice y1 l[k].plan.args.length z1, .int .i64 l[k].plan.how, .slice y2 l[k].plan.reads.length z2, .slice y3 l[k].plan.writes.length z3] 38) = wp := ⟨_, rfl⟩
      rw [hwp] at kP cP
      have hhas := (rHas_any wp _ _ _ (g2.agree _ kP.agreeNo) x).mono (R' := fun e w' => e = .returned (.bool mb) ∧ wp = w') (by rintro e w2 ⟨rfl, rfl⟩; rw [hmb]; exact ⟨rfl, rfl⟩)
      have HLT : RowKit.Hid (k < l.length) := hlt
      have hwp2 : ∀ v2 v3 v4 n1 v5 n2 n3, v2 = l[k].plan.client → v3 = l[k].plan.token → v4 = l[k].plan.name → n1 = l[k].plan.args.length → v5 = l[k].plan.how → n2 = l[k].plan.reads.length → n3 = l[k].plan.writes.length → wr.alloc (.cells #[.int .i64 v2, .int .u64 v3, .string v4, .slice y1 n1 z1, .int .i64 v5, .slice y2 n2 z2, .slice y3 n3 z3] 38) = wp := by rintro _ _ _ _ _ _ _ rfl rfl rfl rfl rfl rfl rfl; exact hwp
      have HM := Lib.hid hmb
      have kA := HA.out.2.2.trans kP
      have HKP := Lib.hid (And.intro kP kA)
      have ho := HA.out.2.1.agree kP.agreeNo
      have hvn := HA.out.1
      cases mb with
      | true =>
        simp only [if_true] at hsn
        obtain ⟨i0, hi, hz0, hz1, hz2⟩ := info_parts Tryz.infoI64
        have ka : Keep No wp (wp.alloc (oneI k)) := (Keep.refl No wp).alloc _
        have hone : Rd (.int .i64) (wp.alloc (oneI k)) No (#[Value.int .i64 (k : Int)] : Array Value).toList (k : Int) := ⟨rfl, by have := HR.out.2.1; exact wf_i64 (by omega) (by omega)⟩
        obtain ⟨a', c', w2, hr2, ho2, k2, hs2⟩ := Own.append (s := .int .i64) (T := No) (ho.agree ka.agreeNo) 93 93 i0 _ 8 Tryz.underlying93 hi hz0 hz1 hz2 rfl (blk_new wp (oneI k)) hone (fun _ _ hn => hn) (by have := HR.out.2.1; omega) (by have := HR.out.2.1; omega) 1
        rw [← hvn] at hr2 ho2
        have HZ : RowKit.Hid (vn + 1 = (idxs (fun e => hasT e.plan.reads x) 0 (l.take (k + 1))).length ∧ Own (.int .i64) 2 w2 (Fr w.heap.size w2.heap.size) (.slice a' (vn + 1) c') (idxs (fun e => hasT e.plan.reads x) 0 (l.take (k + 1))) ∧ Keep No w w2) := by
          have hsz : (wp.alloc (oneI (k : Int))).heap.size = wp.heap.size + 1 := by simp
          have h1 := kP.size
          have h2 := k2.size
          have h3 := HA.out.2.2.size
          refine ⟨by rw [hsn, List.length_append, ← hvn]; rfl, ?_, (kA.trans ka).then k2 fun i hi' hf => by have := hf.1; omega⟩
          rw [hsn]
          exact Own.mono ho2.live fun i hi' => by
            rcases hi'.1 with h | h | h
            · exact ⟨h.1, hi'.2⟩
            · exact h.elim
            · exact ⟨by omega, hi'.2⟩
        clear ho2 hone ka k2 hs2 ho hsn hil HA hvn hrow hbi hxe hpl hk kP kA
        generalize l[k] = xk at *
        clear hlt
        generalize xk.seq = v0 at *
        generalize xk.epoch = v1 at *
        generalize xk.plan.client = v2 at *
        generalize xk.plan.token = v3 at *
        generalize xk.plan.name = v4 at *
        generalize xk.plan.how = v5 at *
        generalize xk.plan.args.length = n1 at *
        generalize xk.plan.reads.length = n2 at *
        generalize xk.plan.writes.length = n3 at *
        have hwp3 := hwp2 _ _ _ _ _ _ _ rfl rfl rfl rfl rfl rfl rfl
        go_upto_region 6 with fail
        try rw [hwp3]
        clear hwp2 hwp hwp3 r0 r1 r2 r3 r4 r5 r6 r7 r8 cB
        skip
        go_wp2_with (first | (at_builtin; refine wpList_app rfl (.tmp 71) (.tmp 73) 93 93 rfl rfl rfl hr2 ?_; clear hr2) | (go_at_call 51; refine hhas.mono ?_; clear hhas; rintro e w20 ⟨rfl, hw⟩; subst hw))
        go_roundw
        case rel => exact ⟨k + 1, a', vn + 1, c', by simp, by simp, HLT.out, HZ.out⟩
        case measure => simp [intOf]; have := HLT.out; omega
      | false =>
        simp only [Bool.false_eq_true, if_false, List.append_nil] at hsn
        have HZ : RowKit.Hid (vn = (idxs (fun e => hasT e.plan.reads x) 0 (l.take (k + 1))).length ∧ Own (.int .i64) 2 wp (Fr w.heap.size wp.heap.size) (.slice va vn vc) (idxs (fun e => hasT e.plan.reads x) 0 (l.take (k + 1))) ∧ Keep No w wp) := by
          rw [hsn]
          have h1 := kP.size
          exact ⟨hvn, Own.mono ho fun i hi' => ⟨hi'.1, by have := hi'.2; omega⟩, kA⟩
        clear ho hsn hil HA hvn hrow hbi hxe hpl hk kP kA
        generalize l[k] = xk at *
        clear hlt
        generalize xk.seq = v0 at *
        generalize xk.epoch = v1 at *
        generalize xk.plan.client = v2 at *
        generalize xk.plan.token = v3 at *
        generalize xk.plan.name = v4 at *
        generalize xk.plan.how = v5 at *
        generalize xk.plan.args.length = n1 at *
        generalize xk.plan.reads.length = n2 at *
        generalize xk.plan.writes.length = n3 at *
        have hwp3 := hwp2 _ _ _ _ _ _ _ rfl rfl rfl rfl rfl rfl rfl
        go_upto_region 6 with fail
        try rw [hwp3]
        clear hwp2 hwp hwp3 r0 r1 r2 r3 r4 r5 r6 r7 r8 cB
        skip
        go_wp2_with (first | fail | (go_at_call 51; refine hhas.mono ?_; clear hhas; rintro e w20 ⟨rfl, hw⟩; subst hw))
        go_roundw
        case rel => exact ⟨k + 1, va, vn, vc, by simp, by simp, HLT.out, HZ.out⟩
        case measure => simp [intOf]; have := HLT.out; omega
    · have j1 : ¬ (k : Int) < (l.length : Int) := by omega
      have HZ : RowKit.Hid (Cloned (.int .i64) 2 w (idxs (fun e => hasT e.plan.reads x) 0 l) (.returned (.slice va vn vc)) wr) := by
        have h := HA.out
        rw [List.take_of_length_le (by omega)] at h
        obtain ⟨h1, h2, h3⟩ := h
        exact ⟨va, vc, by rw [h1], by rw [← h1]; exact h2, h3⟩
      clear hlt hk HA
      go_wp2_with fail
      go_ret
      exact HZ.out

set_option maxRecDepth 10000 in
set_option maxHeartbeats 2000000 in
theorem rixByW_any {w : World} {B : Nat} {S : Nat → Prop} {l : List Ent} (h : RxAt w B S l) (hl : l.length ≤ 65536) (x : ByteArray) :
    Calls Tryz.prog 105 #[.pointer (some ⟨B, 0, none⟩), .int .i64 4, .int .i64 0, .string x] w (Cloned (.int .i64) 2 w (idxs (fun e => hasT e.plan.writes x) 0 l)) := by
  obtain ⟨a, cc, hb, hr⟩ := h.cell
  have HR := Lib.hid (And.intro hr (And.intro hl hb))
  clear h hb hr hl
  go_enter Tryz.func105, Tryz.ntmps105
  go_wp2_with fail
  go_loopw [9, 10] (fun v i wr => ∃ (k : Nat) (va : Option Addr) (vn vc : Nat), v = .slice va vn vc ∧ i = .int .i64 k ∧ k ≤ l.length ∧ RowKit.Hid (vn = (idxs (fun e => hasT e.plan.writes x) 0 (l.take k)).length ∧ Own (.int .i64) 2 wr (Fr w.heap.size wr.heap.size) (.slice va vn vc) (idxs (fun e => hasT e.plan.writes x) 0 (l.take k)) ∧ Keep No w wr)) (fun _ i _ => l.length - (intOf i).toNat)
  case atStart => exact ⟨0, none, 0, 0, rfl, rfl, Nat.zero_le _, rfl, Own.nil _ _ _ _, Keep.refl _ _⟩
  case round =>
    obtain ⟨k, va, vn, vc, rfl, rfl, hk, HA⟩ := hrel
    rename World => wr
    have cB := blk_cell (HA.out.2.2.blk HR.out.2.2 (fun x => x))
    by_cases hlt : k < l.length
    · obtain ⟨b, off, y1, z1, y2, z2, y3, z3, rfl, hbi, -, hrow, hxe⟩ := ents_get (HR.out.1.agree _ HA.out.2.2.agreeNo) k hlt
      obtain ⟨r0, r1, r2, r3, r4, r5, r6, r7, r8⟩ := row_nine hrow
      have j0 : (0 : Int) ≤ (k : Int) := by omega
      have j1 : (k : Int) < (l.length : Int) := by omega
      have j3 : (k : Int) ≤ 9223372036854775806 := by have := HR.out.2.1; omega
      obtain ⟨ps, eps, hpl, -⟩ := ent_cells hxe
      simp only [List.cons.injEq, true_and] at eps
      subst eps
      obtain ⟨_, _, _, _, _, _, eq, -, g2, g3, -⟩ := plan_cells hpl
      simp only [List.cons.injEq, Value.slice.injEq, true_and, and_true] at eq
      obtain ⟨⟨rfl, rfl⟩, ⟨rfl, rfl⟩, rfl, rfl⟩ := eq
      obtain ⟨mb, hmb⟩ : ∃ mb, (hasT l[k].plan.writes x) = mb := ⟨_, rfl⟩
      have hsn : idxs (fun e => hasT e.plan.writes x) 0 (l.take (k + 1)) = idxs (fun e => hasT e.plan.writes x) 0 (l.take k) ++ (if mb then [(k : Int)] else []) := by
        rw [List.take_succ_eq_append_getElem hlt, idxs_snoc, List.length_take, Nat.min_eq_left (Nat.le_of_lt hlt), Nat.zero_add]
        simp only [hmb]
      have hil := idxs_len (fun e => hasT e.plan.writes x) 0 (l.take k)
      rw [List.length_take] at hil
      have kP := (Keep.refl No wr).alloc (.cells #[.int .i64 l[k].plan.client, .int .u64 l[k].plan.token, .string l[k].plan.name, .slice y1 l[k].plan.args.length z1, .int .i64 l[k].plan.how, .slice y2 l[k].plan.reads.length z2, .slice y3 l[k].plan.writes.length z3] 38)
      have cP := blk_cell (blk_new wr (.cells #[.int .i64 l[k].plan.client, .int .u64 l[k].plan.token, .string l[k].plan.name, .slice y1 l[k].plan.args.length z1, .int .i64 l[k].plan.how, .slice y2 l[k].plan.reads.length z2, .slice y3 l[k].plan.writes.length z3] 38))
      obtain ⟨wp, hwp⟩ : ∃ wp, wr.alloc (.cells #[.int .i64 l[k].plan.client, .int .u64 l[k].plan.token, .string l[k].plan.name, .slice y1 l[k].plan.args.length z1, .int .i64 l[k].plan.how, .slice y2 l[k].plan.reads.length z2, .slice y3 l[k].plan.writes.length z3] 38) = wp := ⟨_, rfl⟩
      rw [hwp] at kP cP
      have hhas := (rHas_any wp _ _ _ (g3.agree _ kP.agreeNo) x).mono (R' := fun e w' => e = .returned (.bool mb) ∧ wp = w') (by rintro e w2 ⟨rfl, rfl⟩; rw [hmb]; exact ⟨rfl, rfl⟩)
      have HLT : RowKit.Hid (k < l.length) := hlt
      have hwp2 : ∀ v2 v3 v4 n1 v5 n2 n3, v2 = l[k].plan.client → v3 = l[k].plan.token → v4 = l[k].plan.name → n1 = l[k].plan.args.length → v5 = l[k].plan.how → n2 = l[k].plan.reads.length → n3 = l[k].plan.writes.length → wr.alloc (.cells #[.int .i64 v2, .int .u64 v3, .string v4, .slice y1 n1 z1, .int .i64 v5, .slice y2 n2 z2, .slice y3 n3 z3] 38) = wp := by rintro _ _ _ _ _ _ _ rfl rfl rfl rfl rfl rfl rfl; exact hwp
      have HM := Lib.hid hmb
      have kA := HA.out.2.2.trans kP
      have HKP := Lib.hid (And.intro kP kA)
      have ho := HA.out.2.1.agree kP.agreeNo
      have hvn := HA.out.1
      cases mb with
      | true =>
        simp only [if_true] at hsn
        obtain ⟨i0, hi, hz0, hz1, hz2⟩ := info_parts Tryz.infoI64
        have ka : Keep No wp (wp.alloc (oneI k)) := (Keep.refl No wp).alloc _
        have hone : Rd (.int .i64) (wp.alloc (oneI k)) No (#[Value.int .i64 (k : Int)] : Array Value).toList (k : Int) := ⟨rfl, by have := HR.out.2.1; exact wf_i64 (by omega) (by omega)⟩
        obtain ⟨a', c', w2, hr2, ho2, k2, hs2⟩ := Own.append (s := .int .i64) (T := No) (ho.agree ka.agreeNo) 93 93 i0 _ 8 Tryz.underlying93 hi hz0 hz1 hz2 rfl (blk_new wp (oneI k)) hone (fun _ _ hn => hn) (by have := HR.out.2.1; omega) (by have := HR.out.2.1; omega) 1
        rw [← hvn] at hr2 ho2
        have HZ : RowKit.Hid (vn + 1 = (idxs (fun e => hasT e.plan.writes x) 0 (l.take (k + 1))).length ∧ Own (.int .i64) 2 w2 (Fr w.heap.size w2.heap.size) (.slice a' (vn + 1) c') (idxs (fun e => hasT e.plan.writes x) 0 (l.take (k + 1))) ∧ Keep No w w2) := by
          have hsz : (wp.alloc (oneI (k : Int))).heap.size = wp.heap.size + 1 := by simp
          have h1 := kP.size
          have h2 := k2.size
          have h3 := HA.out.2.2.size
          refine ⟨by rw [hsn, List.length_append, ← hvn]; rfl, ?_, (kA.trans ka).then k2 fun i hi' hf => by have := hf.1; omega⟩
          rw [hsn]
          exact Own.mono ho2.live fun i hi' => by
            rcases hi'.1 with h | h | h
            · exact ⟨h.1, hi'.2⟩
            · exact h.elim
            · exact ⟨by omega, hi'.2⟩
        clear ho2 hone ka k2 hs2 ho hsn hil HA hvn hrow hbi hxe hpl hk kP kA
        generalize l[k] = xk at *
        clear hlt
        generalize xk.seq = v0 at *
        generalize xk.epoch = v1 at *
        generalize xk.plan.client = v2 at *
        generalize xk.plan.token = v3 at *
        generalize xk.plan.name = v4 at *
        generalize xk.plan.how = v5 at *
        generalize xk.plan.args.length = n1 at *
        generalize xk.plan.reads.length = n2 at *
        generalize xk.plan.writes.length = n3 at *
        have hwp3 := hwp2 _ _ _ _ _ _ _ rfl rfl rfl rfl rfl rfl rfl
        go_upto_region 6 with fail
        try rw [hwp3]
        clear hwp2 hwp hwp3 r0 r1 r2 r3 r4 r5 r6 r7 r8 cB
        skip
        go_wp2_with (first | (at_builtin; refine wpList_app rfl (.tmp 71) (.tmp 73) 93 93 rfl rfl rfl hr2 ?_; clear hr2) | (go_at_call 51; refine hhas.mono ?_; clear hhas; rintro e w20 ⟨rfl, hw⟩; subst hw))
        go_roundw
        case rel => exact ⟨k + 1, a', vn + 1, c', by simp, by simp, HLT.out, HZ.out⟩
        case measure => simp [intOf]; have := HLT.out; omega
      | false =>
        simp only [Bool.false_eq_true, if_false, List.append_nil] at hsn
        have HZ : RowKit.Hid (vn = (idxs (fun e => hasT e.plan.writes x) 0 (l.take (k + 1))).length ∧ Own (.int .i64) 2 wp (Fr w.heap.size wp.heap.size) (.slice va vn vc) (idxs (fun e => hasT e.plan.writes x) 0 (l.take (k + 1))) ∧ Keep No w wp) := by
          rw [hsn]
          have h1 := kP.size
          exact ⟨hvn, Own.mono ho fun i hi' => ⟨hi'.1, by have := hi'.2; omega⟩, kA⟩
        clear ho hsn hil HA hvn hrow hbi hxe hpl hk kP kA
        generalize l[k] = xk at *
        clear hlt
        generalize xk.seq = v0 at *
        generalize xk.epoch = v1 at *
        generalize xk.plan.client = v2 at *
        generalize xk.plan.token = v3 at *
        generalize xk.plan.name = v4 at *
        generalize xk.plan.how = v5 at *
        generalize xk.plan.args.length = n1 at *
        generalize xk.plan.reads.length = n2 at *
        generalize xk.plan.writes.length = n3 at *
        have hwp3 := hwp2 _ _ _ _ _ _ _ rfl rfl rfl rfl rfl rfl rfl
        go_upto_region 6 with fail
        try rw [hwp3]
        clear hwp2 hwp hwp3 r0 r1 r2 r3 r4 r5 r6 r7 r8 cB
        skip
        go_wp2_with (first | fail | (go_at_call 51; refine hhas.mono ?_; clear hhas; rintro e w20 ⟨rfl, hw⟩; subst hw))
        go_roundw
        case rel => exact ⟨k + 1, va, vn, vc, by simp, by simp, HLT.out, HZ.out⟩
        case measure => simp [intOf]; have := HLT.out; omega
    · have j1 : ¬ (k : Int) < (l.length : Int) := by omega
      have HZ : RowKit.Hid (Cloned (.int .i64) 2 w (idxs (fun e => hasT e.plan.writes x) 0 l) (.returned (.slice va vn vc)) wr) := by
        have h := HA.out
        rw [List.take_of_length_le (by omega)] at h
        obtain ⟨h1, h2, h3⟩ := h
        exact ⟨va, vc, by rw [h1], by rw [← h1]; exact h2, h3⟩
      clear hlt hk HA
      go_wp2_with fail
      go_ret
      exact HZ.out
end Go.Proofs.YtnknihmchmmenaaGreat
