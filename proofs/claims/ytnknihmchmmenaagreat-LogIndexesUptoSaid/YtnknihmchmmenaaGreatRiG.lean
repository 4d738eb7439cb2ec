/-
  LogIndexes: the walk.
-/
import Derived.Test.YtnknihmchmmenaaGreatRiE
import Derived.Test.YtnknihmchmmenaaGreatRiF
namespace Go.Proofs.YtnknihmchmmenaaGreat
open Go Go.RowKit Go.Deep
set_option linter.unusedVariables false
set_option linter.unusedSimpArgs false

set_option maxRecDepth 10000 in
set_option maxHeartbeats 8000000 in
theorem LogIndexes_main (w : World) (a : Option Addr) (c : Nat) (l : List Ent) (h : Rd (.slice entrySh) w (Lt w.heap.size) [.slice a l.length c] l) (hb : (l.map entrySh.bulk).sum ≤ 1048576)
    (a' : Option Addr) (c' : Nat) (q : List askSh.T) (hq : Rd (.slice askSh) w (Lt w.heap.size) [.slice a' q.length c'] q) :
    Calls Tryz.prog 9 #[.slice a l.length c, .slice a' q.length c'] w fun e w' => e = .returned (.bool true) ∧ Keep No w w' := by
  have hpe := partsE_bulk l
  have hll : l.length ≤ (l.map entrySh.bulk).sum := ents_bulkI l
  have HH := Lib.hid (And.intro h (And.intro hb (And.intro hpe (And.intro hll hq))))
  clear h hb hpe hll hq
  obtain ⟨ln, hln⟩ : ∃ n, l.length = n := ⟨_, rfl⟩
  obtain ⟨qn', hqn⟩ : ∃ n, q.length = n := ⟨_, rfl⟩
  have HL := Lib.hid (And.intro hln hqn)
  rw [hln, hqn]
  clear hln hqn
  go_enter Tryz.func9, Tryz.ntmps9
  go_wp2_with fail
  go_loopw [5, 6] (fun n i wr => ∃ (k : Nat) (s : Int), n = .int .i64 s ∧ i = .int .i64 k ∧ RowKit.Hid (k ≤ l.length ∧ s = (partsE (l.take k) : Nat) ∧ Keep No w wr)) (fun _ i _ => l.length - (intOf i).toNat)
  case atStart => exact ⟨0, 0, rfl, rfl, Nat.zero_le _, by simp [partsE], Keep.refl _ _⟩
  case round =>
    obtain ⟨k, s, rfl, rfl, HA⟩ := hrel
    rename World => wo
    have HK := Lib.hid HA.out.2.2
    by_cases hlt : k < l.length
    · have j1 : (k : Int) < (ln : Int) := by have := HL.out.1; omega
      have j1b : k < ln := by have := HL.out.1; omega
      by_cases h6 : k ≤ 600
      · have j2 : decide ((k : Int) ≤ 600) = true := by simp; omega
        have j2b : decide (k ≤ 600) = true := by simpa using h6
        obtain ⟨b, off, y1, z1, y2, z2, y3, z3, ha, hbi, -, hrow, hxe⟩ := ents_get (HH.out.1.agree _ HA.out.2.2.agreeNo) k hlt
        subst ha
        obtain ⟨r0, r1, r2, r3, r4, r5, r6, r7, r8⟩ := row_nine hrow
        obtain ⟨ps, eps, hpl, -⟩ := ent_cells hxe
        simp only [List.cons.injEq, true_and] at eps
        subst eps
        have hm := partsE_mem (List.getElem_mem hlt)
        obtain ⟨pn, hpn⟩ : ∃ p : Int, (partsN l[k].plan : Int) = p := ⟨_, rfl⟩
        have hpt := (lparts_any wo _ _ l[k].plan hpl (by have := HH.out.2.1; have := HH.out.2.2.1; omega)).mono (R' := fun e w3 => e = .returned (.int .i64 pn) ∧ RowKit.Hid (Keep No wo w3)) (by rintro e w3 ⟨rfl, h⟩; rw [hpn]; exact ⟨rfl, h⟩)
        obtain ⟨t, ht⟩ : ∃ t, IntKind.i64.wrap (s + pn) = t := ⟨_, rfl⟩
        have HT : RowKit.Hid (t = (partsE (l.take (k + 1)) : Nat) ∧ k < l.length) := by
          refine ⟨?_, hlt⟩
          rw [← ht, HA.out.2.1, ← hpn, IntKind.wrap_i64, partsE_succ l k hlt]
          have := partsE_take l (k + 1)
          rw [partsE_succ l k hlt] at this
          have := HH.out.2.1; have := HH.out.2.2.1
          omega
        have j0 : (0 : Int) ≤ (k : Int) := by omega
        have j3 : (k : Int) ≤ 9223372036854775806 := by omega
        clear hrow hxe hpl hm hpn h6 hbi
        generalize l[k] = xk at *
        clear hlt
        generalize xk.seq = v0 at *
        generalize xk.epoch = v1 at *
        generalize xk.plan.client = v2 at *
        generalize xk.plan.token = v3 at *
        generalize xk.plan.name = v4 at *
        generalize xk.plan.how = v5 at *
        generalize xk.plan.args.length = n1 at *
        generalize xk.plan.reads.length = n2 at *
        generalize xk.plan.writes.length = n3 at *
        go_wp2_with (go_at_call 18; refine hpt.mono ?_; clear hpt; rintro e w3 ⟨rfl, H3⟩)
        go_roundw
        case rel => exact ⟨k + 1, t, by first | rfl | simp, by simp, HT.out.2, HT.out.1, HK.out.trans H3.out⟩
        case measure => simp [intOf]; have := HT.out.2; omega
      · have j2 : decide ((k : Int) ≤ 600) = false := by simp; omega
        have j2b : decide (k ≤ 600) = false := by simp; omega
        have d1 : decide ((600 : Int) < (ln : Int)) = true := by simp; have := HL.out.1; omega
        have d1b : decide (600 < ln) = true := by simp; have := HL.out.1; omega
        clear hlt h6
        go_wp2_with (go_at_call 43; refine (index_any _).mono ?_; rintro e w3 ⟨rfl, hk3⟩; have HP3 := Lib.hid (HK.out.trans hk3); clear hk3)
        go_ret
        exact ⟨by simp, HP3.out⟩
    · have hke : k = l.length := by have := HA.out.1; omega
      have HS : RowKit.Hid (s = (partsE l : Nat)) := by have := HA.out.2.1; rw [hke, List.take_length] at this; exact this
      have hkn : k = ln := by have := HL.out.1; omega
      subst hkn
      have j1 : ¬ (k : Int) < (k : Int) := by omega
      clear hlt hke
      by_cases h6 : 600 < k
      · have d1 : decide ((600 : Int) < (k : Int)) = true := by simp; omega
        have d1b : decide (600 < k) = true := by simpa using h6
        clear h6
        go_wp2_with (go_at_call 43; refine (index_any _).mono ?_; rintro e w3 ⟨rfl, hk3⟩; have HP3 := Lib.hid (HK.out.trans hk3); clear hk3)
        go_ret
        exact ⟨by simp, HP3.out⟩
      · have d1 : decide ((600 : Int) < (k : Int)) = false := by simp; omega
        have d1b : decide (600 < k) = false := by simpa using h6
        by_cases h4 : 40000 < s
        · have d2 : decide (40000 < s) = true := by simpa using h4
          clear h4 h6
          go_wp2_with (go_at_call 43; refine (index_any _).mono ?_; rintro e w3 ⟨rfl, hk3⟩; have HP3 := Lib.hid (HK.out.trans hk3); clear hk3)
          go_ret
          exact ⟨by simp, HP3.out⟩
        · have d2 : decide (40000 < s) = false := by simpa using h4
          by_cases h5 : 50 < qn'
          · have d3 : decide ((50 : Int) < (qn' : Int)) = true := by simp; omega
            have d3b : decide (50 < qn') = true := by simpa using h5
            clear h4 h5 h6
            go_wp2_with (go_at_call 43; refine (index_any _).mono ?_; rintro e w3 ⟨rfl, hk3⟩; have HP3 := Lib.hid (HK.out.trans hk3); clear hk3)
            go_ret
            exact ⟨by simp, HP3.out⟩
          · have d3 : decide ((50 : Int) < (qn' : Int)) = false := by simp; omega
            have d3b : decide (50 < qn') = false := by simpa using h5
            have HB : RowKit.Hid (l.length ≤ 600 ∧ partsE l ≤ 40000 ∧ qn' ≤ 50) := ⟨by have := HL.out.1; omega, by have := HS.out; omega, by omega⟩
            clear h4 h5 h6
            go_upto_region 9 with (go_at_call 44; refine (ixNew_any _).mono ?_; rintro e w3 ⟨X, rfl, lab, ve, m, H3⟩)
            go_upto_region 10 with fail
            obtain ⟨R, hR⟩ : ∃ R, w3.heap.size = R := ⟨_, rfl⟩
            have HP : RowKit.Hid (RiM w X R [] [] 0 0 (w3.alloc (.cells #[.slice none 0 0] 106))) := by
              obtain ⟨q1, q2, q3⟩ := H3.out
              have ka := (Keep.refl No w3).alloc (.cells #[.slice none 0 0] 106)
              have hs := HK.out.size
              have hs2 := q2.size
              have hxl := q1.lt
              have hS : (w3.alloc (.cells #[.slice none 0 0] 106)).heap.size = w3.heap.size + 1 := by simp
              refine ⟨((HK.out.trans q2).trans ka), fun i => lab i < 7, One R, (IxAt.new q1).keep ka fun _ _ x => x, ⟨.slice none 0 0, No, by rw [← hR]; exact blk_new _ _, Own.nil _ _ _ _, rfl, fun _ h => h.elim, fun k hk => ?_⟩, fun i hi => ⟨⟨by have := q3 i hi; omega, by have := hxl i hi; omega⟩, fun hh => ?_, fun hh => by omega⟩, fun i hi => ⟨?_, fun hh => by omega⟩⟩
              · have : k = R := hk; omega
              · have h1 : i = R := hh; have := hxl i hi; omega
              · have : i = R := hi; omega
            rw [hR]
            generalize (w3.alloc (.cells #[.slice none 0 0] 106)) = w4 at *
            clear H3 hR
            go_wp2_with (go_at_call 43; refine (index_any _).mono ?_; rintro e w5 ⟨rfl, hk5⟩; have HP5 := Lib.hid (HP.out.more hk5); clear hk5)
            clear d1 d1b d2 d3 d3b j1 HK HA HP
            go_loopw [9] (fun i wr => ∃ (k' : Nat) (L : List Ent), i = .int .i64 k' ∧ RowKit.Hid (k' ≤ l.length ∧ RiM w X R L L 0 0 wr ∧ L.length ≤ k' ∧ cntI L ≤ partsE (l.take k') ∧ (L.map (fun e => e.epoch)).Pairwise (· ≤ ·))) (fun i _ => l.length - (intOf i).toNat)
            case atStart => exact ⟨0, [], rfl, Nat.zero_le _, HP5.out, by simp, by simp [cntI], by simp⟩
            case round =>
              clear HP5
              obtain ⟨k', L, rfl, HA⟩ := hrel
              rename World => wo
              by_cases hlt : k' < l.length
              · have j1 : (k' : Int) < (k : Int) := by have := HL.out.1; omega
                have j0 : (0 : Int) ≤ (k' : Int) := by omega
                have j3 : (k' : Int) ≤ 9223372036854775806 := by have := HB.out.1; omega
                have hkw := HA.out.2.1.keep
                obtain ⟨b, off, y1, z1, y2, z2, y3, z3, ha, hbi, hbw, hrow, hxe⟩ := ents_get (HH.out.1.agree _ hkw.agreeNo) k' hlt
                subst ha
                have hbw : b < w.heap.size := hbw
                obtain ⟨r0, r1, r2, r3, r4, r5, r6, r7, r8⟩ := row_nine hrow
                have hfit := plan_fitI (Nat.le_trans (ent_bulkI l[k']) (Nat.le_trans (mem_bulk entrySh (List.getElem_mem hlt)) HH.out.2.1))
                have hfew : l[k'].plan.Few := parts_few (n := partsN l[k'].plan) (Nat.le_refl _) (by omega)
                have hent := (rEntry_any wo _ _ l[k'] hxe hfew).mono (R' := fun en w3 => ∃ (a4 a5 a6 : Option Addr) (c4 c5 c6 : Nat), en = .returned (.agg #[.int .i64 l[k'].seq, .int .i64 l[k'].epoch, .int .i64 l[k'].plan.client, .int .u64 l[k'].plan.token, .string l[k'].plan.name, .slice a4 l[k'].plan.args.length c4, .int .i64 l[k'].plan.how, .slice a5 l[k'].plan.reads.length c5, .slice a6 l[k'].plan.writes.length c6]) ∧ RowKit.Hid (Rd entrySh w3 (Fr wo.heap.size w3.heap.size) [.int .i64 l[k'].seq, .int .i64 l[k'].epoch, .int .i64 l[k'].plan.client, .int .u64 l[k'].plan.token, .string l[k'].plan.name, .slice a4 l[k'].plan.args.length c4, .int .i64 l[k'].plan.how, .slice a5 l[k'].plan.reads.length c5, .slice a6 l[k'].plan.writes.length c6] l[k'] ∧ Keep No wo w3)) fun _ _ h => ge_n h
                obtain ⟨er, her⟩ : ∃ r, (addI L l[k']).1 = r := ⟨_, rfl⟩
                obtain ⟨L2, hL2⟩ : ∃ r, (addI L l[k']).2 = r := ⟨_, rfl⟩
                have HL2 : RowKit.Hid (k' < l.length ∧ L2.length ≤ k' + 1 ∧ cntI L2 ≤ partsE (l.take (k' + 1)) ∧ (L2.map (fun e => e.epoch)).Pairwise (· ≤ ·)) := by
                  have h1 := addI_cnt L l[k']
                  have h2 := addI_sorted L l[k'] HA.out.2.2.2.2
                  rw [hL2] at h1 h2
                  have h3 := HA.out.2.2.1
                  have h4 := HA.out.2.2.2.1
                  have h5 : partsN l[k'].plan = 1 + l[k'].plan.args.length + l[k'].plan.reads.length + l[k'].plan.writes.length := rfl
                  exact ⟨hlt, by omega, by rw [partsE_succ l k' hlt]; omega, h2⟩
                have hLl : L.length ≤ 65536 := by have := HA.out.2.2.1; have := HB.out.1; omega
                have hLc : cntI L ≤ 1048576 := by have := HA.out.2.2.2.1; have := partsE_take l k'; have := HB.out.2.1; omega
                have HAX : RowKit.Hid (∀ (lo hi : Nat) (W : World) (U : Nat → Prop) (a4 a5 a6 : Option Addr) (c4 c5 c6 : Nat), RiM w X R L L lo hi W → hi ≤ W.heap.size → Rd entrySh W U [.int .i64 l[k'].seq, .int .i64 l[k'].epoch, .int .i64 l[k'].plan.client, .int .u64 l[k'].plan.token, .string l[k'].plan.name, .slice a4 l[k'].plan.args.length c4, .int .i64 l[k'].plan.how, .slice a5 l[k'].plan.reads.length c5, .slice a6 l[k'].plan.writes.length c6] l[k'] → (∀ k, U k → lo ≤ k ∧ k < hi) →
                    Calls Tryz.prog 45 #[.pointer (some ⟨X, 0, none⟩), .agg #[.int .i64 l[k'].seq, .int .i64 l[k'].epoch, .int .i64 l[k'].plan.client, .int .u64 l[k'].plan.token, .string l[k'].plan.name, .slice a4 l[k'].plan.args.length c4, .int .i64 l[k'].plan.how, .slice a5 l[k'].plan.reads.length c5, .slice a6 l[k'].plan.writes.length c6]] W (fun en W' => en = .returned (.int .i64 er) ∧ RowKit.Hid (RiM w X R L2 L lo hi W' ∧ Keep (Theirs w lo hi) W W'))) := fun lo hi W U a4 a5 a6 c4 c5 c6 hm hhi he hU => by
                  refine (hm.addX hhi hLl hLc l[k'] a4 a5 a6 c4 c5 c6 he hU hfit.1 (by have h5 : partsN l[k'].plan = 1 + l[k'].plan.args.length + l[k'].plan.reads.length + l[k'].plan.writes.length := rfl; omega)).mono ?_
                  rintro en W' ⟨rfl, h1, h2⟩
                  rw [her]
                  rw [hL2] at h1
                  exact ⟨rfl, h1, h2⟩
                have HAR : RowKit.Hid (∀ (lo hi : Nat) (W : World), RiM w X R L2 L lo hi W → hi ≤ W.heap.size → Agree (Lt w.heap.size) wo W →
                    Calls Tryz.prog 54 #[.pointer (some ⟨R, 0, none⟩), .agg #[.int .i64 l[k'].seq, .int .i64 l[k'].epoch, .int .i64 l[k'].plan.client, .int .u64 l[k'].plan.token, .string l[k'].plan.name, .slice y1 l[k'].plan.args.length z1, .int .i64 l[k'].plan.how, .slice y2 l[k'].plan.reads.length z2, .slice y3 l[k'].plan.writes.length z3]] W (fun en W' => en = .returned (.int .i64 er) ∧ RowKit.Hid (RiM w X R L2 L2 lo hi W' ∧ Keep (Theirs w lo hi) W W'))) := fun lo hi W hm hhi hag => by
                  refine (hm.addR hhi hLl l[k'] y1 y2 y3 z1 z2 z3 (hxe.agree _ hag) hfit.1 hfew).mono ?_
                  rintro en W' ⟨rfl, h1, h2⟩
                  rw [her]
                  rw [hL2] at h1
                  exact ⟨rfl, h1, h2⟩
                have HRW : RowKit.Hid (∀ W, Agree (Lt w.heap.size) wo W → RowAt W b (off + k' * 9) [.int .i64 l[k'].seq, .int .i64 l[k'].epoch, .int .i64 l[k'].plan.client, .int .u64 l[k'].plan.token, .string l[k'].plan.name, .slice y1 l[k'].plan.args.length z1, .int .i64 l[k'].plan.how, .slice y2 l[k'].plan.reads.length z2, .slice y3 l[k'].plan.writes.length z3]) := fun W hag => hrow.agree (hag b hbi hbw)
                have hsp : RowKit.Hid (∀ W (U : Nat → Prop) (a4 a5 a6 : Option Addr) (c4 c5 c6 : Nat), Rd entrySh W U [.int .i64 l[k'].seq, .int .i64 l[k'].epoch, .int .i64 l[k'].plan.client, .int .u64 l[k'].plan.token, .string l[k'].plan.name, .slice a4 l[k'].plan.args.length c4, .int .i64 l[k'].plan.how, .slice a5 l[k'].plan.reads.length c5, .slice a6 l[k'].plan.writes.length c6] l[k'] → (∀ i, U i → i < W.heap.size) → Calls Tryz.prog 34 #[.slice (some ⟨W.heap.size, 0, none⟩) 1 1] (W.alloc (.cells #[.int .i64 l[k'].plan.client, .int .u64 l[k'].plan.token, .string l[k'].plan.name, .slice a4 l[k'].plan.args.length c4, .int .i64 l[k'].plan.how, .slice a5 l[k'].plan.reads.length c5, .slice a6 l[k'].plan.writes.length c6] 38)) fun e w' => e = .returned (.tuple #[]) ∧ RowKit.Hid (Keep U W w')) := fun W U a4 a5 a6 c4 c5 c6 he hU => by
                  obtain ⟨ps, eps, hpl, -⟩ := ent_cells he
                  simp only [List.cons.injEq, true_and] at eps
                  subst eps
                  exact (spoil_in hpl hU).mono (by rintro e w' ⟨rfl, h⟩; exact ⟨rfl, h⟩)
                have HRI : RowKit.Hid (RiM w X R L L 0 0 wo) := HA.out.2.1
                clear hrow hxe hfit hfew hLl hLc her hL2 hkw hbi hbw HA
                generalize l[k'] = xk at *
                clear hlt
                generalize xk.seq = v0 at *
                generalize xk.epoch = v1 at *
                generalize xk.plan.client = v2 at *
                generalize xk.plan.token = v3 at *
                generalize xk.plan.name = v4 at *
                generalize xk.plan.how = v5 at *
                generalize xk.plan.args.length = n1 at *
                generalize xk.plan.reads.length = n2 at *
                generalize xk.plan.writes.length = n3 at *
                go_upto_region 16 with (go_at_call 20; refine hent.mono ?_; clear hent; rintro en w3 ⟨a4, a5, a6, c4, c5, c6, rfl, H3⟩)
                obtain ⟨E, hE⟩ : ∃ E, w3.heap.size = E := ⟨_, rfl⟩
                have HW1 : RowKit.Hid ((w3.alloc (.cells #[.int .i64 v0, .int .i64 v1, .int .i64 v2, .int .u64 v3, .string v4, .slice a4 n1 c4, .int .i64 v5, .slice a5 n2 c5, .slice a6 n3 c6] 40)).drew.heap[E]? = some (.cells #[.int .i64 v0, .int .i64 v1, .int .i64 v2, .int .u64 v3, .string v4, .slice a4 n1 c4, .int .i64 v5, .slice a5 n2 c5, .slice a6 n3 c6] 40 (0, 0)) ∧ Agree (Lt w.heap.size) wo (w3.alloc (.cells #[.int .i64 v0, .int .i64 v1, .int .i64 v2, .int .u64 v3, .string v4, .slice a4 n1 c4, .int .i64 v5, .slice a5 n2 c5, .slice a6 n3 c6] 40)).drew ∧
                    RiM w X R L L wo.heap.size (w3.alloc (.cells #[.int .i64 v0, .int .i64 v1, .int .i64 v2, .int .u64 v3, .string v4, .slice a4 n1 c4, .int .i64 v5, .slice a5 n2 c5, .slice a6 n3 c6] 40)).drew.heap.size (w3.alloc (.cells #[.int .i64 v0, .int .i64 v1, .int .i64 v2, .int .u64 v3, .string v4, .slice a4 n1 c4, .int .i64 v5, .slice a5 n2 c5, .slice a6 n3 c6] 40)).drew ∧ Rd entrySh (w3.alloc (.cells #[.int .i64 v0, .int .i64 v1, .int .i64 v2, .int .u64 v3, .string v4, .slice a4 n1 c4, .int .i64 v5, .slice a5 n2 c5, .slice a6 n3 c6] 40)).drew (Fr wo.heap.size E) [.int .i64 v0, .int .i64 v1, .int .i64 v2, .int .u64 v3, .string v4, .slice a4 n1 c4, .int .i64 v5, .slice a5 n2 c5, .slice a6 n3 c6] xk ∧
                    wo.heap.size ≤ E ∧ E < (w3.alloc (.cells #[.int .i64 v0, .int .i64 v1, .int .i64 v2, .int .u64 v3, .string v4, .slice a4 n1 c4, .int .i64 v5, .slice a5 n2 c5, .slice a6 n3 c6] 40)).drew.heap.size ∧ w.heap.size ≤ wo.heap.size) := by
                  have K1 := (H3.out.2.alloc (.cells #[.int .i64 v0, .int .i64 v1, .int .i64 v2, .int .u64 v3, .string v4, .slice a4 n1 c4, .int .i64 v5, .slice a5 n2 c5, .slice a6 n3 c6] 40)).drew
                  have kd := ((Keep.refl No w3).alloc (.cells #[.int .i64 v0, .int .i64 v1, .int .i64 v2, .int .u64 v3, .string v4, .slice a4 n1 c4, .int .i64 v5, .slice a5 n2 c5, .slice a6 n3 c6] 40)).drew
                  rw [← hE]
                  have hs3 := H3.out.2.size
                  refine ⟨blk_new w3 (.cells #[.int .i64 v0, .int .i64 v1, .int .i64 v2, .int .u64 v3, .string v4, .slice a4 n1 c4, .int .i64 v5, .slice a5 n2 c5, .slice a6 n3 c6] 40), K1.agreeNo, HRI.out.wide K1, H3.out.1.agree _ kd.agreeNo, hs3, ?_, HRI.out.keep.size⟩
                  show w3.heap.size < (w3.alloc (.cells #[.int .i64 v0, .int .i64 v1, .int .i64 v2, .int .u64 v3, .string v4, .slice a4 n1 c4, .int .i64 v5, .slice a5 n2 c5, .slice a6 n3 c6] 40)).heap.size
                  simp
                rw [hE]
                clear H3 hE r0 r1 r2 r3 r4 r5 r6 r7 r8
                refine wp_region_canw [0, 1, 4, 5, 6, 7, 8, 2, 3, 9, 10] [2, 3, 9] [(4, 2), (5, 2), (6, 2), (7, 2), (8, 2), (4, 3), (5, 3), (6, 3), (7, 3), (8, 3)] (by kernel_rfl) (by kernel_rfl) (by kernel_rfl) (by kernel_rfl) (by intro c a d v w h; cases d <;> exact h) ?_
                generalize (w3.alloc (.cells #[.int .i64 v0, .int .i64 v1, .int .i64 v2, .int .u64 v3, .string v4, .slice a4 n1 c4, .int .i64 v5, .slice a5 n2 c5, .slice a6 n3 c6] 40)).drew = W1 at *
                have cE := blk_cell HW1.out.1
                obtain ⟨r0, r1, r2, r3, r4, r5, r6, r7, r8⟩ := row_nine (HRW.out _ HW1.out.2.1)
                have hax := (HAX.out _ _ W1 (Fr wo.heap.size E) a4 a5 a6 c4 c5 c6 HW1.out.2.2.1 (Nat.le_refl _) HW1.out.2.2.2.1 (fun k hk => ⟨hk.1, by have := hk.2; have := HW1.out.2.2.2.2.2.1; omega⟩)).mono (R' := fun en w5 => en = .returned (.int .i64 er) ∧ RowAt w5 b (off + k' * 9) [.int .i64 v0, .int .i64 v1, .int .i64 v2, .int .u64 v3, .string v4, .slice y1 n1 z1, .int .i64 v5, .slice y2 n2 z2, .slice y3 n3 z3] ∧ RowKit.Hid (RiM w X R L2 L wo.heap.size W1.heap.size w5 ∧ Keep (Theirs w wo.heap.size W1.heap.size) W1 w5 ∧ Agree (Lt w.heap.size) wo w5)) (by
                  rintro en w5 ⟨rfl, h5⟩
                  have hag : Agree (Lt w.heap.size) wo w5 := fun i hi hl => by
                    have hl : i < w.heap.size := hl
                    have hl1 : i < W1.heap.size := by have := HW1.out.2.2.2.2; omega
                    rw [h5.out.2.block i hl1 (fun hT => by have := hT.1; omega)]
                    exact HW1.out.2.1 i hi hl
                  exact ⟨rfl, HRW.out _ hag, h5.out.1, h5.out.2, hag⟩)
                iterate 7 (refine canw_sil rfl rfl (fun K hK => ?_); go_simp; refine hK _ ?_; clear hK K)
                refine canw_loud [4, 5, 6, 7, 8] rfl rfl rfl (fun K hK => ?_)
                go_wp2_with (go_at_call 45; refine hax.mono ?_; clear hax; rintro en w5 ⟨rfl, hrow5, H5⟩)
                obtain ⟨s0, s1, s2, s3, s4, s5, s6, s7, s8⟩ := row_nine hrow5
                refine Mid.normal (hK _ _ ?_ ?_)
                · simp only [List.forall_mem_cons]
                  refine ⟨?_, ?_, ?_, ?_, ?_, stabs_nil⟩ <;> exact stab_of rfl (fun K hK => by go_simp; exact hK)
                clear hK K
                clear r0 r1 r2 r3 r4 r5 r6 r7 r8 cE
                refine canw_loud [4, 5, 6, 7, 8] rfl rfl rfl (fun K hK => ?_)
                go_wp2_with (go_at_call 25; refine (hNum _ _).mono ?_; rintro en w20 ⟨rfl, hw⟩; subst hw)
                refine Mid.normal (hK _ _ ?_ ?_)
                · simp only [List.forall_mem_cons]
                  refine ⟨?_, ?_, ?_, ?_, ?_, stabs_nil⟩ <;> exact stab_of rfl (fun K hK => by go_simp; exact hK)
                clear hK K
                clear s0 s1 s2 s3 s4 s5 s6 s7 s8 hrow5
                have har := HAR.out _ _ w5 H5.out.1 H5.out.2.1.size H5.out.2.2
                refine canw_loud [] rfl rfl rfl (fun K hK => ?_)
                go_wp2_with (go_at_call 54; refine har.mono ?_; clear har; rintro en w6 ⟨rfl, H6⟩)
                refine Mid.normal (hK _ _ stabs_nil ?_)
                clear hK K
                iterate 1 (refine canw_sil rfl rfl (fun K hK => ?_); go_simp; refine hK _ ?_; clear hK K)
                refine canw_nil ?_
                have HE6 : RowKit.Hid (w6.heap[E]? = some (.cells #[.int .i64 v0, .int .i64 v1, .int .i64 v2, .int .u64 v3, .string v4, .slice a4 n1 c4, .int .i64 v5, .slice a5 n2 c5, .slice a6 n3 c6] 40 (0, 0)) ∧ Rd entrySh w6 (Fr wo.heap.size E) [.int .i64 v0, .int .i64 v1, .int .i64 v2, .int .u64 v3, .string v4, .slice a4 n1 c4, .int .i64 v5, .slice a5 n2 c5, .slice a6 n3 c6] xk ∧ E < w6.heap.size) := by
                  obtain ⟨g1, g2, g3, g4, g5, g6, g7⟩ := HW1.out
                  have hn : ∀ i, wo.heap.size ≤ i → i ≤ E → ¬ Theirs w wo.heap.size W1.heap.size i := fun i h1 h2 hT => hT.2 ⟨h1, by omega⟩
                  have hs5 := H5.out.2.1.size
                  have hs6 := H6.out.2.size
                  refine ⟨H6.out.2.blk (H5.out.2.1.blk g1 (hn _ g5 (Nat.le_refl _))) (hn _ g5 (Nat.le_refl _)), (g4.agree _ (H5.out.2.1.agree fun i _ hi => hn i hi.1 (Nat.le_of_lt hi.2))).agree _ (H6.out.2.agree fun i _ hi => hn i hi.1 (Nat.le_of_lt hi.2)), by omega⟩
                have cE := blk_cell HE6.out.1
                have hspx := hsp.out w6 (Fr wo.heap.size E) a4 a5 a6 c4 c5 c6 HE6.out.2.1 (fun i hi => by have := hi.2; have := HE6.out.2.2; omega)
                go_wp2_with (go_at_call 34; refine hspx.mono ?_; clear hspx; rintro en w7 ⟨rfl, H7⟩)
                go_roundw
                case rel => exact ⟨k' + 1, L2, by simp, HL2.out.1, (H6.out.1.turn HW1.out.2.2.2.2.2.2 H7.out fun i hi => ⟨hi.1, by have := hi.2; have := HW1.out.2.2.2.2.2.1; omega⟩).zero, HL2.out.2⟩
                case measure => simp [intOf]; have := HL2.out.1; omega
              · have hke : k' = l.length := by have := HA.out.1; omega
                have j1 : ¬ (k' : Int) < (k : Int) := by have := HL.out.1; omega
                clear hlt hke
                go_wp2_with fail
                have HSO : RowKit.Hid (L.length ≤ 65536 ∧ (L.map (fun e => e.epoch)).Pairwise (· ≤ ·)) := ⟨by have := HA.out.2.2.1; have := HA.out.1; have := HB.out.1; omega, HA.out.2.2.2.2⟩
                go_loopw [11] (fun i wr => ∃ m : Nat, i = .int .i64 m ∧ RowKit.Hid (m ≤ q.length ∧ RiM w X R L L 0 0 wr)) (fun i _ => q.length - (intOf i).toNat)
                case atStart => exact ⟨0, rfl, Nat.zero_le _, HA.out.2.1⟩
                case round =>
                  clear HA
                  obtain ⟨m2, rfl, HM⟩ := hrel
                  rename World => wi
                  by_cases hlt : m2 < q.length
                  · obtain ⟨b2, off2, qc, qt, qn, qk, qa, qe, ha, hb2, hrow, wc, wt, wn, wk⟩ := asks_get (HH.out.2.2.2.2.agree _ HM.out.2.keep.agreeNo) m2 hlt
                    subst ha
                    have i0 : (0 : Int) ≤ (m2 : Int) := by omega
                    have i1 : (m2 : Int) < (qn' : Int) := by have := HL.out.2; omega
                    have i3 : (m2 : Int) ≤ 9223372036854775806 := by have := HL.out.2; have := HB.out.2.2; omega
                    have HIN : RowKit.Hid (∀ W, Keep No wi W → Calls Tryz.prog 55 #[.pointer (some ⟨X, 0, none⟩), .pointer (some ⟨R, 0, none⟩), .agg #[.int .i64 qc, .int .u64 qt, .string qn, .string qk, .int .i64 qa, .int .i64 qe]] W fun e w' => e = .returned (.bool true) ∧ RowKit.Hid (Keep No W w')) := fun W hk => by
                      obtain ⟨g0, SX, SR, g1, g2, g3, g4⟩ := HM.out.2.more hk
                      exact (indexed_any W X R SX SR L g1 g2 HSO.out.1 HSO.out.2 qc qt qn qk qa qe wc wt wn wk).mono (by rintro e w' ⟨rfl, h⟩; exact ⟨rfl, h⟩)
                    have HRQ : RowKit.Hid (∀ W, Keep No wi W → RowAt W b2 (off2 + m2 * 6) [.int .i64 qc, .int .u64 qt, .string qn, .string qk, .int .i64 qa, .int .i64 qe]) := fun W hk => hrow.agree (hk.block b2 hb2 (fun x => x))
                    have HLT := Lib.hid hlt
                    obtain ⟨r0, r1, r2, r3, r4, r5⟩ := row_six hrow
                    have hi1 := HIN.out wi (Keep.refl _ _)
                    clear hrow hb2 wc wt wn wk hlt j1
                    go_wp2_with (go_at_call 55; first
                      | (refine hi1.mono ?_; clear hi1; rintro e w8 ⟨rfl, H8⟩; obtain ⟨s0, s1, s2, s3, s4, s5⟩ := row_six (HRQ.out _ H8.out))
                      | (refine (HIN.out _ H8.out).mono ?_; rintro e w9 ⟨rfl, H9⟩))
                    go_roundw
                    case rel => exact ⟨m2 + 1, by simp, HLT.out, HM.out.2.more (H8.out.trans H9.out)⟩
                    case measure => simp [intOf]; have := HLT.out; omega
                  · have i1 : ¬ (m2 : Int) < (qn' : Int) := by have := HL.out.2; omega
                    clear hlt
                    go_wp2_with fail
                    go_ret
                    exact ⟨rfl, HM.out.2.keep⟩
theorem LogIndexes_calls (w : World) (v : Value) (l : List Ent) (h : Rd (.slice entrySh) w (Lt w.heap.size) [v] l) (hb : (Sh.slice entrySh).bulk l ≤ 1048576) (u : Value) (q : List askSh.T) (hq : Rd (.slice askSh) w (Lt w.heap.size) [u] q) :
    Calls Tryz.prog 9 #[v, u] w fun e w' => e = .returned (.bool true) ∧ Keep No w w' := by
  obtain ⟨a, c, hv, -⟩ := id h
  simp only [List.cons.injEq, and_true] at hv
  subst hv
  obtain ⟨a', c', hu, -⟩ := id hq
  simp only [List.cons.injEq, and_true] at hu
  subst hu
  have hb' : (l.map entrySh.bulk).sum ≤ 1048576 := by have : (l.map entrySh.bulk).sum + 1 ≤ 1048576 := hb; omega
  exact LogIndexes_main w a c l h hb' a' c' q hq
end Go.Proofs.YtnknihmchmmenaaGreat
