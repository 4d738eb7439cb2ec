/-
  The program's index: Add.
-/
import Derived.Test.YtnknihmchmmenaaGreatIxF
import Derived.Test.YtnknihmchmmenaaGreatGZ
import Derived.Test.YtnknihmchmmenaaGreatHA
import Derived.Test.YtnknihmchmmenaaGreatCan3
namespace Go.Proofs.YtnknihmchmmenaaGreat
open Go Go.RowKit Go.Deep
set_option linter.unusedVariables false
set_option linter.unusedSimpArgs false

/-- what Add says, and what it leaves -/
def Added (w : World) (B : Nat) (S : Nat → Prop) (r : Int × List Ent) (e : Ending) (w' : World) : Prop :=
  e = .returned (.int .i64 r.1) ∧ ∃ S' : Nat → Prop, IxAt w' B S' r.2 ∧ (∀ k, S' k → S k ∨ w.heap.size ≤ k) ∧ Keep S w w'

/-- while Add goes on -/
structure AddSt (w : World) (B E Q : Nat) (S : Nat → Prop) (ec qc : Array Value) (lab : Nat → Nat) (ve : Value) (m : Nat → Nat) (le : List Int) (f : Nat → Lit → List Int) (n : Nat) (D : DataW Unit) (wr : World) : Prop where
  ix : IxW wr B lab ve m le f n D
  e : wr.heap[E]? = some (.cells ec 40 (0, 0))
  q : wr.heap[Q]? = some (.cells qc 33 (0, 0))
  keep : Keep S w wr
  lS : ∀ i, lab i < 7 → S i ∨ w.heap.size ≤ i
  nE : 7 ≤ lab E
  nQ : 7 ≤ lab Q
theorem relab_7 {lab : Nat → Nat} {lo hi j i : Nat} (h : 7 ≤ lab i) (hlo : i < lo) : 7 ≤ relab lab lo hi j i := by
  unfold relab
  rw [if_neg (by omega), if_neg (by omega)]
  omega
theorem AddSt.next {w : World} {B E Q : Nat} {S : Nat → Prop} {ec qc : Array Value} {lab : Nat → Nat} {ve : Value} {m : Nat → Nat} {le : List Int} {f : Nat → Lit → List Int} {n : Nat} {D : DataW Unit} {wr : World} (h : AddSt w B E Q S ec qc lab ve m le f n D wr) {w3 : World} {M : Nat → Prop} (hk : Keep M wr w3) (hM : ∀ i, M i → lab i < 7) {j : Nat} {ve' : Value} {le' : List Int} {f' : Nat → Lit → List Int} {n' : Nat} {D' : DataW Unit}
    (hix : IxW w3 B (relab lab wr.heap.size w3.heap.size j) ve' m le' f' n' D') : AddSt w B E Q S ec qc (relab lab wr.heap.size w3.heap.size j) ve' m le' f' n' D' w3 := by
  have hs := h.keep.size
  refine ⟨hix, hk.blk h.e (fun hh => by have := hM _ hh; have := h.nE; omega), hk.blk h.q (fun hh => by have := hM _ hh; have := h.nQ; omega), h.keep.then hk fun i hi hh => (h.lS i (hM i hh)).elim id fun hw => by omega, fun i hi => ?_, relab_7 h.nE (blk_lt h.e), relab_7 h.nQ (blk_lt h.q)⟩
  rcases relab_lt hi with hh | hh
  · exact h.lS i hh
  · exact .inr (by omega)
theorem AddSt.more {w : World} {B E Q : Nat} {S : Nat → Prop} {ec qc : Array Value} {lab : Nat → Nat} {ve : Value} {m : Nat → Nat} {le : List Int} {f : Nat → Lit → List Int} {n : Nat} {D : DataW Unit} {wr w' : World} (h : AddSt w B E Q S ec qc lab ve m le f n D wr) (hk : Keep No wr w') : AddSt w B E Q S ec qc lab ve m le f n D w' :=
  ⟨h.ix.more hk fun _ _ x => x, hk.blk h.e (fun x => x), hk.blk h.q (fun x => x), h.keep.thenNo hk, h.lS, h.nE, h.nQ⟩
theorem AddSt.congr {w : World} {B E Q : Nat} {S : Nat → Prop} {ec qc : Array Value} {lab : Nat → Nat} {ve : Value} {m : Nat → Nat} {le : List Int} {f g : Nat → Lit → List Int} {n : Nat} {D : DataW Unit} {wr : World} (h : AddSt w B E Q S ec qc lab ve m le f n D wr) (hg : ∀ j, 1 ≤ j → j ≤ 4 → ∀ kl, f j kl = g j kl) : AddSt w B E Q S ec qc lab ve m le g n D wr :=
  ⟨h.ix.congr hg, h.e, h.q, h.keep, h.lS, h.nE, h.nQ⟩

/-- one number more in the j-th map: all that the walk wants -/
theorem AddSt.upd {w : World} {B E Q : Nat} {S : Nat → Prop} {ec qc : Array Value} {lab : Nat → Nat} {ve : Value} {m : Nat → Nat} {le : List Int} {f : Nat → Lit → List Int} {n : Nat} {D : DataW Unit} {wr : World} (h : AddSt w B E Q S ec qc lab ve m le f n D wr) (j : Nat) (h1 : 1 ≤ j) (h4 : j ≤ 4) {t : TypeId} (ht : Tryz.prog.underlying t = some (.map (kt j) 93)) (hn : n < 9223372036854775807)
    {key : Value} {kl : Lit} (hkey : keyOf Tryz.prog (kt j) key = some kl) (x : Int) (hx : (Lit.int .i64 x).wf = true) (hlen : (f j kl).length ≤ 1048575) (f' : Nat → Lit → List Int) (hg : f' j kl = f j kl ++ [x]) (hg' : ∀ y, y ≠ kl → f' j y = f j y) (hr : ∀ i, 1 ≤ i → i ≤ 4 → i ≠ j → ∀ y, f i y = f' i y) :
    ∃ (q : Nat) (a : Option Addr) (c : Nat) (a' : Option Addr) (c' : Nat) (w2 w3 : World) (lab' : Nat → Nat), (Instr.lookup t (.map (some (m j))) key false).run Tryz.prog wr = .ok (.slice a q c) wr ∧ (Instr.lookup t (.map (some (m j))) key false).run Tryz.prog (wr.alloc (oneI x)) = .ok (.slice a q c) (wr.alloc (oneI x)) ∧
      (Builtin.append_ #[93, 93] 93 #[.slice a q c, .slice (some ⟨wr.heap.size, 0, none⟩) 1 1]).run Tryz.prog (wr.alloc (oneI x)) = .ok (.slice a' (q + 1) c') w2 ∧
      (Instr.mapUpdate t (.map (some (m j))) key (.slice a' (q + 1) c')).run Tryz.prog w2 = .ok () w3 ∧
      (∀ i, w2.cell? ⟨B, i, none⟩ = #[ve, .map (some (m 1)), .map (some (m 2)), .map (some (m 3)), .map (some (m 4)), .map (some (m 5))][i]?) ∧ (∀ i, w2.cell? ⟨Q, i, none⟩ = qc[i]?) ∧ RowKit.Hid (AddSt w B E Q S ec qc lab' ve m le f' (n + 1) D w3) := by
  obtain ⟨a, c, a', c', w2, w3, hlk, hap, hmu, HU⟩ := h.ix.upd j h1 h4 ht (by rw [maxLen_is]; exact hn) hkey x hx rfl (by omega) (f' j) hg hg'
  refine ⟨_, a, c, a', c', w2, w3, _, hlk _ (Keep.refl _ _), hlk _ ((Keep.refl _ _).alloc _), hap, hmu, blk_cell (HU.out.1.blk h.ix.blk (by rw [h.ix.lB]; omega)), blk_cell (HU.out.1.blk h.q (fun hh => by have := h.nQ; omega)), (h.next HU.out.2.1 (fun i hi => by omega) HU.out.2.2).congr fun i hi1 hi4 kl' => ?_⟩
  by_cases e : i = j
  · rw [if_pos e, e]
  · rw [if_neg e]
    exact hr i hi1 hi4 e kl'

/-- an index stays, whatever else turns -/
theorem IxAt.keep {w w' : World} {B : Nat} {S : Nat → Prop} {l : List Ent} (h : IxAt w B S l) {M : Nat → Prop} (hk : Keep M w w') (hM : ∀ i, S i → ¬ M i) : IxAt w' B S l := by
  obtain ⟨lab, ve, m, n, D, h1, h2, h3, h4⟩ := h
  exact ⟨lab, ve, m, n, D, h1.more hk fun i hi => hM i (h4 i hi), h2, h3, h4⟩

set_option maxRecDepth 10000 in
set_option maxHeartbeats 4000000 in
theorem ixAdd_any (w : World) (B : Nat) (S U : Nat → Prop) (l : List Ent) (h : IxAt w B S l) (hl : l.length ≤ 65536) (hc : cntI l ≤ 1048576) (e : Ent) (a1 a2 a3 : Option Addr) (c1 c2 c3 : Nat)
    (he : Rd entrySh w U [.int .i64 e.seq, .int .i64 e.epoch, .int .i64 e.plan.client, .int .u64 e.plan.token, .string e.plan.name, .slice a1 e.plan.args.length c1, .int .i64 e.plan.how, .slice a2 e.plan.reads.length c2, .slice a3 e.plan.writes.length c3] e) (hU : ∀ k, U k → ¬ S k) (hf : e.plan.Fit) (hpn : 1 + e.plan.reads.length + e.plan.writes.length ≤ 1048576) :
    Calls Tryz.prog 45 #[.pointer (some ⟨B, 0, none⟩), .agg #[.int .i64 e.seq, .int .i64 e.epoch, .int .i64 e.plan.client, .int .u64 e.plan.token, .string e.plan.name, .slice a1 e.plan.args.length c1, .int .i64 e.plan.how, .slice a2 e.plan.reads.length c2, .slice a3 e.plan.writes.length c3]] w (Added w B S (addI l e)) := by
  have h0 := h
  obtain ⟨lab, ve, m, n, D, hix, hask, hn, hlS⟩ := h
  obtain ⟨ps, eps, hpl, wq, we⟩ := ent_cells he
  simp only [List.cons.injEq, true_and] at eps
  have hpl : Rd planSh w U [.int .i64 e.plan.client, .int .u64 e.plan.token, .string e.plan.name, .slice a1 e.plan.args.length c1, .int .i64 e.plan.how, .slice a2 e.plan.reads.length c2, .slice a3 e.plan.writes.length c3] e.plan := by rw [eps]; exact hpl
  obtain ⟨av, cv, rfl, -, -, hat⟩ := i64_at hix.eps.rd
  have hle : (l.map (fun e => e.epoch)).length = l.length := by simp
  have HR : RowKit.Hid (∀ W, Keep No w W → Calls Tryz.prog 27 #[.agg #[.int .i64 e.plan.client, .int .u64 e.plan.token, .string e.plan.name, .slice a1 e.plan.args.length c1, .int .i64 e.plan.how, .slice a2 e.plan.reads.length c2, .slice a3 e.plan.writes.length c3]] W fun en w' => en = .returned (.int .i64 e.plan.right) ∧ RowKit.Hid (Keep No W w')) := fun W hk => (right_any W U _ e.plan (hpl.agree _ hk.agreeNo) hf).mono (by rintro _ w' ⟨rfl, hk'⟩; exact ⟨rfl, hk'⟩)
  have HLN : RowKit.Hid (∀ W, Keep No w W → Calls Tryz.prog 58 #[.pointer (some ⟨B, 0, none⟩)] W fun en w' => en = .returned (.int .i64 l.length) ∧ W = w') := fun W hk => by
    have := ixLen_any (hix.more hk fun _ _ x => x)
    rw [hle] at this
    exact this
  rw [hle] at hix
  have HH := Lib.hid (And.intro hix (And.intro hask (And.intro hn (And.intro hlS (And.intro hl (And.intro hc (And.intro hU (And.intro hpn h0))))))))
  have HW := Lib.hid (And.intro hpl (And.intro wq (And.intro we (And.intro hat eps))))
  have HERR : RowKit.Hid (∀ x W, addI l e = (x, l) → Keep No w W → Added w B S (addI l e) (.returned (.int .i64 x)) W) := fun x W ha hk => by
    rw [ha]
    exact ⟨rfl, S, h0.keep hk (fun _ _ x => x), fun k hk => .inl hk, hk.mono fun _ _ x => x.elim⟩
  clear h0 hix hask hn hlS hl hc hU hpn hpl wq we hat eps he hf
  go_enter Tryz.func45, Tryz.ntmps45
  go_wp2_with fail
  have xE := blk_new w (.cells #[.int .i64 e.seq, .int .i64 e.epoch, .int .i64 e.plan.client, .int .u64 e.plan.token, .string e.plan.name, .slice a1 e.plan.args.length c1, .int .i64 e.plan.how, .slice a2 e.plan.reads.length c2, .slice a3 e.plan.writes.length c3] 40)
  have KE := (Keep.refl No w).alloc (.cells #[.int .i64 e.seq, .int .i64 e.epoch, .int .i64 e.plan.client, .int .u64 e.plan.token, .string e.plan.name, .slice a1 e.plan.args.length c1, .int .i64 e.plan.how, .slice a2 e.plan.reads.length c2, .slice a3 e.plan.writes.length c3] 40)
  generalize (w.alloc (.cells #[.int .i64 e.seq, .int .i64 e.epoch, .int .i64 e.plan.client, .int .u64 e.plan.token, .string e.plan.name, .slice a1 e.plan.args.length c1, .int .i64 e.plan.how, .slice a2 e.plan.reads.length c2, .slice a3 e.plan.writes.length c3] 40)) = w1 at *
  obtain ⟨E, hE⟩ : ∃ E, w.heap.size = E := ⟨_, rfl⟩
  rw [hE] at xE ⊢
  have xd : w1.drew.heap[E]? = some (.cells #[.int .i64 e.seq, .int .i64 e.epoch, .int .i64 e.plan.client, .int .u64 e.plan.token, .string e.plan.name, .slice a1 e.plan.args.length c1, .int .i64 e.plan.how, .slice a2 e.plan.reads.length c2, .slice a3 e.plan.writes.length c3] 40 (0, 0)) := xE
  have HE := Lib.hid (And.intro xd (And.intro KE.drew hE))
  have cE := blk_cell xd
  have hln := HLN.out w1.drew KE.drew
  clear xE xd KE hE hle
  refine wp_region_canw [0, 1, 2, 3, 4, 5] [3] [(0, 3), (1, 3)] (by kernel_rfl) (by kernel_rfl) (by kernel_rfl) (by kernel_rfl) (by intro c a d v w h; cases d <;> exact h) ?_
  generalize w1.drew = w2 at *
  iterate 3 (refine canw_sil rfl rfl (fun K hK => ?_); go_simp; refine hK _ ?_; clear hK K)
  refine canw_loud [0, 1] rfl rfl rfl (fun K hK => ?_)
  go_wp2_with (go_at_call 58; refine hln.mono ?_; clear hln; rintro en w20 ⟨rfl, hw⟩; subst hw)
  refine Mid.normal (hK _ _ ?_ ?_)
  · simp only [List.forall_mem_cons]
    refine ⟨?_, ?_, stabs_nil⟩ <;> exact stab_of rfl (fun K hK => by go_simp; exact hK)
  clear hK K
  by_cases hsq : e.seq = (l.length : Int)
  · have e1 : (e.seq != (l.length : Int)) = false := by simpa using hsq
    have HSQ := Lib.hid hsq
    clear hsq
    iterate 2 (refine canw_sil rfl rfl (fun K hK => ?_); go_simp; refine hK _ ?_; clear hK K)
    refine canw_nil ?_
    go_upto_region 5 with fail
    obtain ⟨bad, hbad⟩ : ∃ bad : Bool, (bad = true ↔ (e.epoch < 0 ∨ ∃ h : l ≠ [], e.epoch < (l.getLast h).epoch)) := by classical exact ⟨decide (e.epoch < 0 ∨ ∃ h : l ≠ [], e.epoch < (l.getLast h).epoch), by simp⟩
    have hix2 := HH.out.1.more HE.out.2.1 fun _ _ x => x
    have cB := blk_cell hix2.blk
    have HB := Lib.hid hbad
    clear hbad hix2
    go_cut [20] (fun c wx => c = .bool bad ∧ RowKit.Hid (Keep No w2 wx))
    case first =>
      by_cases hneg : e.epoch < 0
      · have d1 : decide (e.epoch < 0) = true := by simpa using hneg
        have hb : bad = true := HB.out.2 (.inl hneg)
        clear hneg
        go_quiet (fail)
        go_wp2_with fail
        go_meet
        case rel => exact ⟨by rw [hb], (Keep.refl No _).drewN _⟩
      · have d1 : decide (e.epoch < 0) = false := by simpa using hneg
        by_cases hlen : l.length = 0
        · have d2 : decide ((0 : Int) < (l.length : Int)) = false := by simp; exact List.length_eq_zero_iff.1 hlen
          have d2b : decide (0 < l.length) = false := by simp; exact List.length_eq_zero_iff.1 hlen
          have hb : bad = false := by
            rw [Bool.eq_false_iff]
            intro hh
            rcases HB.out.1 hh with h | ⟨h, -⟩
            · exact hneg h
            · exact h (List.length_eq_zero_iff.1 hlen)
          clear hneg hlen
          go_quiet (fail)
          go_wp2_with fail
          go_meet
          case rel => exact ⟨by rw [hb], (Keep.refl No _).drewN _⟩
        · obtain ⟨p, hp⟩ : ∃ p, l.length = p + 1 := ⟨l.length - 1, by omega⟩
          have hne : l ≠ [] := fun h => hlen (by rw [h]; rfl)
          obtain ⟨b0, o0, rfl, hcell, -⟩ := HW.out.2.2.2.1 p (by simp; omega)
          have hy : ((l.map (fun e => e.epoch))[p]'(by simp; omega)) = (l.getLast hne).epoch := by
            rw [List.getElem_map, List.getLast_eq_getElem]
            congr 2
            omega
          rw [hy] at hcell
          have hcell2 : w2.cell? ⟨b0, o0 + p, none⟩ = some (.int .i64 (l.getLast hne).epoch) := by
            rw [← hcell]
            have := HH.out.1.eps
            obtain ⟨g, rows, T, h1, -⟩ := this
            rcases h1.2 with ⟨-, -, hv⟩ | ⟨b', off', cap, cur, hg, hv, hblk, -⟩
            · cases hv
            · simp only [Value.slice.injEq, Option.some.injEq, Addr.mk.injEq, and_true] at hv
              obtain ⟨⟨rfl, rfl⟩, -⟩ := hv
              exact HE.out.2.1.cell (blk_lt hblk) (fun x => x)
          have e2 : IntKind.i64.wrap ((l.length : Int) - 1) = (p : Int) := by rw [IntKind.wrap_i64]; have := HH.out.2.2.2.2.1; omega
          have d2 : decide ((0 : Int) < (l.length : Int)) = true := by simp; omega
          have d2b : decide (0 < l.length) = true := by simp; omega
          have i0 : (0 : Int) ≤ (p : Int) := by omega
          have i1 : (p : Int) < (l.length : Int) := by omega
          obtain ⟨y, hyy⟩ : ∃ y, (l.getLast hne).epoch = y := ⟨_, rfl⟩
          rw [hyy] at hcell2
          by_cases hlt : e.epoch < y
          · have d3 : decide (e.epoch < y) = true := by simpa using hlt
            have hb : bad = true := HB.out.2 (.inr ⟨hne, by rw [hyy]; exact hlt⟩)
            clear hneg hlen hp hcell hy hyy hlt hne
            go_quiet (fail)
            go_wp2_with fail
            go_meet
            case rel => exact ⟨by rw [hb], (Keep.refl No _).drewN _⟩
          · have d3 : decide (e.epoch < y) = false := by simpa using hlt
            have hb : bad = false := by
              rw [Bool.eq_false_iff]
              intro hh
              rcases HB.out.1 hh with h | ⟨h, h'⟩
              · exact hneg h
              · rw [hyy] at h'
                exact hlt h'
            clear hneg hlen hp hcell hy hyy hlt hne
            go_quiet (fail)
            go_wp2_with fail
            go_meet
            case rel => exact ⟨by rw [hb], (Keep.refl No _).drewN _⟩
    case rest =>
      obtain ⟨rfl, HK3⟩ := hcut
      have HE3 : RowKit.Hid (wc.heap[E]? = some (.cells #[.int .i64 e.seq, .int .i64 e.epoch, .int .i64 e.plan.client, .int .u64 e.plan.token, .string e.plan.name, .slice a1 e.plan.args.length c1, .int .i64 e.plan.how, .slice a2 e.plan.reads.length c2, .slice a3 e.plan.writes.length c3] 40 (0, 0)) ∧ Keep No w wc ∧ w.heap.size = E) := ⟨HK3.out.blk HE.out.1 (fun x => x), HE.out.2.1.trans HK3.out, HE.out.2.2⟩
      clear cE cB
      cases bad with
      | true =>
        have hadd : addI l e = (120, l) := by unfold addI; rw [if_neg (fun h => h HSQ.out), if_pos (HB.out.1 rfl)]
        have HADD := Lib.hid hadd
        clear hadd
        go_wp2_with fail
        go_ret
        exact HERR.out _ _ HADD.out HE3.out.2.1
      | false =>
        have HOK := Lib.hid (show ¬ (e.epoch < 0 ∨ ∃ h : l ≠ [], e.epoch < (l.getLast h).epoch) from fun h => by have := HB.out.2 h; cases this)
        have cE := blk_cell HE3.out.1
        have hrt := HR.out wc HE3.out.2.1
        clear HE HB HK3 HLN
        by_cases hr0 : e.plan.right = 0
        · have HR0 := Lib.hid hr0
          rw [hr0] at hrt
          clear hr0
          go_upto_region 10 with (go_at_call 27; refine hrt.mono ?_; clear hrt; rintro en w4 ⟨rfl, H4⟩)
          have xE4 := H4.out.blk HE3.out.1 (fun x => x)
          have cE := blk_cell xE4
          have K4 := HE3.out.2.1.trans H4.out
          have xE5 := blk_alloc (o' := .cells #[.int .i64 e.plan.client, .int .u64 e.plan.token, .string e.plan.name, .slice a1 e.plan.args.length c1] 33) xE4
          have xQ5 := blk_new w4 (.cells #[.int .i64 e.plan.client, .int .u64 e.plan.token, .string e.plan.name, .slice a1 e.plan.args.length c1] 33)
          have K5 := K4.alloc (.cells #[.int .i64 e.plan.client, .int .u64 e.plan.token, .string e.plan.name, .slice a1 e.plan.args.length c1] 33)
          go_upto_region 11 with fail
          generalize (w4.alloc (.cells #[.int .i64 e.plan.client, .int .u64 e.plan.token, .string e.plan.name, .slice a1 e.plan.args.length c1] 33)) = w5 at *
          obtain ⟨Q, hQ⟩ : ∃ Q, w4.heap.size = Q := ⟨_, rfl⟩
          rw [hQ] at xQ5 ⊢
          have HA0 : RowKit.Hid (AddSt w B E Q S #[.int .i64 e.seq, .int .i64 e.epoch, .int .i64 e.plan.client, .int .u64 e.plan.token, .string e.plan.name, .slice a1 e.plan.args.length c1, .int .i64 e.plan.how, .slice a2 e.plan.reads.length c2, .slice a3 e.plan.writes.length c3] #[.int .i64 e.plan.client, .int .u64 e.plan.token, .string e.plan.name, .slice a1 e.plan.args.length c1] lab (.slice av l.length cv) m (l.map (fun e => e.epoch)) (fAdd l e 0 0 0) n D w5) := by
            have hix := HH.out.1
            exact ⟨(hix.more K5 fun _ _ x => x).congr (fAdd_start l e), xE5, xQ5, K5.mono fun _ _ x => x.elim, fun i hi => .inl (HH.out.2.2.2.1 i hi), Nat.le_of_not_lt fun h => by have := hix.lt E h; have := HE3.out.2.2; omega, Nat.le_of_not_lt fun h => by have := hix.lt Q h; have := K4.size; omega⟩
          clear xE4 cE K4 xE5 xQ5 K5 hQ HE3 H4
          have HADD := Lib.hid (show addI l e = (0, l ++ [e]) from by unfold addI; rw [if_neg (fun h => h HSQ.out), if_neg HOK.out, if_neg (fun h => h HR0.out)])
          have HN0 : RowKit.Hid (n ≤ 3145728 ∧ e.seq = (l.length : Int) ∧ l.length ≤ 65536 ∧ e.plan.reads.Nodup ∧ e.plan.writes.Nodup ∧ e.plan.name.size ≤ 9223372036854775807 ∧ (Lit.int .i64 e.plan.client).wf = true ∧ (Lit.int .u64 e.plan.token).wf = true ∧ Rd (.slice .str) w U [.slice a2 e.plan.reads.length c2] e.plan.reads ∧ Rd (.slice .str) w U [.slice a3 e.plan.writes.length c3] e.plan.writes ∧ e.plan.reads.length + e.plan.writes.length ≤ 1048576) := by
            obtain ⟨h1, h2⟩ := right_sets HR0.out
            obtain ⟨_, _, _, _, _, _, eq, g1, g2, g3, g4, g5, g6, g7⟩ := plan_cells HW.out.1
            simp only [List.cons.injEq, Value.slice.injEq, true_and, and_true] at eq
            obtain ⟨⟨rfl, rfl⟩, ⟨rfl, rfl⟩, rfl, rfl⟩ := eq
            exact ⟨by have := HH.out.2.2.1; have := HH.out.2.2.2.2.2.1; omega, HSQ.out, HH.out.2.2.2.2.1, rising_nodup (h1 ▸ setT_rising _), rising_nodup (h2 ▸ setT_rising _), by rw [maxLen_is] at g6; exact g6, g4, g5, g2, g3, by have := HH.out.2.2.2.2.2.2.2.1; omega⟩
          clear HR0 HR HERR HOK
          have HDe := Lib.hid (HA0.out.more (Keep.refl No _).drew)
          obtain ⟨ua, uc, ua', uc', w7, hve, hap, hb7, HU⟩ := HDe.out.ix.upd0 e.epoch HW.out.2.2.1 (q := l.length) (by simp) (by have := HN0.out.2.2.1; omega)
          simp only [Value.slice.injEq, true_and] at hve
          obtain ⟨rfl, rfl⟩ := hve
          have cB := blk_cell HDe.out.ix.blk
          have cBa := blk_cell (blk_alloc (o' := oneI e.epoch) HDe.out.ix.blk)
          have cE := blk_cell HDe.out.e
          have cB7 := blk_cell hb7
          have fB7 := blk_fro hb7
          have HA1 := Lib.hid (HDe.out.next HU.out.2.2 (fun i hi => by
            rcases hi with hi | hi
            · omega
            · rw [hi, HDe.out.ix.lB]; omega) HU.out.2.1)
          clear HU hb7
          refine wp_region_canw [0, 1, 2, 3, 4, 5, 6, 7, 8, 9, 10, 11] [7, 8, 11] [(0, 7), (1, 7), (2, 7), (3, 7), (4, 7), (0, 8)] (by kernel_rfl) (by kernel_rfl) (by kernel_rfl) (by kernel_rfl) (by intro c a d v w h; cases d <;> exact h) ?_
          generalize w5.drew = wx at *
          iterate 7 (refine canw_sil rfl rfl (fun K hK => ?_); go_simp; refine hK _ ?_; clear hK K)
          refine canw_loud [0, 1, 2, 3, 4] rfl rfl rfl (fun K hK => ?_)
          go_wp2_with fail
          refine Mid.normal (hK _ _ ?_ ?_)
          · simp only [List.forall_mem_cons]
            refine ⟨?_, ?_, ?_, ?_, ?_, stabs_nil⟩ <;> exact stab_of rfl (fun K hK => by go_simp; exact hK)
          clear hK K
          refine canw_loud [0] rfl rfl rfl (fun K hK => ?_)
          refine wpList_app rfl (.tmp 62) (.tmp 65) 93 93 rfl rfl rfl hap ?_
          go_wp2_with fail
          refine Mid.normal (hK _ _ ?_ ?_)
          · simp only [List.forall_mem_cons]
            refine ⟨?_, stabs_nil⟩ <;> exact stab_of rfl (fun K hK => by go_simp; exact hK)
          clear hK K
          iterate 2 (refine canw_sil rfl rfl (fun K hK => ?_); go_simp; refine hK _ ?_; clear hK K)
          refine canw_loud [] rfl rfl rfl (fun K hK => ?_)
          go_wp2_with fail
          refine Mid.normal (hK _ _ stabs_nil ?_)
          clear hK K
          refine canw_nil ?_
          clear hap cB cBa cE cB7 fB7 HDe HA0
          generalize (relab lab wx.heap.size (w7.setCell ⟨B, 0, none⟩ (.slice ua' (l.length + 1) uc')).heap.size 0) = lab1 at *
          generalize (w7.setCell ⟨B, 0, none⟩ (.slice ua' (l.length + 1) uc')) = w8 at *
          generalize (Value.slice ua' (l.length + 1) uc') = ve1 at *
          go_upto_region 12 with fail
          have HD := Lib.hid (HA1.out.more (Keep.refl No _).drew)
          obtain ⟨uq, ua, uc, ua', uc', w9, w10, lab', hlk0, hlk1, hap, hmu, cB9, cQ9, HN⟩ := HD.out.upd 1 (by omega) (by omega) (t := 154) Tryz.underlying154 (by have := HN0.out.1; omega) (key := .int .i64 e.plan.client) (kl := .int .i64 e.plan.client) (Maps.keyOf_int_mk Tryz.underlying3 HN0.out.2.2.2.2.2.2.1) e.seq HW.out.2.1 (show (fI l 1 (.int .i64 e.plan.client)).length ≤ 1048575 from Nat.le_trans (fI_len l 1 _) (by have := HN0.out.2.2.1; omega)) (fAdd l e 1 0 0) (by have := HN0.out.2.1; rw [this]; exact (fI_snoc1 l e).1) ((fI_snoc1 l e).2) (by
            intro i h1 h4 hij y
            rcases (show i = 1 ∨ i = 2 ∨ i = 3 ∨ i = 4 by omega) with rfl | rfl | rfl | rfl <;> first | rfl | exact absurd rfl hij)
          have cB := blk_cell HD.out.ix.blk
          have cBa := blk_cell (blk_alloc (o' := oneI e.seq) HD.out.ix.blk)
          have cE := blk_cell HD.out.e
          have cQ := blk_cell HD.out.q
          have cQa := blk_cell (blk_alloc (o' := oneI e.seq) HD.out.q)
          clear HD
          refine wp_region_canw [0, 1, 2, 3, 4, 5, 6, 7, 8, 9, 10, 11, 12, 13, 14, 15, 16, 17] [15, 16, 17] [(0, 15), (1, 15), (2, 15), (3, 15), (4, 15), (5, 15), (6, 15), (7, 15), (8, 15), (9, 15), (10, 15), (11, 15), (12, 15), (0, 16), (1, 16), (2, 16), (3, 16), (4, 16), (5, 16)] (by kernel_rfl) (by kernel_rfl) (by kernel_rfl) (by kernel_rfl) (by intro c a d v w h; cases d <;> exact h) ?_
          generalize w8.drew = wx at *
          iterate 15 (refine canw_sil rfl rfl (fun K hK => ?_); go_simp; refine hK _ ?_; clear hK K)
          refine canw_loud [0, 1, 2, 3, 4, 5, 6, 7, 8, 9, 10, 11, 12] rfl rfl rfl (fun K hK => ?_)
          go_wp2_with fail
          refine Mid.normal (hK _ _ ?_ ?_)
          · simp only [List.forall_mem_cons]
            refine ⟨?_, ?_, ?_, ?_, ?_, ?_, ?_, ?_, ?_, ?_, ?_, ?_, ?_, stabs_nil⟩ <;> exact stab_of rfl (fun K hK => by go_simp; exact hK)
          clear hK K
          refine canw_loud [0, 1, 2, 3, 4, 5] rfl rfl rfl (fun K hK => ?_)
          refine wpList_app rfl (.tmp 81) (.tmp 84) 93 93 rfl rfl rfl hap ?_
          go_wp2_with fail
          refine Mid.normal (hK _ _ ?_ ?_)
          · simp only [List.forall_mem_cons]
            refine ⟨?_, ?_, ?_, ?_, ?_, ?_, stabs_nil⟩ <;> exact stab_of rfl (fun K hK => by go_simp; exact hK)
          clear hK K
          refine canw_loud [] rfl rfl rfl (fun K hK => ?_)
          refine wpList_mapUpdate_run rfl (.tmp 72) (.tmp 74) (.tmp 85) 154 rfl rfl rfl rfl hmu ?_
          go_wp2_with fail
          refine Mid.normal (hK _ _ stabs_nil ?_)
          clear hK K
          refine canw_nil ?_
          have HA2 := HN
          clear hlk0 hlk1 hap hmu cB9 cQ9 cB cBa cE cQ cQa HN
          clear HA1
          go_upto_region 13 with fail
          have HD := Lib.hid (HA2.out.more (Keep.refl No _).drew)
          obtain ⟨uq2, ub, ud, ub', ud', w11, w12, lab2, hlk0, hlk1, hap, hmu, cB9, cQ9, HN⟩ := HD.out.upd 2 (by omega) (by omega) (t := 155) Tryz.underlying155 (by have := HN0.out.1; omega) (key := .string e.plan.name) (kl := keyL e.plan.name) (keyL_of HN0.out.2.2.2.2.2.1) e.seq HW.out.2.1 (show (fI l 2 (keyL e.plan.name)).length ≤ 1048575 from Nat.le_trans (fI_len l 2 _) (by have := HN0.out.2.2.1; omega)) (fAdd l e 2 0 0) (by have := HN0.out.2.1; rw [this]; exact (fI_snoc2 l e).1) ((fI_snoc2 l e).2) (by
            intro i h1 h4 hij y
            rcases (show i = 1 ∨ i = 2 ∨ i = 3 ∨ i = 4 by omega) with rfl | rfl | rfl | rfl <;> first | rfl | exact absurd rfl hij)
          have cB := blk_cell HD.out.ix.blk
          have cBa := blk_cell (blk_alloc (o' := oneI e.seq) HD.out.ix.blk)
          have cE := blk_cell HD.out.e
          have cQ := blk_cell HD.out.q
          have cQa := blk_cell (blk_alloc (o' := oneI e.seq) HD.out.q)
          clear HD
          refine wp_region_canw [0, 1, 2, 3, 4, 5, 6, 7, 8, 9, 10, 11, 12, 13, 14, 15, 16, 17] [15, 16, 17] [(0, 15), (1, 15), (2, 15), (3, 15), (4, 15), (5, 15), (6, 15), (7, 15), (8, 15), (9, 15), (10, 15), (11, 15), (12, 15), (0, 16), (1, 16), (2, 16), (3, 16), (4, 16), (5, 16)] (by kernel_rfl) (by kernel_rfl) (by kernel_rfl) (by kernel_rfl) (by intro c a d v w h; cases d <;> exact h) ?_
          generalize w10.drew = wy at *
          iterate 15 (refine canw_sil rfl rfl (fun K hK => ?_); go_simp; refine hK _ ?_; clear hK K)
          refine canw_loud [0, 1, 2, 3, 4, 5, 6, 7, 8, 9, 10, 11, 12] rfl rfl rfl (fun K hK => ?_)
          go_wp2_with fail
          refine Mid.normal (hK _ _ ?_ ?_)
          · simp only [List.forall_mem_cons]
            refine ⟨?_, ?_, ?_, ?_, ?_, ?_, ?_, ?_, ?_, ?_, ?_, ?_, ?_, stabs_nil⟩ <;> exact stab_of rfl (fun K hK => by go_simp; exact hK)
          clear hK K
          refine canw_loud [0, 1, 2, 3, 4, 5] rfl rfl rfl (fun K hK => ?_)
          refine wpList_app rfl (.tmp 98) (.tmp 101) 93 93 rfl rfl rfl hap ?_
          go_wp2_with fail
          refine Mid.normal (hK _ _ ?_ ?_)
          · simp only [List.forall_mem_cons]
            refine ⟨?_, ?_, ?_, ?_, ?_, ?_, stabs_nil⟩ <;> exact stab_of rfl (fun K hK => by go_simp; exact hK)
          clear hK K
          refine canw_loud [] rfl rfl rfl (fun K hK => ?_)
          refine wpList_mapUpdate_run rfl (.tmp 89) (.tmp 91) (.tmp 102) 155 rfl rfl rfl rfl hmu ?_
          go_wp2_with fail
          refine Mid.normal (hK _ _ stabs_nil ?_)
          clear hK K
          refine canw_nil ?_
          have HA3 := HN
          clear hlk0 hlk1 hap hmu cB9 cQ9 cB cBa cE cQ cQa HN
          clear HA2
          have cE := blk_cell HA3.out.e
          go_wp2_with fail
          clear cE
          go_loopw [108] (fun i wr => ∃ (k n1 : Nat) (lab1 : Nat → Nat), i = .int .i64 k ∧ k ≤ e.plan.reads.length ∧ RowKit.Hid (AddSt w B E Q S #[.int .i64 e.seq, .int .i64 e.epoch, .int .i64 e.plan.client, .int .u64 e.plan.token, .string e.plan.name, .slice a1 e.plan.args.length c1, .int .i64 e.plan.how, .slice a2 e.plan.reads.length c2, .slice a3 e.plan.writes.length c3] #[.int .i64 e.plan.client, .int .u64 e.plan.token, .string e.plan.name, .slice a1 e.plan.args.length c1] lab1 ve1 m (l.map (fun e => e.epoch) ++ [e.epoch]) (fAdd l e 2 k 0) n1 D wr ∧ n1 ≤ n + 2 + k)) (fun i _ => e.plan.reads.length - (intOf i).toNat)
          case atStart => exact ⟨0, _, _, rfl, Nat.zero_le _, ⟨HA3.out, by omega⟩⟩
          case round =>
            obtain ⟨k, n1, lab1, rfl, hk, HA⟩ := hrel
            rename World => wl
            by_cases hlt : k < e.plan.reads.length
            · obtain ⟨kb, ko, rfl, hkc, hks⟩ := strs_get (HN0.out.2.2.2.2.2.2.2.2.1.agree _ (HA.out.1.keep.agree fun i _ hi => HH.out.2.2.2.2.2.2.1 i hi)) k hlt
              have j0 : (0 : Int) ≤ (k : Int) := by omega
              have j1 : (k : Int) < (e.plan.reads.length : Int) := by omega
              have j3 : (k : Int) ≤ 9223372036854775806 := by have := HN0.out.2.2.2.2.2.2.2.2.2.2; omega
              have hsn := fP_snoc (l := l) (sel := fun e => e.plan.reads) hlt HN0.out.2.2.2.1
              have hsl := fP_len (l := l) (sel := fun e => e.plan.reads) hlt HN0.out.2.2.2.1
              have HK := Lib.hid (And.intro hlt (And.intro hks (And.intro hsn hsl)))
              obtain ⟨kx, hkx⟩ : ∃ kx, e.plan.reads[k] = kx := ⟨_, rfl⟩
              rw [hkx] at hkc
              have HKX : RowKit.Hid (kx.size ≤ 9223372036854775807 ∧ (fP l (fun e => e.plan.reads) e.plan.reads k (keyL kx)).length ≤ l.length ∧ fP l (fun e => e.plan.reads) e.plan.reads (k + 1) (keyL kx) = fP l (fun e => e.plan.reads) e.plan.reads k (keyL kx) ++ [(l.length : Int)] ∧ ∀ y, y ≠ keyL kx → fP l (fun e => e.plan.reads) e.plan.reads (k + 1) y = fP l (fun e => e.plan.reads) e.plan.reads k y) := by rw [← hkx]; exact ⟨hks, hsl, hsn⟩
              have HLT : RowKit.Hid (k < e.plan.reads.length) := hlt
              have HA1 := Lib.hid HA.out.1
              have HNN := Lib.hid HA.out.2
              clear HK hks hsn hsl hkx hlt hk HA
              go_upto_region 17 with fail
              clear hkc
              have HD := Lib.hid (HA1.out.more (Keep.refl No _).drew)
              obtain ⟨uq, ua, uc, ua', uc', w9, w10, lab', hlk0, hlk1, hap, hmu, cB9, cQ9, HN⟩ := HD.out.upd 3 (by omega) (by omega) (t := 155) Tryz.underlying155 (by have := HN0.out.1; have := HNN.out; have := HN0.out.2.2.2.2.2.2.2.2.2.2; have := HLT.out; omega) (key := .string kx) (kl := keyL kx) (keyL_of HKX.out.1) e.seq HW.out.2.1 (show (fP l (fun e => e.plan.reads) e.plan.reads k (keyL kx)).length ≤ 1048575 from Nat.le_trans HKX.out.2.1 (by have := HN0.out.2.2.1; omega)) (fAdd l e 2 (k + 1) 0) (by have := HN0.out.2.1; rw [this]; exact HKX.out.2.2.1) (HKX.out.2.2.2) (by
                intro i h1 h4 hij y
                rcases (show i = 1 ∨ i = 2 ∨ i = 3 ∨ i = 4 by omega) with rfl | rfl | rfl | rfl <;> first | rfl | exact absurd rfl hij)
              have cB := blk_cell HD.out.ix.blk
              have cBa := blk_cell (blk_alloc (o' := oneI e.seq) HD.out.ix.blk)
              have cE := blk_cell HD.out.e
              have cQ := blk_cell HD.out.q
              have cQa := blk_cell (blk_alloc (o' := oneI e.seq) HD.out.q)
              clear HD
              refine wp_region_canw [0, 1, 2, 3, 4, 5, 6, 7, 8, 9, 10, 11, 12, 13, 14, 15] [13, 14, 15] [(0, 13), (1, 13), (2, 13), (3, 13), (4, 13), (5, 13), (6, 13), (7, 13), (8, 13), (9, 13), (10, 13), (0, 14), (1, 14), (2, 14), (3, 14), (4, 14)] (by kernel_rfl) (by kernel_rfl) (by kernel_rfl) (by kernel_rfl) (by intro c a d v w h; cases d <;> exact h) ?_
              generalize wl.drew = wx at *
              iterate 13 (refine canw_sil rfl rfl (fun K hK => ?_); go_simp; refine hK _ ?_; clear hK K)
              refine canw_loud [0, 1, 2, 3, 4, 5, 6, 7, 8, 9, 10] rfl rfl rfl (fun K hK => ?_)
              go_wp2_with fail
              refine Mid.normal (hK _ _ ?_ ?_)
              · simp only [List.forall_mem_cons]
                refine ⟨?_, ?_, ?_, ?_, ?_, ?_, ?_, ?_, ?_, ?_, ?_, stabs_nil⟩ <;> exact stab_of rfl (fun K hK => by go_simp; exact hK)
              clear hK K
              refine canw_loud [0, 1, 2, 3, 4] rfl rfl rfl (fun K hK => ?_)
              refine wpList_app rfl (.tmp 122) (.tmp 125) 93 93 rfl rfl rfl hap ?_
              go_wp2_with fail
              refine Mid.normal (hK _ _ ?_ ?_)
              · simp only [List.forall_mem_cons]
                refine ⟨?_, ?_, ?_, ?_, ?_, stabs_nil⟩ <;> exact stab_of rfl (fun K hK => by go_simp; exact hK)
              clear hK K
              refine canw_loud [] rfl rfl rfl (fun K hK => ?_)
              refine wpList_mapUpdate_run rfl (.tmp 115) (.tmp 116) (.tmp 126) 155 rfl rfl rfl rfl hmu ?_
              go_wp2_with fail
              refine Mid.normal (hK _ _ stabs_nil ?_)
              clear hK K
              refine canw_nil ?_
              have HAN := HN
              clear hlk0 hlk1 hap hmu cB9 cQ9 cB cBa cE cQ cQa HN
              clear HA1
              go_wp2_with fail
              go_roundw
              case rel => exact ⟨k + 1, _, _, by simp, HLT.out, ⟨HAN.out, by have := HNN.out; omega⟩⟩
              case measure => simp [intOf]; have := HLT.out; omega
            · have hke : k = e.plan.reads.length := by omega
              subst hke
              have HA4 := Lib.hid HA.out
              have j1 : ¬ (e.plan.reads.length : Int) < (e.plan.reads.length : Int) := by omega
              have cE := blk_cell HA4.out.1.e
              clear hlt hk HA HA3
              go_wp2_with fail
              clear cE j1
              go_loopw [133] (fun i wr => ∃ (k n1 : Nat) (lab1 : Nat → Nat), i = .int .i64 k ∧ k ≤ e.plan.writes.length ∧ RowKit.Hid (AddSt w B E Q S #[.int .i64 e.seq, .int .i64 e.epoch, .int .i64 e.plan.client, .int .u64 e.plan.token, .string e.plan.name, .slice a1 e.plan.args.length c1, .int .i64 e.plan.how, .slice a2 e.plan.reads.length c2, .slice a3 e.plan.writes.length c3] #[.int .i64 e.plan.client, .int .u64 e.plan.token, .string e.plan.name, .slice a1 e.plan.args.length c1] lab1 ve1 m (l.map (fun e => e.epoch) ++ [e.epoch]) (fAdd l e 2 e.plan.reads.length k) n1 D wr ∧ n1 ≤ n + 2 + e.plan.reads.length + k)) (fun i _ => e.plan.writes.length - (intOf i).toNat)
              case atStart => exact ⟨0, _, _, rfl, Nat.zero_le _, ⟨HA4.out.1, by have := HA4.out.2; omega⟩⟩
              case round =>
                obtain ⟨k, n1, lab1, rfl, hk, HA⟩ := hrel
                rename World => wl
                by_cases hlt : k < e.plan.writes.length
                · obtain ⟨kb, ko, rfl, hkc, hks⟩ := strs_get (HN0.out.2.2.2.2.2.2.2.2.2.1.agree _ (HA.out.1.keep.agree fun i _ hi => HH.out.2.2.2.2.2.2.1 i hi)) k hlt
                  have j0 : (0 : Int) ≤ (k : Int) := by omega
                  have j1 : (k : Int) < (e.plan.writes.length : Int) := by omega
                  have j3 : (k : Int) ≤ 9223372036854775806 := by have := HN0.out.2.2.2.2.2.2.2.2.2.2; omega
                  have hsn := fP_snoc (l := l) (sel := fun e => e.plan.writes) hlt HN0.out.2.2.2.2.1
                  have hsl := fP_len (l := l) (sel := fun e => e.plan.writes) hlt HN0.out.2.2.2.2.1
                  have HK := Lib.hid (And.intro hlt (And.intro hks (And.intro hsn hsl)))
                  obtain ⟨kx, hkx⟩ : ∃ kx, e.plan.writes[k] = kx := ⟨_, rfl⟩
                  rw [hkx] at hkc
                  have HKX : RowKit.Hid (kx.size ≤ 9223372036854775807 ∧ (fP l (fun e => e.plan.writes) e.plan.writes k (keyL kx)).length ≤ l.length ∧ fP l (fun e => e.plan.writes) e.plan.writes (k + 1) (keyL kx) = fP l (fun e => e.plan.writes) e.plan.writes k (keyL kx) ++ [(l.length : Int)] ∧ ∀ y, y ≠ keyL kx → fP l (fun e => e.plan.writes) e.plan.writes (k + 1) y = fP l (fun e => e.plan.writes) e.plan.writes k y) := by rw [← hkx]; exact ⟨hks, hsl, hsn⟩
                  have HLT : RowKit.Hid (k < e.plan.writes.length) := hlt
                  have HA1 := Lib.hid HA.out.1
                  have HNN := Lib.hid HA.out.2
                  clear HK hks hsn hsl hkx hlt hk HA
                  go_upto_region 22 with fail
                  clear hkc
                  have HD := Lib.hid (HA1.out.more (Keep.refl No _).drew)
                  obtain ⟨uq, ua, uc, ua', uc', w9, w10, lab', hlk0, hlk1, hap, hmu, cB9, cQ9, HN⟩ := HD.out.upd 4 (by omega) (by omega) (t := 155) Tryz.underlying155 (by have := HN0.out.1; have := HNN.out; have := HN0.out.2.2.2.2.2.2.2.2.2.2; have := HLT.out; omega) (key := .string kx) (kl := keyL kx) (keyL_of HKX.out.1) e.seq HW.out.2.1 (show (fP l (fun e => e.plan.writes) e.plan.writes k (keyL kx)).length ≤ 1048575 from Nat.le_trans HKX.out.2.1 (by have := HN0.out.2.2.1; omega)) (fAdd l e 2 e.plan.reads.length (k + 1)) (by have := HN0.out.2.1; rw [this]; exact HKX.out.2.2.1) (HKX.out.2.2.2) (by
                    intro i h1 h4 hij y
                    rcases (show i = 1 ∨ i = 2 ∨ i = 3 ∨ i = 4 by omega) with rfl | rfl | rfl | rfl <;> first | rfl | exact absurd rfl hij)
                  have cB := blk_cell HD.out.ix.blk
                  have cBa := blk_cell (blk_alloc (o' := oneI e.seq) HD.out.ix.blk)
                  have cE := blk_cell HD.out.e
                  have cQ := blk_cell HD.out.q
                  have cQa := blk_cell (blk_alloc (o' := oneI e.seq) HD.out.q)
                  clear HD
                  refine wp_region_canw [0, 1, 2, 3, 4, 5, 6, 7, 8, 9, 10, 11, 12, 13, 14, 15] [13, 14, 15] [(0, 13), (1, 13), (2, 13), (3, 13), (4, 13), (5, 13), (6, 13), (7, 13), (8, 13), (9, 13), (10, 13), (0, 14), (1, 14), (2, 14), (3, 14), (4, 14)] (by kernel_rfl) (by kernel_rfl) (by kernel_rfl) (by kernel_rfl) (by intro c a d v w h; cases d <;> exact h) ?_
                  generalize wl.drew = wx at *
                  iterate 13 (refine canw_sil rfl rfl (fun K hK => ?_); go_simp; refine hK _ ?_; clear hK K)
                  refine canw_loud [0, 1, 2, 3, 4, 5, 6, 7, 8, 9, 10] rfl rfl rfl (fun K hK => ?_)
                  go_wp2_with fail
                  refine Mid.normal (hK _ _ ?_ ?_)
                  · simp only [List.forall_mem_cons]
                    refine ⟨?_, ?_, ?_, ?_, ?_, ?_, ?_, ?_, ?_, ?_, ?_, stabs_nil⟩ <;> exact stab_of rfl (fun K hK => by go_simp; exact hK)
                  clear hK K
                  refine canw_loud [0, 1, 2, 3, 4] rfl rfl rfl (fun K hK => ?_)
                  refine wpList_app rfl (.tmp 147) (.tmp 150) 93 93 rfl rfl rfl hap ?_
                  go_wp2_with fail
                  refine Mid.normal (hK _ _ ?_ ?_)
                  · simp only [List.forall_mem_cons]
                    refine ⟨?_, ?_, ?_, ?_, ?_, stabs_nil⟩ <;> exact stab_of rfl (fun K hK => by go_simp; exact hK)
                  clear hK K
                  refine canw_loud [] rfl rfl rfl (fun K hK => ?_)
                  refine wpList_mapUpdate_run rfl (.tmp 140) (.tmp 141) (.tmp 151) 155 rfl rfl rfl rfl hmu ?_
                  go_wp2_with fail
                  refine Mid.normal (hK _ _ stabs_nil ?_)
                  clear hK K
                  refine canw_nil ?_
                  have HAN := HN
                  clear hlk0 hlk1 hap hmu cB9 cQ9 cB cBa cE cQ cQa HN
                  clear HA1
                  go_wp2_with fail
                  go_roundw
                  case rel => exact ⟨k + 1, _, _, by simp, HLT.out, ⟨HAN.out, by have := HNN.out; omega⟩⟩
                  case measure => simp [intOf]; have := HLT.out; omega
                · have hke : k = e.plan.writes.length := by omega
                  subst hke
                  have HA5 := Lib.hid HA.out
                  have j1 : ¬ (e.plan.writes.length : Int) < (e.plan.writes.length : Int) := by omega
                  clear hlt hk HA HA4
                  go_upto_region 24 with fail
                  have HD := Lib.hid (HA5.out.1.more (Keep.refl No _).drew)
                  obtain ⟨w13, hmu, HU⟩ := HD.out.ix.updD (by have := HA5.out.2; have := HN0.out; rw [maxLen_is]; omega) HN0.out.2.2.2.2.2.2.1 HN0.out.2.2.2.2.2.2.2.1 HW.out.2.1
                  have cB := blk_cell HD.out.ix.blk
                  have cE := blk_cell HD.out.e
                  have cQ := blk_cell HD.out.q
                  have HZ : RowKit.Hid (Added w B S (addI l e) (.returned (.int .i64 0)) w13) := by
                    rw [HADD.out]
                    have hix := HU.out.2.congr (fun j h1 h4 kl => fAdd_end l e j h1 h4 kl)
                    have hsq := HN0.out.2.1
                    rw [show l.map (fun e => e.epoch) ++ [e.epoch] = (l ++ [e]).map (fun e => e.epoch) by simp] at hix
                    rw [hsq] at hix
                    refine ⟨rfl, fun i => lab1 i < 7, ⟨lab1, _, m, _, _, hix, HH.out.2.1.snoc e HN0.out.2.2.2.2.2.2.1 HN0.out.2.2.2.2.2.2.2.1, ?_, fun i hi => hi⟩, fun k hk => HD.out.lS k hk, HD.out.keep.then HU.out.1 fun i hi hh => (HD.out.lS i (by rw [hh]; omega)).elim id fun h => by omega⟩
                    have h1 := HA5.out.2
                    have h2 := HH.out.2.2.1
                    have h3 : cntI (l ++ [e]) = cntI l + (1 + e.plan.reads.length + e.plan.writes.length) := by simp [cntI]
                    rw [h3]
                    omega
                  clear HU HD
                  refine wp_region_canw [0, 1, 2, 3, 4, 5, 6, 7, 8, 9, 10, 11] [11] [] (by kernel_rfl) (by kernel_rfl) (by kernel_rfl) (by kernel_rfl) (by intro c a d v w h; cases d <;> exact h) ?_
                  generalize wl.drew = wx at *
                  iterate 11 (refine canw_sil rfl rfl (fun K hK => ?_); go_simp; refine hK _ ?_; clear hK K)
                  refine canw_loud [] rfl rfl rfl (fun K hK => ?_)
                  refine wpList_mapUpdate_run rfl (.tmp 156) (.tmp 161) (.tmp 163) 156 rfl rfl rfl rfl hmu ?_
                  go_wp2_with fail
                  refine Mid.normal (hK _ _ stabs_nil ?_)
                  clear hK K
                  refine canw_nil ?_
                  go_wp2_with fail
                  go_ret
                  exact HZ.out
        · have e3 : (e.plan.right != 0) = true := by simpa using hr0
          have hadd : addI l e = (e.plan.right, l) := by unfold addI; rw [if_neg (fun h => h HSQ.out), if_neg HOK.out, if_pos hr0]
          have HADD := Lib.hid hadd
          clear hadd hr0
          generalize e.plan.right = rt at *
          go_wp2_with (go_at_call 27; refine hrt.mono ?_; clear hrt; rintro en w4 ⟨rfl, H4⟩)
          go_ret
          exact HERR.out _ _ HADD.out (HE3.out.2.1.trans H4.out)
  · have e1 : (e.seq != (l.length : Int)) = true := by simpa using hsq
    iterate 2 (refine canw_sil rfl rfl (fun K hK => ?_); go_simp; refine hK _ ?_; clear hK K)
    refine canw_nil ?_
    have hadd : addI l e = (122, l) := by unfold addI; rw [if_pos hsq]
    have HADD := Lib.hid hadd
    clear hsq hadd
    go_wp2_with fail
    go_ret
    exact HERR.out _ _ HADD.out HE.out.2.1
end Go.Proofs.YtnknihmchmmenaaGreat
