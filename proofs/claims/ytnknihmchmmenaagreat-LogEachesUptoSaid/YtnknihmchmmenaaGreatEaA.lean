/-
  Both logs of a list of Appends (the law's 'both').
-/
import Derived.Test.YtnknihmchmmenaaGreatPlG
import Derived.Test.YtnknihmchmmenaaGreatHI
import Derived.Test.YtnknihmchmmenaaGreatHJ
import Derived.Test.YtnknihmchmmenaaGreatCan3
namespace Go.Proofs.YtnknihmchmmenaaGreat
open Go Go.RowKit Go.Deep
set_option linter.unusedVariables false
set_option linter.unusedSimpArgs false

theorem lensA_take (l : List Act') (k : Nat) : lensA (l.take k) ≤ lensA l := by
  unfold lensA
  conv => rhs; rw [← List.take_append_drop k l, List.map_append, List.sum_append]
  omega
theorem app_len (x : Lg) (ep : Int) (ps : List Plan) : (x.append ep ps).2.l.length ≤ x.l.length + ps.length := by
  rcases append_cases x ep ps with ⟨-, e, -⟩ | ⟨e, -⟩
  · rw [e]; omega
  · rw [e]
    have := layAt_len x.l.length ep ps
    show (x.l ++ layAt x.l.length ep ps).length ≤ _
    rw [List.length_append]; omega
theorem PlayG.noG {w : World} {LB WB : Nat} {x : Lg} {G : Nat → Prop} {wr : World} (h : PlayG w LB WB x G wr) : PlayG w LB WB x No wr := by
  obtain ⟨S, T, h1, h2, h3, h4, h5, h6⟩ := h
  exact ⟨S, T, h1, h2, h3, h4, fun k hk => ⟨(h5 k hk).1, fun x => x⟩, fun k hk => ⟨(h6 k hk).1, fun x => x⟩⟩

theorem PlayG.begin {w w1 w2 : World} (h0 : Keep No w w1) (h : LogAt 117 w2 w1.heap.size (One w1.heap.size) lg0) (hk : Keep No w1 w2) (hs : w2.heap.size = w1.heap.size + 1) :
    PlayG w w1.heap.size w2.heap.size lg0 No (w2.alloc (.cells #[.slice none 0 0, .int .i64 0] 43)) := by
  have ka := (Keep.refl No w2).alloc (.cells #[.slice none 0 0, .int .i64 0] 43)
  have h1 := h0.size
  exact ⟨One w1.heap.size, One w2.heap.size, (h0.trans hk).trans ka, h.agree ka.agreeNo ka.size, ⟨_, No, blk_new _ _, Own.nil _ _ _ _, rfl, fun _ h => h.elim, rfl, fun k hk => by have : k = w2.heap.size := hk; simp; omega⟩,
    fun k h1 h2 => by have : k = w1.heap.size := h1; have : k = w2.heap.size := h2; omega, fun k hk => ⟨by have : k = w1.heap.size := hk; omega, fun x => x⟩, fun k hk => ⟨by have : k = w2.heap.size := hk; omega, fun x => x⟩⟩

theorem Play1.next {w : World} {LB WB : Nat} {x x2 : Lg} {G : Nat → Prop} {w3 wr w' : World} (h : Play1 w LB WB x x2 G w3 wr) (hk : Keep No wr w') : Play1 w LB WB x x2 G w3 w' := by
  obtain ⟨S, T, h1, h2, h3, h4, h5, h6, h7⟩ := h
  exact ⟨S, T, h1.trans hk, h2.agree hk.agreeNo hk.size, h3.agree hk.agreeNo hk.size, h4, h5, h6, h7.thenNo hk⟩
theorem Play1.kept {w : World} {LB WB : Nat} {x x2 : Lg} {G : Nat → Prop} {w3 wr : World} (h : Play1 w LB WB x x2 G w3 wr) : Keep No w wr := by
  obtain ⟨S, T, h1, -⟩ := h
  exact h1
theorem Play1.big {w : World} {LB WB : Nat} {x x2 : Lg} {G : Nat → Prop} {w3 wr : World} (h : Play1 w LB WB x x2 G w3 wr) : w3.heap.size ≤ wr.heap.size := by
  obtain ⟨S, T, -, -, -, -, -, -, h⟩ := h
  exact h.size

/-- both logs, behind k acts -/
def BothK (w : World) (l : List Act') (lb : Bool) (LB WB k : Nat) (x : Lg) (wr : World) : Prop := x.Good ∧ x.l.length ≤ lensA (l.take k) ∧ (lb = true → k = 0) ∧ PlayG w LB WB x No wr
/-- both logs -/
def BothAt (w : World) (LB WB : Nat) (x : Lg) (wr : World) : Prop := x.Good ∧ x.l.length ≤ 600 ∧ PlayG w LB WB x No wr
theorem BothK.fin {w : World} {l : List Act'} {lb : Bool} {LB WB k : Nat} {x : Lg} {wr : World} (h : BothK w l lb LB WB k x wr) (hl : longB l = lb) : BothAt w LB WB x wr := by
  obtain ⟨h1, h2, h3, h4⟩ := h
  refine ⟨h1, ?_, h4⟩
  cases lb with
  | true =>
    obtain rfl := h3 rfl
    have h0 : lensA (l.take 0) = 0 := by simp [lensA]
    omega
  | false =>
    have := lensA_take l k
    simp [longB] at hl
    omega

set_option maxRecDepth 10000 in
set_option maxHeartbeats 4000000 in
theorem both_any (w : World) (a : Option Addr) (c : Nat) (l : List Act') (h : Rd (.slice actSh) w (Lt w.heap.size) [.slice a l.length c] l) (hb : (l.map actSh.bulk).sum ≤ 1048576) :
    Calls Tryz.prog 11 #[.slice a l.length c] w fun e w' => ∃ LB WB, e = .returned (.tuple #[.pointer (some ⟨LB, 0, none⟩), .pointer (some ⟨WB, 0, none⟩)]) ∧ ∃ x, RowKit.Hid (BothAt w LB WB x w') := by
  have hab := acts_bulk l
  obtain ⟨lb, hlb⟩ : ∃ lb, longB l = lb := ⟨_, rfl⟩
  have hlong : ∀ W, Keep No w W → Calls Tryz.prog 29 #[.slice a l.length c] W fun e w1 => e = .returned (.bool lb) ∧ RowKit.Hid (Keep No W w1) := fun W hk =>
    (long_any W _ a c l (h.agree _ hk.agreeNo) (by omega) (by omega)).mono (by rintro e w1 ⟨rfl, hk⟩; rw [hlb]; exact ⟨rfl, hk⟩)
  have HLG := Lib.hid hlong
  have HH := Lib.hid (And.intro h (And.intro hb (And.intro hab hlb)))
  clear h hb hab hlong hlb
  go_enter Tryz.func11, Tryz.ntmps11
  go_wp2_with fail
  refine (logNew_any w).mono ?_
  rintro e w2 ⟨rfl, hL2, hk2, hs2⟩
  have HP2 := Lib.hid (PlayG.begin (Keep.refl No w) hL2 hk2 hs2)
  obtain ⟨LB, hLB⟩ : ∃ LB, w.heap.size = LB := ⟨_, rfl⟩
  rw [hLB] at HP2 ⊢
  clear hL2 hk2 hs2 hLB
  go_wp2_with fail
  generalize w2.heap.size = WB at *
  generalize (w2.alloc (.cells #[.slice none 0 0, .int .i64 0] 43)) = w3 at *
  go_loopw [6] (fun i wr => ∃ (k : Nat) (x : Lg), i = .int .i64 k ∧ k ≤ l.length ∧ RowKit.Hid (BothK w l lb LB WB k x wr)) (fun i _ => l.length - (intOf i).toNat)
  case atStart => exact ⟨0, lg0, rfl, Nat.zero_le _, ⟨lg0_good, by simp [lg0], fun _ => rfl, HP2.out⟩⟩
  case round =>
    clear HP2
    obtain ⟨k, x, rfl, hk, HA⟩ := hrel
    rename World => wo
    have hl0 := HLG.out wo HA.out.2.2.2.keep
    have HK0 : RowKit.Hid (k ≤ l.length) := hk
    by_cases hlt : k < l.length
    · have j0 : (0 : Int) ≤ (k : Int) := by omega
      have j1 : (k : Int) < (l.length : Int) := by omega
      have j3 : (k : Int) ≤ 9223372036854775806 := by have := HH.out.2.1; have := HH.out.2.2.1; omega
      cases lb with
      | true =>
        clear hk hlt
        go_wp2_with (go_at_call 29; refine hl0.mono ?_; clear hl0; rintro e w4 ⟨rfl, H4⟩)
        refine bodyPost_ret (v := .tuple #[.pointer (some ⟨LB, 0, none⟩), .pointer (some ⟨WB, 0, none⟩)]) (by simp [results, Tryz.results11, go_sem]) rfl ?_
        obtain ⟨g1, g2, g3, g4⟩ := HA.out
        exact ⟨LB, WB, rfl, x, BothK.fin (k := k) ⟨g1, g2, g3, g4.more H4.out⟩ HH.out.2.2.2⟩
      | false =>
        obtain ⟨h, hb, hab, hlb⟩ := HH.out
        obtain ⟨b, off, a5, c5, rfl, -, hbw, r0w, r1w, hx, hwe⟩ := acts_get h k hlt
        have hbw : b < w.heap.size := hbw
        obtain ⟨hgood, hlen, -, hplay⟩ := HA.out
        have hkw := hplay.keep
        have hmem := List.getElem_mem hlt
        have hpa : partsL l[k].plans ≤ 1048575 := by have := partsA_mem hmem; omega
        have hpb : (l[k].plans.map planSh.bulk).sum ≤ 1048576 := by have := act_bulk l[k]; have := mem_bulk actSh hmem; omega
        have hplen : l[k].plans.length ≤ 1048576 := by have := partsL_len l[k].plans; omega
        have hok := plansOk_of hpb
        have hin := rd_plans_in hx
        obtain ⟨x2, hx2⟩ : ∃ x2, (x.append l[k].epoch l[k].plans).2 = x2 := ⟨_, rfl⟩
        have hgd : x2.Good := by
          rw [← hx2]
          exact append_good hgood (by have := hwe; simp [Lit.wf, IntKind.min, IntKind.max, IntKind.signed, IntKind.bits] at this; omega) hin
        have hl2 : x2.l.length ≤ lensA (l.take (k + 1)) := by
          have := app_len x l[k].epoch l[k].plans
          rw [hx2] at this
          rw [lensA_succ l k hlt]
          omega
        obtain ⟨rn, hrn⟩ : ∃ r, (x.append l[k].epoch l[k].plans).1.n = r := ⟨_, rfl⟩
        obtain ⟨re, hre⟩ : ∃ r, (x.append l[k].epoch l[k].plans).1.err = r := ⟨_, rfl⟩
        obtain ⟨ra, hra⟩ : ∃ r, (x.append l[k].epoch l[k].plans).1.at' = r := ⟨_, rfl⟩
        have hown : ∀ wp, Keep No wo wp → Calls Tryz.prog 31 #[.slice a5 l[k].plans.length c5] wp fun e w3 => ∃ a6 c6, e = .returned (.slice a6 l[k].plans.length c6) ∧ w3.cell? ⟨b, off + k * 2, none⟩ = some (.int .i64 l[k].epoch) ∧ RowKit.Hid (Keep No wp w3 ∧ Rd (.slice planSh) w3 (Fr wp.heap.size w3.heap.size) [.slice a6 l[k].plans.length c6] l[k].plans) := fun wp hp => (lown_any wp _ a5 c5 l[k].plans (hx.agree _ (hkw.trans hp).agreeNo) hpa).mono (by
          rintro e w3 ⟨a6, c6, rfl, ho⟩
          have h6 := ho.out.own.rd
          rw [List.take_length] at h6
          exact ⟨a6, c6, rfl, (((hkw.trans hp).trans ho.out.keep).cell hbw (fun x => x)).trans r0w, ho.out.keep, h6⟩)
        have ha1 : ∀ wp w3 a6 c6, Keep No wo wp → Keep No wp w3 → Rd (.slice planSh) w3 (Fr wp.heap.size w3.heap.size) [.slice a6 l[k].plans.length c6] l[k].plans → Calls Tryz.prog 14 #[.pointer (some ⟨LB, 0, none⟩), .int .i64 l[k].epoch, .slice a6 l[k].plans.length c6] w3 fun e w' => e = .returned (.tuple #[.int .i64 rn, .int .i64 re, .int .i64 ra]) ∧ RowKit.Hid (Play1 w LB WB x x2 (Fr wp.heap.size w3.heap.size) w3 w') := fun wp w3 a6 c6 hp hk3 hr3 => by
          have := play_append1 (hplay.more hp) hk3 hgood.len l[k].epoch hwe hr3 hok (by omega)
          rw [hrn, hre, hra, hx2] at this
          exact this
        have ha2 : ∀ w3 w4 G, Play1 w LB WB x x2 G w3 w4 → (∀ k, G k → k < w4.heap.size) → Calls Tryz.prog 32 #[.pointer (some ⟨WB, 0, none⟩), .int .i64 l[k].epoch, .slice a5 l[k].plans.length c5] w4 fun e w' => e = .returned (.tuple #[.int .i64 rn, .int .i64 re, .int .i64 ra]) ∧ RowKit.Hid (PlayG w LB WB x2 No w') := fun w3 w4 G hp hG => by
          have := play_append2 hp hG hgood.len l[k].epoch hwe hx hok (by omega) hx2
          rw [hrn, hre, hra] at this
          refine this.mono ?_
          rintro e w' ⟨rfl, h1⟩
          exact ⟨rfl, h1.out.1.noG⟩
        have HGD := Lib.hid (And.intro hlt (And.intro hgd hl2))
        have HOW := Lib.hid hown
        have HA1 := Lib.hid ha1
        have HA2 := Lib.hid ha2
        have HROW : RowKit.Hid (∀ W, Keep No w W → W.cell? ⟨b, off + k * 2, none⟩ = some (.int .i64 l[k].epoch) ∧ W.cell? ⟨b, off + k * 2 + 1, none⟩ = some (.slice a5 l[k].plans.length c5)) := fun W hW => ⟨(hW.cell hbw (fun x => x)).trans r0w, (hW.cell hbw (fun x => x)).trans r1w⟩
        generalize l[k].plans = ps at *
        generalize l[k].epoch = ep at *
        generalize ps.length = pm at *
        clear hmem hpa hpb hplen hok hin hgd ha1 ha2 hx hwe hlt h hb hab hlb hk r0w r1w hbw hkw hx2 hrn hre hra hl2 hown hgood hlen hplay
        go_upto_region 6 with (go_at_call 29; refine hl0.mono ?_; clear hl0; rintro e w4 ⟨rfl, H4⟩)
        have K4 : Keep No wo w4.drew := H4.out.drew
        have HK4 := Lib.hid K4
        obtain ⟨q0, q1⟩ := HROW.out _ (HA.out.2.2.2.keep.trans K4)
        have hown := HOW.out _ K4
        clear K4
        refine wp_region_canw [0, 1, 2, 3, 4, 5, 6, 7, 8, 9, 10, 11, 12] [11, 12] [(0, 11), (1, 11), (2, 11), (3, 11), (4, 11), (5, 11)] (by kernel_rfl) (by kernel_rfl) (by kernel_rfl) (by kernel_rfl) (by intro c a d v w h; cases d <;> exact h) ?_
        generalize w4.drew = w5 at *
        iterate 11 (refine canw_sil rfl rfl (fun K hK => ?_); go_simp; refine hK _ ?_; clear hK K)
        refine canw_loud [0, 1, 2, 3, 4, 5] rfl rfl rfl (fun K hK => ?_)
        go_wp2_with (go_at_call 31; refine hown.mono ?_; clear hown; rintro e w6 ⟨a6, c6, rfl, q6, H6⟩)
        refine Mid.normal (hK _ _ ?_ ?_)
        · simp only [List.forall_mem_cons]
          refine ⟨?_, ?_, ?_, ?_, ?_, ?_, stabs_nil⟩ <;> exact stab_of rfl (fun K hK => by go_simp; exact hK)
        clear hK K q0 q1 q6
        have hap := HA1.out w5 w6 a6 c6 HK4.out H6.out.1 H6.out.2
        refine canw_loud [] rfl rfl rfl (fun K hK => ?_)
        go_wp2_with (go_at_call 14; refine hap.mono ?_; clear hap; rintro e w7 ⟨rfl, H7⟩)
        refine Mid.normal (hK _ _ stabs_nil ?_)
        clear hK K
        refine canw_nil ?_
        have H8 := Lib.hid (Play1.next H7.out (Keep.refl No w7).drew)
        have hap2 := HA2.out w6 w7.drew _ H8.out (fun k hk => Nat.lt_of_lt_of_le hk.2 (Play1.big H8.out))
        obtain ⟨q0, q1⟩ := HROW.out _ (Play1.kept H8.out)
        go_upto_region 7 with fail
        refine wp_region_canw [0, 1, 2, 3, 4, 5, 6, 7, 8, 9, 10, 11] [11] [] (by kernel_rfl) (by kernel_rfl) (by kernel_rfl) (by kernel_rfl) (by intro c a d v w h; cases d <;> exact h) ?_
        generalize w7.drew = w8 at *
        iterate 11 (refine canw_sil rfl rfl (fun K hK => ?_); go_simp; refine hK _ ?_; clear hK K)
        refine canw_loud [] rfl rfl rfl (fun K hK => ?_)
        go_wp2_with (go_at_call 32; refine hap2.mono ?_; clear hap2; rintro e w9 ⟨rfl, H9⟩)
        refine Mid.normal (hK _ _ stabs_nil ?_)
        clear hK K q0 q1
        refine canw_nil ?_
        go_wp2_with fail
        go_roundw
        case rel => exact ⟨k + 1, x2, by simp, HGD.out.1, ⟨HGD.out.2.1, HGD.out.2.2, fun h => (by cases h), H9.out⟩⟩
        case measure => simp [intOf]; have := HGD.out.1; omega
    · have j1 : ¬ (k : Int) < (l.length : Int) := by omega
      clear hk hl0 hlt
      go_wp2_with fail
      refine bodyPost_ret (v := .tuple #[.pointer (some ⟨LB, 0, none⟩), .pointer (some ⟨WB, 0, none⟩)]) (by simp [results, Tryz.results11, go_sem]) rfl ?_
      exact ⟨LB, WB, rfl, x, HA.out.fin HH.out.2.2.2⟩
end Go.Proofs.YtnknihmchmmenaaGreat
