/-
  LogIndexed: the walk.
-/
import Derived.Test.YtnknihmchmmenaaGreatIxI
namespace Go.Proofs.YtnknihmchmmenaaGreat
open Go Go.RowKit Go.Deep
set_option linter.unusedVariables false
set_option linter.unusedSimpArgs false

/-- a log and an index beside one another -/
def LxAt (w : World) (LB B : Nat) (x : Lg) (li : List Ent) (wr : World) : Prop :=
  ∃ S T : Nat → Prop, Keep No w wr ∧ LogAt 117 wr LB S x ∧ IxAt wr B T li ∧ (∀ k, S k → ¬ T k) ∧ (∀ k, S k → w.heap.size ≤ k) ∧ (∀ k, T k → w.heap.size ≤ k ∧ k < wr.heap.size)
theorem LxAt.keep {w : World} {LB B : Nat} {x : Lg} {li : List Ent} {wr : World} (h : LxAt w LB B x li wr) : Keep No w wr := by
  obtain ⟨S, T, h1, -⟩ := h
  exact h1
theorem LxAt.more {w : World} {LB B : Nat} {x : Lg} {li : List Ent} {wr w' : World} (h : LxAt w LB B x li wr) (hk : Keep No wr w') : LxAt w LB B x li w' := by
  obtain ⟨S, T, h1, h2, h3, h4, h5, h6⟩ := h
  exact ⟨S, T, h1.trans hk, h2.agree hk.agreeNo hk.size, h3.keep hk fun _ _ x => x, h4, h5, fun k hk' => ⟨(h6 k hk').1, Nat.lt_of_lt_of_le (h6 k hk').2 hk.size⟩⟩
theorem LxAt.app {w : World} {LB B : Nat} {x : Lg} {li : List Ent} {wr w3 : World} (h : LxAt w LB B x li wr) (hk : Keep No wr w3) (hx : x.l.length ≤ 65536) (ep : Int) (hwe : (Lit.int .i64 ep).wf = true) {u : Value} {ps : List Plan} (hu : Rd (.slice planSh) w3 (Fr wr.heap.size w3.heap.size) [u] ps) (hok : PlansOk ps) (hm : ps.length ≤ 4611686018427387904) :
    Calls Tryz.prog 14 #[.pointer (some ⟨LB, 0, none⟩), .int .i64 ep, u] w3 fun e w' => e = .returned (.tuple #[.int .i64 (x.append ep ps).1.n, .int .i64 (x.append ep ps).1.err, .int .i64 (x.append ep ps).1.at']) ∧ RowKit.Hid (LxAt w LB B (x.append ep ps).2 li w') := by
  obtain ⟨S, T, h1, h2, h3, h4, h5, h6⟩ := h
  have hS : ∀ k, S k → k < wr.heap.size := by obtain ⟨ov, SO, -, -, -, -, -, h⟩ := h2; exact h
  have hsz := hk.size
  have hs0 := h1.size
  refine (logAppend_any w3 LB S _ x (h2.agree hk.agreeNo hk.size) hx ep hwe u ps hu (fun k hk hs => by have := hS k hs; have := hk.1; omega) hok hm).mono ?_
  rintro e w' ⟨rfl, S', g1, g2, g3⟩
  have hg := g3.size
  refine ⟨rfl, S', T, (h1.trans hk).then g3 fun i hi hs => by have := h5 i hs; omega, g1, (h3.keep hk fun _ _ x => x).keep g3 fun i hi hs => h4 i hs hi, fun k hs ht => ?_, fun k hs => ?_, fun k ht => ⟨(h6 k ht).1, by have := (h6 k ht).2; omega⟩⟩
  · rcases g2 k hs with hs | hs
    · exact h4 k hs ht
    · have := (h6 k ht).2; omega
  · rcases g2 k hs with hs | hs
    · exact h5 k hs
    · omega

/-- the index, and the list of entries that was told -/
def Lx2 (w : World) (B : Nat) (l li : List Ent) (m1 m2 : Nat) (a : Option Addr) (c : Nat) (wr : World) : Prop :=
  Keep No w wr ∧ Rd (.slice entrySh) wr (Fr m1 m2) [.slice a l.length c] l ∧ (∃ T : Nat → Prop, IxAt wr B T li ∧ ∀ k, T k → w.heap.size ≤ k ∧ ¬ Fr m1 m2 k) ∧ m2 ≤ wr.heap.size
theorem Lx2.more {w : World} {B : Nat} {l li : List Ent} {m1 m2 : Nat} {a : Option Addr} {c : Nat} {wr w' : World} (h : Lx2 w B l li m1 m2 a c wr) (hk : Keep No wr w') : Lx2 w B l li m1 m2 a c w' := by
  obtain ⟨h1, h2, ⟨T, h3, h4⟩, h5⟩ := h
  exact ⟨h1.trans hk, h2.agree _ hk.agreeNo, ⟨T, h3.keep hk fun _ _ x => x, h4⟩, Nat.le_trans h5 hk.size⟩
theorem Lx2.add {w : World} {B : Nat} {x : Lg} {k m1 m2 : Nat} {a : Option Addr} {c : Nat} {wr : World} (h : Lx2 w B x.l (x.l.take k) m1 m2 a c wr) (hg : x.Good) (hc : cntI x.l ≤ 1048576) (hk : k < x.l.length) {a1 a2 a3 : Option Addr} {c1 c2 c3 : Nat}
    (he : Rd entrySh wr (Fr m1 m2) [.int .i64 x.l[k].seq, .int .i64 x.l[k].epoch, .int .i64 x.l[k].plan.client, .int .u64 x.l[k].plan.token, .string x.l[k].plan.name, .slice a1 x.l[k].plan.args.length c1, .int .i64 x.l[k].plan.how, .slice a2 x.l[k].plan.reads.length c2, .slice a3 x.l[k].plan.writes.length c3] x.l[k]) :
    Calls Tryz.prog 45 #[.pointer (some ⟨B, 0, none⟩), .agg #[.int .i64 x.l[k].seq, .int .i64 x.l[k].epoch, .int .i64 x.l[k].plan.client, .int .u64 x.l[k].plan.token, .string x.l[k].plan.name, .slice a1 x.l[k].plan.args.length c1, .int .i64 x.l[k].plan.how, .slice a2 x.l[k].plan.reads.length c2, .slice a3 x.l[k].plan.writes.length c3]] wr fun e w' => e = .returned (.int .i64 0) ∧ RowKit.Hid (Lx2 w B x.l (x.l.take (k + 1)) m1 m2 a c w') := by
  obtain ⟨h1, h2, ⟨T, h3, h4⟩, h5⟩ := h
  have hmem := List.getElem_mem hk
  have hfit := (hg.fit _ hmem).1
  have hsp : x.l = x.l.take k ++ x.l.drop k := (List.take_append_drop k x.l).symm
  have hct : cntI (x.l.take k) ≤ cntI x.l := by
    conv => rhs; rw [hsp, cntI_append]
    omega
  have hce : 1 + x.l[k].plan.reads.length + x.l[k].plan.writes.length ≤ cntI x.l := by
    have : cntI (x.l.take (k + 1)) ≤ cntI x.l := by
      conv => rhs; rw [(List.take_append_drop (k + 1) x.l).symm, cntI_append]
      omega
    rw [List.take_succ_eq_append_getElem hk, cntI_append] at this
    have h9 : cntI [x.l[k]] = 1 + x.l[k].plan.reads.length + x.l[k].plan.writes.length := by simp [cntI]
    omega
  have hadd := ixAdd_any wr B T (Fr m1 m2) (x.l.take k) h3 (by rw [List.length_take]; have := hg.len; omega) (by omega) x.l[k] a1 a2 a3 c1 c2 c3 he (fun i hi hT => (h4 i hT).2 hi) hfit (by omega)
  rw [addI_good hg hk] at hadd
  refine hadd.mono ?_
  rintro e w' ⟨rfl, T', g1, g2, g3⟩
  have hs := h1.size
  refine ⟨rfl, h1.then g3 fun i hi hT => by have := (h4 i hT).1; omega, h2.agree _ (g3.agree fun i _ hi hT => (h4 i hT).2 hi), ⟨T', g1, fun i hi => ?_⟩, Nat.le_trans h5 g3.size⟩
  rcases g2 i hi with hh | hh
  · exact h4 i hh
  · exact ⟨by omega, fun hf => by have := hf.2; omega⟩

/-- .. and the numbers of those that read and that write a key -/
def Lx3 (w : World) (B : Nat) (l : List Ent) (m1 m2 : Nat) (a : Option Addr) (c : Nat) (rv wv : Value) (key : ByteArray) (wr : World) : Prop :=
  Lx2 w B l l m1 m2 a c wr ∧ Rd (.slice (.int .i64)) wr (fun _ => True) [rv] (idxs (fun e => hasT e.plan.reads key) 0 l) ∧ Rd (.slice (.int .i64)) wr (fun _ => True) [wv] (idxs (fun e => hasT e.plan.writes key) 0 l)
theorem Lx3.more {w : World} {B : Nat} {l : List Ent} {m1 m2 : Nat} {a : Option Addr} {c : Nat} {rv wv : Value} {key : ByteArray} {wr w' : World} (h : Lx3 w B l m1 m2 a c rv wv key wr) (hk : Keep No wr w') : Lx3 w B l m1 m2 a c rv wv key w' :=
  ⟨h.1.more hk, h.2.1.agree _ hk.agreeNo, h.2.2.agree _ hk.agreeNo⟩
theorem idxs_at {p : Ent → Bool} {l : List Ent} {k : Nat} (hk : k < l.length) : (k : Int) ∈ idxs p 0 l ↔ p l[k] = true := by
  rw [idxs_mem]
  constructor
  · rintro ⟨i, hi, he, hp⟩
    obtain rfl : i = k := by omega
    exact hp
  · intro hp
    exact ⟨k, hk, by simp, hp⟩
theorem last_ge {l : List Int} (h : l.Pairwise (· < ·)) {k : Int} (hk : k ∈ l) : l ≠ [] ∧ k ≤ l.getLast?.getD 0 := by
  have hne : l ≠ [] := fun h => by rw [h] at hk; cases hk
  refine ⟨hne, ?_⟩
  rw [List.getLast?_eq_some_getLast hne, Option.getD_some, List.getLast_eq_getElem]
  obtain ⟨i, hi, rfl⟩ := List.getElem_of_mem hk
  rcases Nat.lt_or_ge i (l.length - 1) with h1 | h1
  · have := (List.pairwise_iff_getElem.1 h) i (l.length - 1) hi (by omega) h1
    omega
  · have : i = l.length - 1 := by omega
    subst this
    exact Int.le_refl _

set_option maxRecDepth 10000 in
set_option maxHeartbeats 8000000 in
theorem LogIndexed_main (w : World) (a : Option Addr) (c : Nat) (l : List Act') (h : Rd (.slice actSh) w (Lt w.heap.size) [.slice a l.length c] l) (hb : (l.map actSh.bulk).sum ≤ 1048576) (key : ByteArray) (wkey : key.size ≤ 9223372036854775807) (hlong : longB l = false) :
    Calls Tryz.prog 8 #[.slice a l.length c, .string key] w fun e w' => e = .returned (.bool true) ∧ Keep No w w' := by
  have hab := acts_bulk l
  have hl := (long_any w _ a c l h (by omega) (by omega)).mono (R' := fun e w1 => e = .returned (.bool false) ∧ RowKit.Hid (Keep No w w1)) (by rintro e w1 ⟨rfl, hk⟩; rw [hlong]; exact ⟨rfl, hk⟩)
  have HH := Lib.hid (And.intro h (And.intro hb (And.intro hab (And.intro hlong wkey))))
  clear h hb hab hlong wkey
  go_enter Tryz.func8, Tryz.ntmps8
  go_wp2_with (go_at_call 29; refine hl.mono ?_; clear hl; rintro e w1 ⟨rfl, HK1⟩)
  refine (logNew_any w1).mono ?_
  rintro e w2 ⟨rfl, hL2, hk2, hs2⟩
  have HL2 := Lib.hid (And.intro hL2 (And.intro hk2 hs2))
  clear hL2 hk2 hs2
  obtain ⟨LB, hLB⟩ : ∃ LB, w1.heap.size = LB := ⟨_, rfl⟩
  rw [hLB] at HL2 ⊢
  go_wp2_with fail
  refine (ixNew_any w2).mono ?_
  rintro e w3 ⟨B, rfl, lab, ve, m, H3⟩
  have HP3 : RowKit.Hid (LxAt w LB B lg0 [] w3) := by
    obtain ⟨g1, g2, g3⟩ := HL2.out
    obtain ⟨q1, q2, q3⟩ := H3.out
    have h1 := HK1.out.size
    exact ⟨One LB, fun i => lab i < 7, (HK1.out.trans g2).trans q2, g1.agree q2.agreeNo q2.size, IxAt.new q1, fun k hk hh => by have : k = LB := hk; have := q3 k hh; omega, fun k hk => by have : k = LB := hk; omega, fun k hk => ⟨by have := q3 k hk; have := g2.size; omega, q1.lt k hk⟩⟩
  clear HL2 H3 HK1 hLB
  go_wp2_with fail
  go_loopw [7] (fun i wr => ∃ (k : Nat) (x : Lg), i = .int .i64 k ∧ k ≤ l.length ∧ RowKit.Hid (x.Good ∧ x.l.length ≤ lensA (l.take k) ∧ cntI x.l ≤ partsA (l.take k) ∧ LxAt w LB B x [] wr)) (fun i _ => l.length - (intOf i).toNat)
  case atStart => exact ⟨0, lg0, rfl, Nat.zero_le _, ⟨lg0_good, by simp [lg0], by simp [lg0, cntI], HP3.out⟩⟩
  case round =>
    clear HP3
    obtain ⟨k, x, rfl, hk, HA⟩ := hrel
    rename World => wo
    by_cases hlt : k < l.length
    · obtain ⟨h, hb, hab, hlb, wkey⟩ := HH.out
      obtain ⟨b, off, a5, c5, rfl, -, hbw, r0w, r1w, hx, hwe⟩ := acts_get h k hlt
      have hbw : b < w.heap.size := hbw
      obtain ⟨hgood, hlen, hcnt, hplay⟩ := HA.out
      have hkw := hplay.keep
      have j0 : (0 : Int) ≤ (k : Int) := by omega
      have j1 : (k : Int) < (l.length : Int) := by omega
      have j3 : (k : Int) ≤ 9223372036854775806 := by omega
      have hmem := List.getElem_mem hlt
      have hpa : partsL l[k].plans ≤ 1048575 := by have := partsA_mem hmem; omega
      have hpb : (l[k].plans.map planSh.bulk).sum ≤ 1048576 := by have := act_bulk l[k]; have := mem_bulk actSh hmem; omega
      have hplen : l[k].plans.length ≤ 1048576 := by have := partsL_len l[k].plans; omega
      have hok := plansOk_of hpb
      have hin := rd_plans_in hx
      obtain ⟨x2, hx2⟩ : ∃ x2, (x.append l[k].epoch l[k].plans).2 = x2 := ⟨_, rfl⟩
      have hgd : x2.Good := by
        rw [← hx2]
        exact append_good hgood (by have := hwe; simp [Lit.wf, IntKind.min, IntKind.max, IntKind.signed, IntKind.bits] at this; omega) hin
      have hcn := app_cnt x l[k].epoch l[k].plans
      rw [hx2] at hcn
      have hl2 : x2.l.length ≤ lensA (l.take (k + 1)) := by rw [lensX_succ l k hlt]; omega
      have hc2 : cntI x2.l ≤ partsA (l.take (k + 1)) := by rw [partsA_succ l k hlt]; omega
      obtain ⟨rn, hrn⟩ : ∃ r, (x.append l[k].epoch l[k].plans).1.n = r := ⟨_, rfl⟩
      obtain ⟨re, hre⟩ : ∃ r, (x.append l[k].epoch l[k].plans).1.err = r := ⟨_, rfl⟩
      obtain ⟨ra, hra⟩ : ∃ r, (x.append l[k].epoch l[k].plans).1.at' = r := ⟨_, rfl⟩
      have kd : Keep No wo wo.drew := (Keep.refl No wo).drew
      have hown := (lown_any wo.drew _ a5 c5 l[k].plans (hx.agree _ (hkw.trans kd).agreeNo) hpa).mono (R' := fun e w3 => ∃ a6 c6, e = .returned (.slice a6 l[k].plans.length c6) ∧ w3.cell? ⟨b, off + k * 2, none⟩ = some (.int .i64 l[k].epoch) ∧ RowKit.Hid (Keep No wo.drew w3 ∧ Rd (.slice planSh) w3 (Fr wo.drew.heap.size w3.heap.size) [.slice a6 l[k].plans.length c6] l[k].plans)) (by
        rintro e w3 ⟨a6, c6, rfl, ho⟩
        have h6 := ho.out.own.rd
        rw [List.take_length] at h6
        exact ⟨a6, c6, rfl, (((hkw.trans kd).trans ho.out.keep).cell hbw (fun x => x)).trans r0w, ho.out.keep, h6⟩)
      have ha1 : ∀ w3 a6 c6, Keep No wo.drew w3 → Rd (.slice planSh) w3 (Fr wo.drew.heap.size w3.heap.size) [.slice a6 l[k].plans.length c6] l[k].plans → Calls Tryz.prog 14 #[.pointer (some ⟨LB, 0, none⟩), .int .i64 l[k].epoch, .slice a6 l[k].plans.length c6] w3 fun e w' => e = .returned (.tuple #[.int .i64 rn, .int .i64 re, .int .i64 ra]) ∧ RowKit.Hid (LxAt w LB B x2 [] w') := fun w3 a6 c6 hk3 hr3 => by
        have := (hplay.more kd).app hk3 hgood.len l[k].epoch hwe hr3 hok (by omega)
        rw [hrn, hre, hra, hx2] at this
        exact this
      have HGD := Lib.hid (And.intro hlt (And.intro hgd (And.intro hl2 hc2)))
      have HA1 := Lib.hid ha1
      have q0 : wo.drew.cell? ⟨b, off + k * 2, none⟩ = some (.int .i64 l[k].epoch) := ((hkw.trans kd).cell hbw (fun x => x)).trans r0w
      have q1 : wo.drew.cell? ⟨b, off + k * 2 + 1, none⟩ = some (.slice a5 l[k].plans.length c5) := ((hkw.trans kd).cell hbw (fun x => x)).trans r1w
      generalize l[k].plans = ps at *
      generalize l[k].epoch = ep at *
      generalize ps.length = pm at *
      clear hmem hpa hpb hplen hok hin hgd ha1 hx hwe hlt h hb hab hlb hk r0w r1w hbw hkw hx2 hrn hre hra hl2 hc2 hcn hgood hlen hcnt hplay kd
      go_upto_region 10 with fail
      refine wp_region_canw [0, 1, 2, 3, 4, 5, 6, 7, 8, 9, 10, 11, 12] [11, 12] [(0, 11), (1, 11), (2, 11), (3, 11), (4, 11), (5, 11)] (by kernel_rfl) (by kernel_rfl) (by kernel_rfl) (by kernel_rfl) (by intro c a d v w h; cases d <;> exact h) ?_
      generalize wo.drew = w5 at *
      iterate 11 (refine canw_sil rfl rfl (fun K hK => ?_); go_simp; refine hK _ ?_; clear hK K)
      refine canw_loud [0, 1, 2, 3, 4, 5] rfl rfl rfl (fun K hK => ?_)
      go_wp2_with (go_at_call 31; refine hown.mono ?_; clear hown; rintro e w6 ⟨a6, c6, rfl, q6, H6⟩)
      refine Mid.normal (hK _ _ ?_ ?_)
      · simp only [List.forall_mem_cons]
        refine ⟨?_, ?_, ?_, ?_, ?_, ?_, stabs_nil⟩ <;> exact stab_of rfl (fun K hK => by go_simp; exact hK)
      clear hK K q0 q1 q6
      have hap := HA1.out w6 a6 c6 H6.out.1 H6.out.2
      refine canw_loud [] rfl rfl rfl (fun K hK => ?_)
      go_wp2_with (go_at_call 14; refine hap.mono ?_; clear hap; rintro e w7 ⟨rfl, H7⟩)
      refine Mid.normal (hK _ _ stabs_nil ?_)
      clear hK K
      refine canw_nil ?_
      go_wp2_with fail
      go_roundw
      case rel => exact ⟨k + 1, x2, by simp, HGD.out.1, ⟨HGD.out.2.1, HGD.out.2.2.1, HGD.out.2.2.2, H7.out⟩⟩
      case measure => simp [intOf]; have := HGD.out.1; omega
    · have hke : k = l.length := by omega
      subst hke
      have j1 : ¬ (l.length : Int) < (l.length : Int) := by omega
      have HX : RowKit.Hid (x.Good ∧ x.l.length ≤ 600 ∧ cntI x.l ≤ 40000) := by
        have h1 := lensX_take l l.length
        have h2 := partsA_take l l.length
        have h3 := HH.out.2.2.2.1
        simp [longB] at h3
        exact ⟨HA.out.1, by have := HA.out.2.1; omega, by have := HA.out.2.2.1; omega⟩
      have hfr : Calls Tryz.prog 36 #[.pointer (some ⟨LB, 0, none⟩), .int .i64 0, .int .i64 600] wo fun e w' => ∃ a7 c7, e = .returned (.slice a7 x.l.length c7) ∧ RowKit.Hid (Lx2 w B x.l [] wo.heap.size w'.heap.size a7 c7 w') := by
        obtain ⟨S, T, g1, g2, g3, g4, g5, g6⟩ := HA.out.2.2.2
        refine (logFrom_any wo LB S x g2 HX.out.1.few 0 600 (by omega)).mono ?_
        rintro e w' ⟨v, rfl, ho, hk⟩
        have hfl : x.from' 0 600 = x.l := by
          unfold Lg.from'
          rw [show (0 : Int).toNat = 0 from rfl, List.drop_zero, List.take_of_length_le (by have := HX.out.2.1; show _ ≤ 600; omega)]
        rw [hfl] at ho
        obtain ⟨a7, c7, hv, -⟩ := Own.form ho
        subst hv
        exact ⟨a7, c7, rfl, g1.trans hk, Own.rd ho, ⟨T, g3.keep hk fun _ _ x => x, fun k hk => ⟨(g6 k hk).1, fun hf => by have := (g6 k hk).2; have := hf.1; omega⟩⟩, Nat.le_refl _⟩
      clear hlt hk HA
      go_wp2_with (go_at_call 36; refine hfr.mono ?_; clear hfr; rintro e w8 ⟨a7, c7, rfl, H8⟩)
      clear j1
      generalize wo.heap.size = m1 at *
      generalize hm2 : w8.heap.size = m2 at *
      clear hm2
      go_loopw [9] (fun i wr => ∃ k : Nat, i = .int .i64 k ∧ k ≤ x.l.length ∧ RowKit.Hid (Lx2 w B x.l (x.l.take k) m1 m2 a7 c7 wr)) (fun i _ => x.l.length - (intOf i).toNat)
      case atStart => exact ⟨0, rfl, Nat.zero_le _, H8.out⟩
      case round =>
        clear H8
        obtain ⟨k, rfl, hk, HA⟩ := hrel
        rename World => wi
        by_cases hlt : k < x.l.length
        · obtain ⟨b, off, y1, z1, y2, z2, y3, z3, rfl, hbi, -, hrow, hxe⟩ := ents_get HA.out.2.1 k hlt
          obtain ⟨r0, r1, r2, r3, r4, r5, r6, r7, r8⟩ := row_nine hrow
          have hadd := HA.out.add HX.out.1 (by have := HX.out.2.2; omega) hlt hxe
          have j0 : (0 : Int) ≤ (k : Int) := by omega
          have j1 : (k : Int) < (x.l.length : Int) := by omega
          have j3 : (k : Int) ≤ 9223372036854775806 := by have := HX.out.2.1; omega
          have HLT : RowKit.Hid (k < x.l.length) := hlt
          clear hrow hxe hk HA
          generalize x.l[k] = xk at *
          clear hlt
          generalize xk.seq = v0 at *
          generalize xk.epoch = v1 at *
          generalize xk.plan.client = v2 at *
          generalize xk.plan.token = v3 at *
          generalize xk.plan.name = v4 at *
          generalize xk.plan.how = v5 at *
          generalize xk.plan.args.length = n1 at *
          generalize xk.plan.reads.length = n2 at *
          generalize xk.plan.writes.length = n3 at *
          go_wp2_with (first
            | (go_at_call 45; refine hadd.mono ?_; clear hadd; rintro e w9 ⟨rfl, H9⟩)
            | (go_at_call 25; refine (hNum _ _).mono ?_; rintro e w20 ⟨rfl, rfl⟩))
          go_roundw
          case rel => exact ⟨k + 1, by simp, HLT.out, H9.out⟩
          case measure => simp [intOf]; have := HLT.out; omega
        · have hke : k = x.l.length := by omega
          subst hke
          have HA2 : RowKit.Hid (Lx2 w B x.l x.l m1 m2 a7 c7 wi) := by have := HA.out; rw [List.take_length] at this; exact this
          have j1 : ¬ (x.l.length : Int) < (x.l.length : Int) := by omega
          clear hlt hk HA
          go_wp2_with fail
          have hlen : x.l.length ≤ 65536 := by have := HX.out.2.1; omega
          have hrd : Calls Tryz.prog 46 #[.pointer (some ⟨B, 0, none⟩), .string key] wi fun e w' => ∃ ar nr cr, e = .returned (.slice ar nr cr) ∧ RowKit.Hid (Lx2 w B x.l x.l m1 m2 a7 c7 w' ∧ Rd (.slice (.int .i64)) w' (fun _ => True) [.slice ar nr cr] (idxs (fun e => hasT e.plan.reads key) 0 x.l)) := by
            obtain ⟨h1, h2, ⟨T, h3, h4⟩, h5⟩ := HA2.out
            refine (h3.readers hlen key HH.out.2.2.2.2).mono ?_
            rintro e w' ⟨ar, cr, rfl, ho, hk⟩
            exact ⟨ar, _, cr, rfl, HA2.out.more hk, ho.rd.mono _ fun _ _ _ => trivial⟩
          refine hrd.mono ?_
          clear hrd
          rintro e w10 ⟨ar, nr, cr, rfl, H10⟩
          go_wp2_with fail
          have hwr : Calls Tryz.prog 47 #[.pointer (some ⟨B, 0, none⟩), .string key] w10 fun e w' => ∃ aw nw cw, e = .returned (.slice aw nw cw) ∧ RowKit.Hid (Lx3 w B x.l m1 m2 a7 c7 (.slice ar nr cr) (.slice aw nw cw) key w') := by
            obtain ⟨h1, h2, ⟨T, h3, h4⟩, h5⟩ := H10.out.1
            refine (h3.writers hlen key HH.out.2.2.2.2).mono ?_
            rintro e w' ⟨aw, cw, rfl, ho, hk⟩
            exact ⟨aw, _, cw, rfl, H10.out.1.more hk, H10.out.2.agree _ hk.agreeNo, ho.rd.mono _ fun _ _ _ => trivial⟩
          refine hwr.mono ?_
          clear hwr
          rintro e w11 ⟨aw, nw, cw, rfl, H11⟩
          have hrise : (x.l.map (fun e => e.epoch)).Pairwise (· ≤ ·) := List.pairwise_map.2 HX.out.1.rise
          have HEP : RowKit.Hid (∀ W t, Keep No w11 W → Calls Tryz.prog 52 #[.pointer (some ⟨B, 0, none⟩), .int .i64 t] W (GivesEp W (x.l.map (fun e => e.epoch)) t)) := fun W t hk => by
            obtain ⟨h1, h2, ⟨T, h3, h4⟩, h5⟩ := (H11.out.more hk).1
            exact h3.epochs hlen hrise t
          have HLE := Lib.hid hlen
          clear HA2 H10 j1 hrise hlen
          go_wp2_with fail
          go_loopw [12] (fun i wr => ∃ k : Nat, i = .int .i64 k ∧ k ≤ x.l.length ∧ RowKit.Hid (Keep No w11 wr)) (fun i _ => x.l.length - (intOf i).toNat)
          case atStart => exact ⟨0, rfl, Nat.zero_le _, Keep.refl _ _⟩
          case round =>
            obtain ⟨k, rfl, hk, HK⟩ := hrel
            rename World => wk
            by_cases hlt : k < x.l.length
            · have hH := H11.out.more HK.out
              obtain ⟨b, off, y1, z1, y2, z2, y3, z3, rfl, hbi, -, hrow, hxe⟩ := ents_get hH.1.2.1 k hlt
              obtain ⟨r0, r1, r2, r3, r4, r5, r6, r7, r8⟩ := row_nine hrow
              have j0 : (0 : Int) ≤ (k : Int) := by omega
              have j1 : (k : Int) < (x.l.length : Int) := by omega
              have j3 : (k : Int) ≤ 9223372036854775806 := by have := HX.out.2.1; omega
              obtain ⟨ps, eps, hpl, -⟩ := ent_cells hxe
              simp only [List.cons.injEq, true_and] at eps
              subst eps
              obtain ⟨_, _, _, _, _, _, eq, -, g2, g3, wfc, wft, wfn, -⟩ := plan_cells hpl
              simp only [List.cons.injEq, Value.slice.injEq, true_and, and_true] at eq
              obtain ⟨⟨rfl, rfl⟩, ⟨rfl, rfl⟩, rfl, rfl⟩ := eq
              rw [maxLen_is] at wfn
              obtain ⟨br, hbr⟩ : ∃ br, hasT x.l[k].plan.reads key = br := ⟨_, rfl⟩
              obtain ⟨bw, hbw⟩ : ∃ bw, hasT x.l[k].plan.writes key = bw := ⟨_, rfl⟩
              have HC : RowKit.Hid (∀ W, Keep No wk W → Calls Tryz.prog 49 #[.pointer (some ⟨B, 0, none⟩), .int .i64 x.l[k].plan.client] W fun e w' => ∃ a n c, e = .returned (.slice a n c) ∧ RowKit.Hid (Keep No W w' ∧ Calls Tryz.prog 48 #[.slice a n c, .int .i64 k] w' fun e w2 => e = .returned (.bool true) ∧ w' = w2)) := fun W hk => by
                obtain ⟨h1, h2, ⟨T, h3, h4⟩, h5⟩ := (hH.more hk).1
                refine (h3.client HLE.out _ wfc).mono ?_
                rintro e w' ⟨a, c, rfl, ho, hk'⟩
                exact ⟨a, _, c, rfl, hk', in_any w' _ _ _ ho.rd (Nat.le_trans (idxs_len _ _ _) (by have := HLE.out; omega)) _ true (by rw [idxs_at hlt]; simp)⟩
              have HN : RowKit.Hid (∀ W, Keep No wk W → Calls Tryz.prog 50 #[.pointer (some ⟨B, 0, none⟩), .string x.l[k].plan.name] W fun e w' => ∃ a n c, e = .returned (.slice a n c) ∧ RowKit.Hid (Keep No W w' ∧ Calls Tryz.prog 48 #[.slice a n c, .int .i64 k] w' fun e w2 => e = .returned (.bool true) ∧ w' = w2)) := fun W hk => by
                obtain ⟨h1, h2, ⟨T, h3, h4⟩, h5⟩ := (hH.more hk).1
                refine (h3.name HLE.out _ wfn).mono ?_
                rintro e w' ⟨a, c, rfl, ho, hk'⟩
                exact ⟨a, _, c, rfl, hk', in_any w' _ _ _ ho.rd (Nat.le_trans (idxs_len _ _ _) (by have := HLE.out; omega)) _ true (by rw [idxs_at hlt]; simp)⟩
              have HIR : RowKit.Hid (∀ W, Keep No wk W → Calls Tryz.prog 48 #[.slice ar nr cr, .int .i64 k] W fun e w2 => e = .returned (.bool br) ∧ W = w2) := fun W hk =>
                in_any W _ _ _ (hH.more hk).2.1 (Nat.le_trans (idxs_len _ _ _) (by have := HLE.out; omega)) _ br (by rw [idxs_at hlt, ← hbr])
              have HIW : RowKit.Hid (∀ W, Keep No wk W → Calls Tryz.prog 48 #[.slice aw nw cw, .int .i64 k] W fun e w2 => e = .returned (.bool bw) ∧ W = w2) := fun W hk =>
                in_any W _ _ _ (hH.more hk).2.2 (Nat.le_trans (idxs_len _ _ _) (by have := HLE.out; omega)) _ bw (by rw [idxs_at hlt, ← hbw])
              have HSR : RowKit.Hid (∀ W, Keep No wk W → Calls Tryz.prog 51 #[.slice y2 x.l[k].plan.reads.length z2, .string key] W fun e w2 => e = .returned (.bool br) ∧ W = w2) := fun W hk =>
                (rHas_any W _ _ _ (g2.agree _ hk.agreeNo) key).mono (by rintro e w2 ⟨rfl, rfl⟩; rw [hbr]; exact ⟨rfl, rfl⟩)
              have HSW : RowKit.Hid (∀ W, Keep No wk W → Calls Tryz.prog 51 #[.slice y3 x.l[k].plan.writes.length z3, .string key] W fun e w2 => e = .returned (.bool bw) ∧ W = w2) := fun W hk =>
                (rHas_any W _ _ _ (g3.agree _ hk.agreeNo) key).mono (by rintro e w2 ⟨rfl, rfl⟩; rw [hbw]; exact ⟨rfl, rfl⟩)
              obtain ⟨lst, hlst⟩ : ∃ q, (askI x.l x.l[k].plan.client x.l[k].plan.token).getLast?.getD 0 = q := ⟨_, rfl⟩
              have hlast := last_ge (idxs_sorted _ _ _) (show (k : Int) ∈ askI x.l x.l[k].plan.client x.l[k].plan.token from (idxs_at hlt).2 (by simp))
              have HFD : RowKit.Hid (∀ W, Keep No wk W → Calls Tryz.prog 53 #[.pointer (some ⟨B, 0, none⟩), .int .i64 x.l[k].plan.client, .int .u64 x.l[k].plan.token] W fun e w2 => e = .returned (.tuple #[.int .i64 lst, .bool true]) ∧ W = w2) := fun W hk => by
                obtain ⟨h1, h2, ⟨T, h3, h4⟩, h5⟩ := (hH.more hk).1
                refine (h3.find _ _ wfc wft).mono ?_
                rintro e w2 ⟨rfl, rfl⟩
                rw [hlst, decide_eq_true (show askI x.l x.l[k].plan.client x.l[k].plan.token ≠ [] from hlast.1)]
                exact ⟨rfl, rfl⟩
              have HLK : RowKit.Hid ((k : Int) ≤ lst) := by rw [← hlst]; exact hlast.2
              have hepk : ((x.l.map (fun e => e.epoch))[k]'(by simp; exact hlt)) = x.l[k].epoch := by simp
              have HB : RowKit.Hid (∀ j, (Below' (x.l.map (fun e => e.epoch)) x.l[k].epoch j → j ≤ k) ∧ (Below' (x.l.map (fun e => e.epoch)) (x.l[k].epoch + 1) j → k < j)) := fun j => ⟨fun hj => by
                  rcases Nat.lt_or_ge k j with h1 | h1
                  · have := hj.lo k (by simp; exact hlt) h1
                    rw [hepk] at this; omega
                  · exact h1, fun hj => by
                  rcases Nat.lt_or_ge k j with h1 | h1
                  · exact h1
                  · have := hj.hi k (by simp; exact hlt) h1
                    rw [hepk] at this; omega⟩
              have HRW : RowKit.Hid (∀ W, Keep No wk W → W.cell? ⟨b, off + k * 9 + 1, none⟩ = some (.int .i64 x.l[k].epoch)) := fun W hk => (hk.cell hbi (fun x => x)).trans r1
              have HEK : RowKit.Hid (x.l[k].epoch ≤ 9223372036854775807 ∧ 0 ≤ x.l[k].epoch) := by
                have h1 := (HX.out.1.ok _ (List.getElem_mem hlt))
                have h2 := HX.out.1.ep1
                have h3 := ((Ent.err_iff _).1 h1.1).2.1
                exact ⟨by have := h1.2.2; omega, h3⟩
              have HLT : RowKit.Hid (k < x.l.length) := hlt
              have HKK := HK
              clear hrow hxe hpl g2 g3 wfc wft wfn hbr hbw hlst hlast hepk hH hbi hk
              generalize x.l[k] = xk at *
              clear hlt
              generalize xk.seq = v0 at *
              generalize xk.epoch = v1 at *
              generalize xk.plan.client = v2 at *
              generalize xk.plan.token = v3 at *
              generalize xk.plan.name = v4 at *
              generalize xk.plan.how = v5 at *
              generalize xk.plan.args.length = n1 at *
              generalize xk.plan.reads.length = n2 at *
              generalize xk.plan.writes.length = n3 at *
              go_upto_region 23 with fail
              have xP := blk_new wk (.cells #[.int .i64 v2, .int .u64 v3, .string v4, .slice y1 n1 z1, .int .i64 v5, .slice y2 n2 z2, .slice y3 n3 z3] 38)
              have kP := ((Keep.refl No wk).alloc (.cells #[.int .i64 v2, .int .u64 v3, .string v4, .slice y1 n1 z1, .int .i64 v5, .slice y2 n2 z2, .slice y3 n3 z3] 38)).drew
              obtain ⟨PB, hPB⟩ : ∃ PB, wk.heap.size = PB := ⟨_, rfl⟩
              rw [hPB] at xP ⊢
              have xP : (wk.alloc (.cells #[.int .i64 v2, .int .u64 v3, .string v4, .slice y1 n1 z1, .int .i64 v5, .slice y2 n2 z2, .slice y3 n3 z3] 38)).drew.heap[PB]? = some (.cells #[.int .i64 v2, .int .u64 v3, .string v4, .slice y1 n1 z1, .int .i64 v5, .slice y2 n2 z2, .slice y3 n3 z3] 38 (0, 0)) := xP
              have cP := blk_cell xP
              have hcl := HC.out _ kP
              have HP := Lib.hid (And.intro xP kP)
              clear xP kP hPB r0 r1 r2 r3 r4 r5 r6 r7 r8
              refine wp_region_canw [0, 1, 2, 3, 5, 4, 6, 7, 8, 9, 10, 11, 12, 14, 13, 15, 16, 17, 18, 19, 20, 22, 23, 24, 25, 21, 26, 27, 28, 29, 30, 31, 33, 34, 35, 36, 32, 37, 38, 39] [4, 6, 13, 15, 21, 26, 32, 37] [(5, 4), (14, 13), (22, 21), (23, 21), (24, 21), (25, 21), (33, 32), (34, 32), (35, 32), (36, 32)] (by kernel_rfl) (by kernel_rfl) (by kernel_rfl) (by kernel_rfl) (by intro c a d v w h; cases d <;> exact h) ?_
              generalize (wk.alloc (.cells #[.int .i64 v2, .int .u64 v3, .string v4, .slice y1 n1 z1, .int .i64 v5, .slice y2 n2 z2, .slice y3 n3 z3] 38)).drew = w12 at *
              iterate 5 (refine canw_sil rfl rfl (fun K hK => ?_); go_simp; refine hK _ ?_; clear hK K)
              refine canw_loud [5] rfl rfl rfl (fun K hK => ?_)
              go_wp2_with (go_at_call 49; refine hcl.mono ?_; clear hcl; rintro e w13 ⟨ax, nx, cx, rfl, H13⟩)
              refine Mid.normal (hK _ _ ?_ ?_)
              · simp only [List.forall_mem_cons]
                refine ⟨?_, stabs_nil⟩ <;> exact stab_of rfl (fun K hK => by go_simp; exact hK)
              clear hK K
              have hin := H13.out.2
              refine canw_loud [] rfl rfl rfl (fun K hK => ?_)
              go_wp2_with (go_at_call 48; refine hin.mono ?_; clear hin; rintro e w20 ⟨rfl, hw⟩; subst hw)
              refine Mid.normal (hK _ _ stabs_nil ?_)
              clear hK K
              have K13 : Keep No wk w13 := HP.out.2.trans H13.out.1
              have x13 := H13.out.1.blk HP.out.1 (fun x => x)
              have HP13 := Lib.hid (And.intro x13 K13)
              have hnm := HN.out _ K13
              clear cP K13
              have cP := blk_cell x13
              clear x13
              iterate 7 (refine canw_sil rfl rfl (fun K hK => ?_); go_simp; refine hK _ ?_; clear hK K)
              refine canw_loud [14] rfl rfl rfl (fun K hK => ?_)
              go_wp2_with (go_at_call 50; refine hnm.mono ?_; clear hnm; rintro e w14 ⟨ay, ny, cy, rfl, H14⟩)
              refine Mid.normal (hK _ _ ?_ ?_)
              · simp only [List.forall_mem_cons]
                refine ⟨?_, stabs_nil⟩ <;> exact stab_of rfl (fun K hK => by go_simp; exact hK)
              clear hK K
              have hin := H14.out.2
              refine canw_loud [] rfl rfl rfl (fun K hK => ?_)
              go_wp2_with (go_at_call 48; refine hin.mono ?_; clear hin; rintro e w20 ⟨rfl, hw⟩; subst hw)
              refine Mid.normal (hK _ _ stabs_nil ?_)
              clear hK K
              have K14 : Keep No wk w14 := HP13.out.2.trans H14.out.1
              have x14 := H14.out.1.blk HP13.out.1 (fun x => x)
              have HP14 := Lib.hid (And.intro x14 K14)
              have hir := HIR.out _ K14
              have hiw := HIW.out _ K14
              have hsr := HSR.out _ K14
              have hsw := HSW.out _ K14
              clear cP K14
              have cP := blk_cell x14
              clear x14
              iterate 9 (refine canw_sil rfl rfl (fun K hK => ?_); go_simp; refine hK _ ?_; clear hK K)
              refine canw_loud [22, 23, 24, 25] rfl rfl rfl (fun K hK => ?_)
              go_wp2_with (go_at_call 48; refine hir.mono ?_; clear hir; rintro e w20 ⟨rfl, hw⟩; subst hw)
              refine Mid.normal (hK _ _ ?_ ?_)
              · simp only [List.forall_mem_cons]
                refine ⟨?_, ?_, ?_, ?_, stabs_nil⟩ <;> exact stab_of rfl (fun K hK => by go_simp; exact hK)
              clear hK K
              refine canw_loud [] rfl rfl rfl (fun K hK => ?_)
              go_wp2_with (go_at_call 51; refine hsr.mono ?_; clear hsr; rintro e w20 ⟨rfl, hw⟩; subst hw)
              refine Mid.normal (hK _ _ stabs_nil ?_)
              clear hK K
              iterate 9 (refine canw_sil rfl rfl (fun K hK => ?_); go_simp; refine hK _ ?_; clear hK K)
              refine canw_loud [33, 34, 35, 36] rfl rfl rfl (fun K hK => ?_)
              go_wp2_with (go_at_call 48; refine hiw.mono ?_; clear hiw; rintro e w20 ⟨rfl, hw⟩; subst hw)
              refine Mid.normal (hK _ _ ?_ ?_)
              · simp only [List.forall_mem_cons]
                refine ⟨?_, ?_, ?_, ?_, stabs_nil⟩ <;> exact stab_of rfl (fun K hK => by go_simp; exact hK)
              clear hK K
              refine canw_loud [] rfl rfl rfl (fun K hK => ?_)
              go_wp2_with (go_at_call 51; refine hsw.mono ?_; clear hsw; rintro e w20 ⟨rfl, hw⟩; subst hw)
              refine Mid.normal (hK _ _ stabs_nil ?_)
              clear hK K
              iterate 2 (refine canw_sil rfl rfl (fun K hK => ?_); go_simp; refine hK _ ?_; clear hK K)
              refine canw_nil ?_
              have K14 := HP14.out.2
              have r1 := HRW.out _ K14
              have K114 : Keep No w11 w14 := HK.out.trans K14
              obtain ⟨t2, ht2⟩ : ∃ t2, IntKind.i64.wrap (v1 + 1) = t2 := ⟨_, rfl⟩
              have HT2 : RowKit.Hid (v1 < 4611686018427387904 → t2 = v1 + 1) := fun h => by rw [← ht2, IntKind.wrap_i64]; have := HEK.out; omega
              have hep := HEP.out w14 v1 K114
              have hep2 := HEP.out w14 t2 K114
              have hfd := HFD.out _ K14
              have HK14 := Lib.hid K114
              have e9 : decide (lst < (k : Int)) = false := by simp; exact HLK.out
              clear K14 K114
              go_wp2_with fail
              refine hep.mono ?_
              clear hep
              rintro e w21 ⟨lo, hi, hlo, hhi, hw21, rfl⟩
              subst hw21
              go_wp2_with fail
              refine hep2.mono ?_
              clear hep2
              rintro e w22 ⟨nx, nh, hnx, -, hw22, rfl⟩
              subst hw22
              have hlok := (HB.out lo).1 hlo
              have hhik := (HB.out hi).2 hhi
              by_cases h62 : v1 < 4611686018427387904
              · have d1 : decide (v1 < 4611686018427387904) = true := by simpa using h62
                rw [HT2.out h62] at hnx
                obtain rfl := hnx.eq hhi
                have e7 : decide ((k : Int) < (lo : Int)) = false := by simp; exact hlok
                have e8 : decide ((nx : Int) ≤ (k : Int)) = false := by simp; exact hhik
                clear hlo hhi hnx hlok hhik h62 ht2
                generalize (lo : Int) = lI at *
                generalize (nx : Int) = nI at *
                go_wp2_with (go_at_call 53; refine hfd.mono ?_; clear hfd; rintro e w23 ⟨rfl, hw⟩; subst hw)
                go_roundw
                case rel => exact ⟨k + 1, by simp, HLT.out, HK14.out⟩
                case measure => simp [intOf]; have := HLT.out; omega
              · have d1 : decide (v1 < 4611686018427387904) = false := by simpa using h62
                have e7 : decide ((k : Int) < (lo : Int)) = false := by simp; exact hlok
                have e8 : decide ((hi : Int) ≤ (k : Int)) = false := by simp; exact hhik
                clear hlo hhi hnx hlok hhik h62 ht2
                generalize (lo : Int) = lI at *
                generalize (hi : Int) = hI at *
                generalize (nx : Int) = nI at *
                go_wp2_with (go_at_call 53; refine hfd.mono ?_; clear hfd; rintro e w23 ⟨rfl, hw⟩; subst hw)
                go_roundw
                case rel => exact ⟨k + 1, by simp, HLT.out, HK14.out⟩
                case measure => simp [intOf]; have := HLT.out; omega
            · have hke : k = x.l.length := by omega
              subst hke
              have j1 : ¬ (x.l.length : Int) < (x.l.length : Int) := by omega
              have HF : RowKit.Hid (Keep No w wk) := (H11.out.more HK.out).1.1
              clear hlt hk HK
              go_wp2_with (go_at_call 43; refine (index_any _).mono ?_; rintro e w30 ⟨rfl, hk30⟩; have H30 := Lib.hid (HF.out.trans hk30); clear hk30)
              go_ret
              exact ⟨rfl, H30.out⟩
end Go.Proofs.YtnknihmchmmenaaGreat
