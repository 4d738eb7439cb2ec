/-
  Parts of what is proved for this claim; each declaration is one of the seat's texts.
-/
import Derived.Test.YtfgdnakfikpmpaaGreatDoorFMA
import Derived.Test.YtfgdnakfikpmpaaGreatDoorFMI
import Derived.Test.YtfgdnakfikpmpaaGreatDoorFMK
set_option linter.unusedVariables false
set_option linter.unusedSimpArgs false
namespace Go.Proofs.YtfgdnakfikpmpaaGreatDoor
open Go Go.RowKit Go.Deep
theorem le16 {a b n : Nat} (h : b * 16 ≤ n) (k : a ≤ b) : a * 16 ≤ n := Nat.le_trans (Nat.mul_le_mul_right 16 k) h
def NormMid (w : World) (S : Nat → Prop) (u v : Value) (f : Fp) (l : List ByteArray) (w3 : World) (a : Option Addr) (c : Nat) : Prop :=
  w3.heap[w.heap.size]? = some (.cells #[u, v] 49 (0, 0)) ∧ w3.heap[w.heap.size + 1]? = some (.cells #[.slice none 0 0, .slice none 0 0] 49 (0, 0)) ∧ Keep No w w3 ∧ Rd (.slice .str) w3 (Lt w3.heap.size) [.slice a l.length c] l ∧ FpAt w3 S u v f
theorem NormMid.keep {w : World} {S : Nat → Prop} {u v : Value} {f : Fp} {l : List ByteArray} {w3 w4 : World} {a : Option Addr} {c : Nat} (h : NormMid w S u v f l w3 a c) (k : Keep No w3 w4) : NormMid w S u v f l w4 a c := by
  obtain ⟨h1, h2, h3, h4, h5⟩ := h
  exact ⟨k.blk h1 (fun x => x), k.blk h2 (fun x => x), h3.trans k, (h4.agree _ k.agreeNo).mono _ (fun i _ hi => Nat.lt_of_lt_of_le hi k.size), h5.keep k⟩
set_option maxRecDepth 10000 in
set_option maxHeartbeats 4000000 in
theorem rNorm_any (w : World) (S : Nat → Prop) (u v : Value) (f : Fp) (h : FpAt w S u v f) (hl : (f.rs.length + f.ws.length + 1) * 16 ≤ 140737488355328) :
    Calls Tryz.prog 69 #[.agg #[u, v]] w (GivesFC w f.norm) := by
  have K2 : Keep No w ((w.alloc (.cells #[u, v] 49)).alloc (.cells #[.slice none 0 0, .slice none 0 0] 49)) := ((Keep.refl No w).alloc _).alloc _
  have x1 : ((w.alloc (.cells #[u, v] 49)).alloc (.cells #[.slice none 0 0, .slice none 0 0] 49)).heap[w.heap.size]? = some (.cells #[u, v] 49 (0, 0)) := blk_alloc (blk_new w _)
  have x2 : ((w.alloc (.cells #[u, v] 49)).alloc (.cells #[.slice none 0 0, .slice none 0 0] 49)).heap[w.heap.size + 1]? = some (.cells #[.slice none 0 0, .slice none 0 0] 49 (0, 0)) := by
    have := blk_new (w.alloc (.cells #[u, v] 49)) (.cells #[.slice none 0 0, .slice none 0 0] 49)
    simpa using this
  have hb := (rBoth_any _ S S u v f.rs f.ws (h.keep K2).1 (h.keep K2).2 (le16 hl (by omega))).mono (R' := fun e w3 => ∃ a c, e = .returned (.slice a (f.rs ++ f.ws).length c) ∧ RowKit.Hid (NormMid w S u v f (f.rs ++ f.ws) w3 a c)) (by
    rintro e w3 ⟨a, n, c, rfl, ho⟩
    have hn := ho.len
    subst hn
    exact ⟨a, c, rfl, ho.2.blk x1 (fun x => x), ho.2.blk x2 (fun x => x), K2.trans ho.2, ho.rd.mono _ (fun k hk _ => hk), (h.keep K2).keep ho.2⟩)
  have HN := Lib.hid (norm_cases f)
  have L1 : (f.rs.length + 1) * 16 ≤ 140737488355328 := le16 hl (by omega)
  have L2 : (f.ws.length + 1) * 16 ≤ 140737488355328 := le16 hl (by omega)
  have L3 : ((f.rs ++ f.ws).length + 1) * 16 ≤ 140737488355328 := by rw [List.length_append]; exact hl
  obtain ⟨a1, c1, rfl, -⟩ := strs_at h.1
  obtain ⟨a2, c2, rfl, -⟩ := strs_at h.2
  have hsr := fun (w4 : World) (hk : FpAt w4 S (.slice a1 f.rs.length c1) (.slice a2 f.ws.length c2) f) => rSet_any w4 S _ f.rs hk.1 L1
  have hsw := fun (w4 : World) (hk : FpAt w4 S (.slice a1 f.rs.length c1) (.slice a2 f.ws.length c2) f) => rSet_any w4 S _ f.ws hk.2 L2
  have HL := Lib.hid (And.intro L3 (And.intro hsr hsw))
  clear h K2 x1 x2 hl L1 L2 L3 hsr hsw
  generalize f.rs.length = m1 at *
  generalize f.ws.length = m2 at *
  generalize f.rs ++ f.ws = l at *
  go_enter Tryz.func69, Tryz.ntmps69
  go_wp2_with fail
  refine hb.mono ?_
  clear hb
  rintro e w3 ⟨a, c, rfl, HM⟩
  have hll : l.length ≤ 8796093022208 := by have := HL.out.1; omega
  go_wp2_with fail
  go_loopw [5] (fun i wr => ∃ k : Nat, k ≤ l.length ∧ i = .int .i64 k ∧ wr = w3 ∧ (l.take k).all keyOk = true) (fun i _ => l.length - (intOf i).toNat)
  case atStart => exact ⟨0, by omega, rfl, rfl, by simp⟩
  case round =>
    obtain ⟨k, hk, rfl, hw, ha⟩ := hrel
    subst hw
    by_cases hlt : k < l.length
    · have j1 : (k : Int) < l.length := by omega
      have j0 : (0 : Int) ≤ k := by omega
      have j3 : (k : Int) ≤ 9223372036854775806 := by omega
      obtain ⟨b, off, rfl, hc, hxs⟩ := strs_get HM.out.2.2.2.1 k hlt
      have hsucc := allT_take l keyOk k hlt ha
      have hbad := allT_false l keyOk k hlt
      generalize l[k] = x at hc hxs hsucc hbad
      cases hx : keyOk x with
      | true =>
        rw [hx] at hsucc
        have HA := Lib.hid (And.intro hsucc hlt)
        clear hsucc hbad ha hlt hk
        go_wp2_with (go_at_call 79; refine (rKeyOk_any x hxs _).mono ?_; rintro e w' ⟨rfl, rfl⟩; rw [hx])
        go_roundw
        case rel => exact ⟨k + 1, by have := HA.out.2; omega, by simp, by first | rfl | trivial, HA.out.1⟩
        case measure => simp [intOf]; have := HA.out.2; omega
      | false =>
        have HB := Lib.hid (HN.out.1 (hbad hx))
        clear hsucc hbad ha hlt hk
        have x2 := HM.out.2.1
        have q2 := blk_cell x2
        have f2 := blk_fro x2
        go_wp2_with (go_at_call 79; refine (rKeyOk_any x hxs _).mono ?_; rintro e w' ⟨rfl, rfl⟩; rw [hx])
        have y2 := blk_two x2 (.slice none 0 0) (.slice none 0 0)
        have s2 := blk_cell y2
        have s0 := s2 0
        have s1 := s2 1
        simp at s0 s1
        have hk1 := two_nil HM.out.2.2.1 (Nat.le_succ w.heap.size)
        refine bodyPost_ret (v := .tuple #[.agg #[.slice none 0 0, .slice none 0 0], .int .i64 30]) (by simp [results, Tryz.results69, go_sem, s0, s1]) rfl ?_
        rw [HB.out]
        exact ⟨_, _, _, _, _, _, rfl, hk1⟩
    · have hle : l.length ≤ k := by omega
      rw [List.take_of_length_le hle] at ha
      have j1 : ¬ (k : Int) < l.length := by omega
      have hs := (rSet_any wr _ _ l HM.out.2.2.2.1 HL.out.1).mono (R' := fun e w4 => ∃ a4 c4, e = .returned (.slice a4 (setT l).length c4) ∧ RowKit.Hid (NormMid w S (.slice a1 m1 c1) (.slice a2 m2 c2) f l w4 a c)) (by
        rintro e w4 ⟨a4, n4, c4, rfl, ho⟩
        have hn := ho.len
        subst hn
        exact ⟨a4, c4, rfl, HM.out.keep ho.2⟩)
      have HA := Lib.hid ha
      clear ha hk hle
      have hle2 : (setT l).length ≤ 8796093022208 := Nat.le_trans (setT_le l) hll
      by_cases hmany : 64 < (setT l).length
      · have HB := Lib.hid (HN.out.2.1 HA.out hmany)
        have j4 : (64 : Int) < (setT l).length := Int.ofNat_lt.2 hmany
        clear hmany
        go_wp2_with fail
        refine hs.mono ?_
        clear hs
        rintro e w4 ⟨a4, c4, rfl, HM4⟩
        have x2 := HM4.out.2.1
        have q2 := blk_cell x2
        have f2 := blk_fro x2
        go_wp2_with fail
        have y2 := blk_two x2 (.slice none 0 0) (.slice none 0 0)
        have s2 := blk_cell y2
        have s0 := s2 0
        have s1 := s2 1
        simp at s0 s1
        have hk1 := two_nil HM4.out.2.2.1 (Nat.le_succ w.heap.size)
        refine bodyPost_ret (v := .tuple #[.agg #[.slice none 0 0, .slice none 0 0], .int .i64 6]) (by simp [results, Tryz.results69, go_sem, s0, s1]) rfl ?_
        rw [HB.out]
        exact ⟨_, _, _, _, _, _, rfl, hk1⟩
      · have HB := Lib.hid (HN.out.2.2 HA.out hmany)
        have j4 : ¬ (64 : Int) < (setT l).length := fun hh => hmany (Int.ofNat_lt.1 hh)
        clear hmany
        go_wp2_with fail
        refine hs.mono ?_
        clear hs
        rintro e w4 ⟨a4, c4, rfl, HM4⟩
        have x1 := HM4.out.1
        have q1 := blk_cell x1
        go_wp2_with fail
        refine wp_region_can [0, 1, 3, 4, 2, 5, 6, 7, 8] [2, 5, 7] [(3, 2), (4, 2)] (by kernel_rfl) (by kernel_rfl) (by kernel_rfl) (by kernel_rfl) (by intro c a d v w h; cases d <;> exact h) ?_
        iterate 4 (refine can_sil rfl rfl (fun K hK => ?_); go_simp; refine hK _ ?_; clear hK K)
        have hs1 := (HL.out.2.1 w4.drew (HM4.out.keep (Keep.refl No w4).drew).2.2.2.2).mono (R' := fun e w5 => ∃ a5 n5 c5, e = .returned (.slice a5 n5 c5) ∧ w5.heap[w.heap.size]? = some (.cells #[.slice a1 m1 c1, .slice a2 m2 c2] 49 (0, 0)) ∧ RowKit.Hid (NormMid w S (.slice a1 m1 c1) (.slice a2 m2 c2) f l w5 a c ∧ OwnT w4.drew w5 (.slice a5 n5 c5) (setT f.rs))) (by
          rintro e w5 ⟨a5, n5, c5, rfl, ho⟩
          have h5 := (HM4.out.keep (Keep.refl No w4).drew).keep ho.2
          exact ⟨a5, n5, c5, rfl, h5.1, h5, ho⟩)
        have lb : w.heap.size + 1 < w4.drew.heap.size := blk_lt HM4.out.2.1
        have HLB := Lib.hid lb
        clear lb
        clear q1 x1
        refine can_loud [3, 4] rfl rfl rfl (fun K hK => ?_)
        go_wp2_with (go_at_call 80; refine hs1.mono ?_; clear hs1; rintro e w5 ⟨a5, n5, c5, rfl, x1, HM5⟩)
        have q1 := blk_cell x1
        refine Mid.normal (hK _ _ ?_ ?_)
        · simp only [List.forall_mem_cons]
          refine ⟨?_, ?_, stabs_nil⟩ <;> exact stab_of rfl (fun K hK => by go_simp; exact hK)
        clear hK K q1 x1
        have hs2 := (HL.out.2.2 w5 HM5.out.1.2.2.2.2).mono (R' := fun e w6 => ∃ a6 n6 c6, e = .returned (.slice a6 n6 c6) ∧ w6.heap[w.heap.size + 1]? = some (.cells #[.slice none 0 0, .slice none 0 0] 49 (0, 0)) ∧ RowKit.Hid (Keep No w w6 ∧ OwnT w4.drew w6 (.slice a5 n5 c5) (setT f.rs) ∧ OwnT w5 w6 (.slice a6 n6 c6) (setT f.ws) ∧ w4.drew.heap.size ≤ w5.heap.size)) (by
          rintro e w6 ⟨a6, n6, c6, rfl, ho⟩
          exact ⟨a6, n6, c6, rfl, ho.2.blk HM5.out.1.2.1 (fun x => x), HM5.out.1.2.2.1.trans ho.2, HM5.out.2.more ho.2, ho, HM5.out.2.2.size⟩)
        refine can_loud [] rfl rfl rfl (fun K hK => ?_)
        go_wp2_with (go_at_call 80; refine hs2.mono ?_; clear hs2; rintro e w6 ⟨a6, n6, c6, rfl, x2, HM6⟩)
        refine Mid.normal (hK _ _ stabs_nil ?_)
        clear hK K
        refine can_sil rfl rfl (fun K hK => ?_); go_simp; refine hK _ ?_; clear hK K
        have q2 := blk_cell x2
        have f2 := blk_fro x2
        refine can_loud [] rfl rfl rfl (fun K hK => ?_)
        go_wp2_with fail
        refine Mid.normal (hK _ _ stabs_nil ?_)
        clear hK K
        refine can_sil rfl rfl (fun K hK => ?_); go_simp; refine hK _ ?_; clear hK K
        refine can_nil ?_
        go_wp2_with fail
        have y2 := blk_two x2 (.slice a5 n5 c5) (.slice a6 n6 c6)
        have s2 := blk_cell y2
        have s0 := s2 0
        have s1 := s2 1
        simp at s0 s1
        refine bodyPost_ret (v := .tuple #[.agg #[.slice a5 n5 c5, .slice a6 n6 c6], .int .i64 0]) (by simp [results, Tryz.results69, go_sem, s0, s1]) rfl ?_
        rw [HB.out]
        have hk1 := two_own HM6.out.1 HM6.out.2.1 HM6.out.2.2.1 HM6.out.2.2.2 (Nat.le_succ w.heap.size) HLB.out
        exact ⟨a5, n5, c5, a6, n6, c6, rfl, ⟨hk1.1, hk1.2.1⟩, hk1.2.2⟩
end Go.Proofs.YtfgdnakfikpmpaaGreatDoor
namespace Go.Proofs.YtfgdnakfikpmpaaGreatDoor
open Go Go.RowKit Go.Deep
theorem tmpl_size {t : ByteArray} {n : Nat} (h : tmplOk t n = true) : t.size ≤ 1048576 := by
  unfold tmplOk at h
  cases hl : cutT t with
  | none => rw [hl] at h; cases h
  | some l =>
    have h0 : ¬ (t.size = 0 ∨ 64 < t.size) := fun hh => by rw [cutT_none hh] at hl; cases hl
    omega
theorem rKey_any (t : ByteArray) (args : List Val) (ht : tmplOk t args.length = true) (hg : ∀ v ∈ args, givenV v = true) (w : World) (S : Nat → Prop) (a : Option Addr) (c : Nat)
    (h : Rd (.slice valueSh) w S [.slice a args.length c] args) (ha : args.length ≤ 8) :
    Calls Tryz.prog 26 #[.string t, .slice a args.length c] w fun e w' => e = .returned (.tuple #[.string (keyT t args).1, .int .i64 (keyT t args).2]) ∧ RowKit.Hid (Keep No w w') :=
  (rKeyE_any t (tmpl_size ht) args w S a c h).mono fun e w' hh => ⟨hh.1, hh.2⟩
theorem keyT_form (t : ByteArray) (args : List Val) (ht : tmplOk t args.length = true) (hg : ∀ v ∈ args, givenV v = true) : ((keyT t args).2 = 0 ∨ (keyT t args).2 = 30) ∧ (keyT t args).1.size ≤ 32 := by
  unfold tmplOk at ht
  cases hl : cutT t with
  | none => rw [hl] at ht; cases ht
  | some l =>
    rw [hl] at ht
    simp only at ht
    obtain ⟨b, hb⟩ := keyLs_some args hg l ht
    have hk : keyT t args = if keyOk ⟨b.toArray⟩ then (⟨b.toArray⟩, 0) else (noText, 30) := by
      unfold keyT
      rw [hl]
      simp only
      rw [if_neg (by rw [ht]; exact Bool.false_ne_true.symm), hb]
    rw [hk]
    split
    · rename_i h
      unfold keyOk at h
      rw [Bool.and_eq_true, Bool.and_eq_true, decide_eq_true_eq, decide_eq_true_eq] at h
      exact ⟨.inl rfl, h.2⟩
    · exact ⟨.inr rfl, Nat.zero_le _⟩
structure SideR (W1 : World) (F lo : Nat) (l : List ByteArray) (args : List Val) (i : Nat) (ov : Value) (k : Nat) (W : World) : Prop where
  keep : Keep (MayS F lo) W1 W
  two : TwoS lo W F i ov (keysOf args (l.take k))
  ok : ∀ t ∈ l.take k, (keyT t args).2 = 0
theorem foot_bad0 {p : Prc} {args : List Val} (hd : p.dep = false) (hs : suitsB p.kinds args = true) {k : Nat} (hk : k < p.reads.length) (h : ∀ t ∈ p.reads.take k, (keyT t args).2 = 0) (e : Int) (he : e ≠ 0) (hb : (keyT p.reads[k] args).2 = e) : p.foot args = (mkFp [] [], e) :=
  foot_bad (i := 0) hd hs (by decide) hk ⟨fun j hj => absurd hj (Nat.not_lt_zero _), h⟩ e he hb
theorem foot_bad1 {p : Prc} {args : List Val} (hd : p.dep = false) (hs : suitsB p.kinds args = true) (h0 : ∀ t ∈ p.reads, (keyT t args).2 = 0) {k : Nat} (hk : k < p.writes.length) (h : ∀ t ∈ p.writes.take k, (keyT t args).2 = 0) (e : Int) (he : e ≠ 0) (hb : (keyT p.writes[k] args).2 = e) : p.foot args = (mkFp [] [], e) :=
  foot_bad (i := 1) hd hs (by decide) hk ⟨fun j hj => by
    have : j = 0 := by omega
    subst this
    exact h0, h⟩ e he hb
theorem foot_ok1 {p : Prc} {args : List Val} (hd : p.dep = false) (hs : suitsB p.kinds args = true) (h0 : ∀ t ∈ p.reads, (keyT t args).2 = 0) (h1 : ∀ t ∈ p.writes, (keyT t args).2 = 0) : p.foot args = (mkFp (keysOf args p.reads) (keysOf args p.writes)).norm :=
  foot_ok hd hs ⟨fun j hj => by
    have : j = 0 ∨ j = 1 := by omega
    rcases this with rfl | rfl
    · exact h0
    · exact h1, fun t ht => by simp at ht⟩
set_option maxRecDepth 10000 in
set_option maxHeartbeats 4000000 in
theorem rLibFoot_any (w : World) (S T : Nat → Prop) (cs : List Value) (p : Prc) (h : Rd procSh w S cs p) (hsm : p.Small) (hc0 : p.chk = 0) (hh : p.Home) (hd : p.dep = false) (args : List Val) (a : Option Addr) (c : Nat) (ha : Rd (.slice valueSh) w T [.slice a args.length c] args) (hs : suitsB p.kinds args = true) :
    Calls Tryz.prog 24 #[.agg cs.toArray, .slice a args.length c] w (GivesFC w (p.foot args)) := by
  obtain ⟨a1, c1, a2, c2, a3, c3, a4, c4, a5, c5, rfl, h1, h2, h3, h4, h5, w1, w2⟩ := proc_cells h
  have hgv := suits_given hs
  have K0 := ((Keep.refl No w).alloc (.cells #[.string p.name, .slice a1 p.kinds.length c1, .bool p.dep, .slice a2 p.reads.length c2, .slice a3 p.writes.length c3, .int .i64 p.pgm.args, .slice a4 p.pgm.consts.length c4, .slice a5 p.pgm.code.length c5] 29)).alloc (.cells #[.slice none 0 0, .slice none 0 0] 49)
  have x0 := blk_alloc (o' := .cells #[.slice none 0 0, .slice none 0 0] 49) (blk_new w (.cells #[.string p.name, .slice a1 p.kinds.length c1, .bool p.dep, .slice a2 p.reads.length c2, .slice a3 p.writes.length c3, .int .i64 p.pgm.args, .slice a4 p.pgm.consts.length c4, .slice a5 p.pgm.code.length c5] 29))
  have y0 := blk_new (w.alloc (.cells #[.string p.name, .slice a1 p.kinds.length c1, .bool p.dep, .slice a2 p.reads.length c2, .slice a3 p.writes.length c3, .int .i64 p.pgm.args, .slice a4 p.pgm.consts.length c4, .slice a5 p.pgm.code.length c5] 29)) (.cells #[.slice none 0 0, .slice none 0 0] 49)
  simp only [World.size_alloc] at y0
  have hch := (rCheckP_any _ S _ p (h.agree procSh K0.agreeNo) hsm).mono (R' := fun e w2 => e = .returned (.int .i64 0) ∧ w2.heap[w.heap.size]? = some (.cells #[.string p.name, .slice a1 p.kinds.length c1, .bool p.dep, .slice a2 p.reads.length c2, .slice a3 p.writes.length c3, .int .i64 p.pgm.args, .slice a4 p.pgm.consts.length c4, .slice a5 p.pgm.code.length c5] 29 (0, 0)) ∧ RowKit.Hid (Keep No w w2 ∧ w2.heap[w.heap.size + 1]? = some (.cells #[.slice none 0 0, .slice none 0 0] 49 (0, 0)))) (by
    rintro e w2 ⟨rfl, hk⟩
    rw [hc0]
    exact ⟨rfl, hk.out.blk x0 (fun x => x), K0.trans hk.out, hk.out.blk y0 (fun x => x)⟩)
  have HSU : RowKit.Hid (∀ W, Keep No w W → Calls Tryz.prog 29 #[.agg #[.string p.name, .slice a1 p.kinds.length c1, .bool p.dep, .slice a2 p.reads.length c2, .slice a3 p.writes.length c3, .int .i64 p.pgm.args, .slice a4 p.pgm.consts.length c4, .slice a5 p.pgm.code.length c5], .slice a args.length c] W fun e w2 => e = .returned (.int .i64 0) ∧ RowKit.Hid (Keep No W w2)) := fun W hW => by
    refine (rSuits_any W S T _ _ _ _ _ _ _ ⟨rfl, rfl, rfl, rfl, rfl, rfl, rfl⟩ a1 a c1 c p.kinds args (h1.agree _ hW.agreeNo) (ha.agree _ hW.agreeNo)).mono ?_
    rintro e w2 ⟨rfl, hk⟩
    rw [hs]
    exact ⟨rfl, hk⟩
  have HKEY : RowKit.Hid (∀ (t : ByteArray) (W : World), Keep No w W → tmplOk t args.length = true → Calls Tryz.prog 26 #[.string t, .slice a args.length c] W fun e w' => e = .returned (.tuple #[.string (keyT t args).1, .int .i64 (keyT t args).2]) ∧ RowKit.Hid (Keep No W w')) := fun t W hW ht =>
    rKey_any t args ht hgv.2 W T a c (ha.agree _ hW.agreeNo) (by have := hh.ok.kinds; omega)
  have HKE : RowKit.Hid (∀ (t : ByteArray), tmplOk t args.length = true → ((keyT t args).2 = 0 ∨ (keyT t args).2 = 30) ∧ (keyT t args).1.size ≤ 32) := fun t ht =>
    keyT_form t args ht hgv.2
  have HX := Lib.hid (And.intro h2 (And.intro h3 (And.intro hh (And.intro hs (And.intro hd hgv.1)))))
  have q0 := blk_cell x0
  clear h h1 h2 h3 h4 h5 w1 w2 hgv K0 x0 y0 ha hh hs
  rw [hd] at hch HSU q0 ⊢
  clear hd
  go_enter Tryz.func24, Tryz.ntmps24
  go_upto_region 7 with (first | (go_at_call 18; refine hch.mono ?_; clear hch; rintro e w3 ⟨rfl, x3, HK3⟩; clear q0; have q3 := blk_cell x3) | (go_at_call 29; refine (HSU.out _ HK3.out.1).mono ?_; clear HSU; rintro e w4 ⟨rfl, HK4⟩))
  have hrs : w.heap.size + 1 < w4.heap.size := blk_lt (HK4.out.blk HK3.out.2 (fun x => x))
  have k4 := HK3.out.1.trans HK4.out
  have xR := blk_alloc (o' := .cells #[.slice none 0 0, .slice none 0 0] 49) (HK4.out.blk x3 (fun x => x))
  have r5 := blk_alloc (o' := .cells #[.slice none 0 0, .slice none 0 0] 49) (HK4.out.blk HK3.out.2 (fun x => x))
  have b5 := blk_new w4 (.cells #[.slice none 0 0, .slice none 0 0] 49)
  have hs5 : (w4.alloc (.cells #[.slice none 0 0, .slice none 0 0] 49)).heap.size = w4.heap.size + 1 := by simp
  have k5 := k4.alloc (.cells #[.slice none 0 0, .slice none 0 0] 49)
  have HRES := Lib.hid r5
  have HK5 := Lib.hid k5
  have HSZ := Lib.hid hrs
  clear r5 k5 hrs k4 HK3 HK4 x3 q3
  go_upto_region 8 with fail
  generalize (w4.alloc (.cells #[.slice none 0 0, .slice none 0 0] 49)) = w5 at *
  generalize w4.heap.size = F at *
  have HS0 : RowKit.Hid (SideR w5 F (F + 1) p.reads args 0 (.slice none 0 0) 0 w5) := ⟨Keep.refl _ _, ⟨.slice none 0 0, b5, Own.nil _ _ _ _⟩, fun t ht => by simp at ht⟩
  have HLS := Lib.hid (Nat.le_of_eq hs5.symm)
  have HLO := Lib.hid (Nat.lt_succ_self F)
  clear b5 hs5
  go_wp2_with fail
  obtain ⟨n, hn⟩ : ∃ n, n = p.reads.length := ⟨_, rfl⟩
  have i32 : (n : Int) ≤ 32 := by have := HX.out.2.2.1.ok.nr; omega
  have HN := Lib.hid hn
  rw [← hn] at xR
  clear hn
  go_loopg [7] n (fun g x wq => ∃ k : Nat, k ≤ n ∧ g = n - k ∧ x = .int .i64 k ∧ RowKit.Hid (SideR w5 F (F + 1) p.reads args 0 (.slice none 0 0) k wq))
  case atStart => exact ⟨0, by omega, by omega, rfl, HS0.out⟩
  case round =>
    obtain ⟨k, hk, rfl, rfl, HQ⟩ := hrel
    have hlo := HSZ.out
    have bR := HQ.out.keep.blk xR (fun hm => hm.elim (fun e => by omega) (fun e => by have := HLO.out; omega))
    have qR := blk_cell bR
    by_cases hkn : k < n
    · have hkl : k < p.reads.length := by rw [← HN.out]; exact hkn
      have g1 : (k : Int) < n := by omega
      have g0 : (0 : Int) ≤ k := by omega
      have kq : Keep No w wr := (HK5.out.may HQ.out.keep (by have := HSZ.out; omega) (by have := HSZ.out; omega))
      obtain ⟨bt, ft, rfl, t0, -⟩ := strs_get (HX.out.1.agree (.slice .str) kq.agreeNo) k hkl
      have htk : tmplOk p.reads[k] args.length = true := by rw [HX.out.2.2.2.2.2]; exact HX.out.2.2.1.ok.reads k hkl
      have hkc := HKEY.out p.reads[k] wr kq htk
      obtain ⟨hke, hks⟩ := HKE.out p.reads[k] htk
      have hadd := keysOf_add args p.reads k hkl
      have hokn : (keyT p.reads[k] args).2 = 0 → ∀ t ∈ p.reads.take (k + 1), (keyT t args).2 = 0 := fun e t ht => by
        rw [List.take_succ_eq_append_getElem hkl, List.mem_append] at ht
        rcases ht with ht | ht
        · exact HQ.out.ok t ht
        · simp at ht; subst ht; exact e
      have hbadn : ∀ e, e ≠ 0 → (keyT p.reads[k] args).2 = e → p.foot args = (mkFp [] [], e) := fun e he hb => foot_bad0 HX.out.2.2.2.2.1 HX.out.2.2.2.1 hkl HQ.out.ok e he hb
      have hkl32 : (keysOf args (p.reads.take k)).length + 1 ≤ 1000 := by
        unfold keysOf
        rw [List.length_map]
        have h1 := List.length_take_le k p.reads
        have h2 := HX.out.2.2.1.ok.nr
        omega
      have HS := Lib.hid (And.intro hkn (And.intro hadd (And.intro hokn (And.intro hbadn (And.intro hkl32 hks)))))
      have HKQ := Lib.hid kq
      have HBR := Lib.hid bR
      clear hadd hokn hbadn hkl32 hks bR kq htk
      generalize p.reads[k] = tk at *
      generalize (keyT tk args).1 = ks at *
      generalize (keyT tk args).2 = ke at *
      clear hkl hkn hk hlo
      rcases hke with rfl | rfl
      · go_upto_region 14 with (go_at_call 26; refine hkc.mono ?_; clear hkc; rintro e w7 ⟨rfl, HK7⟩)
        have hT8 := HQ.out.two.keep HK7.out
        have hlo' := HLO.out
        obtain ⟨av, nv, cv, f0, happ⟩ := hT8.look (by omega) (by have := HQ.out.keep.size; have := HLS.out; have := HK7.out.size; omega) (by decide) HS.out.2.2.2.2.1
        obtain ⟨a9, n9, c9, w9, hrun, f9, z9, hT9, hk9, hkk9⟩ := happ ks (by have := HS.out.2.2.2.2.2; omega)
        have H9 := Lib.hid (SideR.mk (W1 := w5) (F := F) (lo := (F + 1)) (l := p.reads) (args := args) (i := 0) (k := k + 1) (ov := (.slice none 0 0)) ((HQ.out.keep.thenNo HK7.out).trans hkk9) (by rw [HS.out.2.1]; exact hT9) (HS.out.2.2.1 trivial))
        clear hT8 happ hT9 hk9 hkk9 hlo' qR t0
        go_wp2_with (at_builtin; refine wpList_app rfl (.tmp 47) (.tmp 49) 23 23 rfl rfl rfl hrun ?_)
        go_roundg (n - (k + 1))
        case measure => have := HS.out.1; omega
        case rel => exact ⟨k + 1, by have := HS.out.1; omega, rfl, by simp, H9.out⟩
      · have e30 := HS.out.2.2.2.1 30 (by decide) rfl
        have r7 := HQ.out.keep.blk HRES.out (fun hm => hm.elim (fun e => by have := HSZ.out; omega) (fun e => by have := HSZ.out; have := HLO.out; omega))
        have HR7 := Lib.hid (And.intro r7 e30)
        clear r7 e30
        go_wp2_with (go_at_call 26; refine hkc.mono ?_; clear hkc; rintro e w7 ⟨rfl, HK7⟩; have r8 := HK7.out.blk HR7.out.1 (fun x => x); have c8 := blk_cell r8; have z8 := blk_fro r8)
        have y8 := blk_two r8 (.slice none 0 0) (.slice none 0 0)
        have k8 := ((HKQ.out.trans HK7.out).setNew2 (b := w.heap.size + 1) (by omega) (.slice none 0 0) (.slice none 0 0))
        have s8 := blk_cell y8
        refine bodyPost_ret (v := .tuple #[.agg #[.slice none 0 0, .slice none 0 0], .int .i64 30]) (by simp [results, Tryz.results24, go_sem, s8]) rfl ?_
        rw [HR7.out.2]
        exact ⟨none, 0, 0, none, 0, 0, rfl, ⟨OwnT.nil' k8, OwnT.nil' k8⟩, k8⟩
    · obtain rfl : k = n := by omega
      have g1 : ¬ (k : Int) < k := by omega
      have hq := HQ.out
      rw [HN.out] at hq
      have HE := Lib.hid hq
      have HBR := Lib.hid bR
      clear hq hk hkn hlo bR
      go_upto_region 15 with fail
      have hR := HE.out.ok
      rw [List.take_length] at hR
      have hO := HE.out.two
      rw [List.take_length] at hO
      obtain ⟨u0, b0, o0⟩ := hO
      rw [if_pos rfl] at b0
      have kNo : Keep No w wr := HK5.out.may HE.out.keep (by have := HSZ.out; omega) (by have := HSZ.out; omega)
      have r7 := HE.out.keep.blk HRES.out (fun hm => hm.elim (fun e => by have := HSZ.out; omega) (fun e => by have := HSZ.out; omega))
      have hFl := blk_lt b0
      have HF0 := Lib.hid (And.intro o0.rd hR)
      have HS0' : RowKit.Hid (SideR wr F wr.heap.size p.writes args 1 u0 0 wr) := ⟨Keep.refl _ _, ⟨.slice none 0 0, b0, Own.nil _ _ _ _⟩, fun t ht => by simp at ht⟩
      have HLS' := Lib.hid (Nat.le_refl wr.heap.size)
      have HLO' := Lib.hid hFl
      have HK5' := Lib.hid kNo
      have xR := HBR.out
      clear HE HQ HS0 HLS HLO HK5 HRES HBR qR hR o0 b0 kNo hFl HN i32 g1
      have HRES := Lib.hid r7
      clear r7
      have HS0 := HS0'
      have HLS := HLS'
      have HLO := HLO'
      have HK5 := HK5'
      clear HS0' HLS' HLO' HK5'
      obtain ⟨n0, hn0⟩ : ∃ n0, n0 = k := ⟨_, rfl⟩
      rw [← hn0] at xR
      rw [← hn0]
      clear hn0
      generalize wr = wb at *
      go_wp2_with fail
      obtain ⟨n, hn⟩ : ∃ n, n = p.writes.length := ⟨_, rfl⟩
      have i32 : (n : Int) ≤ 32 := by have := HX.out.2.2.1.ok.nw; omega
      have HN := Lib.hid hn
      rw [← hn] at xR
      clear hn
      go_loopg [10] n (fun g x wq => ∃ k : Nat, k ≤ n ∧ g = n - k ∧ x = .int .i64 k ∧ RowKit.Hid (SideR wb F wb.heap.size p.writes args 1 u0 k wq))
      case atStart => exact ⟨0, by omega, by omega, rfl, HS0.out⟩
      case round =>
        obtain ⟨k, hk, rfl, rfl, HQ⟩ := hrel
        have hlo := HSZ.out
        have bR := HQ.out.keep.blk xR (fun hm => hm.elim (fun e => by omega) (fun e => by have := HLO.out; omega))
        have qR := blk_cell bR
        by_cases hkn : k < n
        · have hkl : k < p.writes.length := by rw [← HN.out]; exact hkn
          have g1 : (k : Int) < n := by omega
          have g0 : (0 : Int) ≤ k := by omega
          have kq : Keep No w wr := (HK5.out.may HQ.out.keep (by have := HSZ.out; omega) (by have := HSZ.out; have := HLO.out; omega))
          obtain ⟨bt, ft, rfl, t0, -⟩ := strs_get (HX.out.2.1.agree (.slice .str) kq.agreeNo) k hkl
          have htk : tmplOk p.writes[k] args.length = true := by rw [HX.out.2.2.2.2.2]; exact HX.out.2.2.1.ok.writes k hkl
          have hkc := HKEY.out p.writes[k] wr kq htk
          obtain ⟨hke, hks⟩ := HKE.out p.writes[k] htk
          have hadd := keysOf_add args p.writes k hkl
          have hokn : (keyT p.writes[k] args).2 = 0 → ∀ t ∈ p.writes.take (k + 1), (keyT t args).2 = 0 := fun e t ht => by
            rw [List.take_succ_eq_append_getElem hkl, List.mem_append] at ht
            rcases ht with ht | ht
            · exact HQ.out.ok t ht
            · simp at ht; subst ht; exact e
          have hbadn : ∀ e, e ≠ 0 → (keyT p.writes[k] args).2 = e → p.foot args = (mkFp [] [], e) := fun e he hb => foot_bad1 HX.out.2.2.2.2.1 HX.out.2.2.2.1 HF0.out.2 hkl HQ.out.ok e he hb
          have hkl32 : (keysOf args (p.writes.take k)).length + 1 ≤ 1000 := by
            unfold keysOf
            rw [List.length_map]
            have h1 := List.length_take_le k p.writes
            have h2 := HX.out.2.2.1.ok.nw
            omega
          have HS := Lib.hid (And.intro hkn (And.intro hadd (And.intro hokn (And.intro hbadn (And.intro hkl32 hks)))))
          have HKQ := Lib.hid kq
          have HBR := Lib.hid bR
          clear hadd hokn hbadn hkl32 hks bR kq htk
          generalize p.writes[k] = tk at *
          generalize (keyT tk args).1 = ks at *
          generalize (keyT tk args).2 = ke at *
          clear hkl hkn hk hlo
          rcases hke with rfl | rfl
          · go_upto_region 21 with (go_at_call 26; refine hkc.mono ?_; clear hkc; rintro e w7 ⟨rfl, HK7⟩)
            have hT8 := HQ.out.two.keep HK7.out
            have hlo' := HLO.out
            obtain ⟨av, nv, cv, f0, happ⟩ := hT8.look (by omega) (by have := HQ.out.keep.size; have := HLS.out; have := HK7.out.size; omega) (by decide) HS.out.2.2.2.2.1
            obtain ⟨a9, n9, c9, w9, hrun, f9, z9, hT9, hk9, hkk9⟩ := happ ks (by have := HS.out.2.2.2.2.2; omega)
            have H9 := Lib.hid (SideR.mk (W1 := wb) (F := F) (lo := wb.heap.size) (l := p.writes) (args := args) (i := 1) (k := k + 1) (ov := u0) ((HQ.out.keep.thenNo HK7.out).trans hkk9) (by rw [HS.out.2.1]; exact hT9) (HS.out.2.2.1 trivial))
            clear hT8 happ hT9 hk9 hkk9 hlo' qR t0
            go_wp2_with (at_builtin; refine wpList_app rfl (.tmp 74) (.tmp 76) 23 23 rfl rfl rfl hrun ?_)
            go_roundg (n - (k + 1))
            case measure => have := HS.out.1; omega
            case rel => exact ⟨k + 1, by have := HS.out.1; omega, rfl, by simp, H9.out⟩
          · have e30 := HS.out.2.2.2.1 30 (by decide) rfl
            have r7 := HQ.out.keep.blk HRES.out (fun hm => hm.elim (fun e => by have := HSZ.out; omega) (fun e => by have := HSZ.out; have := HLO.out; omega))
            have HR7 := Lib.hid (And.intro r7 e30)
            clear r7 e30
            go_wp2_with (go_at_call 26; refine hkc.mono ?_; clear hkc; rintro e w7 ⟨rfl, HK7⟩; have r8 := HK7.out.blk HR7.out.1 (fun x => x); have c8 := blk_cell r8; have z8 := blk_fro r8)
            have y8 := blk_two r8 (.slice none 0 0) (.slice none 0 0)
            have k8 := ((HKQ.out.trans HK7.out).setNew2 (b := w.heap.size + 1) (by omega) (.slice none 0 0) (.slice none 0 0))
            have s8 := blk_cell y8
            refine bodyPost_ret (v := .tuple #[.agg #[.slice none 0 0, .slice none 0 0], .int .i64 30]) (by simp [results, Tryz.results24, go_sem, s8]) rfl ?_
            rw [HR7.out.2]
            exact ⟨none, 0, 0, none, 0, 0, rfl, ⟨OwnT.nil' k8, OwnT.nil' k8⟩, k8⟩
        · obtain rfl : k = n := by omega
          have g1 : ¬ (k : Int) < k := by omega
          have hq := HQ.out
          rw [HN.out] at hq
          have HE := Lib.hid hq
          have HBR := Lib.hid bR
          clear hq hk hkn hlo bR
          go_upto_region 22 with fail
          have hR := HE.out.ok
          rw [List.take_length] at hR
          have hO := HE.out.two
          rw [List.take_length] at hO
          obtain ⟨v, b0, ov⟩ := hO
          rw [if_neg (by decide)] at b0
          have hfo := foot_ok1 HX.out.2.2.2.2.1 HX.out.2.2.2.1 HF0.out.2 hR
          have kNo : Keep No w wr := HK5.out.may HE.out.keep (by have := HSZ.out; omega) (by have := HSZ.out; have := HLO.out; omega)
          have hu : Rd (.slice .str) wr (Up (F + 1)) [u0] (keysOf args p.reads) := ((HF0.out.1.agree (.slice .str) (HE.out.keep.agree fun k hk hm hx => hx.elim (fun e => by have h1 := hm.1; omega) (fun e => by have := hm.2; omega))).mono (.slice .str) fun k _ hm => hm.1)
          have hv : Rd (.slice .str) wr (Up (F + 1)) [v] (keysOf args p.writes) := ov.rd.mono (.slice .str) fun k _ hm => by have := hm.1; have := HLO.out; show F + 1 ≤ k; omega
          have r7 := HE.out.keep.blk HRES.out (fun hm => hm.elim (fun e => by have := HSZ.out; omega) (fun e => by have := HSZ.out; have := HLO.out; omega))
          have hnorm := (rNorm_any wr (Up (F + 1)) u0 v (mkFp (keysOf args p.reads) (keysOf args p.writes)) ⟨hu, hv⟩ (by
            have e1 : (keysOf args p.reads).length = p.reads.length := by simp [keysOf]
            have e2 : (keysOf args p.writes).length = p.writes.length := by simp [keysOf]
            have h1 := HX.out.2.2.1.ok.nr
            have h2 := HX.out.2.2.1.ok.nw
            show ((keysOf args p.reads).length + (keysOf args p.writes).length + 1) * 16 ≤ _
            omega)).mono (R' := fun e w8 => ∃ a n c a' n' c' q, e = .returned (.tuple #[.agg #[.slice a n c, .slice a' n' c'], .int .i64 q]) ∧ w8.heap[w.heap.size + 1]? = some (.cells #[.slice none 0 0, .slice none 0 0] 49 (0, 0)) ∧ RowKit.Hid (q = (p.foot args).2 ∧ OwnF wr w8 (.slice a n c) (.slice a' n' c') (p.foot args).1 ∧ Keep No w w8)) (by
            rintro e w8 ⟨a, n, c, a', n', c', rfl, ho, hk⟩
            rw [hfo]
            exact ⟨a, n, c, a', n', c', _, rfl, hk.blk r7 (fun x => x), rfl, ho, kNo.trans hk⟩)
          have c0 := blk_cell b0
          have hsw := Lib.hid kNo.size
          have hsF : w.heap.size + 1 < wr.heap.size := blk_lt r7
          have HSF := Lib.hid hsF
          have iu : u0.oneCell' = true := by obtain ⟨a, c, e, -⟩ := Rd.sliceForm hu; simp at e; subst e; rfl
          have iv : v.oneCell' = true := by obtain ⟨a, c, e, -⟩ := Rd.sliceForm hv; simp at e; subst e; rfl
          clear b0 ov hfo hR hu hv kNo r7 hsF qR
          go_wp2_with (go_at_call 69; refine hnorm.mono ?_; clear hnorm; rintro e w8 ⟨x1, x2, x3, x4, x5, x6, q, rfl, r8, H8⟩; have c8 := blk_cell r8; have z8 := blk_fro r8)
          have y8 := blk_two r8 (.slice x1 x2 x3) (.slice x4 x5 x6)
          have k8 := H8.out.2.2.setNew2 (b := w.heap.size + 1) (by omega) (.slice x1 x2 x3) (.slice x4 x5 x6)
          have s8 := blk_cell y8
          refine bodyPost_ret (v := .tuple #[.agg #[.slice x1 x2 x3, .slice x4 x5 x6], .int .i64 q]) (by simp [results, Tryz.results24, go_sem, s8]) rfl ?_
          refine ⟨x1, x2, x3, x4, x5, x6, by rw [H8.out.1], ?_, k8⟩
          have hup : ∀ (y : Value) (l : List ByteArray), OwnT wr w8 y l → OwnT w ((w8.setCell ⟨w.heap.size + 1, 0, none⟩ (.slice x1 x2 x3)).setCell ⟨w.heap.size + 1, 1, none⟩ (.slice x4 x5 x6)) y l := fun y l ho => by
            obtain ⟨o1, o2⟩ := ho
            refine ⟨(o1.agree ((keep_two w8 (w.heap.size + 1) _ _).agree fun k _ hk e => ?_)).mono fun k hk => ⟨Nat.le_trans hsw.out hk.1, by have := hk.2; simpa using this⟩, k8⟩
            have : k = w.heap.size + 1 := e
            have h9 := hk.1
            have h10 := HSF.out
            omega
          exact ⟨hup _ _ H8.out.2.1.1, hup _ _ H8.out.2.1.2⟩
set_option maxRecDepth 10000 in
set_option maxHeartbeats 4000000 in
theorem rLibFootE_any (w : World) (S T : Nat → Prop) (cs : List Value) (p : Prc) (h : Rd procSh w S cs p) (hsm : p.Small) (args : List Val) (a : Option Addr) (c : Nat) (ha : Rd (.slice valueSh) w T [.slice a args.length c] args) :
    Calls Tryz.prog 24 #[.agg cs.toArray, .slice a args.length c] w (GivesFC w (p.footE args)) := by
  have hcases := footE_cases p args
  by_cases hlast : p.chk = 0 ∧ p.dep = false ∧ suitsB p.kinds args = true
  · have : p.footE args = p.foot args := by
      rcases hcases with h1 | h1 | h1 | h1
      · exact absurd hlast.1 h1.1
      · rw [hlast.2.1] at h1; exact absurd h1.2.1 (by simp)
      · rw [hlast.2.2] at h1; exact absurd h1.2.2.1 (by simp)
      · exact h1.2.2.2
    rw [this]
    exact rLibFoot_any w S T cs p h hsm hlast.1 (chk_home hlast.1) hlast.2.1 args a c ha hlast.2.2
  obtain ⟨a1, c1, a2, c2, a3, c3, a4, c4, a5, c5, rfl, h1, h2, h3, h4, h5, w1, w2⟩ := proc_cells h
  have K0 := ((Keep.refl No w).alloc (.cells #[.string p.name, .slice a1 p.kinds.length c1, .bool p.dep, .slice a2 p.reads.length c2, .slice a3 p.writes.length c3, .int .i64 p.pgm.args, .slice a4 p.pgm.consts.length c4, .slice a5 p.pgm.code.length c5] 29)).alloc (.cells #[.slice none 0 0, .slice none 0 0] 49)
  have x0 := blk_alloc (o' := .cells #[.slice none 0 0, .slice none 0 0] 49) (blk_new w (.cells #[.string p.name, .slice a1 p.kinds.length c1, .bool p.dep, .slice a2 p.reads.length c2, .slice a3 p.writes.length c3, .int .i64 p.pgm.args, .slice a4 p.pgm.consts.length c4, .slice a5 p.pgm.code.length c5] 29))
  have y0 := blk_new (w.alloc (.cells #[.string p.name, .slice a1 p.kinds.length c1, .bool p.dep, .slice a2 p.reads.length c2, .slice a3 p.writes.length c3, .int .i64 p.pgm.args, .slice a4 p.pgm.consts.length c4, .slice a5 p.pgm.code.length c5] 29)) (.cells #[.slice none 0 0, .slice none 0 0] 49)
  simp only [World.size_alloc] at y0
  obtain ⟨ce, hce⟩ : ∃ ce, p.chk = ce := ⟨_, rfl⟩
  obtain ⟨sb, hsb⟩ : ∃ sb, suitsB p.kinds args = sb := ⟨_, rfl⟩
  obtain ⟨db, hdb⟩ : ∃ db, p.dep = db := ⟨_, rfl⟩
  obtain ⟨er, her⟩ : ∃ er, p.footE args = (mkFp [] [], er) ∧ ((ce ≠ 0 ∧ er = 80) ∨ (ce = 0 ∧ db = true ∧ er = 83) ∨ (ce = 0 ∧ db = false ∧ sb = false ∧ er = 82)) := by
    rcases hcases with h1 | h1 | h1 | h1
    · exact ⟨80, h1.2, .inl ⟨by rw [← hce]; exact h1.1, rfl⟩⟩
    · exact ⟨83, h1.2.2, .inr (.inl ⟨by rw [← hce]; exact h1.1, by rw [← hdb]; exact h1.2.1, rfl⟩)⟩
    · exact ⟨82, h1.2.2.2, .inr (.inr ⟨by rw [← hce]; exact h1.1, by rw [← hdb]; exact h1.2.1, by rw [← hsb]; exact h1.2.2.1, rfl⟩)⟩
    · exact absurd ⟨h1.1, h1.2.1, h1.2.2.1⟩ hlast
  have hch := (rCheckP_any _ S _ p (h.agree procSh K0.agreeNo) hsm).mono (R' := fun e w2 => e = .returned (.int .i64 ce) ∧ w2.heap[w.heap.size]? = some (.cells #[.string p.name, .slice a1 p.kinds.length c1, .bool p.dep, .slice a2 p.reads.length c2, .slice a3 p.writes.length c3, .int .i64 p.pgm.args, .slice a4 p.pgm.consts.length c4, .slice a5 p.pgm.code.length c5] 29 (0, 0)) ∧ w2.heap[w.heap.size + 1]? = some (.cells #[.slice none 0 0, .slice none 0 0] 49 (0, 0)) ∧ RowKit.Hid (Keep No w w2)) (by
    rintro e w2 ⟨rfl, hk⟩
    exact ⟨by rw [← hce], hk.out.blk x0 (fun x => x), hk.out.blk y0 (fun x => x), K0.trans hk.out⟩)
  have HSU : RowKit.Hid (∀ W, Keep No w W → Calls Tryz.prog 29 #[.agg #[.string p.name, .slice a1 p.kinds.length c1, .bool p.dep, .slice a2 p.reads.length c2, .slice a3 p.writes.length c3, .int .i64 p.pgm.args, .slice a4 p.pgm.consts.length c4, .slice a5 p.pgm.code.length c5], .slice a args.length c] W fun e w2 => e = .returned (.int .i64 (if sb then 0 else 82)) ∧ RowKit.Hid (Keep No W w2)) := fun W hW => by
    refine (rSuits_any W S T _ _ _ _ _ _ _ ⟨rfl, rfl, rfl, rfl, rfl, rfl, rfl⟩ a1 a c1 c p.kinds args (h1.agree _ hW.agreeNo) (ha.agree _ hW.agreeNo)).mono ?_
    rintro e w2 ⟨rfl, hk⟩
    rw [hsb]
    exact ⟨rfl, hk⟩
  rw [her.1]
  have q0 := blk_cell x0
  have hor := her.2
  clear h h1 h2 h3 h4 h5 w1 w2 K0 x0 y0 ha hsb her hcases hlast hce hsm
  rw [hdb] at hch HSU q0 ⊢
  clear hdb
  rcases hor with ⟨hc, rfl⟩ | ⟨rfl, rfl, rfl⟩ | ⟨rfl, rfl, rfl, rfl⟩
  · have hcb : (ce != 0) = true := by simpa using hc
    have HC := Lib.hid hc
    clear hc HSU
    go_enter Tryz.func24, Tryz.ntmps24
    go_wp2_with (go_at_call 18; refine hch.mono ?_; clear hch; rintro e w3 ⟨rfl, x3, y3, HK3⟩; clear q0; have q3 := blk_cell x3; have r3 := blk_cell y3; have f3 := blk_fro y3)
    have hk1 := two_nil HK3.out (Nat.le_succ w.heap.size)
    have z1 := blk_cell (blk_two y3 (.slice none 0 0) (.slice none 0 0))
    refine bodyPost_ret (v := .tuple #[.agg #[.slice none 0 0, .slice none 0 0], .int .i64 80]) (by simp [results, Tryz.results24, go_sem, z1]) rfl ?_
    exact ⟨_, _, _, _, _, _, rfl, hk1.1, hk1.2⟩
  · clear HSU
    go_enter Tryz.func24, Tryz.ntmps24
    go_wp2_with (go_at_call 18; refine hch.mono ?_; clear hch; rintro e w3 ⟨rfl, x3, y3, HK3⟩; clear q0; have q3 := blk_cell x3; have r3 := blk_cell y3; have f3 := blk_fro y3)
    have hk1 := two_nil HK3.out (Nat.le_succ w.heap.size)
    have z1 := blk_cell (blk_two y3 (.slice none 0 0) (.slice none 0 0))
    refine bodyPost_ret (v := .tuple #[.agg #[.slice none 0 0, .slice none 0 0], .int .i64 83]) (by simp [results, Tryz.results24, go_sem, z1]) rfl ?_
    exact ⟨_, _, _, _, _, _, rfl, hk1.1, hk1.2⟩
  · go_enter Tryz.func24, Tryz.ntmps24
    go_wp2_with (first | (go_at_call 18; refine hch.mono ?_; clear hch; rintro e w3 ⟨rfl, x3, y3, HK3⟩; clear q0; have q3 := blk_cell x3) | (go_at_call 29; refine (HSU.out _ HK3.out).mono ?_; rintro e w4 ⟨rfl, HK4⟩; have y4 := HK4.out.blk y3 (fun x => x); have r4 := blk_cell y4; have f4 := blk_fro y4))
    have hk1 := two_nil (HK3.out.trans HK4.out) (Nat.le_succ w.heap.size)
    have z1 := blk_cell (blk_two y4 (.slice none 0 0) (.slice none 0 0))
    refine bodyPost_ret (v := .tuple #[.agg #[.slice none 0 0, .slice none 0 0], .int .i64 82]) (by simp [results, Tryz.results24, go_sem, z1]) rfl ?_
    exact ⟨_, _, _, _, _, _, rfl, hk1.1, hk1.2⟩
end Go.Proofs.YtfgdnakfikpmpaaGreatDoor
