/-
  Parts of what is proved for this claim; each declaration is one of the seat's texts.
-/
import Derived.Test.YtfgdnakfikpmpaaGreatDoorFPA
import Derived.Test.YtfgdnakfikpmpaaGreatDoorFGO
import Derived.Deep.WholeRow
set_option linter.unusedVariables false
set_option linter.unusedSimpArgs false
namespace Go.Proofs.YtfgdnakfikpmpaaGreatDoor
open Go Go.RowKit Go.Deep
theorem ints_get {w : World} {S : Nat → Prop} {a : Option Addr} {n c : Nat} {l : List Int} (h : Rd (.slice (.int .i64)) w S [.slice a n c] l) (i : Nat) (hi : i < l.length) :
    ∃ b off, a = some ⟨b, off, none⟩ ∧ b < w.heap.size ∧ S b ∧ w.cell? ⟨b, off + i, none⟩ = some (.int .i64 l[i]) ∧ (Lit.int .i64 l[i]).wf = true := by
  obtain ⟨b, off, row, ha, -, hb, hS, -, hrow, hx⟩ := h.elem' i hi
  obtain ⟨rfl, w1⟩ := hx
  have p0 := (hrow 0 (by simp)).1
  simp [Sh.size] at p0
  exact ⟨b, off, ha, hb, hS, p0, w1⟩
theorem kindArg_fn (args : Array Value) (w : World) : (callFunc 46 args).run Tryz.prog w = .ok (.enter 46 args) w := by kernel_rfl
set_option maxRecDepth 10000 in
set_option maxHeartbeats 2000000 in
theorem kindArg_idx (w : World) (S : Nat → Prop) (a : Option Addr) (c : Nat) (l : List Int) (h : Rd (.slice (.int .i64)) w S [.slice a l.length c] l) (q : Int → Bool) (hcl : ∀ W, Keep No w W → ∀ i (hi : i < l.length), Calls Tryz.prog 46 #[.int .i64 l[i]] W (Says W (q l[i]))) :
    Calls Tryz.prog 95 #[.slice a l.length c, .func (.func 46) #[] #[]] w (IdxB w (l.any q)) := by
  have h63 : l.length ≤ 9223372036854775807 := slice_len h
  have hfn := kindArg_fn
  have HH := Lib.hid (And.intro h hcl)
  clear h hcl
  go_enter Tryz.func95, Tryz.ntmps95
  go_wp2_with fail
  go_loopw [8] (fun i wr => ∃ k : Nat, k ≤ l.length ∧ i = .int .i64 k ∧ RowKit.Hid (Keep No w wr ∧ (l.take k).any q = false)) (fun i _ => l.length - (intOf i).toNat)
  case atStart => exact ⟨0, by omega, rfl, Keep.refl No w, by simp⟩
  case round =>
    obtain ⟨k, hk, rfl, HR⟩ := hrel
    by_cases hlt : k < l.length
    · have j1 : (k : Int) < l.length := by omega
      have j0 : (0 : Int) ≤ k := by omega
      have j3 : (k : Int) ≤ 9223372036854775806 := by omega
      obtain ⟨b, off, rfl, hb, -, c0, hs⟩ := ints_get (HH.out.1.agree _ HR.out.1.agreeNo) k hlt
      have hcall := (HH.out.2 wr HR.out.1 k hlt).mono (R' := fun e w2 => e = .returned (.bool (q l[k])) ∧ RowKit.Hid (Keep No w w2)) (by
        rintro e w2 ⟨rfl, hk2⟩
        exact ⟨rfl, HR.out.1.trans hk2⟩)
      have hsucc := any_take l q k hlt HR.out.2
      have hbad := any_true l q k hlt
      cases hg : q l[k] with
      | false =>
        rw [hg] at hcall hsucc
        have HA := Lib.hid (And.intro hsucc hlt)
        clear hsucc hbad hg
        generalize l[k] = x1 at *
        clear hlt hk HR
        go_wp2_with (go_at_call 46; refine hcall.mono ?_; clear hcall; rintro e w2 ⟨rfl, HK⟩)
        go_roundw
        case rel => exact ⟨k + 1, by have := HA.out.2; omega, by simp, HK.out, HA.out.1⟩
        case measure => simp [intOf]; have := HA.out.2; omega
      | true =>
        rw [hg] at hcall
        have HA := Lib.hid (hbad hg)
        clear hsucc hbad hg
        generalize l[k] = x1 at *
        clear hlt hk HR
        go_wp2_with (go_at_call 46; refine hcall.mono ?_; clear hcall; rintro e w2 ⟨rfl, HK⟩)
        go_ret
        exact ⟨_, rfl, by rw [HA.out]; simp, HK.out⟩
    · have j1 : ¬ (k : Int) < l.length := by omega
      have ha := HR.out.2
      rw [List.take_of_length_le (by omega)] at ha
      have HA := Lib.hid (And.intro ha HR.out.1)
      clear ha hlt hk HR
      go_wp2_with fail
      go_ret
      exact ⟨_, rfl, by rw [HA.out.1]; decide, HA.out.2⟩
set_option maxRecDepth 10000 in
set_option maxHeartbeats 2000000 in
theorem kindArg_any (w : World) (S : Nat → Prop) (a : Option Addr) (c : Nat) (l : List Int) (h : Rd (.slice (.int .i64)) w S [.slice a l.length c] l) (q : Int → Bool) (hcl : ∀ W, Keep No w W → ∀ i (hi : i < l.length), Calls Tryz.prog 46 #[.int .i64 l[i]] W (Says W (q l[i]))) :
    Calls Tryz.prog 45 #[.slice a l.length c, .func (.func 46) #[] #[]] w (Says w (l.any q)) := by
  have hc := kindArg_idx w S a c l h q hcl
  clear h hcl
  go_enter Tryz.func45, Tryz.ntmps45
  go_wp2_with fail
  refine hc.mono ?_
  clear hc
  rintro e w2 ⟨r, rfl, hr, hk⟩
  have HK := Lib.hid (And.intro hr hk)
  clear hr hk
  go_wp2_with fail
  go_ret
  refine ⟨?_, HK.out.2⟩
  rw [← HK.out.1]
  rfl
theorem textArg_fn (args : Array Value) (w : World) : (callFunc 47 args).run Tryz.prog w = .ok (.enter 47 args) w := by kernel_rfl
set_option maxRecDepth 10000 in
set_option maxHeartbeats 2000000 in
theorem textArg_idx (w : World) (S : Nat → Prop) (a : Option Addr) (c : Nat) (l : List ByteArray) (h : Rd (.slice .str) w S [.slice a l.length c] l) (p : Nat) (q : ByteArray → Bool) (hcl : ∀ W, Keep No w W → ∀ i (hi : i < l.length), Calls Tryz.prog 47 #[.string l[i], .pointer (some ⟨p, 0, none⟩)] W (Says W (q l[i]))) :
    Calls Tryz.prog 98 #[.slice a l.length c, .func (.func 47) #[] #[.pointer (some ⟨p, 0, none⟩)]] w (IdxB w (l.any q)) := by
  have h63 : l.length ≤ 9223372036854775807 := slice_len h
  have hfn := textArg_fn
  have HH := Lib.hid (And.intro h hcl)
  clear h hcl
  go_enter Tryz.func98, Tryz.ntmps98
  go_wp2_with fail
  go_loopw [8] (fun i wr => ∃ k : Nat, k ≤ l.length ∧ i = .int .i64 k ∧ RowKit.Hid (Keep No w wr ∧ (l.take k).any q = false)) (fun i _ => l.length - (intOf i).toNat)
  case atStart => exact ⟨0, by omega, rfl, Keep.refl No w, by simp⟩
  case round =>
    obtain ⟨k, hk, rfl, HR⟩ := hrel
    by_cases hlt : k < l.length
    · have j1 : (k : Int) < l.length := by omega
      have j0 : (0 : Int) ≤ k := by omega
      have j3 : (k : Int) ≤ 9223372036854775806 := by omega
      obtain ⟨b, off, rfl, c0, hs⟩ := strs_get (HH.out.1.agree _ HR.out.1.agreeNo) k hlt
      have hcall := (HH.out.2 wr HR.out.1 k hlt).mono (R' := fun e w2 => e = .returned (.bool (q l[k])) ∧ RowKit.Hid (Keep No w w2)) (by
        rintro e w2 ⟨rfl, hk2⟩
        exact ⟨rfl, HR.out.1.trans hk2⟩)
      have hsucc := any_take l q k hlt HR.out.2
      have hbad := any_true l q k hlt
      cases hg : q l[k] with
      | false =>
        rw [hg] at hcall hsucc
        have HA := Lib.hid (And.intro hsucc hlt)
        clear hsucc hbad hg
        generalize l[k] = x1 at *
        clear hlt hk HR
        go_wp2_with (go_at_call 47; refine hcall.mono ?_; clear hcall; rintro e w2 ⟨rfl, HK⟩)
        go_roundw
        case rel => exact ⟨k + 1, by have := HA.out.2; omega, by simp, HK.out, HA.out.1⟩
        case measure => simp [intOf]; have := HA.out.2; omega
      | true =>
        rw [hg] at hcall
        have HA := Lib.hid (hbad hg)
        clear hsucc hbad hg
        generalize l[k] = x1 at *
        clear hlt hk HR
        go_wp2_with (go_at_call 47; refine hcall.mono ?_; clear hcall; rintro e w2 ⟨rfl, HK⟩)
        go_ret
        exact ⟨_, rfl, by rw [HA.out]; simp, HK.out⟩
    · have j1 : ¬ (k : Int) < l.length := by omega
      have ha := HR.out.2
      rw [List.take_of_length_le (by omega)] at ha
      have HA := Lib.hid (And.intro ha HR.out.1)
      clear ha hlt hk HR
      go_wp2_with fail
      go_ret
      exact ⟨_, rfl, by rw [HA.out.1]; decide, HA.out.2⟩
set_option maxRecDepth 10000 in
set_option maxHeartbeats 2000000 in
theorem textArg_any (w : World) (S : Nat → Prop) (a : Option Addr) (c : Nat) (l : List ByteArray) (h : Rd (.slice .str) w S [.slice a l.length c] l) (p : Nat) (q : ByteArray → Bool) (hcl : ∀ W, Keep No w W → ∀ i (hi : i < l.length), Calls Tryz.prog 47 #[.string l[i], .pointer (some ⟨p, 0, none⟩)] W (Says W (q l[i]))) :
    Calls Tryz.prog 49 #[.slice a l.length c, .func (.func 47) #[] #[.pointer (some ⟨p, 0, none⟩)]] w (Says w (l.any q)) := by
  have hc := textArg_idx w S a c l h p q hcl
  clear h hcl
  go_enter Tryz.func49, Tryz.ntmps49
  go_wp2_with fail
  refine hc.mono ?_
  clear hc
  rintro e w2 ⟨r, rfl, hr, hk⟩
  have HK := Lib.hid (And.intro hr hk)
  clear hr hk
  go_wp2_with fail
  go_ret
  refine ⟨?_, HK.out.2⟩
  rw [← HK.out.1]
  rfl
set_option maxRecDepth 10000 in
theorem kindBad_any (k : Int) (hk : kindOk k = true) (w : World) : Calls Tryz.prog 46 #[.int .i64 k] w (Says w false) := by
  simp only [kindOk, Bool.and_eq_true, decide_eq_true_eq] at hk
  have i1 : ¬ k < 1 := by omega
  have i2 : ¬ 3 < k := by omega
  clear hk
  go_enter Tryz.func46, Tryz.ntmps46
  go_wp2_with fail
  go_ret
  exact ⟨rfl, Keep.refl No w⟩
set_option maxRecDepth 10000 in
theorem textBad_any (t : ByteArray) (n : Nat) (ht : tmplOk t n = true) (w : World) (p : Nat) (a : Option Addr) (c : Nat) (hp : w.cell? ⟨p, 1, none⟩ = some (.slice a n c)) :
    Calls Tryz.prog 47 #[.string t, .pointer (some ⟨p, 0, none⟩)] w (Says w false) := by
  have h1 := (template_ok t n ht w).mono (R' := fun e w2 => e = .returned (.bool true) ∧ RowKit.Hid (Keep No w w2)) (by rintro e w2 ⟨rfl, hk⟩; exact ⟨rfl, hk⟩)
  clear ht
  go_enter Tryz.func47, Tryz.ntmps47
  go_wp2_with (go_at_call 48; refine h1.mono ?_; clear h1; rintro e w2 ⟨rfl, HK⟩)
  go_ret
  exact ⟨rfl, HK.out⟩
theorem proc_cells {w : World} {S : Nat → Prop} {cs : List Value} {p : Prc} (h : Rd procSh w S cs p) :
    ∃ a1 c1 a2 c2 a3 c3 a4 c4 a5 c5, cs = [.string p.name, .slice a1 p.kinds.length c1, .bool p.dep, .slice a2 p.reads.length c2, .slice a3 p.writes.length c3, .int .i64 p.pgm.args, .slice a4 p.pgm.consts.length c4, .slice a5 p.pgm.code.length c5] ∧
      Rd (.slice (.int .i64)) w S [.slice a1 p.kinds.length c1] p.kinds ∧ Rd (.slice .str) w S [.slice a2 p.reads.length c2] p.reads ∧ Rd (.slice .str) w S [.slice a3 p.writes.length c3] p.writes ∧
      Rd (.slice valueSh) w S [.slice a4 p.pgm.consts.length c4] p.pgm.consts ∧ Rd (.slice instrSh) w S [.slice a5 p.pgm.code.length c5] p.pgm.code ∧ p.name.size ≤ maxLen ∧ (Lit.int .i64 p.pgm.args).wf = true := by
  obtain ⟨_, _, rfl, ⟨rfl, w1⟩, _, _, rfl, h2, _, _, rfl, rfl, _, _, rfl, h4, _, _, rfl, h5, _, _, rfl, ⟨_, _, rfl, ⟨rfl, w2⟩, _, _, rfl, h6, _, _, rfl, h7, rfl⟩, rfl⟩ := h
  obtain ⟨a1, c1, rfl, _⟩ := Rd.sliceForm h2
  obtain ⟨a2, c2, rfl, _⟩ := Rd.sliceForm h4
  obtain ⟨a3, c3, rfl, _⟩ := Rd.sliceForm h5
  obtain ⟨a4, c4, rfl, _⟩ := Rd.sliceForm h6
  obtain ⟨a5, c5, rfl, _⟩ := Rd.sliceForm h7
  exact ⟨a1, c1, a2, c2, a3, c3, a4, c4, a5, c5, rfl, h2, h4, h5, h6, h7, w1, w2⟩
theorem proc_mk {w : World} {S : Nat → Prop} (p : Prc) {v1 v2 v3 v4 v5 : Value} (h1 : Rd (.slice (.int .i64)) w S [v1] p.kinds) (h2 : Rd (.slice .str) w S [v2] p.reads) (h3 : Rd (.slice .str) w S [v3] p.writes) (h4 : Rd (.slice valueSh) w S [v4] p.pgm.consts) (h5 : Rd (.slice instrSh) w S [v5] p.pgm.code)
    (w1 : p.name.size ≤ maxLen) (w2 : (Lit.int .i64 p.pgm.args).wf = true) : Rd procSh w S [.string p.name, v1, .bool p.dep, v2, v3, .int .i64 p.pgm.args, v4, v5] p :=
  ⟨[.string p.name], _, rfl, ⟨rfl, w1⟩, [v1], _, rfl, h1, [.bool p.dep], _, rfl, rfl, [v2], _, rfl, h2, [v3], _, rfl, h3, [.int .i64 p.pgm.args, v4, v5], _, rfl, ⟨[.int .i64 p.pgm.args], _, rfl, ⟨rfl, w2⟩, [v4], _, rfl, h4, [v5], _, rfl, h5, rfl⟩, rfl⟩
structure Prc.Ok (p : Prc) : Prop where
  name : nameOk p.name = true
  kinds : p.kinds.length ≤ 8
  kind : ∀ i (hi : i < p.kinds.length), kindOk p.kinds[i] = true
  dep : p.dep = true → p.reads = [] ∧ p.writes = []
  nr : p.reads.length ≤ 32
  nw : p.writes.length ≤ 32
  reads : ∀ i (hi : i < p.reads.length), tmplOk p.reads[i] p.kinds.length = true
  writes : ∀ i (hi : i < p.writes.length), tmplOk p.writes[i] p.kinds.length = true
  args : p.pgm.args = p.kinds.length
def PgOk (w : World) (v1 v2 v3 : Value) : Prop := ∀ W, Keep No w W → Calls Tryz.prog 50 #[.agg #[v1, v2, v3]] W fun e w2 => e = .returned (.tuple #[.int .i64 0, .int .i64 0]) ∧ Keep No W w2
set_option maxRecDepth 10000 in
set_option maxHeartbeats 4000000 in
theorem libCheck_ok (w : World) (S : Nat → Prop) (n1 n2 n3 c1 c2 c3 : Nat) (a1 a2 a3 : Option Addr) (v4 v5 : Value) (p : Prc) (e1 : n1 = p.kinds.length) (e2 : n2 = p.reads.length) (e3 : n3 = p.writes.length)
    (h1 : Rd (.slice (.int .i64)) w S [.slice a1 n1 c1] p.kinds) (h2 : Rd (.slice .str) w S [.slice a2 n2 c2] p.reads) (h3 : Rd (.slice .str) w S [.slice a3 n3 c3] p.writes) (hp : p.Ok) (hpg : PgOk w (.int .i64 p.pgm.args) v4 v5) :
    Calls Tryz.prog 17 #[.agg #[.string p.name, .slice a1 n1 c1, .bool p.dep, .slice a2 n2 c2, .slice a3 n3 c3, .int .i64 p.pgm.args, v4, v5]] w (GivesI w 0) := by
  have K1 := (Keep.refl No w).alloc (.cells #[.string p.name, .slice a1 n1 c1, .bool p.dep, .slice a2 n2 c2, .slice a3 n3 c3, .int .i64 p.pgm.args, v4, v5] 29)
  have x1 := blk_new w (.cells #[.string p.name, .slice a1 n1 c1, .bool p.dep, .slice a2 n2 c2, .slice a3 n3 c3, .int .i64 p.pgm.args, v4, v5] 29)
  have hargs : p.pgm.args = n1 := by rw [hp.args, e1]
  rw [hargs] at hpg x1 K1 ⊢
  have HN : RowKit.Hid (∀ W, Calls Tryz.prog 44 #[.string p.name] W fun e w2 => e = .returned (.bool true) ∧ w2 = W) := fun W => by
    have := libName_any p.name (by have := nameOk_size hp.name; omega) W
    rw [hp.name] at this
    exact this
  have HKi : RowKit.Hid (∀ W, Keep No w W → Calls Tryz.prog 45 #[.slice a1 n1 c1, .func (.func 46) #[] #[]] W fun e w2 => e = .returned (.bool false) ∧ RowKit.Hid (Keep No W w2)) := fun W hW => by
    subst e1
    refine (kindArg_any W S a1 c1 p.kinds (h1.agree _ hW.agreeNo) (fun _ => false) fun W2 _ i hi => kindBad_any _ (hp.kind i hi) W2).mono ?_
    rintro e w2 ⟨rfl, hk⟩
    exact ⟨by simp, hk⟩
  have HT : RowKit.Hid (∀ W, Keep No (w.alloc (.cells #[.string p.name, .slice a1 n1 c1, .bool p.dep, .slice a2 n2 c2, .slice a3 n3 c3, .int .i64 n1, v4, v5] 29)) W → ∀ a n c l, Rd (.slice .str) w S [.slice a n c] l → n = l.length → (∀ i (hi : i < l.length), tmplOk l[i] p.kinds.length = true) →
      Calls Tryz.prog 49 #[.slice a n c, .func (.func 47) #[] #[.pointer (some ⟨w.heap.size, 0, none⟩)]] W fun e w2 => e = .returned (.bool false) ∧ RowKit.Hid (Keep No W w2)) := fun W hW a n c l hl hn hall => by
    subst hn
    have hcell : W.cell? ⟨w.heap.size, 1, none⟩ = some (.slice a1 n1 c1) := (hW.cell (blk_lt x1) (o := 1) (fun x => x)).trans (blk_cell x1 1)
    refine (textArg_any W S a c l (hl.agree _ (K1.trans hW).agreeNo) w.heap.size (fun _ => false) fun W2 h2 i hi => textBad_any _ n1 (by rw [e1]; exact hall i hi) W2 _ a1 c1 ?_).mono ?_
    · exact (h2.cell (World.block_lt_of_cell? _ _ hcell) (o := 1) (fun x => x)).trans hcell
    · rintro e w2 ⟨rfl, hk⟩
      exact ⟨by simp, hk⟩
  have HP : RowKit.Hid (∀ W, Keep No w W → Calls Tryz.prog 50 #[.agg #[.int .i64 n1, v4, v5]] W fun e w2 => e = .returned (.tuple #[.int .i64 0, .int .i64 0]) ∧ RowKit.Hid (Keep No W w2)) := hpg
  have HA := Lib.hid (And.intro h2 (And.intro h3 (And.intro hp.reads (And.intro hp.writes (And.intro e2 e3)))))
  have HK1 := Lib.hid K1
  have i1 : (n1 : Int) ≤ 8 := by have := hp.kinds; omega
  have i2 : (n2 : Int) ≤ 32 := by have := hp.nr; omega
  have i3 : (n3 : Int) ≤ 32 := by have := hp.nw; omega
  have hdep := hp.dep
  rw [show p.reads = [] ↔ n2 = 0 from by rw [e2, List.length_eq_zero_iff], show p.writes = [] ↔ n3 = 0 from by rw [e3, List.length_eq_zero_iff]] at hdep
  have q1 := blk_cell x1
  have HX := Lib.hid x1
  clear hpg h1 h2 h3 hp e1 e2 e3 hargs K1 x1
  generalize p.name = s0 at *
  generalize p.dep = d0 at *
  cases d0 with
  | true =>
    obtain ⟨rfl, rfl⟩ := hdep rfl
    clear hdep
    go_enter Tryz.func17, Tryz.ntmps17
    go_wp2_with (go_at_call 44; refine (HN.out _).mono ?_; rintro e w2 ⟨rfl, rfl⟩)
    refine (HKi.out _ HK1.out).mono ?_
    rintro e w2 ⟨rfl, HK2⟩
    have x2 := HK2.out.blk HX.out (fun x => x)
    have q2 := blk_cell x2
    have HK2' := Lib.hid (HK1.out.trans HK2.out)
    clear q1 x2
    go_wp2_with fail
    refine (HT.out _ HK2.out _ _ _ _ HA.out.1 HA.out.2.2.2.2.1 HA.out.2.2.1).mono ?_
    rintro e w3 ⟨rfl, HK3⟩
    have x3 := (HK2.out.trans HK3.out).blk HX.out (fun x => x)
    have q3 := blk_cell x3
    have HK3' := Lib.hid (HK2.out.trans HK3.out)
    clear q2 x3
    go_wp2_with fail
    refine (HT.out _ HK3'.out _ _ _ _ HA.out.2.1 HA.out.2.2.2.2.2 HA.out.2.2.2.1).mono ?_
    rintro e w4 ⟨rfl, HK4⟩
    have x4 := (HK3'.out.trans HK4.out).blk HX.out (fun x => x)
    have q4 := blk_cell x4
    have HK4' := Lib.hid (HK1.out.trans (HK3'.out.trans HK4.out))
    clear q3 x4
    go_wp2_with fail
    refine (HP.out _ HK4'.out).mono ?_
    rintro e w5 ⟨rfl, HK5⟩
    have x5 := (HK3'.out.trans (HK4.out.trans HK5.out)).blk HX.out (fun x => x)
    have q5 := blk_cell x5
    have HK5' := Lib.hid (HK4'.out.trans HK5.out)
    clear q4 x5
    go_wp2_with fail
    go_ret
    exact ⟨rfl, HK5'.out⟩
  | false =>
    clear hdep
    go_enter Tryz.func17, Tryz.ntmps17
    go_wp2_with (go_at_call 44; refine (HN.out _).mono ?_; rintro e w2 ⟨rfl, rfl⟩)
    refine (HKi.out _ HK1.out).mono ?_
    rintro e w2 ⟨rfl, HK2⟩
    have x2 := HK2.out.blk HX.out (fun x => x)
    have q2 := blk_cell x2
    have HK2' := Lib.hid (HK1.out.trans HK2.out)
    clear q1 x2
    go_wp2_with fail
    refine (HT.out _ HK2.out _ _ _ _ HA.out.1 HA.out.2.2.2.2.1 HA.out.2.2.1).mono ?_
    rintro e w3 ⟨rfl, HK3⟩
    have x3 := (HK2.out.trans HK3.out).blk HX.out (fun x => x)
    have q3 := blk_cell x3
    have HK3' := Lib.hid (HK2.out.trans HK3.out)
    clear q2 x3
    go_wp2_with fail
    refine (HT.out _ HK3'.out _ _ _ _ HA.out.2.1 HA.out.2.2.2.2.2 HA.out.2.2.2.1).mono ?_
    rintro e w4 ⟨rfl, HK4⟩
    have x4 := (HK3'.out.trans HK4.out).blk HX.out (fun x => x)
    have q4 := blk_cell x4
    have HK4' := Lib.hid (HK1.out.trans (HK3'.out.trans HK4.out))
    clear q3 x4
    go_wp2_with fail
    refine (HP.out _ HK4'.out).mono ?_
    rintro e w5 ⟨rfl, HK5⟩
    have x5 := (HK3'.out.trans (HK4.out.trans HK5.out)).blk HX.out (fun x => x)
    have q5 := blk_cell x5
    have HK5' := Lib.hid (HK4'.out.trans HK5.out)
    clear q4 x5
    go_wp2_with fail
    go_ret
    exact ⟨rfl, HK5'.out⟩
end Go.Proofs.YtfgdnakfikpmpaaGreatDoor
namespace Go.Proofs.YtfgdnakfikpmpaaGreatDoor
open Go Go.RowKit Go.Deep
theorem Tryz.infoValue : (Tryz.prog.info? 47).map (fun i => (i.zero, i.size, i.bytes)) = some (some (.agg #[.int .i64 0, .int .i64 0, .string ⟨#[]⟩]), 3, 32) := by kernel_rfl
theorem Tryz.infoString : (Tryz.prog.info? 9).map (fun i => (i.zero, i.size, i.bytes)) = some (some (.string ⟨#[]⟩), 1, 16) := by kernel_rfl
set_option maxHeartbeats 400000 in
theorem clone_values (w : World) (S : Nat → Prop) (v : Value) (l : List valueSh.T) (h : Rd (.slice valueSh) w S [v] l) (hl : l.length ≤ 1048576) :
    Calls Tryz.prog 123 #[v] w (Cloned valueSh 47 w l) := by
  obtain ⟨i0, hi, hz0, hz1, hz2⟩ := info_parts Tryz.infoValue
  obtain ⟨a, c, hv, hc, hn⟩ := Rd.sliceForm h
  obtain rfl : v = .slice a l.length c := by simpa using hv
  clear hv
  have hq := fun (a : Option Addr) (n c : Nat) (w : World) => Lib.run_eql_slice_nil (P := Tryz.prog) w 24 47 a n c 0 0 Tryz.underlying24
  cases a with
  | none =>
    obtain ⟨rfl, rfl⟩ := hn rfl
    go_enter Tryz.func123, Tryz.ntmps123
    go_wp2
    go_ret
    exact ⟨none, 0, rfl, Own.nil _ _ _ _, Keep.refl _ _⟩
  | some a =>
    obtain ⟨a', c', w', hrun, ho, hk⟩ := clone_app h rfl 24 47 24 i0 _ 32 Tryz.underlying24 hi hz0 hz1 hz2 rfl hl (by decide)
    clear h hn
    go_enter Tryz.func123, Tryz.ntmps123
    go_wp2_with (at_builtin; refine wpList_app rfl (.tmp 5) (.tmp 6) 24 24 rfl rfl rfl hrun ?_)
    go_ret
    exact ⟨_, _, rfl, ho, hk⟩
set_option maxHeartbeats 400000 in
theorem clone_strings (w : World) (S : Nat → Prop) (v : Value) (l : List ByteArray) (h : Rd (.slice .str) w S [v] l) (hl : l.length ≤ 1048576) :
    Calls Tryz.prog 122 #[v] w (Cloned .str 9 w l) := by
  obtain ⟨i0, hi, hz0, hz1, hz2⟩ := info_parts Tryz.infoString
  obtain ⟨a, c, hv, hc, hn⟩ := Rd.sliceForm h
  obtain rfl : v = .slice a l.length c := by simpa using hv
  clear hv
  have hq := fun (a : Option Addr) (n c : Nat) (w : World) => Lib.run_eql_slice_nil (P := Tryz.prog) w 23 9 a n c 0 0 Tryz.underlying23
  cases a with
  | none =>
    obtain ⟨rfl, rfl⟩ := hn rfl
    go_enter Tryz.func122, Tryz.ntmps122
    go_wp2
    go_ret
    exact ⟨none, 0, rfl, Own.nil _ _ _ _, Keep.refl _ _⟩
  | some a =>
    obtain ⟨a', c', w', hrun, ho, hk⟩ := clone_app h rfl 23 9 23 i0 _ 16 Tryz.underlying23 hi hz0 hz1 hz2 rfl hl (by decide)
    clear h hn
    go_enter Tryz.func122, Tryz.ntmps122
    go_wp2_with (at_builtin; refine wpList_app rfl (.tmp 5) (.tmp 6) 23 23 rfl rfl rfl hrun ?_)
    go_ret
    exact ⟨_, _, rfl, ho, hk⟩
end Go.Proofs.YtfgdnakfikpmpaaGreatDoor
namespace Go.Proofs.YtfgdnakfikpmpaaGreatDoor
open Go Go.RowKit Go.Deep
theorem Tryz.infoClI : (Tryz.prog.info? 3).map (fun i => (i.zero, i.size, i.bytes)) = some (some (.int .i64 0), 1, 8) := by kernel_rfl
set_option maxHeartbeats 400000 in
theorem clone_ints (w : World) (S : Nat → Prop) (v : Value) (l : List Int) (h : Rd (.slice (.int .i64)) w S [v] l) (hl : l.length ≤ 1048576) :
    Calls Tryz.prog 121 #[v] w (Cloned (.int .i64) 3 w l) := by
  obtain ⟨i0, hi, hz0, hz1, hz2⟩ := info_parts Tryz.infoClI
  obtain ⟨a, c, hv, hc, hn⟩ := Rd.sliceForm h
  obtain rfl : v = .slice a l.length c := by simpa using hv
  clear hv
  have hq := fun (a : Option Addr) (n c : Nat) (w : World) => Lib.run_eql_slice_nil (P := Tryz.prog) w 22 3 a n c 0 0 Tryz.underlying22
  cases a with
  | none =>
    obtain ⟨rfl, rfl⟩ := hn rfl
    go_enter Tryz.func121, Tryz.ntmps121
    go_wp2
    go_ret
    exact ⟨none, 0, rfl, Own.nil _ _ _ _, Keep.refl _ _⟩
  | some a =>
    obtain ⟨a', c', w', hrun, ho, hk⟩ := clone_app h rfl 22 3 22 i0 _ 8 Tryz.underlying22 hi hz0 hz1 hz2 rfl hl (by decide)
    clear h hn
    go_enter Tryz.func121, Tryz.ntmps121
    go_wp2_with (at_builtin; refine wpList_app rfl (.tmp 5) (.tmp 6) 22 22 rfl rfl rfl hrun ?_)
    go_ret
    exact ⟨_, _, rfl, ho, hk⟩
theorem Tryz.infoClN : (Tryz.prog.info? 144).map (fun i => (i.zero, i.size, i.bytes)) = some (some (.agg #[.int .i64 0, .int .i64 0]), 2, 16) := by kernel_rfl
set_option maxHeartbeats 400000 in
theorem clone_instrs (w : World) (S : Nat → Prop) (v : Value) (l : List Ins) (h : Rd (.slice instrSh) w S [v] l) (hl : l.length ≤ 1048576) :
    Calls Tryz.prog 124 #[v] w (Cloned instrSh 144 w l) := by
  obtain ⟨i0, hi, hz0, hz1, hz2⟩ := info_parts Tryz.infoClN
  obtain ⟨a, c, hv, hc, hn⟩ := Rd.sliceForm h
  obtain rfl : v = .slice a l.length c := by simpa using hv
  clear hv
  have hq := fun (a : Option Addr) (n c : Nat) (w : World) => Lib.run_eql_slice_nil (P := Tryz.prog) w 25 144 a n c 0 0 Tryz.underlying25
  cases a with
  | none =>
    obtain ⟨rfl, rfl⟩ := hn rfl
    go_enter Tryz.func124, Tryz.ntmps124
    go_wp2
    go_ret
    exact ⟨none, 0, rfl, Own.nil _ _ _ _, Keep.refl _ _⟩
  | some a =>
    obtain ⟨a', c', w', hrun, ho, hk⟩ := clone_app h rfl 25 144 25 i0 _ 16 Tryz.underlying25 hi hz0 hz1 hz2 rfl hl (by decide)
    clear h hn
    go_enter Tryz.func124, Tryz.ntmps124
    go_wp2_with (at_builtin; refine wpList_app rfl (.tmp 5) (.tmp 6) 25 25 rfl rfl rfl hrun ?_)
    go_ret
    exact ⟨_, _, rfl, ho, hk⟩
def CopiedP (w : World) (p : Prc) (e : Ending) (w' : World) : Prop :=
  ∃ cs : Array Value, e = .returned (.agg cs) ∧ Rd procSh w' (Fr w.heap.size w'.heap.size) cs.toList p ∧ Keep No w w'
set_option maxHeartbeats 1000000 in
set_option maxRecDepth 10000 in
theorem ownPrc_any (w : World) (S : Nat → Prop) (cs : List Value) (p : Prc) (h : Rd procSh w S cs p) (l1 : p.kinds.length ≤ 1048576) (l2 : p.reads.length ≤ 1048576) (l3 : p.writes.length ≤ 1048576) (l4 : p.pgm.consts.length ≤ 1048576) (l5 : p.pgm.code.length ≤ 1048576) :
    Calls Tryz.prog 81 #[.agg cs.toArray] w (CopiedP w p) := by
  obtain ⟨a1, c1, a2, c2, a3, c3, a4, c4, a5, c5, rfl, h1, h2, h3, h4, h5, w1, w2⟩ := proc_cells h
  clear h
  go_enter Tryz.func81, Tryz.ntmps81
  go_wp2_with fail
  refine (clone_ints _ S _ _ (Rd.agree _ h1 (by exact (((Keep.refl No w).alloc _).alloc _).agreeNo)) l1).mono ?_
  rintro e u1 ⟨x1, y1, rfl, o1, k1⟩
  have b0 := k1.blk (blk_alloc (blk_new w _)) (fun x => x)
  have b1 := k1.blk (blk_new _ _) (fun x => x)
  have kk := (((Keep.refl No w).alloc _).alloc _).thenNo k1
  have hk1 := k1.size
  simp only [World.size_alloc] at b1 o1 hk1
  clear k1
  have c0 := blk_cell b0
  have f0 := blk_fro b0
  go_wp2_with fail
  refine (clone_strings _ S _ _ (Rd.agree _ h2 (by exact (kk.setCell (by simp) _).agreeNo)) l2).mono ?_
  rintro e u2 ⟨x2, y2, rfl, o2, k2⟩
  replace o1 := (o1.agree (agree_set (Fr.not (by omega)) _ _)).agree k2.agreeNo
  replace b0 := k2.blk (blk_set b0 1 _) (fun x => x)
  replace b1 := k2.blk (blk_other b1 (by simp) _) (fun x => x)
  replace kk := (kk.setCell (by simp) _).thenNo k2
  have hk2 := k2.size
  simp only [World.size_setCell] at o2 hk2
  clear k2 c0 f0
  simp at b0
  have c0 := blk_cell b0
  have f0 := blk_fro b0
  go_wp2_with fail
  refine (clone_strings _ S _ _ (Rd.agree _ h3 (by exact (kk.setCell (by simp) _).agreeNo)) l3).mono ?_
  rintro e u3 ⟨x3, y3, rfl, o3, k3⟩
  replace o1 := (o1.agree (agree_set (Fr.not (by omega)) _ _)).agree k3.agreeNo
  replace o2 := (o2.agree (agree_set (Fr.not (by omega)) _ _)).agree k3.agreeNo
  replace b0 := k3.blk (blk_set b0 3 _) (fun x => x)
  replace b1 := k3.blk (blk_other b1 (by simp) _) (fun x => x)
  replace kk := (kk.setCell (by simp) _).thenNo k3
  have hk3 := k3.size
  simp only [World.size_setCell] at o3 hk3
  clear k3 c0 f0
  simp at b0
  have c0 := blk_cell b0
  have f0 := blk_fro b0
  go_wp2_with fail
  refine (clone_values _ S _ _ (Rd.agree _ h4 (by exact (kk.setCell (by simp) _).agreeNo)) l4).mono ?_
  rintro e u4 ⟨x4, y4, rfl, o4, k4⟩
  replace o1 := (o1.agree (agree_set (Fr.not (by omega)) _ _)).agree k4.agreeNo
  replace o2 := (o2.agree (agree_set (Fr.not (by omega)) _ _)).agree k4.agreeNo
  replace o3 := (o3.agree (agree_set (Fr.not (by omega)) _ _)).agree k4.agreeNo
  replace b0 := k4.blk (blk_set b0 4 _) (fun x => x)
  replace b1 := k4.blk (blk_other b1 (by simp) _) (fun x => x)
  replace kk := (kk.setCell (by simp) _).thenNo k4
  have hk4 := k4.size
  simp only [World.size_setCell] at o4 hk4
  clear k4 c0 f0
  simp at b0
  have c0 := blk_cell b0
  have f0 := blk_fro b0
  go_wp2_with fail
  refine (clone_instrs _ S _ _ (Rd.agree _ h5 (by exact (kk.setCell (by simp) _).agreeNo)) l5).mono ?_
  rintro e u5 ⟨x5, y5, rfl, o5, k5⟩
  replace o1 := (o1.agree (agree_set (Fr.not (by omega)) _ _)).agree k5.agreeNo
  replace o2 := (o2.agree (agree_set (Fr.not (by omega)) _ _)).agree k5.agreeNo
  replace o3 := (o3.agree (agree_set (Fr.not (by omega)) _ _)).agree k5.agreeNo
  replace o4 := (o4.agree (agree_set (Fr.not (by omega)) _ _)).agree k5.agreeNo
  replace b0 := k5.blk (blk_set b0 6 _) (fun x => x)
  replace b1 := k5.blk (blk_other b1 (by simp) _) (fun x => x)
  replace kk := (kk.setCell (by simp) _).thenNo k5
  have hk5 := k5.size
  simp only [World.size_setCell] at o5 hk5
  clear k5 c0 f0
  simp at b0
  have c0 := blk_cell b0
  have f0 := blk_fro b0
  have c1 := blk_cell b1
  have f1 := blk_fro b1
  go_wp2_with fail
  refine bodyPost_ret (v := .agg #[.string p.name, .slice x1 p.kinds.length y1, .bool p.dep, .slice x2 p.reads.length y2, .slice x3 p.writes.length y3, .int .i64 p.pgm.args, .slice x4 p.pgm.consts.length y4, .slice x5 p.pgm.code.length y5]) (by simp [results, Tryz.results81, go_sem, c1]) rfl ⟨_, rfl, ?_, ?_⟩
  · have kf : ∀ W, Keep (fun k => k < w.heap.size + 2) u5 W → Rd procSh W (Fr w.heap.size W.heap.size) [.string p.name, .slice x1 p.kinds.length y1, .bool p.dep, .slice x2 p.reads.length y2, .slice x3 p.writes.length y3, .int .i64 p.pgm.args, .slice x4 p.pgm.consts.length y4, .slice x5 p.pgm.code.length y5] p := by
      intro W kW
      have := kW.size
      refine proc_mk p (Own.rd (Own.mono (o1.agree (kW.agree fun k _ hk hm => ?_)) fun k hk => ?_)) (Own.rd (Own.mono (o2.agree (kW.agree fun k _ hk hm => ?_)) fun k hk => ?_)) (Own.rd (Own.mono (o3.agree (kW.agree fun k _ hk hm => ?_)) fun k hk => ?_)) (Own.rd (Own.mono (o4.agree (kW.agree fun k _ hk hm => ?_)) fun k hk => ?_)) (Own.rd (Own.mono (o5.agree (kW.agree fun k _ hk hm => ?_)) fun k hk => ?_)) w1 w2 <;> have h1 := hk.1 <;> have h2 := hk.2 <;> first | omega | exact ⟨by omega, by omega⟩
    refine kf _ ?_
    repeat (refine Keep.setCell ?_ (fun _ => by simp) _)
    exact Keep.refl _ _
  · repeat (refine Keep.setNew ?_ (by simp) _)
    exact kk
end Go.Proofs.YtfgdnakfikpmpaaGreatDoor
namespace Go.Proofs.YtfgdnakfikpmpaaGreatDoor
open Go Go.RowKit Go.Deep
theorem store_list {P : Program} (W : World) (b : Nat) (hb : b = W.heap.size) (t : TypeId) (c : Array Value) (L : List Value) (hi : (P.info? t).map (·.size) = some L.length) (ho : c.size = L.length) (h1 : L.all (·.oneCell') = true) :
    (storeCells ⟨b, 0, none⟩ L 0).run P (W.alloc (.cells c t)) = .ok () (W.alloc (.cells L.toArray t)) := by
  subst hb
  have := run_storeCells_new (P := P) W t c L.toArray (by simpa using hi) (by simpa using ho) (by simpa using h1)
  simpa using this
theorem ops_load (w : World) (C : Array Value) (h1 : C.size = 128) : (loadVar 302 ⟨w.heap.size, 0, none⟩).run Tryz.prog (w.alloc (.cells C 302)) = .ok (.agg C) (w.alloc (.cells C 302)) :=
  run_loadVar_new w 302 C 32 258 Tryz.underlying302 (by rw [h1]; kernel_rfl)
theorem results_cell {P : Program} {fn : Func} {i : Nat} {t : TypeId} (hf : fn.results = #[.cell i t]) {T : Array Value} {a : Addr} (hT : T[i]? = some (.pointer (some a))) {w : World} {v : Value} (h : (loadVar t a).run P w = .ok v w) :
    (results fn T).run P w = .ok v w := by
  unfold results
  rw [hf]
  simp [hT, asAddr, Result.andThen, h]
end Go.Proofs.YtfgdnakfikpmpaaGreatDoor
