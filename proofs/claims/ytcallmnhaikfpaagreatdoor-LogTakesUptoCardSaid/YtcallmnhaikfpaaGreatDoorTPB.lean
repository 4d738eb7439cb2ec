/-
  Parts of what is proved for this claim; each declaration is one of the seat's texts.
-/
import Derived.Test.YtcallmnhaikfpaaGreatDoorTGA
import Derived.Test.YtcallmnhaikfpaaGreatDoorTGC
import Derived.Test.YtcallmnhaikfpaaGreatDoorTGD
import Derived.Test.YtcallmnhaikfpaaGreatDoorTGK
import Derived.Test.YtcallmnhaikfpaaGreatDoorTGO
import Derived.Test.YtcallmnhaikfpaaGreatDoorTGU
import Derived.Test.YtcallmnhaikfpaaGreatDoorTGW
import Derived.Test.YtcallmnhaikfpaaGreatDoorTPA
import Derived.WalkKit
import Derived.WalkSpells
import Derived.WalkLawsBesides
import Derived.ProofKit
import Derived.Deep.Slices
import Derived.Deep.AppendSrc
import Derived.Lib.Hide
import Derived.Lib.ItoaNum
import Derived.Lib.Join
import Derived.Still
import Derived.StillTactics
import Derived.Recover
import Derived.Defers
import Derived.Deep.QuietTactic
import Derived.BigQuiet
import Derived.Handy
import Derived.Laws.Bits64b
import Derived.Lib.Zigzag
import Derived.OwnWalk
import Derived.Deep.DeepCutAuto
import Derived.Deep.LoopGhost
import Derived.Lib.Bytealg
import Derived.Laws.Externs
import Derived.Laws.CopyRow
import Derived.Laws.IdiomCopy
import Derived.Maps.OwnSet
import Derived.Maps.RangeWalk
import Derived.Shelf.SortM.Plain
import Derived.Shelf.SortM.SortNone
import Derived.Ground.SlgmProg
import Derived.Deep.WholeRow
import Derived.Maps.OwnOps
set_option linter.unusedVariables false
set_option linter.unusedSimpArgs false
namespace Go.Proofs.YtcallmnhaikfpaaGreatDoor
open Go Go.RowKit Go.Deep
theorem ints_get {w : World} {S : Nat → Prop} {a : Option Addr} {n c : Nat} {l : List Int} (h : Rd (.slice (.int .i64)) w S [.slice a n c] l) (i : Nat) (hi : i < l.length) :
    ∃ b off, a = some ⟨b, off, none⟩ ∧ b < w.heap.size ∧ S b ∧ w.cell? ⟨b, off + i, none⟩ = some (.int .i64 l[i]) ∧ (Lit.int .i64 l[i]).wf = true := by
  obtain ⟨b, off, row, ha, -, hb, hS, -, hrow, hx⟩ := h.elem' i hi
  obtain ⟨rfl, w1⟩ := hx
  have p0 := (hrow 0 (by simp)).1
  simp [Sh.size] at p0
  exact ⟨b, off, ha, hb, hS, p0, w1⟩
theorem kindArg_fn (args : Array Value) (w : World) : (callFunc 80 args).run Tryz.prog w = .ok (.enter 80 args) w := by kernel_rfl
set_option maxRecDepth 10000 in
set_option maxHeartbeats 2000000 in
theorem kindArg_idx (w : World) (S : Nat → Prop) (a : Option Addr) (c : Nat) (l : List Int) (h : Rd (.slice (.int .i64)) w S [.slice a l.length c] l) (q : Int → Bool) (hcl : ∀ W, Keep No w W → ∀ i (hi : i < l.length), Calls Tryz.prog 80 #[.int .i64 l[i]] W (Says W (q l[i]))) :
    Calls Tryz.prog 104 #[.slice a l.length c, .func (.func 80) #[] #[]] w (IdxB w (l.any q)) := by
  have h63 : l.length ≤ 9223372036854775807 := slice_len h
  have hfn := kindArg_fn
  have HH := Lib.hid (And.intro h hcl)
  clear h hcl
  go_enter Tryz.func104, Tryz.ntmps104
  go_wp2_with fail
  go_loopw [8] (fun i wr => ∃ k : Nat, k ≤ l.length ∧ i = .int .i64 k ∧ RowKit.Hid (Keep No w wr ∧ (l.take k).any q = false)) (fun i _ => l.length - (intOf i).toNat)
  case atStart => exact ⟨0, by omega, rfl, Keep.refl No w, by simp⟩
  case round =>
    obtain ⟨k, hk, rfl, HR⟩ := hrel
    by_cases hlt : k < l.length
    · have j1 : (k : Int) < l.length := by omega
      have j0 : (0 : Int) ≤ k := by omega
      have j3 : (k : Int) ≤ 9223372036854775806 := by omega
      obtain ⟨b, off, rfl, hb, -, c0, hs⟩ := ints_get (HH.out.1.agree _ HR.out.1.agreeNo) k hlt
      have hcall := (HH.out.2 wr HR.out.1 k hlt).mono (R' := fun e w2 => e = .returned (.bool (q l[k])) ∧ RowKit.Hid (Keep No w w2)) (by
        rintro e w2 ⟨rfl, hk2⟩
        exact ⟨rfl, HR.out.1.trans hk2⟩)
      have hsucc := any_take l q k hlt HR.out.2
      have hbad := any_true l q k hlt
      cases hg : q l[k] with
      | false =>
        rw [hg] at hcall hsucc
        have HA := Lib.hid (And.intro hsucc hlt)
        clear hsucc hbad hg
        generalize l[k] = x1 at *
        clear hlt hk HR
        go_wp2_with (go_at_call 80; refine hcall.mono ?_; clear hcall; rintro e w2 ⟨rfl, HK⟩)
        go_roundw
        case rel => exact ⟨k + 1, by have := HA.out.2; omega, by simp, HK.out, HA.out.1⟩
        case measure => simp [intOf]; have := HA.out.2; omega
      | true =>
        rw [hg] at hcall
        have HA := Lib.hid (hbad hg)
        clear hsucc hbad hg
        generalize l[k] = x1 at *
        clear hlt hk HR
        go_wp2_with (go_at_call 80; refine hcall.mono ?_; clear hcall; rintro e w2 ⟨rfl, HK⟩)
        go_ret
        exact ⟨_, rfl, by rw [HA.out]; simp, HK.out⟩
    · have j1 : ¬ (k : Int) < l.length := by omega
      have ha := HR.out.2
      rw [List.take_of_length_le (by omega)] at ha
      have HA := Lib.hid (And.intro ha HR.out.1)
      clear ha hlt hk HR
      go_wp2_with fail
      go_ret
      exact ⟨_, rfl, by rw [HA.out.1]; decide, HA.out.2⟩
set_option maxRecDepth 10000 in
set_option maxHeartbeats 2000000 in
theorem kindArg_any (w : World) (S : Nat → Prop) (a : Option Addr) (c : Nat) (l : List Int) (h : Rd (.slice (.int .i64)) w S [.slice a l.length c] l) (q : Int → Bool) (hcl : ∀ W, Keep No w W → ∀ i (hi : i < l.length), Calls Tryz.prog 80 #[.int .i64 l[i]] W (Says W (q l[i]))) :
    Calls Tryz.prog 79 #[.slice a l.length c, .func (.func 80) #[] #[]] w (Says w (l.any q)) := by
  have hc := kindArg_idx w S a c l h q hcl
  clear h hcl
  go_enter Tryz.func79, Tryz.ntmps79
  go_wp2_with fail
  refine hc.mono ?_
  clear hc
  rintro e w2 ⟨r, rfl, hr, hk⟩
  have HK := Lib.hid (And.intro hr hk)
  clear hr hk
  go_wp2_with fail
  go_ret
  refine ⟨?_, HK.out.2⟩
  rw [← HK.out.1]
  rfl
theorem textArg_fn (args : Array Value) (w : World) : (callFunc 81 args).run Tryz.prog w = .ok (.enter 81 args) w := by kernel_rfl
set_option maxRecDepth 10000 in
set_option maxHeartbeats 2000000 in
theorem textArg_idx (w : World) (S : Nat → Prop) (a : Option Addr) (c : Nat) (l : List ByteArray) (h : Rd (.slice .str) w S [.slice a l.length c] l) (p : Nat) (q : ByteArray → Bool) (hcl : ∀ W, Keep No w W → ∀ i (hi : i < l.length), Calls Tryz.prog 81 #[.string l[i], .pointer (some ⟨p, 0, none⟩)] W (Says W (q l[i]))) :
    Calls Tryz.prog 107 #[.slice a l.length c, .func (.func 81) #[] #[.pointer (some ⟨p, 0, none⟩)]] w (IdxB w (l.any q)) := by
  have h63 : l.length ≤ 9223372036854775807 := slice_len h
  have hfn := textArg_fn
  have HH := Lib.hid (And.intro h hcl)
  clear h hcl
  go_enter Tryz.func107, Tryz.ntmps107
  go_wp2_with fail
  go_loopw [8] (fun i wr => ∃ k : Nat, k ≤ l.length ∧ i = .int .i64 k ∧ RowKit.Hid (Keep No w wr ∧ (l.take k).any q = false)) (fun i _ => l.length - (intOf i).toNat)
  case atStart => exact ⟨0, by omega, rfl, Keep.refl No w, by simp⟩
  case round =>
    obtain ⟨k, hk, rfl, HR⟩ := hrel
    by_cases hlt : k < l.length
    · have j1 : (k : Int) < l.length := by omega
      have j0 : (0 : Int) ≤ k := by omega
      have j3 : (k : Int) ≤ 9223372036854775806 := by omega
      obtain ⟨b, off, rfl, c0, hs⟩ := strs_get (HH.out.1.agree _ HR.out.1.agreeNo) k hlt
      have hcall := (HH.out.2 wr HR.out.1 k hlt).mono (R' := fun e w2 => e = .returned (.bool (q l[k])) ∧ RowKit.Hid (Keep No w w2)) (by
        rintro e w2 ⟨rfl, hk2⟩
        exact ⟨rfl, HR.out.1.trans hk2⟩)
      have hsucc := any_take l q k hlt HR.out.2
      have hbad := any_true l q k hlt
      cases hg : q l[k] with
      | false =>
        rw [hg] at hcall hsucc
        have HA := Lib.hid (And.intro hsucc hlt)
        clear hsucc hbad hg
        generalize l[k] = x1 at *
        clear hlt hk HR
        go_wp2_with (go_at_call 81; refine hcall.mono ?_; clear hcall; rintro e w2 ⟨rfl, HK⟩)
        go_roundw
        case rel => exact ⟨k + 1, by have := HA.out.2; omega, by simp, HK.out, HA.out.1⟩
        case measure => simp [intOf]; have := HA.out.2; omega
      | true =>
        rw [hg] at hcall
        have HA := Lib.hid (hbad hg)
        clear hsucc hbad hg
        generalize l[k] = x1 at *
        clear hlt hk HR
        go_wp2_with (go_at_call 81; refine hcall.mono ?_; clear hcall; rintro e w2 ⟨rfl, HK⟩)
        go_ret
        exact ⟨_, rfl, by rw [HA.out]; simp, HK.out⟩
    · have j1 : ¬ (k : Int) < l.length := by omega
      have ha := HR.out.2
      rw [List.take_of_length_le (by omega)] at ha
      have HA := Lib.hid (And.intro ha HR.out.1)
      clear ha hlt hk HR
      go_wp2_with fail
      go_ret
      exact ⟨_, rfl, by rw [HA.out.1]; decide, HA.out.2⟩
set_option maxRecDepth 10000 in
set_option maxHeartbeats 2000000 in
theorem textArg_any (w : World) (S : Nat → Prop) (a : Option Addr) (c : Nat) (l : List ByteArray) (h : Rd (.slice .str) w S [.slice a l.length c] l) (p : Nat) (q : ByteArray → Bool) (hcl : ∀ W, Keep No w W → ∀ i (hi : i < l.length), Calls Tryz.prog 81 #[.string l[i], .pointer (some ⟨p, 0, none⟩)] W (Says W (q l[i]))) :
    Calls Tryz.prog 83 #[.slice a l.length c, .func (.func 81) #[] #[.pointer (some ⟨p, 0, none⟩)]] w (Says w (l.any q)) := by
  have hc := textArg_idx w S a c l h p q hcl
  clear h hcl
  go_enter Tryz.func83, Tryz.ntmps83
  go_wp2_with fail
  refine hc.mono ?_
  clear hc
  rintro e w2 ⟨r, rfl, hr, hk⟩
  have HK := Lib.hid (And.intro hr hk)
  clear hr hk
  go_wp2_with fail
  go_ret
  refine ⟨?_, HK.out.2⟩
  rw [← HK.out.1]
  rfl
set_option maxRecDepth 10000 in
theorem kindBad_any (k : Int) (hk : kindOk k = true) (w : World) : Calls Tryz.prog 80 #[.int .i64 k] w (Says w false) := by
  simp only [kindOk, Bool.and_eq_true, decide_eq_true_eq] at hk
  have i1 : ¬ k < 1 := by omega
  have i2 : ¬ 3 < k := by omega
  clear hk
  go_enter Tryz.func80, Tryz.ntmps80
  go_wp2_with fail
  go_ret
  exact ⟨rfl, Keep.refl No w⟩
set_option maxRecDepth 10000 in
theorem textBad_any (t : ByteArray) (n : Nat) (ht : tmplOk t n = true) (w : World) (p : Nat) (a : Option Addr) (c : Nat) (hp : w.cell? ⟨p, 1, none⟩ = some (.slice a n c)) :
    Calls Tryz.prog 81 #[.string t, .pointer (some ⟨p, 0, none⟩)] w (Says w false) := by
  have h1 := (template_ok t n ht w).mono (R' := fun e w2 => e = .returned (.bool true) ∧ RowKit.Hid (Keep No w w2)) (by rintro e w2 ⟨rfl, hk⟩; exact ⟨rfl, hk⟩)
  clear ht
  go_enter Tryz.func81, Tryz.ntmps81
  go_wp2_with (go_at_call 82; refine h1.mono ?_; clear h1; rintro e w2 ⟨rfl, HK⟩)
  go_ret
  exact ⟨rfl, HK.out⟩
theorem proc_cells {w : World} {S : Nat → Prop} {cs : List Value} {p : Prc} (h : Rd procSh w S cs p) :
    ∃ a1 c1 a2 c2 a3 c3 a4 c4 a5 c5, cs = [.string p.name, .slice a1 p.kinds.length c1, .bool p.dep, .slice a2 p.reads.length c2, .slice a3 p.writes.length c3, .int .i64 p.pgm.args, .slice a4 p.pgm.consts.length c4, .slice a5 p.pgm.code.length c5] ∧
      Rd (.slice (.int .i64)) w S [.slice a1 p.kinds.length c1] p.kinds ∧ Rd (.slice .str) w S [.slice a2 p.reads.length c2] p.reads ∧ Rd (.slice .str) w S [.slice a3 p.writes.length c3] p.writes ∧
      Rd (.slice valueSh) w S [.slice a4 p.pgm.consts.length c4] p.pgm.consts ∧ Rd (.slice instrSh) w S [.slice a5 p.pgm.code.length c5] p.pgm.code ∧ p.name.size ≤ maxLen ∧ (Lit.int .i64 p.pgm.args).wf = true := by
  obtain ⟨_, _, rfl, ⟨rfl, w1⟩, _, _, rfl, h2, _, _, rfl, rfl, _, _, rfl, h4, _, _, rfl, h5, _, _, rfl, ⟨_, _, rfl, ⟨rfl, w2⟩, _, _, rfl, h6, _, _, rfl, h7, rfl⟩, rfl⟩ := h
  obtain ⟨a1, c1, rfl, _⟩ := Rd.sliceForm h2
  obtain ⟨a2, c2, rfl, _⟩ := Rd.sliceForm h4
  obtain ⟨a3, c3, rfl, _⟩ := Rd.sliceForm h5
  obtain ⟨a4, c4, rfl, _⟩ := Rd.sliceForm h6
  obtain ⟨a5, c5, rfl, _⟩ := Rd.sliceForm h7
  exact ⟨a1, c1, a2, c2, a3, c3, a4, c4, a5, c5, rfl, h2, h4, h5, h6, h7, w1, w2⟩
theorem proc_mk {w : World} {S : Nat → Prop} (p : Prc) {v1 v2 v3 v4 v5 : Value} (h1 : Rd (.slice (.int .i64)) w S [v1] p.kinds) (h2 : Rd (.slice .str) w S [v2] p.reads) (h3 : Rd (.slice .str) w S [v3] p.writes) (h4 : Rd (.slice valueSh) w S [v4] p.pgm.consts) (h5 : Rd (.slice instrSh) w S [v5] p.pgm.code)
    (w1 : p.name.size ≤ maxLen) (w2 : (Lit.int .i64 p.pgm.args).wf = true) : Rd procSh w S [.string p.name, v1, .bool p.dep, v2, v3, .int .i64 p.pgm.args, v4, v5] p :=
  ⟨[.string p.name], _, rfl, ⟨rfl, w1⟩, [v1], _, rfl, h1, [.bool p.dep], _, rfl, rfl, [v2], _, rfl, h2, [v3], _, rfl, h3, [.int .i64 p.pgm.args, v4, v5], _, rfl, ⟨[.int .i64 p.pgm.args], _, rfl, ⟨rfl, w2⟩, [v4], _, rfl, h4, [v5], _, rfl, h5, rfl⟩, rfl⟩
structure Prc.Ok (p : Prc) : Prop where
  name : nameOk p.name = true
  kinds : p.kinds.length ≤ 8
  kind : ∀ i (hi : i < p.kinds.length), kindOk p.kinds[i] = true
  dep : p.dep = true → p.reads = [] ∧ p.writes = []
  nr : p.reads.length ≤ 32
  nw : p.writes.length ≤ 32
  reads : ∀ i (hi : i < p.reads.length), tmplOk p.reads[i] p.kinds.length = true
  writes : ∀ i (hi : i < p.writes.length), tmplOk p.writes[i] p.kinds.length = true
  args : p.pgm.args = p.kinds.length
def PgOk (w : World) (v1 v2 v3 : Value) : Prop := ∀ W, Keep No w W → Calls Tryz.prog 84 #[.agg #[v1, v2, v3]] W fun e w2 => e = .returned (.tuple #[.int .i64 0, .int .i64 0]) ∧ Keep No W w2
set_option maxRecDepth 10000 in
set_option maxHeartbeats 4000000 in
theorem libCheck_ok (w : World) (S : Nat → Prop) (n1 n2 n3 c1 c2 c3 : Nat) (a1 a2 a3 : Option Addr) (v4 v5 : Value) (p : Prc) (e1 : n1 = p.kinds.length) (e2 : n2 = p.reads.length) (e3 : n3 = p.writes.length)
    (h1 : Rd (.slice (.int .i64)) w S [.slice a1 n1 c1] p.kinds) (h2 : Rd (.slice .str) w S [.slice a2 n2 c2] p.reads) (h3 : Rd (.slice .str) w S [.slice a3 n3 c3] p.writes) (hp : p.Ok) (hpg : PgOk w (.int .i64 p.pgm.args) v4 v5) :
    Calls Tryz.prog 48 #[.agg #[.string p.name, .slice a1 n1 c1, .bool p.dep, .slice a2 n2 c2, .slice a3 n3 c3, .int .i64 p.pgm.args, v4, v5]] w (GivesI w 0) := by
  have K1 := (Keep.refl No w).alloc (.cells #[.string p.name, .slice a1 n1 c1, .bool p.dep, .slice a2 n2 c2, .slice a3 n3 c3, .int .i64 p.pgm.args, v4, v5] 66)
  have x1 := blk_new w (.cells #[.string p.name, .slice a1 n1 c1, .bool p.dep, .slice a2 n2 c2, .slice a3 n3 c3, .int .i64 p.pgm.args, v4, v5] 66)
  have hargs : p.pgm.args = n1 := by rw [hp.args, e1]
  rw [hargs] at hpg x1 K1 ⊢
  have HN : RowKit.Hid (∀ W, Calls Tryz.prog 78 #[.string p.name] W fun e w2 => e = .returned (.bool true) ∧ w2 = W) := fun W => by
    have := libName_any p.name (by have := nameOk_size hp.name; omega) W
    rw [hp.name] at this
    exact this
  have HKi : RowKit.Hid (∀ W, Keep No w W → Calls Tryz.prog 79 #[.slice a1 n1 c1, .func (.func 80) #[] #[]] W fun e w2 => e = .returned (.bool false) ∧ RowKit.Hid (Keep No W w2)) := fun W hW => by
    subst e1
    refine (kindArg_any W S a1 c1 p.kinds (h1.agree _ hW.agreeNo) (fun _ => false) fun W2 _ i hi => kindBad_any _ (hp.kind i hi) W2).mono ?_
    rintro e w2 ⟨rfl, hk⟩
    exact ⟨by simp, hk⟩
  have HT : RowKit.Hid (∀ W, Keep No (w.alloc (.cells #[.string p.name, .slice a1 n1 c1, .bool p.dep, .slice a2 n2 c2, .slice a3 n3 c3, .int .i64 n1, v4, v5] 66)) W → ∀ a n c l, Rd (.slice .str) w S [.slice a n c] l → n = l.length → (∀ i (hi : i < l.length), tmplOk l[i] p.kinds.length = true) →
      Calls Tryz.prog 83 #[.slice a n c, .func (.func 81) #[] #[.pointer (some ⟨w.heap.size, 0, none⟩)]] W fun e w2 => e = .returned (.bool false) ∧ RowKit.Hid (Keep No W w2)) := fun W hW a n c l hl hn hall => by
    subst hn
    have hcell : W.cell? ⟨w.heap.size, 1, none⟩ = some (.slice a1 n1 c1) := (hW.cell (blk_lt x1) (o := 1) (fun x => x)).trans (blk_cell x1 1)
    refine (textArg_any W S a c l (hl.agree _ (K1.trans hW).agreeNo) w.heap.size (fun _ => false) fun W2 h2 i hi => textBad_any _ n1 (by rw [e1]; exact hall i hi) W2 _ a1 c1 ?_).mono ?_
    · exact (h2.cell (World.block_lt_of_cell? _ _ hcell) (o := 1) (fun x => x)).trans hcell
    · rintro e w2 ⟨rfl, hk⟩
      exact ⟨by simp, hk⟩
  have HP : RowKit.Hid (∀ W, Keep No w W → Calls Tryz.prog 84 #[.agg #[.int .i64 n1, v4, v5]] W fun e w2 => e = .returned (.tuple #[.int .i64 0, .int .i64 0]) ∧ RowKit.Hid (Keep No W w2)) := hpg
  have HA := Lib.hid (And.intro h2 (And.intro h3 (And.intro hp.reads (And.intro hp.writes (And.intro e2 e3)))))
  have HK1 := Lib.hid K1
  have i1 : (n1 : Int) ≤ 8 := by have := hp.kinds; omega
  have i2 : (n2 : Int) ≤ 32 := by have := hp.nr; omega
  have i3 : (n3 : Int) ≤ 32 := by have := hp.nw; omega
  have hdep := hp.dep
  rw [show p.reads = [] ↔ n2 = 0 from by rw [e2, List.length_eq_zero_iff], show p.writes = [] ↔ n3 = 0 from by rw [e3, List.length_eq_zero_iff]] at hdep
  have q1 := blk_cell x1
  have HX := Lib.hid x1
  clear hpg h1 h2 h3 hp e1 e2 e3 hargs K1 x1
  generalize p.name = s0 at *
  generalize p.dep = d0 at *
  cases d0 with
  | true =>
    obtain ⟨rfl, rfl⟩ := hdep rfl
    clear hdep
    go_enter Tryz.func48, Tryz.ntmps48
    go_wp2_with (go_at_call 78; refine (HN.out _).mono ?_; rintro e w2 ⟨rfl, rfl⟩)
    refine (HKi.out _ HK1.out).mono ?_
    rintro e w2 ⟨rfl, HK2⟩
    have x2 := HK2.out.blk HX.out (fun x => x)
    have q2 := blk_cell x2
    have HK2' := Lib.hid (HK1.out.trans HK2.out)
    clear q1 x2
    go_wp2_with fail
    refine (HT.out _ HK2.out _ _ _ _ HA.out.1 HA.out.2.2.2.2.1 HA.out.2.2.1).mono ?_
    rintro e w3 ⟨rfl, HK3⟩
    have x3 := (HK2.out.trans HK3.out).blk HX.out (fun x => x)
    have q3 := blk_cell x3
    have HK3' := Lib.hid (HK2.out.trans HK3.out)
    clear q2 x3
    go_wp2_with fail
    refine (HT.out _ HK3'.out _ _ _ _ HA.out.2.1 HA.out.2.2.2.2.2 HA.out.2.2.2.1).mono ?_
    rintro e w4 ⟨rfl, HK4⟩
    have x4 := (HK3'.out.trans HK4.out).blk HX.out (fun x => x)
    have q4 := blk_cell x4
    have HK4' := Lib.hid (HK1.out.trans (HK3'.out.trans HK4.out))
    clear q3 x4
    go_wp2_with fail
    refine (HP.out _ HK4'.out).mono ?_
    rintro e w5 ⟨rfl, HK5⟩
    have x5 := (HK3'.out.trans (HK4.out.trans HK5.out)).blk HX.out (fun x => x)
    have q5 := blk_cell x5
    have HK5' := Lib.hid (HK4'.out.trans HK5.out)
    clear q4 x5
    go_wp2_with fail
    go_ret
    exact ⟨rfl, HK5'.out⟩
  | false =>
    clear hdep
    go_enter Tryz.func48, Tryz.ntmps48
    go_wp2_with (go_at_call 78; refine (HN.out _).mono ?_; rintro e w2 ⟨rfl, rfl⟩)
    refine (HKi.out _ HK1.out).mono ?_
    rintro e w2 ⟨rfl, HK2⟩
    have x2 := HK2.out.blk HX.out (fun x => x)
    have q2 := blk_cell x2
    have HK2' := Lib.hid (HK1.out.trans HK2.out)
    clear q1 x2
    go_wp2_with fail
    refine (HT.out _ HK2.out _ _ _ _ HA.out.1 HA.out.2.2.2.2.1 HA.out.2.2.1).mono ?_
    rintro e w3 ⟨rfl, HK3⟩
    have x3 := (HK2.out.trans HK3.out).blk HX.out (fun x => x)
    have q3 := blk_cell x3
    have HK3' := Lib.hid (HK2.out.trans HK3.out)
    clear q2 x3
    go_wp2_with fail
    refine (HT.out _ HK3'.out _ _ _ _ HA.out.2.1 HA.out.2.2.2.2.2 HA.out.2.2.2.1).mono ?_
    rintro e w4 ⟨rfl, HK4⟩
    have x4 := (HK3'.out.trans HK4.out).blk HX.out (fun x => x)
    have q4 := blk_cell x4
    have HK4' := Lib.hid (HK1.out.trans (HK3'.out.trans HK4.out))
    clear q3 x4
    go_wp2_with fail
    refine (HP.out _ HK4'.out).mono ?_
    rintro e w5 ⟨rfl, HK5⟩
    have x5 := (HK3'.out.trans (HK4.out.trans HK5.out)).blk HX.out (fun x => x)
    have q5 := blk_cell x5
    have HK5' := Lib.hid (HK4'.out.trans HK5.out)
    clear q4 x5
    go_wp2_with fail
    go_ret
    exact ⟨rfl, HK5'.out⟩
end Go.Proofs.YtcallmnhaikfpaaGreatDoor
namespace Go.Proofs.YtcallmnhaikfpaaGreatDoor
open Go Go.RowKit Go.Deep
theorem store_list {P : Program} (W : World) (b : Nat) (hb : b = W.heap.size) (t : TypeId) (c : Array Value) (L : List Value) (hi : (P.info? t).map (·.size) = some L.length) (ho : c.size = L.length) (h1 : L.all (·.oneCell') = true) :
    (storeCells ⟨b, 0, none⟩ L 0).run P (W.alloc (.cells c t)) = .ok () (W.alloc (.cells L.toArray t)) := by
  subst hb
  have := run_storeCells_new (P := P) W t c L.toArray (by simpa using hi) (by simpa using ho) (by simpa using h1)
  simpa using this
theorem ops_load (w : World) (C : Array Value) (h1 : C.size = 128) : (loadVar 243 ⟨w.heap.size, 0, none⟩).run Tryz.prog (w.alloc (.cells C 243)) = .ok (.agg C) (w.alloc (.cells C 243)) :=
  run_loadVar_new w 243 C 32 233 Tryz.underlying243 (by rw [h1]; kernel_rfl)
theorem results_cell {P : Program} {fn : Func} {i : Nat} {t : TypeId} (hf : fn.results = #[.cell i t]) {T : Array Value} {a : Addr} (hT : T[i]? = some (.pointer (some a))) {w : World} {v : Value} (h : (loadVar t a).run P w = .ok v w) :
    (results fn T).run P w = .ok v w := by
  unfold results
  rw [hf]
  simp [hT, asAddr, Result.andThen, h]
end Go.Proofs.YtcallmnhaikfpaaGreatDoor
