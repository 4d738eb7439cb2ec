/-
  Parts of what is proved for this claim; each declaration is one of the seat's texts.
-/
import Derived.Test.YtfgdnakfikpmpaaGreatDoorFGM
set_option linter.unusedVariables false
set_option linter.unusedSimpArgs false
namespace Go.Proofs.YtfgdnakfikpmpaaGreatDoor
open Go Go.RowKit Go.Deep
theorem wf_i64q {n : Int} (h0 : -9223372036854775808 ≤ n) (h1 : n ≤ 9223372036854775807) : (Lit.int .i64 n).wf = true := by
  simp [Lit.wf, IntKind.min, IntKind.max, IntKind.signed, IntKind.bits]; omega
theorem Tryz.infoPart : (Tryz.prog.info? 127).map (fun i => (i.zero, i.size, i.bytes)) = some (some (.agg #[.string ⟨#[]⟩, .int .i64 0]), 2, 24) := by kernel_rfl
def OwnP (lo : Nat) (w : World) (v : Value) (l : List Prt) : Prop := Own partSh 127 w (Fr lo w.heap.size) v l
theorem part_row {w : World} {S : Nat → Prop} (t : ByteArray) (n : Int) (ht : t.size ≤ 9223372036854775807) (h0 : -1 ≤ n) (h1 : n ≤ 255) : Rd partSh w S [.string t, .int .i64 n] (mkPrt t n) :=
  ⟨[.string t], _, rfl, ⟨rfl, by rw [maxLen_is]; exact ht⟩, [.int .i64 n], _, rfl, ⟨rfl, show (Lit.int .i64 n).wf = true from wf_i64q (by omega) (by omega)⟩, rfl⟩
theorem OwnP.app {lo : Nat} {w : World} {v : Value} {l : List Prt} (h : OwnP lo w v l) (hlo : lo ≤ w.heap.size) (t : ByteArray) (n : Int) (ht : t.size ≤ 9223372036854775807) (h0 : -1 ≤ n) (h1 : n ≤ 255) (hl : l.length + 1 ≤ 1048576) :
    ∃ a c w', (Builtin.append_ #[119, 119] 119 #[v, .slice (some ⟨w.heap.size, 0, none⟩) 1 1]).run Tryz.prog (w.alloc (.cells #[.string t, .int .i64 n] 127)) = .ok (.slice a (l.length + 1) c) w' ∧ OwnP lo w' (.slice a (l.length + 1) c) (l ++ [mkPrt t n]) ∧ Keep (Fr lo w.heap.size) w w' := by
  obtain ⟨i0, hi0, hz0, hz1, hz2⟩ := info_parts Tryz.infoPart
  have h1' : Own partSh 127 (w.alloc (.cells #[.string t, .int .i64 n] 127)) (Fr lo w.heap.size) v l := Own.agree h ((Keep.refl No w).alloc _).agreeNo
  obtain ⟨a, c, w', hr, ho, hk, hs⟩ := Own.append (P := Tryz.prog) (T := No) h1' 119 119 i0 _ 24 Tryz.underlying119 hi0 hz0 hz1 hz2 rfl (blk_new w _) (x := mkPrt t n) (part_row t n ht h0 h1) (fun k _ x => x) (by omega) (by omega) 1
  have hsz := hk.size
  simp only [World.size_alloc] at hsz
  refine ⟨a, c, w', hr, Own.mono ho.live fun k hk' => ?_, ((Keep.refl _ w).alloc _).then hk fun i _ hi => hi⟩
  obtain ⟨h1 | h1 | h1, h2⟩ := hk'
  · exact ⟨h1.1, h2⟩
  · exact h1.elim
  · simp only [World.size_alloc] at h1; exact ⟨by omega, h2⟩
def GivesP (w : World) (l : List Prt) (e : Ending) (w' : World) : Prop := ∃ a c, e = .returned (.tuple #[.slice a l.length c, .bool true]) ∧ OwnP w.heap.size w' (.slice a l.length c) l ∧ Keep No w w'
theorem Keep.thenOwn {lo : Nat} {a b c : World} (h : Keep No a b) (k : Keep (Fr a.heap.size lo) b c) : Keep No a c := h.then k fun i hi hf => by have := hf.1; omega
theorem keyOk_one {s : ByteArray} {k : Nat} {hk : k < s.size} {hl : k < (bytesOf s).length} (h : keyC (bytesOf s)[k] = true) (hg : (bytesOf s)[k] = s[k].toNat) : keyOk ⟨#[s[k]]⟩ = true := by
  have : bytesOf ⟨#[s[k]]⟩ = [(s[k].toNat : Int)] := rfl
  unfold keyOk
  rw [this, ← hg, List.all_cons, h]
  rfl
theorem sub_one (s : ByteArray) (k : Nat) (hk : k < s.size) : s.extract k (k + 1) = ⟨#[s[k]]⟩ := by
  apply ByteArray.ext
  apply Array.ext
  · simp [ByteArray.size_data]; omega
  · intro i h1 h2
    have : i = 0 := by simp at h2; omega
    subst this
    simp [ByteArray.getElem_eq_getElem_data]
set_option maxRecDepth 10000 in
set_option maxHeartbeats 4000000 in
theorem cut_ok (t : ByteArray) (l : List Prt) (hl : cutT t = some l) (w : World) : Calls Tryz.prog 70 #[.string t] w (GivesP w l) := by
  have hbl := bytesOf_length t
  have h0 : ¬ (t.size = 0 ∨ 64 < t.size) := fun hh => by rw [cutT_none hh] at hl; cases hl
  rw [cutT_some (by omega) (by omega)] at hl
  have e0 : ¬ t.toList = [] := fun e => by
    simp only [ByteArray.toList_eq] at e
    have hz : t.size = 0 := by
      have : t.data.toList.length = 0 := by rw [e]; rfl
      simpa using this
    exact h0 (.inl hz)
  have e1 : t.toList.isEmpty = false := by simpa using e0
  have i64 : ¬ (64 : Int) < t.size := by omega
  have HC := Lib.hid (And.intro hbl (And.intro h0 hl))
  clear hl hbl h0
  go_enter Tryz.func70, Tryz.ntmps70
  go_wp2_with fail
  go_loopg [4, 5] t.size (fun g s i wr => ∃ (k : Nat) (v : Value) (out : List Prt), k ≤ t.size ∧ g = t.size - k ∧ s = v ∧ i = .int .i64 k ∧ RowKit.Hid (CutTo (bytesOf t) k out ∧ OwnP w.heap.size wr v out ∧ Keep No w wr))
  case atStart => exact ⟨0, _, [], by omega, by omega, rfl, rfl, CutTo.start _, Own.nil _ _ _ _, Keep.refl No w⟩
  case round =>
    obtain ⟨k, v, out, hk, rfl, rfl, rfl, HR⟩ := hrel
    by_cases hlt : k < t.size
    · have j1 : (k : Int) < t.size := by omega
      have j0 : (0 : Int) ≤ k := by omega
      have j3 : (k : Int) ≤ 64 := by omega
      have hl : k < (bytesOf t).length := by rw [HC.out.1]; exact hlt
      have hg := bytesOf_get t k hl hlt
      by_cases hm : (bytesOf t)[k] = 123
      · have hk2 : k + 2 < (bytesOf t).length := Classical.byContradiction fun hh => by
          have := HR.out.1.none (cutU_short _ k hl hm hh); rw [HC.out.2.2] at this; cases this
        have hd : 48 ≤ (bytesOf t)[k + 1] ∧ (bytesOf t)[k + 1] ≤ 57 ∧ (bytesOf t)[k + 2] = 125 := Classical.byContradiction fun hh => by
          have := HR.out.1.none (cutU_nomark _ k hk2 hm hh); rw [HC.out.2.2] at this; cases this
        have hnext := HR.out.1.mark hk2 hm hd
        have ht2 : k + 2 < t.size := by rw [← HC.out.1]; exact hk2
        have ht1 : k + 1 < t.size := Nat.lt_of_succ_lt ht2
        have g1 := bytesOf_get t (k + 1) (Nat.lt_of_succ_lt hk2) ht1
        have g2 := bytesOf_get t (k + 2) hk2 ht2
        rw [hg] at hm
        rw [g1, g2] at hd
        rw [g1] at hnext
        have j4 : (k : Int) + 2 < t.size := by omega
        have j5 : (k : Int) + 1 < t.size := by omega
        have HN := Lib.hid hnext
        obtain ⟨c1, hc1⟩ : ∃ c1 : Int, (t[k + 1].toNat : Int) = c1 := ⟨_, rfl⟩
        rw [hc1] at hd hnext
        obtain ⟨d0, d1, d2⟩ := hd
        have HT := Lib.hid (And.intro hnext (And.intro d0 (And.intro d1 ht2)))
        have n1 : ¬ c1 < 48 := by omega
        have n2 : ¬ 57 < c1 := by omega
        clear hnext hg hl hk hk2 g1 g2 HN
        obtain ⟨av, cv, hv, -⟩ := Own.form HR.out.2.1
        subst hv
        obtain ⟨a3, c3, w2, hrun, ho2, hk2⟩ := HR.out.2.1.app HR.out.2.2.size ⟨#[]⟩ (c1 - 48) (by decide) (by omega) (by omega) (by have := HR.out.1.2; have := HT.out.2.2.2; omega)
        have HO := Lib.hid (And.intro ho2 (HR.out.2.2.thenOwn hk2))
        clear ho2 hk2
        generalize out.length = m at *
        go_wp2_with (at_builtin; refine wpList_app rfl (.tmp 47) (.tmp 55) 119 119 rfl rfl rfl hrun ?_)
        go_roundg (t.size - (k + 3))
        case measure => have := HT.out.2.2.2; omega
        case rel => exact ⟨k + 3, _, _, by have := HT.out.2.2.2; omega, rfl, rfl, by simp, HT.out.1, HO.out.1, HO.out.2⟩
      · have hkc : keyC (bytesOf t)[k] = true := by
          cases hh : keyC (bytesOf t)[k] with
          | true => rfl
          | false => have := HR.out.1.none (cutU_bad _ k hl hm hh); rw [HC.out.2.2] at this; cases this
        have hnext := HR.out.1.text hl hm hkc
        have hsub := sub_one t k hlt
        have hko : keyOk ⟨#[t[k]]⟩ = true := keyOk_one hkc hg
        rw [hg] at hm hnext hkc
        have hbk : (t[k].toNat : Int).toNat.toUInt8 = t[k] := by simp
        rw [hbk] at hnext
        have hm' : ((t[k].toNat : Int) == 123) = false := by simpa using hm
        have HN := Lib.hid (And.intro hnext hlt)
        clear hnext hm hkc hg hl hk
        obtain ⟨av, cv, hv, -⟩ := Own.form HR.out.2.1
        subst hv
        obtain ⟨a3, c3, w2, hrun, ho2, hk2⟩ := HR.out.2.1.app HR.out.2.2.size ⟨#[t[k]]⟩ (-1) (by show (1 : Nat) ≤ 9223372036854775807; decide) (by omega) (by omega) (by have := HR.out.1.2; have := HN.out.2; omega)
        have HO := Lib.hid (And.intro ho2 (HR.out.2.2.thenOwn hk2))
        have hval := keyOk_any ⟨#[t[k]]⟩ (by show (1 : Nat) ≤ 9223372036854775807; decide) wr
        rw [hko] at hval
        clear ho2 hk2
        generalize out.length = m at *
        go_wp2_with (first | (go_at_call 74; refine hval.mono ?_; clear hval; rintro e w3 ⟨rfl, rfl⟩) | (at_builtin; refine wpList_app rfl (.tmp 66) (.tmp 73) 119 119 rfl rfl rfl hrun ?_))
        go_roundg (t.size - (k + 1))
        case measure => have := HN.out.2; omega
        case rel => exact ⟨k + 1, _, _, by have := HN.out.2; omega, rfl, rfl, by simp, HN.out.1, HO.out.1, HO.out.2⟩
    · obtain rfl : k = t.size := by omega
      have hd : cutU (bytesOf t) = some out := by
        have := HR.out.1
        rw [← HC.out.1] at this
        exact this.done
      rw [HC.out.2.2] at hd
      obtain rfl := Option.some.inj hd
      obtain ⟨av, cv, hv, -⟩ := Own.form HR.out.2.1
      subst hv
      clear hd hlt hk
      go_wp2_with fail
      go_ret2
      exact ⟨_, _, rfl, HR.out.2.1, HR.out.2.2⟩
end Go.Proofs.YtfgdnakfikpmpaaGreatDoor
namespace Go.Proofs.YtfgdnakfikpmpaaGreatDoor
open Go Go.RowKit Go.Deep
def IdxB (w : World) (b : Bool) (e : Ending) (w' : World) : Prop := ∃ r : Int, e = .returned (.int .i64 r) ∧ decide (0 ≤ r) = b ∧ Keep No w w'
theorem any_take {α : Type} (l : List α) (q : α → Bool) (k : Nat) (hk : k < l.length) (h : (l.take k).any q = false) : (l.take (k + 1)).any q = q l[k] := by
  rw [List.take_succ_eq_append_getElem hk, List.any_append, h]; simp
theorem any_true {α : Type} (l : List α) (q : α → Bool) (k : Nat) (hk : k < l.length) (h : q l[k] = true) : l.any q = true := by
  rw [List.any_eq_true]; exact ⟨l[k], List.getElem_mem hk, h⟩
theorem slice_len {s : Sh} {w : World} {S : Nat → Prop} {a : Option Addr} {n c : Nat} {l : List s.T} (h : Rd (.slice s) w S [.slice a n c] l) : l.length ≤ 9223372036854775807 := by
  obtain ⟨a', c', e, h1, h2, -⟩ := h
  simp only [List.cons.injEq, Value.slice.injEq, and_true] at e
  rw [maxLen_is] at h2
  omega
theorem parts_get {w : World} {S : Nat → Prop} {a : Option Addr} {n c : Nat} {l : List Prt} (h : Rd (.slice partSh) w S [.slice a n c] l) (i : Nat) (hi : i < l.length) :
    ∃ b off, a = some ⟨b, off, none⟩ ∧ b < w.heap.size ∧ S b ∧ w.cell? ⟨b, off + i * 2, none⟩ = some (.string l[i].text) ∧ w.cell? ⟨b, off + i * 2 + 1, none⟩ = some (.int .i64 l[i].arg) ∧ l[i].text.size ≤ 9223372036854775807 := by
  obtain ⟨b, off, row, ha, -, hb, hS, -, hrow, hx⟩ := h.elem' i hi
  obtain ⟨_, _, rfl, ⟨rfl, w1⟩, _, _, rfl, ⟨rfl, w2⟩, rfl⟩ := hx
  rw [maxLen_is] at w1
  have p0 := (hrow 0 (by simp)).1
  have p1 := (hrow 1 (by simp)).1
  simp [Sh.size] at p0 p1
  exact ⟨b, off, ha, hb, hS, p0, p1, w1⟩
theorem partArg_fn (args : Array Value) (w : World) : (callFunc 97 args).run Tryz.prog w = .ok (.enter 97 args) w := by kernel_rfl
set_option maxRecDepth 10000 in
set_option maxHeartbeats 2000000 in
theorem partArg_idx (w : World) (S : Nat → Prop) (a : Option Addr) (c : Nat) (l : List Prt) (h : Rd (.slice partSh) w S [.slice a l.length c] l) (p : Nat) (q : Prt → Bool) (hcl : ∀ W, Keep No w W → ∀ i (hi : i < l.length), Calls Tryz.prog 97 #[.agg #[.string l[i].text, .int .i64 l[i].arg], .pointer (some ⟨p, 0, none⟩)] W (Says W (q l[i]))) :
    Calls Tryz.prog 139 #[.slice a l.length c, .func (.func 97) #[] #[.pointer (some ⟨p, 0, none⟩)]] w (IdxB w (l.any q)) := by
  have h63 : l.length ≤ 9223372036854775807 := slice_len h
  have hfn := partArg_fn
  have HH := Lib.hid (And.intro h hcl)
  clear h hcl
  go_enter Tryz.func139, Tryz.ntmps139
  go_wp2_with fail
  go_loopw [8] (fun i wr => ∃ k : Nat, k ≤ l.length ∧ i = .int .i64 k ∧ RowKit.Hid (Keep No w wr ∧ (l.take k).any q = false)) (fun i _ => l.length - (intOf i).toNat)
  case atStart => exact ⟨0, by omega, rfl, Keep.refl No w, by simp⟩
  case round =>
    obtain ⟨k, hk, rfl, HR⟩ := hrel
    by_cases hlt : k < l.length
    · have j1 : (k : Int) < l.length := by omega
      have j0 : (0 : Int) ≤ k := by omega
      have j3 : (k : Int) ≤ 9223372036854775806 := by omega
      obtain ⟨b, off, rfl, hb, -, c0, c1, hs⟩ := parts_get (HH.out.1.agree _ HR.out.1.agreeNo) k hlt
      have hcall := (HH.out.2 wr HR.out.1 k hlt).mono (R' := fun e w2 => e = .returned (.bool (q l[k])) ∧ RowKit.Hid (Keep No w w2)) (by
        rintro e w2 ⟨rfl, hk2⟩
        exact ⟨rfl, HR.out.1.trans hk2⟩)
      have hsucc := any_take l q k hlt HR.out.2
      have hbad := any_true l q k hlt
      cases hg : q l[k] with
      | false =>
        rw [hg] at hcall hsucc
        have HA := Lib.hid (And.intro hsucc hlt)
        clear hsucc hbad hg
        generalize l[k].text = x1 at *
        generalize l[k].arg = x2 at *
        clear hlt hk HR
        go_wp2_with (go_at_call 97; refine hcall.mono ?_; clear hcall; rintro e w2 ⟨rfl, HK⟩)
        go_roundw
        case rel => exact ⟨k + 1, by have := HA.out.2; omega, by simp, HK.out, HA.out.1⟩
        case measure => simp [intOf]; have := HA.out.2; omega
      | true =>
        rw [hg] at hcall
        have HA := Lib.hid (hbad hg)
        clear hsucc hbad hg
        generalize l[k].text = x1 at *
        generalize l[k].arg = x2 at *
        clear hlt hk HR
        go_wp2_with (go_at_call 97; refine hcall.mono ?_; clear hcall; rintro e w2 ⟨rfl, HK⟩)
        go_ret
        exact ⟨_, rfl, by rw [HA.out]; simp, HK.out⟩
    · have j1 : ¬ (k : Int) < l.length := by omega
      have ha := HR.out.2
      rw [List.take_of_length_le (by omega)] at ha
      have HA := Lib.hid (And.intro ha HR.out.1)
      clear ha hlt hk HR
      go_wp2_with fail
      go_ret
      exact ⟨_, rfl, by rw [HA.out.1]; decide, HA.out.2⟩
set_option maxRecDepth 10000 in
set_option maxHeartbeats 2000000 in
theorem partArg_any (w : World) (S : Nat → Prop) (a : Option Addr) (c : Nat) (l : List Prt) (h : Rd (.slice partSh) w S [.slice a l.length c] l) (p : Nat) (q : Prt → Bool) (hcl : ∀ W, Keep No w W → ∀ i (hi : i < l.length), Calls Tryz.prog 97 #[.agg #[.string l[i].text, .int .i64 l[i].arg], .pointer (some ⟨p, 0, none⟩)] W (Says W (q l[i]))) :
    Calls Tryz.prog 96 #[.slice a l.length c, .func (.func 97) #[] #[.pointer (some ⟨p, 0, none⟩)]] w (Says w (l.any q)) := by
  have hc := partArg_idx w S a c l h p q hcl
  clear h hcl
  go_enter Tryz.func96, Tryz.ntmps96
  go_wp2_with fail
  refine hc.mono ?_
  clear hc
  rintro e w2 ⟨r, rfl, hr, hk⟩
  have HK := Lib.hid (And.intro hr hk)
  clear hr hk
  go_wp2_with fail
  go_ret
  refine ⟨?_, HK.out.2⟩
  rw [← HK.out.1]
  rfl
set_option maxRecDepth 10000 in
set_option maxHeartbeats 2000000 in
theorem tooFar_any (t : ByteArray) (m n : Int) (w : World) (p : Nat) (hp : w.cell? ⟨p, 0, none⟩ = some (.int .i64 n)) :
    Calls Tryz.prog 97 #[.agg #[.string t, .int .i64 m], .pointer (some ⟨p, 0, none⟩)] w (Says w (decide (n ≤ m))) := by
  have K1 : Keep No w (w.alloc (.cells #[.string t, .int .i64 m] 127)) := (Keep.refl No w).alloc _
  have hpl : p < w.heap.size := World.block_lt_of_cell? _ _ hp
  have q1 := (K1.cell hpl (o := 0) (fun x => x)).trans hp
  have HK := Lib.hid K1
  clear K1
  go_enter Tryz.func97, Tryz.ntmps97
  go_wp2_with fail
  go_ret
  exact ⟨rfl, HK.out⟩
theorem below_any (n : Nat) (l : List Prt) : below n l = !(l.any fun x => decide ((n : Int) ≤ x.arg)) := by
  have h : ∀ x : Prt, (decide (x.arg < (n : Int))) = !decide ((n : Int) ≤ x.arg) := fun x => by
    by_cases h : x.arg < (n : Int)
    · rw [decide_eq_true h, decide_eq_false (by omega)]; rfl
    · rw [decide_eq_false h, decide_eq_true (by omega)]; rfl
  unfold below
  rw [List.not_any_eq_all_not]
  simp only [h]
set_option maxRecDepth 10000 in
set_option maxHeartbeats 2000000 in
theorem template_ok (t : ByteArray) (n : Nat) (ht : tmplOk t n = true) (w : World) :
    Calls Tryz.prog 48 #[.string t, .int .i64 n] w (Says w true) := by
  have K1 : Keep No w (w.alloc (.cells #[.int .i64 n] 3)) := (Keep.refl No w).alloc _
  have x1 := blk_new w (.cells #[.int .i64 n] 3)
  unfold tmplOk at ht
  cases hr : cutT t with
  | none => rw [hr] at ht; cases ht
  | some l =>
    rw [hr] at ht
    simp only at ht
    rw [below_any] at ht
    have hcut := cut_ok t l hr (w.alloc (.cells #[.int .i64 n] 3))
    have hcut' := hcut.mono (R' := fun e w2 => ∃ a c, e = .returned (.tuple #[.slice a l.length c, .bool true]) ∧ RowKit.Hid (Calls Tryz.prog 96 #[.slice a l.length c, .func (.func 97) #[] #[.pointer (some ⟨w.heap.size, 0, none⟩)]] w2 fun e w3 => e = .returned (.bool false) ∧ RowKit.Hid (Keep No w w3))) (by
      rintro e w2 ⟨a, c, rfl, ho, hk⟩
      refine ⟨a, c, rfl, ?_⟩
      have hcell := (hk.cell (blk_lt x1) (o := 0) (fun x => x)).trans (blk_cell x1 0)
      refine (partArg_any w2 _ a c l ho.rd w.heap.size (fun x => decide ((n : Int) ≤ x.arg)) fun W hW i hi => ?_).mono ?_
      · exact tooFar_any _ _ _ W _ ((hW.cell (World.block_lt_of_cell? _ _ hcell) (o := 0) (fun x => x)).trans hcell)
      · rintro e w3 ⟨rfl, hk3⟩
        exact ⟨by simpa using ht, (K1.trans hk).trans hk3⟩)
    clear hcut K1 x1 hr ht
    generalize l.length = m at *
    go_enter Tryz.func48, Tryz.ntmps48
    go_wp2_with (first | (go_at_call 70; refine hcut'.mono ?_; clear hcut'; rintro e w2 ⟨a, c, rfl, HC⟩) | (go_at_call 96; refine HC.out.mono ?_; clear HC; rintro e w3 ⟨rfl, HK⟩))
    go_ret
    exact ⟨rfl, HK.out⟩
end Go.Proofs.YtfgdnakfikpmpaaGreatDoor
