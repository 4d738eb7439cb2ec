/-
  Parts of what is proved for this claim; each declaration is one of the seat's texts.
-/
import Derived.Test.YtfgdnakfikpmpaaGreatDoorFMG
set_option linter.unusedVariables false
set_option linter.unusedSimpArgs false
namespace Go.Proofs.YtfgdnakfikpmpaaGreatDoor
open Go Go.RowKit Go.Deep
def frontD (n : Nat) : List UInt8 := if n < 10 then [] else Lib.decDigits (n / 10)
def lastD (n : Nat) : UInt8 := UInt8.ofNat (48 + n % 10)
theorem dec_front (n : Nat) : Lib.decDigits n = frontD n ++ [lastD n] := by
  rw [Lib.decDigits]
  unfold frontD lastD
  split
  · rename_i h; rw [Nat.mod_eq_of_lt h]; rfl
  · rfl
theorem front_next {n : Nat} (h : 10 ≤ n) : frontD n = frontD (n / 10) ++ [lastD (n / 10)] := by
  rw [← dec_front, frontD, if_neg (by omega)]
theorem enc_digit (d : Nat) (h : d < 10) : Utf8.encode (48 + (d : Int)) = ⟨#[UInt8.ofNat (48 + d)]⟩ := by
  have : ∀ d : Fin 10, Utf8.encode (48 + (d.val : Int)) = ⟨#[UInt8.ofNat (48 + d.val)]⟩ := by decide +kernel
  exact this ⟨d, h⟩
theorem wrap_quo {m : Nat} (h : m < 18446744073709551616) : IntKind.u64.wrap ((m : Int) / 10) = ((m / 10 : Nat) : Int) := by
  unfold IntKind.wrap
  simp only [IntKind.signed, IntKind.bits, Bool.false_and, Bool.false_eq_true, if_false]
  omega
theorem enc_last (m : Nat) : Utf8.encode (wrap32 (wrap64 (48 + wrap64 ((m : Int).tmod 10)))) = ⟨#[lastD m]⟩ := by
  have e : (m : Int).tmod 10 = ((m % 10 : Nat) : Int) := by rw [Int.tmod_eq_emod_of_nonneg (by omega)]; omega
  have e2 : wrap32 (wrap64 (48 + wrap64 ((m % 10 : Nat) : Int))) = 48 + ((m % 10 : Nat) : Int) := by simp only [wrap32, wrap64]; omega
  rw [e, e2, enc_digit _ (by omega)]
  rfl
theorem str_app (x : UInt8) (l : List UInt8) : (⟨#[x]⟩ : ByteArray) ++ ⟨l.toArray⟩ = ⟨(x :: l).toArray⟩ := by
  apply ByteArray.ext
  simp
set_option maxRecDepth 10000 in
theorem rdigits_any (n : Nat) (hn : n < 18446744073709551616) (w : World) : Calls Tryz.prog 120 #[.int .u64 n] w fun e w' => e = .returned (.string ⟨(Lib.decDigits n).toArray⟩) ∧ w' = w := by
  have HN := Lib.hid hn
  clear hn
  go_enter Tryz.func120, Tryz.ntmps120
  go_wp2_with fail
  go_loopg [0, 3] n (fun g x y wr => ∃ (m : Nat) (l : List UInt8), x = .int .u64 m ∧ y = .string ⟨l.toArray⟩ ∧ g = m ∧ wr = w ∧ RowKit.Hid (Lib.decDigits n = frontD m ++ l ∧ m < 18446744073709551616))
  case atStart =>
    refine ⟨n, [lastD n], rfl, ?_, rfl, rfl, dec_front n, HN.out⟩
    have e : ((n : Int) % 10) = ((n % 10 : Nat) : Int) := by omega
    rw [e, enc_digit _ (by omega)]
    rfl
  case round =>
    obtain ⟨m, l, rfl, rfl, hm, rfl, HR⟩ := hrel
    by_cases h : 10 ≤ m
    · have j1 : (10 : Int) ≤ m := by omega
      have HH := Lib.hid (And.intro h hm)
      clear h hm
      go_wp2_with fail
      · rename_i hh
        exfalso
        rw [wrap_quo HR.out.2, enc_last] at hh
        have h1 := congrArg List.length HR.out.1
        have h2 := dec_len n HN.out
        have h3 : (⟨#[lastD (m / 10)]⟩ : ByteArray).size = 1 := rfl
        rw [List.length_append] at h1
        omega
      go_roundg (m / 10)
      case measure => have := HH.out; omega
      case rel =>
        rw [wrap_quo HR.out.2, enc_last, str_app]
        refine ⟨m / 10, lastD (m / 10) :: l, rfl, rfl, rfl, rfl, ?_, ?_⟩
        · rw [HR.out.1, front_next HH.out.1]; simp
        · have := HR.out.2; omega
    · have j1 : ¬ (10 : Int) ≤ m := by omega
      have HH := Lib.hid h
      clear h hm
      go_wp2_with fail
      go_ret
      refine ⟨?_, rfl⟩
      have := HR.out.1
      rw [frontD, if_pos (by have := HH.out; omega)] at this
      rw [this]
      rfl
theorem rdigits_at (x : Int) (n : Nat) (e : x = n) (hn : n < 18446744073709551616) (w : World) : Calls Tryz.prog 120 #[.int .u64 x] w fun e w' => e = .returned (.string ⟨(Lib.decDigits n).toArray⟩) ∧ w' = w := by
  subst e; exact rdigits_any n hn w
set_option maxRecDepth 10000 in
theorem rDigits_any (n : Int) (h0 : -9223372036854775808 ≤ n) (h1 : n ≤ 9223372036854775807) (w : World) : Calls Tryz.prog 78 #[.int .i64 n] w fun e w' => e = .returned (.string ⟨(Lib.itoa n).toArray⟩) ∧ w' = w := by
  have HN := Lib.hid (And.intro h0 h1)
  clear h0 h1
  by_cases h : 0 ≤ n
  · have e : Lib.itoa n = Lib.decDigits n.toNat := by unfold Lib.itoa; rw [if_neg (by omega)]
    rw [e]
    have e3 : IntKind.u64.wrap n = (n.toNat : Int) := by
      unfold IntKind.wrap
      simp only [IntKind.signed, IntKind.bits, Bool.false_and, Bool.false_eq_true, if_false]
      have := HN.out
      omega
    have hd := rdigits_at (IntKind.u64.wrap n) n.toNat e3 (by have := HN.out; omega) w
    clear e3 e
    go_enter Tryz.func78, Tryz.ntmps78
    go_wp2_with (go_at_call 120; refine hd.mono ?_; rintro e w2 ⟨rfl, rfl⟩)
    go_ret
    exact ⟨rfl, rfl⟩
  · have e : Lib.itoa n = 45 :: Lib.decDigits n.natAbs := by unfold Lib.itoa; rw [if_pos (by omega)]
    rw [e, ← str_app]
    have hc : ¬ 9223372036854775807 < 1 + (Lib.decDigits n.natAbs).length := by have := dec_len n.natAbs (by have := HN.out; omega); omega
    have e3 : IntKind.u64.wrap (IntKind.u64.wrap (wrap64 (-wrap64 (n + 1))) + 1) = (n.natAbs : Int) := by
      have h9 : wrap64 (-wrap64 (n + 1)) = -(n + 1) := by have := HN.out; simp only [wrap64]; omega
      rw [h9]
      unfold IntKind.wrap
      simp only [IntKind.signed, IntKind.bits, Bool.false_and, Bool.false_eq_true, if_false]
      have := HN.out
      omega
    have hd := rdigits_at _ n.natAbs e3 (by have := HN.out; omega) w
    have h' : n < 0 := by omega
    clear e3 e h
    go_enter Tryz.func78, Tryz.ntmps78
    go_wp2_with (go_at_call 120; refine hd.mono ?_; rintro e w2 ⟨rfl, rfl⟩)
    go_ret
    exact ⟨rfl, rfl⟩
end Go.Proofs.YtfgdnakfikpmpaaGreatDoor
namespace Go.Proofs.YtfgdnakfikpmpaaGreatDoor
open Go Go.RowKit Go.Deep
def keyX : Option (List UInt8) → ByteArray × Int
  | none => (noText, 82)
  | some b => if keyOk ⟨b.toArray⟩ then (⟨b.toArray⟩, 0) else (noText, 30)
theorem keyX_no {b : List UInt8} (h : keyOk ⟨b.toArray⟩ = false) : keyX (some b) = (noText, 30) := by unfold keyX; simp [h]
theorem keyX_yes {b : List UInt8} (h : keyOk ⟨b.toArray⟩ = true) : keyX (some b) = (⟨b.toArray⟩, 0) := by unfold keyX; simp [h]
def KeyX (w : World) (r : ByteArray × Int) (e : Ending) (w' : World) : Prop := e = .returned (.tuple #[.string r.1, .int .i64 r.2]) ∧ Keep No w w'
set_option maxRecDepth 10000 in
set_option maxHeartbeats 4000000 in
theorem key_E (t : ByteArray) (l : List Prt) (args : List Val) (hl : cutT t = some l) (hb : below args.length l = true) (w : World) (S : Nat → Prop) (a : Option Addr) (c : Nat)
    (h : Rd (.slice valueSh) w S [.slice a args.length c] args) (ht : Tab w) :
    Calls Tryz.prog 25 #[.string t, .slice a args.length c] w (KeyX w (keyX (keyLs args l))) := by
  have hcut := (cut_ok t l hl w).mono (R' := fun e w2 => ∃ a2 c2, e = .returned (.tuple #[.slice a2 l.length c2, .bool true]) ∧ RowKit.Hid (OwnP w.heap.size w2 (.slice a2 l.length c2) l ∧ Keep No w w2)) (by
    rintro e w2 ⟨a2, c2, rfl, h1, h2⟩
    exact ⟨a2, c2, rfl, h1, h2⟩)
  have htm : tmplOk t args.length = true := by unfold tmplOk; rw [hl]; exact hb
  have harg := cutT_arg hl
  have HX := Lib.hid (And.intro h (And.intro ht (And.intro harg hb)))
  have HT : RowKit.Hid (∀ W, Calls Tryz.prog 48 #[.string t, .int .i64 args.length] W fun e w2 => e = .returned (.bool true) ∧ RowKit.Hid (Keep No W w2)) := fun W => template_ok t args.length htm W
  have HL := Lib.hid (And.intro trivial harg.2)
  have hx63 := slice_len h
  clear h ht harg hb htm hl
  go_enter Tryz.func25, Tryz.ntmps25
  go_wp2_with (first | (go_at_call 70; refine hcut.mono ?_; clear hcut; rintro e w2 ⟨a2, c2, rfl, H2⟩) | (go_at_call 48; refine (HT.out _).mono ?_; rintro e w3 ⟨rfl, HK3⟩))
  have K3 := Lib.hid (H2.out.2.trans HK3.out)
  have hrd2 : Rd (.slice partSh) w3 (Fr w.heap.size w2.heap.size) [.slice a2 l.length c2] l := H2.out.1.rd.agree (.slice partSh) HK3.out.agreeNo
  have HP := Lib.hid hrd2
  have HB0 := Lib.hid (bld_new w3)
  clear hrd2 H2 HK3 HT
  have K4 := Lib.hid ((Keep.refl No w3).alloc (.cells #[.pointer none, .slice none 0 0] 125))
  generalize w3.alloc (.cells #[.pointer none, .slice none 0 0] 125) = w4 at *
  obtain ⟨B, hB⟩ : ∃ B, B = w3.heap.size := ⟨_, rfl⟩
  rw [← hB] at HB0 ⊢
  have HBB := Lib.hid hB
  clear hB
  go_loopg [28] l.length (fun g i wr => ∃ (k : Nat) (acc : List UInt8), k ≤ l.length ∧ g = l.length - k ∧ i = .int .i64 k ∧ RowKit.Hid (KeyTo args l k acc ∧ Bld B B acc wr ∧ Keep No w3 wr))
  case atStart => exact ⟨0, [], by omega, by omega, rfl, ⟨by simp, Nat.zero_le _⟩, HB0.out, K4.out⟩
  case round =>
    obtain ⟨k, acc, hk, rfl, rfl, HR⟩ := hrel
    by_cases hlt : k < l.length
    · have j1 : (k : Int) < l.length := by omega
      have j0 : (0 : Int) ≤ k := by omega
      have j3 : (k : Int) ≤ 64 := by have := HL.out.2; omega
      obtain ⟨bp, fp, rfl, -, -, p0, p1, ps⟩ := parts_get (HP.out.agree _ HR.out.2.2.agreeNo) k hlt
      have hpa := HX.out.2.2.1.1 l[k] (List.getElem_mem hlt)
      have hbe : l[k].arg < args.length := by
        have := HX.out.2.2.2
        unfold below at this
        rw [List.all_eq_true] at this
        exact of_decide_eq_true (this _ (List.getElem_mem hlt))
      have hacc : acc.length ≤ 4096 := by have := HR.out.1.2; have := HL.out.2; omega
      have hBw : B ≤ wr.heap.size := by rw [HBB.out]; exact HR.out.2.2.size
      by_cases hn : l[k].arg < 0
      · have hnext := HR.out.1.text hlt hn hpa.2.2
        have hwr := (bldWrite B B acc l[k].text (wr.alloc (.cells #[.string l[k].text, .int .i64 l[k].arg] 127)) (HR.out.2.1.keep ((Keep.refl No wr).alloc _)) (by have := hpa.2.2; omega) (by simp only [World.size_alloc]; omega)).mono (R' := fun e w6 => ∃ v, e = .returned v ∧ RowKit.Hid (Bld B B (acc ++ l[k].text.data.toList) w6 ∧ Keep No w3 w6)) (by
          rintro e w6 ⟨⟨v, rfl⟩, hb6, hk6⟩
          exact ⟨v, rfl, hb6, (HR.out.2.2.alloc _).thenUp (by rw [HBB.out]; exact Nat.le_refl _) (Keep.ofB hk6)⟩)
        have HS := Lib.hid (And.intro hlt hnext)
        clear hnext hbe hpa ps hBw hacc
        generalize l[k].text = x1 at *
        generalize l[k].arg = x2 at *
        clear hlt hk
        go_wp2_with (go_at_call 71; refine hwr.mono ?_; clear hwr; rintro e w6 ⟨v, rfl, H6⟩)
        go_roundg (l.length - (k + 1))
        case measure => have := HS.out.1; omega
        case rel => exact ⟨k + 1, _, by have := HS.out.1; omega, rfl, by simp, HS.out.2, H6.out.1, H6.out.2⟩
      · obtain ⟨j, hj⟩ : ∃ j : Nat, l[k].arg = j := ⟨l[k].arg.toNat, by omega⟩
        have hjl : j < args.length := by omega
        have i1 : (j : Int) < args.length := by omega
        have i0 : (0 : Int) ≤ j := by omega
        have i2 : (j : Int) ≤ 9 := by omega
        have i3 : ¬ (j : Int) < 0 := by omega
        obtain ⟨bv, fv, rfl, hbv, -, s0, s1, s2, hI, hs⟩ := vals_get ((HX.out.1.agree _ K3.out.agreeNo).agree _ HR.out.2.2.agreeNo) j hjl
        have ka0 := ((Keep.refl No wr).alloc (.cells #[.string l[k].text, .int .i64 j] 127))
        cases hgj : givenV args[j] with
        | false =>
          rw [hj] at p1
          have s0a := (ka0.cell hbv (o := fv + j * 3) (fun x => x)).trans s0
          have s1a := (ka0.cell hbv (o := fv + j * 3 + 1) (fun x => x)).trans s1
          have s2a := (ka0.cell hbv (o := fv + j * 3 + 2) (fun x => x)).trans s2
          have kb := ka0.alloc (.cells #[.int .i64 args[j].kind, .int .i64 args[j].num, .string args[j].text] 47)
          obtain ⟨vo, hvo⟩ : ∃ vo, args[j].ok = vo := ⟨_, rfl⟩
          have hv := (Valid_any args[j].kind args[j].num args[j].text hs ((wr.alloc (.cells #[.string l[k].text, .int .i64 j] 127)).alloc (.cells #[.int .i64 args[j].kind, .int .i64 args[j].num, .string args[j].text] 47))).mono (R' := fun e w5 => e = .returned (.bool vo) ∧ w5.heap[wr.heap.size + 1]? = some (.cells #[.int .i64 args[j].kind, .int .i64 args[j].num, .string args[j].text] 47 (0, 0)) ∧ RowKit.Hid (Keep No wr w5)) (by
            rintro e w5 ⟨rfl, hk5⟩
            refine ⟨by rw [show (mkVal args[j].kind args[j].num args[j].text).ok = vo from hvo], ?_, kb.trans hk5⟩
            have := hk5.blk (blk_new (wr.alloc (.cells #[.string l[k].text, .int .i64 j] 127)) (.cells #[.int .i64 args[j].kind, .int .i64 args[j].num, .string args[j].text] 47)) (fun x => x)
            simpa using this)
          have hbadv : vo = false ∨ (vo = true ∧ args[j].kind = 0) := by
            unfold givenV at hgj
            rw [hvo] at hgj
            cases vo with
            | false => exact .inl rfl
            | true => exact .inr ⟨rfl, by simpa using hgj⟩
          have hnone : keyLs args l = none := by
            have hget : args.getD l[k].arg.toNat val0 = args[j] := by rw [hj]; simp [List.getD, hjl]
            rw [HR.out.1.1, List.drop_eq_getElem_cons hlt]
            have : keyLs args (l[k] :: l.drop (k + 1)) = none := by
              rw [keyLs, if_neg (by omega), if_pos (by rw [hget]; exact hgj)]
            rw [this]; rfl
          have HNN := Lib.hid hnone
          have HFK := Lib.hid (K3.out.trans HR.out.2.2)
          clear hnone hgj hvo ka0 kb hbe hpa ps hBw hacc hn hI hs HR HX HL HP HBB
          generalize args[j].kind = y1 at *
          generalize args[j].num = y2 at *
          generalize args[j].text = y3 at *
          generalize l[k].text = x1 at *
          generalize l[k].arg = x2 at *
          clear hlt hk hj hjl
          unfold KeyX
          rw [HNN.out]
          rcases hbadv with rfl | ⟨rfl, rfl⟩
          · go_wp2_with (go_at_call 72; refine hv.mono ?_; clear hv; rintro e w5 ⟨rfl, z5, HK5⟩)
            go_ret2
            exact ⟨rfl, HFK.out.trans HK5.out⟩
          · go_wp2_with (go_at_call 72; refine hv.mono ?_; clear hv; rintro e w5 ⟨rfl, z5, HK5⟩; have z6 := blk_cell z5)
            go_ret2
            exact ⟨rfl, HFK.out.trans HK5.out⟩
        | true =>
        clear ka0
        obtain ⟨hok, hk0, hkk⟩ := given_kinds hgj
        have hlen : (argText args[j]).length ≤ 64 := by
          unfold argText
          rcases hkk with h1 | h1
          · rw [if_pos h1]; have := itoa_len args[j].num hI.n0 hI.n1; omega
          · rw [if_neg h1.1]
            have : args[j].text.data.toList.length = args[j].text.size := by simp
            omega
        have hnext := HR.out.1.arg hlt hj hjl hgj hlen
        rw [hj] at p1
        have ka := ((Keep.refl No wr).alloc (.cells #[.string l[k].text, .int .i64 j] 127))
        have s0a := (ka.cell hbv (o := fv + j * 3) (fun x => x)).trans s0
        have s1a := (ka.cell hbv (o := fv + j * 3 + 1) (fun x => x)).trans s1
        have s2a := (ka.cell hbv (o := fv + j * 3 + 2) (fun x => x)).trans s2
        have kb := ka.alloc (.cells #[.int .i64 args[j].kind, .int .i64 args[j].num, .string args[j].text] 47)
        have hv := (Valid_any args[j].kind args[j].num args[j].text hs ((wr.alloc (.cells #[.string l[k].text, .int .i64 j] 127)).alloc (.cells #[.int .i64 args[j].kind, .int .i64 args[j].num, .string args[j].text] 47))).mono (R' := fun e w5 => e = .returned (.bool true) ∧ w5.heap[wr.heap.size + 1]? = some (.cells #[.int .i64 args[j].kind, .int .i64 args[j].num, .string args[j].text] 47 (0, 0)) ∧ RowKit.Hid (Keep No wr w5)) (by
          rintro e w5 ⟨rfl, hk5⟩
          refine ⟨by rw [show (mkVal args[j].kind args[j].num args[j].text).ok = true from hok], ?_, kb.trans hk5⟩
          have := hk5.blk (blk_new (wr.alloc (.cells #[.string l[k].text, .int .i64 j] 127)) (.cells #[.int .i64 args[j].kind, .int .i64 args[j].num, .string args[j].text] 47)) (fun x => x)
          simpa using this)
        have HDI : RowKit.Hid (∀ W, Keep No wr W → Calls Tryz.prog 73 #[.int .i64 args[j].num] W fun e w6 => e = .returned (.string ⟨(Lib.itoa args[j].num).toArray⟩) ∧ RowKit.Hid (Keep No wr w6)) := fun W hW =>
          (digits_any args[j].num hI.n0 hI.n1 W (((HX.out.2.1.keep K3.out).keep HR.out.2.2).keep hW)).mono (by rintro e w6 ⟨rfl, hk6⟩; exact ⟨rfl, hW.trans hk6⟩)
        have HWS : RowKit.Hid (∀ W (x : ByteArray), Keep No wr W → x.size ≤ 64 → Calls Tryz.prog 71 #[.pointer (some ⟨B, 0, none⟩), .string x] W fun e w6 => ∃ v, e = .returned v ∧ RowKit.Hid (Bld B B (acc ++ x.data.toList) w6 ∧ Keep No w3 w6)) := fun W x hW hx => by
          refine (bldWrite B B acc x W (HR.out.2.1.keep hW) (by omega) (Nat.le_trans hBw hW.size)).mono ?_
          rintro e w6 ⟨⟨v, rfl⟩, hb6, hk6⟩
          exact ⟨v, rfl, hb6, (HR.out.2.2.trans hW).thenUp (by rw [HBB.out]; exact Nat.le_refl _) (Keep.ofB hk6)⟩
        have HS := Lib.hid (And.intro hlt (And.intro hnext hlen))
        clear hnext hbe hpa ps hBw hacc ka kb hgj hok hlen hn hI hs
        have hk0' : (args[j].kind == 0) = false := by simpa using hk0
        unfold argText at HS
        rcases hkk with h1 | h1
        · rw [if_pos h1] at HS
          generalize args[j].kind = y1 at *
          generalize args[j].num = y2 at *
          generalize args[j].text = y3 at *
          generalize l[k].text = x1 at *
          generalize l[k].arg = x2 at *
          subst h1
          clear hlt hk hj hjl hk0 hk0'
          go_wp2_with (first | (go_at_call 72; refine hv.mono ?_; clear hv; rintro e w5 ⟨rfl, z5, HK5⟩; have z6 := blk_cell z5) | (go_at_call 73; refine (HDI.out _ HK5.out).mono ?_; rintro e w6 ⟨rfl, HK6⟩) | (go_at_call 71; refine (HWS.out _ _ HK6.out (by have := HS.out.2.2; simpa [ByteArray.size] using this)).mono ?_; rintro e w7 ⟨v7, rfl, H7⟩))
          go_roundg (l.length - (k + 1))
          case measure => have := HS.out.1; omega
          case rel => exact ⟨k + 1, _, by have := HS.out.1; omega, rfl, by simp, HS.out.2.1, by simpa using H7.out.1, H7.out.2⟩
        · rw [if_neg h1.1] at HS
          have h1' : (args[j].kind == 1) = false := by simpa using h1.1
          have hx := h1.2
          generalize args[j].kind = y1 at *
          generalize args[j].num = y2 at *
          generalize args[j].text = y3 at *
          generalize l[k].text = x1 at *
          generalize l[k].arg = x2 at *
          clear hlt hk hj hjl hk0 h1
          go_wp2_with (first | (go_at_call 72; refine hv.mono ?_; clear hv; rintro e w5 ⟨rfl, z5, HK5⟩; have z6 := blk_cell z5) | (go_at_call 71; refine (HWS.out _ _ HK5.out hx).mono ?_; rintro e w7 ⟨v7, rfl, H7⟩))
          go_roundg (l.length - (k + 1))
          case measure => have := HS.out.1; omega
          case rel => exact ⟨k + 1, _, by have := HS.out.1; omega, rfl, by simp, HS.out.2.1, H7.out.1, H7.out.2⟩
    · obtain rfl : k = l.length := by omega
      have hd : keyLs args l = some acc := by
        have := HR.out.1.1
        rw [List.drop_length] at this
        simpa [keyLs] using this
      have HD := Lib.hid hd
      have j1 : ¬ (l.length : Int) < l.length := by omega
      have hacc : acc.length ≤ 4096 := by have := HR.out.1.2; have := HL.out.2; omega
      have HS0 : RowKit.Hid (∀ W, Bld B B acc W → Keep No w3 W → Calls Tryz.prog 75 #[.pointer (some ⟨B, 0, none⟩)] W fun e w6 => e = .returned (.string ⟨acc.toArray⟩) ∧ RowKit.Hid (Bld B B acc w6 ∧ Keep No w3 w6)) := fun W hbW hW => by
        refine (bldString B B acc W hbW (by rw [HBB.out]; exact hW.size)).mono ?_
        rintro e w6 ⟨rfl, hb6, hk6⟩
        exact ⟨rfl, hb6, hW.thenUp (by rw [HBB.out]; exact Nat.le_refl _) (Keep.ofB hk6)⟩
      have hko := fun W => keyOk_any ⟨acc.toArray⟩ (by show acc.toArray.size ≤ _; simp; omega) W
      have hfin : ∀ W, Keep No w3 W → Keep No w W := fun W hW => K3.out.trans hW
      have HF := Lib.hid hfin
      clear hfin hd hlt hk hacc
      unfold KeyX
      rw [HD.out]
      unfold keyX
      simp only
      cases hkk : keyOk ⟨acc.toArray⟩ with
      | false =>
        rw [hkk] at hko
        simp only [Bool.false_eq_true, if_false]
        go_wp2_with (first | (go_at_call 75; refine (HS0.out _ HR.out.2.1 HR.out.2.2).mono ?_; rintro e w5 ⟨rfl, H5⟩) | (go_at_call 74; refine (hko _).mono ?_; rintro e w6 ⟨rfl, rfl⟩))
        go_ret2
        exact ⟨by rw [HD.out, keyX_no hkk]; rfl, HF.out _ H5.out.2⟩
      | true =>
        rw [hkk] at hko
        simp only [if_true]
        go_upto_region 19 with (first | (go_at_call 75; refine (HS0.out _ HR.out.2.1 HR.out.2.2).mono ?_; rintro e w5 ⟨rfl, H5⟩) | (go_at_call 74; refine (hko _).mono ?_; rintro e w6 ⟨rfl, rfl⟩))
        go_wp2_with (go_at_call 75; refine (HS0.out _ H5.out.1 H5.out.2).mono ?_; rintro e w7 ⟨rfl, H7⟩)
        go_ret2
        exact ⟨by rw [HD.out, keyX_yes hkk]; rfl, HF.out _ H7.out.2⟩
theorem suits_keyT {t : ByteArray} {args : List Val} {l : List Prt} (hl : cutT t = some l) (hb : below args.length l = true) : keyT t args = keyX (keyLs args l) := by
  unfold keyT
  rw [hl]
  simp only
  rw [if_neg (by rw [hb]; simp)]
  cases keyLs args l <;> rfl
set_option maxRecDepth 10000 in
set_option maxHeartbeats 2000000 in
theorem keyE_any (t : ByteArray) (args : List Val) (w : World) (S : Nat → Prop) (a : Option Addr) (c : Nat) (h : Rd (.slice valueSh) w S [.slice a args.length c] args) (ht : Tab w) :
    Calls Tryz.prog 25 #[.string t, .slice a args.length c] w (KeyX w (keyT t args)) := by
  cases hl : cutT t with
  | none =>
    have hk : keyT t args = (noText, 81) := by unfold keyT; rw [hl]
    rw [hk]
    have hc := cut_none t hl w
    clear h ht hl hk
    go_enter Tryz.func25, Tryz.ntmps25
    go_wp2_with (go_at_call 70; refine hc.mono ?_; clear hc; rintro e w2 ⟨rfl, H2⟩)
    go_ret2
    exact ⟨rfl, H2.out⟩
  | some l =>
    by_cases hb : below args.length l = true
    · rw [suits_keyT hl hb]
      exact key_E t l args hl hb w S a c h ht
    · have hbf : below args.length l = false := by simpa using hb
      have hk : keyT t args = (noText, 81) := by unfold keyT; rw [hl]; simp only; rw [if_pos hbf]
      rw [hk]
      have hc := (cut_ok t l hl w).mono (R' := fun e w2 => ∃ a2 c2, e = .returned (.tuple #[.slice a2 l.length c2, .bool true]) ∧ RowKit.Hid (Keep No w w2)) (by
        rintro e w2 ⟨a2, c2, rfl, h1, h2⟩
        exact ⟨a2, c2, rfl, h2⟩)
      have htm : tmplOk t args.length = false := by unfold tmplOk; rw [hl]; exact hbf
      have HT : RowKit.Hid (∀ W, Calls Tryz.prog 48 #[.string t, .int .i64 args.length] W fun e w2 => e = .returned (.bool false) ∧ RowKit.Hid (Keep No W w2)) := fun W => (template_any t args.length W).mono (by rintro e w2 ⟨rfl, hk⟩; exact ⟨by rw [htm], hk⟩)
      have hx63 := slice_len h
      clear h ht hl hk hb hbf htm
      go_enter Tryz.func25, Tryz.ntmps25
      go_wp2_with (first | (go_at_call 70; refine hc.mono ?_; clear hc; rintro e w2 ⟨a2, c2, rfl, H2⟩) | (go_at_call 48; refine (HT.out _).mono ?_; rintro e w3 ⟨rfl, HK3⟩))
      go_ret2
      exact ⟨rfl, H2.out.trans HK3.out⟩
end Go.Proofs.YtfgdnakfikpmpaaGreatDoor
namespace Go.Proofs.YtfgdnakfikpmpaaGreatDoor
open Go Go.RowKit Go.Deep
theorem suit_bad (g1 : Bool) (y0 y1 : Int) (bad : Bool) (hb : bad = (!g1 || decide (y1 = 0) || (decide (y0 ≠ 3) && decide (y0 ≠ y1)))) : (bad = false → g1 = true ∧ y1 ≠ 0 ∧ (y0 = y1 ∨ y0 = 3)) ∧ (bad = true → (g1 && decide (y1 ≠ 0) && (decide (y0 = y1) || decide (y0 = 3))) = false) := by
  subst hb
  cases g1 <;> by_cases e1 : y1 = 0 <;> by_cases e2 : y0 = 3 <;> by_cases e3 : y0 = y1 <;> simp_all
set_option maxRecDepth 10000 in
set_option maxHeartbeats 4000000 in
theorem rSuits_any (w : World) (S T : Nat → Prop) (m0 m2 m3 m4 m5 m6 m7 : Value) (o : m0.oneCell' = true ∧ m2.oneCell' = true ∧ m3.oneCell' = true ∧ m4.oneCell' = true ∧ m5.oneCell' = true ∧ m6.oneCell' = true ∧ m7.oneCell' = true) (a1 a2 : Option Addr) (c1 c2 : Nat) (ks : List Int) (args : List Val) (h1 : Rd (.slice (.int .i64)) w S [.slice a1 ks.length c1] ks) (h2 : Rd (.slice valueSh) w T [.slice a2 args.length c2] args) :
    Calls Tryz.prog 29 #[.agg #[m0, .slice a1 ks.length c1, m2, m3, m4, m5, m6, m7], .slice a2 args.length c2] w (GivesI w (if suitsB ks args then 0 else 82)) := by
  obtain ⟨o0, o2, o3, o4, o5, o6, o7⟩ := o
  obtain ⟨res, hres⟩ : ∃ res : Int, res = (if suitsB ks args then 0 else 82) := ⟨_, rfl⟩
  rw [← hres]
  have HRES := Lib.hid hres
  clear hres
  have hl63 := slice_len h2
  have K1 := (Keep.refl No w).alloc (.cells #[m0, .slice a1 ks.length c1, m2, m3, m4, m5, m6, m7] 29)
  have x1 := blk_new w (.cells #[m0, .slice a1 ks.length c1, m2, m3, m4, m5, m6, m7] 29)
  have q1 := blk_cell x1
  by_cases hl : args.length = ks.length
  · have e0 : ((args.length : Int) != (ks.length : Int)) = false := by simp; exact_mod_cast hl
    have HX := Lib.hid (And.intro K1 (And.intro x1 (And.intro hl (And.intro h1 h2))))
    clear K1 x1 hl h1 h2
    go_enter Tryz.func29, Tryz.ntmps29
    go_upto_region 3 with fail
    generalize (w.alloc (.cells #[m0, .slice a1 ks.length c1, m2, m3, m4, m5, m6, m7] 29)) = wa at *
    clear q1
    go_wp2_with fail
    go_loopg [5] args.length (fun g i wr => ∃ k : Nat, k ≤ args.length ∧ g = args.length - k ∧ i = .int .i64 k ∧ RowKit.Hid (Keep No wa wr ∧ suitTo ks args k))
    case atStart => exact ⟨0, by omega, by omega, rfl, Keep.refl No _, fun i _ _ h => absurd h (Nat.not_lt_zero _)⟩
    case round =>
      obtain ⟨k, hk, rfl, rfl, HR⟩ := hrel
      by_cases hlt : k < args.length
      · have hlk : k < ks.length := by rw [← HX.out.2.2.1]; exact hlt
        have j1 : (k : Int) < args.length := by omega
        have j2 : (k : Int) < ks.length := by omega
        have j0 : (0 : Int) ≤ k := by omega
        have j3 : (k : Int) ≤ 9223372036854775806 := by omega
        have kw := (HX.out.1.trans HR.out.1).drew
        obtain ⟨b2, f2, rfl, hb2, -, s0, s1, s2, hI, hs⟩ := vals_get (HX.out.2.2.2.2.agree _ kw.agreeNo) k hlt
        obtain ⟨b1, f1, rfl, hb1, -, r0, -⟩ := ints_get (HX.out.2.2.2.1.agree _ kw.agreeNo) k hlk
        have x2 := HR.out.1.drew.blk HX.out.2.1 (fun x => x)
        have hv : RowKit.Hid (∀ W, Keep No wr.drew W → Calls Tryz.prog 77 #[.agg #[.int .i64 args[k].kind, .int .i64 args[k].num, .string args[k].text]] W fun e w3 => e = .returned (.bool args[k].ok) ∧ w3.cell? ⟨b2, f2 + k * 3, none⟩ = some (.int .i64 args[k].kind) ∧ w3.cell? ⟨b1, f1 + k, none⟩ = some (.int .i64 ks[k]) ∧ w3.heap[w.heap.size]? = some (.cells #[m0, .slice (some ⟨b1, f1, none⟩) ks.length c1, m2, m3, m4, m5, m6, m7] 29 (0, 0)) ∧ RowKit.Hid (Keep No wr w3)) := fun W hW => by
          refine (rValid_any args[k].kind args[k].num args[k].text hs W).mono ?_
          rintro e w3 ⟨rfl, hk3⟩
          have k3 := hW.trans hk3
          exact ⟨rfl, (k3.cell hb2 (o := f2 + k * 3) (fun x => x)).trans s0, (k3.cell hb1 (o := f1 + k) (fun x => x)).trans r0, k3.blk x2 (fun x => x), (Keep.refl No wr).drew.trans k3⟩
        have hsb : suitB ks[k] args[k] = (args[k].ok && decide (args[k].kind ≠ 0) && (decide (ks[k] = args[k].kind) || decide (ks[k] = 3))) := rfl
        have hyes : suitB ks[k] args[k] = true → suitTo ks args (k + 1) := fun h i h1 h2 hi => by
          by_cases e : i = k
          · subst e; exact h
          · exact HR.out.2 i h1 h2 (by omega)
        have hno : suitB ks[k] args[k] = false → suitsB ks args = false := fun h => suits_no hlk hlt h
        rw [hsb] at hyes hno
        have HS := Lib.hid (And.intro hlt (And.intro hyes hno))
        clear x2 kw hI hyes hno hb1 hb2 hsb hs r0
        generalize args[k].ok = g1 at *
        generalize args[k].kind = y1 at *
        generalize args[k].num = y2 at *
        generalize args[k].text = y3 at *
        generalize ks[k] = y0 at *
        clear hlt hlk hk hl63
        obtain ⟨bad, hbad⟩ : ∃ bad, bad = (!g1 || decide (y1 = 0) || (decide (y0 ≠ 3) && decide (y0 ≠ y1))) := ⟨_, rfl⟩
        have HK := Lib.hid (suit_bad g1 y0 y1 bad hbad)
        have HB := Lib.hid hbad
        clear hbad
        go_upto_region 6 with fail
        go_cut [52] (fun c wx => c = .bool bad ∧ RowKit.Hid (Keep No wr wx))
        case first =>
          cases g1 with
          | false =>
            refine wp_region_canw [0, 1, 2, 3, 4, 5, 6, 7, 8, 9, 10, 11, 12, 13, 14, 15, 16, 17, 18, 19, 20, 21, 22, 23, 24, 25, 26, 27, 28, 29, 30, 31, 32, 33, 34] [4] [] (by kernel_rfl) (by kernel_rfl) (by kernel_rfl) (by kernel_rfl) (by intro c a d v w h; cases d <;> exact h) ?_
            have hv5 := hv.out _ (Keep.refl No wr.drew)
            generalize wr.drew = w5 at *
            iterate 4 (refine canw_sil rfl rfl (fun K hK => ?_); go_simp; refine hK _ ?_; clear hK K)
            refine canw_loud [] rfl rfl rfl (fun K hK => ?_)
            go_wp2_with (go_at_call 77; refine hv5.mono ?_; clear hv5; rintro e w7 ⟨rfl, t1, t2, t3, HK7⟩; have t4 := blk_cell t3)
            refine Mid.normal (hK _ _ stabs_nil ?_)
            clear hK K s0 s1 s2
            iterate 30 (refine canw_sil rfl rfl (fun K hK => ?_); go_simp; refine hK _ ?_; clear hK K)
            refine canw_nil ?_
            go_wp2_with fail
            go_meet
            case rel => exact ⟨by rw [HB.out]; simp , HK7⟩
          | true =>
            by_cases hz : y1 = 0
            · subst hz
              refine wp_region_canw [0, 1, 2, 3, 4, 5, 6, 7, 8, 9, 10, 11, 12, 13, 14, 15, 16, 17, 18, 19, 20, 21, 22, 23, 24, 25, 26, 27, 28, 29, 30, 31, 32, 33, 34] [4] [] (by kernel_rfl) (by kernel_rfl) (by kernel_rfl) (by kernel_rfl) (by intro c a d v w h; cases d <;> exact h) ?_
              have hv5 := hv.out _ (Keep.refl No wr.drew)
              generalize wr.drew = w5 at *
              iterate 4 (refine canw_sil rfl rfl (fun K hK => ?_); go_simp; refine hK _ ?_; clear hK K)
              refine canw_loud [] rfl rfl rfl (fun K hK => ?_)
              go_wp2_with (go_at_call 77; refine hv5.mono ?_; clear hv5; rintro e w7 ⟨rfl, t1, t2, t3, HK7⟩; have t4 := blk_cell t3)
              refine Mid.normal (hK _ _ stabs_nil ?_)
              clear hK K s0 s1 s2
              iterate 30 (refine canw_sil rfl rfl (fun K hK => ?_); go_simp; refine hK _ ?_; clear hK K)
              refine canw_nil ?_
              go_wp2_with fail
              go_meet
              case rel => exact ⟨by rw [HB.out]; simp , HK7⟩
            · have hz' : (y1 == 0) = false := by simpa using hz
              have HZ := Lib.hid hz
              clear hz
              by_cases h3 : y0 = 3
              · subst h3
                refine wp_region_canw [0, 1, 2, 3, 4, 5, 6, 7, 8, 9, 10, 11, 12, 13, 14, 15, 16, 17, 18, 19, 20, 21, 22, 23, 24, 25, 26, 27, 28, 29, 30, 31, 32, 33, 34] [4] [] (by kernel_rfl) (by kernel_rfl) (by kernel_rfl) (by kernel_rfl) (by intro c a d v w h; cases d <;> exact h) ?_
                have hv5 := hv.out _ (Keep.refl No wr.drew)
                generalize wr.drew = w5 at *
                iterate 4 (refine canw_sil rfl rfl (fun K hK => ?_); go_simp; refine hK _ ?_; clear hK K)
                refine canw_loud [] rfl rfl rfl (fun K hK => ?_)
                go_wp2_with (go_at_call 77; refine hv5.mono ?_; clear hv5; rintro e w7 ⟨rfl, t1, t2, t3, HK7⟩; have t4 := blk_cell t3)
                refine Mid.normal (hK _ _ stabs_nil ?_)
                clear hK K s0 s1 s2
                iterate 30 (refine canw_sil rfl rfl (fun K hK => ?_); go_simp; refine hK _ ?_; clear hK K)
                refine canw_nil ?_
                go_wp2_with fail
                go_meet
                case rel => exact ⟨by rw [HB.out]; simp [HZ.out], HK7⟩
              · have h3' : (y0 != 3) = true := by simpa using h3
                have H3 := Lib.hid h3
                clear h3
                refine wp_region_canw [0, 1, 2, 3, 4, 5, 6, 7, 8, 9, 10, 11, 12, 13, 14, 15, 16, 17, 18, 19, 20, 21, 22, 23, 24, 25, 26, 27, 28, 29, 30, 31, 32, 33, 34] [4] [] (by kernel_rfl) (by kernel_rfl) (by kernel_rfl) (by kernel_rfl) (by intro c a d v w h; cases d <;> exact h) ?_
                have hv5 := hv.out _ (Keep.refl No wr.drew)
                generalize wr.drew = w5 at *
                iterate 4 (refine canw_sil rfl rfl (fun K hK => ?_); go_simp; refine hK _ ?_; clear hK K)
                refine canw_loud [] rfl rfl rfl (fun K hK => ?_)
                go_wp2_with (go_at_call 77; refine hv5.mono ?_; clear hv5; rintro e w7 ⟨rfl, t1, t2, t3, HK7⟩; have t4 := blk_cell t3)
                refine Mid.normal (hK _ _ stabs_nil ?_)
                clear hK K s0 s1 s2
                iterate 30 (refine canw_sil rfl rfl (fun K hK => ?_); go_simp; refine hK _ ?_; clear hK K)
                refine canw_nil ?_
                go_wp2_with fail
                go_meet
                case rel => exact ⟨by rw [HB.out]; simp [HZ.out, H3.out]; by_cases e : y0 = y1 <;> simp [e], HK7⟩
        case rest =>
          obtain ⟨rfl, HC⟩ := hcut
          cases bad with
          | true =>
            go_wp2_with fail
            go_ret
            exact ⟨by rw [HRES.out, HS.out.2.2 (HK.out.2 trivial)]; rfl, HX.out.1.trans (HR.out.1.trans HC.out)⟩
          | false =>
            go_wp2_with fail
            go_roundg (args.length - (k + 1))
            case measure => have := HS.out.1; omega
            case rel => exact ⟨k + 1, by have := HS.out.1; omega, rfl, by simp, HR.out.1.trans HC.out, HS.out.2.1 (by obtain ⟨e1, e2, e3⟩ := HK.out.1 trivial; simp [e1, e2, e3])⟩
      · obtain rfl : k = args.length := by omega
        have hy := suits_yes HX.out.2.2.1 HR.out.2
        have j1 : ¬ (args.length : Int) < args.length := by omega
        have HY := Lib.hid hy
        clear hy hlt hk
        go_wp2_with fail
        go_ret
        exact ⟨by rw [HRES.out, HY.out]; rfl, HX.out.1.trans HR.out.1⟩
  · have e0 : ((args.length : Int) != (ks.length : Int)) = true := by simp; exact_mod_cast hl
    have hno : suitsB ks args = false := by unfold suitsB; rw [decide_eq_false hl, Bool.false_and]
    have HX := Lib.hid (And.intro K1 hno)
    clear K1 x1 hl h1 h2 hno
    go_enter Tryz.func29, Tryz.ntmps29
    go_wp2_with fail
    go_ret
    exact ⟨by rw [HRES.out, HX.out.2]; rfl, HX.out.1⟩
end Go.Proofs.YtfgdnakfikpmpaaGreatDoor
namespace Go.Proofs.YtfgdnakfikpmpaaGreatDoor
open Go Go.RowKit Go.Deep
def GvnA (args : List Val) (l : List Prt) : Prop := ∀ p ∈ l, 0 ≤ p.arg → givenV (args.getD p.arg.toNat val0) = true
theorem keyLs_all (args : List Val) : ∀ l : List Prt, GvnA args l → ∃ b, keyLs args l = some b
  | [], _ => ⟨[], rfl⟩
  | p :: l, h => by
    obtain ⟨b, hb⟩ := keyLs_all args l fun q hq => h q (List.mem_cons_of_mem _ hq)
    unfold keyLs
    by_cases h0 : p.arg < 0
    · rw [if_pos h0, hb]; exact ⟨_, rfl⟩
    · rw [if_neg h0, if_neg (by rw [h p (List.mem_cons_self ..) (by omega)]; simp), hb]
      exact ⟨_, rfl⟩
theorem keyLs_not (args : List Val) : ∀ l : List Prt, ¬ GvnA args l → keyLs args l = none
  | [], h => absurd (fun p hp => by cases hp) h
  | p :: l, h => by
    unfold keyLs
    by_cases h0 : p.arg < 0
    · have := keyLs_not args l fun hh => h fun q hq h1 => by
        rcases List.mem_cons.1 hq with rfl | hq
        · omega
        · exact hh q hq h1
      rw [if_pos h0, this]; rfl
    · rw [if_neg h0]
      by_cases h1 : givenV (args.getD p.arg.toNat val0) = false
      · rw [if_pos h1]
      · have := keyLs_not args l fun hh => h fun q hq h2 => by
          rcases List.mem_cons.1 hq with rfl | hq
          · simpa using h1
          · exact hh q hq h2
        rw [if_neg h1, this]; rfl
def KeyUp (t : ByteArray) (args : List Val) (l : List Prt) (k : Nat) (acc : List UInt8) : Prop := ∃ out, CutTo (bytesOf t) k out ∧ KeyTo args l out.length acc
theorem cut_split {t : ByteArray} {l out : List Prt} {k : Nat} (hl : cutU (bytesOf t) = some l) (h : CutTo (bytesOf t) k out) : ∃ m, l = out ++ m := by
  have e := h.1
  rw [hl] at e
  cases hc : cutU ((bytesOf t).drop k) with
  | none => rw [hc] at e; cases e
  | some m => rw [hc] at e; exact ⟨m, Option.some.inj e⟩
theorem KeyUp.text {t : ByteArray} {args : List Val} {l : List Prt} {k : Nat} {acc : List UInt8} (hl : cutU (bytesOf t) = some l) (h : KeyUp t args l k acc) (hk : k < t.size) (hn : t[k].toNat ≠ 123) : KeyUp t args l (k + 1) (acc ++ [t[k]]) ∧ acc.length ≤ k * 64 := by
  obtain ⟨out, h1, h2⟩ := h
  have hk' : k < (bytesOf t).length := by rw [bytesOf_length]; exact hk
  have hg := bytesOf_get t k hk' hk
  have hm : ¬ (bytesOf t)[k] = 123 := by rw [hg]; omega
  have hkc : keyC (bytesOf t)[k] = true := by
    cases hh : keyC (bytesOf t)[k] with
    | true => rfl
    | false => have := h1.none (cutU_bad _ k hk' hm hh); rw [hl] at this; cases this
  have hx := h1.text hk' hm hkc
  rw [hg, show (t[k].toNat : Int).toNat.toUInt8 = t[k] by simp] at hx
  obtain ⟨m, e⟩ := cut_split hl hx
  have hlen : out.length < l.length := by rw [e]; simp
  have hget : l[out.length] = mkPrt ⟨#[t[k]]⟩ (-1) := by simp [e]
  have hs := h2.text hlen (by rw [hget]; show (-1 : Int) < 0; decide) (by rw [hget]; exact Nat.le_refl 1)
  rw [hget] at hs
  have e2 : (mkPrt ⟨#[t[k]]⟩ (-1)).text.data.toList = [t[k]] := rfl
  rw [e2] at hs
  exact ⟨⟨_, hx, by simpa using hs⟩, Nat.le_trans h2.2 (Nat.mul_le_mul_right 64 h1.2)⟩
theorem KeyUp.mark {t : ByteArray} {args : List Val} {l : List Prt} {k : Nat} {acc : List UInt8} (hl : cutU (bytesOf t) = some l) (hb : below args.length l = true) (hg : GvnA args l) (hI : ∀ v ∈ args, v.In) (h : KeyUp t args l k acc) (hk : k < t.size) (hn : t[k].toNat = 123) :
    ∃ (h1 : k + 1 < t.size) (j : Nat) (hj : j < args.length), t[k + 1].toNat = 48 + j ∧ j ≤ 9 ∧ k + 2 < t.size ∧ KeyUp t args l (k + 3) (acc ++ argText args[j]) ∧ acc.length ≤ k * 64 ∧ givenV args[j] = true := by
  obtain ⟨out, h1, h2⟩ := h
  have hk' : k < (bytesOf t).length := by rw [bytesOf_length]; exact hk
  have hg0 := bytesOf_get t k hk' hk
  have hm : (bytesOf t)[k] = 123 := by rw [hg0]; omega
  have hk2 : k + 2 < (bytesOf t).length := Classical.byContradiction fun hh => by
    have := h1.none (cutU_short _ k hk' hm hh); rw [hl] at this; cases this
  have hd : 48 ≤ (bytesOf t)[k + 1] ∧ (bytesOf t)[k + 1] ≤ 57 ∧ (bytesOf t)[k + 2] = 125 := Classical.byContradiction fun hh => by
    have := h1.none (cutU_nomark _ k hk2 hm hh); rw [hl] at this; cases this
  have hx := h1.mark hk2 hm hd
  have ht2 : k + 2 < t.size := by rw [← bytesOf_length]; exact hk2
  have g1 := bytesOf_get t (k + 1) (by omega) (by omega)
  obtain ⟨m, e⟩ := cut_split hl hx
  have hlen : out.length < l.length := by rw [e]; simp
  have hget : l[out.length] = mkPrt noText ((bytesOf t)[k + 1] - 48) := by simp [e]
  obtain ⟨j, hj⟩ : ∃ j : Nat, (bytesOf t)[k + 1] - 48 = j := ⟨((bytesOf t)[k + 1] - 48).toNat, by omega⟩
  rw [hj] at hget
  have hjl : j < args.length := by
    unfold below at hb
    have := of_decide_eq_true (List.all_eq_true.1 hb _ (List.getElem_mem hlen))
    rw [hget] at this
    have e2 : (mkPrt noText (j : Int)).arg = j := rfl
    omega
  have hgj : givenV args[j] = true := by
    have h3 := hg _ (List.getElem_mem hlen) (by rw [hget]; show (0 : Int) ≤ j; omega)
    have e2 : (l[out.length]).arg.toNat = j := by rw [hget]; rfl
    rw [e2] at h3
    simpa [List.getD, hjl] using h3
  have hIj := hI args[j] (List.getElem_mem hjl)
  obtain ⟨-, -, hkk⟩ := given_kinds hgj
  have hlen2 : (argText args[j]).length ≤ 64 := by
    unfold argText
    rcases hkk with h1 | h1
    · rw [if_pos h1]; have := itoa_len args[j].num hIj.n0 hIj.n1; omega
    · rw [if_neg h1.1]
      have : args[j].text.data.toList.length = args[j].text.size := by simp
      omega
  have hs := h2.arg hlen (by rw [hget]; rfl) hjl hgj hlen2
  exact ⟨by omega, j, hjl, by omega, by omega, ht2, ⟨_, hx, by simpa using hs⟩, Nat.le_trans h2.2 (Nat.mul_le_mul_right 64 h1.2), hgj⟩
theorem KeyUp.len {t : ByteArray} {args : List Val} {l : List Prt} {k : Nat} {acc : List UInt8} (h : KeyUp t args l k acc) : acc.length ≤ k * 64 := by
  obtain ⟨out, h1, h2⟩ := h
  exact Nat.le_trans h2.2 (Nat.mul_le_mul_right 64 h1.2)
theorem KeyUp.done {t : ByteArray} {args : List Val} {l : List Prt} {acc b : List UInt8} (hl : cutU (bytesOf t) = some l) (h : KeyUp t args l t.size acc) (hb : keyLs args l = some b) : acc = b := by
  obtain ⟨out, h1, h2⟩ := h
  rw [← bytesOf_length] at h1
  have := h1.done
  rw [hl] at this
  obtain rfl := Option.some.inj this
  have e := h2.1
  rw [List.drop_length, hb] at e
  simp [keyLs] at e
  exact e.symm
theorem str_add (a b : List UInt8) : (⟨a.toArray⟩ : ByteArray) ++ ⟨b.toArray⟩ = ⟨(a ++ b).toArray⟩ := by
  apply ByteArray.ext
  simp
set_option maxRecDepth 10000 in
set_option maxHeartbeats 4000000 in
theorem rKey_good (t : ByteArray) (l : List Prt) (args : List Val) (hl : cutT t = some l) (hb : below args.length l = true) (hg : GvnA args l) (b : List UInt8) (hkb : keyLs args l = some b) (w : World) (S : Nat → Prop) (a : Option Addr) (c : Nat)
    (h : Rd (.slice valueSh) w S [.slice a args.length c] args) :
    Calls Tryz.prog 26 #[.string t, .slice a args.length c] w (KeyIs w ⟨b.toArray⟩) := by
  have h0 : ¬ (t.size = 0 ∨ 64 < t.size) := fun hh => by rw [cutT_none hh] at hl; cases hl
  have hlu := hl
  rw [cutT_some (by omega) (by omega)] at hlu
  have htm : tmplOk t args.length = true := by unfold tmplOk; rw [hl]; exact hb
  have htp := (rTemplate_any t (by omega) args.length w).mono (R' := fun e w2 => e = .returned (.bool true) ∧ RowKit.Hid (Keep No w w2)) (by rintro e w2 ⟨rfl, hk⟩; exact ⟨by rw [htm], hk⟩)
  have hmk : RowKit.Hid (∀ W, Calls Tryz.prog 76 #[.string t] W fun e w2 => ∃ a2 c2, e = .returned (.tuple #[.slice a2 (mks l).length c2, .bool true]) ∧ RowKit.Hid (Rd (.slice (.int .i64)) w2 (Fr W.heap.size w2.heap.size) [.slice a2 (mks l).length c2] (mks l) ∧ Keep No W w2)) := fun W => by
    refine (marks_any t (by omega) W).mono ?_
    intro e w2 hh
    unfold GivesMkE at hh
    rw [hlu] at hh
    obtain ⟨a2, c2, rfl, ho⟩ := hh
    exact ⟨a2, c2, by rw [decide_eq_true (show 1 ≤ t.size by omega), decide_eq_true (show t.size ≤ 64 by omega)]; rfl, Own.rd ho.out.1, ho.out.2⟩
  have hmb : ∀ x ∈ mks l, 0 ≤ x ∧ x < args.length ∧ givenV (args.getD x.toNat val0) = true := fun x hx => by
    obtain ⟨p, hp, h1, h2⟩ := mks_mem hx
    unfold below at hb
    have := of_decide_eq_true (List.all_eq_true.1 hb p hp)
    have h3 := hg p hp (by omega)
    rw [h1] at h3
    exact ⟨by omega, by omega, h3⟩
  have hml : (mks l).length ≤ 64 := Nat.le_trans (mks_len l) (cutT_arg hl).2
  have HX := Lib.hid (And.intro h (And.intro hlu (And.intro hb (And.intro hg (And.intro hkb (And.intro hmb (And.intro hml h0)))))))
  have hI : ∀ v ∈ args, v.In := fun v hv => by
    obtain ⟨k, hk, rfl⟩ := List.getElem_of_mem hv
    obtain ⟨-, -, -, -, -, -, -, -, hI, -⟩ := vals_get h k hk
    exact hI
  have HI := Lib.hid hI
  have i64 : (t.size : Int) ≤ 64 := by omega
  have a8 : (args.length : Int) ≤ 9223372036854775807 := by have := slice_len h; omega
  clear h hlu hl htm hb hg hkb hmb h0 hI
  generalize mks l = ms at *
  have m64 : (ms.length : Int) ≤ 64 := by omega
  clear hml
  go_enter Tryz.func26, Tryz.ntmps26
  go_wp2_with (first | (go_at_call 52; refine htp.mono ?_; clear htp; rintro e w2 ⟨rfl, HK2⟩) | (go_at_call 76; refine (hmk.out _).mono ?_; clear hmk; rintro e w3 ⟨a2, c2, rfl, H3⟩))
  have K3 := Lib.hid (HK2.out.trans H3.out.2)
  clear HK2
  go_loopg [8] ms.length (fun g i wr => ∃ k : Nat, k ≤ ms.length ∧ g = ms.length - k ∧ i = .int .i64 k ∧ RowKit.Hid (Keep No w3 wr))
  case atStart => exact ⟨0, by omega, by omega, rfl, Keep.refl No _⟩
  case round =>
    obtain ⟨k, hk, rfl, rfl, HR⟩ := hrel
    by_cases hlt : k < ms.length
    · have j1 : (k : Int) < ms.length := by omega
      have j0 : (0 : Int) ≤ k := by omega
      obtain ⟨bm, fm, rfl, m0⟩ := ints_cell (H3.out.1.agree _ HR.out.agreeNo) k hlt
      have hx := HX.out.2.2.2.2.2.1 ms[k] (List.getElem_mem hlt)
      obtain ⟨j, hj⟩ : ∃ j : Nat, ms[k] = j := ⟨ms[k].toNat, by have := hx.1; omega⟩
      rw [hj] at m0 hx
      have hjl : j < args.length := by have := hx.2.1; omega
      have n0 : (0 : Int) ≤ j := by omega
      have n1 : (j : Int) < args.length := by omega
      obtain ⟨bv, fv, rfl, hbv, -, s0, s1, s2, hI, hs⟩ := vals_get ((HX.out.1.agree _ K3.out.agreeNo).agree _ HR.out.agreeNo) j hjl
      have hgj : givenV args[j] = true := by
        have h3 := hx.2.2
        rw [Int.toNat_natCast] at h3
        simpa [List.getD, hjl] using h3
      obtain ⟨hok, hk0, -⟩ := given_kinds hgj
      have hbm := World.block_lt_of_cell? _ _ m0
      have hv := (rValid_any args[j].kind args[j].num args[j].text hs wr).mono (R' := fun e w5 => e = .returned (.bool true) ∧ w5.cell? ⟨bv, fv + j * 3, none⟩ = some (.int .i64 args[j].kind) ∧ w5.cell? ⟨bm, fm + k, none⟩ = some (.int .i64 j) ∧ RowKit.Hid (Keep No w3 w5)) (by
        rintro e w5 ⟨rfl, hk5⟩
        exact ⟨by rw [show (mkVal args[j].kind args[j].num args[j].text).ok = true from hok], (hk5.cell hbv (o := fv + j * 3) (fun x => x)).trans s0, (hk5.cell hbm (o := fm + k) (fun x => x)).trans m0, HR.out.trans hk5⟩)
      have hk0' : (args[j].kind == 0) = false := by simpa using hk0
      have HS := Lib.hid hlt
      generalize args[j].kind = y1 at *
      generalize args[j].num = y2 at *
      generalize args[j].text = y3 at *
      clear hlt hk hx hj hjl hgj hok hk0 hI hs hbv hbm
      go_wp2_with (go_at_call 77; refine hv.mono ?_; clear hv s0 m0; rintro e w5 ⟨rfl, t0, m1, HK5⟩)
      go_roundg (ms.length - (k + 1))
      case measure => have := HS.out; omega
      case rel => exact ⟨k + 1, by have := HS.out; omega, rfl, by simp, HK5⟩
    · have j1 : ¬ (k : Int) < ms.length := by omega
      have K4 := Lib.hid (K3.out.trans HR.out)
      clear hlt hk H3 K3 HR
      generalize wr = w4 at *
      go_wp2_with fail
      go_loopg [9, 10] t.size (fun g s i wr => ∃ (k : Nat) (acc : List UInt8), k ≤ t.size ∧ g = t.size - k ∧ s = .string ⟨acc.toArray⟩ ∧ i = .int .i64 k ∧ RowKit.Hid (KeyUp t args l k acc ∧ Keep No w4 wr))
      case atStart => exact ⟨0, [], by omega, by omega, rfl, rfl, ⟨[], CutTo.start _, by simp, Nat.zero_le _⟩, Keep.refl No _⟩
      case round =>
        obtain ⟨k, acc, hk, rfl, rfl, rfl, HR⟩ := hrel
        by_cases hlt : k < t.size
        · have j1 : (k : Int) < t.size := by omega
          have j0 : (0 : Int) ≤ k := by omega
          by_cases hm : t[k].toNat = 123
          · obtain ⟨hk1, j, hj, e1, j9, hk2, hn, hal, hgj⟩ := HR.out.1.mark HX.out.2.1 HX.out.2.2.1 HX.out.2.2.2.1 HI.out hlt hm
            have hm' : ((t[k].toNat : Int) != 123) = false := by simp; omega
            have e2 : IntKind.u8.wrap ((t[k + 1].toNat : Int) - 48) = j := by
              rw [e1]
              unfold IntKind.wrap
              simp only [IntKind.signed, IntKind.bits, Bool.false_and, Bool.false_eq_true, if_false]
              omega
            have j5 : (k : Int) + 1 < t.size := by omega
            have n0 : (0 : Int) ≤ j := by omega
            have n1 : (j : Int) < args.length := by omega
            obtain ⟨bv, fv, rfl, hbv, -, s0, s1, s2, hI, hs⟩ := vals_get ((HX.out.1.agree _ K4.out.agreeNo).agree _ HR.out.2.agreeNo) j hj
            obtain ⟨-, -, hkk⟩ := given_kinds hgj
            go_upto_region 16 with fail
            have c6 := blk_cell (blk_new wr (.cells #[.int .i64 args[j].kind, .int .i64 args[j].num, .string args[j].text] 47))
            have K6 := Lib.hid (HR.out.2.alloc (.cells #[.int .i64 args[j].kind, .int .i64 args[j].num, .string args[j].text] 47))
            generalize (wr.alloc (.cells #[.int .i64 args[j].kind, .int .i64 args[j].num, .string args[j].text] 47)) = w6 at *
            have hd := rDigits_any args[j].num hI.n0 hI.n1 w6
            have hdl := itoa_len args[j].num hI.n0 hI.n1
            have HS := Lib.hid (And.intro hk2 hn)
            unfold argText at HS
            clear hm hm' e1 e2 j5 hn hk1 hk2 s0 s1 s2 hbv hI hs hgj
            rcases hkk with h1 | h1
            · rw [if_pos h1] at HS
              generalize args[j].kind = y1 at *
              generalize args[j].num = y2 at *
              generalize args[j].text = y3 at *
              subst h1
              have hc : ¬ 9223372036854775807 < acc.length + (Lib.itoa y2).length := by omega
              clear hlt hk hj
              go_wp2_with (go_at_call 78; refine hd.mono ?_; clear hd; rintro e w7 ⟨rfl, rfl⟩)
              go_roundg (t.size - (k + 3))
              case measure => have := HS.out.1; omega
              case rel => exact ⟨k + 3, _, by have := HS.out.1; omega, rfl, congrArg Value.string (str_add acc _), by simp, HS.out.2, K6.out⟩
            · rw [if_neg h1.1] at HS
              have h1' : (args[j].kind == 1) = false := by simpa using h1.1
              have hx := h1.2
              have hc : ¬ 9223372036854775807 < acc.length + args[j].text.size := by omega
              have e9 : (⟨args[j].text.data.toList.toArray⟩ : ByteArray) = args[j].text := by simp
              generalize args[j].kind = y1 at *
              generalize args[j].num = y2 at *
              generalize args[j].text = y3 at *
              have hadd := str_add acc y3.data.toList
              rw [e9] at hadd
              have HA := Lib.hid hadd
              clear hlt hk hj h1 hd hdl hadd e9
              go_wp2_with fail
              go_roundg (t.size - (k + 3))
              case measure => have := HS.out.1; omega
              case rel => exact ⟨k + 3, _, by have := HS.out.1; omega, rfl, congrArg Value.string HA.out, by simp, HS.out.2, K6.out⟩
          · obtain ⟨hn, hal⟩ := HR.out.1.text HX.out.2.1 hlt hm
            have hm' : ((t[k].toNat : Int) != 123) = true := by simp; omega
            have hsub := sub_one t k hlt
            have hsz : (⟨#[t[k]]⟩ : ByteArray).size = 1 := rfl
            have hc : ¬ 9223372036854775807 < acc.length + 1 := by omega
            have HN := Lib.hid (And.intro hn hlt)
            clear hn hal hm hk
            go_wp2_with fail
            go_roundg (t.size - (k + 1))
            case measure => have := HN.out.2; omega
            case rel => exact ⟨k + 1, _, by have := HN.out.2; omega, rfl, congrArg Value.string (str_add acc [t[k]]), by simp, HN.out.1, HR.out.2⟩
        · obtain rfl : k = t.size := by omega
          have j1 : ¬ (t.size : Int) < t.size := by omega
          have hd := HR.out.1.done HX.out.2.1 HX.out.2.2.2.2.1
          subst hd
          have hko := rKeyOk_any ⟨acc.toArray⟩ (by have h1 := HR.out.1.len; have h2 : (⟨acc.toArray⟩ : ByteArray).size = acc.length := rfl; omega) wr
          obtain ⟨ok, hok⟩ : ∃ ok, ok = keyOk ⟨acc.toArray⟩ := ⟨_, rfl⟩
          rw [← hok] at hko
          have HO := Lib.hid hok
          have K5 := Lib.hid (K4.out.trans HR.out.2)
          clear hok hlt hk
          cases ok with
          | true =>
            go_wp2_with (go_at_call 79; refine hko.mono ?_; clear hko; rintro e w6 ⟨rfl, rfl⟩)
            go_ret2
            exact ⟨by rw [← HO.out]; rfl, K5.out⟩
          | false =>
            go_wp2_with (go_at_call 79; refine hko.mono ?_; clear hko; rintro e w6 ⟨rfl, rfl⟩)
            go_ret2
            exact ⟨by rw [← HO.out]; rfl, K5.out⟩
set_option maxRecDepth 10000 in
set_option maxHeartbeats 4000000 in
theorem rKey_bad (t : ByteArray) (l : List Prt) (args : List Val) (hl : cutT t = some l) (hb : below args.length l = true) (hg : ¬ GvnA args l) (w : World) (S : Nat → Prop) (a : Option Addr) (c : Nat)
    (h : Rd (.slice valueSh) w S [.slice a args.length c] args) :
    Calls Tryz.prog 26 #[.string t, .slice a args.length c] w fun e w' => e = .returned (.tuple #[.string noText, .int .i64 82]) ∧ RowKit.Hid (Keep No w w') := by
  have h0 : ¬ (t.size = 0 ∨ 64 < t.size) := fun hh => by rw [cutT_none hh] at hl; cases hl
  have hlu := hl
  rw [cutT_some (by omega) (by omega)] at hlu
  have htm : tmplOk t args.length = true := by unfold tmplOk; rw [hl]; exact hb
  have htp := (rTemplate_any t (by omega) args.length w).mono (R' := fun e w2 => e = .returned (.bool true) ∧ RowKit.Hid (Keep No w w2)) (by rintro e w2 ⟨rfl, hk⟩; exact ⟨by rw [htm], hk⟩)
  have hmk : RowKit.Hid (∀ W, Calls Tryz.prog 76 #[.string t] W fun e w2 => ∃ a2 c2, e = .returned (.tuple #[.slice a2 (mks l).length c2, .bool true]) ∧ RowKit.Hid (Rd (.slice (.int .i64)) w2 (Fr W.heap.size w2.heap.size) [.slice a2 (mks l).length c2] (mks l) ∧ Keep No W w2)) := fun W => by
    refine (marks_any t (by omega) W).mono ?_
    intro e w2 hh
    unfold GivesMkE at hh
    rw [hlu] at hh
    obtain ⟨a2, c2, rfl, ho⟩ := hh
    exact ⟨a2, c2, by rw [decide_eq_true (show 1 ≤ t.size by omega), decide_eq_true (show t.size ≤ 64 by omega)]; rfl, Own.rd ho.out.1, ho.out.2⟩
  have hmb : ∀ x ∈ mks l, 0 ≤ x ∧ x < args.length := fun x hx => by
    obtain ⟨p, hp, h1, h2⟩ := mks_mem hx
    unfold below at hb
    have := of_decide_eq_true (List.all_eq_true.1 hb p hp)
    omega
  have hnot : ¬ ∀ x ∈ mks l, givenV (args.getD x.toNat val0) = true := fun hh => hg fun p hp h1 => hh p.arg (by
    unfold mks
    refine List.mem_filterMap.2 ⟨p, hp, ?_⟩
    rw [if_neg (by omega)])
  have hml : (mks l).length ≤ 64 := Nat.le_trans (mks_len l) (cutT_arg hl).2
  have HX := Lib.hid (And.intro h (And.intro hmb hnot))
  have a8 : (args.length : Int) ≤ 9223372036854775807 := by have := slice_len h; omega
  clear h hlu hl htm hb hg hmb h0 hnot
  generalize mks l = ms at *
  have m64 : (ms.length : Int) ≤ 64 := by omega
  clear hml
  go_enter Tryz.func26, Tryz.ntmps26
  go_wp2_with (first | (go_at_call 52; refine htp.mono ?_; clear htp; rintro e w2 ⟨rfl, HK2⟩) | (go_at_call 76; refine (hmk.out _).mono ?_; clear hmk; rintro e w3 ⟨a2, c2, rfl, H3⟩))
  have K3 := Lib.hid (HK2.out.trans H3.out.2)
  clear HK2
  go_loopg [8] ms.length (fun g i wr => ∃ k : Nat, k ≤ ms.length ∧ g = ms.length - k ∧ i = .int .i64 k ∧ RowKit.Hid (Keep No w3 wr ∧ ∀ x ∈ ms.take k, givenV (args.getD x.toNat val0) = true))
  case atStart => exact ⟨0, by omega, by omega, rfl, Keep.refl No _, fun x hx => by simp at hx⟩
  case round =>
    obtain ⟨k, hk, rfl, rfl, HR⟩ := hrel
    by_cases hlt : k < ms.length
    · have j1 : (k : Int) < ms.length := by omega
      have j0 : (0 : Int) ≤ k := by omega
      obtain ⟨bm, fm, rfl, m0⟩ := ints_cell (H3.out.1.agree _ HR.out.1.agreeNo) k hlt
      have hx := HX.out.2.1 ms[k] (List.getElem_mem hlt)
      obtain ⟨j, hj⟩ : ∃ j : Nat, ms[k] = j := ⟨ms[k].toNat, by omega⟩
      rw [hj] at m0 hx
      have hjl : j < args.length := by omega
      have n0 : (0 : Int) ≤ j := by omega
      have n1 : (j : Int) < args.length := by omega
      obtain ⟨bv, fv, rfl, hbv, -, s0, s1, s2, hI, hs⟩ := vals_get ((HX.out.1.agree _ K3.out.agreeNo).agree _ HR.out.1.agreeNo) j hjl
      have hbm := World.block_lt_of_cell? _ _ m0
      obtain ⟨vo, hvo⟩ : ∃ vo, args[j].ok = vo := ⟨_, rfl⟩
      have hv := (rValid_any args[j].kind args[j].num args[j].text hs wr).mono (R' := fun e w5 => e = .returned (.bool vo) ∧ w5.cell? ⟨bv, fv + j * 3, none⟩ = some (.int .i64 args[j].kind) ∧ w5.cell? ⟨bm, fm + k, none⟩ = some (.int .i64 j) ∧ RowKit.Hid (Keep No w3 w5)) (by
        rintro e w5 ⟨rfl, hk5⟩
        exact ⟨by rw [show (mkVal args[j].kind args[j].num args[j].text).ok = vo from hvo], (hk5.cell hbv (o := fv + j * 3) (fun x => x)).trans s0, (hk5.cell hbm (o := fm + k) (fun x => x)).trans m0, HR.out.1.trans hk5⟩)
      have hgv : givenV (args.getD ms[k].toNat val0) = (vo && decide (args[j].kind ≠ 0)) := by
        rw [hj, Int.toNat_natCast]
        have : args.getD j val0 = args[j] := by simp [List.getD, hjl]
        rw [this, ← hvo]
        rfl
      have HS : RowKit.Hid (∃ hlt : k < ms.length, givenV (args.getD (ms[k]'hlt).toNat val0) = (vo && decide (args[j].kind ≠ 0))) := ⟨hlt, hgv⟩
      clear hgv hvo
      generalize args[j].kind = y1 at *
      generalize args[j].num = y2 at *
      generalize args[j].text = y3 at *
      clear hlt hk hx hj hjl hI hs hbv hbm
      cases vo with
      | false =>
        have HKK := Lib.hid K3.out
        go_wp2_with (go_at_call 77; refine hv.mono ?_; clear hv s0 m0; rintro e w5 ⟨rfl, t0, m1, HK5⟩)
        go_ret2
        exact ⟨rfl, HKK.out.trans HK5.out⟩
      | true =>
        by_cases hz : y1 = 0
        · subst hz
          have HKK := Lib.hid K3.out
          go_wp2_with (go_at_call 77; refine hv.mono ?_; clear hv s0 m0; rintro e w5 ⟨rfl, t0, m1, HK5⟩)
          go_ret2
          exact ⟨rfl, HKK.out.trans HK5.out⟩
        · have hk0' : (y1 == 0) = false := by simpa using hz
          have HN := Lib.hid (show ∀ x ∈ ms.take (k + 1), givenV (args.getD x.toNat val0) = true from fun x hx => by
            obtain ⟨hl, hgv⟩ := HS.out
            rw [List.take_succ_eq_append_getElem hl] at hx
            rcases List.mem_append.1 hx with h | h
            · exact HR.out.2 x h
            · rw [List.mem_singleton] at h
              rw [h, hgv]
              simp [hz])
          clear hz
          go_wp2_with (go_at_call 77; refine hv.mono ?_; clear hv s0 m0; rintro e w5 ⟨rfl, t0, m1, HK5⟩)
          go_roundg (ms.length - (k + 1))
          case measure => obtain ⟨hl, -⟩ := HS.out; omega
          case rel => exact ⟨k + 1, (by obtain ⟨hl, -⟩ := HS.out; exact hl), rfl, by simp, HK5.out, HN.out⟩
    · exfalso
      obtain rfl : k = ms.length := by omega
      exact HX.out.2.2 fun x hx => HR.out.2 x (by rw [List.take_length]; exact hx)
set_option maxRecDepth 10000 in
theorem rKeyE_any (t : ByteArray) (hsz : t.size ≤ 1048576) (args : List Val) (w : World) (S : Nat → Prop) (a : Option Addr) (c : Nat) (h : Rd (.slice valueSh) w S [.slice a args.length c] args) :
    Calls Tryz.prog 26 #[.string t, .slice a args.length c] w (KeyX w (keyT t args)) := by
  cases hm : tmplOk t args.length with
  | false =>
    have hk : keyT t args = (noText, 81) := by
      unfold tmplOk at hm
      unfold keyT
      cases hl : cutT t with
      | none => rfl
      | some l => rw [hl] at hm; simp only at hm ⊢; rw [if_pos hm]
    rw [hk]
    have htp := rTemplate_any t hsz args.length w
    rw [hm] at htp
    have hx63 := slice_len h
    clear h hk hm
    go_enter Tryz.func26, Tryz.ntmps26
    go_wp2_with (go_at_call 52; refine htp.mono ?_; clear htp; rintro e w2 ⟨rfl, HK2⟩)
    go_ret2
    exact ⟨rfl, HK2.out⟩
  | true =>
    unfold tmplOk at hm
    cases hl : cutT t with
    | none => rw [hl] at hm; cases hm
    | some l =>
      rw [hl] at hm
      simp only at hm
      rw [suits_keyT hl hm]
      by_cases hg : GvnA args l
      · obtain ⟨b, hb⟩ := keyLs_all args l hg
        rw [hb]
        refine (rKey_good t l args hl hm hg b hb w S a c h).mono ?_
        rintro e w' ⟨rfl, hk⟩
        refine ⟨?_, hk⟩
        cases ho : keyOk ⟨b.toArray⟩ with
        | true => rw [keyX_yes ho]; rfl
        | false => rw [keyX_no ho]; rfl
      · rw [keyLs_not args l hg]
        exact (rKey_bad t l args hl hm hg w S a c h).mono fun e w' hh => ⟨hh.1, hh.2.out⟩
end Go.Proofs.YtfgdnakfikpmpaaGreatDoor
