/-
  Parts of what is proved for this claim; each declaration is one of the seat's texts.
-/
import Derived.Test.YtpjcebajkfeacaaGreatDoorXGA
import Derived.Test.YtpjcebajkfeacaaGreatDoorXGB
import Derived.Test.YtpjcebajkfeacaaGreatDoorXGC
import Derived.Test.YtpjcebajkfeacaaGreatDoorXGD
import Derived.Test.YtpjcebajkfeacaaGreatDoorXGF
import Derived.Test.YtpjcebajkfeacaaGreatDoorXGK
import Derived.Test.YtpjcebajkfeacaaGreatDoorXGU
import Derived.Test.YtpjcebajkfeacaaGreatDoorXGX
import Derived.Test.YtpjcebajkfeacaaGreatDoorXHA
import Derived.Test.YtpjcebajkfeacaaGreatDoorXHG
import Derived.Test.YtpjcebajkfeacaaGreatDoorXHJ
import Derived.Test.YtpjcebajkfeacaaGreatDoorXJA
import Derived.Test.YtpjcebajkfeacaaGreatDoorXKA
import Derived.Test.YtpjcebajkfeacaaGreatDoorXKB
import Derived.Lib.ParseIntB
import Derived.Shelf.Pu.ParseUintPublic10
import Derived.Shelf.Strconv.ParseIntPublic10
import Derived.Shelf.Strings.Search2
import Derived.Shelf.Strings.Prefix
import Derived.Ground.MpProg
import Derived.Ground.NamesProg
set_option linter.unusedVariables false
set_option linter.unusedSimpArgs false
namespace Go.Proofs.YtpjcebajkfeacaaGreatDoor
open Go Go.RowKit Go.Deep
theorem byte_str (W : World) (x : Int) (c : UInt8) (h : x = c.toNat) : (convert 25 9 (.slice (some ⟨W.heap.size, 0, none⟩) 1 1)).run Tryz.prog (W.alloc (.cells #[.int .u8 x] 5)) = .ok (.string ⟨#[c]⟩) (W.alloc (.cells #[.int .u8 x] 5)) := by
  subst h
  have ho : Own (.int .u8) 5 (W.alloc (.cells #[.int .u8 c.toNat] 5)) (One W.heap.size) (.slice (some ⟨W.heap.size, 0, none⟩) 1 1) (toB [c]) :=
    own_block1 (s := .int .u8) (cs := #[.int .u8 c.toNat]) (S := One W.heap.size) rfl (blk_new W _) rfl (toB [c]) 1 rfl rfl (show (1 : Nat) ≤ 1048576 by decide) fun i hi hi' => by
      obtain rfl : i = 0 := by have : i < 1 := hi; omega
      exact ⟨rfl, by have := c.toNat_lt; show (Lit.int .u8 ((c.toNat : Nat) : Int)).wf = true; simp [Lit.wf, IntKind.min, IntKind.max, IntKind.signed, IntKind.bits]; omega⟩
  exact bytes_string (l := [c]) (Own.rd ho)
set_option maxRecDepth 10000 in
theorem digits9_any (n : Nat) (hn : n < 18446744073709551616) (w : World) : Calls Tryz.prog 95 #[.int .u64 n] w fun e w' => e = .returned (.string ⟨(Lib.decDigits n).toArray⟩) ∧ RowKit.Hid (Keep No w w') := by
  have HN := Lib.hid hn
  clear hn
  go_enter Tryz.func95, Tryz.ntmps95
  have e1 : (48 + (n : Int) % 10) = ((lastD n).toNat : Int) := by
    unfold lastD
    rw [dg_nat (by omega)]
    omega
  have hc1 := byte_str w (48 + (n : Int) % 10) (lastD n) e1
  clear e1
  go_wp2_with fail
  have K1 := Lib.hid ((Keep.refl No w).alloc (.cells #[.int .u8 (48 + (n : Int) % 10)] 5))
  clear hc1
  generalize (w.alloc (.cells #[.int .u8 (48 + (n : Int) % 10)] 5)) = w1 at *
  go_loopg [0, 3] n (fun g x y wr => ∃ (m : Nat) (l : List UInt8), x = .int .u64 m ∧ y = .string ⟨l.toArray⟩ ∧ g = m ∧ RowKit.Hid (Keep No w wr ∧ Lib.decDigits n = frontD m ++ l ∧ m < 18446744073709551616))
  case atStart => exact ⟨n, [lastD n], rfl, rfl, rfl, K1.out, dec_front n, HN.out⟩
  case round =>
    obtain ⟨m, l, rfl, rfl, hm, HR⟩ := hrel
    by_cases h : 10 ≤ m
    · have j1 : (10 : Int) ≤ m := by omega
      obtain ⟨q, hq⟩ : ∃ q, q = m / 10 := ⟨_, rfl⟩
      have ew : IntKind.u64.wrap ((m : Int) / 10) = (q : Int) := by rw [wrap_quo HR.out.2.2, hq]
      have e1 : (48 + (q : Int) % 10) = ((lastD q).toNat : Int) := by
        unfold lastD
        rw [dg_nat (by omega)]
        omega
      have hc2 := byte_str wr (48 + (q : Int) % 10) (lastD q) e1
      have hll : l.length ≤ 20 := by
        have h1 := congrArg List.length HR.out.2.1
        have h2 := dec_len n HN.out
        rw [List.length_append] at h1
        omega
      have hc : ¬ 9223372036854775807 < 1 + l.length := by omega
      have HH := Lib.hid (And.intro h (And.intro hm hq))
      clear h hm hll hq e1
      go_wp2_with fail
      go_roundg q
      case measure => have := HH.out; omega
      case rel =>
        refine ⟨q, lastD q :: l, rfl, congrArg Value.string (str_app _ _), rfl, HR.out.1.alloc _, ?_, ?_⟩
        · rw [HR.out.2.1, front_next HH.out.1, ← HH.out.2.2]; simp
        · have := HR.out.2.2; have := HH.out.2.2; omega
    · have j1 : ¬ (10 : Int) ≤ m := by omega
      have HH := Lib.hid h
      clear h hm
      go_wp2_with fail
      go_ret
      refine ⟨?_, HR.out.1⟩
      have := HR.out.2.1
      rw [frontD, if_pos (by have := HH.out; omega)] at this
      rw [this]
      rfl
theorem str_add9 (a b : List UInt8) : (⟨a.toArray⟩ : ByteArray) ++ ⟨b.toArray⟩ = ⟨(a ++ b).toArray⟩ := by
  apply ByteArray.ext
  simp
theorem str_snoc (l : List UInt8) (c : UInt8) : (⟨l.toArray⟩ : ByteArray) ++ ⟨#[c]⟩ = ⟨(l ++ [c]).toArray⟩ := str_add9 l [c]
set_option maxRecDepth 10000 in
set_option maxHeartbeats 4000000 in
theorem rprintV_any (v : Val) (hv : v.ok = true) (hI : v.In) (w : World) : Calls Tryz.prog 96 #[.agg #[.int .i64 v.kind, .int .i64 v.num, .string v.text]] w fun e w' => e = .returned (.tuple #[.string ⟨v.print.toArray⟩, .int .i64 0]) ∧ RowKit.Hid (Keep No w w') := by
  have x1 := blk_new w (.cells #[.int .i64 v.kind, .int .i64 v.num, .string v.text] 96)
  have K1 := (Keep.refl No w).alloc (.cells #[.int .i64 v.kind, .int .i64 v.num, .string v.text] 96)
  have q1 := blk_cell x1
  have hcase : (v.kind = 0 ∧ v.print = [110, 111, 110, 101]) ∨ (v.kind = 1 ∧ v.print = Lib.itoa v.num) ∨ (v.kind = 2 ∧ v.text.size ≤ 64 ∧ v.print = 34 :: (quoted v.text.data.toList ++ [34])) := by
    rcases Val.ok_cases hv with e | ⟨hk, e⟩ | ⟨hk, e, h1, h2⟩
    · exact .inl (by rw [e]; exact ⟨rfl, rfl⟩)
    · exact .inr (.inl ⟨hk, by unfold Val.print; rw [if_pos hk]⟩)
    · exact .inr (.inr ⟨hk, h1, by unfold Val.print; rw [if_neg (by omega), if_neg (by omega)]⟩)
  have hts : v.text.size ≤ 9223372036854775807 := by
    rcases Val.ok_cases hv with e | ⟨hk, e⟩ | ⟨hk, e, h1, h2⟩
    · rw [e]; exact Nat.zero_le _
    · rw [e]; exact Nat.zero_le _
    · omega
  have hval := (rValid_any v.kind v.num v.text hts (w.alloc (.cells #[.int .i64 v.kind, .int .i64 v.num, .string v.text] 96))).mono (R' := fun e w2 => e = .returned (.bool true) ∧ w2.heap[w.heap.size]? = some (.cells #[.int .i64 v.kind, .int .i64 v.num, .string v.text] 96 (0, 0)) ∧ RowKit.Hid (Keep No w w2)) (by
    rintro e w2 ⟨rfl, hk⟩
    exact ⟨by rw [show (mkVal v.kind v.num v.text).ok = true from hv], hk.blk x1 (fun x => x), K1.trans hk⟩)
  have HI := Lib.hid (And.intro hI.n0 hI.n1)
  clear x1 K1 hts hv hI
  generalize v.print = pr at *
  generalize v.kind = y1 at *
  generalize v.num = y2 at *
  generalize v.text = y3 at *
  rcases hcase with ⟨rfl, rfl⟩ | ⟨rfl, rfl⟩ | ⟨rfl, h64, rfl⟩
  · go_enter Tryz.func96, Tryz.ntmps96
    go_wp2_with (go_at_call 110; refine hval.mono ?_; clear hval q1; rintro e w2 ⟨rfl, x2, HK⟩; have q2 := blk_cell x2)
    go_ret2
    exact ⟨rfl, HK⟩
  · have hd : RowKit.Hid (∀ W, Calls Tryz.prog 158 #[.int .i64 y2] W fun e w' => e = .returned (.string ⟨(Lib.itoa y2).toArray⟩) ∧ w' = W) := fun W => rDigits_any y2 HI.out.1 HI.out.2 W
    go_enter Tryz.func96, Tryz.ntmps96
    go_wp2_with (first | (go_at_call 110; refine hval.mono ?_; clear hval q1; rintro e w2 ⟨rfl, x2, HK⟩; have q2 := blk_cell x2) | (go_at_call 158; refine (hd.out _).mono ?_; rintro e w6 ⟨rfl, rfl⟩))
    go_ret2
    exact ⟨rfl, HK⟩
  · have hlen : y3.data.toList.length = y3.size := by simp
    have i64 : (y3.size : Int) ≤ 64 := by omega
    have HL := Lib.hid (And.intro hlen h64)
    clear hlen h64
    go_enter Tryz.func96, Tryz.ntmps96
    go_upto_region 8 with (go_at_call 110; refine hval.mono ?_; clear hval q1; rintro e w2 ⟨rfl, x2, HK⟩; have q2 := blk_cell x2)
    go_wp2_with fail
    go_loopg [4, 5] y3.size (fun g x i wr => ∃ k : Nat, k ≤ y3.size ∧ g = y3.size - k ∧ x = .string ⟨(34 :: quoted (y3.data.toList.take k)).toArray⟩ ∧ i = .int .i64 k ∧ wr = w2)
    case atStart => exact ⟨0, by omega, by omega, rfl, rfl, rfl⟩
    case round =>
      obtain ⟨k, hk, rfl, rfl, rfl, hw⟩ := hrel
      subst hw
      have hql := quoted_len (y3.data.toList.take k)
      have hll : (34 :: quoted (y3.data.toList.take k)).length ≤ 200 := by
        have h1 : (y3.data.toList.take k).length ≤ 64 := by rw [List.length_take]; have := HL.out; omega
        rw [List.length_cons]; omega
      by_cases hlt : k < y3.size
      · have j1 : (k : Int) < y3.size := by omega
        have j0 : (0 : Int) ≤ k := by omega
        have hs : y3.data.toList.take (k + 1) = y3.data.toList.take k ++ [y3[k]'hlt] := by
          rw [List.take_succ_eq_append_getElem (by rw [HL.out.1]; exact hlt)]
          congr 2
        have hsub := sub_one y3 k hlt
        have hq2 : 34 :: quoted (y3.data.toList.take (k + 1)) = (34 :: quoted (y3.data.toList.take k)) ++ (if y3[k]'hlt = 34 ∨ y3[k]'hlt = 92 then [92, y3[k]'hlt] else [y3[k]'hlt]) := by rw [hs, quoted_snoc]; rfl
        have HQ := Lib.hid hq2
        have HLT := Lib.hid hlt
        generalize hA : 34 :: quoted (y3.data.toList.take k) = A at *
        have hc1 : ¬ 9223372036854775807 < A.length + 1 := by omega
        have hc2 : ¬ 9223372036854775807 < A.length + 1 + 1 := by omega
        clear hA hq2 hs hql hll
        by_cases h34 : (y3[k]'hlt) = 34
        · have b1 : (((y3[k]'hlt).toNat : Int) == 34) = true := by rw [h34]; rfl
          rw [if_pos (.inl h34)] at HQ
          clear h34
          go_wp2_with fail
          go_roundg (y3.size - (k + 1))
          case measure => have := HLT.out; omega
          case rel => exact ⟨k + 1, by have := HLT.out; omega, rfl, by rw [HQ.out, str_snoc, str_snoc]; simp, by simp, rfl⟩
        · have b1 : (((y3[k]'hlt).toNat : Int) == 34) = false := by simp; exact fun e => h34 (UInt8.toNat_inj.1 (by have : (34 : UInt8).toNat = 34 := rfl; omega))
          by_cases h92 : (y3[k]'hlt) = 92
          · have b2 : (((y3[k]'hlt).toNat : Int) == 92) = true := by rw [h92]; rfl
            rw [if_pos (.inr h92)] at HQ
            clear h34 h92
            go_wp2_with fail
            go_roundg (y3.size - (k + 1))
            case measure => have := HLT.out; omega
            case rel => exact ⟨k + 1, by have := HLT.out; omega, rfl, by rw [HQ.out, str_snoc, str_snoc]; simp, by simp, rfl⟩
          · have b2 : (((y3[k]'hlt).toNat : Int) == 92) = false := by simp; exact fun e => h92 (UInt8.toNat_inj.1 (by have : (92 : UInt8).toNat = 92 := rfl; omega))
            rw [if_neg (fun h => h.elim h34 h92)] at HQ
            clear h34 h92
            go_wp2_with fail
            go_roundg (y3.size - (k + 1))
            case measure => have := HLT.out; omega
            case rel => exact ⟨k + 1, by have := HLT.out; omega, rfl, by rw [HQ.out, str_snoc], by simp, rfl⟩
      · obtain rfl : k = y3.size := by omega
        have j1 : ¬ (y3.size : Int) < y3.size := by omega
        have ht : y3.data.toList.take y3.size = y3.data.toList := List.take_of_length_le (by rw [HL.out.1]; exact Nat.le_refl _)
        rw [ht]
        rw [ht] at hll
        have HF := Lib.hid (str_snoc (34 :: quoted y3.data.toList) 34)
        have hc1 : ¬ 9223372036854775807 < (34 :: quoted y3.data.toList).length + 1 := by omega
        generalize hA : 34 :: quoted y3.data.toList = A at *
        have hA2 : 34 :: (quoted y3.data.toList ++ [34]) = A ++ [34] := by rw [← hA]; rfl
        have HA2 := Lib.hid hA2
        clear hA hA2 hql hll ht hlt
        go_wp2_with fail
        go_ret2
        exact ⟨by rw [HA2.out, ← HF.out]; rfl, HK⟩
set_option maxRecDepth 10000 in
set_option maxHeartbeats 4000000 in
theorem rPrint_any (w : World) (S : Nat → Prop) (cs : List Value) (q : Req) (h : Rd requestSh w S cs q) (hn : q.name.size ≤ 9223372036854775806) (ht0 : 0 ≤ q.token) (ht1 : q.token < 18446744073709551616) :
    Calls Tryz.prog 41 #[.agg cs.toArray] w fun e w' => e = .returned (.tuple #[.string (txt (if q.check = 0 then q.print else [])), .int .i64 q.check]) ∧ RowKit.Hid (Keep No w w') := by
  have h' := h
  obtain ⟨aa, ca, rfl, h4, w1, w2, w3⟩ := req_cells h
  have x1 := blk_new w (.cells #[.int .i64 q.client, .int .u64 q.token, .string q.name, .slice aa q.args.length ca] 29)
  have K1 : Keep No w (w.alloc (.cells #[.int .i64 q.client, .int .u64 q.token, .string q.name, .slice aa q.args.length ca] 29)) := (Keep.refl No w).alloc _
  have q1 := blk_cell x1
  have hc := (rCheck_any _ S _ q (h'.agree _ K1.agreeNo) hn).mono (R' := fun e w3 => e = .returned (.int .i64 q.check) ∧ w3.heap[w.heap.size]? = some (.cells #[.int .i64 q.client, .int .u64 q.token, .string q.name, .slice aa q.args.length ca] 29 (0, 0)) ∧ RowKit.Hid (Keep No w w3 ∧ Rd (.slice valueSh) w3 S [.slice aa q.args.length ca] q.args)) (by
    rintro e w3 ⟨rfl, hk⟩
    exact ⟨rfl, hk.blk x1 (fun x => x), K1.trans hk, (h4.agree _ K1.agreeNo).agree _ hk.agreeNo⟩)
  obtain ⟨res, hres⟩ : ∃ res, res = txt (if q.check = 0 then q.print else []) := ⟨_, rfl⟩
  rw [← hres]
  have HT := Lib.hid (And.intro ht0 ht1)
  have hIn : ∀ v ∈ q.args, v.In := fun v hv => by
    obtain ⟨k, hk, rfl⟩ := List.getElem_of_mem hv
    obtain ⟨-, -, -, -, -, -, -, -, hI, -⟩ := vals_get h4 k hk
    exact hI
  clear ht0 ht1 h4 w1 w2 w3 h' h hn K1 x1
  by_cases hz : q.check = 0
  · rw [if_pos hz] at hres
    obtain ⟨hk0, hk1, hname, ha8, hgv⟩ := (Req.check_iff q).1 hz
    have hns := nameOk_size hname
    rw [hz] at hc ⊢
    rw [print_eq] at hres
    obtain ⟨cl, hcl⟩ : ∃ cl : Nat, q.client = cl := ⟨q.client.toNat, by omega⟩
    obtain ⟨tk, htk⟩ : ∃ tk : Nat, q.token = tk := ⟨q.token.toNat, by have := HT.out.1; omega⟩
    have htk2 : tk < 18446744073709551616 := by have := HT.out.2; omega
    rw [hcl, htk] at hc q1
    rw [hcl, htk, itoa_nat, itoa_nat] at hres
    rw [hcl, htk]
    have d1 := dec_len cl (by omega)
    have d2 := dec_len tk htk2
    have ht8 : (tailP q.args).length ≤ 4000 := by
      have : ∀ l : List Val, (∀ v ∈ l, v.print.length ≤ 200) → (tailP l).length ≤ l.length * 201 := fun l => by
        induction l with
        | nil => intro _; exact Nat.le_refl _
        | cons v l ih =>
          intro hh
          rw [tailP_cons, List.length_cons, List.length_append, List.length_cons]
          have h1 := hh v (by simp)
          have h2 := ih fun x hx => hh x (by simp [hx])
          omega
      have h2 := this q.args fun v hv => print_len (hgv v hv) (hIn v hv)
      omega
    have HC := Lib.hid (And.intro hres (And.intro hgv (And.intro ha8 (And.intro ht8 hIn))))
    have HD : RowKit.Hid (∀ (m : Nat) W, m < 18446744073709551616 → W.heap[w.heap.size]? = some (.cells #[.int .i64 cl, .int .u64 tk, .string q.name, .slice aa q.args.length ca] 29 (0, 0)) → Calls Tryz.prog 95 #[.int .u64 m] W fun e w' => e = .returned (.string ⟨(Lib.decDigits m).toArray⟩) ∧ w'.heap[w.heap.size]? = some (.cells #[.int .i64 cl, .int .u64 tk, .string q.name, .slice aa q.args.length ca] 29 (0, 0)) ∧ RowKit.Hid (Keep No W w')) := fun m W hm hW => (digits9_any m hm W).mono (by
      rintro e w' ⟨rfl, hk⟩
      exact ⟨rfl, hk.out.blk hW (fun x => x), hk⟩)
    have ew : IntKind.u64.wrap (cl : Int) = (cl : Int) := by
      unfold IntKind.wrap
      simp only [IntKind.signed, IntKind.bits, Bool.false_and, Bool.false_eq_true, if_false]
      omega
    have c1 : ¬ 9223372036854775807 < (Lib.decDigits cl).length + 1 := by omega
    have c2 : ¬ 9223372036854775807 < (Lib.decDigits cl).length + 1 + (Lib.decDigits tk).length := by omega
    have c3 : ¬ 9223372036854775807 < (Lib.decDigits cl).length + 1 + (Lib.decDigits tk).length + 1 := by omega
    have c4 : ¬ 9223372036854775807 < (Lib.decDigits cl).length + 1 + (Lib.decDigits tk).length + 1 + q.name.size := by omega
    have hAl : (Lib.decDigits cl ++ 32 :: (Lib.decDigits tk ++ 32 :: q.name.data.toList)).length ≤ 100 := by
      have : q.name.data.toList.length = q.name.size := by simp
      simp only [List.length_append, List.length_cons]
      omega
    have HA := Lib.hid (And.intro hAl (show cl < 18446744073709551616 by omega))
    have hl63 : q.args.length ≤ 8 := ha8
    clear hz hk0 hk1 hname hgv hns hcl htk d1 d2 ht8 hres hIn hAl
    go_enter Tryz.func41, Tryz.ntmps41
    go_upto_region 4 with (go_at_call 49; refine hc.mono ?_; clear hc q1; rintro e w5 ⟨rfl, X5, H5⟩)
    refine wp_region_canw [0, 1, 2, 5, 6, 10, 11, 3, 4, 7, 8, 9, 12, 13] [3, 7] [(5, 3), (6, 3), (10, 3), (11, 3), (4, 7), (10, 7), (11, 7)] (by kernel_rfl) (by kernel_rfl) (by kernel_rfl) (by kernel_rfl) (by intro c a d v w h; cases d <;> exact h) ?_
    have X6 := (Keep.refl No w5).drew.blk X5 (fun x => x)
    have H6 : RowKit.Hid (Keep No w w5.drew ∧ Rd (.slice valueSh) w5.drew S [.slice aa q.args.length ca] q.args) := ⟨H5.out.1.drew, H5.out.2.agree _ (Keep.refl No w5).drew.agreeNo⟩
    clear X5 H5
    generalize w5.drew = w6 at *
    have q6 := blk_cell X6
    iterate 7 (refine canw_sil rfl rfl (fun K hK => ?_); go_simp; refine hK _ ?_; clear hK K)
    refine canw_loud [5, 6, 10, 11] rfl rfl rfl (fun K hK => ?_)
    go_wp2_with (go_at_call 95; refine (HD.out cl _ HA.out.2 X6).mono ?_; clear q6; rintro e w7 ⟨rfl, X7, K7⟩; have q7 := blk_cell X7)
    refine Mid.normal (hK _ _ ?_ ?_)
    · simp only [List.forall_mem_cons]
      refine ⟨?_, ?_, ?_, ?_, stabs_nil⟩ <;> exact stab_of rfl (fun K hK => by go_simp; exact hK)
    clear hK K
    iterate 1 (refine canw_sil rfl rfl (fun K hK => ?_); go_simp; refine hK _ ?_; clear hK K)
    refine canw_loud [4, 10, 11] rfl rfl rfl (fun K hK => ?_)
    go_wp2_with (go_at_call 95; refine (HD.out tk _ htk2 X7).mono ?_; clear q7; rintro e w8 ⟨rfl, X8, K8⟩; have q8 := blk_cell X8)
    refine Mid.normal (hK _ _ ?_ ?_)
    · simp only [List.forall_mem_cons]
      refine ⟨?_, ?_, ?_, stabs_nil⟩ <;> exact stab_of rfl (fun K hK => by go_simp; exact hK)
    clear hK K
    iterate 4 (refine canw_sil rfl rfl (fun K hK => ?_); go_simp; refine hK _ ?_; clear hK K)
    refine canw_nil ?_
    have H8 := Lib.hid (And.intro ((H6.out.1.trans K7.out).trans K8.out) (H6.out.2.agree (.slice valueSh) (K7.out.trans K8.out).agreeNo))
    have HX8 := Lib.hid X8
    clear q8 X8 X6 X7 HD H6 K7 K8 c1 c2 c3 c4 ew
    generalize w8 = wb at *
    obtain ⟨A, hA⟩ : ∃ A, A = Lib.decDigits cl ++ 32 :: (Lib.decDigits tk ++ 32 :: q.name.data.toList) := ⟨_, rfl⟩
    have HAA := Lib.hid hA
    have hA100 : A.length ≤ 100 := by rw [hA]; exact HA.out.1
    clear hA
    go_wp2_with fail
    go_loopg [5, 6] q.args.length (fun g x i wr => ∃ k : Nat, k ≤ q.args.length ∧ g = q.args.length - k ∧ x = .string ⟨(A ++ tailP (q.args.take k)).toArray⟩ ∧ i = .int .i64 k ∧ RowKit.Hid (wr.heap[w.heap.size]? = some (.cells #[.int .i64 cl, .int .u64 tk, .string q.name, .slice aa q.args.length ca] 29 (0, 0)) ∧ Keep No w wr ∧ Rd (.slice valueSh) wr S [.slice aa q.args.length ca] q.args))
    case atStart =>
      refine ⟨0, by omega, by omega, ?_, rfl, HX8.out, H8.out.1, H8.out.2⟩
      rw [HAA.out]
      refine congrArg Value.string ?_
      apply ByteArray.ext
      simp [tailP]
    case round =>
      obtain ⟨k, hk, rfl, rfl, rfl, HR⟩ := hrel
      have qr := blk_cell HR.out.1
      have htl : (tailP (q.args.take k)).length ≤ (tailP q.args).length := by
        conv => rhs; rw [← List.take_append_drop k q.args, tailP_app]
        rw [List.length_append]; omega
      have ht8 := HC.out.2.2.2.1
      by_cases hlt : k < q.args.length
      · have j1 : (k : Int) < q.args.length := by omega
        have j0 : (0 : Int) ≤ k := by omega
        have j3 : (k : Int) ≤ 8 := by omega
        obtain ⟨bv, fv, rfl, -, -, s0, s1, s2, hI, hs⟩ := vals_get HR.out.2.2 k hlt
        have hg := HC.out.2.1 q.args[k] (List.getElem_mem hlt)
        have hpv := (rprintV_any q.args[k] (given_kinds hg).1 hI wr).mono (R' := fun e w9 => e = .returned (.tuple #[.string ⟨q.args[k].print.toArray⟩, .int .i64 0]) ∧ RowKit.Hid (w9.heap[w.heap.size]? = some (.cells #[.int .i64 cl, .int .u64 tk, .string q.name, .slice (some ⟨bv, fv, none⟩) q.args.length ca] 29 (0, 0)) ∧ Keep No w w9 ∧ Rd (.slice valueSh) w9 S [.slice (some ⟨bv, fv, none⟩) q.args.length ca] q.args)) (by
          rintro e w9 ⟨rfl, hk9⟩
          exact ⟨rfl, hk9.out.blk HR.out.1 (fun x => x), HR.out.2.1.trans hk9.out, HR.out.2.2.agree (.slice valueSh) hk9.out.agreeNo⟩)
        have hpl := print_len hg hI
        have htk : tailP (q.args.take (k + 1)) = tailP (q.args.take k) ++ 32 :: q.args[k].print := by
          rw [List.take_succ_eq_append_getElem hlt, tailP_app]
          simp [tailP]
        have HP := Lib.hid (And.intro htk hlt)
        clear htk hg hI hs
        generalize hB : A ++ tailP (q.args.take k) = B at *
        have hBl : B.length ≤ 4100 := by rw [← hB, List.length_append]; omega
        have HB := Lib.hid hB
        clear hB htl ht8
        generalize q.args[k].print = pv at *
        generalize q.args[k].kind = y1 at *
        generalize q.args[k].num = y2 at *
        generalize q.args[k].text = y3 at *
        have c1 : ¬ 9223372036854775807 < B.length + 1 := by omega
        have c2 : ¬ 9223372036854775807 < B.length + 1 + pv.length := by omega
        clear hlt hk hpl hBl
        go_wp2_with (go_at_call 96; refine hpv.mono ?_; clear hpv; rintro e w9 ⟨rfl, H9⟩)
        go_roundg (q.args.length - (k + 1))
        case measure => have := HP.out.2; omega
        case rel =>
          refine ⟨k + 1, by have := HP.out.2; omega, rfl, ?_, by simp, H9.out⟩
          rw [HP.out.1, ← List.append_assoc, HB.out]
          refine congrArg Value.string ?_
          apply ByteArray.ext
          simp
      · obtain rfl : k = q.args.length := by omega
        have j1 : ¬ (q.args.length : Int) < q.args.length := by omega
        have hfin : res = ⟨(A ++ tailP (q.args.take q.args.length)).toArray⟩ := by
          rw [HC.out.1, HAA.out, List.take_length]
          simp [txt]
        rw [← hfin]
        clear hlt hk htl ht8 hfin
        go_wp2_with fail
        go_ret2
        exact ⟨rfl, HR.out.2.1⟩
  · rw [if_neg hz] at hres
    have hc' : (q.check != 0) = true := by simpa using hz
    subst hres
    clear hz
    generalize q.check = ec at *
    go_enter Tryz.func41, Tryz.ntmps41
    go_wp2_with (go_at_call 49; refine hc.mono ?_; clear hc q1; rintro e w5 ⟨rfl, X5, H5⟩)
    go_ret2
    exact ⟨rfl, H5.out.1⟩
end Go.Proofs.YtpjcebajkfeacaaGreatDoor
namespace Go.Proofs.YtpjcebajkfeacaaGreatDoor
open Go Go.RowKit Go.Deep
theorem byte_get9 (s : ByteArray) (k : Nat) (h : k < s.size) : s[k]'h = s.data.toList[k]'(by simpa using h) := by simp [ByteArray.getElem_eq_getElem_data]
theorem wordL_at {s : List UInt8} {k : Nat} (hk : k < s.length) (h : ∀ c ∈ s.take k, c ≠ 32) (hc : s[k] = 32) : wordL s = (s.take k, s.drop (k + 1), true) := by
  have e : s = s.take k ++ 32 :: s.drop (k + 1) := by
    conv => lhs; rw [← List.take_append_drop k s, List.drop_eq_getElem_cons hk, hc]
  conv => lhs; rw [e]
  exact wordL_app _ _ h
set_option maxRecDepth 10000 in
set_option maxHeartbeats 4000000 in
theorem word9_any (s : ByteArray) (hs : s.size ≤ 1048576) (w : World) :
    Calls Tryz.prog 101 #[.string s] w fun e w' => e = .returned (.tuple #[.string (txt (wordL s.data.toList).1), .string (txt (wordL s.data.toList).2.1), .bool (wordL s.data.toList).2.2]) ∧ RowKit.Hid (Keep No w w') := by
  have hlen : s.data.toList.length = s.size := by simp
  have i20 : (s.size : Int) ≤ 1048576 := by omega
  have HS := Lib.hid (And.intro hs hlen)
  obtain ⟨x1, x2, x3, hx⟩ : ∃ x1 x2 x3, wordL s.data.toList = (x1, x2, x3) := ⟨_, _, _, rfl⟩
  rw [hx]
  have HX := Lib.hid hx
  clear hs hlen hx
  go_enter Tryz.func101, Tryz.ntmps101
  go_wp2_with fail
  go_loopg [5] s.size (fun g i wr => ∃ k : Nat, k ≤ s.size ∧ g = s.size - k ∧ i = .int .i64 k ∧ RowKit.Hid ((∀ c ∈ s.data.toList.take k, c ≠ 32) ∧ wr = w))
  case atStart => exact ⟨0, by omega, by omega, rfl, fun c hc => by simp at hc, rfl⟩
  case round =>
    obtain ⟨k, hk, rfl, rfl, HR⟩ := hrel
    by_cases hlt : k < s.size
    · have j1 : (k : Int) < s.size := by omega
      have j0 : (0 : Int) ≤ k := by omega
      have hl : k < s.data.toList.length := by rw [HS.out.2]; exact hlt
      by_cases hc : (s[k]'hlt) = 32
      · have b1 : (((s[k]'hlt).toNat : Int) == 32) = true := by rw [hc]; rfl
        have hw := wordL_at hl HR.out.1 (by rw [← byte_get9 s k hlt]; exact hc)
        rw [HX.out] at hw
        simp only [Prod.mk.injEq] at hw
        have ew : IntKind.i64.wrap ((k : Int) + 1) = (k : Int) + 1 := wrap_i64 (by omega) (by omega)
        have c1 : (k : Int) ≤ s.size := by omega
        have c3 : (0 : Int) ≤ k + 1 := by omega
        have c4 : (k + 1 : Int) ≤ s.size := by omega
        have e1 := txt_take s k
        have e2 := txt_drop s (k + 1)
        rw [← hw.1] at e1
        rw [← hw.2.1] at e2
        have e3 := hw.2.2
        subst e3
        clear hw hc hl hk
        go_upto_region 5 with fail
        refine wp_region_canw [0, 1, 2, 3, 4, 5, 6, 7, 8, 9] [] [] (by kernel_rfl) (by kernel_rfl) (by kernel_rfl) (by kernel_rfl) (by intro c a d v w h; cases d <;> exact h) ?_
        iterate 10 (refine canw_sil rfl rfl (fun K hK => ?_); go_simp; refine hK _ ?_; clear hK K)
        refine canw_nil ?_
        go_wp2_with fail
        go_ret3
        refine ⟨by rw [← e1, ← e2]; rfl, ?_⟩
        rw [HR.out.2]
        exact (Keep.refl No w).drew
      · have b1 : (((s[k]'hlt).toNat : Int) == 32) = false := by simp; exact fun e => hc (UInt8.toNat_inj.1 (by have : (32 : UInt8).toNat = 32 := rfl; omega))
        have hn : ∀ c ∈ s.data.toList.take (k + 1), c ≠ 32 := fun c hcm => by
          rw [List.take_succ_eq_append_getElem hl, List.mem_append] at hcm
          rcases hcm with h | h
          · exact HR.out.1 c h
          · simp at h; rw [h]; intro e; exact hc (by rw [byte_get9 s k hlt]; exact e)
        have HN := Lib.hid (And.intro hn hlt)
        clear hn hc hl hk
        go_wp2_with fail
        go_roundg (s.size - (k + 1))
        case measure => have := HN.out.2; omega
        case rel => exact ⟨k + 1, by have := HN.out.2; omega, rfl, by simp, HN.out.1, HR.out.2⟩
    · obtain rfl : k = s.size := by omega
      have j1 : ¬ (s.size : Int) < s.size := by omega
      have hw : wordL s.data.toList = (s.data.toList, [], false) := wordL_none _ (by have := HR.out.1; rwa [List.take_of_length_le (by rw [HS.out.2]; exact Nat.le_refl _)] at this)
      rw [HX.out] at hw
      simp only [Prod.mk.injEq] at hw
      obtain ⟨rfl, rfl, rfl⟩ := hw
      clear hlt hk
      go_wp2_with fail
      go_ret3
      refine ⟨by rw [txt_self]; rfl, ?_⟩
      rw [HR.out.2]
      exact Keep.refl No w
def GivesNb (w : World) (s : ByteArray) (e : Ending) (w' : World) : Prop := ∃ (n : Nat) (ok : Bool), e = .returned (.tuple #[.int .u64 n, .bool ok]) ∧ RowKit.Hid (n < 18446744073709551616 ∧ (ok = true → s.data.toList = Lib.decDigits n) ∧ (∀ u : Nat, u < 18446744073709551616 → s.data.toList = Lib.decDigits u → ok = true ∧ n = u) ∧ Keep No w w')
set_option maxRecDepth 10000 in
set_option maxHeartbeats 4000000 in
theorem number9_any (s : ByteArray) (hs : s.size ≤ 1048576) (w : World) : Calls Tryz.prog 102 #[.string s] w (GivesNb w s) := by
  have hlen : s.data.toList.length = s.size := by simp
  have i20 : (s.size : Int) ≤ 1048576 := by omega
  have HS := Lib.hid (And.intro hs hlen)
  clear hs hlen
  go_enter Tryz.func102, Tryz.ntmps102
  go_wp2_with fail
  go_loopg [4, 5] s.size (fun g x i wr => ∃ k m : Nat, k ≤ s.size ∧ g = s.size - k ∧ x = .int .u64 m ∧ i = .int .i64 k ∧ RowKit.Hid ((∀ c ∈ s.data.toList.take k, dgt c) ∧ spell (s.data.toList.take k) = m ∧ m < 18446744073709551616 ∧ wr = w))
  case atStart => exact ⟨0, 0, by omega, by omega, rfl, rfl, fun c hc => by simp at hc, rfl, by decide, rfl⟩
  case round =>
    obtain ⟨k, m, hk, rfl, rfl, rfl, HR⟩ := hrel
    by_cases hlt : k < s.size
    · have j1 : (k : Int) < s.size := by omega
      have j0 : (0 : Int) ≤ k := by omega
      have hl : k < s.data.toList.length := by rw [HS.out.2]; exact hlt
      have htake : s.data.toList.take (k + 1) = s.data.toList.take k ++ [s[k]'hlt] := by rw [List.take_succ_eq_append_getElem hl, byte_get9]
      have hsp : spell (s.data.toList.take (k + 1)) = m * 10 + ((s[k]'hlt).toNat - 48) := by rw [htake, spell_snoc, HR.out.2.1]
      have hmem : s[k]'hlt ∈ s.data.toList := by rw [byte_get9]; exact List.getElem_mem _
      by_cases hd : dgt (s[k]'hlt)
      · obtain ⟨d, hdd⟩ : ∃ d : Nat, d = (s[k]'hlt).toNat - 48 := ⟨_, rfl⟩
        have e1 : IntKind.u8.wrap (((s[k]'hlt).toNat : Int) - 48) = (d : Int) := by
          unfold IntKind.wrap
          simp only [IntKind.signed, IntKind.bits, Bool.false_and, Bool.false_eq_true, if_false]
          have := hd.1
          have := hd.2
          omega
        have b1 : ¬ ((s[k]'hlt).toNat : Int) < 48 := by have := hd.1; omega
        have b2 : ¬ (57 : Int) < ((s[k]'hlt).toNat : Int) := by have := hd.2; omega
        have e0 : IntKind.u64.wrap (d : Int) = (d : Int) := wrap_u64_nat _ (by have := hd.2; omega)
        obtain ⟨L, hL⟩ : ∃ L : Nat, L = 18446744073709551615 - d := ⟨_, rfl⟩
        have e2 : IntKind.u64.wrap (18446744073709551615 - (d : Int)) = (L : Int) := by
          have : (18446744073709551615 - (d : Int)) = ((L : Nat) : Int) := by have := hd.2; omega
          rw [this]; exact wrap_u64_nat _ (by omega)
        obtain ⟨q, hq⟩ : ∃ q : Nat, q = L / 10 := ⟨_, rfl⟩
        have e6 : ((L : Int).tdiv 10) = (q : Int) := by rw [Int.tdiv_eq_ediv_of_nonneg (by omega)]; omega
        have e7 : ((L : Int) / 10) = (q : Int) := by omega
        have e8 : IntKind.u64.wrap (q : Int) = (q : Int) := wrap_u64_nat _ (by omega)
        have e3 : (10 : Int) * m = ((10 * m : Nat) : Int) := by omega
        rw [← hdd] at hsp
        have hd9 : d ≤ 9 := by have := hd.2; omega
        have HD := Lib.hid (And.intro hd (And.intro hd9 (And.intro (And.intro hL hq) (And.intro hsp (And.intro hmem (And.intro hlt htake))))))
        clear hd9 hd hdd hL hq hsp hmem htake hl hk
        by_cases hm : (q : Int) < (m : Int)
        · go_wp2_with fail
          go_ret2
          refine ⟨0, false, rfl, Lib.hid ⟨by decide, (fun h => by cases h), fun u hu he => ?_, by rw [HR.out.2.2.2]; exact Keep.refl No w⟩⟩
          obtain ⟨-, h9, ⟨h1, h1q⟩, h2, -⟩ := HD.out
          have h3 := spell_pre (s.data.toList.take (k + 1)) (s.data.toList.drop (k + 1))
          rw [List.take_append_drop, h2, he, (dec_plain u).2.1] at h3
          omega
        · have hnm : 10 * m + d < 18446744073709551616 := by have := HD.out.2.1; have := HD.out.2.2.1.1; have := HD.out.2.2.1.2; omega
          have e4 : IntKind.u64.wrap ((10 : Int) * m) = (10 : Int) * m := by rw [e3]; exact wrap_u64_nat _ (by omega)
          have e5 : IntKind.u64.wrap ((10 : Int) * m + d) = ((m * 10 + d : Nat) : Int) := by
            have : ((10 : Int) * m + d) = ((m * 10 + d : Nat) : Int) := by omega
            rw [this]; exact wrap_u64_nat _ (by omega)
          have HE := Lib.hid hnm
          clear hnm e3
          go_wp2_with fail
          go_roundg (s.size - (k + 1))
          case measure => have := HD.out.2.2.2.2.2.1; omega
          case rel =>
            obtain ⟨g1, h9, -, h2, h3, h4, h5⟩ := HD.out
            refine ⟨k + 1, m * 10 + d, h4, rfl, by simp, by simp, fun c hc => ?_, h2, by have := HE.out; omega, HR.out.2.2.2⟩
            rw [h5, List.mem_append] at hc
            rcases hc with hc | hc
            · exact HR.out.1 c hc
            · simp at hc; rw [hc]; exact g1
      · have hno : ∀ u : Nat, s.data.toList ≠ Lib.decDigits u := fun u he => by
          rw [he] at hmem
          exact hd ((dec_plain u).1.1 _ hmem)
        have HD := Lib.hid (And.intro hno hd)
        clear hno hsp hmem htake hl hk hd
        obtain ⟨d, e1, hd⟩ : ∃ d : Nat, IntKind.u8.wrap (((s[k]'hlt).toNat : Int) - 48) = (d : Int) ∧ d < 256 := by
          unfold IntKind.wrap
          simp only [IntKind.signed, IntKind.bits, Bool.false_and, Bool.false_eq_true, if_false]
          exact ⟨((((s[k]'hlt).toNat : Int) - 48) % 256).toNat, by omega, by omega⟩
        have e0 : IntKind.u64.wrap (d : Int) = (d : Int) := wrap_u64_nat _ (by omega)
        by_cases b1 : ((s[k]'hlt).toNat : Int) < 48
        · go_wp2_with fail
          go_ret2
          exact ⟨0, false, rfl, Lib.hid ⟨by decide, (fun h => by cases h), fun u hu he => absurd he (HD.out.1 u), by rw [HR.out.2.2.2]; exact Keep.refl No w⟩⟩
        · have b2 : (57 : Int) < ((s[k]'hlt).toNat : Int) := by have := HD.out.2; unfold dgt at this; omega
          go_wp2_with fail
          go_ret2
          exact ⟨0, false, rfl, Lib.hid ⟨by decide, (fun h => by cases h), fun u hu he => absurd he (HD.out.1 u), by rw [HR.out.2.2.2]; exact Keep.refl No w⟩⟩
    · obtain rfl : k = s.size := by omega
      have j1 : ¬ (s.size : Int) < s.size := by omega
      have HE := Lib.hid (show (∀ c ∈ s.data.toList, dgt c) ∧ spell s.data.toList = m by
        have h := HR.out
        rw [List.take_of_length_le (by rw [HS.out.2]; exact Nat.le_refl _)] at h
        exact ⟨h.1, h.2.1⟩)
      clear hlt hk
      have HK := HR.out.2.2.2
      have Hm := Lib.hid (And.intro HR.out.2.2.1 (show Keep No w wr by rw [HK]; exact Keep.refl No w))
      clear HK HR
      by_cases h0 : s.size = 0
      · have e0 : s = ⟨#[]⟩ := by
          obtain ⟨⟨l⟩⟩ := s
          cases l with
          | nil => rfl
          | cons _ _ => simp [ByteArray.size] at h0
        subst e0
        clear h0 j1
        go_upto_region 9 with fail
        refine wp_region_canw [0, 1, 2, 3, 4, 5, 6, 7, 8, 9, 10, 11, 12, 13, 14] [] [] (by kernel_rfl) (by kernel_rfl) (by kernel_rfl) (by kernel_rfl) (by intro c a d v w h; cases d <;> exact h) ?_
        iterate 15 (refine canw_sil rfl rfl (fun K hK => ?_); go_simp; refine hK _ ?_; clear hK K)
        refine canw_nil ?_
        go_wp2_with fail
        go_ret2
        refine ⟨m, false, rfl, Lib.hid ⟨Hm.out.1, (fun h => by cases h), fun u hu he => absurd he.symm (dec_plain u).1.2.1, Hm.out.2.drew⟩⟩
      · have hp : 0 < s.size := by omega
        have j2 : (0 : Int) < s.size := by omega
        have hhd : s.data.toList.head? = some (s[0]'hp) := by rw [List.head?_eq_getElem?, List.getElem?_eq_getElem (by rw [HS.out.2]; exact hp), byte_get9]
        have hnil : s.data.toList ≠ [] := fun e => by rw [e] at hhd; cases hhd
        have hne : s.toList.isEmpty = false := by rw [empty_iff]; exact decide_eq_false h0
        by_cases h1 : s.size = 1
        · have hb : ((s.size : Int) == 1) = true := by rw [h1]; rfl
          have HD := Lib.hid (show plainD s.data.toList from ⟨HE.out.1, hnil, fun _ => by rw [HS.out.2]; exact h1⟩)
          clear h0 h1 hhd hnil
          go_upto_region 9 with fail
          refine wp_region_canw [0, 1, 2, 3, 4, 5, 6, 7, 8, 9, 10, 11, 12, 13, 14] [] [] (by kernel_rfl) (by kernel_rfl) (by kernel_rfl) (by kernel_rfl) (by intro c a d v w h; cases d <;> exact h) ?_
          iterate 15 (refine canw_sil rfl rfl (fun K hK => ?_); go_simp; refine hK _ ?_; clear hK K)
          refine canw_nil ?_
          go_wp2_with fail
          go_ret2
          refine ⟨m, true, rfl, Lib.hid ⟨Hm.out.1, fun _ => ?_, fun u hu he => ⟨rfl, ?_⟩, Hm.out.2.drew⟩⟩
          · rw [← HE.out.2]; exact (dec_of _ HD.out).symm
          · rw [← HE.out.2, he]; exact (dec_plain u).2.1
        · have hb : ((s.size : Int) == 1) = false := by simp; omega
          by_cases hz : (s[0]'hp) = 48
          · have hbz : (((s[0]'hp).toNat : Int) != 48) = false := by rw [hz]; rfl
            have HB := Lib.hid hbz
            clear hbz
            have HD := Lib.hid (show ¬ plainD s.data.toList from fun hh => h1 (by rw [← HS.out.2]; exact hh.2.2 (by rw [hhd, hz])))
            clear h0 h1 hhd hnil hz
            go_upto_region 9 with fail
            refine wp_region_canw [0, 1, 2, 3, 4, 5, 6, 7, 8, 9, 10, 11, 12, 13, 14] [] [] (by kernel_rfl) (by kernel_rfl) (by kernel_rfl) (by kernel_rfl) (by intro c a d v w h; cases d <;> exact h) ?_
            iterate 15 (refine canw_sil rfl rfl (fun K hK => ?_); go_simp; refine hK _ ?_; clear hK K)
            refine canw_nil ?_
            go_wp2_with fail
            go_ret2
            refine ⟨m, false, by rw [← HB.out]; rfl, Lib.hid ⟨Hm.out.1, (fun h => by cases h), fun u hu he => absurd (by rw [he]; exact (dec_plain u).1) HD.out, Hm.out.2.drew⟩⟩
          · have hbz : (((s[0]'hp).toNat : Int) != 48) = true := by simp; exact fun e => hz (UInt8.toNat_inj.1 (by have : (48 : UInt8).toNat = 48 := rfl; omega))
            have HB := Lib.hid hbz
            clear hbz
            have HD := Lib.hid (show plainD s.data.toList from ⟨HE.out.1, hnil, fun hh => absurd (by rw [hhd] at hh; exact Option.some.inj hh) hz⟩)
            clear h0 h1 hhd hnil hz
            go_upto_region 9 with fail
            refine wp_region_canw [0, 1, 2, 3, 4, 5, 6, 7, 8, 9, 10, 11, 12, 13, 14] [] [] (by kernel_rfl) (by kernel_rfl) (by kernel_rfl) (by kernel_rfl) (by intro c a d v w h; cases d <;> exact h) ?_
            iterate 15 (refine canw_sil rfl rfl (fun K hK => ?_); go_simp; refine hK _ ?_; clear hK K)
            refine canw_nil ?_
            go_wp2_with fail
            go_ret2
            refine ⟨m, true, by rw [← HB.out]; rfl, Lib.hid ⟨Hm.out.1, fun _ => ?_, fun u hu he => ⟨rfl, ?_⟩, Hm.out.2.drew⟩⟩
            · rw [← HE.out.2]; exact (dec_of _ HD.out).symm
            · rw [← HE.out.2, he]; exact (dec_plain u).2.1
end Go.Proofs.YtpjcebajkfeacaaGreatDoor
namespace Go.Proofs.YtpjcebajkfeacaaGreatDoor
open Go Go.RowKit Go.Deep
def Lit9 (s a r : List UInt8) (more : Bool) : Prop := s = a ++ (if more = true then 32 :: r else []) ∧ (more = false → r = []) ∧ ∀ (v0 : Val) (t : List UInt8), givenV v0 = true → s = v0.print ++ t → (t = [] ∨ ∃ t', t = 32 :: t') → a = v0.print ∧ r = t.drop 1 ∧ more = decide (t ≠ [])
theorem Lit9.word {s : List UInt8} (h : s.head? ≠ some 34) : Lit9 s (wordL s).1 (wordL s).2.1 (wordL s).2.2 :=
  ⟨(wordL_back s).1, (wordL_back s).2, fun v0 t hv hs ht => ⟨((LitC.word h).1 v0 t hv hs ht).1, ((LitC.word h).1 v0 t hv hs ht).2, (LitC.word h).2 v0 t hv hs ht⟩⟩
theorem Lit9.over {s : List UInt8} {i : Nat} (h : Lx s i) (hi : s.length ≤ i) (h0 : s.head? = some 34) : Lit9 s s [] false :=
  ⟨by simp, fun _ => rfl, fun v0 t hv hs _ => absurd hs (LitC.never h hi h0 v0 t hv)⟩
theorem Lit9.mark {s : List UInt8} {k : Nat} (h : Lx s k) (hk : k < s.length) (hc : s[k] = 34) (h0 : s.head? = some 34) :
    (∀ h1 : k + 1 < s.length, s[k + 1] = 32 → Lit9 s (s.take (k + 1)) (s.drop (k + 2)) true) ∧ ((∀ h1 : k + 1 < s.length, s[k + 1] ≠ 32) → Lit9 s s [] false) := by
  refine ⟨fun h1 h2 => ⟨?_, (fun e => by cases e), fun v0 t hv hs ht => ?_⟩, fun hn => ⟨by simp, fun _ => rfl, fun v0 t hv hs ht => ?_⟩⟩
  · conv => lhs; rw [← List.take_append_drop (k + 1) s, List.drop_eq_getElem_cons h1, h2]
    simp
  · obtain ⟨e1, e2⟩ := LitC.text h hk hc h0 v0 t hv hs
    have e3 : s.drop (k + 1) = 32 :: s.drop (k + 2) := by rw [List.drop_eq_getElem_cons h1, h2]
    rw [e3] at e2
    refine ⟨e1, by rw [← e2]; rfl, by rw [← e2]; rfl⟩
  · obtain ⟨e1, e2⟩ := LitC.text h hk hc h0 v0 t hv hs
    rcases ht with rfl | ⟨t', rfl⟩
    · exact ⟨by rw [hs, List.append_nil], rfl, rfl⟩
    · have h1 : k + 1 < s.length := by
        apply Nat.lt_of_not_le
        intro hle
        rw [List.drop_of_length_le hle] at e2
        cases e2
      rw [List.drop_eq_getElem_cons h1] at e2
      injection e2 with e2 _
      exact absurd e2 (hn h1)
theorem Lit9.len {s a r : List UInt8} {m : Bool} (h : Lit9 s a r m) : a.length ≤ s.length ∧ r.length ≤ s.length ∧ (m = true → r.length < s.length) := by
  have e := h.1
  cases m with
  | true =>
    simp only [if_true] at e
    have : s.length = a.length + (r.length + 1) := by conv => lhs; rw [e]
                                                      simp
    omega
  | false =>
    rw [h.2.1 rfl]
    simp only [Bool.false_eq_true, if_false, List.append_nil] at e
    rw [e]
    exact ⟨Nat.le_refl _, Nat.zero_le _, fun h => by cases h⟩
def GivesLit9 (w : World) (s : ByteArray) (e : Ending) (w' : World) : Prop := ∃ (a r : List UInt8) (m : Bool), e = .returned (.tuple #[.string (txt a), .string (txt r), .bool m]) ∧ RowKit.Hid (Lit9 s.data.toList a r m ∧ Keep No w w')
set_option maxRecDepth 10000 in
set_option maxHeartbeats 4000000 in
theorem literal9_any (s : ByteArray) (hs : s.size ≤ 1048576) (w : World) : Calls Tryz.prog 103 #[.string s] w (GivesLit9 w s) := by
  have hlen : s.data.toList.length = s.size := by simp
  have hw := word9_any s hs w
  have i20 : (s.size : Int) ≤ 1048576 := by omega
  have HS := Lib.hid (And.intro hs hlen)
  by_cases h0 : s.size = 0
  · have e0 : s = ⟨#[]⟩ := by
      obtain ⟨⟨l⟩⟩ := s
      cases l with
      | nil => rfl
      | cons _ _ => simp [ByteArray.size] at h0
    subst e0
    clear h0 hs hlen
    go_enter Tryz.func103, Tryz.ntmps103
    go_wp2_with (go_at_call 101; refine hw.mono ?_; clear hw; rintro e w2 ⟨rfl, HK⟩)
    go_ret3
    exact ⟨[], [], false, rfl, Lib.hid ⟨Lit9.word (by simp), HK.out⟩⟩
  · have hp : 0 < s.size := by omega
    have j2 : (0 : Int) < s.size := by omega
    have hhd : s.data.toList.head? = some (s[0]'hp) := by rw [List.head?_eq_getElem?, List.getElem?_eq_getElem (by omega), byte_get9]
    have hne : s.toList.isEmpty = false := by rw [empty_iff]; exact decide_eq_false h0
    by_cases hq : (s[0]'hp) = 34
    · have hb : (((s[0]'hp).toNat : Int) == 34) = true := by rw [hq]; rfl
      have HH := Lib.hid (show s.data.toList.head? = some 34 by rw [hhd, hq])
      clear h0 hs hlen hhd hq hw
      go_enter Tryz.func103, Tryz.ntmps103
      go_wp2_with fail
      go_loopg [5] (s.size - 1) (fun g i wr => ∃ k : Nat, 1 ≤ k ∧ k ≤ s.size + 1 ∧ g = s.size - k ∧ i = .int .i64 k ∧ RowKit.Hid (Lx s.data.toList k ∧ wr = w))
      case atStart => exact ⟨1, by omega, by omega, by omega, rfl, Lx.start _, rfl⟩
      case round =>
        obtain ⟨k, hk0, hk, rfl, rfl, HR⟩ := hrel
        by_cases hlt : k < s.size
        · have j1 : (k : Int) < s.size := by omega
          have j0 : (0 : Int) ≤ k := by omega
          have hl : k < s.data.toList.length := by rw [HS.out.2]; exact hlt
          have eget : s.data.toList[k] = s[k]'hlt := by simp [ByteArray.getElem_eq_getElem_data]
          have hn1 := @Lx.slash _ _ HR.out.1 hl
          have hn2 := @Lx.letter _ _ HR.out.1 hl
          have hn3 := @Lit9.mark _ _ HR.out.1 hl
          rw [eget] at hn1 hn2 hn3
          have HX := Lib.hid (And.intro hn1 (And.intro hn2 (And.intro hn3 hlt)))
          clear hn1 hn2 hn3 eget hl
          have ew : IntKind.i64.wrap ((k : Int) + 1) = (k : Int) + 1 := wrap_i64 (by omega) (by omega)
          by_cases hc : (s[k]'hlt) = 92
          · have hb : (((s[k]'hlt).toNat : Int) == 92) = true := by rw [hc]; rfl
            have HY := Lib.hid (HX.out.1 hc)
            clear hc
            go_wp2_with fail
            go_roundg (s.size - (k + 2))
            case measure => have := HX.out.2.2.2; omega
            case rel => exact ⟨k + 2, by omega, by have := HX.out.2.2.2; omega, rfl, by simp; omega, HY.out, HR.out.2⟩
          · by_cases hc2 : (s[k]'hlt) = 34
            · have hb : (((s[k]'hlt).toNat : Int) == 92) = false := by rw [hc2]; rfl
              have hb2 : (((s[k]'hlt).toNat : Int) == 34) = true := by rw [hc2]; rfl
              have HY := Lib.hid (HX.out.2.2.1 hc2 HH.out)
              clear hc hc2
              by_cases hlt2 : k + 1 < s.size
              · have j3 : (k + 1 : Int) < s.size := by omega
                have j4 : (0 : Int) ≤ k + 1 := by omega
                have eget : s.data.toList[k + 1]'(by rw [HS.out.2]; exact hlt2) = s[k + 1]'hlt2 := by simp [ByteArray.getElem_eq_getElem_data]
                by_cases hc3 : (s[k + 1]'hlt2) = 32
                · have hb3 : (((s[k + 1]'hlt2).toNat : Int) == 32) = true := by rw [hc3]; rfl
                  have HZ := Lib.hid (HY.out.1 (by rw [HS.out.2]; exact hlt2) (by rw [eget]; exact hc3))
                  have ew2 : IntKind.i64.wrap ((k : Int) + 2) = (k : Int) + 2 := wrap_i64 (by omega) (by omega)
                  have c4 : (k + 1 : Int) ≤ s.size := by omega
                  have c5 : (0 : Int) ≤ k + 2 := by omega
                  have c6 : (k + 2 : Int) ≤ s.size := by omega
                  have e1 := txt_take s (k + 1)
                  have e2 := txt_drop s (k + 2)
                  have HE := Lib.hid (And.intro e1 e2)
                  clear eget hc3 e1 e2
                  go_upto_region 10 with fail
                  refine wp_region_canw [0, 1, 2, 3, 4, 5, 6, 7, 8, 9, 10] [] [] (by kernel_rfl) (by kernel_rfl) (by kernel_rfl) (by kernel_rfl) (by intro c a d v w h; cases d <;> exact h) ?_
                  iterate 11 (refine canw_sil rfl rfl (fun K hK => ?_); go_simp; refine hK _ ?_; clear hK K)
                  refine canw_nil ?_
                  go_wp2_with fail
                  go_ret3
                  refine ⟨s.data.toList.take (k + 1), s.data.toList.drop (k + 2), true, by rw [← HE.out.1, ← HE.out.2]; rfl, Lib.hid ⟨HZ.out, ?_⟩⟩
                  rw [HR.out.2]
                  exact (Keep.refl No w).drew
                · have hb3 : (((s[k + 1]'hlt2).toNat : Int) == 32) = false := by simp; exact fun e => hc3 (UInt8.toNat_inj.1 (by have : (32 : UInt8).toNat = 32 := rfl; omega))
                  have HZ := Lib.hid (HY.out.2 (fun _ => by rw [eget]; exact hc3))
                  clear eget hc3
                  go_wp2_with fail
                  go_ret3
                  refine ⟨s.data.toList, [], false, by rw [txt_self]; rfl, Lib.hid ⟨HZ.out, ?_⟩⟩
                  rw [HR.out.2]
                  exact Keep.refl No w
              · have j3 : ¬ (k + 1 : Int) < s.size := by omega
                have HZ := Lib.hid (HY.out.2 (fun h => absurd (by rw [HS.out.2] at h; exact h) hlt2))
                clear hlt2
                go_wp2_with fail
                go_ret3
                refine ⟨s.data.toList, [], false, by rw [txt_self]; rfl, Lib.hid ⟨HZ.out, ?_⟩⟩
                rw [HR.out.2]
                exact Keep.refl No w
            · have hb : (((s[k]'hlt).toNat : Int) == 92) = false := by simp; exact fun e => hc (UInt8.toNat_inj.1 (by have : (92 : UInt8).toNat = 92 := rfl; omega))
              have hb2 : (((s[k]'hlt).toNat : Int) == 34) = false := by simp; exact fun e => hc2 (UInt8.toNat_inj.1 (by have : (34 : UInt8).toNat = 34 := rfl; omega))
              have HY := Lib.hid (HX.out.2.1 hc2 hc)
              clear hc hc2
              go_wp2_with fail
              go_roundg (s.size - (k + 1))
              case measure => have := HX.out.2.2.2; omega
              case rel => exact ⟨k + 1, by omega, by omega, rfl, by simp, HY.out, HR.out.2⟩
        · have j1 : ¬ (k : Int) < s.size := by omega
          have HZ := Lib.hid (Lit9.over HR.out.1 (by rw [HS.out.2]; omega) HH.out)
          clear hlt
          go_wp2_with fail
          go_ret3
          refine ⟨s.data.toList, [], false, by rw [txt_self]; rfl, Lib.hid ⟨HZ.out, ?_⟩⟩
          rw [HR.out.2]
          exact Keep.refl No w
    · have hb : (((s[0]'hp).toNat : Int) == 34) = false := by simp; exact fun e => hq (UInt8.toNat_inj.1 (by have : (34 : UInt8).toNat = 34 := rfl; omega))
      have HH := Lib.hid (Lit9.word (s := s.data.toList) (by rw [hhd]; simpa using hq))
      clear h0 hs hlen hhd hq
      go_enter Tryz.func103, Tryz.ntmps103
      go_wp2_with (go_at_call 101; refine hw.mono ?_; clear hw; rintro e w2 ⟨rfl, HK⟩)
      go_ret3
      exact ⟨_, _, _, rfl, Lib.hid ⟨HH.out, HK.out⟩⟩
end Go.Proofs.YtpjcebajkfeacaaGreatDoor
