/-
  RequestPieces: what the law does.
  RequestPieces, whatever the input.
-/
import Derived.Test.YtpjcebajkfeacaaGreatDoorGA
import Derived.Test.YtpjcebajkfeacaaGreatDoorGB
import Derived.Test.YtpjcebajkfeacaaGreatDoorGC
import Derived.Test.YtpjcebajkfeacaaGreatDoorGJ
import Derived.Test.YtpjcebajkfeacaaGreatDoorGX
import Derived.Test.YtpjcebajkfeacaaGreatDoorHB
import Derived.Test.YtpjcebajkfeacaaGreatDoorHD
import Derived.Test.YtpjcebajkfeacaaGreatDoorHF
import Derived.Test.YtpjcebajkfeacaaGreatDoorHN
import Derived.Test.YtpjcebajkfeacaaGreatDoorHR
import Derived.Test.YtpjcebajkfeacaaGreatDoorHT
import Derived.Test.YtpjcebajkfeacaaGreatDoorHU
import Derived.Test.YtpjcebajkfeacaaGreatDoorIA
import Derived.Test.YtpjcebajkfeacaaGreatDoorIB
import Derived.Test.YtpjcebajkfeacaaGreatDoorIC
namespace Go.Proofs.YtpjcebajkfeacaaGreatDoor
set_option linter.unusedVariables false
set_option linter.unusedSimpArgs false
open Go Go.RowKit Go.Deep

/-- where the pieces' loop stands -/
structure PcI (w : World) (s t : Nat) (l : List Pc) (k : Nat) (a : Option Addr) (m c : Nat) (a2 : Option Addr) (c2 : Nat) (acc : List (Req × Int)) (cur : Bytes) (n : Nat) (W : World) : Prop where
  len : m = acc.length
  pc : ∃ col, PcW w s t col cur n (fedB l k) (.slice a m c) (.slice a2 m c2) (acc.map Prod.fst) (acc.map Prod.snd) W
  q : PcQ (fedB l k) acc cur n

set_option maxRecDepth 10000 in
set_option maxHeartbeats 4000000 in
theorem RequestPieces_main (w : World) (ht : Tab w) (a0 : Option Addr) (n0 c0 : Nat) (l : List Pc) (h0 : Rd (.slice pieceSh) w (Lt w.heap.size) [.slice a0 n0 c0] l) (hs : (l.map fun p => p.b.length).sum ≤ 1048576) (b0 : n0 ≤ 1048576) :
    Calls Tryz.prog 7 #[.slice a0 n0 c0] w fun e w' => e = .returned (.bool true) ∧ Keep No w w' := by
  have hn0 := pieces_len h0
  have HT := Lib.hid ht
  have HP := Lib.hid (And.intro h0 (And.intro hs (And.intro hn0 b0)))
  clear ht h0 hs hn0 b0
  obtain ⟨pb, hpb⟩ : ∃ pb, (decide (n0 ≤ 200) && decide (fedN l 201 ≤ 20000)) = pb := ⟨_, rfl⟩
  have hpc := (pieces_any w _ a0 n0 c0 l HP.out.1 HP.out.2.1).mono (R' := fun e w2 => e = .returned (.bool pb) ∧ w = w2) (by
    rw [hpb]
    rintro e w2 ⟨rfl, rfl⟩
    exact ⟨rfl, rfl⟩)
  have HPB := Lib.hid hpb
  clear hpb
  go_enter Tryz.func7, Tryz.ntmps7
  cases pb with
  | false =>
    have hl := live9_any w HT.out
    go_wp2_with (first | (go_at_call 29; refine hpc.mono ?_; clear hpc; rintro e w2 ⟨rfl, rfl⟩) | (go_at_call 13; refine hl.mono ?_; clear hl; rintro e w3 ⟨rfl, HL⟩))
    go_ret
    exact ⟨rfl, HL⟩
  | true =>
    have HF0 : RowKit.Hid (n0 ≤ 200 ∧ ∀ k, k ≤ n0 → fedN l k ≤ 20000) := by
      have h := HPB.out
      simp only [Bool.and_eq_true, decide_eq_true_eq] at h
      refine ⟨h.1, fun k hk => ?_⟩
      have hn := HP.out.2.2.1
      have e : fedN l 201 = (l.map fun p => p.b.length).sum := by unfold fedN; rw [List.take_of_length_le (by omega)]
      have := fedN_le l k
      omega
    clear HPB
    have hnew : ∀ W : World, Calls Tryz.prog 30 #[] W (fun e w3 => e = .returned (.pointer (some ⟨W.heap.size, 0, none⟩)) ∧ w3 = W.alloc (.cells #[.slice none 0 0, .int .i64 0] 144)) := fun W => newStream_any W
    go_upto_region 5 with (first | (go_at_call 29; refine hpc.mono ?_; clear hpc; rintro e w2 ⟨rfl, rfl⟩) | (go_at_call 30; refine (hnew _).mono ?_; rintro e w3 ⟨rfl, rfl⟩))
    clear hnew
    have k4 := ((Keep.refl No w).alloc (.cells #[.slice none 0 0, .int .i64 0] 144)).alloc (.cells #[.slice none 0 0, .int .i64 0] 144)
    have s4 := blk_alloc (o' := .cells #[.slice none 0 0, .int .i64 0] 144) (blk_new w (.cells #[.slice none 0 0, .int .i64 0] 144))
    have r4 := blk_new (w.alloc (.cells #[.slice none 0 0, .int .i64 0] 144)) (.cells #[.slice none 0 0, .int .i64 0] 144)
    rw [World.size_alloc] at r4
    try rw [World.size_alloc]
    generalize ((w.alloc (.cells #[.slice none 0 0, .int .i64 0] 144)).alloc (.cells #[.slice none 0 0, .int .i64 0] 144)) = w4 at *
    obtain ⟨s, hss⟩ : ∃ s, w.heap.size = s := ⟨_, rfl⟩
    obtain ⟨t, htt⟩ : ∃ t, s + 1 = t := ⟨_, rfl⟩
    rw [hss] at s4 r4 ⊢
    rw [htt] at r4 ⊢
    have H4 : RowKit.Hid (PcI w s t l 0 none 0 0 none 0 [] [] 0 w4) := by
      refine ⟨rfl, ?_, ?_⟩
      · rw [fedB_zero]
        exact PcW.start k4 (by omega) (by omega) (by omega) s4 r4
      · rw [fedB_zero]
        exact PcQ.nil
    clear k4 s4 r4 hss htt
    go_wp2_with fail
    go_loopg [5, 6, 7] n0 (fun g va ve i wr => ∃ k : Nat, k ≤ n0 ∧ g = n0 - k ∧ i = .int .i64 k ∧ ∃ a m c a2 c2 acc cur n, va = .slice a m c ∧ ve = .slice a2 m c2 ∧ RowKit.Hid (PcI w s t l k a m c a2 c2 acc cur n wr))
    case atStart => exact ⟨0, by omega, by omega, rfl, none, 0, 0, none, 0, [], [], 0, rfl, rfl, H4.out⟩
    case round =>
      obtain ⟨k, hk, rfl, rfl, a, mm, c, a2, c2, acc, cur, n, rfl, rfl, HI⟩ := hrel
      clear H4
      have j0 : (0 : Int) ≤ (k : Int) := by omega
      by_cases hlt : k < n0
      · have j1 : (k : Int) < (n0 : Int) := by omega
        have jk : (k : Int) ≤ 1048576 := by have := HP.out.2.2.2; omega
        have hkl : k < l.length := by have := HP.out.2.2.1; omega
        have hf := fedN_succ l k hkl
        have hfb := fedB_succ l k hkl
        obtain ⟨col, h⟩ := HI.out.pc
        have HA0 := HP.out.1.agree _ h.keep.agreeNo
        obtain ⟨b, off, a1, c1, rfl, p0, p1, hB⟩ := pieces_get HA0 k hkl
        have HPG := Lib.hid (fun (W : World) (hK : Keep No w W) => (by
          obtain ⟨b', off', a1', c1', e, p0', p1', hB'⟩ := pieces_get (HP.out.1.agree _ hK.agreeNo) k hkl
          cases e
          exact ⟨a1', c1', p0', p1', hB'⟩ : ∃ a1 c1, W.cell? ⟨b, off + k * 2, none⟩ = some (.slice a1 l[k].b.length c1) ∧ W.cell? ⟨b, off + k * 2 + 1, none⟩ = some (.int .i64 l[k].ask) ∧ Rd bytesSh W (Lt w.heap.size) [.slice a1 l[k].b.length c1] l[k].b))
        obtain ⟨x, hx⟩ : ∃ x, l[k].b = x := ⟨_, rfl⟩
        obtain ⟨ask, hask⟩ : ∃ ask, l[k].ask = ask := ⟨_, rfl⟩
        obtain ⟨m, hm⟩ : ∃ m, x.length = m := ⟨_, rfl⟩
        rw [hx] at HPG hf hfb p0 hB
        rw [hask] at HPG p1
        rw [hm] at HPG hf p0 hB
        have HF := Lib.hid (And.intro hlt (And.intro hfb (And.intro (HF0.out.2 (k + 1) (by omega)) (And.intro hm (show (fedB l k).length + m ≤ 20000 by rw [fedB_len]; have := HF0.out.2 (k + 1) (by omega); omega)))))
        have hm6 : m ≤ 1048576 := by have := HF.out; omega
        clear hx hask hlt hkl hf hfb HA0 hk p1
        obtain ⟨a3, c3, w1, hrun1, ho1⟩ := clone_bytesApp wr _ _ x hB (by omega)
        rw [hm] at hrun1 ho1
        have hfeed := (h.more ho1.2).feedS ho1.rd (by have := HI.out.q.la; have := HF.out; omega)
        clear hB h
        have p0a : (wr.alloc (.cells #[] 5)).cell? ⟨b, off + k * 2, none⟩ = some (.slice a1 m c1) := (((Keep.refl No wr).alloc _).cell (World.block_lt_of_cell? _ _ p0) (fun x => x)).trans p0
        clear p0 ho1
        go_upto_region 13 with (first | (at_builtin; refine wpList_app rfl (.tmp 36) (.tmp 41) 25 25 rfl rfl rfl hrun1 ?_; clear hrun1 p0a) | (go_at_call 31; refine hfeed.mono ?_; clear hfeed; rintro e w3 ⟨rfl, H3⟩))
        obtain ⟨col3, h3⟩ := H3.out
        obtain ⟨a4, c4, p0, -, hB⟩ := HPG.out w3 h3.keep
        obtain ⟨a5, c5, w5, hrun5, ho5⟩ := clone_bytesApp w3 _ _ x hB (by have := HF.out; omega)
        rw [HF.out.2.2.2.1] at hrun5 ho5
        have hfeed := (h3.more ho5.2).feedT ho5.rd (by have := HF.out; omega)
        clear hB h3 H3
        have p0a : (w3.alloc (.cells #[] 5)).cell? ⟨b, off + k * 2, none⟩ = some (.slice a4 m c4) := (((Keep.refl No w3).alloc _).cell (World.block_lt_of_cell? _ _ p0) (fun x => x)).trans p0
        clear p0 ho5
        go_upto_region 14 with (first | (at_builtin; refine wpList_app rfl (.tmp 45) (.tmp 50) 25 25 rfl rfl rfl hrun5 ?_; clear hrun5 p0a) | (go_at_call 31; refine hfeed.mono ?_; clear hfeed; rintro e w6 ⟨rfl, H6⟩))
        have H7 : RowKit.Hid (PcI w s t l (k + 1) a mm c a2 c2 acc (cur ++ x) n w6) := ⟨HI.out.len, by rw [HF.out.2.1]; exact H6.out, by rw [HF.out.2.1]; exact HI.out.q.feed x⟩
        clear H6 HI
        generalize cur ++ x = cx at *
        clear hm6
        go_wp2_with fail
        go_loopg [5, 6, 8] 50 (fun g va ve i wq => ∃ j : Nat, j ≤ 50 ∧ g = 50 - j ∧ i = .int .i64 j ∧ ∃ a m c a2 c2 acc cur n, va = .slice a m c ∧ ve = .slice a2 m c2 ∧ RowKit.Hid (PcI w s t l (k + 1) a m c a2 c2 acc cur n wq))
        case atStart => exact ⟨0, by omega, by omega, rfl, a, mm, c, a2, c2, acc, cx, n, rfl, rfl, H7.out⟩
        case round =>
          clear H7
          obtain ⟨j, hj, rfl, rfl, a, mm, c, a2, c2, acc, cur, n, rfl, rfl, HJ⟩ := hrel
          obtain ⟨col, h⟩ := HJ.out.pc
          obtain ⟨a6', c6', -, p1, -⟩ := HPG.out wr h.keep
          have j20 : (0 : Int) ≤ (j : Int) := by omega
          by_cases hgo : (j : Int) < ask ∧ j < 50
          · have j21 : (j : Int) < ask := hgo.1
            have j22 : (j : Int) < 50 := by omega
            have HG := Lib.hid hgo
            clear hgo hj
            obtain ⟨z, ez, ok, cur', k', hnx⟩ : ∃ z ez ok cur' k', nextB cur = ((z, ez, ok), cur', k') := ⟨_, _, _, _, _, rfl⟩
            have hfl : (fedB l (k + 1)).length ≤ 20000 := by rw [fedB_len]; exact HF.out.2.2.1
            have hns := h.nextS (by have := HJ.out.q.la; omega) (by have := HJ.out.q.ln; omega) hnx
            have hwf : (Lit.int .i64 ez).wf = true := by
              obtain ⟨a', m', c', hst⟩ := h.st
              have := next_wf (own_all hst.own)
              rw [hnx] at this
              exact this
            have HX := Lib.hid (And.intro hnx (And.intro hwf (show mm ≤ 20000 by have := HJ.out.q.la; have := HJ.out.len; omega)))
            clear hnx hwf h hfl
            go_upto_region 18 with (go_at_call 32; refine hns.mono ?_; clear hns p1; rintro e w6 ⟨az, cz, rfl, H6⟩)
            have K7 := (Keep.refl No w6).alloc (.cells #[.int .i64 z.client, .int .u64 z.token, .string z.name, .slice az z.args.length cz] 29)
            have z7 := blk_new w6 (.cells #[.int .i64 z.client, .int .u64 z.token, .string z.name, .slice az z.args.length cz] 29)
            generalize (w6.alloc (.cells #[.int .i64 z.client, .int .u64 z.token, .string z.name, .slice az z.args.length cz] 29)) = w7 at *
            generalize hZ : w6.heap.size = Z at *
            clear hZ
            have H7 : RowKit.Hid (∃ col', PcW w s t col' cur' (n + k') (fedB l (k + 1)) (.slice a mm c) (.slice a2 mm c2) (acc.map Prod.fst) (acc.map Prod.snd) w7 ∧ Rd requestSh w7 (fun k => col' k = 7) [.int .i64 z.client, .int .u64 z.token, .string z.name, .slice az z.args.length cz] z) := by
              obtain ⟨col6, h6, hr6⟩ := H6.out
              exact ⟨col6, h6.more K7, hr6.agree requestSh K7.agreeNo⟩
            clear H6 K7
            cases ok with
            | false =>
              have H8 : RowKit.Hid (PcI w s t l (k + 1) a mm c a2 c2 acc cur' (n + k') w7) := by
                obtain ⟨col7, h7, -⟩ := H7.out
                exact ⟨HJ.out.len, ⟨col7, h7⟩, HJ.out.q.no HX.out.1⟩
              clear H7 z7 HJ
              go_wp2_with fail
              go_roundg (50 - (j + 1))
              case measure => have := HG.out.2; omega
              case rel => exact ⟨j + 1, by have := HG.out.2; omega, rfl, by simp, a, mm, c, a2, c2, acc, cur', n + k', rfl, rfl, H8.out⟩
            | true =>
              have K8 := (Keep.refl No w7).alloc (.cells #[.int .i64 z.client, .int .u64 z.token, .string z.name, .slice az z.args.length cz] 29)
              have b8 := blk_new w7 (.cells #[.int .i64 z.client, .int .u64 z.token, .string z.name, .slice az z.args.length cz] 29)
              obtain ⟨a4, c4, w9, hrun9, hq9⟩ : ∃ a4 c4 w9, (Builtin.append_ #[65, 65] 65 #[.slice a mm c, .slice (some ⟨w7.heap.size, 0, none⟩) 1 1]).run Tryz.prog (w7.alloc (.cells #[.int .i64 z.client, .int .u64 z.token, .string z.name, .slice az z.args.length cz] 29)) = .ok (.slice a4 (mm + 1) c4) w9 ∧
                  RowKit.Hid (∃ col', PcW w s t col' cur' (n + k') (fedB l (k + 1)) (.slice a4 (mm + 1) c4) (.slice a2 mm c2) ((acc ++ [(z, ez)]).map Prod.fst) (acc.map Prod.snd) w9) := by
                obtain ⟨col7, h7, hr7⟩ := H7.out
                obtain ⟨a4, c4, w9, hrun, -, hq⟩ := (h7.more K8).pushA b8 (hr7.agree requestSh K8.agreeNo) (by rw [List.length_map, ← HJ.out.len]; have := HX.out.2.2; omega)
                rw [List.length_map, ← HJ.out.len] at hrun hq
                refine ⟨a4, c4, w9, hrun, ?_⟩
                rw [List.map_append]
                exact hq.out
              have qz := blk_cell z7
              clear K8 b8 H7
              go_upto_region 20 with (at_builtin; refine wpList_app rfl (.tmp 73) (.tmp 75) 65 65 rfl rfl rfl hrun9 ?_; clear hrun9)
              clear qz z7
              have K10 := (Keep.refl No w9).alloc (.cells #[.int .i64 ez] 3)
              have b10 := blk_new w9 (.cells #[.int .i64 ez] 3)
              obtain ⟨a6, c6, w11, hrun11, hq11⟩ : ∃ a6 c6 w11, (Builtin.append_ #[66, 66] 66 #[.slice a2 mm c2, .slice (some ⟨w9.heap.size, 0, none⟩) 1 1]).run Tryz.prog (w9.alloc (.cells #[.int .i64 ez] 3)) = .ok (.slice a6 (mm + 1) c6) w11 ∧
                  RowKit.Hid (PcI w s t l (k + 1) a4 (mm + 1) c4 a6 c6 (acc ++ [(z, ez)]) cur' (n + k') w11) := by
                obtain ⟨col9, h9⟩ := hq9.out
                obtain ⟨a6, c6, w11, hrun, -, hq⟩ := (h9.more K10).pushE b10 HX.out.2.1 (by rw [List.length_map, ← HJ.out.len]; have := HX.out.2.2; omega)
                rw [List.length_map, ← HJ.out.len] at hrun hq
                refine ⟨a6, c6, w11, hrun, by rw [List.length_append, HJ.out.len]; rfl, ?_, HJ.out.q.ok HX.out.1⟩
                rw [List.map_append (f := Prod.snd)]
                exact hq.out
              clear K10 b10 hq9 HJ
              go_wp2_with (first | (go_at_call 12; refine (num9_eq _ _).mono ?_; rintro e w20 ⟨rfl, rfl⟩) | (at_builtin; refine wpList_app rfl (.tmp 77) (.tmp 80) 66 66 rfl rfl rfl hrun11 ?_; clear hrun11))
              go_roundg (50 - (j + 1))
              case measure => have := HG.out.2; omega
              case rel => exact ⟨j + 1, by have := HG.out.2; omega, rfl, by simp, a4, mm + 1, c4, a6, c6, acc ++ [(z, ez)], cur', n + k', rfl, rfl, hq11.out⟩
          · have HF2 := Lib.hid (show n0 - (k + 1) < n0 - k by have := HF.out.1; omega)
            clear h
            by_cases hja : (j : Int) < ask
            · have hj50 : ¬ (j : Int) < 50 := by omega
              clear hgo hj
              go_wp2_with fail
              go_roundg (n0 - (k + 1))
              case measure => exact HF2.out
              case rel => exact ⟨k + 1, HF.out.1, rfl, by simp, a, mm, c, a2, c2, acc, cur, n, rfl, rfl, HJ.out⟩
            · clear hgo hj
              go_wp2_with fail
              go_roundg (n0 - (k + 1))
              case measure => exact HF2.out
              case rel => exact ⟨k + 1, HF.out.1, rfl, by simp, a, mm, c, a2, c2, acc, cur, n, rfl, rfl, HJ.out⟩
      · have j1 : ¬ (k : Int) < (n0 : Int) := by omega
        obtain rfl : k = n0 := by omega
        have hlen := HI.out.len
        have hT : (fedB l k).length ≤ 20000 := by rw [fedB_len]; exact HF0.out.2 k (by omega)
        have hmm : mm ≤ 20000 := by have := HI.out.q.la; omega
        obtain ⟨X, cur', k', hX⟩ : ∃ X cur' k', allF 20000 cur = (X, cur', k') := ⟨_, _, _, rfl⟩
        have hXl := allF_len 20000 cur
        rw [hX] at hXl
        obtain ⟨mx, hmx⟩ : ∃ mx, X.length = mx := ⟨_, rfl⟩
        obtain ⟨mt, hmt⟩ : ∃ mt, mm + mx = mt := ⟨_, rfl⟩
        have hall : Calls Tryz.prog 33 #[.pointer (some ⟨s, 0, none⟩)] wr fun e w1 => ∃ ax cx af cf, e = .returned (.tuple #[.slice ax mx cx, .slice af mx cf]) ∧
            RowKit.Hid (∃ col', PcW w s t col' cur' (n + k') (fedB l k) (.slice a mm c) (.slice a2 mm c2) (acc.map Prod.fst) (acc.map Prod.snd) w1 ∧ Own requestSh 29 w1 (fun i => col' i = 8) (.slice ax mx cx) (X.map Prod.fst) ∧ Own (.int .i64) 3 w1 (fun i => col' i = 9) (.slice af mx cf) (X.map Prod.snd)) := by
          obtain ⟨col, h⟩ := HI.out.pc
          have := h.allS (by have := HI.out.q.la; omega) (by have := HI.out.q.ln; omega) hX
          rw [hmx] at this
          exact this
        have HX := Lib.hid (And.intro (HI.out.q.all hT hX) (And.intro hlen (And.intro hmx (And.intro hmt (And.intro hmm (And.intro (show mx ≤ 20000 by simp only at hXl; omega) hT))))))
        clear hlen hT hmm hX hXl hmx hmt HI hk hlt j1
        go_upto_region 22 with (go_at_call 33; refine hall.mono ?_; clear hall; rintro e w1 ⟨ax, cx, af, cf, rfl, H1⟩)
        obtain ⟨a4, c4, w2, hrun2, hq2⟩ : ∃ a4 c4 w2, (Builtin.append_ #[65, 65] 65 #[.slice a mm c, .slice ax mx cx]).run Tryz.prog w1 = .ok (.slice a4 mt c4) w2 ∧
            RowKit.Hid (∃ col', PcW w s t col' cur' (n + k') (fedB l k) (.slice a4 mt c4) (.slice a2 mm c2) ((acc ++ X).map Prod.fst) (acc.map Prod.snd) w2 ∧ Own (.int .i64) 3 w2 (fun i => col' i = 9) (.slice af mx cf) (X.map Prod.snd)) := by
          obtain ⟨col', h1, h2, h3⟩ := H1.out
          obtain ⟨hx1, hx2, hx3, hx4, hx5, hx6, hx7⟩ := HX.out
          obtain ⟨a4, c4, w2, hrun, -, hq⟩ := h1.appA h2 h3 (by rw [List.length_map, List.length_map]; omega)
          rw [List.length_map, List.length_map, ← hx2, hx3, hx4] at hrun hq
          refine ⟨a4, c4, w2, hrun, ?_⟩
          rw [List.map_append]
          exact hq.out
        clear H1
        go_upto_region 23 with (at_builtin; refine wpList_app rfl (.tmp 87) (.tmp 88) 65 65 rfl rfl rfl hrun2 ?_; clear hrun2)
        obtain ⟨a6, c6, w3, hrun3, hq3⟩ : ∃ a6 c6 w3, (Builtin.append_ #[66, 66] 66 #[.slice a2 mm c2, .slice af mx cf]).run Tryz.prog w2 = .ok (.slice a6 mt c6) w3 ∧
            RowKit.Hid (∃ col', PcW w s t col' cur' (n + k') (fedB l k) (.slice a4 mt c4) (.slice a6 mt c6) ((acc ++ X).map Prod.fst) ((acc ++ X).map Prod.snd) w3) := by
          obtain ⟨col', h1, h3⟩ := hq2.out
          obtain ⟨hx1, hx2, hx3, hx4, hx5, hx6, hx7⟩ := HX.out
          obtain ⟨a6, c6, w3, hrun, -, hq⟩ := h1.appE h3 (by rw [List.length_map, List.length_map]; omega)
          rw [List.length_map, List.length_map, ← hx2, hx3, hx4] at hrun hq
          refine ⟨a6, c6, w3, hrun, ?_⟩
          rw [List.map_append (f := Prod.snd)]
          exact hq.out
        clear hq2
        go_upto_region 24 with (at_builtin; refine wpList_app rfl (.tmp 90) (.tmp 91) 66 66 rfl rfl rfl hrun3 ?_; clear hrun3)
        obtain ⟨cn, hcn⟩ : ∃ cn : Nat, n + k' = cn := ⟨_, rfl⟩
        rw [hcn] at hq3 HX
        have hall : Calls Tryz.prog 33 #[.pointer (some ⟨t, 0, none⟩)] w3 fun e w5 => ∃ ax cx af cf, e = .returned (.tuple #[.slice ax mt cx, .slice af mt cf]) ∧
            RowKit.Hid (PcF w s t cur' cn (.slice a4 mt c4) (.slice a6 mt c6) (.slice ax mt cx) (.slice af mt cf) ((acc ++ X).map Prod.fst) ((acc ++ X).map Prod.snd) w5) := by
          obtain ⟨col', h1⟩ := hq3.out
          obtain ⟨hx1, hx2, hx3, hx4, hx5, hx6, hx7⟩ := HX.out
          have := h1.allT (by omega) hx1 rfl rfl
          rw [List.length_append, ← hx2, hx3, hx4] at this
          exact this
        have HY := Lib.hid (show (acc ++ X).length = mt by obtain ⟨hx1, hx2, hx3, hx4, -⟩ := HX.out; rw [List.length_append, ← hx2, hx3, hx4])
        have HM := Lib.hid (show mt ≤ 40000 by obtain ⟨hx1, hx2, hx3, hx4, hx5, hx6, hx7⟩ := HX.out; omega)
        clear hq3 HX hcn
        go_upto_region 25 with (go_at_call 33; refine hall.mono ?_; clear hall; rintro e w5 ⟨ax, cx, af, cf, rfl, H5⟩)
        generalize acc ++ X = Y at *
        obtain ⟨rl, hrl⟩ : ∃ rl, cur'.length = rl := ⟨_, rfl⟩
        have hks : ∀ i, (i = s ∨ i = t) → Calls Tryz.prog 34 #[.pointer (some ⟨i, 0, none⟩)] w5 fun e w' => e = .returned (.int .i64 cn) ∧ w5 = w' := fun i hi => by
          obtain ⟨S, h1⟩ := H5.out.st
          obtain ⟨S', h2⟩ := H5.out.tt
          rcases hi with rfl | rfl
          · exact skipped_any w5 _ S cur' cn h1
          · exact skipped_any w5 _ S' cur' cn h2
        have hkr : ∀ i, (i = s ∨ i = t) → Calls Tryz.prog 35 #[.pointer (some ⟨i, 0, none⟩)] w5 fun e w' => e = .returned (.int .i64 rl) ∧ w5 = w' := fun i hi => by
          obtain ⟨S, h1⟩ := H5.out.st
          obtain ⟨S', h2⟩ := H5.out.tt
          rw [← hrl]
          rcases hi with rfl | rfl
          · exact rest_any w5 _ S cur' cn h1
          · exact rest_any w5 _ S' cur' cn h2
        clear hrl
        go_upto_region 27 with (first | (go_at_call 34; first | (refine (hks s (.inl rfl)).mono ?_; rintro e w6 ⟨rfl, rfl⟩) | (refine (hks t (.inr rfl)).mono ?_; rintro e w6 ⟨rfl, rfl⟩)) | (go_at_call 35; first | (refine (hkr s (.inl rfl)).mono ?_; rintro e w6 ⟨rfl, rfl⟩) | (refine (hkr t (.inr rfl)).mono ?_; rintro e w6 ⟨rfl, rfl⟩)))
        clear hks hkr
        go_wp2_with fail
        go_loopg [16] mt (fun g i wr => ∃ k : Nat, k ≤ mt ∧ g = mt - k ∧ i = .int .i64 k ∧ RowKit.Hid (PcF w s t cur' cn (.slice a4 mt c4) (.slice a6 mt c6) (.slice ax mt cx) (.slice af mt cf) (Y.map Prod.fst) (Y.map Prod.snd) wr))
        case atStart => exact ⟨0, by omega, by omega, rfl, H5.out⟩
        case round =>
          clear H5
          obtain ⟨k, hk, rfl, rfl, HI⟩ := hrel
          have j0 : (0 : Int) ≤ (k : Int) := by omega
          by_cases hlt : k < mt
          · have j1 : (k : Int) < (mt : Int) := by omega
            have jk : (k : Int) ≤ 1048576 := by have := HM.out; omega
            have hY := HY.out
            have hk1 : k < (Y.map Prod.fst).length := by rw [List.length_map]; omega
            have hk2 : k < (Y.map Prod.snd).length := by rw [List.length_map]; omega
            obtain ⟨z, hz⟩ : ∃ z, (Y.map Prod.fst)[k] = z := ⟨_, rfl⟩
            obtain ⟨ez, hez⟩ : ∃ ez, (Y.map Prod.snd)[k] = ez := ⟨_, rfl⟩
            have HE := Lib.hid (show k < mt ∧ ∃ h : k < (Y.map Prod.snd).length, (Y.map Prod.snd)[k] = ez from ⟨hlt, hk2, hez⟩)
            go_upto_region 30 with fail
            have HD := Lib.hid (HI.out.more (Keep.refl No wr).drew)
            clear HI hY hk hlt
            refine wp_region_canw [0, 1, 2, 3, 4, 5, 6, 7, 8, 9, 10, 11, 12, 13, 14, 15, 16, 17, 18, 19, 20] [8] [] (by kernel_rfl) (by kernel_rfl) (by kernel_rfl) (by kernel_rfl) (by intro c a d v w h; cases d <;> exact h) ?_
            generalize wr.drew = w6 at *
            obtain ⟨S1, hra⟩ := HD.out.ra
            obtain ⟨b1, o1, aa, ca, rfl, p0, p1, p2, p3, hr1⟩ := reqs_get hra k hk1
            obtain ⟨S2, hrb⟩ := HD.out.rb
            obtain ⟨b2, o2, ab, cb, rfl, q0, q1, q2, q3, hr2⟩ := reqs_get hrb k hk1
            rw [hz] at p0 p1 p2 p3 hr1 q0 q1 q2 q3 hr2
            have heq := (rrqEqual_any w6 _ _ _ _ z z hr1 hr2).mono (R' := fun e w7 => e = .returned (.bool true) ∧ RowKit.Hid (PcF w s t cur' cn (.slice (some ⟨b1, o1, none⟩) mt c4) (.slice a6 mt c6) (.slice (some ⟨b2, o2, none⟩) mt cx) (.slice af mt cf) (Y.map Prod.fst) (Y.map Prod.snd) w7)) (by
              rintro e w7 ⟨rfl, hk⟩
              exact ⟨by rw [(Req.eqb_iff z z).2 rfl], HD.out.more hk⟩)
            clear hra hrb hr1 hr2 HD hz hez hk1 hk2
            iterate 8 (refine canw_sil rfl rfl (fun K hK => ?_); go_simp; refine hK _ ?_; clear hK K)
            refine canw_loud [] rfl rfl rfl (fun K hK => ?_)
            go_wp2_with (go_at_call 20; refine heq.mono ?_; clear heq p0 p1 p2 p3 q0 q1 q2 q3; rintro e w7 ⟨rfl, H7⟩)
            refine Mid.normal (hK _ _ stabs_nil ?_)
            clear hK K
            obtain ⟨hkt, hkk, hez⟩ := HE.out
            obtain ⟨S1, hre⟩ := H7.out.re
            obtain ⟨b3, o3, rfl, -, -, p0, -⟩ := ints_get hre k hkk
            obtain ⟨S2, hrg⟩ := H7.out.rg
            obtain ⟨b4, o4, rfl, -, -, q0, -⟩ := ints_get hrg k hkk
            rw [hez] at p0 q0
            clear hre hrg hez hkk hkt
            iterate 12 (refine canw_sil rfl rfl (fun K hK => ?_); go_simp; refine hK _ ?_; clear hK K)
            refine canw_nil ?_
            clear p0 q0
            go_wp2_with fail
            go_roundg (mt - (k + 1))
            case measure => have := HE.out.1; omega
            case rel => exact ⟨k + 1, HE.out.1, rfl, by simp, H7.out⟩
          · have j1 : ¬ (k : Int) < (mt : Int) := by omega
            have hl := (live9_any wr (HT.out.keep HI.out.keep)).mono (R' := fun e w' => e = .returned (.bool true) ∧ RowKit.Hid (Keep No w w')) (by
              rintro e w' ⟨rfl, hk⟩
              exact ⟨rfl, HI.out.keep.trans hk⟩)
            clear hk hlt
            go_wp2_with (go_at_call 13; refine hl.mono ?_; clear hl; rintro e w7 ⟨rfl, HL⟩)
            go_ret
            exact ⟨rfl, HL.out⟩
end Go.Proofs.YtpjcebajkfeacaaGreatDoor

namespace Go.Proofs.YtpjcebajkfeacaaGreatDoor
set_option linter.unusedVariables false
set_option linter.unusedSimpArgs false
open Go Go.RowKit Go.Deep

theorem bytes_bulkP (l : Bytes) : bytesSh.bulk l = l.length + 1 := by
  have e : bytesSh.bulk l = (l.map (Sh.int .u8).bulk).sum + 1 := rfl
  have : ∀ l : Bytes, (l.map (Sh.int .u8).bulk).sum = l.length := fun l => by
    induction l with
    | nil => rfl
    | cons x l ih => simp only [List.map_cons, List.sum_cons, List.length_cons, ih]; show 1 + _ = _; omega
  rw [e, this]
theorem pieces_bulkP : ∀ l : List Pc, (l.map fun p => p.b.length).sum + l.length ≤ (l.map pieceSh.bulk).sum
  | [] => Nat.le_refl _
  | p :: l => by
    have h := pieces_bulkP l
    have e : pieceSh.bulk p = (bytesSh.bulk p.b + (1 + 0)) + 1 := rfl
    rw [bytes_bulkP] at e
    simp only [List.map_cons, List.sum_cons, List.length_cons]
    omega
theorem RequestPieces_calls (w : World) (ht : Tab w) (v0 : Value) (x0 : List Pc) (h0 : Rd (.slice pieceSh) w (Lt w.heap.size) [v0] x0) (b0 : (Sh.slice pieceSh).bulk x0 ≤ 1048576) :
    Calls Tryz.prog 7 #[v0] w fun e w' => e = .returned (.bool true) ∧ Keep No w w' := by
  have e0 : (Sh.slice pieceSh).bulk x0 = (x0.map pieceSh.bulk).sum + 1 := rfl
  have hb := pieces_bulkP x0
  obtain ⟨a0, c0, e1, -⟩ := id h0
  simp only [List.cons.injEq, and_true] at e1
  subst e1
  exact RequestPieces_main w ht a0 _ c0 x0 h0 (by omega) (by omega)
end Go.Proofs.YtpjcebajkfeacaaGreatDoor
