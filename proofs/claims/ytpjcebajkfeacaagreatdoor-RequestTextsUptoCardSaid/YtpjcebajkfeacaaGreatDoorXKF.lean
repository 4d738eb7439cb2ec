/-
  Parts of what is proved for this claim; each declaration is one of the seat's texts.
-/
import Derived.Test.YtpjcebajkfeacaaGreatDoorXGA
import Derived.Test.YtpjcebajkfeacaaGreatDoorXGC
import Derived.Test.YtpjcebajkfeacaaGreatDoorXGD
import Derived.Test.YtpjcebajkfeacaaGreatDoorXGF
import Derived.Test.YtpjcebajkfeacaaGreatDoorXGK
import Derived.Test.YtpjcebajkfeacaaGreatDoorXGU
import Derived.Test.YtpjcebajkfeacaaGreatDoorXGV
import Derived.Test.YtpjcebajkfeacaaGreatDoorXGX
import Derived.Test.YtpjcebajkfeacaaGreatDoorXHA
import Derived.Test.YtpjcebajkfeacaaGreatDoorXHF
import Derived.Test.YtpjcebajkfeacaaGreatDoorXHG
import Derived.Test.YtpjcebajkfeacaaGreatDoorXHJ
import Derived.Test.YtpjcebajkfeacaaGreatDoorXHN
import Derived.Test.YtpjcebajkfeacaaGreatDoorXHQ
import Derived.Test.YtpjcebajkfeacaaGreatDoorXHR
import Derived.Test.YtpjcebajkfeacaaGreatDoorXKA
import Derived.Test.YtpjcebajkfeacaaGreatDoorXKB
import Derived.Test.YtpjcebajkfeacaaGreatDoorXKC
import Derived.Test.YtpjcebajkfeacaaGreatDoorXKD
import Derived.Test.YtpjcebajkfeacaaGreatDoorXKE
import Derived.Lib.ParseIntB
import Derived.Shelf.Pu.ParseUintPublic10
import Derived.Shelf.Strconv.ParseIntPublic10
import Derived.Shelf.Strings.Search2
import Derived.Shelf.Strings.Prefix
import Derived.Ground.MpProg
import Derived.Ground.NamesProg
import Derived.Lib.ParseIntBCases
import Derived.Lib.ParseIntBTie
set_option linter.unusedVariables false
set_option linter.unusedSimpArgs false
namespace Go.Proofs.YtpjcebajkfeacaaGreatDoor
open Go Go.RowKit Go.Deep
theorem more_of {q : Req} (h : q.Fine) : (wordL q.print).2.2 = true ∧ (wordL (wordL q.print).2.1).2.2 = true ∧ (wordL (wordL (wordL q.print).2.1).2.1).2.2 = decide (q.args ≠ []) := by
  rw [print_eq]
  obtain ⟨-, -, hn, -, -⟩ := h.parts
  rw [wordL_app _ _ fun c hc => ((itoa_letters _).1 c hc).1]
  simp only
  rw [wordL_app _ _ fun c hc => ((itoa_letters _).1 c hc).1]
  simp only
  refine ⟨trivial, trivial, ?_⟩
  rcases tailP_form q.args with e | e
  · have e2 := tailP_nil e
    rw [e, List.append_nil, wordL_none _ (name_letters hn).1, e2]
    rfl
  · rw [e, wordL_app _ _ (name_letters hn).1]
    have : q.args ≠ [] := fun e2 => by rw [e2] at e; cases e
    exact (decide_eq_true this).symm
theorem bad_false {m1 m2 o1 o2 : Bool} {n : Int} (h : false = (!m1 || (!m2 || (!o1 || (!o2 || decide ((64 : Int) ≤ n)))))) : m1 = true ∧ m2 = true ∧ o1 = true ∧ o2 = true ∧ n < 64 := by
  cases m1 <;> cases m2 <;> cases o1 <;> cases o2 <;> simp_all
theorem itoa_of (n : Nat) : Lib.itoa (n : Int) = Lib.decDigits n := by
  unfold Lib.itoa
  rw [if_neg (by omega)]
  rfl
def ArgsR (s c1 c2 c3 : List UInt8) (l : List Val) (rest : List UInt8) (more : Bool) : Prop :=
  (more = false → rest = []) ∧ (∀ q0 : Req, q0.Fine → s = q0.print → ∃ r, q0.args = l ++ r ∧ rest = restP r ∧ more = decide (r ≠ [])) ∧ s = c1 ++ 32 :: (c2 ++ 32 :: (c3 ++ (tailP l ++ (if more = true then 32 :: rest else []))))
theorem ArgsR.step {s c1 c2 c3 : List UInt8} {l : List Val} {rest a r' : List UInt8} {m' : Bool} {v : Val} {er : Int} (h : ArgsR s c1 c2 c3 l rest true) (hl : Lit9 rest a r' m') (hc : VpC a v er) (hs : VpS a v er) : (er ≠ 0 → ∀ q0 : Req, q0.Fine → s ≠ q0.print) ∧ (er = 0 → ArgsR s c1 c2 c3 (l ++ [v]) r' m') := by
  have key : ∀ q0 : Req, q0.Fine → s = q0.print → er = 0 ∧ ∃ r, q0.args = (l ++ [v]) ++ r ∧ r' = restP r ∧ m' = decide (r ≠ []) := fun q0 hf hp => by
    obtain ⟨r, h1, h2, h3⟩ := h.2.1 q0 hf hp
    cases r with
    | nil => cases h3
    | cons x r2 =>
      have hgx := hf.parts.2.2.2.2 x (by rw [h1]; simp)
      have hIx := hf.args x (by rw [h1]; simp)
      rw [restP_cons] at h2
      obtain ⟨h4, h5, h6⟩ := hl.2.2 x (tailP r2) hgx h2 (by rcases tailP_form r2 with e | e; exact .inl e; exact .inr ⟨_, e⟩)
      obtain ⟨h7, h8⟩ := hc x (given_kinds hgx).1 hIx h4
      refine ⟨h7, r2, by rw [h1, h8]; simp, h5, ?_⟩
      rw [h6]
      cases r2 with
      | nil => rfl
      | cons y r3 => rfl
  refine ⟨fun he q0 hf hp => he (key q0 hf hp).1, fun he => ⟨hl.2.1, fun q0 hf hp => (key q0 hf hp).2, ?_⟩⟩
  rw [h.2.2]
  simp only [if_true]
  have h1 := hl.1
  rw [(hs he).2] at h1
  rw [h1, tailP_app]
  simp [tailP]
theorem tailP_len (l : List Val) : l.length ≤ (tailP l).length := by
  induction l with
  | nil => exact Nat.le_refl _
  | cons v l ih => rw [tailP_cons, List.length_cons, List.length_cons, List.length_append]; omega
theorem ArgsR.len {s c1 c2 c3 : List UInt8} {l : List Val} {rest : List UInt8} {more : Bool} (h : ArgsR s c1 c2 c3 l rest more) : l.length + rest.length + 2 ≤ s.length := by
  have h1 := congrArg List.length h.2.2
  have h2 := tailP_len l
  simp only [List.length_append, List.length_cons] at h1
  cases more with
  | true => simp only [if_true, List.length_cons] at h1; omega
  | false => rw [h.1 rfl]; simp only [List.length_nil]; omega
theorem ArgsR.done {s c1 c2 c3 : List UInt8} {l : List Val} {rest : List UInt8} {n t : Nat} {nm : ByteArray} (h : ArgsR s c1 c2 c3 l rest false) (h1 : c1 = Lib.decDigits n) (h2 : c2 = Lib.decDigits t) (h3 : c3 = nm.data.toList) : s = (mkReq n t nm l).print := by
  rw [print_eq, h.2.2, h1, h2, h3]
  show _ = Lib.itoa (n : Int) ++ 32 :: (Lib.itoa (t : Int) ++ 32 :: (nm.data.toList ++ tailP l))
  rw [itoa_of, itoa_of]
  simp
set_option maxRecDepth 10000 in
set_option maxHeartbeats 4000000 in
theorem rqParse_any (s : ByteArray) (hs : s.size ≤ 1048576) (w : World) : Calls Tryz.prog 43 #[.string s] w (GivesQP w s) := by
  have x0 := blk_new w (.cells #[.int .i64 0, .int .u64 0, .string ⟨#[]⟩, .slice none 0 0] 29)
  have K0 := (Keep.refl No w).alloc (.cells #[.int .i64 0, .int .u64 0, .string ⟨#[]⟩, .slice none 0 0] 29)
  have hlen : s.data.toList.length = s.size := by simp
  obtain ⟨c1, r1, m1, hw1⟩ : ∃ c1 r1 m1, wordL s.data.toList = (c1, r1, m1) := ⟨_, _, _, rfl⟩
  obtain ⟨c2, r2, m2, hw2⟩ : ∃ c2 r2 m2, wordL r1 = (c2, r2, m2) := ⟨_, _, _, rfl⟩
  obtain ⟨c3, r3, m3, hw3⟩ : ∃ c3 r3 m3, wordL r2 = (c3, r3, m3) := ⟨_, _, _, rfl⟩
  have hl1 := wordL_len s.data.toList
  have hl2 := wordL_len r1
  have hl3 := wordL_len r2
  have hb1 := wordL_back s.data.toList
  have hb2 := wordL_back r1
  have hb3 := wordL_back r2
  rw [hw1] at hl1 hb1
  rw [hw2] at hl2 hb2
  rw [hw3] at hl3 hb3
  simp only at hb1 hb2 hb3
  have sz : ∀ l : List UInt8, (txt l).size = l.length := txt_size
  have HC1 : RowKit.Hid (∀ W, Calls Tryz.prog 101 #[.string s] W fun e w' => e = .returned (.tuple #[.string (txt c1), .string (txt r1), .bool m1]) ∧ RowKit.Hid (Keep No W w')) := fun W => by
    have := word9_any s hs W
    rw [hw1] at this
    exact this
  have HC2 : RowKit.Hid (∀ W, Calls Tryz.prog 101 #[.string (txt r1)] W fun e w' => e = .returned (.tuple #[.string (txt c2), .string (txt r2), .bool m2]) ∧ RowKit.Hid (Keep No W w')) := fun W => by
    have := word9_any (txt r1) (by rw [sz]; have := hl1.2.1; simp only at this; omega) W
    rw [txt_data, hw2] at this
    exact this
  have HC3 : RowKit.Hid (∀ W, Calls Tryz.prog 101 #[.string (txt r2)] W fun e w' => e = .returned (.tuple #[.string (txt c3), .string (txt r3), .bool m3]) ∧ RowKit.Hid (Keep No W w')) := fun W => by
    have := word9_any (txt r2) (by rw [sz]; have h1 := hl1.2.1; have h2 := hl2.2.1; simp only at h1 h2; omega) W
    rw [txt_data, hw3] at this
    exact this
  have HN1 : RowKit.Hid (∀ W, Calls Tryz.prog 102 #[.string (txt c1)] W (GivesNb W (txt c1))) := fun W => number9_any _ (by rw [sz]; have := hl1.1; simp only at this; omega) W
  have HN2 : RowKit.Hid (∀ W, Calls Tryz.prog 102 #[.string (txt c2)] W (GivesNb W (txt c2))) := fun W => number9_any _ (by rw [sz]; have h1 := hl1.2.1; have h2 := hl2.1; simp only at h1 h2; omega) W
  have hwords : ∀ q0 : Req, q0.Fine → s.data.toList = q0.print → (c1 = Lib.itoa q0.client ∧ c2 = Lib.itoa q0.token ∧ c3 = q0.name.data.toList ∧ r3 = restP q0.args) ∧ m1 = true ∧ m2 = true ∧ m3 = decide (q0.args ≠ []) := fun q0 hf hp => by
    have h := words_of hf
    have h' := more_of hf
    rw [← hp, hw1] at h h'
    simp only at h h'
    rw [hw2] at h h'
    simp only at h h'
    rw [hw3] at h h'
    exact ⟨h, h'⟩
  have hr3 : r3.length ≤ s.size ∧ c3.length ≤ s.size := by
    have h1 := hl1.2.1; have h2 := hl2.2.1; have h3 := hl3.2.1; have h4 := hl3.1
    simp only at h1 h2 h3 h4
    omega
  have hback : m1 = true → m2 = true → (m3 = false → r3 = []) ∧ s.data.toList = c1 ++ 32 :: (c2 ++ 32 :: (c3 ++ (if m3 = true then 32 :: r3 else []))) := fun e1 e2 => by
    refine ⟨hb3.2, ?_⟩
    have h1 := hb1.1
    have h2 := hb2.1
    rw [e1, if_pos rfl] at h1
    rw [e2, if_pos rfl] at h2
    rw [h1, h2]
    congr 3
    congr 2
    exact hb3.1
  have HH := Lib.hid (And.intro hs (And.intro hwords (And.intro hr3 (And.intro hback (And.intro K0 x0)))))
  clear hs hw1 hw2 hw3 hl1 hl2 hl3 hb1 hb2 hb3 sz hwords hr3 hback
  go_enter Tryz.func43, Tryz.ntmps43
  go_upto_region 4 with (first | (go_at_call 101; refine (HC1.out _).mono ?_; clear HC1; rintro e w2 ⟨rfl, H2⟩) | (go_at_call 101; refine (HC2.out _).mono ?_; clear HC2; rintro e w3 ⟨rfl, H3⟩) | (go_at_call 101; refine (HC3.out _).mono ?_; clear HC3; rintro e w4 ⟨rfl, H4⟩))
  have k4 := ((H2.out.trans H3.out).trans H4.out)
  have K4 := Lib.hid (K0.trans k4)
  have X4 := Lib.hid (k4.blk x0 (fun x => x))
  clear H2 H3 H4 k4 K0 x0
  go_upto_region 6 with (first | (go_at_call 102; refine (HN1.out _).mono ?_; clear HN1; rintro e w5 ⟨n, o1, rfl, H5⟩) | (go_at_call 102; refine (HN2.out _).mono ?_; clear HN2; rintro e w6 ⟨t, o2, rfl, H6⟩))
  have K6 := Lib.hid (K4.out.trans (H5.out.2.2.2.trans H6.out.2.2.2))
  have X6 := Lib.hid ((H5.out.2.2.2.trans H6.out.2.2.2).blk X4.out (fun x => x))
  have HN := Lib.hid (show n < 18446744073709551616 ∧ t < 18446744073709551616 ∧ (o1 = true → c1 = Lib.decDigits n) ∧ (o2 = true → c2 = Lib.decDigits t) ∧ (∀ u : Nat, u < 18446744073709551616 → c1 = Lib.decDigits u → o1 = true ∧ n = u) ∧ (∀ u : Nat, u < 18446744073709551616 → c2 = Lib.decDigits u → o2 = true ∧ t = u) from by
    have h1 := H5.out
    have h2 := H6.out
    rw [txt_data] at h1 h2
    exact ⟨h1.1, h2.1, h1.2.1, h2.2.1, h1.2.2.1, h2.2.2.1⟩)
  clear H5 H6 K4 X4
  have n0 : (0 : Int) ≤ n := by omega
  obtain ⟨bad, hbad⟩ : ∃ bad : Bool, bad = (!m1 || (!m2 || (!o1 || (!o2 || decide ((64 : Int) ≤ n))))) := ⟨_, rfl⟩
  go_cut [65] (fun x wx => x = .bool bad ∧ wx = w6)
  case first =>
    clear HH HN K6 X6
    cases m1 with
    | false => subst hbad; go_wp2_with fail; go_meet; case rel => exact ⟨rfl, rfl⟩
    | true =>
      cases m2 with
      | false => subst hbad; go_wp2_with fail; go_meet; case rel => exact ⟨rfl, rfl⟩
      | true =>
        cases o1 with
        | false => subst hbad; go_wp2_with fail; go_meet; case rel => exact ⟨rfl, rfl⟩
        | true =>
          cases o2 with
          | false => subst hbad; go_wp2_with fail; go_meet; case rel => exact ⟨rfl, rfl⟩
          | true =>
            by_cases hn : (64 : Int) ≤ n
            · rw [decide_eq_true hn] at hbad
              subst hbad; go_wp2_with fail; go_meet; case rel => exact ⟨rfl, rfl⟩
            · rw [decide_eq_false hn] at hbad
              subst hbad; go_wp2_with fail; go_meet; case rel => exact ⟨rfl, rfl⟩
  case rest =>
    obtain ⟨rfl, hw⟩ := hcut
    subst hw
    have hq0 : ∀ q0 : Req, q0.Fine → s.data.toList = q0.print → bad = false ∧ (n : Int) = q0.client ∧ (t : Int) = q0.token ∧ c3 = q0.name.data.toList := fun q0 hf hp => by
      obtain ⟨⟨h1, h2, h3, h4⟩, h5, h6, h7⟩ := HH.out.2.1 q0 hf hp
      obtain ⟨p1, p2, -⟩ := hf.parts
      have t0 := hf.t0
      have t1 := hf.t1
      obtain ⟨h8, h9⟩ := HN.out.2.2.2.2.1 q0.client.toNat (by omega) (by rw [h1]; unfold Lib.itoa; rw [if_neg (by omega)])
      obtain ⟨h10, h11⟩ := HN.out.2.2.2.2.2 q0.token.toNat (by omega) (by rw [h2]; unfold Lib.itoa; rw [if_neg (by omega)])
      have h12 : ¬ (64 : Int) ≤ n := by omega
      refine ⟨by rw [hbad, h5, h6, h8, h10, decide_eq_false h12]; rfl, by omega, by omega, h3⟩
    cases bad with
    | true =>
      have HV := Lib.hid (show ∀ q0 : Req, q0.Fine → s.data.toList ≠ q0.print from fun q0 hf hp => by have := (hq0 q0 hf hp).1; cases this)
      have R9 := X6.out
      have d9 := blk_cell R9
      have z9 := blk_fro R9
      clear hq0 hbad
      go_wp2_with fail
      have y9 := blk_four R9 (.int .i64 0) (.int .u64 0) (.string ⟨#[]⟩) (.slice none 0 0)
      have k9 := (K6.out).then (keep_four _ w.heap.size (.int .i64 0) (.int .u64 0) (.string ⟨#[]⟩) (.slice none 0 0)) fun k hkw e => by have : k = w.heap.size := e; omega
      have s9 := blk_cell y9
      refine bodyPost_ret (v := .tuple #[.agg #[.int .i64 0, .int .u64 0, .string ⟨#[]⟩, .slice none 0 0], .int .i64 2]) (by simp [results, Tryz.results43, go_sem, s9]) rfl ?_
      exact ⟨req0, 2, none, 0, rfl, req0_rd _ _, ⟨fun h => absurd h (by decide), fun _ => ⟨rfl, rfl⟩, fun q0 hf hp => absurd hp (HV.out q0 hf)⟩, fun h => absurd h (by decide), k9⟩
    | false =>
      obtain ⟨rfl, rfl, rfl, rfl, hn64⟩ := bad_false hbad
      have HQ0 := Lib.hid (fun q0 hf hp => (hq0 q0 hf hp).2)
      have en1 : IntKind.i64.wrap (n : Int) = n := wrap_i64 (by omega) (by omega)
      have hp6 : w.heap.size < wc.heap.size := blk_lt X6.out
      have b7 := blk_new wc (.cells #[.int .i64 n, .int .u64 t, .string (txt c3), .slice none 0 0] 29)
      have k7 := K6.out.alloc (.cells #[.int .i64 n, .int .u64 t, .string (txt c3), .slice none 0 0] 29)
      have g7 := blk_alloc (o' := .cells #[.int .i64 n, .int .u64 t, .string (txt c3), .slice none 0 0] 29) X6.out
      have hs7 : (wc.alloc (.cells #[.int .i64 n, .int .u64 t, .string (txt c3), .slice none 0 0] 29)).heap.size = wc.heap.size + 1 := by simp
      have H7 : RowKit.Hid (QpW w wc.heap.size (wc.heap.size + 1) n t (txt c3) (.slice none 0 0) [] (wc.alloc (.cells #[.int .i64 n, .int .u64 t, .string (txt c3), .slice none 0 0] 29))) := ⟨k7, g7, b7, Own.nil _ _ _ _, hp6, Nat.lt_succ_self _, by rw [hs7]; exact Nat.le_refl _⟩
      have HA : RowKit.Hid (ArgsR s.data.toList c1 c2 c3 [] r3 m3) := by
        obtain ⟨h1, h2⟩ := HH.out.2.2.2.1 rfl rfl
        exact ⟨h1, fun q0 hf hp => by
          have h9 := HH.out.2.1 q0 hf hp
          exact ⟨q0.args, rfl, h9.1.2.2.2, h9.2.2.2⟩, by simpa [tailP] using h2⟩
      have HB := Lib.hid (show n < 64 ∧ t < 18446744073709551616 ∧ c1 = Lib.decDigits n ∧ c2 = Lib.decDigits t ∧ s.size ≤ 1048576 ∧ r3.length ≤ s.size ∧ c3.length ≤ s.size from ⟨by omega, HN.out.2.1, HN.out.2.2.1 rfl, HN.out.2.2.2.1 rfl, HH.out.1, HH.out.2.2.1⟩)
      have b8 := blk_new wc (.cells #[.int .i64 0, .int .u64 0, .string ⟨#[]⟩, .slice none 0 0] 29)
      have c8 := blk_cell b8
      have z8 := blk_fro b8
      clear hq0 hbad k7 g7 hs7 hp6 b7 K6 X6 HH HN b8
      go_upto_region 8 with fail
      go_wp2_with fail
      clear c8 z8
      generalize (wc.alloc (.cells #[.int .i64 n, .int .u64 t, .string (txt c3), .slice none 0 0] 29)) = w9 at *
      generalize wc.heap.size = Q at *
      go_loopg [5, 10] (r3.length + (if m3 = true then 1 else 0)) (fun g x y wr => ∃ (l : List Val) (rest : List UInt8) (more : Bool) (v : Value), x = .string (txt rest) ∧ y = .bool more ∧ g = rest.length + (if more = true then 1 else 0) ∧ RowKit.Hid (QpW w Q (Q + 1) n t (txt c3) v l wr ∧ l.length + rest.length ≤ s.size ∧ ArgsR s.data.toList c1 c2 c3 l rest more))
      case atStart => exact ⟨[], r3, m3, _, rfl, rfl, rfl, H7.out, by have := HB.out.2.2.2.2.2.1; simpa using this, HA.out⟩
      case round =>
        obtain ⟨l, rest, more, v0, rfl, rfl, hg, HR⟩ := hrel
        have hsz : (txt rest).size = rest.length := txt_size rest
        cases more with
        | false =>
          obtain ⟨av, cv, hv, -⟩ := Own.form HR.out.1.own
          subst hv
          have f1 : (Lit.int .i64 (n : Int)).wf = true := wf_i64 (by omega) (by have := HB.out.1; omega)
          have f2 : (Lit.int .u64 (t : Int)).wf = true := wf_u64k (by omega) (by have := HB.out.2.1; omega)
          have f3 : (txt c3).size ≤ 9223372036854775807 := by rw [txt_size]; have h1 := HB.out.2.2.2.2.2.2; have h2 := HB.out.2.2.2.2.1; omega
          have hq : Rd requestSh wr (Fr (Q + 1) wr.heap.size) [.int .i64 n, .int .u64 t, .string (txt c3), .slice av l.length cv] (mkReq n t (txt c3) l) :=
            ⟨[.int .i64 n], _, rfl, ⟨rfl, f1⟩, [.int .u64 t], _, rfl, ⟨rfl, f2⟩, [.string (txt c3)], _, rfl, ⟨rfl, by rw [maxLen_is]; exact f3⟩, [.slice av l.length cv], [], rfl, Own.rd HR.out.1.own, rfl⟩
          have hIn : ∀ v ∈ l, v.In := fun v hv => by
            obtain ⟨k, hk, rfl⟩ := List.getElem_of_mem hv
            obtain ⟨-, -, -, -, -, -, -, -, hI, -⟩ := vals_get (Own.rd HR.out.1.own) k hk
            exact hI
          have hpr := (rCheck_any wr _ _ _ hq (by show (txt c3).size ≤ _; rw [txt_size]; have h1 := HB.out.2.2.2.2.2.2; have h2 := HB.out.2.2.2.2.1; omega)).mono (R' := fun e w10 => e = .returned (.int .i64 (mkReq n t (txt c3) l).check) ∧ w10.heap[Q]? = some (.cells #[.int .i64 n, .int .u64 t, .string (txt c3), .slice av l.length cv] 29 (0, 0)) ∧ RowKit.Hid (QpW w Q (Q + 1) n t (txt c3) (.slice av l.length cv) l w10)) (by
            rintro e w10 ⟨rfl, hk⟩
            exact ⟨rfl, (HR.out.1.more hk).F0, HR.out.1.more hk⟩)
          have heq : ∀ q0 : Req, q0.Fine → s.data.toList = q0.print → mkReq n t (txt c3) l = q0 := fun q0 hf hp => by
            obtain ⟨h1, h2, h3⟩ := HQ0.out q0 hf hp
            obtain ⟨r, h4, h5, h6⟩ := HR.out.2.2.2.1 q0 hf hp
            have hr : r = [] := Classical.byContradiction fun h => by rw [decide_eq_true h] at h6; cases h6
            rw [hr, List.append_nil] at h4
            rw [h1, h2, h3, txt_self, ← h4]
            rfl
          have hsame : s.data.toList = (mkReq n t (txt c3) l).print := HR.out.2.2.done HB.out.2.2.1 HB.out.2.2.2.1 (txt_data c3).symm
          have hfine : (mkReq n t (txt c3) l).check = 0 → (mkReq n t (txt c3) l).Fine := fun h => ⟨h, by show (0 : Int) ≤ t; omega, by have := HB.out.2.1; show (t : Int) < _; omega, hIn⟩
          have c9 := blk_cell HR.out.1.F0
          generalize hqq : mkReq n t (txt c3) l = qq at *
          have HQ := Lib.hid (And.intro hqq (And.intro heq (And.intro hfine hsame)))
          clear heq hfine hIn hq hqq hg hsz hsame
          have HW := Lib.hid (And.intro f1 (And.intro f2 f3))
          clear f1 f2 f3
          by_cases hc : qq.check = 0
          · rw [hc] at hpr
            have HC := Lib.hid hc
            clear hc
            go_wp2_with (go_at_call 49; refine hpr.mono ?_; clear hpr c9; rintro e w10 ⟨rfl, F10, H10⟩; have c10 := blk_cell F10; have R9 := H10.out.g0; have d9 := blk_cell R9; have z9 := blk_fro R9)
            have y9 := blk_four R9 (.int .i64 n) (.int .u64 t) (.string (txt c3)) (.slice av l.length cv)
            have ks := keep_four w10 w.heap.size (.int .i64 n) (.int .u64 t) (.string (txt c3)) (.slice av l.length cv)
            have k9 := H10.out.keep.then ks fun k hkw e => by have : k = w.heap.size := e; omega
            have s9 := blk_cell y9
            have o9 := Own.mono (H10.out.own.keep ks fun k hk e => by have h1 : k = w.heap.size := e; have := H10.out.q0; omega) (S' := Fr w.heap.size ((((w10.setCell ⟨w.heap.size, 0, none⟩ (.int .i64 n)).setCell ⟨w.heap.size, 1, none⟩ (.int .u64 t)).setCell ⟨w.heap.size, 2, none⟩ (.string (txt c3))).setCell ⟨w.heap.size, 3, none⟩ (.slice av l.length cv)).heap.size) (fun k hk => ⟨by have := hk.1; have := H10.out.q0; omega, hk.2⟩)
            refine bodyPost_ret (v := .tuple #[.agg #[.int .i64 n, .int .u64 t, .string (txt c3), .slice av l.length cv], .int .i64 0]) (by simp [results, Tryz.results43, go_sem, s9]) rfl ?_
            have hq9 : qq = mkReq n t (txt c3) l := HQ.out.1.symm
            refine ⟨mkReq n t (txt c3) l, 0, av, cv, rfl, ?_, ?_, fun _ => ?_, k9⟩
            · exact ⟨[.int .i64 n], _, rfl, ⟨rfl, HW.out.1⟩, [.int .u64 t], _, rfl, ⟨rfl, HW.out.2.1⟩, [.string (txt c3)], _, rfl, ⟨rfl, by rw [maxLen_is]; exact HW.out.2.2⟩, [.slice av l.length cv], [], rfl, Own.rd o9, rfl⟩
            · rw [← hq9]
              exact ⟨fun _ => ⟨HC.out, HQ.out.2.2.2⟩, fun h => absurd rfl h, fun q0 hf hp => ⟨rfl, HQ.out.2.1 q0 hf hp⟩⟩
            · rw [← hq9]; exact HQ.out.2.2.1 HC.out
          · have hc' : (qq.check != 0) = true := by simpa using hc
            have HV := Lib.hid (show ∀ q0 : Req, q0.Fine → s.data.toList ≠ q0.print from fun q0 hf hp => hc (by rw [HQ.out.2.1 q0 hf hp]; exact hf.ck))
            clear hc
            go_wp2_with (go_at_call 49; refine hpr.mono ?_; clear hpr c9; rintro e w10 ⟨rfl, F10, H10⟩; have R9 := H10.out.g0; have d9 := blk_cell R9; have z9 := blk_fro R9)
            have y9 := blk_four R9 (.int .i64 0) (.int .u64 0) (.string ⟨#[]⟩) (.slice none 0 0)
            have k9 := (H10.out.keep).then (keep_four _ w.heap.size (.int .i64 0) (.int .u64 0) (.string ⟨#[]⟩) (.slice none 0 0)) fun k hkw e => by have : k = w.heap.size := e; omega
            have s9 := blk_cell y9
            refine bodyPost_ret (v := .tuple #[.agg #[.int .i64 0, .int .u64 0, .string ⟨#[]⟩, .slice none 0 0], .int .i64 2]) (by simp [results, Tryz.results43, go_sem, s9]) rfl ?_
            exact ⟨req0, 2, none, 0, rfl, req0_rd _ _, ⟨fun h => absurd h (by decide), fun _ => ⟨rfl, rfl⟩, fun q0 hf hp => absurd hp (HV.out q0 hf)⟩, fun h => absurd h (by decide), k9⟩
        | true =>
          have hlit := literal9_any (txt rest) (by rw [hsz]; have h1 := HR.out.2.1; have h2 := HB.out.2.2.2.2.1; omega) wr
          have hlit' := hlit.mono (R' := fun e w10 => ∃ (a r' : List UInt8) (m' : Bool), e = .returned (.tuple #[.string (txt a), .string (txt r'), .bool m']) ∧ RowKit.Hid (Lit9 rest a r' m' ∧ QpW w Q (Q + 1) n t (txt c3) v0 l w10)) (by
            rintro e w10 ⟨a, r', m', rfl, h⟩
            obtain ⟨h1, h2⟩ := h.out
            rw [txt_data] at h1
            exact ⟨a, r', m', rfl, h1, HR.out.1.more h2⟩)
          have HR1 := Lib.hid (And.intro HR.out.2 hg)
          clear hlit hsz hg HR
          go_upto_region 12 with (go_at_call 103; refine hlit'.mono ?_; clear hlit'; rintro e w10 ⟨a, r', m', rfl, H10⟩)
          have hvp := (rParse_any (txt a) (by rw [txt_size]; have h1 := H10.out.1.len; have h2 := HR1.out.1.1; have h3 := HB.out.2.2.2.2.1; omega) w10).mono (R' := fun e w11 => ∃ (v : Val) (er at' : Int), e = .returned (.tuple #[.agg #[.int .i64 v.kind, .int .i64 v.num, .string v.text], .int .i64 er, .int .i64 at']) ∧ RowKit.Hid (v.In ∧ v.text.size ≤ 64 ∧ (VpC a v er ∧ VpS a v er) ∧ QpW w Q (Q + 1) n t (txt c3) v0 l w11)) (by
            rintro e w11 ⟨v, er, at', rfl, h⟩
            obtain ⟨h1, h2, h3, h4⟩ := h.out
            rw [txt_data] at h3
            exact ⟨v, er, at', rfl, h1, h2, h3, H10.out.2.more h4⟩)
          have HL := Lib.hid (And.intro H10.out.1 H10.out.1.len)
          clear H10
          go_upto_region 13 with (go_at_call 104; refine hvp.mono ?_; clear hvp; rintro e w11 ⟨v, er, at', rfl, H11⟩; have b11 := blk_new w11 (.cells #[.int .i64 0, .int .i64 0, .string ⟨#[]⟩] 96); have c11 := blk_cell b11; have z11 := blk_fro b11)
          have b12 := blk_new w11 (.cells #[.int .i64 v.kind, .int .i64 v.num, .string v.text] 96)
          have H12 := Lib.hid (H11.out.2.2.2.more ((Keep.refl No w11).alloc (.cells #[.int .i64 v.kind, .int .i64 v.num, .string v.text] 96)))
          have HV1 := Lib.hid (And.intro H11.out.1 H11.out.2.1)
          have hstep := HR1.out.1.2.step HL.out.1 H11.out.2.2.1.1 H11.out.2.2.1.2
          clear H11 b11 c11 z11
          generalize (w11.alloc (.cells #[.int .i64 v.kind, .int .i64 v.num, .string v.text] 96)) = w12 at *
          generalize w11.heap.size = V at *
          by_cases he : er = 0
          · subst he
            have hst2 := Lib.hid (hstep.2 rfl)
            obtain ⟨av, cv, hv, -⟩ := Own.form H12.out.own
            subst hv
            obtain ⟨a3, c4, w13, hrun, ho, hk⟩ := H12.out.own.app H12.out.low v HV1.out.1 (by have := HV1.out.2; omega) (by have h1 := HR1.out.1.2.len; have h2 := HB.out.2.2.2.2.1; rw [hlen] at h1; omega)
            have H14 := Lib.hid (H12.out.grow hk ho)
            have c13 := blk_cell (hk.blk H12.out.F0 (fun h => by have := h.1; omega))
            have z13 := blk_fro (hk.blk H12.out.F0 (fun h => by have := h.1; omega))
            have c12 := blk_cell H12.out.F0
            have d12 := blk_cell b12
            have c12a := blk_cell (blk_alloc (o' := .cells #[.int .i64 v.kind, .int .i64 v.num, .string v.text] 96) H12.out.F0)
            clear hstep ho hk b12
            go_wp2_with (at_builtin; refine wpList_app rfl (.tmp 89) (.tmp 91) 27 27 rfl rfl rfl hrun ?_)
            go_roundg (r'.length + (if m' = true then 1 else 0))
            case measure =>
              have h1 := HL.out.2.2.1; have h2 := HR1.out.2; have h3 := HL.out.2.2.2
              rw [h2]
              cases m' with
              | true => have := h3 rfl; simp only [if_true]; omega
              | false => simp only [if_true, Bool.false_eq_true, if_false]; omega
            case rel => exact ⟨l ++ [v], r', m', _, rfl, rfl, rfl, H14.out, by have h1 := hst2.out.len; rw [hlen] at h1; omega, hst2.out⟩
          · have he' : (er != 0) = true := by simpa using he
            have HV := Lib.hid (hstep.1 he)
            have R9 := H12.out.g0
            have d9 := blk_cell R9
            have z9 := blk_fro R9
            clear hstep he b12
            go_wp2_with fail
            have y9 := blk_four R9 (.int .i64 0) (.int .u64 0) (.string ⟨#[]⟩) (.slice none 0 0)
            have k9 := (H12.out.keep).then (keep_four _ w.heap.size (.int .i64 0) (.int .u64 0) (.string ⟨#[]⟩) (.slice none 0 0)) fun k hkw e => by have : k = w.heap.size := e; omega
            have s9 := blk_cell y9
            refine bodyPost_ret (v := .tuple #[.agg #[.int .i64 0, .int .u64 0, .string ⟨#[]⟩, .slice none 0 0], .int .i64 2]) (by simp [results, Tryz.results43, go_sem, s9]) rfl ?_
            exact ⟨req0, 2, none, 0, rfl, req0_rd _ _, ⟨fun h => absurd h (by decide), fun _ => ⟨rfl, rfl⟩, fun q0 hf hp => absurd hp (HV.out q0 hf)⟩, fun h => absurd h (by decide), k9⟩
end Go.Proofs.YtpjcebajkfeacaaGreatDoor
namespace Go.Proofs.YtpjcebajkfeacaaGreatDoor
open Go Go.RowKit Go.Deep
theorem num_tz (w : World) (e : Int) : Calls Tryz.prog 12 #[.int .i64 e] w fun en w' => en = .returned (.int .i64 e) ∧ w = w' :=
  (num9_any w e).mono (by rintro e w' ⟨rfl, rfl⟩; exact ⟨rfl, rfl⟩)
structure TzW (w : World) (q : Req) (R : Nat) (a : Option Addr) (c : Nat) (W : World) : Prop where
  keep : Keep No w W
  r0 : W.heap[R]? = some (.cells #[.int .i64 q.client, .int .u64 q.token, .string q.name, .slice a q.args.length c] 29 (0, 0))
  rd : ∃ S, Rd requestSh W S [.int .i64 q.client, .int .u64 q.token, .string q.name, .slice a q.args.length c] q
  tab : Tab W
  errs : Errs W
theorem TzW.more {w : World} {q : Req} {R : Nat} {a : Option Addr} {c : Nat} {W W' : World} (h : TzW w q R a c W) (k : Keep No W W') : TzW w q R a c W' := by
  obtain ⟨S, hr⟩ := h.rd
  exact ⟨h.keep.trans k, k.blk h.r0 (fun x => x), ⟨S, hr.agree _ k.agreeNo⟩, h.tab.keep k, h.errs.keep k⟩
structure LayR (q : Req) (R : Nat) (a : Option Addr) (c : Nat) (W : World) : Prop where
  r0 : W.heap[R]? = some (.cells #[.int .i64 q.client, .int .u64 q.token, .string q.name, .slice a q.args.length c] 29 (0, 0))
  rd : ∃ S, Rd requestSh W S [.int .i64 q.client, .int .u64 q.token, .string q.name, .slice a q.args.length c] q
theorem LayR.more {q : Req} {R : Nat} {a : Option Addr} {c : Nat} {W W' : World} (h : LayR q R a c W) (k : Keep No W W') : LayR q R a c W' := by
  obtain ⟨S, hr⟩ := h.rd
  exact ⟨k.blk h.r0 (fun x => x), S, hr.agree _ k.agreeNo⟩
theorem LayR.mk' {q : Req} {a : Option Addr} {c : Nat} {S : Nat → Prop} {W : World} (h : Rd requestSh W S [.int .i64 q.client, .int .u64 q.token, .string q.name, .slice a q.args.length c] q) :
    LayR q W.heap.size a c (W.alloc (.cells #[.int .i64 q.client, .int .u64 q.token, .string q.name, .slice a q.args.length c] 29)) :=
  ⟨blk_new _ _, S, h.agree _ ((Keep.refl No W).alloc _).agreeNo⟩
set_option maxRecDepth 10000 in
set_option maxHeartbeats 4000000 in
theorem RequestTexts_main (w : World) (ht : Tab w) (he : Errs w) (q : Req) (S : Nat → Prop) (a : Option Addr) (c : Nat) (hq : Rd requestSh w S [.int .i64 q.client, .int .u64 q.token, .string q.name, .slice a q.args.length c] q) (hb : q.Small) (s : ByteArray) (hs : s.size ≤ 1048576) :
    Calls Tryz.prog 10 #[.agg #[.int .i64 q.client, .int .u64 q.token, .string q.name, .slice a q.args.length c], .string s] w fun e w' => e = .returned (.bool true) ∧ Keep No w w' := by
  have k1 := (Keep.refl No w).alloc (.cells #[.int .i64 q.client, .int .u64 q.token, .string q.name, .slice a q.args.length c] 29)
  have HT : RowKit.Hid (TzW w q w.heap.size a c (w.alloc (.cells #[.int .i64 q.client, .int .u64 q.token, .string q.name, .slice a q.args.length c] 29))) :=
    ⟨k1, blk_new _ _, ⟨S, hq.agree _ k1.agreeNo⟩, ht.keep k1, he.keep k1⟩
  obtain ⟨a0, c0, -, -, w1, w2, w3⟩ := req_cells hq
  have tk : 0 ≤ q.token ∧ q.token < 18446744073709551616 := by
    simp [Lit.wf, IntKind.min, IntKind.max, IntKind.signed, IntKind.bits] at w2; omega
  have HB := Lib.hid (And.intro hb (And.intro hs tk))
  have i20 : (s.size : Int) ≤ 1048576 := by omega
  clear k1 ht he hq hb hs w1 w2 w3 tk
  go_enter Tryz.func10, Tryz.ntmps10
  go_upto_region 1 with fail
  generalize (w.alloc (.cells #[.int .i64 q.client, .int .u64 q.token, .string q.name, .slice a q.args.length c] 29)) = w1 at *
  generalize w.heap.size = R0 at *
  have q1 := blk_cell HT.out.r0
  have hlong : Calls Tryz.prog 14 #[.agg #[.int .i64 q.client, .int .u64 q.token, .string q.name, .slice a q.args.length c]] w1 fun e w2 => ∃ b, e = .returned (.bool b) ∧ RowKit.Hid (TzW w q R0 a c w2) := by
    obtain ⟨S, hr⟩ := HT.out.rd
    refine (long9_any w1 S _ q hr HB.out.1).mono ?_
    rintro e w2 ⟨b, rfl, hk⟩
    exact ⟨b, rfl, HT.out.more hk⟩
  clear HT
  go_cut [19] (fun t wx => ∃ bad, t = .bool bad ∧ RowKit.Hid (TzW w q R0 a c wx))
  case first =>
    go_wp2_with (go_at_call 14; refine hlong.mono ?_; clear hlong q1; rintro e w2 ⟨b, rfl, H2⟩)
    all_goals
      go_meet
      case rel => exact ⟨_, rfl, H2.out⟩
  case rest =>
    clear q1 hlong
    obtain ⟨bad, rfl, H2⟩ := hcut
    cases bad with
    | true =>
      have hl := (live9_any wc H2.out.tab).mono (R' := fun e w' => e = .returned (.bool true) ∧ RowKit.Hid (Keep No w w')) (by
        rintro e w' ⟨rfl, hk⟩
        exact ⟨rfl, H2.out.keep.trans hk⟩)
      go_wp2_with (go_at_call 13; refine hl.mono ?_; clear hl; rintro e w3 ⟨rfl, H3⟩)
      go_ret
      exact ⟨rfl, H3.out⟩
    | false =>
      generalize wc = w2 at *
      have q2 := blk_cell H2.out.r0
      have how : Calls Tryz.prog 15 #[.agg #[.int .i64 q.client, .int .u64 q.token, .string q.name, .slice a q.args.length c]] w2 fun e w4 => ∃ ag cg, e = .returned (.agg #[.int .i64 q.client, .int .u64 q.token, .string q.name, .slice ag q.args.length cg]) ∧ RowKit.Hid (TzW w q R0 a c w4 ∧ ∃ S, Rd requestSh w4 S [.int .i64 q.client, .int .u64 q.token, .string q.name, .slice ag q.args.length cg] q) := by
        obtain ⟨S, hr⟩ := H2.out.rd
        refine (own9_any w2 S _ q hr HB.out.1.args).mono ?_
        rintro e w4 ⟨ag, cg, rfl, h⟩
        exact ⟨ag, cg, rfl, H2.out.more h.out.2, _, h.out.1⟩
      go_wp2_with (go_at_call 15; refine how.mono ?_; clear how q2; rintro e w4 ⟨ag, cg, rfl, H4⟩)
      have hpr : Calls Tryz.prog 40 #[.agg #[.int .i64 q.client, .int .u64 q.token, .string q.name, .slice ag q.args.length cg]] w4 fun e w5 => e = .returned (.tuple #[.string (txt (if q.check = 0 then q.print else [])), .int .i64 q.check]) ∧ RowKit.Hid (TzW w q R0 a c w5) := by
        obtain ⟨S, hr⟩ := H4.out.2
        refine (rqPrint_any w4 S _ q hr (by have := HB.out.1.name; omega) H4.out.1.tab).mono ?_
        rintro e w5 ⟨rfl, hk⟩
        exact ⟨rfl, H4.out.1.more hk⟩
      have HRP : RowKit.Hid (∀ W, TzW w q R0 a c W → Calls Tryz.prog 41 #[.agg #[.int .i64 q.client, .int .u64 q.token, .string q.name, .slice a q.args.length c]] W fun e w5 => e = .returned (.tuple #[.string (txt (if q.check = 0 then q.print else [])), .int .i64 q.check]) ∧ RowKit.Hid (TzW w q R0 a c w5)) := fun W hW => by
        obtain ⟨S, hr⟩ := hW.rd
        refine (rPrint_any W S _ q hr (by have := HB.out.1.name; omega) HB.out.2.2.1 HB.out.2.2.2).mono ?_
        rintro e w5 ⟨rfl, hk⟩
        exact ⟨rfl, hW.more hk.out⟩
      generalize (if q.check = 0 then q.print else []) = tx at *
      generalize q.check = ck at *
      refine hpr.mono ?_
      clear hpr H4 H2
      rintro e w5 ⟨rfl, H5⟩
      have q5 := blk_cell H5.out.r0
      have hrp := HRP.out w5 H5.out
      clear HRP
      go_upto_region 5 with (go_at_call 41; refine hrp.mono ?_; clear hrp q5; rintro e w6 ⟨rfl, H6⟩)
      clear H5
      have hqp := qParse_any s HB.out.2.1 w6 H6.out.errs H6.out.tab
      go_wp2_with fail
      refine hqp.mono ?_
      clear hqp
      rintro e w7 ⟨p1, er1, a1, c1, rfl, G7⟩
      go_upto_region 6 with fail
      have L8 := Lib.hid (LayR.mk' G7.out.1)
      have H8 := Lib.hid (H6.out.more (G7.out.2.2.2.trans ((Keep.refl No w7).alloc (.cells #[.int .i64 p1.client, .int .u64 p1.token, .string p1.name, .slice a1 p1.args.length c1] 29))))
      have I8 := Lib.hid (And.intro G7.out.2.1 G7.out.2.2.1)
      clear G7 H6
      generalize (w7.alloc (.cells #[.int .i64 p1.client, .int .u64 p1.token, .string p1.name, .slice a1 p1.args.length c1] 29)) = w8 at *
      generalize w7.heap.size = P1 at *
      have hrq := rqParse_any s HB.out.2.1 w8
      go_wp2_with fail
      refine hrq.mono ?_
      clear hrq
      rintro e w9 ⟨p2, er2, a2, c2, rfl, G9⟩
      obtain ⟨rfl, rfl⟩ := I8.out.1.same G9.out.2.1 I8.out.2 G9.out.2.2.1
      go_upto_region 7 with fail
      have k9 := G9.out.2.2.2.trans ((Keep.refl No w9).alloc (.cells #[.int .i64 p1.client, .int .u64 p1.token, .string p1.name, .slice a2 p1.args.length c2] 29))
      have L10 := Lib.hid (LayR.mk' G9.out.1)
      have M10 := Lib.hid (L8.out.more k9)
      have H10 := Lib.hid (H8.out.more k9)
      clear G9 H8 L8 I8 k9
      generalize (w9.alloc (.cells #[.int .i64 p1.client, .int .u64 p1.token, .string p1.name, .slice a2 p1.args.length c2] 29)) = w10 at *
      generalize w9.heap.size = P2 at *
      have d1 := blk_cell M10.out.r0
      have d2 := blk_cell L10.out.r0
      have heq : Calls Tryz.prog 20 #[.agg #[.int .i64 p1.client, .int .u64 p1.token, .string p1.name, .slice a1 p1.args.length c1], .agg #[.int .i64 p1.client, .int .u64 p1.token, .string p1.name, .slice a2 p1.args.length c2]] w10 fun e w' => e = .returned (.bool true) ∧ RowKit.Hid (TzW w q R0 a c w') := by
        obtain ⟨S, r1⟩ := M10.out.rd
        obtain ⟨T, r2⟩ := L10.out.rd
        refine (rrqEqual_any w10 S T _ _ p1 p1 r1 r2).mono ?_
        rintro e w' ⟨rfl, hk⟩
        exact ⟨by rw [(Req.eqb_iff _ _).2 rfl], H10.out.more hk⟩
      have HLV : RowKit.Hid (∀ W, TzW w q R0 a c W → Calls Tryz.prog 13 #[] W fun e w' => e = .returned (.bool true) ∧ RowKit.Hid (Keep No w w')) := fun W hW =>
        (live9_any W hW.tab).mono (by rintro e w' ⟨rfl, hk⟩; exact ⟨rfl, hW.keep.trans hk⟩)
      clear M10 L10 H10
      go_wp2_with (first
        | (go_at_call 12; refine (num_tz _ _).mono ?_; rintro e w20 ⟨rfl, rfl⟩)
        | (go_at_call 20; refine heq.mono ?_; clear heq d1 d2; rintro e w11 ⟨rfl, H11⟩)
        | (go_at_call 13; refine (HLV.out _ H11.out).mono ?_; rintro e w12 ⟨rfl, H12⟩))
      go_ret
      exact ⟨rfl, H12.out⟩
end Go.Proofs.YtpjcebajkfeacaaGreatDoor
namespace Go.Proofs.YtpjcebajkfeacaaGreatDoor
open Go Go.RowKit Go.Deep
theorem RequestTexts_calls (w : World) (ht : Tab w ∧ Errs w) (cs : List Value) (q : Req) (hq : Rd requestSh w (Lt w.heap.size) cs q) (bq : requestSh.bulk q ≤ 1048576) (x1 : ByteArray) (w1 : x1.size ≤ maxLen) (b1 : x1.size ≤ 1048576) :
    Calls Tryz.prog 10 #[.agg cs.toArray, .string x1] w fun e w' => e = .returned (.bool true) ∧ Keep No w w' := by
  obtain ⟨a, c, rfl, -⟩ := req_cells hq
  exact RequestTexts_main w ht.1 ht.2 q _ a c hq (req_small bq) x1 b1
end Go.Proofs.YtpjcebajkfeacaaGreatDoor
