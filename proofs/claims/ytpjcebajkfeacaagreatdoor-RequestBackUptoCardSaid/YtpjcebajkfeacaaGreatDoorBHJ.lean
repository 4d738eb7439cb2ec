/-
  Parts of what is proved for this claim; each declaration is one of the seat's texts.
-/
import Derived.Test.YtpjcebajkfeacaaGreatDoorBGA
import Derived.Test.YtpjcebajkfeacaaGreatDoorBGB
import Derived.Test.YtpjcebajkfeacaaGreatDoorBGC
import Derived.Test.YtpjcebajkfeacaaGreatDoorBGD
import Derived.Test.YtpjcebajkfeacaaGreatDoorBGF
import Derived.Test.YtpjcebajkfeacaaGreatDoorBGJ
import Derived.Test.YtpjcebajkfeacaaGreatDoorBGK
import Derived.Test.YtpjcebajkfeacaaGreatDoorBGM
import Derived.Test.YtpjcebajkfeacaaGreatDoorBGQ
import Derived.Test.YtpjcebajkfeacaaGreatDoorBGU
import Derived.Test.YtpjcebajkfeacaaGreatDoorBGV
import Derived.Test.YtpjcebajkfeacaaGreatDoorBHA
import Derived.Test.YtpjcebajkfeacaaGreatDoorBHF
import Derived.Test.YtpjcebajkfeacaaGreatDoorBHG
import Derived.WalkKit
import Derived.WalkSpells
import Derived.WalkLawsBesides
import Derived.ProofKit
import Derived.Deep.Slices
import Derived.Deep.AppendSrc
import Derived.Lib.Hide
import Derived.Lib.ItoaNum
import Derived.Lib.Join
import Derived.Still
import Derived.StillTactics
import Derived.Recover
import Derived.Defers
import Derived.Deep.QuietTactic
import Derived.BigQuiet
import Derived.Handy
import Derived.Laws.Bits64b
import Derived.Lib.Zigzag
import Derived.OwnWalk
import Derived.Deep.DeepCutAuto
import Derived.Deep.LoopGhost
import Derived.Lib.Bytealg
import Derived.Laws.Externs
import Derived.Laws.CopyRow
import Derived.Laws.IdiomCopy
import Derived.Maps.OwnSet
import Derived.Maps.RangeWalk
import Derived.Shelf.SortM.Plain
import Derived.Shelf.SortM.SortNone
import Derived.Ground.SlgmProg
import Derived.Maps.OwnOps
import Derived.Shelf.Strconv.Itoa4
import Derived.Shelf.Strings.BuilderK
import Derived.Shelf.Strings.OnBuilder
import Derived.Ground.NamesProg
import Derived.Lib.AppendIntMem
import Derived.Lib.UnsafeStr
set_option linter.unusedVariables false
set_option linter.unusedSimpArgs false
namespace Go.Proofs.YtpjcebajkfeacaaGreatDoor
open Go Go.RowKit Go.Deep
def toB (l : List UInt8) : Bytes := l.map fun c => (c.toNat : Int)
theorem quoted_snoc (l : List UInt8) (c : UInt8) : quoted (l ++ [c]) = quoted l ++ (if c = 34 ∨ c = 92 then [92, c] else [c]) := by
  induction l with
  | nil => simp only [List.nil_append, quoted]
  | cons x l ih =>
    simp only [List.cons_append, quoted]
    split <;> rw [ih] <;> rfl
theorem quoted_len (l : List UInt8) : (quoted l).length ≤ 2 * l.length := by
  induction l with
  | nil => exact Nat.le_refl _
  | cons x l ih =>
    simp only [quoted]
    split <;> simp <;> omega
theorem bytes_string {w : World} {S : Nat → Prop} {a : Option Addr} {n c : Nat} {l : List UInt8} (h : Rd bytesSh w S [.slice a n c] (toB l)) : (convert 25 9 (.slice a n c)).run Tryz.prog w = .ok (.string ⟨l.toArray⟩) w := by
  have := run_string_back (P := Tryz.prog) 25 9 5 a c n Tryz.underlying25 Tryz.underlying5 Tryz.underlying9 h
  rw [this]
  have e : textOf (toB l) = ⟨l.toArray⟩ := by
    simp [textOf, toB, Function.comp_def]
  rw [e]
theorem le_maxLen {n : Nat} (h : n ≤ 9223372036854775807) : n ≤ maxLen := by rw [maxLen_is]; exact h
theorem own_block1 {s : Sh} (hs : s.size = 1) {e : TypeId} {w : World} {S : Nat → Prop} {b : Nat} {cs : Array Value} (h : w.heap[b]? = some (.cells cs e (0, 0))) (hS : S b) (l : List s.T) (n : Nat) (hl : cs.size = l.length) (hn : n = l.length) (hm : l.length ≤ 1048576)
    (hr : ∀ i (hi : i < cs.size) (hi' : i < l.length), Rd s w No [cs[i]] l[i]) : Own s e w S (.slice (some ⟨b, 0, none⟩) n n) l := by
  subst hn
  refine ⟨some b, cs.toList.map fun v => [v], No, ⟨fun r hr => ?_, .inr ⟨b, 0, l.length, cs, rfl, by simp [hl], h, by simp [hl], by show _ ≤ maxLen; have := hm; exact le_maxLen (by omega), by rw [hs]; omega, ?_⟩⟩, by simp [hl], fun i h1 h2 => ?_, fun k hk => ⟨(Option.some.inj hk) ▸ hS, fun x => x⟩, fun k hk => hk.elim⟩
  · obtain ⟨v, -, rfl⟩ := List.mem_map.1 hr; rw [hs]; rfl
  · have e1 : (cs.toList.map fun v => [v]).flatten = cs.toList := by
      induction cs.toList with
      | nil => rfl
      | cons x l ih => simp [ih]
    rw [e1, hs]
    exact List.take_of_length_le (by simp)
  · have := hr i (by simpa using h1) h2
    simpa using this
theorem vfin1 {w w6 : World} {a : Option Addr} {n c : Nat} {l l' : List UInt8} {x : UInt8} (h : OwnB w w6 (.slice a n c) (toB (34 :: quoted l) ++ [(x.toNat : Int)])) (hq : quoted l' = quoted l ++ [x]) : OwnB w w6 (.slice a n c) (toB (34 :: quoted l')) := by
  rw [hq]
  have e : toB (34 :: (quoted l ++ [x])) = toB (34 :: quoted l) ++ [(x.toNat : Int)] := by simp [toB]
  rw [e]; exact h
theorem vfin2 {w w6 : World} {a : Option Addr} {n c : Nat} {l l' : List UInt8} {x : UInt8} (h : OwnB w w6 (.slice a n c) ((toB (34 :: quoted l) ++ [92]) ++ [(x.toNat : Int)])) (hq : quoted l' = quoted l ++ [92, x]) : OwnB w w6 (.slice a n c) (toB (34 :: quoted l')) := by
  rw [hq]
  have e : toB (34 :: (quoted l ++ [92, x])) = (toB (34 :: quoted l) ++ [92]) ++ [(x.toNat : Int)] := by simp [toB]
  rw [e]; exact h
set_option maxRecDepth 10000 in
set_option maxHeartbeats 2000000 in
theorem printV_any (v : Val) (hv : v.ok = true) (hI : v.In) (w : World) (ht : Tab w) : Calls Tryz.prog 93 #[.agg #[.int .i64 v.kind, .int .i64 v.num, .string v.text]] w fun e w' => e = .returned (.tuple #[.string ⟨v.print.toArray⟩, .int .i64 0]) ∧ Keep No w w' := by
  have K1 := (Keep.refl No w).alloc (.cells #[.int .i64 v.kind, .int .i64 v.num, .string v.text] 96)
  have x1 := blk_new w (.cells #[.int .i64 v.kind, .int .i64 v.num, .string v.text] 96)
  have hcase : v.kind = 1 ∨ v.kind = 0 ∨ (v.kind = 2 ∧ v.text.size ≤ 64) := by
    unfold Val.ok at hv
    by_cases h0 : v.kind = 0
    · exact .inr (.inl h0)
    · rw [if_neg h0] at hv
      by_cases h1 : v.kind = 1
      · exact .inl h1
      · rw [if_neg h1] at hv
        split at hv
        · rename_i h2
          simp only [Bool.and_eq_true, decide_eq_true_eq] at hv
          exact .inr (.inr ⟨h2, hv.1.2⟩)
        · cases hv
  have hts : v.text.size ≤ 9223372036854775807 := by
    unfold Val.ok at hv
    split at hv
    · simp only [Bool.and_eq_true, decide_eq_true_eq] at hv; omega
    · split at hv
      · simp only [decide_eq_true_eq] at hv; omega
      · split at hv
        · simp only [Bool.and_eq_true, decide_eq_true_eq] at hv; omega
        · cases hv
  have hval := (Valid_any v.kind v.num v.text hts (w.alloc (.cells #[.int .i64 v.kind, .int .i64 v.num, .string v.text] 96))).mono (R' := fun e w2 => e = .returned (.bool true) ∧ w2.heap[w.heap.size]? = some (.cells #[.int .i64 v.kind, .int .i64 v.num, .string v.text] 96 (0, 0)) ∧ RowKit.Hid (Keep No (w.alloc (.cells #[.int .i64 v.kind, .int .i64 v.num, .string v.text] 96)) w2 ∧ Keep No w w2)) (by
    rintro e w2 ⟨rfl, hk⟩
    exact ⟨by rw [show (mkVal v.kind v.num v.text).ok = true from hv], hk.blk x1 (fun x => x), hk, K1.trans hk⟩)
  have HX1 := Lib.hid (And.intro x1 K1)
  have hp : v.print = if v.kind = 1 then Lib.itoa v.num else if v.kind = 0 then [110, 111, 110, 101] else 34 :: (quoted v.text.data.toList ++ [34]) := rfl
  have HDI : RowKit.Hid (∀ W, Keep No w W → Calls Tryz.prog 154 #[.int .i64 v.num] W fun e w6 => e = .returned (.string ⟨(Lib.itoa v.num).toArray⟩) ∧ RowKit.Hid (Keep No w w6)) := fun W hW =>
    (digits_any v.num hI.n0 hI.n1 W (ht.keep hW)).mono (by rintro e w6 ⟨rfl, hk6⟩; exact ⟨rfl, hW.trans hk6⟩)
  rw [hp]
  clear hv hI ht K1 x1 hp hts
  generalize v.kind = y1 at *
  generalize v.num = y2 at *
  generalize v.text = y3 at *
  rcases hcase with rfl | rfl | ⟨rfl, h64⟩
  · simp only [if_true]
    go_enter Tryz.func93, Tryz.ntmps93
    go_wp2_with (first | (go_at_call 107; refine hval.mono ?_; clear hval; rintro e w2 ⟨rfl, x2, HK⟩; have q2 := blk_cell x2) | (go_at_call 154; refine (HDI.out _ HK.out.2).mono ?_; rintro e w6 ⟨rfl, HK6⟩))
    go_ret2
    exact ⟨rfl, HK6.out⟩
  · simp only [show ¬ ((0 : Int) = 1) by decide, if_false, if_true]
    go_enter Tryz.func93, Tryz.ntmps93
    go_wp2_with (go_at_call 107; refine hval.mono ?_; clear hval; rintro e w2 ⟨rfl, x2, HK⟩; have q2 := blk_cell x2)
    go_ret2
    exact ⟨rfl, HK.out.2⟩
  · simp only [show ¬ ((2 : Int) = 1) by decide, show ¬ ((2 : Int) = 0) by decide, if_false]
    have H64 := Lib.hid h64
    clear HDI
    go_enter Tryz.func93, Tryz.ntmps93
    go_upto_region 8 with (go_at_call 107; refine hval.mono ?_; clear hval; rintro e w2 ⟨rfl, x2, HK⟩; have q2 := blk_cell x2)
    have hO : OwnB (w.alloc (.cells #[.int .i64 2, .int .i64 y2, .string y3] 96)) (w2.alloc (.cells #[.int .u8 34] 5)) (.slice (some ⟨w2.heap.size, 0, none⟩) 1 1) (toB (34 :: quoted (y3.data.toList.take 0))) := by
      refine ⟨own_block1 (s := .int .u8) rfl (blk_new w2 _) ⟨HK.out.1.size, by simp⟩ (toB (34 :: quoted (y3.data.toList.take 0))) 1 rfl rfl (by simp [toB, quoted]) fun i hi hi' => ?_, HK.out.1.alloc _⟩
      have : i = 0 := by simp at hi; omega
      subst this
      exact ⟨rfl, by simp [toB]; decide⟩
    have HO := Lib.hid hO
    have HX2 := Lib.hid (blk_alloc (o' := .cells #[.int .u8 34] 5) x2)
    clear hO x2 q2
    obtain ⟨wa, hwa⟩ : ∃ wa, wa = w.alloc (.cells #[.int .i64 2, .int .i64 y2, .string y3] 96) := ⟨_, rfl⟩
    rw [← hwa] at HO HX1
    generalize w2.alloc (.cells #[.int .u8 34] 5) = w3 at *
    have q3 := blk_cell HX2.out
    go_wp2_with fail
    have hsz : y3.data.toList.length = y3.size := by simp
    go_loopg [4, 25] y3.size (fun g v i wr => ∃ k : Nat, k ≤ y3.size ∧ g = y3.size - k ∧ i = .int .i64 k ∧ RowKit.Hid (OwnB wa wr v (toB (34 :: quoted (y3.data.toList.take k)))))
    case atStart => exact ⟨0, by omega, by omega, rfl, HO.out⟩
    case round =>
      obtain ⟨k, hk, rfl, rfl, HR⟩ := hrel
      obtain ⟨a4, c4, hv, -⟩ := Own.form HR.out.1
      subst hv
      have q4 := blk_cell (HR.out.2.blk HX1.out.1 (fun x => x))
      have hql := quoted_len (y3.data.toList.take k)
      have hll : (toB (34 :: quoted (y3.data.toList.take k))).length ≤ 1000 := by
        have : (y3.data.toList.take k).length ≤ 64 := by rw [List.length_take]; omega
        simp [toB]; omega
      by_cases hlt : k < y3.size
      · have j1 : (k : Int) < y3.size := by omega
        have j0 : (0 : Int) ≤ k := by omega
        have j3 : (k : Int) ≤ 64 := by omega
        have hs : y3.data.toList.take (k + 1) = y3.data.toList.take k ++ [y3[k]] := by
          rw [List.take_succ_eq_append_getElem (by rw [hsz]; exact hlt)]
          simp [ByteArray.getElem_eq_getElem_data]
        have hq := quoted_snoc (y3.data.toList.take k) y3[k]
        rw [← hs] at hq
        have hc0 : (0 : Int) ≤ (y3[k].toNat : Int) := by omega
        have hc1 : (y3[k].toNat : Int) < 256 := by have := y3[k].toNat_lt; omega
        by_cases hb : y3[k] = 34 ∨ y3[k] = 92
        · rw [if_pos hb] at hq
          have hb' : (y3[k].toNat : Int) = 34 ∨ (y3[k].toNat : Int) = 92 := by rcases hb with e | e <;> rw [e] <;> decide
          obtain ⟨a5, c5, w5, hrun5, ho5⟩ := app_byte HR.out 92 (by decide) (by decide) (by omega)
          obtain ⟨a6, c6, w6, hrun6, ho6⟩ := app_byte ho5 (y3[k].toNat : Int) hc0 hc1 (by rw [List.length_append]; show _ + 1 + 1 ≤ _; omega)
          simp only [List.length_append, List.length_singleton] at hrun6 ho6
          have q5 := blk_cell (ho5.2.blk HX1.out.1 (fun x => x))
          have HO6 := Lib.hid (And.intro ho6 hq)
          rcases hb' with e | e
          · have e1 : ((y3[k].toNat : Int) == 34) = true := by rw [e]; rfl
            clear ho5 ho6 hq hb hs hll hql e hc0 hc1 hsz H64 h64 q3 HX2
            go_wp2_with (first | (at_builtin; refine wpList_app rfl (.tmp 40) (.tmp 41) 25 25 rfl rfl rfl hrun5 ?_) | (at_builtin; refine wpList_app rfl (.tmp 43) (.tmp 48) 25 25 rfl rfl rfl hrun6 ?_))
            go_roundg (y3.size - (k + 1))
            case measure => omega
            case rel => exact ⟨k + 1, by omega, rfl, by simp, vfin2 HO6.out.1 HO6.out.2⟩
          · have e1 : ((y3[k].toNat : Int) == 34) = false := by rw [e]; rfl
            have e2 : ((y3[k].toNat : Int) == 92) = true := by rw [e]; rfl
            clear ho5 ho6 hq hb hs hll hql e hc0 hc1 hsz H64 h64 q3 HX2
            go_wp2_with (first | (at_builtin; refine wpList_app rfl (.tmp 40) (.tmp 41) 25 25 rfl rfl rfl hrun5 ?_) | (at_builtin; refine wpList_app rfl (.tmp 43) (.tmp 48) 25 25 rfl rfl rfl hrun6 ?_))
            go_roundg (y3.size - (k + 1))
            case measure => omega
            case rel => exact ⟨k + 1, by omega, rfl, by simp, vfin2 HO6.out.1 HO6.out.2⟩
        · rw [if_neg hb] at hq
          have e1 : ((y3[k].toNat : Int) == 34) = false := by
            rw [beq_eq_false_iff_ne]; intro hh; exact hb (.inl (UInt8.toNat_inj.1 (show y3[k].toNat = 34 by omega)))
          have e2 : ((y3[k].toNat : Int) == 92) = false := by
            rw [beq_eq_false_iff_ne]; intro hh; exact hb (.inr (UInt8.toNat_inj.1 (show y3[k].toNat = 92 by omega)))
          obtain ⟨a6, c6, w6, hrun6, ho6⟩ := app_byte HR.out (y3[k].toNat : Int) hc0 hc1 (by omega)
          have HO6 := Lib.hid (And.intro ho6 hq)
          clear ho6 hq hb hs hll hql hc0 hc1 hsz H64 h64 q3 HX2
          go_wp2_with (at_builtin; refine wpList_app rfl (.tmp 43) (.tmp 48) 25 25 rfl rfl rfl hrun6 ?_)
          go_roundg (y3.size - (k + 1))
          case measure => omega
          case rel => exact ⟨k + 1, by omega, rfl, by simp, vfin1 HO6.out.1 HO6.out.2⟩
      · obtain rfl : k = y3.size := by omega
        have hf : y3.data.toList.take y3.size = y3.data.toList := List.take_of_length_le (by rw [hsz]; exact Nat.le_refl _)
        obtain ⟨a6, c6, w6, hrun6, ho6⟩ := app_byte HR.out 34 (by decide) (by decide) (by omega)
        have hconv := bytes_string (l := 34 :: (quoted y3.data.toList ++ [34])) (by
          have := ho6.rd
          rw [show toB (34 :: quoted (y3.data.toList.take y3.size)) ++ [(34 : Int)] = toB (34 :: (quoted y3.data.toList ++ [34])) by rw [hf]; simp [toB]] at this
          exact this)
        have HK6 := Lib.hid (HX1.out.2.trans ho6.2)
        clear ho6 hf hll hql hsz H64 h64 q3 HX2 HO
        go_wp2_with (at_builtin; refine wpList_app rfl (.tmp 51) (.tmp 52) 25 25 rfl rfl rfl hrun6 ?_)
        go_ret2
        exact ⟨rfl, HK6.out⟩
end Go.Proofs.YtpjcebajkfeacaaGreatDoor
namespace Go.Proofs.YtpjcebajkfeacaaGreatDoor
open Go Go.RowKit Go.Deep
def txt (l : List UInt8) : ByteArray := ⟨l.toArray⟩
theorem le_one16 {n : Nat} (h : n ≤ 100) : n * 16 ≤ 140737488355328 := by omega
theorem itoa_nat (n : Nat) : Lib.itoa (n : Int) = Lib.decDigits n := by
  unfold Lib.itoa
  rw [if_neg (by omega)]
  simp
theorem txt_data (l : List UInt8) : (txt l).data.toList = l := by simp [txt]
theorem dec_len (u : Nat) (hu : u < 18446744073709551616) : (Lib.decDigits u).length ≤ 20 := by
  rw [Lib.decDigits_length]
  by_cases h : 1 ≤ u
  · have := Lib.numDigits_eq u h hu; split at this <;> omega
  · have : u = 0 := by omega
    subst this
    rw [Lib.nDigits_small (by omega)]
    omega
theorem txt_size (l : List UInt8) : (txt l).size = l.length := (congrArg List.length (txt_data l) : (txt l).data.toList.length = l.length)
def pcs (q : Req) (k : Nat) : List ByteArray := txt (Lib.itoa q.client) :: txt (Lib.itoa q.token) :: q.name :: (q.args.take k).map fun v => txt v.print
theorem pcs_succ (q : Req) (k : Nat) (hk : k < q.args.length) : pcs q (k + 1) = pcs q k ++ [txt q.args[k].print] := by
  unfold pcs
  rw [List.take_succ_eq_append_getElem hk, List.map_append]
  rfl
theorem pcs_all (q : Req) : Lib.join ((pcs q q.args.length).map (·.data.toList)) [32] = q.print := by
  unfold pcs Req.print
  rw [List.take_of_length_le (Nat.le_refl _)]
  simp only [List.map_cons, List.map_map, txt_data]
  congr 4
theorem print_len {v : Val} (h : givenV v = true) (hi : v.In) : v.print.length ≤ 200 := by
  obtain ⟨h1, h2, h3⟩ := given_kinds h
  unfold Val.print
  rcases h3 with h3 | ⟨h3, h4⟩
  · rw [if_pos h3]; have := itoa_len v.num hi.n0 hi.n1; omega
  · rw [if_neg h3, if_neg h2]
    have := quoted_len v.text.data.toList
    have hz : v.text.data.toList.length = v.text.size := by simp
    simp; omega
theorem join_len (l : List (List UInt8)) (m : Nat) (h : ∀ x ∈ l, x.length ≤ m) : (Lib.join l [32]).length ≤ l.length * (m + 1) := by
  induction l with
  | nil => simp [Lib.join]
  | cons x l ih =>
    have ihl := ih fun y hy => h y (List.mem_cons_of_mem _ hy)
    have hx := h x List.mem_cons_self
    cases l with
    | nil => simp [Lib.join]; omega
    | cons y l =>
      have e : Lib.join (x :: y :: l) [32] = x ++ (32 :: Lib.join (y :: l) [32]) := by simp [Lib.join, List.intercalate, List.intersperse]
      rw [e, List.length_append, List.length_cons, List.length_cons, Nat.add_mul]
      omega
set_option maxRecDepth 10000 in
set_option maxHeartbeats 4000000 in
theorem rqPrint_any (w : World) (S : Nat → Prop) (cs : List Value) (q : Req) (h : Rd requestSh w S cs q) (hn : q.name.size ≤ 9223372036854775806) (ht : Tab w) :
    Calls Tryz.prog 40 #[.agg cs.toArray] w fun e w' => e = .returned (.tuple #[.string (txt (if q.check = 0 then q.print else [])), .int .i64 q.check]) ∧ Keep No w w' := by
  have h' := h
  obtain ⟨aa, ca, rfl, h4, w1, w2, w3⟩ := req_cells h
  have K1 : Keep No w (w.alloc (.cells #[.int .i64 q.client, .int .u64 q.token, .string q.name, .slice aa q.args.length ca] 29)) := (Keep.refl No w).alloc _
  have hc := (check_any _ S _ q (h'.agree _ K1.agreeNo) hn).mono (R' := fun e w3 => e = .returned (.int .i64 q.check) ∧ w3.heap[w.heap.size]? = some (.cells #[.int .i64 q.client, .int .u64 q.token, .string q.name, .slice aa q.args.length ca] 29 (0, 0)) ∧
      RowKit.Hid (Keep No (w.alloc (.cells #[.int .i64 q.client, .int .u64 q.token, .string q.name, .slice aa q.args.length ca] 29)) w3 ∧ Rd (.slice valueSh) w3 S [.slice aa q.args.length ca] q.args)) (by
    rintro e w3 ⟨rfl, hk⟩
    exact ⟨rfl, hk.blk (blk_new w _) (fun x => x), hk, (h4.agree _ K1.agreeNo).agree _ hk.agreeNo⟩)
  have HX1 := Lib.hid (And.intro K1 (blk_new w (.cells #[.int .i64 q.client, .int .u64 q.token, .string q.name, .slice aa q.args.length ca] 29)))
  obtain ⟨res, hres⟩ : ∃ res, res = txt (if q.check = 0 then q.print else []) := ⟨_, rfl⟩
  rw [← hres]
  by_cases hz : q.check = 0
  · rw [if_pos hz] at hres
    rw [hz]
    rw [hz] at hc
    have hiff := (Req.check_iff q).1 hz
    have i1 : 0 ≤ q.client := hiff.1
    have i2 : q.client < 64 := hiff.2.1
    have i3 : (Lit.int .u64 q.token).wf = true := w2
    simp [Lit.wf, IntKind.min, IntKind.max, IntKind.signed, IntKind.bits] at i3
    have i5 := nameOk_size hiff.2.2.1
    have i6 := hiff.2.2.2.1
    have hI1 : RowKit.Hid (∀ W, Keep No w W → Calls Tryz.prog 91 #[.int .i64 q.client] W fun e w4 => e = .returned (.string (txt (Lib.itoa q.client))) ∧ RowKit.Hid (Keep No W w4)) := fun W hW => (itoa_any q.client (by omega) (by omega) W (ht.keep hW)).mono (by rintro e w4 ⟨rfl, hk⟩; exact ⟨rfl, hk⟩)
    have hI2 : RowKit.Hid (∀ W, Keep No w W → Calls Tryz.prog 92 #[.int .u64 q.token, .int .i64 10] W fun e w4 => e = .returned (.string (txt (Lib.itoa q.token))) ∧ RowKit.Hid (Keep No W w4)) := fun W hW => by
      obtain ⟨u, hu⟩ : ∃ u : Nat, q.token = (u : Int) := ⟨q.token.toNat, by omega⟩
      rw [hu, itoa_nat]
      exact (fmtUint_any u (by omega) W (ht.keep hW)).mono (by rintro e w4 ⟨rfl, hk⟩; exact ⟨rfl, hk⟩)
    have HQ := Lib.hid (And.intro hiff (And.intro hres (And.intro ht (And.intro i5 (And.intro i6 i3)))))
    obtain ⟨wa, hwa⟩ : ∃ wa, wa = w.alloc (.cells #[.int .i64 q.client, .int .u64 q.token, .string q.name, .slice aa q.args.length ca] 29) := ⟨_, rfl⟩
    have HWA := Lib.hid hwa
    have HX2 : RowKit.Hid (Keep No w wa ∧ Rd (.slice valueSh) wa S [.slice aa q.args.length ca] q.args) := by rw [hwa]; exact ⟨K1, h4.agree _ K1.agreeNo⟩
    clear hwa
    clear hres hiff hz i3 i5 i6 hn w1 w2 w3 h4 h' K1 h ht
    go_enter Tryz.func40, Tryz.ntmps40
    go_wp2_with fail
    refine hc.mono ?_
    clear hc
    rintro e w3 ⟨rfl, x1, HK⟩
    have q1 := blk_cell x1
    go_wp2_with fail
    refine wp_region_canw [0, 1, 3, 4, 6, 7, 2, 5, 8, 9] [2, 5, 8] [(3, 2), (4, 2), (6, 2), (7, 2), (6, 5), (7, 5)] (by kernel_rfl) (by kernel_rfl) (by kernel_rfl) (by kernel_rfl) (by intro c a d v w h; cases d <;> exact h) ?_
    have x3 := ((Keep.refl No w3).drew).blk x1 (fun x => x)
    have k3 := HK.out.1.trans (Keep.refl No w3).drew
    have r3 := HK.out.2.agree _ (Keep.refl No w3).drew.agreeNo
    have H3 := Lib.hid (And.intro k3 r3)
    clear x1 q1 k3 r3 HK
    generalize w3.drew = w4 at *
    have q1 := blk_cell x3
    iterate 6 (refine canw_sil rfl rfl (fun K hK => ?_); go_simp; refine hK _ ?_; clear hK K)
    refine canw_loud [3, 4, 6, 7] rfl rfl rfl (fun K hK => ?_)
    go_wp2_with (go_at_call 91; refine (hI1.out w4 (HX1.out.1.trans H3.out.1)).mono ?_; rintro e w5 ⟨rfl, HK5⟩)
    have x5 := HK5.out.blk x3 (fun x => x)
    have q5 := blk_cell x5
    refine Mid.normal (hK _ _ ?_ ?_)
    · simp only [List.forall_mem_cons]
      refine ⟨?_, ?_, ?_, ?_, stabs_nil⟩ <;> exact stab_of rfl (fun K hK => by go_simp; exact hK)
    clear hK K
    refine canw_loud [6, 7] rfl rfl rfl (fun K hK => ?_)
    go_wp2_with (go_at_call 92; refine (hI2.out w5 (HX1.out.1.trans (H3.out.1.trans HK5.out))).mono ?_; rintro e w6 ⟨rfl, HK6⟩)
    have x6 := HK6.out.blk x5 (fun x => x)
    have q6 := blk_cell x6
    refine Mid.normal (hK _ _ ?_ ?_)
    · simp only [List.forall_mem_cons]
      refine ⟨?_, ?_, stabs_nil⟩ <;> exact stab_of rfl (fun K hK => by go_simp; exact hK)
    clear hK K
    refine canw_loud [] rfl rfl rfl (fun K hK => ?_)
    go_wp2_with fail
    refine Mid.normal (hK _ _ stabs_nil ?_)
    clear hK K
    iterate 1 (refine canw_sil rfl rfl (fun K hK => ?_); go_simp; refine hK _ ?_; clear hK K)
    refine canw_nil ?_
    have hO : OwnT wa (w6.alloc (.cells #[.string (txt (Lib.itoa q.client)), .string (txt (Lib.itoa q.token)), .string q.name] 9)) (.slice (some ⟨w6.heap.size, 0, none⟩) 3 3) (pcs q 0) := by
      have hk6 : Keep No wa w6 := by rw [HWA.out]; exact H3.out.1.trans (HK5.out.trans HK6.out)
      have l1 := itoa_len q.client (by omega) (by omega)
      refine ⟨own_block1 (s := .str) rfl (blk_new w6 _) ⟨hk6.size, by simp⟩ (pcs q 0) 3 rfl rfl (by show (3 : Nat) ≤ 1048576; decide) fun i hi hi' => ?_, hk6.alloc _⟩
      have l2 : (Lib.itoa q.token).length ≤ 20 := by
        have hh : q.token = ((q.token.toNat : Nat) : Int) := by have := HQ.out.2.2.2.2.2.1; omega
        rw [hh, itoa_nat]
        exact dec_len _ (by have := HQ.out.2.2.2.2.2.2; omega)
      have hm : ∀ x ∈ pcs q 0, x.size ≤ maxLen := by
        intro x hx
        have hx' : x = txt (Lib.itoa q.client) ∨ x = txt (Lib.itoa q.token) ∨ x = q.name := by simpa [pcs] using hx
        have sz : ∀ l : List UInt8, (txt l).size = l.length := fun l => (congrArg List.length (txt_data l) : (txt l).data.toList.length = l.length)
        have h16 := HQ.out.2.2.2.1
        rcases hx' with rfl | rfl | rfl
        · rw [sz]; exact le_maxLen (by omega)
        · rw [sz]; exact le_maxLen (by omega)
        · exact le_maxLen (by omega)
      have h3 : i < 3 := hi'
      refine ⟨?_, hm _ (List.getElem_mem hi')⟩
      rcases (show i = 0 ∨ i = 1 ∨ i = 2 by omega) with rfl | rfl | rfl <;> rfl
    have HO := Lib.hid hO
    clear hO
    have x7 := blk_alloc (o' := .cells #[.string (txt (Lib.itoa q.client)), .string (txt (Lib.itoa q.token)), .string q.name] 9) x6
    have q7 := blk_cell x7
    clear x6 q6 x5 q5 x3 q1 HX1
    generalize w6.alloc (.cells #[.string (txt (Lib.itoa q.client)), .string (txt (Lib.itoa q.token)), .string q.name] 9) = w7 at *
    generalize w6.heap.size = b6 at *
    have j1 : (q.args.length : Int) ≤ 8 := by have := HQ.out.2.2.2.2.1; omega
    generalize hm : q.args.length = m at *
    have HMM := Lib.hid hm
    clear hm
    go_wp2_with fail
    go_loopg [5, 27] m (fun g v i wr => ∃ (k n : Nat) (a : Option Addr) (c : Nat), k ≤ m ∧ g = m - k ∧ i = .int .i64 k ∧ v = .slice a n c ∧ RowKit.Hid (OwnT wa wr (.slice a n c) (pcs q k)))
    case atStart => exact ⟨0, 3, _, _, by omega, by omega, rfl, rfl, HO.out⟩
    case round =>
      obtain ⟨k, n, a, c, hk, rfl, rfl, rfl, HL⟩ := hrel
      by_cases hlt : k < m
      · have g1 : (k : Int) < m := by omega
        have g0 : (0 : Int) ≤ k := by omega
        have g3 : (k : Int) ≤ 8 := by omega
        have hlt' : k < q.args.length := by rw [HMM.out]; exact hlt
        have hR := HX2.out.2.agree _ HL.out.2.agreeNo
        rw [← HMM.out] at hR
        obtain ⟨b, off, rfl, hb, -, e0, e1, e2, hvi, hvs⟩ := vals_get hR k hlt'
        have hgv : givenV q.args[k] = true := HQ.out.1.2.2.2.2 _ (List.getElem_mem hlt')
        have hpl := print_len hgv hvi
        have hok := (givenV_ok hgv).1
        have kw : Keep No w wr := HX2.out.1.trans HL.out.2
        have hnew : Keep No wr (wr.alloc (.cells #[.int .i64 q.args[k].kind, .int .i64 q.args[k].num, .string q.args[k].text] 96)) := (Keep.refl No wr).alloc _
        have hlen := HL.out.len
        have hval := (printV_any q.args[k] hok hvi _ (HQ.out.2.2.1.keep (kw.trans hnew))).mono (R' := fun e w8 => e = .returned (.tuple #[.string (txt q.args[k].print), .int .i64 0]) ∧ ∃ a' c' w9, (Builtin.append_ #[46, 46] 46 #[.slice a n c, .slice (some ⟨w8.heap.size, 0, none⟩) 1 1]).run Tryz.prog (w8.alloc (.cells #[.string (txt q.args[k].print)] 9)) = .ok (.slice a' (n + 1) c') w9 ∧ RowKit.Hid (OwnT wa w9 (.slice a' (n + 1) c') (pcs q (k + 1)) )) (by
          rintro e w8 ⟨rfl, hk8⟩
          have k8 := hnew.trans hk8
          have hpl1 : (pcs q k).length ≤ 11 := by simp [pcs]; omega
          obtain ⟨a', c', w9, hrun, ho9⟩ := appT_one (HL.out.more k8) (txt q.args[k].print) (le_maxLen (by show (txt q.args[k].print).size ≤ _; rw [txt_size]; omega)) (le_one16 (by omega))
          rw [← hlen] at hrun ho9
          refine ⟨rfl, a', c', w9, hrun, ?_⟩
          rw [pcs_succ q k hlt']
          exact ho9)
        have HLT := Lib.hid hlt
        generalize q.args[k].print = y4 at *
        generalize q.args[k].kind = y1 at *
        generalize q.args[k].num = y2 at *
        generalize q.args[k].text = y3 at *
        clear hlt hlt' hk hR hb hvi hvs hgv hpl hok kw hnew hlen HL
        go_wp2_with (first | (go_at_call 93; refine hval.mono ?_; clear hval; rintro e w8 ⟨rfl, a9, c9, w9, hrun, H9⟩) | (at_builtin; refine wpList_app rfl (.tmp 36) (.tmp 38) 46 46 rfl rfl rfl hrun ?_))
        go_roundg (m - (k + 1))
        case measure => have := HLT.out; omega
        case rel => exact ⟨k + 1, n + 1, a9, c9, by have := HLT.out; omega, rfl, by simp, rfl, H9.out⟩
      · obtain rfl : k = m := by omega
        have hlen := HL.out.len
        have hrd := HL.out.rd
        rw [hlen] at hrd
        have hpj := pcs_all q
        rw [HMM.out] at hpj
        have hjl : (Lib.join ((pcs q k).map (·.data.toList)) [32]).length ≤ 140737488355328 := by
          have h1 : ∀ x ∈ (pcs q k).map (·.data.toList), x.length ≤ 200 := by
            intro x hx
            obtain ⟨y, hy, rfl⟩ := List.mem_map.1 hx
            have l2 : (Lib.itoa q.token).length ≤ 20 := by
              have hh : q.token = ((q.token.toNat : Nat) : Int) := by have := HQ.out.2.2.2.2.2.1; omega
              rw [hh, itoa_nat]
              exact dec_len _ (by have := HQ.out.2.2.2.2.2.2; omega)
            have l1 := itoa_len q.client (by omega) (by omega)
            have h16 := HQ.out.2.2.2.1
            simp only [pcs, List.mem_cons, List.mem_map] at hy
            rcases hy with rfl | rfl | rfl | ⟨v, hv, rfl⟩
            · rw [txt_data]; omega
            · rw [txt_data]; omega
            · show q.name.data.toList.length ≤ 200
              have : q.name.data.toList.length = q.name.size := by simp
              omega
            · rw [txt_data]
              have hvm := List.mem_of_mem_take hv
              obtain ⟨i, hi, rfl⟩ := List.getElem_of_mem hvm
              have hR := HX2.out.2
              rw [← HMM.out] at hR
              obtain ⟨-, -, -, -, -, -, -, -, hvi, -⟩ := vals_get hR i hi
              exact print_len (HQ.out.1.2.2.2.2 _ hvm) hvi
          have h2 := join_len _ 200 h1
          have h3 : ((pcs q k).map (·.data.toList)).length ≤ 11 := by
            have := HQ.out.2.2.2.2.1
            simp [pcs]; omega
          have h4 := Nat.mul_le_mul_right 201 h3
          exact Nat.le_trans h2 (Nat.le_trans h4 (by decide))
        have hj := (join_any wr _ a c (pcs q k) hrd ⟨#[32]⟩ (by simp [pcs]) hjl (by have := HQ.out.2.2.2.2.1; simp [pcs]; omega)).mono (R' := fun e w9 => e = .returned (.string res) ∧ RowKit.Hid (Keep No w w9)) (by
          rintro e w9 ⟨rfl, hk9⟩
          exact ⟨by rw [HQ.out.2.1, ← hpj]; rfl, HX2.out.1.trans (HL.out.2.trans hk9)⟩)
        rw [← hlen] at hj
        clear hrd hlen hpj hjl HL hk hlt
        go_wp2_with (go_at_call 94; refine hj.mono ?_; clear hj; rintro e w9 ⟨rfl, HK9⟩)
        go_ret2
        exact ⟨rfl, HK9.out⟩
  · have d1 : (q.check != 0) = true := by simpa using hz
    rw [if_neg hz] at hres
    obtain rfl : res = ⟨#[]⟩ := hres
    clear h h' h4 w1 w2 w3 hz hn
    generalize q.check = ck at *
    go_enter Tryz.func40, Tryz.ntmps40
    go_wp2_with fail
    refine hc.mono ?_
    clear hc
    rintro e w3 ⟨rfl, x1, HK⟩
    go_wp2_with fail
    go_ret2
    exact ⟨rfl, HX1.out.1.trans HK.out.1⟩
end Go.Proofs.YtpjcebajkfeacaaGreatDoor
