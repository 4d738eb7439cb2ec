/-
  EpochDense.
-/
/-
  EpochDense: which plans stand in which epoch; its walk.
-/
import Derived.Test.YtjillekahongeaaEpP
namespace Go.Proofs.Ytjillekahongeaa
open Go Go.RowKit Go.Deep
set_option linter.unusedVariables false

/-- every plan, with its epoch's number, in order -/
def flatOf (closed : List (Int × List Plan)) (opens : List Plan) (number : Int) : List (Int × Int) :=
  (closed.flatMap fun x => x.2.map fun p => (p.how, x.1)) ++ opens.map fun p => (p.how, number)

/-- what was told, with its place -/
def toldOf (told : List Int) : List (Int × Int) := told.mapIdx fun i t => ((i : Int), t)

theorem toldOf_append (told : List Int) (t : Int) : toldOf (told ++ [t]) = toldOf told ++ [((told.length : Int), t)] := by
  simp [toldOf]
theorem toldOf_length (told : List Int) : (toldOf told).length = told.length := by simp [toldOf]
theorem toldOf_get (told : List Int) (n : Nat) (h : n < told.length) : (toldOf told)[n]? = some ((n : Int), told[n]) := by
  simp [toldOf, h]

theorem flatOf_close (c : List (Int × List Plan)) (o : List Plan) (n m : Int) : flatOf (c ++ [(n, o)]) [] m = flatOf c o n := by
  simp [flatOf]
theorem flatOf_add (c : List (Int × List Plan)) (o : List Plan) (n : Int) (p : Plan) : flatOf c (o ++ [p]) n = flatOf c o n ++ [(p.how, n)] := by
  simp [flatOf]

structure Dense (most : Int) (st : CutSt) (told : List Int) : Prop where
  most_eq : st.most = most
  number : st.number = st.closed.length
  nums : ∀ i (h : i < st.closed.length), (st.closed[i]).1 = (i : Int)
  sizes : ∀ x ∈ st.closed, (x.2.length : Int) ≤ most
  room : (st.opens.length : Int) < most
  flat : flatOf st.closed st.opens st.number = toldOf told

theorem Dense.close {most : Int} {st : CutSt} {told : List Int} (h1 : st.most = most) (h2 : st.number = st.closed.length) (h3 : ∀ i (h : i < st.closed.length), (st.closed[i]).1 = (i : Int)) (h4 : ∀ x ∈ st.closed, (x.2.length : Int) ≤ most) (h5 : (st.opens.length : Int) ≤ most) (h6 : flatOf st.closed st.opens st.number = toldOf told) (h0 : 1 ≤ most) :
    Dense most st.close told := by
  refine ⟨h1, ?_, fun i h => ?_, fun x hx => ?_, by simp [CutSt.close]; omega, ?_⟩
  · simp [CutSt.close, h2]
  · simp only [CutSt.close] at h ⊢
    by_cases hi : i < st.closed.length
    · rw [List.getElem_append_left hi]; exact h3 i hi
    · have : i = st.closed.length := by simp at h; omega
      subst this
      simp [h2]
  · simp only [CutSt.close, List.mem_append, List.mem_singleton] at hx
    rcases hx with hx | rfl
    · exact h4 x hx
    · exact h5
  · show flatOf (st.closed ++ [(st.number, st.opens)]) [] (st.number + 1) = _
    rw [flatOf_close, h6]
theorem Dense.tick {most : Int} {st : CutSt} {told : List Int} (h : Dense most st told) (h0 : 1 ≤ most) : Dense most st.tick told := by
  unfold CutSt.tick
  split
  · exact ⟨h.1, h.2, h.3, h.4, h.5, h.6⟩
  · exact Dense.close (st := { st with age := st.age + 1 }) h.1 h.2 h.3 h.4 (Int.le_of_lt h.5) h.6 h0
theorem Dense.cut {most : Int} {st : CutSt} {told : List Int} (h : Dense most st told) (h0 : 1 ≤ most) : Dense most st.cut told := by
  unfold CutSt.cut
  split
  · exact h
  · exact Dense.close h.1 h.2 h.3 h.4 (Int.le_of_lt h.5) h.6 h0
theorem Dense.add {most : Int} {st : CutSt} {told : List Int} (h : Dense most st told) (h0 : 1 ≤ most) : Dense most (st.add (howPlan told.length)) (told ++ [st.number]) := by
  have hf : flatOf st.closed (st.opens ++ [howPlan told.length]) st.number = toldOf (told ++ [st.number]) := by
    rw [flatOf_add, h.flat, toldOf_append]; rfl
  have hr := h.room
  unfold CutSt.add
  split
  · exact Dense.close (st := { st with opens := st.opens ++ [howPlan told.length] }) h.1 h.2 h.3 h.4 (by simp; omega) hf h0
  · rename_i hne
    rw [h.most_eq] at hne
    exact ⟨h.1, h.2, h.3, h.4, by simp at hne ⊢; omega, hf⟩
theorem Dense.new {most age : Int} (h0 : 1 ≤ most) : Dense most (CutSt.new most age) [] :=
  ⟨rfl, rfl, fun i h => absurd h (Nat.not_lt_zero _), fun _ h => (by cases h), by simp [CutSt.new]; omega, rfl⟩

/-- behind k taken epochs, with n plans in them -/
structure Left (most : Int) (st : CutSt) (told : List Int) (open' k n : Nat) : Prop where
  opens : st.opens.length = open'
  number : st.number = k + st.closed.length
  nums : ∀ i (h : i < st.closed.length), (st.closed[i]).1 = ((k + i : Nat) : Int)
  sizes : ∀ x ∈ st.closed, (x.2.length : Int) ≤ most
  le : n ≤ told.length
  flat : flatOf st.closed st.opens st.number = (toldOf told).drop n

theorem Dense.left {most : Int} {st : CutSt} {told : List Int} (h : Dense most st told) : Left most st told st.opens.length 0 0 :=
  ⟨rfl, by rw [h.number]; simp, fun i hi => by rw [h.nums i hi]; simp, h.sizes, Nat.zero_le _, by rw [h.flat]; rfl⟩

theorem Left.done {most : Int} {st : CutSt} {told : List Int} {o k n : Nat} (h : Left most st told o k n) (hc : st.closed = []) : (k : Int) = st.number ∧ n + o = told.length := by
  have hf := congrArg List.length h.flat
  rw [List.length_drop, toldOf_length] at hf
  have hs := h.le
  have ho := h.opens
  refine ⟨by rw [h.number, hc]; simp, ?_⟩
  simp [flatOf, hc] at hf
  omega

theorem Left.more {most : Int} {st : CutSt} {told : List Int} {o k n : Nat} {x : Int × List Plan} {l : List (Int × List Plan)} (h : Left most st told o k n) (hc : st.closed = x :: l) :
    x.1 = k ∧ (x.2.length : Int) ≤ most ∧ (∀ i (hi : i < x.2.length), n + i < told.length ∧ (x.2[i]).how = ((n + i : Nat) : Int) ∧ told[n + i]? = some (k : Int)) ∧ Left most st.take told o (k + 1) (n + x.2.length) := by
  have hn0 : x.1 = k := by have := h.nums 0 (by rw [hc]; simp); simpa [hc] using this
  have hf := h.flat
  have hflat : flatOf st.closed st.opens st.number = (x.2.map fun p => (p.how, x.1)) ++ flatOf l st.opens st.number := by
    simp [flatOf, hc]
  rw [hflat] at hf
  have hlen := congrArg List.length hf
  rw [List.length_append, List.length_map, List.length_drop, toldOf_length] at hlen
  have hsm := h.le
  have hnum := h.number
  rw [hc] at hnum
  have hle : n + x.2.length ≤ told.length := by omega
  refine ⟨hn0, h.sizes x (by rw [hc]; exact List.mem_cons_self ..), fun i hi => ?_, ⟨h.opens, ?_, fun i hi => ?_, fun y hy => h.sizes y ?_, hle, ?_⟩⟩
  · have hlt : n + i < told.length := by omega
    have hg := congrArg (fun l => l[i]?) hf
    simp only [List.getElem?_drop, toldOf_get told (n + i) hlt] at hg
    rw [List.getElem?_append_left (by simpa using hi), List.getElem?_map, List.getElem?_eq_getElem hi] at hg
    simp only [Option.map_some, Option.some.injEq, Prod.mk.injEq] at hg
    exact ⟨hlt, hg.1, by rw [List.getElem?_eq_getElem hlt, ← hg.2, hn0]⟩
  · show st.number = _
    simp only [CutSt.take, hc, List.tail_cons]
    simp only [List.length_cons] at hnum
    omega
  · simp only [CutSt.take, hc, List.tail_cons] at hi ⊢
    have := h.nums (i + 1) (by rw [hc]; simpa using hi)
    simp only [hc, List.getElem_cons_succ] at this
    rw [this]; omega
  · simp only [CutSt.take, hc, List.tail_cons] at hy
    rw [hc]; exact List.mem_cons_of_mem _ hy
  · show flatOf st.take.closed st.opens st.number = _
    simp only [CutSt.take, hc, List.tail_cons]
    rw [← List.drop_drop, ← hf, List.drop_left' (by simp)]

theorem Try.infoInt64 : (Try.prog.info? 2).map (fun i => (i.zero, i.size, i.bytes)) = some (some (.int .i64 0), 1, 8) := by kernel_rfl

def Dn (w wr : World) (B : Nat) (st : CutSt) (vt : Value) (told : List Int) (n : Nat) : Prop :=
  ∃ S U : Nat → Prop, CutAt wr B S st ∧ Own (.int .i64) 2 wr U vt told ∧ (∀ k, S k → w.heap.size ≤ k) ∧ (∀ k, U k → w.heap.size ≤ k ∧ k < wr.heap.size) ∧ (∀ k, S k → ¬ U k) ∧ Keep No w wr ∧ st.Ok n ∧ told.length ≤ n

theorem Dn.step {w wr w2 : World} {B n : Nat} {S U : Nat → Prop} {st st' : CutSt} {vt r : Value} {told : List Int} {e : Ending} (hC : CutAt wr B S st) (hO : Own (.int .i64) 2 wr U vt told) (hS : ∀ k, S k → w.heap.size ≤ k) (hU : ∀ k, U k → w.heap.size ≤ k ∧ k < wr.heap.size) (hd : ∀ k, S k → ¬ U k) (hK : Keep No w wr) (hl : told.length ≤ n)
    (s : Stepped CutAt wr B S st' r e w2) (ho : st'.Ok n) : Dn w w2 B st' vt told n := by
  obtain ⟨rfl, S', q1, q2, q3⟩ := s
  have hs := hK.size
  refine ⟨S', U, q1, hO.agree (q3.agree fun k _ hu hs => hd k hs hu), fun k hk => ?_, fun k hk => ⟨(hU k hk).1, Nat.lt_of_lt_of_le (hU k hk).2 q3.size⟩, fun k hk hu => ?_, hK.then q3 fun k hk h => by have := hS k h; omega, ho, hl⟩
  · rcases q2 k hk with h | h
    · exact hS k h
    · omega
  · rcases q2 k hk with h | h
    · exact hd k h hu
    · have := (hU k hu).2; omega
theorem Dn.push {w wr w2 w3 : World} {o : Obj} {B n : Nat} {S U : Nat → Prop} {st' : CutSt} {v r : Value} {told' : List Int} {e : Ending} (hS : ∀ k, S k → w.heap.size ≤ k) (hU : ∀ k, U k → w.heap.size ≤ k ∧ k < wr.heap.size) (hd : ∀ k, S k → ¬ U k) (hK : Keep No w wr)
    (s : Stepped CutAt wr B S st' r e w2) (k2 : Keep U (w2.alloc o) w3) (hO : Own (.int .i64) 2 w3 (fun k => U k ∨ No k ∨ k = (w2.alloc o).heap.size) v told') (hl : told'.length ≤ n) (ho : st'.Ok n) : Dn w w3 B st' v told' n := by
  obtain ⟨rfl, S', q1, q2, q3⟩ := s
  have hs := hK.size
  have hs2 := q3.size
  have hlive := q1.live
  have k2' : Keep U w2 w3 := ((Keep.refl U w2).alloc o).trans k2
  have hSU : ∀ k, S' k → ¬ U k := fun k hk hu => by
    rcases q2 k hk with h | h
    · exact hd k h hu
    · have := (hU k hu).2; omega
  refine ⟨S', _, q1.agree (k2'.agree fun k _ hs hu => hSU k hs hu) k2'.size, hO.live, fun k hk => ?_, fun k hk => ⟨?_, hk.2⟩, fun k hk hu => ?_, (hK.then q3 fun k hk h => by have := hS k h; omega).then k2' fun k hk h => by have := (hU k h).1; omega, ho, hl⟩
  · rcases q2 k hk with h | h
    · exact hS k h
    · omega
  · rcases hk.1 with h | h | h
    · exact (hU k h).1
    · exact h.elim
    · simp at h; omega
  · rcases hu.1 with h | h | h
    · exact hSU k hk h
    · exact h.elim
    · have := hlive k hk
      simp at h; omega
theorem Dn.more {w wr : World} {B n m : Nat} {st : CutSt} {vt : Value} {told : List Int} (h : Dn w wr B st vt told n) (hm : n ≤ m) : Dn w wr B st vt told m := by
  obtain ⟨S, U, h1, h2, h3, h4, h5, h6, h7, h8⟩ := h
  exact ⟨S, U, h1, h2, h3, h4, h5, h6, ok_mono h7 hm, by omega⟩

set_option maxHeartbeats 4000000 in
theorem EpochDense_calls (w : World) (most : Int) (wm : (Lit.int .i64 most).wf = true) (age : Int) (wa : (Lit.int .i64 age).wf = true) (v : Value) (l : List Act') (h : Rd (.slice actSh) w (Lt w.heap.size) [v] l) (hb : (Sh.slice actSh).bulk l ≤ 1048576) :
    Calls Try.prog 6 #[.int .i64 most, .int .i64 age, v] w (LawTrue w) := by
  have hb1 : (l.map cost).sum ≤ 1048576 := by
    have h1 := costs_le l
    have h2 : (l.map actSh.bulk).sum ≤ (Sh.slice actSh).bulk l := Nat.le_succ _
    omega
  have hlen := length_le_cost l
  obtain ⟨a, c, hv, hc⟩ := h.sliceForm
  obtain rfl : v = .slice a l.length c := by simpa using hv
  clear hv
  have hlong := long_any w (Lt w.heap.size) a c l h hb1 (by omega)
  have hL := fun W => live_any W
  by_cases hg : longB l = true
  · rw [hg] at hlong
    have HG := Lib.hid hlong
    clear hlong hL
    go_enter Try.func6, Try.ntmps6
    go_wp2_with fail
    refine HG.out.mono ?_
    rintro e w1 ⟨n, rfl, rfl⟩
    go_wp2_with fail
    go_ret
    exact ⟨rfl, (Keep.refl _ _).drewN n⟩
  · have hl2 : l.length ≤ 2000 := by
      simp only [longB, Bool.or_eq_true, decide_eq_true_eq, not_or] at hg
      omega
    rw [Bool.eq_false_iff.2 hg] at hlong
    have HG := Lib.hid hlong
    have HL := Lib.hid hL
    clear hlong hL hg
    by_cases hbad : most < 1 ∨ 256 < most ∨ age < 1 ∨ 1000000 < age
    · have HB := Lib.hid hbad
      clear hbad
      go_enter Try.func6, Try.ntmps6
      go_wp2_with fail
      refine HG.out.mono ?_
      rintro e w1 ⟨n, rfl, rfl⟩
      go_wp2_with fail
      refine (new_bad most age _ HB.out).mono ?_
      rintro e w1 ⟨rfl, rfl⟩
      go_wp2_with (first | (go_at_call 10; refine (num_any _ _).mono ?_; rintro e w1 ⟨rfl, rfl⟩) | (go_at_call 8; refine (HL.out _).mono ?_; rintro e w1 ⟨rfl, k1⟩))
      go_ret
      exact ⟨rfl, ((Keep.refl _ _).drewN n).trans k1⟩
    · have b1 : 1 ≤ most := by omega
      have b2 : most ≤ 256 := by omega
      have b3 : 1 ≤ age := by omega
      have b4 : age ≤ 1000000 := by omega
      clear hbad
      go_enter Try.func6, Try.ntmps6
      go_wp2_with fail
      refine HG.out.mono ?_
      rintro e w1 ⟨n, rfl, rfl⟩
      have kn : Keep No w (w.drewN n) := (Keep.refl _ _).drewN n
      go_wp2_with fail
      refine (new_good most age _ b1 b2 b3 b4).mono ?_
      rintro e w1 ⟨rfl, hC1, hk1, hs1⟩
      have d0 : Dn w w1 w.heap.size (CutSt.new most age) (.slice none 0 0) [] 0 := ⟨_, No, hC1, Own.nil _ _ _ _, fun k h => h.1, fun k h => h.elim, fun k _ h => h, kn.thenNo hk1, new_ok most age, Nat.le_refl _⟩
      clear hC1 hk1 hs1
      go_wp2_with (go_at_call 10; refine (num_any _ _).mono ?_; rintro e w3 ⟨rfl, rfl⟩)
      go_loopw [9, 10, 11] (fun t j i wr => ∃ (k m : Nat) (st : CutSt) (told : List Int), k ≤ l.length ∧ m = k ∧ i = .int .i64 k ∧ (∃ q : Nat, q ≤ k ∧ j = .int .i64 q) ∧ Dn w wr w.heap.size st t told m ∧ Dense most st told) (fun _ _ i _ => l.length - (intOf i).toNat)
      case atStart => exact ⟨0, 0, _, [], Nat.zero_le _, rfl, rfl, ⟨0, Nat.le_refl _, rfl⟩, d0, Dense.new b1⟩
      case round =>
        obtain ⟨k, m, st, told, hk, hm, rfl, ⟨q, hq, rfl⟩, ⟨S, U, hC, hO, hS, hU, hd, kw, hok, htl⟩, hD⟩ := hrel
        obtain ⟨at', ct, rfl, hct⟩ := hO.form
        by_cases hlt : k < l.length
        · obtain ⟨eb, eo, er, rfl, -, hb1', -, -, hrow, hx⟩ := h.elem k hlt
          obtain ⟨ps, rfl, hp, -⟩ := act_cells hx
          have hcell : ∀ W, Keep No w W → W.cell? ⟨eb, eo + k * 8, none⟩ = some (.int .i64 l[k].kind) := fun W hW => by
            have := ((hrow.agree (hW.block eb hb1' (fun x => x))) 0 (by simp)).1
            simpa [Sh.size] using this
          have p0 := hcell _ kw
          have j0 : (0 : Int) ≤ (k : Int) := by omega
          have j1 : (k : Int) < (l.length : Int) := by omega
          generalize l[k].kind = K0 at *
          have HC := Lib.hid hcell
          clear hcell
          have HM := Lib.hid hm
          have htl2 : told.length ≤ 2000 := by omega
          have hm2 : m ≤ 2000 := by omega
          clear hrow hx hp h hb hb1 hlen hc d0 hm
          by_cases e1 : K0 = 1
          · subst e1
            have HD := Lib.hid (hD.add b1)
            have HA := Lib.hid (add_any wr _ S No st m _ (howPlan told.length) hC hok (by omega) (rd_howPlan wr No told.length (by simp [Lit.wf, IntKind.min, IntKind.max, IntKind.signed, IntKind.bits]; omega)) (howPlan_small _).1 (howPlan_small _).2.1 (howPlan_small _).2.2)
            have hw2 : (Lit.int .i64 st.number).wf = true := by
              have h1 := hok.1
              have h2 := hok.2.1
              simp [Lit.wf, IntKind.min, IntKind.max, IntKind.signed, IntKind.bits]; omega
            obtain ⟨i0, hi, hz0, hz1, hz2⟩ := info_parts Try.infoInt64
            go_wp2_with (first
              | (go_at_call 12
                 refine HA.out.mono ?_
                 rintro e w2 ⟨he, hst⟩
                 subst he
                 have hO2 : Own (.int .i64) 2 (w2.alloc (.cells #[.int .i64 st.number] 2)) U (.slice at' told.length ct) told := hO.agree (((hst.choose_spec).2.2.alloc _).agree fun k _ hu hs => hd k hs hu)
                 obtain ⟨a7, d7, w3, hrun, ho, k3, -⟩ := Own.append (T := No) (x := st.number) hO2 49 49 i0 _ 8 Try.underlying49 hi hz0 hz1 hz2 rfl (blk_new w2 _) ⟨rfl, hw2⟩ (fun k _ h => h) (by omega) (by omega) 1
                 have hdn := Dn.push (n := m + 1) hS hU hd kw (show Stepped CutAt wr w.heap.size S (st.add (howPlan told.length)) (.int .i64 st.number) _ w2 from ⟨rfl, hst⟩) k3 ho (by simp; omega) (add_ok _ hok)
                 have p1 := HC.out _ (by obtain ⟨_, _, _, _, _, _, _, k, _⟩ := hdn; exact k)
                 have HF2 := Lib.hid hdn
                 clear hdn HA hD hC hO hS hU hd hok kw ho k3 hO2 hst)
              | (at_builtin; refine wpList_app rfl (.tmp 46) (.tmp 52) 49 49 rfl rfl rfl hrun ?_))
            go_roundw
            case rel => exact ⟨k + 1, m + 1, _, _, by omega, by rw [HM.out], by go_num, ⟨q, by omega, rfl⟩, HF2.out, HD.out⟩
            case measure => simp [intOf]; omega
          · have f1 : (K0 == 1) = false := by simpa using e1
            by_cases e2 : K0 = 2
            · subst e2
              have HD := Lib.hid (hD.tick b1)
              have HF : Hid (∀ w2 e r, Stepped CutAt wr w.heap.size S st.tick r e w2 → Dn w w2 w.heap.size st.tick (.slice at' told.length ct) told (m + 1)) := Lib.hid (fun w2 e r s => Dn.step hC hO hS hU hd kw (by omega) s (tick_ok hok))
              have HA := Lib.hid (tick_any wr _ S st m hC hok (by omega))
              clear hD e1 hC hO hS hU hd hok kw
              go_wp2_with (go_at_call 11; refine HA.out.mono ?_; rintro e w2 hst; have hdn := HF.out _ _ _ hst; have p1 := HC.out _ (by obtain ⟨_, _, _, _, _, _, _, k, _⟩ := hdn; exact k); have HF2 := Lib.hid hdn; obtain ⟨rfl, -⟩ := hst; clear hdn HA HF)
              go_roundw
              case rel => exact ⟨k + 1, m + 1, st.tick, told, by omega, by rw [HM.out], by go_num, ⟨q + 1, by omega, by go_num⟩, HF2.out, HD.out⟩
              case measure => simp [intOf]; omega
            · have f2 : (K0 == 2) = false := by simpa using e2
              by_cases e3 : K0 = 3
              · subst e3
                have HD := Lib.hid (hD.cut b1)
                have HF : Hid (∀ w2 e r, Stepped CutAt wr w.heap.size S st.cut r e w2 → Dn w w2 w.heap.size st.cut (.slice at' told.length ct) told (m + 1)) := Lib.hid (fun w2 e r s => Dn.step hC hO hS hU hd kw (by omega) s (ok_cut hok))
                have HA := Lib.hid (cut_any wr _ S st m hC hok (by omega))
                clear hD e1 e2 hC hO hS hU hd hok kw
                go_wp2_with (go_at_call 17; refine HA.out.mono ?_; rintro e w2 hst; have HF2 := Lib.hid (HF.out _ _ _ hst); obtain ⟨rfl, -⟩ := hst; clear HA HF)
                go_roundw
                case rel => exact ⟨k + 1, m + 1, st.cut, told, by omega, by rw [HM.out], by go_num, ⟨q, by omega, rfl⟩, HF2.out, HD.out⟩
                case measure => simp [intOf]; omega
              · have f3 : (K0 == 3) = false := by simpa using e3
                have HD := Lib.hid hD
                have Hst := Lib.hid (show Dn w wr w.heap.size st (.slice at' told.length ct) told m from ⟨S, U, hC, hO, hS, hU, hd, kw, hok, htl⟩)
                clear hD hC hO hS hU hd hok e1 e2 e3
                go_wp2_with fail
                go_roundw
                case rel => exact ⟨k + 1, m + 1, st, told, by omega, by rw [HM.out], by go_num, ⟨q, by omega, rfl⟩, Hst.out.more (by omega), HD.out⟩
                case measure => simp [intOf]; omega
        · obtain rfl : k = l.length := by omega
          have hleft := hD.left
          have hnum : st.number ≤ l.length := by have := hok.2.1; omega
          have HN := Lib.hid hnum
          have HA := Lib.hid (open_any wr _ S st hC)
          have hdn : Dn w wr w.heap.size st (.slice at' told.length ct) told m := ⟨S, U, hC, hO, hS, hU, hd, kw, hok, htl⟩
          have hol : st.opens.length ≤ 2000 := by have := hok.2.2.2.2.1; omega
          have htl2 : told.length ≤ 2000 := by omega
          generalize st.opens.length = o at *
          have HDN := Lib.hid hdn
          have HLF := Lib.hid hleft
          clear hdn hleft hD hC hO hS hU hd hok kw hnum hb hb1 hlen hc hk hm h hlt d0
          go_wp2_with (go_at_call 18; refine HA.out.mono ?_; rintro e w2 ⟨he, hw2⟩; subst he; subst hw2)
          obtain ⟨M, hM⟩ : ∃ M, M = l.length + 1 := ⟨_, rfl⟩
          have HMM0 := Lib.hid hM
          clear hM
          go_loopw [13, 14] (fun i j W => ∃ (k n : Nat) (s : CutSt), (k : Int) ≤ l.length ∧ n ≤ told.length ∧ i = .int .i64 n ∧ j = .int .i64 k ∧ Dn w W w.heap.size s (.slice at' told.length ct) told m ∧ Left most s told o k n ∧ s.number = st.number) (fun _ j _ => M - (intOf j).toNat)
          case atStart => exact ⟨0, 0, st, by omega, Nat.zero_le _, rfl, rfl, HDN.out, HLF.out, rfl⟩
          case round =>
            obtain ⟨k, n', s, hk, hn', rfl, rfl, hdn, hlf, hsn⟩ := hrel
            obtain ⟨S2, U2, hC, hO, hS, hU, hd, kw, hok, hml⟩ := hdn
            have j0 : (0 : Int) ≤ (k : Int) := by omega
            rcases hc : s.closed with _ | ⟨x, tl⟩
            · obtain ⟨d1, d2⟩ := hlf.done hc
              have HA2 := Lib.hid (take_none wr w.heap.size S2 s hC hc)
              have HC2 := Lib.hid hC
              have hnow : ∀ W, CutAt W w.heap.size S2 s → Calls Try.prog 13 #[.pointer (some ⟨w.heap.size, 0, none⟩)] W fun e w' => e = .returned (.int .i64 k) ∧ W = w' := fun W hW => by rw [d1]; exact now_any W _ S2 s hW
              have hwait : ∀ W, CutAt W w.heap.size S2 s → Calls Try.prog 20 #[.pointer (some ⟨w.heap.size, 0, none⟩)] W fun e w' => e = .returned (.int .i64 0) ∧ W = w' := fun W hW => by have := waiting_any W _ S2 s hW; rw [hc] at this; exact this
              have HNow := Lib.hid hnow
              have HWait := Lib.hid hwait
              have HKW := Lib.hid kw
              have f1 : (((n' : Int) + (o : Int)) == (told.length : Int)) = true := by rw [beq_iff_eq]; omega
              have f2 : (n' : Int) + (o : Int) ≤ 2000 := by omega
              clear hlf hC hO hS hU hd kw hok hml hc d1 hnow hwait hsn
              go_wp2_with (first
                | (go_at_call 19; refine HA2.out.mono ?_; rintro e w2 ⟨he, k2⟩; subst he)
                | (go_at_call 13; refine (HNow.out _ (HC2.out.agree (k2.alloc _).agreeNo (k2.alloc _).size)).mono ?_; rintro e w3 ⟨he, hw3⟩; subst he; subst hw3)
                | (go_at_call 20; refine (HWait.out _ (HC2.out.agree (k2.alloc _).agreeNo (k2.alloc _).size)).mono ?_; rintro e w3 ⟨he, hw3⟩; subst he; subst hw3)
                | (go_at_call 8; refine (HL.out _).mono ?_; rintro e w3 ⟨he, k3⟩; subst he))
              go_ret
              exact ⟨rfl, HKW.out.trans ((k2.alloc _).trans k3)⟩
            · obtain ⟨m1, m2, m3, m4⟩ := hlf.more hc
              have hnk := m4.number
              have hle := m4.le
              have hA := take_some wr w.heap.size S2 s x tl hC hc
              have HM3 := Lib.hid m3
              have HM4 := Lib.hid m4
              have HSN := Lib.hid (show s.take.number = st.number from hsn)
              have hk1 : ((k + 1 : Nat) : Int) ≤ l.length := by have := HN.out; have := HSN.out; omega
              have i1 : ¬ most < (x.2.length : Int) := by omega
              clear m3 m4 hnk hlf hc hsn m2
              have HA2 := Lib.hid hA
              clear hA
              obtain ⟨x0, xs⟩ := x
              simp only at m1 i1 hle
              subst m1
              go_wp2_with (go_at_call 19; refine HA2.out.mono ?_; rintro e w2 ⟨pv, F, S3, he, own, q1, hF, hS3, k2⟩; subst he; obtain ⟨pa, pc, hpv, -⟩ := own.form; subst hpv; clear HA2)
              have kA : Keep No w2 (w2.alloc (.cells #[.int .i64 (k : Int), .slice pa xs.length pc] 53)) := (Keep.refl _ _).alloc _
              have hs2 := k2.size
              have hdn2 : Dn w (w2.alloc (.cells #[.int .i64 (k : Int), .slice pa xs.length pc] 53)) w.heap.size s.take (.slice at' told.length ct) told m :=
                ⟨S3, U2, q1.agree kA.agreeNo kA.size, (hO.agree (k2.agree fun k _ hu hs => hd k hs hu)).agree kA.agreeNo, fun k hk => hS k (hS3 k hk), fun k hk => ⟨(hU k hk).1, Nat.lt_of_lt_of_le (Nat.lt_of_lt_of_le (hU k hk).2 hs2) kA.size⟩, fun k hk hu => hd k (hS3 k hk) hu, (kw.then k2 fun k hk h => by have := hS k h; omega).thenNo kA, ok_take hok, hml⟩
              have rp := own.rd.agree _ kA.agreeNo
              have rt := (hO.agree (k2.agree fun k _ hu hs => hd k hs hu)).rd.agree _ kA.agreeNo
              have c0 := blk_cell (blk_new w2 (.cells #[.int .i64 (k : Int), .slice pa xs.length pc] 53))
              have HDN2 := Lib.hid hdn2
              clear hdn2 hO hS hU hd kw hok hml q1 hF hS3 k2 own hC
              go_loopw [13, 17] (fun i j W' => ∃ r mm : Nat, r ≤ xs.length ∧ mm = n' + r ∧ i = .int .i64 mm ∧ j = .int .i64 r ∧ W' = w2.alloc (.cells #[.int .i64 (k : Int), .slice pa xs.length pc] 53)) (fun _ j _ => xs.length - (intOf j).toNat)
              case atStart => exact ⟨0, n', Nat.zero_le _, rfl, rfl, rfl, rfl⟩
              case round =>
                obtain ⟨r, mm, hr, hmm, rfl, rfl, rfl⟩ := hrel
                by_cases hlt2 : r < xs.length
                · obtain ⟨g1, g2, g3⟩ := HM3.out r hlt2
                  obtain ⟨pb, po, y1, z1, y2, z2, y3, z3, rfl, -, -, -, prow, -⟩ := rp.planAt r hlt2
                  have p4 := (prow 4 (by simp)).1
                  simp at p4
                  rw [g2, ← hmm] at p4
                  rw [← hmm] at g1 g3
                  obtain ⟨tb, to', trow, rfl, -, -, -, -, trow', tx⟩ := rt.elem mm g1
                  obtain ⟨rfl, -⟩ := tx
                  have t0 := (trow' 0 (by simp)).1
                  rw [List.getElem?_eq_getElem g1] at g3
                  simp only [Option.some.injEq] at g3
                  simp [Sh.size, g3] at t0
                  have i2 : ¬ (told.length : Int) ≤ (mm : Int) := by omega
                  have i3 : (mm : Int) < (told.length : Int) := by omega
                  have j1 : (r : Int) < (xs.length : Int) := by omega
                  have j2 : (0 : Int) ≤ (mm : Int) := by omega
                  have j3 : (0 : Int) ≤ (r : Int) := by omega
                  have HMM := Lib.hid hmm
                  clear prow trow' rp rt hmm g2 g3
                  go_wp2_with fail
                  go_roundw
                  case rel => exact ⟨r + 1, mm + 1, by omega, by rw [HMM.out]; omega, by go_num, by go_num, trivial⟩
                  case measure => simp [intOf]; omega
                · have i4 : ¬ (r : Int) < (xs.length : Int) := by omega
                  have HMM := Lib.hid (show mm = n' + xs.length by omega)
                  clear hmm hr hlt2 rp rt i1 hle
                  set_option maxRecDepth 3000 in go_wp2_with fail
                  set_option maxRecDepth 3000 in go_roundw
                  case rel => exact ⟨k + 1, mm, s.take, hk1, by have := HM4.out.le; rw [HMM.out]; exact this, rfl, by go_num, HDN2.out, by rw [HMM.out]; exact HM4.out, HSN.out⟩
                  case measure => have := HMM0.out; simp [intOf]; omega
end Go.Proofs.Ytjillekahongeaa
