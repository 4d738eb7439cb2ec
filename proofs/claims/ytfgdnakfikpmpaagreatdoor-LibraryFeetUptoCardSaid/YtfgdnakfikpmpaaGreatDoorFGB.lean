/-
  Parts of what is proved for this claim; each declaration is one of the seat's texts.
-/
import Derived.Test.YtfgdnakfikpmpaaGreatDoorRows
import Derived.WalkKit
import Derived.RangeFuncNested
import Derived.OrdersIn
set_option linter.unusedVariables false
set_option linter.unusedSimpArgs false
namespace Go.Proofs.YtfgdnakfikpmpaaGreatDoor
open Go
section
variable {P : Program} {ops : Array Oper} {Q : Exit → Act → World → Prop} {md : Region.Mode} {loud : Nat → Bool} {cr : Nat → Nat → Bool} {cx : Nat → Bool}
theorem ya_same {o : Oper} {v : Value} {a a' : Act} {w : World} (hy : YieldsAt P ops w o v a) (he : execOp a'.eval o = execOp a.eval o)
    (hw : Region.wanted o (yielded ops a'.tmps) = Region.wanted o (yielded ops a.tmps)) : YieldsAt P ops w o v a' := hy.of_same he hw
def Stab (P : Program) (ops : Array Oper) (i : Nat) (a : Act) (w : World) : Prop :=
  ∀ o, ops[i]? = some o → ∃ v, YieldsAt P ops w o v a ∧ ∀ d, o.dst = some d → d < a.tmps.size → a.tmps[d]? = some v
def wpAnyC (P : Program) (md : Region.Mode) (ops : Array Oper) (Q : Exit → Act → World → Prop) (loud : Nat → Bool) (cr : Nat → Nat → Bool) : Nat → Array Bool → Act → World → Prop
  | 0, listed, a, w => Region.ready md ops listed = [] ∧ Q .normal a w
  | fuel + 1, listed, a, w =>
    (Region.ready md ops listed = [] → Q .normal a w) ∧
    ∀ j ∈ Region.ready md ops listed,
      if loud j = true then wpOp P ops Q j (fun a' w' => (∀ i, listed.getD i false = true → cr i j = true → Stab P ops i a' w') ∧ wpAnyC P md ops Q loud cr fuel (listed.setIfInBounds j true) a' w') a w
      else ∀ o, ops[j]? = some o → ∃ u, YieldsAt P ops w o u a ∧ wpAnyC P md ops Q loud cr fuel (listed.setIfInBounds j true) (a.put o.dst u) w
theorem ya_wpOp {i : Nat} {o : Oper} {v : Value} {a : Act} {w : World} (hi : ops[i]? = some o) (hy : YieldsAt P ops w o v a) {K : Act → World → Prop} (h : K (a.put o.dst v) w) : wpOp P ops Q i K a w :=
  wpOp_of_stOp (K := fun a' => K a' w) (fun _ h => h) (hy.stOp hi h)
theorem any_of_C : ∀ (fuel : Nat) (listed : Array Bool) (a : Act) (w : World), wpAnyC P md ops Q loud cr fuel listed a w → wpAny P md ops Q fuel listed a w
  | 0, _, _, _, h => h
  | fuel + 1, listed, a, w, h => ⟨h.1, fun j hj => by
    have := h.2 j hj
    split at this
    · exact wpOp_mono (fun a' w' h' => any_of_C fuel _ a' w' h'.2) this
    · obtain ⟨_, o, ho, _⟩ := mem_ready.1 hj
      obtain ⟨u, hu, hr⟩ := this o ho
      exact ya_wpOp ho hu (any_of_C fuel _ _ _ hr)⟩
theorem wpOp_putC {j : Nat} {oi oj : Oper} {v : Value} (hj : ops[j]? = some oj) (hap : oi.apart ops oj = true) (hsj : ∀ cs b, oj.op ≠ .select cs b)
    (hQ : ∀ c a w, Q (.panic c) (a.put oi.dst v) w → Q (.panic c) a w) {K : Act → World → Prop} {a : Act} {w : World}
    (h : wpOp P ops Q j K (a.put oi.dst v) w) : wpOp P ops Q j (fun a' w' => (∃ u, a'.tmps = (a.put oj.dst u).tmps) ∧ K (a'.put oi.dst v) w') a w := by
  obtain ⟨h1, h2, h3⟩ := Oper.apart_spec hap
  unfold wpOp at *
  simp only [hj] at *
  rw [wanted_put oj a oi.dst v h1] at h
  split
  · rename_i hw
    simp only [hw, if_true] at h
    rcases h with h | ⟨hasks, hlets⟩
    case inr => exact .inr ⟨by unfold Oper.asks at *; rw [execOp_put oj hsj a oi.dst v h1] at hasks; exact hasks, hlets⟩
    refine .inl ?_
    unfold Oper.wp at *
    rw [execOp_put oj hsj a oi.dst v h1] at h
    generalize (execOp a.eval oj).run P w = r at *
    cases r with
    | ok n w' =>
      cases n <;> simp only [Oper.upon] at h ⊢
      case value u => exact ⟨⟨u, rfl⟩, by rw [← Act.put_comm a v u h2]; exact h⟩
      case skip => exact ⟨⟨_, rfl⟩, by rw [← Act.put_comm a v undef h2]; exact h⟩
      case defer d =>
        refine ⟨⟨undef, by cases oj.dst <;> rfl⟩, ?_⟩
        rw [← Act.put_comm _ v undef h2, ← Act.put_defers]
        exact h
      case enter f args =>
        refine Calls.mono h fun e w'' he => ?_
        cases e with
        | returned u => exact ⟨⟨u, rfl⟩, by rw [← Act.put_comm a v u h2]; exact he⟩
        | panicked c => exact hQ _ _ _ he
        | outgrown => exact he
      case row row args => exact Rows.mono h fun u w'' he => ⟨⟨u, rfl⟩, by rw [← Act.put_comm a v u h2]; exact he⟩
    | halt x w' =>
      cases x <;> simp only [Oper.upon] at h ⊢
      case panic u => exact hQ _ _ _ h
  · rename_i hw
    simp only [hw] at h
    exact ⟨⟨_, rfl⟩, by rw [← Act.put_comm a v undef h2]; exact h⟩
theorem put_tmps_size (a : Act) (d : Option Tmp) (v : Value) : (a.put d v).tmps.size = a.tmps.size := by cases d <;> simp [Act.put]
theorem put_tmps_ne (a : Act) {d : Option Tmp} {e : Tmp} (v : Value) (h : d ≠ some e) : (a.put d v).tmps[e]? = a.tmps[e]? := by
  cases d with
  | none => rfl
  | some d => simp [Act.put, Array.getElem?_setIfInBounds_ne (show d ≠ e from fun x => h (by rw [x]))]
theorem put_tmps_self (a : Act) (e : Tmp) (v : Value) (h : e < a.tmps.size) : (a.put (some e) v).tmps[e]? = some v := by simp [Act.put, h]
theorem fold_bit (acc : Array Nat) (i : Nat) : ∀ (l : List Edge) (s : Nat), (l.foldl (fun s e => if Region.binds .any e then s ||| 2 ^ e.on ||| acc.getD e.on 0 else s) s).testBit i = true →
    s.testBit i = true ∨ ∃ e ∈ l, Region.binds .any e = true ∧ (e.on = i ∨ (acc.getD e.on 0).testBit i = true)
  | [], s, h => .inl h
  | e :: l, s, h => by
    simp only [List.foldl_cons] at h
    rcases fold_bit acc i l _ h with h1 | ⟨e', he', h2⟩
    · split at h1
      · rename_i hb
        simp only [Nat.testBit_or, Bool.or_eq_true] at h1
        rcases h1 with (h1 | h1) | h1
        · exact .inl h1
        · refine .inr ⟨e, by simp, hb, .inl ?_⟩
          rw [Nat.testBit_two_pow] at h1
          simpa using h1
        · exact .inr ⟨e, by simp, hb, .inr h1⟩
      · exact .inl h1
    · exact .inr ⟨e', by simp [he'], h2⟩
theorem before_spec : ∀ (l : List Oper) (pre : List Oper) (acc : Array Nat), acc.size = pre.length →
    (∀ j i, (acc.getD j 0).testBit i = true → ∃ o, pre[j]? = some o ∧ ∃ e ∈ o.after, Region.binds .any e = true ∧ (e.on = i ∨ (e.on < j ∧ (acc.getD e.on 0).testBit i = true))) →
    ∀ j i, ((l.foldl (fun acc o => acc.push (o.after.foldl (fun s e => if Region.binds .any e then s ||| 2 ^ e.on ||| acc.getD e.on 0 else s) 0)) acc).getD j 0).testBit i = true →
      ∃ o, (pre ++ l)[j]? = some o ∧ ∃ e ∈ o.after, Region.binds .any e = true ∧ (e.on = i ∨ (e.on < j ∧ ((l.foldl (fun acc o => acc.push (o.after.foldl (fun s e => if Region.binds .any e then s ||| 2 ^ e.on ||| acc.getD e.on 0 else s) 0)) acc).getD e.on 0).testBit i = true))
  | [], pre, acc, _, hp => by simpa using hp
  | o :: l, pre, acc, hs, hp => by
    have := before_spec l (pre ++ [o]) (acc.push (o.after.foldl (fun s e => if Region.binds .any e then s ||| 2 ^ e.on ||| acc.getD e.on 0 else s) 0)) (by simp [hs]) ?_
    · simpa using this
    · intro j i h
      have hold : ∀ j, j < acc.size → (acc.push (o.after.foldl (fun s e => if Region.binds .any e then s ||| 2 ^ e.on ||| acc.getD e.on 0 else s) 0)).getD j 0 = acc.getD j 0 := fun j hj => by
        simp only [Array.getD_eq_getD_getElem?, Array.getElem?_push]
        rw [if_neg (by omega)]
      by_cases hj : j < acc.size
      · rw [hold j hj] at h
        obtain ⟨o', ho', e, he, hb, h2⟩ := hp j i h
        refine ⟨o', by rw [List.getElem?_append_left (by omega)]; exact ho', e, he, hb, h2.imp id fun h3 => ⟨h3.1, by rw [hold _ (by omega)]; exact h3.2⟩⟩
      · by_cases hj2 : j = acc.size
        · subst hj2
          simp only [Array.getD_eq_getD_getElem?, Array.getElem?_push, if_true, Option.getD_some] at h
          rw [← Array.foldl_toList] at h
          have h' := fold_bit acc i o.after.toList 0 (by simpa [Array.getD_eq_getD_getElem?] using h)
          rcases h' with h1 | ⟨e, he, hb, h2⟩
          · simp at h1
          · refine ⟨o, by rw [hs]; simp, e, by simpa using he, hb, h2.imp id fun h3 => ?_⟩
            have hlt : e.on < acc.size := by
              rcases Nat.lt_or_ge e.on acc.size with h' | h'
              · exact h'
              · simp [Array.getElem?_eq_none h'] at h3
            exact ⟨hlt, by rw [hold _ hlt]; exact h3⟩
        · exfalso
          rw [Array.getD_eq_getD_getElem?, Array.getElem?_push, if_neg hj2, Array.getElem?_eq_none (by omega)] at h
          simp at h
def Dep (ops : Array Oper) (j i : Nat) : Prop := ((Region.before ops).getD j 0).testBit i = true
theorem dep_listed {listed : Array Bool} (hcl : ∀ k ok, ops[k]? = some ok → listed.getD k false = true → ∀ e ∈ ok.after, Region.binds .any e = true → listed.getD e.on false = true) :
    ∀ (j : Nat) (oj : Oper) (i : Nat), ops[j]? = some oj → (∀ e ∈ oj.after, Region.binds .any e = true → listed.getD e.on false = true) → Dep ops j i → listed.getD i false = true := by
  intro j
  induction j using Nat.strongRecOn with
  | _ j ih =>
    intro oj i hj hall hd
    unfold Dep Region.before at hd
    rw [← Array.foldl_toList] at hd
    obtain ⟨o, ho, e, he, hb, h2⟩ := before_spec ops.toList [] #[] rfl (fun j i h => by simp at h) j i hd
    obtain rfl : oj = o := by simpa [hj] using ho
    rcases h2 with rfl | ⟨hlt, h3⟩
    · exact hall e he hb
    · have hl := hall e he hb
      have hsz : e.on < ops.size := by
        have := (Array.getElem?_eq_some_iff.1 hj).1
        omega
      have hoe : ops[e.on]? = some ops[e.on] := Array.getElem?_eq_getElem hsz
      exact ih e.on hlt _ i hoe (fun e' he' hb' => hcl e.on _ hoe hl e' he' hb') (by unfold Dep Region.before; rw [← Array.foldl_toList]; exact h3)
theorem take_C {i : Nat} {oi : Oper} (hi : ops[i]? = some oi) (hself : ∀ d, oi.dst = some d → d ∉ oi.looksAt ops) (hsel : ∀ (j : Nat) (o : Oper) cs b, ops[j]? = some o → o.op ≠ .select cs b)
    (hQ : ∀ c a d v w, Q (.panic c) (a.put d v) w → Q (.panic c) a w)
    (hcross : ∀ j oj, ops[j]? = some oj → j ≠ i → loud j = true → cr i j = true ∨ Dep ops j i ∨ Dep ops i j)
    (hcx : ∀ k j, cr k j = true → cx k = true) (hbehind : ∀ k ok, ops[k]? = some ok → k ≠ i → cx k = true → Dep ops k i ∨ ((∀ d, oi.dst = some d → d ∉ ok.looksAt ops) ∧ (∀ d, oi.dst = some d → ok.dst ≠ some d)))
    (hls : loud i = false) :
    ∀ (fuel : Nat) (listed : Array Bool) (a : Act) (w : World) (v : Value),
      (∀ j oj, ops[j]? = some oj → j ≠ i → listed.getD j true = false → ¬ Dep ops j i → oi.apart ops oj = true) →
      (∀ k ok, ops[k]? = some ok → listed.getD k false = true → ∀ e ∈ ok.after, Region.binds Region.Mode.any e = true → listed.getD e.on false = true) →
      i ∈ Region.ready Region.Mode.any ops listed → YieldsAt P ops w oi v a →
      wpAnyC P Region.Mode.any ops Q loud cr fuel (listed.setIfInBounds i true) (a.put oi.dst v) w → wpAnyC P Region.Mode.any ops Q loud cr (fuel + 1) listed a w := by
  intro fuel
  induction fuel with
  | zero =>
    intro listed a w v _ _ hr hy H
    refine ⟨fun h => (by rw [h] at hr; cases hr), fun j hj => ?_⟩
    by_cases hji : j = i
    · subst hji
      simp only [hls, Bool.false_eq_true, if_false]
      intro o ho
      obtain rfl : oi = o := Option.some.inj (hi.symm.trans ho)
      exact ⟨v, hy, H⟩
    · have := ready_mono hj hji
      rw [H.1] at this
      cases this
  | succ fuel ih =>
    intro listed a w v hfree hclosed hr hy H
    refine ⟨fun h => (by rw [h] at hr; cases hr), fun j hj => ?_⟩
    by_cases hji : j = i
    · subst hji
      simp only [hls, Bool.false_eq_true, if_false]
      intro o ho
      obtain rfl : oi = o := Option.some.inj (hi.symm.trans ho)
      exact ⟨v, hy, H⟩
    · have h1 := H.2 j (ready_mono hj hji)
      obtain ⟨hjun, oj, hoj, hall⟩ := mem_ready.1 hj
      have hiun := (mem_ready.1 hr).1
      have hndep : ∀ k ok, ops[k]? = some ok → (∀ e ∈ ok.after, Region.binds Region.Mode.any e = true → listed.getD e.on false = true) → ¬ Dep ops k i := fun k ok hk ha hd => by
        have h1 := dep_listed hclosed k ok i hk ha hd
        rcases Nat.lt_or_ge i listed.size with h' | h'
        · simp [h'] at hiun h1; rw [hiun] at h1; cases h1
        · simp [Array.getElem?_eq_none h'] at h1
      have hap := hfree j oj hoj hji hjun (hndep j oj hoj hall)
      obtain ⟨ap1, ap2, ap3⟩ := Oper.apart_spec hap
      have hfree' : ∀ k ok, ops[k]? = some ok → k ≠ i → (listed.setIfInBounds j true).getD k true = false →
          ¬ Dep ops k i → oi.apart ops ok = true := fun k ok hk hki hun hno => by
        refine hfree k ok hk hki ?_ hno
        by_cases hjk : j = k
        · subst hjk; exact hjun
        · rw [getD_set_ne true hjk] at hun; exact hun
      have hclosed' : ∀ k ok, ops[k]? = some ok → (listed.setIfInBounds j true).getD k false = true → ∀ e ∈ ok.after, Region.binds Region.Mode.any e = true → (listed.setIfInBounds j true).getD e.on false = true := fun k ok hk hl e he hb => by
        by_cases hjk : j = k
        · subst hjk
          obtain rfl : oj = ok := Option.some.inj (hoj.symm.trans hk)
          exact getD_set_true (hall e he hb)
        · rw [getD_set_ne false hjk] at hl
          exact getD_set_true (hclosed k ok hk hl e he hb)
      have hri := ready_mono hr (Ne.symm hji)
      by_cases hlj : loud j = true
      · simp only [hlj, if_true] at h1 ⊢
        have hcij : cr i j = true := (hcross j oj hoj hji hlj).resolve_right (fun hd => hd.elim (hndep j oj hoj hall) (fun hd => by
          obtain ⟨_, oi', hoi', halli⟩ := mem_ready.1 hr
          have h1 := dep_listed hclosed i oi' j hoi' halli hd
          rcases Nat.lt_or_ge j listed.size with h' | h'
          · simp [h'] at hjun h1; rw [hjun] at h1; cases h1
          · simp [Array.getElem?_eq_none h'] at h1))
        have h2 := wpOp_putC hoj hap (fun cs b => hsel j oj cs b hoj) (fun c a w => hQ c a oi.dst v w) h1
        refine wpOp_mono (fun a' w' h3 => ?_) h2
        obtain ⟨⟨u, hu⟩, h4, h5⟩ := h3
        refine ⟨fun k hkl hck => ?_, ?_⟩
        · intro ok hok
          have hki : k ≠ i := fun e => by
            subst e
            have hlt : k < listed.size := by
              rcases Nat.lt_or_ge k listed.size with h' | h'
              · exact h'
              · simp [Array.getElem?_eq_none h'] at hkl
            simp [hlt] at hiun hkl; rw [hiun] at hkl; cases hkl
          obtain ⟨vk, hvk, hvd⟩ := h4 k (getD_set_true hkl) hck ok hok
          have hb : (∀ d, oi.dst = some d → d ∉ ok.looksAt ops) ∧ (∀ d, oi.dst = some d → ok.dst ≠ some d) := (hbehind k ok hok hki (hcx k j hck)).resolve_left (hndep k ok hok (fun e he hb => hclosed k ok hok hkl e he hb))
          refine ⟨vk, ya_same hvk (execOp_put ok (fun cs b => hsel k ok cs b hok) a' oi.dst v hb.1).symm (wanted_put ok a' oi.dst v hb.1).symm, fun d hd hlt => ?_⟩
          rw [← hvd d hd (by rw [put_tmps_size]; exact hlt)]
          exact (put_tmps_ne a' v (fun e => hb.2 d e hd)).symm
        · obtain ⟨v', hv', hvd⟩ := h4 i (by
            have hlt : i < listed.size := by
              rcases Nat.lt_or_ge i listed.size with h' | h'
              · exact h'
              · simp [Array.getElem?_eq_none h'] at hiun
            simp [hlt]) hcij oi hi
          have hv2 : YieldsAt P ops w' oi v' a' := ya_same hv' (execOp_put oi (fun cs b => hsel i oi cs b hi) a' oi.dst v hself).symm (wanted_put oi a' oi.dst v hself).symm
          refine ih (listed.setIfInBounds j true) a' w' v' hfree' hclosed' hri hv2 ?_
          rw [Array.setIfInBounds_comm _ _ hji]
          have e : a'.put oi.dst v' = a'.put oi.dst v := by
            cases hd : oi.dst with
            | none => rfl
            | some d =>
              rw [hd] at hvd
              by_cases hlt : d < a'.tmps.size
              · have := hvd d rfl (by rw [put_tmps_size]; exact hlt)
                rw [put_tmps_self a' d v hlt] at this
                rw [Option.some.inj this]
              · simp [Act.put, Array.setIfInBounds, hlt]
          rw [e]
          exact h5
      · simp only [hlj, Bool.false_eq_true, if_false] at h1 ⊢
        intro o ho
        obtain rfl : oj = o := Option.some.inj (hoj.symm.trans ho)
        obtain ⟨u, hu, h2⟩ := h1 oj hoj
        have hu' : YieldsAt P ops w oj u a := ya_same hu (execOp_put oj (fun cs b => hsel j oj cs b hoj) a oi.dst v ap1).symm (wanted_put oj a oi.dst v ap1).symm
        refine ⟨u, hu', ?_⟩
        refine ih (listed.setIfInBounds j true) (a.put oj.dst u) w v hfree' hclosed' hri (ya_same hy (execOp_put oi (fun cs b => hsel i oi cs b hi) a oj.dst u ap3) (wanted_put oi a oj.dst u ap3)) ?_
        rw [Array.setIfInBounds_comm _ _ hji, ← Act.put_comm a v u ap2]
        exact h2
theorem stab_of {i : Nat} {o : Oper} {a : Act} {w : World} (hi : ops[i]? = some o) (h : ∀ K : Act → Prop, K a → if Region.wanted o (yielded ops a.tmps) = true then o.still P a w K else K (a.put o.dst undef)) : Stab P ops i a w := by
  intro o' ho'
  obtain rfl : o = o' := Option.some.inj (hi.symm.trans ho')
  have h1 : stOp P ops w i (fun a' => a' = a) a := by
    unfold stOp
    simp only [hi]
    exact h (fun a' => a' = a) rfl
  obtain ⟨v, hv, e⟩ := yieldsAt_of_stOp hi h1
  refine ⟨v, hv, fun d hd hlt => ?_⟩
  rw [hd] at e
  rw [← e]
  exact put_tmps_self a d v hlt
def silOk (ops : Array Oper) (loud : Nat → Bool) (cr : Nat → Nat → Bool) (cx : Nat → Bool) (listed : Array Bool) (i : Nat) : Bool :=
  match ops[i]? with
  | none => false
  | some oi => (Region.ready .any ops listed).contains i && !loud i &&
    (match oi.dst with | some d => !(oi.looksAt ops).contains d | none => true) &&
    (List.range ops.size).all fun j => match ops[j]? with
      | none => true
      | some oj => j == i || (((Region.before ops).getD j 0).testBit i || ((!loud j || cr i j || ((Region.before ops).getD i 0).testBit j) && (listed.getD j true || oi.apart ops oj) && (!cx j || match oi.dst with | some d => !(oj.looksAt ops).contains d && oj.dst != some d | none => true)))
def wpCan (P : Program) (ops : Array Oper) (Q : Exit → Act → World → Prop) (loud : Nat → Bool) (cr : Nat → Nat → Bool) : List Nat → Array Bool → Act → World → Prop
  | [], _, a, w => Q .normal a w
  | i :: rest, listed, a, w =>
    if loud i = true then wpOp P ops Q i (fun a' w' => (∀ k, listed.getD k false = true → cr k i = true → Stab P ops k a' w') ∧ wpCan P ops Q loud cr rest (listed.setIfInBounds i true) a' w') a w
    else stOp P ops w i (fun a' => wpCan P ops Q loud cr rest (listed.setIfInBounds i true) a' w) a
def canOk (ops : Array Oper) (loud : Nat → Bool) (cr : Nat → Nat → Bool) (cx : Nat → Bool) : List Nat → Array Bool → Bool
  | [], listed => (Region.ready .any ops listed).isEmpty
  | i :: rest, listed => (if loud i then Region.ready .any ops listed == [i] else silOk ops loud cr cx listed i) && canOk ops loud cr cx rest (listed.setIfInBounds i true)
theorem C_of_can (hcx : ∀ k j, cr k j = true → cx k = true) (hsel : ∀ (j : Nat) (o : Oper) cs b, ops[j]? = some o → o.op ≠ .select cs b) (hQ : ∀ c a d v w, Q (.panic c) (a.put d v) w → Q (.panic c) a w) :
    ∀ (l : List Nat) (listed : Array Bool) (a : Act) (w : World), canOk ops loud cr cx l listed = true →
      (∀ k ok, ops[k]? = some ok → listed.getD k false = true → ∀ e ∈ ok.after, Region.binds .any e = true → listed.getD e.on false = true) →
      wpCan P ops Q loud cr l listed a w → wpAnyC P .any ops Q loud cr l.length listed a w
  | [], listed, a, w, hok, _, h => ⟨by simpa [canOk] using hok, h⟩
  | i :: rest, listed, a, w, hok, hcl, h => by
    simp only [canOk, Bool.and_eq_true] at hok
    obtain ⟨hi, hrest⟩ := hok
    have hrd : i ∈ Region.ready .any ops listed := by
      split at hi
      · rw [beq_iff_eq.1 hi]; exact List.mem_singleton.2 rfl
      · unfold silOk at hi
        split at hi
        · cases hi
        · simp only [Bool.and_eq_true, List.contains_iff_mem] at hi
          exact hi.1.1.1
    have hcl' : ∀ k ok, ops[k]? = some ok → (listed.setIfInBounds i true).getD k false = true → ∀ e ∈ ok.after, Region.binds .any e = true → (listed.setIfInBounds i true).getD e.on false = true := fun k ok hk hl e he hb => by
      by_cases hjk : i = k
      · subst hjk
        obtain ⟨_, oi, hoi, hall⟩ := mem_ready.1 hrd
        obtain rfl : oi = ok := Option.some.inj (hoi.symm.trans hk)
        exact getD_set_true (hall e he hb)
      · rw [getD_set_ne false hjk] at hl
        exact getD_set_true (hcl k ok hk hl e he hb)
    simp only [wpCan] at h
    by_cases hl : loud i = true
    · simp only [hl, if_true] at hi h
      have hre := beq_iff_eq.1 hi
      refine ⟨fun h0 => by rw [h0] at hre; (cases hre), fun j hj => ?_⟩
      rw [hre] at hj
      obtain rfl := List.mem_singleton.1 hj
      simp only [hl, if_true]
      exact wpOp_mono (fun a' w' h' => ⟨h'.1, C_of_can hcx hsel hQ rest _ a' w' hrest hcl' h'.2⟩) h
    · simp only [hl, Bool.false_eq_true, if_false] at hi h
      unfold silOk at hi
      split at hi
      · cases hi
      rename_i oi hoi
      simp only [Bool.and_eq_true] at hi
      obtain ⟨⟨⟨_, _⟩, hself⟩, hall⟩ := hi
      obtain ⟨v, hv, hr⟩ := yieldsAt_of_stOp hoi h
      rw [List.all_eq_true] at hall
      have hj : ∀ j oj, ops[j]? = some oj → j ≠ i → (((Region.before ops).getD j 0).testBit i || ((!loud j || cr i j || ((Region.before ops).getD i 0).testBit j) && (listed.getD j true || oi.apart ops oj) && (!cx j || match oi.dst with | some d => !(oj.looksAt ops).contains d && oj.dst != some d | none => true))) = true := fun j oj hoj hne => by
        have h1 := hall j (List.mem_range.2 (Array.getElem?_eq_some_iff.1 hoj).1)
        simp only [hoj] at h1
        rcases Bool.or_eq_true_iff.1 h1 with h2 | h2
        · exact absurd (by simpa using h2) hne
        · exact h2
      refine take_C hoi ?_ hsel hQ ?_ hcx ?_ (by simpa using hl) rest.length listed a w v ?_ hcl hrd hv (C_of_can hcx hsel hQ rest _ _ w hrest hcl' hr)
      · intro d hd
        rw [hd] at hself
        simpa using hself
      · intro j oj hoj hne hlj
        rcases Bool.or_eq_true_iff.1 (hj j oj hoj hne) with h2 | h2
        · exact .inr (.inl h2)
        · simp only [Bool.and_eq_true, Bool.or_eq_true, hlj, Bool.not_true, Bool.false_eq_true, false_or] at h2
          exact h2.1.1.elim .inl (fun h => .inr (.inr h))
      · intro k ok hok hne hck
        rcases Bool.or_eq_true_iff.1 (hj k ok hok hne) with h2 | h2
        · exact .inl h2
        · simp only [Bool.and_eq_true] at h2
          refine .inr ⟨fun d hd => ?_, fun d hd => ?_⟩ <;> (have h3 := h2.2; rw [hck, hd] at h3; simp at h3)
          · exact h3.1
          · exact h3.2
      · intro j oj hoj hne hun hnd
        rcases Bool.or_eq_true_iff.1 (hj j oj hoj hne) with h2 | h2
        · exact absurd h2 hnd
        · simp only [Bool.and_eq_true, Bool.or_eq_true] at h2
          rcases h2.1.2 with h3 | h3
          · rw [hun] at h3; cases h3
          · exact h3
theorem wp_region_can {id : Nat} {a : Act} {w : World} (l ll : List Nat) (xs : List (Nat × Nat)) (hm : P.follows .mixedOrders = true) (hs : Region.noSelect ops = true) (hlen : (l.length == ops.size) = true)
    (hok : canOk ops (fun i => ll.contains i) (fun i j => xs.contains (i, j)) (fun i => xs.any fun x => x.1 == i) l (Array.replicate ops.size false) = true) (hQ : ∀ c a d v w, Q (.panic c) (a.put d v) w → Q (.panic c) a w)
    (h : wpCan P ops Q (fun i => ll.contains i) (fun i j => xs.contains (i, j)) l (Array.replicate ops.size false) a w.drew) : (Code.region id ops true).wp P Q a w := by
  refine wp_region_any hm (any_of_C (loud := fun i => ll.contains i) (cr := fun i j => xs.contains (i, j)) _ _ _ _ ?_)
  rw [← beq_iff_eq.1 hlen]
  refine C_of_can (cx := fun i => xs.any fun x => x.1 == i) (fun k j h => List.any_eq_true.2 ⟨(k, j), by simpa using h, by simp⟩) (Region.noSelect_spec hs) hQ l _ a w.drew (by rw [beq_iff_eq.1 hlen]; exact hok) (fun k ok _ hl => ?_) (by rw [beq_iff_eq.1 hlen]; exact h)
  exfalso
  simp only [Array.getD_eq_getD_getElem?, Array.getElem?_replicate] at hl
  split at hl <;> cases hl
def Mid (Q : Exit → Act → World → Prop) (K : Act → World → Prop) : Exit → Act → World → Prop
  | .normal, a, w => K a w
  | e, a, w => Q e a w
theorem Mid.normal {Q : Exit → Act → World → Prop} {K : Act → World → Prop} {a : Act} {w : World} (h : K a w) : Mid Q K .normal a w := h
theorem can_sil {i : Nat} {o : Oper} {rest ll : List Nat} {xs : List (Nat × Nat)} {listed : Array Bool} {a : Act} {w : World} (hi : ops[i]? = some o) (hl : ll.contains i = false)
    (h : ∀ K : Act → Prop, (∀ a, wpCan P ops Q (fun i => ll.contains i) (fun i j => xs.contains (i, j)) rest (listed.setIfInBounds i true) a w → K a) → if Region.wanted o (yielded ops a.tmps) = true then o.still P a w K else K (a.put o.dst undef)) :
    wpCan P ops Q (fun i => ll.contains i) (fun i j => xs.contains (i, j)) (i :: rest) listed a w := by
  simp only [wpCan, hl, Bool.false_eq_true, if_false]
  unfold stOp
  simp only [hi]
  exact h _ fun _ h => h
theorem can_loud {i : Nat} {o : Oper} {rest ll : List Nat} {xs : List (Nat × Nat)} {listed : Array Bool} {a : Act} {w : World} (ks : List Nat) (hi : ops[i]? = some o) (hl : ll.contains i = true) (hks : xs.filterMap (fun x => if x.2 = i then some x.1 else none) = ks)
    (h : ∀ K : Act → World → Prop, (∀ a' w', (∀ k ∈ ks, Stab P ops k a' w') → wpCan P ops Q (fun i => ll.contains i) (fun i j => xs.contains (i, j)) rest (listed.setIfInBounds i true) a' w' → K a' w') → wpList P ops (Mid Q K) [o] a w) :
    wpCan P ops Q (fun i => ll.contains i) (fun i j => xs.contains (i, j)) (i :: rest) listed a w := by
  simp only [wpCan, hl, if_true]
  have h1 := h (fun a' w' => (∀ k, listed.getD k false = true → xs.contains (k, i) = true → Stab P ops k a' w') ∧ wpCan P ops Q (fun i => ll.contains i) (fun i j => xs.contains (i, j)) rest (listed.setIfInBounds i true) a' w')
    (fun a' w' hs hc => ⟨fun k _ hk => hs k (by
      rw [← hks]
      exact List.mem_filterMap.2 ⟨(k, i), by simpa using hk, by simp⟩), hc⟩)
  unfold wpList at h1
  unfold wpOp
  simp only [hi]
  split
  · rename_i hw
    simp only [hw, if_true] at h1
    refine h1.imp (fun h2 => ?_) (fun h2 => ⟨h2.1, h2.2⟩)
    unfold Oper.wp at *
    generalize (execOp a.eval o).run P w = r at *
    cases r with
    | ok n w' =>
      cases n <;> simp only [Oper.upon] at h2 ⊢ <;> first
        | exact h2
        | exact Calls.mono h2 (fun e w'' he => by cases e <;> exact he)
    | halt x w' => cases x <;> simp only [Oper.upon] at h2 ⊢ <;> exact h2
  · rename_i hw
    simp only [hw] at h1
    exact h1
theorem can_nil {ll : List Nat} {xs : List (Nat × Nat)} {listed : Array Bool} {a : Act} {w : World} (h : Q .normal a w) : wpCan P ops Q (fun i => ll.contains i) (fun i j => xs.contains (i, j)) [] listed a w := h
theorem stabs_nil {P : Program} {ops : Array Oper} {a : Act} {w : World} : ∀ k ∈ ([] : List Nat), Stab P ops k a w := fun _ h => (by cases h)
end
end Go.Proofs.YtfgdnakfikpmpaaGreatDoor
namespace Go.Proofs.YtfgdnakfikpmpaaGreatDoor
open Go
section
variable {P : Program} {ops : Array Oper} {Q : Exit → Act → World → Prop} {loud : Nat → Bool} {cr : Nat → Nat → Bool} {cx : Nat → Bool}
end
end Go.Proofs.YtfgdnakfikpmpaaGreatDoor
namespace Go.Proofs.YtfgdnakfikpmpaaGreatDoor
open Go Go.RowKit
section
variable {P : Program} {ops : Array Oper} {Q : Exit → Act → World → Prop}
structure CanW (P : Program) (ops : Array Oper) (Q : Exit → Act → World → Prop) (ll : List Nat) (xs : List (Nat × Nat)) (l : List Nat) (listed : Array Bool) (a : Act) (w : World) : Prop where
  out : wpCan P ops Q (fun i => ll.contains i) (fun i j => xs.contains (i, j)) l listed a w
theorem wp_region_canw {id : Nat} {a : Act} {w : World} (l ll : List Nat) (xs : List (Nat × Nat)) (hm : P.follows .mixedOrders = true) (hs : Region.noSelect ops = true) (hlen : (l.length == ops.size) = true)
    (hok : canOk ops (fun i => ll.contains i) (fun i j => xs.contains (i, j)) (fun i => xs.any fun x => x.1 == i) l (Array.replicate ops.size false) = true) (hQ : ∀ c a d v w, Q (.panic c) (a.put d v) w → Q (.panic c) a w)
    (h : CanW P ops Q ll xs l (Array.replicate ops.size false) a w.drew) : (Code.region id ops true).wp P Q a w :=
  wp_region_can l ll xs hm hs hlen hok hQ h.out
theorem canw_sil {i : Nat} {o : Oper} {rest ll : List Nat} {xs : List (Nat × Nat)} {listed : Array Bool} {a : Act} {w : World} (hi : ops[i]? = some o) (hl : ll.contains i = false)
    (h : ∀ K : Act → Prop, (∀ a, CanW P ops Q ll xs rest (listed.setIfInBounds i true) a w → K a) → if Region.wanted o (yielded ops a.tmps) = true then o.still P a w K else K (a.put o.dst undef)) :
    CanW P ops Q ll xs (i :: rest) listed a w := ⟨can_sil hi hl fun K hK => h K fun a hc => hK a hc.out⟩
theorem canw_loud {i : Nat} {o : Oper} {rest ll : List Nat} {xs : List (Nat × Nat)} {listed : Array Bool} {a : Act} {w : World} (ks : List Nat) (hi : ops[i]? = some o) (hl : ll.contains i = true) (hks : xs.filterMap (fun x => if x.2 = i then some x.1 else none) = ks)
    (h : ∀ K : Act → World → Prop, (∀ a' w', (∀ k ∈ ks, Stab P ops k a' w') → CanW P ops Q ll xs rest (listed.setIfInBounds i true) a' w' → K a' w') → wpList P ops (Mid Q K) [o] a w) :
    CanW P ops Q ll xs (i :: rest) listed a w := ⟨can_loud ks hi hl hks fun K hK => h K fun a' w' hs hc => hK a' w' hs hc.out⟩
theorem canw_nil {ll : List Nat} {xs : List (Nat × Nat)} {listed : Array Bool} {a : Act} {w : World} (h : Q .normal a w) : CanW P ops Q ll xs [] listed a w := ⟨can_nil h⟩
end
end Go.Proofs.YtfgdnakfikpmpaaGreatDoor
namespace Go.Proofs.YtfgdnakfikpmpaaGreatDoor
open Go Go.RowKit
section
variable {P : Program} {ops : Array Oper} {Q : Exit → Act → World → Prop} {n : Nat}
end
end Go.Proofs.YtfgdnakfikpmpaaGreatDoor
