/-
  Parts of what is proved for this claim; each declaration is one of the seat's texts.
-/
import Derived.Test.YtcallmnhaikfpaaGreatDoorTGC
import Derived.Test.YtcallmnhaikfpaaGreatDoorTGD
import Derived.WalkKit
import Derived.WalkSpells
import Derived.WalkLawsBesides
import Derived.ProofKit
import Derived.Deep.Slices
import Derived.Deep.AppendSrc
import Derived.Lib.Hide
set_option linter.unusedVariables false
set_option linter.unusedSimpArgs false
namespace Go.Proofs.YtcallmnhaikfpaaGreatDoor
open Go Go.RowKit Go.Deep
theorem framed_text {e : Ent} (h : e.err = 0) (hi : e.In) : textB (textOf e.bytes) = e.framed := by
  unfold textB Ent.framed
  rw [textOf_size, bytesOf_textOf (Ent.bytes_allB h hi)]
structure Lg.Good (x : Lg) : Prop where
  len : x.l.length ≤ 65536
  ep0 : 0 ≤ x.epoch
  ep1 : x.epoch ≤ 9223372036854775807
  seq : ∀ j (h : j < x.l.length), x.l[j].seq = (j : Int)
  ok : ∀ e ∈ x.l, e.err = 0 ∧ e.In ∧ e.epoch ≤ x.epoch
  rise : x.l.Pairwise fun a b => a.epoch ≤ b.epoch
theorem sees_load {most : Int → Int} {m : Nat} {ep : Int} (hmost : ∀ n : Nat, ∃ q : Nat, most n = q ∧ (700 ≤ q ∨ n ≤ q)) : ∀ (l : List Ent) (i : Nat) (last : Int) (acc : List Ent) (r : Rs) (t : Bytes),
    (∀ j (h : j < l.length), l[j].seq = ((i + j : Nat) : Int)) → (∀ e ∈ l, e.err = 0 ∧ e.In ∧ e.epoch ≤ ep) → (∀ e ∈ l, e.bytes.length ≤ m) → (l.Pairwise fun a b => a.epoch ≤ b.epoch) → (∀ e ∈ l, last ≤ e.epoch) →
    r.Sees (l.flatMap Ent.framed ++ t) → ∃ r', loadF most m ep l.length i last acc r = .inl (acc ++ l, r') ∧ r'.Sees t
  | [], i, last, acc, r, t, _, _, _, _, _, h => ⟨r, by simp [loadF], by simpa using h⟩
  | e :: l, i, last, acc, r, t, hs, he, hm, hp, hl, h => by
    obtain ⟨e1, e2, e3⟩ := he e List.mem_cons_self
    have e4 := hm e List.mem_cons_self
    have hlen := Ent.bytes_length e1
    have hsq : e.seq = (i : Int) := hs 0 (by simp)
    rw [List.flatMap_cons, ← framed_text e1 e2, List.append_assoc] at h
    obtain ⟨b1, b2⟩ := sees_text (most := m) h (by rw [textOf_size]; omega) (by rw [textOf_size]; omega)
    obtain ⟨q, hq, hq'⟩ := hmost e.bytes.length
    have hent := entGet_bytes e1 e2 q hq'
    have hp' := List.pairwise_cons.1 hp
    obtain ⟨r', h1, h2⟩ := sees_load hmost l (i + 1) e.epoch (acc ++ [e]) (r.text m).2 t (fun j hj => by
      have := hs (j + 1) (by simp; omega)
      rw [List.getElem_cons_succ] at this
      rw [this]; omega) (fun x hx => he x (List.mem_cons_of_mem _ hx)) (fun x hx => hm x (List.mem_cons_of_mem _ hx)) hp'.2 hp'.1 b2
    refine ⟨r', ?_, h2⟩
    have hlast := hl e List.mem_cons_self
    have ht : (r.text m).1 = textOf e.bytes := congrArg Prod.fst b1
    simp only [List.length_cons, loadF]
    rw [if_neg (by rw [b2.err]; simp), ht, textOf_size, hq, bytesOf_textOf (Ent.bytes_allB e1 e2), hent]
    simp only
    rw [if_neg (by simp), if_neg (by rw [hsq]; simp), if_neg (by omega), h1, List.append_assoc]
    rfl
theorem loadL_bytes {most : Int → Int} {x : Lg} (h : x.Good) {m : Nat} (hmost : ∀ n : Nat, ∃ q : Nat, most n = q ∧ (700 ≤ q ∨ n ≤ q)) (hm : ∀ e ∈ x.l, e.bytes.length ≤ m) : loadL most m x.bytes = (some x, 0, 0) := by
  have hs : (Rs.new x.bytes).Sees (uintB x.epoch.toNat ++ (uintB x.l.length ++ (x.l.flatMap Ent.framed ++ []))) := by
    have := sees_new x.bytes
    rw [List.append_nil, ← List.append_assoc]; exact this
  have h1 := h.ep1
  have h0 := h.ep0
  have hl := h.len
  obtain ⟨a1, a2⟩ := sees_uint hs (by omega)
  obtain ⟨b1, b2⟩ := sees_count (most := 65536) a2 (by omega) (by omega)
  have a1' : (Rs.new x.bytes).uint.1 = x.epoch.toNat := congrArg Prod.fst a1
  unfold loadL
  simp only
  rw [a1']
  generalize (Rs.new x.bytes).uint.2 = r1 at *
  have b1' : (r1.count 65536).1 = x.l.length := congrArg Prod.fst b1
  rw [Int.toNat_of_nonneg h0]
  have b2' : (r1.count 65536).2.err = 0 := b2.err
  rw [b1', if_neg (by rw [b2']; simp; omega)]
  obtain ⟨r', c1, c2⟩ := sees_load (ep := x.epoch) hmost x.l 0 0 [] (r1.count 65536).2 [] (fun j hj => by rw [h.seq j hj]; simp) h.ok hm h.rise (fun e he => ((Ent.err_iff e).1 (h.ok e he).1).2.1) b2
  rw [c1]
  simp only [List.nil_append]
  have hend : r'.end'.err = 0 := by
    have h1 := c2.err
    have h2 := c2.rest
    unfold Rs.rest at h2
    have h3 : r'.b.length ≤ r'.at' := by simpa using h2
    unfold Rs.end'
    rw [if_neg (by omega)]
    exact h1
  rw [if_neg (by rw [hend]; simp)]
theorem framed_le {x : Lg} {e : Ent} (he : e ∈ x.l) : e.bytes.length ≤ x.bytes.length := by
  have : ∀ l : List Ent, e ∈ l → e.bytes.length ≤ (l.flatMap Ent.framed).length := fun l => by
    induction l with
    | nil => intro h; cases h
    | cons y l ih =>
      intro h
      rw [List.flatMap_cons, List.length_append]
      rcases List.mem_cons.1 h with rfl | h
      · unfold Ent.framed; rw [List.length_append]; omega
      · have := ih h; omega
  have := this x.l he
  unfold Lg.bytes
  rw [List.length_append]
  omega
theorem load_bytes {x : Lg} (h : x.Good) : load x.bytes = (some x, 0, 0) :=
  loadL_bytes h (fun n => ⟨n, rfl, .inr (Nat.le_refl _)⟩) fun e he => framed_le he
end Go.Proofs.YtcallmnhaikfpaaGreatDoor
namespace Go.Proofs.YtcallmnhaikfpaaGreatDoor
open Go Go.RowKit Go.Deep
def planP (t : Int) : Plan := mkPlan (mkReq 1 t ⟨#[112]⟩ []) 2 (mkFp [⟨#[97]⟩] [])
def xLive : Lg := ⟨[mkEnt 0 3 (planP 1), mkEnt 1 3 (planP 2)], 3⟩
theorem planP_check (t : Int) : (planP t).req.check = 0 := by rfl
theorem planP_normal (t : Int) : (planP t).fp.normal = true := by
  show Fp.normal (mkFp [⟨#[97]⟩] []) = true
  decide +kernel
theorem planP_right (t : Int) : (planP t).right = 0 := by
  unfold Plan.right
  rw [if_neg (by rw [planP_check]; simp), if_neg (by show ¬ ((2 : Int) ≠ 1 ∧ (2 : Int) ≠ 2); omega), if_neg (by rw [planP_normal]; simp)]
theorem plan0_right : plan0.right = 90 := by decide +kernel
theorem live1 : lg0.append 3 [planP 1, planP 2] = (⟨0, 0, 0⟩, xLive) := by
  unfold Lg.append
  rw [if_neg (by show ¬ ((3 : Int) < 0 ∨ (3 : Int) < 0); omega), if_neg (by show ¬ 65536 < 0 + 2; omega)]
  simp only [badAt, planP_right]
  rfl
theorem live2 : xLive.append 2 [] = (⟨0, 120, 0⟩, xLive) := by
  unfold Lg.append
  rw [if_pos (by left; show (2 : Int) < 3; omega)]
theorem live3 : xLive.append 4 [planP 3, plan0] = (⟨0, 90, 1⟩, xLive) := by
  unfold Lg.append
  rw [if_neg (by show ¬ ((4 : Int) < 3 ∨ (4 : Int) < 0); omega), if_neg (by show ¬ 65536 < 2 + 2; omega)]
  simp only [badAt, planP_right, plan0_right]
  simp
theorem planP_in (t : Int) (h0 : 0 ≤ t) (h1 : t < 18446744073709551616) : (planP t).req.In := ⟨by show (-9223372036854775808 : Int) ≤ 1; omega, by show (1 : Int) ≤ _; omega, h0, h1, fun v hv => by cases hv⟩
theorem live_good : xLive.Good := by
  refine ⟨by decide, by decide, by decide, fun j hj => ?_, fun e he => ?_, ?_⟩
  · have : j < 2 := hj
    rcases (show j = 0 ∨ j = 1 by omega) with rfl | rfl <;> rfl
  · simp only [xLive, List.mem_cons, List.not_mem_nil, or_false] at he
    rcases he with rfl | rfl
    · exact ⟨(Ent.err_iff _).2 ⟨by decide, by decide, planP_right 1⟩, ⟨by decide, by decide, planP_in 1 (by omega) (by omega)⟩, by decide⟩
    · exact ⟨(Ent.err_iff _).2 ⟨by decide, by decide, planP_right 2⟩, ⟨by decide, by decide, planP_in 2 (by omega) (by omega)⟩, by decide⟩
  · simp [xLive, mkEnt, Ent.epoch]
theorem live_load : load xLive.bytes = (some xLive, 0, 0) := load_bytes live_good
end Go.Proofs.YtcallmnhaikfpaaGreatDoor
namespace Go.Proofs.YtcallmnhaikfpaaGreatDoor
open Go Go.RowKit Go.Deep
theorem layAt_get : ∀ (n : Nat) (e : Int) (ps : List Plan) (j : Nat) (h : j < (layAt n e ps).length) (h' : j < ps.length), (layAt n e ps)[j] = mkEnt ((n + j : Nat) : Int) e ps[j]
  | _, _, [], _, h, _ => absurd h (by simp [layAt])
  | n, e, p :: ps, 0, _, _ => rfl
  | n, e, p :: ps, j + 1, h, h' => by
    have := layAt_get (n + 1) e ps j (by simpa [layAt] using h) (by simpa using h')
    simp only [layAt, List.getElem_cons_succ, this]
    rw [show n + 1 + j = n + (j + 1) by omega]
theorem layAt_len : ∀ (n : Nat) (e : Int) (ps : List Plan), (layAt n e ps).length = ps.length
  | _, _, [] => rfl
  | n, e, p :: ps => by simp [layAt, layAt_len (n + 1) e ps]
theorem layAt_mem {n : Nat} {e : Int} {ps : List Plan} {x : Ent} (h : x ∈ layAt n e ps) : ∃ j, ∃ h : j < ps.length, x = mkEnt ((n + j : Nat) : Int) e ps[j] := by
  obtain ⟨j, hj, rfl⟩ := List.getElem_of_mem h
  have := layAt_len n e ps
  exact ⟨j, by omega, layAt_get n e ps j hj (by omega)⟩
theorem badAt_none : ∀ (i : Nat) (ps : List Plan), badAt i ps = none → ∀ p ∈ ps, p.right = 0
  | _, [], _, _, h => by cases h
  | i, q :: ps, h, p, hp => by
    unfold badAt at h
    split at h
    · cases h
    · rename_i hq
      rcases List.mem_cons.1 hp with rfl | hp
      · simpa using hq
      · exact badAt_none (i + 1) ps h p hp
theorem badAt_some : ∀ (i : Nat) (ps : List Plan) (e : Int) (k : Nat), badAt i ps = some (e, k) → e ≠ 0 ∧ i ≤ k ∧ k < i + ps.length
  | _, [], _, _, h => by cases h
  | i, q :: ps, e, k, h => by
    unfold badAt at h
    split at h
    · rename_i hq
      simp only [Option.some.injEq, Prod.mk.injEq] at h
      obtain ⟨rfl, rfl⟩ := h
      exact ⟨hq, Nat.le_refl _, by simp⟩
    · obtain ⟨h1, h2, h3⟩ := badAt_some (i + 1) ps e k h
      exact ⟨h1, by omega, by simp; omega⟩
theorem append_cases (x : Lg) (ep : Int) (ps : List Plan) :
    ((x.append ep ps).1.err ≠ 0 ∧ (x.append ep ps).2 = x ∧ (x.append ep ps).1.n = 0) ∨
    (x.append ep ps = (⟨x.l.length, 0, 0⟩, ⟨x.l ++ layAt x.l.length ep ps, ep⟩) ∧ x.epoch ≤ ep ∧ 0 ≤ ep ∧ x.l.length + ps.length ≤ 65536 ∧ ∀ p ∈ ps, p.right = 0) := by
  unfold Lg.append
  split
  · exact .inl ⟨by simp, rfl, rfl⟩
  · split
    · exact .inl ⟨by simp, rfl, rfl⟩
    · cases h : badAt 0 ps with
      | none => exact .inr ⟨rfl, by omega, by omega, by omega, badAt_none 0 ps h⟩
      | some r =>
        obtain ⟨e, i⟩ := r
        exact .inl ⟨(badAt_some 0 ps e i h).1, rfl, rfl⟩
theorem lg0_good : lg0.Good := ⟨by decide, by decide, by decide, fun j hj => absurd hj (by simp [lg0]), fun e he => (by cases he), List.Pairwise.nil⟩
theorem append_good {x : Lg} (h : x.Good) {ep : Int} {ps : List Plan} (he : ep ≤ 9223372036854775807) (hi : ∀ p ∈ ps, p.req.In) : (x.append ep ps).2.Good := by
  rcases append_cases x ep ps with ⟨-, e, -⟩ | ⟨e, h1, h2, h3, h4⟩
  · rw [e]; exact h
  · rw [e]
    have hl := layAt_len x.l.length ep ps
    refine ⟨?_, h2, he, fun j hj => ?_, fun e he' => ?_, ?_⟩
    · show (x.l ++ layAt x.l.length ep ps).length ≤ _
      rw [List.length_append]; omega
    · show (x.l ++ layAt x.l.length ep ps)[j].seq = _
      have hj : j < (x.l ++ layAt x.l.length ep ps).length := hj
      rw [List.length_append] at hj
      by_cases hlt : j < x.l.length
      · rw [List.getElem_append_left hlt]; exact h.seq j hlt
      · rw [List.getElem_append_right (by omega), layAt_get _ _ _ _ (by omega) (by omega)]
        show ((x.l.length + (j - x.l.length) : Nat) : Int) = _
        omega
    · have he' : e ∈ x.l ++ layAt x.l.length ep ps := he'
      show e.err = 0 ∧ e.In ∧ e.epoch ≤ ep
      rcases List.mem_append.1 he' with he' | he'
      · obtain ⟨g1, g2, g3⟩ := h.ok e he'
        exact ⟨g1, g2, by omega⟩
      · obtain ⟨j, hj, rfl⟩ := layAt_mem he'
        refine ⟨(Ent.err_iff _).2 ⟨by show (0 : Int) ≤ ((x.l.length + j : Nat) : Int); omega, h2, h4 _ (List.getElem_mem _)⟩, ⟨by show ((x.l.length + j : Nat) : Int) ≤ _; omega, he, hi _ (List.getElem_mem _)⟩, Int.le_refl _⟩
    · show (x.l ++ layAt x.l.length ep ps).Pairwise _
      rw [List.pairwise_append]
      refine ⟨h.rise, ?_, fun a ha b hb => ?_⟩
      · rw [List.pairwise_iff_getElem]
        intro i j hi hj hij
        rw [layAt_get _ _ _ _ hi (by omega), layAt_get _ _ _ _ hj (by omega)]
        exact Int.le_refl _
      · obtain ⟨j, hj, rfl⟩ := layAt_mem hb
        have := (h.ok a ha).2.2
        show a.epoch ≤ ep
        omega
end Go.Proofs.YtcallmnhaikfpaaGreatDoor
