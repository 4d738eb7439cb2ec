/-
  A log's bytes, there and back, in plain words.
  What the law's live() asks, in plain words.
  What Append leaves is a log as it should be.
  The document's readers of requests, footprints, entries and logs say what the program's say.
  The document's readers of entries and logs say what the program's say.
-/
import Derived.Test.YtnknihmchmmenaaGreatGC
import Derived.Test.YtnknihmchmmenaaGreatGD
import Derived.WalkKit
import Derived.WalkSpells
import Derived.WalkLawsBesides
import Derived.ProofKit
import Derived.Deep.Slices
import Derived.Deep.AppendSrc
import Derived.Lib.Hide
namespace Go.Proofs.YtnknihmchmmenaaGreat
set_option linter.unusedVariables false
set_option linter.unusedSimpArgs false
open Go Go.RowKit Go.Deep

theorem framed_text {e : Ent} (h : e.err = 0) (hi : e.In) : textB (textOf e.bytes) = e.framed := by
  unfold textB Ent.framed
  rw [textOf_size, bytesOf_textOf (Ent.bytes_allB h hi)]

/-- what holds of a log that was made by Append, or loaded -/
structure Lg.Good (x : Lg) : Prop where
  len : x.l.length ≤ 65536
  ep0 : 0 ≤ x.epoch
  ep1 : x.epoch ≤ 9223372036854775807
  seq : ∀ j (h : j < x.l.length), x.l[j].seq = (j : Int)
  ok : ∀ e ∈ x.l, e.err = 0 ∧ e.In ∧ e.epoch ≤ x.epoch
  rise : x.l.Pairwise fun a b => a.epoch ≤ b.epoch

theorem sees_load {most : Int → Int} {m : Nat} {ep : Int} (hmost : ∀ n : Nat, ∃ q : Nat, most n = q ∧ (700 ≤ q ∨ n ≤ q)) : ∀ (l : List Ent) (i : Nat) (last : Int) (acc : List Ent) (r : Rs) (t : Bytes),
    (∀ j (h : j < l.length), l[j].seq = ((i + j : Nat) : Int)) → (∀ e ∈ l, e.err = 0 ∧ e.In ∧ e.epoch ≤ ep) → (∀ e ∈ l, e.bytes.length ≤ m) → (l.Pairwise fun a b => a.epoch ≤ b.epoch) → (∀ e ∈ l, last ≤ e.epoch) →
    r.Sees (l.flatMap Ent.framed ++ t) → ∃ r', loadF most m ep l.length i last acc r = .inl (acc ++ l, r') ∧ r'.Sees t
  | [], i, last, acc, r, t, _, _, _, _, _, h => ⟨r, by simp [loadF], by simpa using h⟩
  | e :: l, i, last, acc, r, t, hs, he, hm, hp, hl, h => by
    obtain ⟨e1, e2, e3⟩ := he e List.mem_cons_self
    have e4 := hm e List.mem_cons_self
    have hlen := Ent.bytes_length e1
    have hsq : e.seq = (i : Int) := hs 0 (by simp)
    rw [List.flatMap_cons, ← framed_text e1 e2, List.append_assoc] at h
    obtain ⟨b1, b2⟩ := sees_text (most := m) h (by rw [textOf_size]; omega) (by rw [textOf_size]; omega)
    obtain ⟨q, hq, hq'⟩ := hmost e.bytes.length
    have hent := entGet_bytes e1 e2 q hq'
    have hp' := List.pairwise_cons.1 hp
    obtain ⟨r', h1, h2⟩ := sees_load hmost l (i + 1) e.epoch (acc ++ [e]) (r.text m).2 t (fun j hj => by
      have := hs (j + 1) (by simp; omega)
      rw [List.getElem_cons_succ] at this
      rw [this]; omega) (fun x hx => he x (List.mem_cons_of_mem _ hx)) (fun x hx => hm x (List.mem_cons_of_mem _ hx)) hp'.2 hp'.1 b2
    refine ⟨r', ?_, h2⟩
    have hlast := hl e List.mem_cons_self
    have ht : (r.text m).1 = textOf e.bytes := congrArg Prod.fst b1
    simp only [List.length_cons, loadF]
    rw [if_neg (by rw [b2.err]; simp), ht, textOf_size, hq, bytesOf_textOf (Ent.bytes_allB e1 e2), hent]
    simp only
    rw [if_neg (by simp), if_neg (by rw [hsq]; simp), if_neg (by omega), h1, List.append_assoc]
    rfl

/-- a log's bytes are read as the log -/
theorem loadL_bytes {most : Int → Int} {x : Lg} (h : x.Good) {m : Nat} (hmost : ∀ n : Nat, ∃ q : Nat, most n = q ∧ (700 ≤ q ∨ n ≤ q)) (hm : ∀ e ∈ x.l, e.bytes.length ≤ m) : loadL most m x.bytes = (some x, 0, 0) := by
  have hs : (Rs.new x.bytes).Sees (uintB x.epoch.toNat ++ (uintB x.l.length ++ (x.l.flatMap Ent.framed ++ []))) := by
    have := sees_new x.bytes
    rw [List.append_nil, ← List.append_assoc]; exact this
  have h1 := h.ep1
  have h0 := h.ep0
  have hl := h.len
  obtain ⟨a1, a2⟩ := sees_uint hs (by omega)
  obtain ⟨b1, b2⟩ := sees_count (most := 65536) a2 (by omega) (by omega)
  have a1' : (Rs.new x.bytes).uint.1 = x.epoch.toNat := congrArg Prod.fst a1
  unfold loadL
  simp only
  rw [a1']
  generalize (Rs.new x.bytes).uint.2 = r1 at *
  have b1' : (r1.count 65536).1 = x.l.length := congrArg Prod.fst b1
  rw [Int.toNat_of_nonneg h0]
  have b2' : (r1.count 65536).2.err = 0 := b2.err
  rw [b1', if_neg (by rw [b2']; simp; omega)]
  obtain ⟨r', c1, c2⟩ := sees_load (ep := x.epoch) hmost x.l 0 0 [] (r1.count 65536).2 [] (fun j hj => by rw [h.seq j hj]; simp) h.ok hm h.rise (fun e he => ((Ent.err_iff e).1 (h.ok e he).1).2.1) b2
  rw [c1]
  simp only [List.nil_append]
  have hend : r'.end'.err = 0 := by
    have h1 := c2.err
    have h2 := c2.rest
    unfold Rs.rest at h2
    have h3 : r'.b.length ≤ r'.at' := by simpa using h2
    unfold Rs.end'
    rw [if_neg (by omega)]
    exact h1
  rw [if_neg (by rw [hend]; simp)]

theorem framed_le {x : Lg} {e : Ent} (he : e ∈ x.l) : e.bytes.length ≤ x.bytes.length := by
  have : ∀ l : List Ent, e ∈ l → e.bytes.length ≤ (l.flatMap Ent.framed).length := fun l => by
    induction l with
    | nil => intro h; cases h
    | cons y l ih =>
      intro h
      rw [List.flatMap_cons, List.length_append]
      rcases List.mem_cons.1 h with rfl | h
      · unfold Ent.framed; rw [List.length_append]; omega
      · have := ih h; omega
  have := this x.l he
  unfold Lg.bytes
  rw [List.length_append]
  omega
/-- the program's Load of a log's bytes -/
theorem load_bytes {x : Lg} (h : x.Good) : load x.bytes = (some x, 0, 0) :=
  loadL_bytes h (fun n => ⟨n, rfl, .inr (Nat.le_refl _)⟩) fun e he => framed_le he

/-! what was loaded -/
theorem loadF_ok {most : Int → Int} {m : Nat} {ep : Int} : ∀ (n i : Nat) (last : Int) (acc : List Ent) (r : Rs) (l' : List Ent) (r' : Rs),
    loadF most m ep n i last acc r = .inl (l', r') → r.b.length < 2 ^ 63 → r.Ok → r.err = 0 →
    ∃ l, l' = acc ++ l ∧ l.length = n ∧ r.Over r' (l.flatMap Ent.framed) ∧ r'.err = 0 ∧ (∀ j (h : j < l.length), l[j].seq = ((i + j : Nat) : Int)) ∧ (∀ e ∈ l, e.err = 0 ∧ e.In ∧ e.epoch ≤ ep) ∧ (l.Pairwise fun a b => a.epoch ≤ b.epoch) ∧ (∀ e ∈ l, last ≤ e.epoch)
  | 0, i, last, acc, r, l', r', h, _, _, he => by
    simp only [loadF, Sum.inl.injEq, Prod.mk.injEq] at h
    obtain ⟨rfl, rfl⟩ := h
    exact ⟨[], by simp, rfl, Rs.Over.refl _, he, fun j hj => absurd hj (by simp), fun _ h => (by cases h), .nil, fun _ h => (by cases h)⟩
  | n + 1, i, last, acc, r, l', r', h, h63, hok, he => by
    simp only [loadF] at h
    have ov := over_text r m (by omega)
    have tle := text_le r m
    generalize (r.text m).1 = t at *
    generalize (r.text m).2 = r1 at *
    split at h
    · cases h
    · rename_i hz
      have hz : r1.err = 0 := by simpa using hz
      have hA := bytesOf_allB t
      have hb : (bytesOf t).length < 2 ^ 63 := by
        have hov := congrArg List.length (ov.over hok hz)
        unfold Rs.rest textB at hov
        simp only [List.length_drop, List.length_append] at hov
        omega
      rcases entGet_ok hA hb (most t.size) with ⟨f0, f1, f2, f3⟩ | ⟨f0, f1⟩
      · rw [if_neg (by rw [f0]; simp)] at h
        generalize (entGetL (most t.size) (bytesOf t)).1 = e at *
        split at h
        · cases h
        · rename_i hs
          split at h
          · cases h
          · rename_i hep
            have hs : e.seq = (i : Int) := by simpa using hs
            obtain ⟨l, rfl, g1, g2, g3, g4, g5, g6, g7⟩ := loadF_ok n (i + 1) e.epoch (acc ++ [e]) r1 l' r' h (by rw [ov.b]; exact h63) (ov.ok hok) hz
            refine ⟨e :: l, by simp, by simp [g1], ?_, g3, fun j hj => ?_, fun x hx => ?_, List.pairwise_cons.2 ⟨g7, g6⟩, fun x hx => ?_⟩
            · rw [List.flatMap_cons]
              have : e.framed = textB t := by unfold Ent.framed textB; rw [← f1, bytesOf_length]
              rw [this]
              exact ov.trans g2
            · cases j with
              | zero => simpa using hs
              | succ j =>
                rw [List.getElem_cons_succ, g4 j (by simpa using hj)]
                omega
            · rcases List.mem_cons.1 hx with rfl | hx
              · exact ⟨f2, f3, by omega⟩
              · exact g5 x hx
            · rcases List.mem_cons.1 hx with rfl | hx
              · omega
              · have := g7 x hx; omega
      · rw [if_pos (by rw [f0]; simp)] at h
        cases h

/-- what is loaded is a log, and the bytes are its bytes -/
theorem loadL_ok {most : Int → Int} {m : Nat} {b : Bytes} {x : Lg} (hA : AllB b) (h63 : b.length < 2 ^ 63) {c : Int × Nat} (h : loadL most m b = (some x, c)) : x.Good ∧ b = x.bytes ∧ c = (0, 0) := by
  unfold loadL at h
  simp only at h
  have o1 := over_uint (Rs.new b)
  have l1 := uint_lt (Rs.Ok.new hA)
  generalize (Rs.new b).uint.1 = ep at *
  generalize (Rs.new b).uint.2 = r1 at *
  have o2 := over_count r1 65536
  have l2 := count_le r1 65536
  generalize hn : (r1.count 65536).1 = n at *
  generalize hr2 : (r1.count 65536).2 = r2 at *
  split at h
  · cases h
  · rename_i hc
    have k2 := (o1.trans o2).ok (.new hA)
    have hb2 : r2.b = b := (o1.trans o2).b
    have hz : r2.err = 0 := Classical.byContradiction fun hh => hc (.inl hh)
    split at h
    · cases h
    · rename_i l r hl
      obtain ⟨l', rfl, g1, g2, g3, g4, g5, g6, g7⟩ := loadF_ok n 0 0 [] r2 l r hl (by rw [hb2]; exact h63) k2 hz
      split at h
      · cases h
      · rename_i hend
        simp only [Prod.mk.injEq, Option.some.injEq] at h
        obtain ⟨rfl, rfl⟩ := h
        have hov := ((o1.trans o2).trans g2).over (.new hA) g3
        have hr : r.rest = [] := by
          unfold Rs.end' at hend
          split at hend
          · exact absurd hend (by simp [Rs.fails])
          · rename_i hh
            unfold Rs.rest
            simp
            omega
        rw [hr, List.append_nil] at hov
        refine ⟨⟨?_, ?_, ?_, fun j hj => ?_, g5, g6⟩, ?_, rfl⟩
        · show l.length ≤ _; omega
        · show (0 : Int) ≤ (ep : Int); omega
        · show (ep : Int) ≤ _; omega
        · have := g4 j hj; simpa using this
        · have hn : (Rs.new b).rest = b := rfl
          rw [hn] at hov
          unfold Lg.bytes
          show b = uintB ((ep : Int).toNat) ++ uintB l.length ++ _
          rw [hov, g1]
          simp

end Go.Proofs.YtnknihmchmmenaaGreat

namespace Go.Proofs.YtnknihmchmmenaaGreat
set_option linter.unusedVariables false
set_option linter.unusedSimpArgs false
open Go Go.RowKit Go.Deep

/-- the plan of a token -/
def planP (t : Int) : Plan := mkPlan (mkReq 1 t ⟨#[112]⟩ []) 2 (mkFp [⟨#[97]⟩] [])
def xLive : Lg := ⟨[mkEnt 0 3 (planP 1), mkEnt 1 3 (planP 2)], 3⟩
theorem planP_check (t : Int) : (planP t).req.check = 0 := by rfl
theorem planP_normal (t : Int) : (planP t).fp.normal = true := by
  show Fp.normal (mkFp [⟨#[97]⟩] []) = true
  decide +kernel
theorem planP_right (t : Int) : (planP t).right = 0 := by
  unfold Plan.right
  rw [if_neg (by rw [planP_check]; simp), if_neg (by show ¬ ((2 : Int) ≠ 1 ∧ (2 : Int) ≠ 2); omega), if_neg (by rw [planP_normal]; simp)]
theorem plan0_right : plan0.right = 90 := by decide +kernel
theorem live1 : lg0.append 3 [planP 1, planP 2] = (⟨0, 0, 0⟩, xLive) := by
  unfold Lg.append
  rw [if_neg (by show ¬ ((3 : Int) < 0 ∨ (3 : Int) < 0); omega), if_neg (by show ¬ 65536 < 0 + 2; omega)]
  simp only [badAt, planP_right]
  rfl
theorem live2 : xLive.append 2 [] = (⟨0, 120, 0⟩, xLive) := by
  unfold Lg.append
  rw [if_pos (by left; show (2 : Int) < 3; omega)]
theorem live3 : xLive.append 4 [planP 3, plan0] = (⟨0, 90, 1⟩, xLive) := by
  unfold Lg.append
  rw [if_neg (by show ¬ ((4 : Int) < 3 ∨ (4 : Int) < 0); omega), if_neg (by show ¬ 65536 < 2 + 2; omega)]
  simp only [badAt, planP_right, plan0_right]
  simp
theorem planP_in (t : Int) (h0 : 0 ≤ t) (h1 : t < 18446744073709551616) : (planP t).req.In := ⟨by show (-9223372036854775808 : Int) ≤ 1; omega, by show (1 : Int) ≤ _; omega, h0, h1, fun v hv => by cases hv⟩
theorem live_good : xLive.Good := by
  refine ⟨by decide, by decide, by decide, fun j hj => ?_, fun e he => ?_, ?_⟩
  · have : j < 2 := hj
    rcases (show j = 0 ∨ j = 1 by omega) with rfl | rfl <;> rfl
  · simp only [xLive, List.mem_cons, List.not_mem_nil, or_false] at he
    rcases he with rfl | rfl
    · exact ⟨(Ent.err_iff _).2 ⟨by decide, by decide, planP_right 1⟩, ⟨by decide, by decide, planP_in 1 (by omega) (by omega)⟩, by decide⟩
    · exact ⟨(Ent.err_iff _).2 ⟨by decide, by decide, planP_right 2⟩, ⟨by decide, by decide, planP_in 2 (by omega) (by omega)⟩, by decide⟩
  · simp [xLive, mkEnt, Ent.epoch]
theorem live_load : load xLive.bytes = (some xLive, 0, 0) := load_bytes live_good
end Go.Proofs.YtnknihmchmmenaaGreat

namespace Go.Proofs.YtnknihmchmmenaaGreat
set_option linter.unusedVariables false
set_option linter.unusedSimpArgs false
open Go Go.RowKit Go.Deep

theorem layAt_get : ∀ (n : Nat) (e : Int) (ps : List Plan) (j : Nat) (h : j < (layAt n e ps).length) (h' : j < ps.length), (layAt n e ps)[j] = mkEnt ((n + j : Nat) : Int) e ps[j]
  | _, _, [], _, h, _ => absurd h (by simp [layAt])
  | n, e, p :: ps, 0, _, _ => rfl
  | n, e, p :: ps, j + 1, h, h' => by
    have := layAt_get (n + 1) e ps j (by simpa [layAt] using h) (by simpa using h')
    simp only [layAt, List.getElem_cons_succ, this]
    rw [show n + 1 + j = n + (j + 1) by omega]
theorem layAt_len : ∀ (n : Nat) (e : Int) (ps : List Plan), (layAt n e ps).length = ps.length
  | _, _, [] => rfl
  | n, e, p :: ps => by simp [layAt, layAt_len (n + 1) e ps]
theorem layAt_mem {n : Nat} {e : Int} {ps : List Plan} {x : Ent} (h : x ∈ layAt n e ps) : ∃ j, ∃ h : j < ps.length, x = mkEnt ((n + j : Nat) : Int) e ps[j] := by
  obtain ⟨j, hj, rfl⟩ := List.getElem_of_mem h
  have := layAt_len n e ps
  exact ⟨j, by omega, layAt_get n e ps j hj (by omega)⟩
theorem badAt_none : ∀ (i : Nat) (ps : List Plan), badAt i ps = none → ∀ p ∈ ps, p.right = 0
  | _, [], _, _, h => by cases h
  | i, q :: ps, h, p, hp => by
    unfold badAt at h
    split at h
    · cases h
    · rename_i hq
      rcases List.mem_cons.1 hp with rfl | hp
      · simpa using hq
      · exact badAt_none (i + 1) ps h p hp
theorem badAt_some : ∀ (i : Nat) (ps : List Plan) (e : Int) (k : Nat), badAt i ps = some (e, k) → e ≠ 0 ∧ i ≤ k ∧ k < i + ps.length
  | _, [], _, _, h => by cases h
  | i, q :: ps, e, k, h => by
    unfold badAt at h
    split at h
    · rename_i hq
      simp only [Option.some.injEq, Prod.mk.injEq] at h
      obtain ⟨rfl, rfl⟩ := h
      exact ⟨hq, Nat.le_refl _, by simp⟩
    · obtain ⟨h1, h2, h3⟩ := badAt_some (i + 1) ps e k h
      exact ⟨h1, by omega, by simp; omega⟩

/-- what Append says, by cases -/
theorem append_cases (x : Lg) (ep : Int) (ps : List Plan) :
    ((x.append ep ps).1.err ≠ 0 ∧ (x.append ep ps).2 = x ∧ (x.append ep ps).1.n = 0) ∨
    (x.append ep ps = (⟨x.l.length, 0, 0⟩, ⟨x.l ++ layAt x.l.length ep ps, ep⟩) ∧ x.epoch ≤ ep ∧ 0 ≤ ep ∧ x.l.length + ps.length ≤ 65536 ∧ ∀ p ∈ ps, p.right = 0) := by
  unfold Lg.append
  split
  · exact .inl ⟨by simp, rfl, rfl⟩
  · split
    · exact .inl ⟨by simp, rfl, rfl⟩
    · cases h : badAt 0 ps with
      | none => exact .inr ⟨rfl, by omega, by omega, by omega, badAt_none 0 ps h⟩
      | some r =>
        obtain ⟨e, i⟩ := r
        exact .inl ⟨(badAt_some 0 ps e i h).1, rfl, rfl⟩
theorem lg0_good : lg0.Good := ⟨by decide, by decide, by decide, fun j hj => absurd hj (by simp [lg0]), fun e he => (by cases he), List.Pairwise.nil⟩
theorem append_good {x : Lg} (h : x.Good) {ep : Int} {ps : List Plan} (he : ep ≤ 9223372036854775807) (hi : ∀ p ∈ ps, p.req.In) : (x.append ep ps).2.Good := by
  rcases append_cases x ep ps with ⟨-, e, -⟩ | ⟨e, h1, h2, h3, h4⟩
  · rw [e]; exact h
  · rw [e]
    have hl := layAt_len x.l.length ep ps
    refine ⟨?_, h2, he, fun j hj => ?_, fun e he' => ?_, ?_⟩
    · show (x.l ++ layAt x.l.length ep ps).length ≤ _
      rw [List.length_append]; omega
    · show (x.l ++ layAt x.l.length ep ps)[j].seq = _
      have hj : j < (x.l ++ layAt x.l.length ep ps).length := hj
      rw [List.length_append] at hj
      by_cases hlt : j < x.l.length
      · rw [List.getElem_append_left hlt]; exact h.seq j hlt
      · rw [List.getElem_append_right (by omega), layAt_get _ _ _ _ (by omega) (by omega)]
        show ((x.l.length + (j - x.l.length) : Nat) : Int) = _
        omega
    · have he' : e ∈ x.l ++ layAt x.l.length ep ps := he'
      show e.err = 0 ∧ e.In ∧ e.epoch ≤ ep
      rcases List.mem_append.1 he' with he' | he'
      · obtain ⟨g1, g2, g3⟩ := h.ok e he'
        exact ⟨g1, g2, by omega⟩
      · obtain ⟨j, hj, rfl⟩ := layAt_mem he'
        refine ⟨(Ent.err_iff _).2 ⟨by show (0 : Int) ≤ ((x.l.length + j : Nat) : Int); omega, h2, h4 _ (List.getElem_mem _)⟩, ⟨by show ((x.l.length + j : Nat) : Int) ≤ _; omega, he, hi _ (List.getElem_mem _)⟩, Int.le_refl _⟩
    · show (x.l ++ layAt x.l.length ep ps).Pairwise _
      rw [List.pairwise_append]
      refine ⟨h.rise, ?_, fun a ha b hb => ?_⟩
      · rw [List.pairwise_iff_getElem]
        intro i j hi hj hij
        rw [layAt_get _ _ _ _ hi (by omega), layAt_get _ _ _ _ hj (by omega)]
        exact Int.le_refl _
      · obtain ⟨j, hj, rfl⟩ := layAt_mem hb
        have := (h.ok a ha).2.2
        show a.epoch ≤ ep
        omega
end Go.Proofs.YtnknihmchmmenaaGreat

namespace Go.Proofs.YtnknihmchmmenaaGreat
set_option linter.unusedVariables false
set_option linter.unusedSimpArgs false
open Go Go.RowKit Go.Deep

/-! a reader that has failed stays as it is -/
theorem bad_byte {r : Rs} (h : r.err ≠ 0) : r.byte = (0, r) := by unfold Rs.byte; rw [if_pos h]
theorem bad_uint {r : Rs} (h : r.err ≠ 0) : r.uint = (0, r) := by unfold Rs.uint; rw [if_pos h]
theorem bad_count {r : Rs} (h : r.err ≠ 0) (m : Int) : r.count m = (0, r) := by unfold Rs.count; rw [if_pos h]
theorem bad_text {r : Rs} (h : r.err ≠ 0) (m : Int) : r.text m = (textOf [], r) := by unfold Rs.text; rw [if_pos h]
theorem bad_fail {r : Rs} (h : r.err ≠ 0) (e : Int) : r.fail e = r := by unfold Rs.fail; rw [if_neg fun hh => h hh.1]
theorem bad_end {r : Rs} (h : r.err ≠ 0) : r.end' = r := by unfold Rs.end'; rw [if_neg fun hh => h hh.1]
theorem bad_takeV {r : Rs} (h : r.err ≠ 0) : takeV r = (val0, r) := by
  unfold takeV
  rw [bad_byte h]
  simp [orNone, h]

/-! requests -/
def argsR : Nat → List Val → Rs → (List Val × Rs) ⊕ Nat
  | 0, l, r => .inl (l, r)
  | n + 1, l, r =>
    if r.err ≠ 0 then .inl (l, r) else
    if (takeV r).2.err = 0 ∧ (takeV r).1.kind = 0 then .inr r.at'
    else argsR n (l ++ [(takeV r).1]) (takeV r).2
def reqEnd (c t : Int) (n : ByteArray) : (List Val × Rs) ⊕ Nat → Req × Int × Nat
  | .inr at' => (req0, 91, at')
  | .inl (l, r) => if r.end'.err ≠ 0 then (req0, r.end'.err, r.end'.spot) else (mkReq c t n l, 0, 0)
def reqGetR (b : Bytes) : Req × Int × Nat :=
  if 1024 < b.length then (req0, 1, 0) else
  let c := (Rs.new b).count 63
  let t := c.2.uint
  let n := t.2.text 16
  if n.2.err = 0 ∧ nameOk n.1 = false then (req0, 90, t.2.at') else
  let k := n.2.count 8
  reqEnd c.1 t.1 n.1 (argsR k.1 [] k.2)
theorem argsF_bad {r : Rs} (h : r.err ≠ 0) : ∀ (n : Nat) (l : List Val), ∃ l', argsF n l r = .inl (l', r)
  | 0, l => ⟨l, rfl⟩
  | n + 1, l => by
    obtain ⟨l', e⟩ := argsF_bad h n (l ++ [val0])
    refine ⟨l', ?_⟩
    unfold argsF
    rw [bad_takeV h, if_neg fun hh => h hh.1]
    exact e
theorem args_same (c t : Int) (nm : ByteArray) : ∀ (n : Nat) (l : List Val) (r : Rs), reqEnd c t nm (argsR n l r) = reqEnd c t nm (argsF n l r)
  | 0, l, r => rfl
  | n + 1, l, r => by
    by_cases h : r.err ≠ 0
    · obtain ⟨l', e⟩ := argsF_bad h (n + 1) l
      rw [e]
      unfold argsR
      rw [if_pos h]
      have : r.end'.err ≠ 0 := by rw [bad_end h]; exact h
      simp only [reqEnd]
      rw [if_pos this, if_pos this]
    · unfold argsR argsF
      rw [if_neg h]
      split
      · rfl
      · exact args_same c t nm n _ _
theorem text_last {r : Rs} {m : Int} (h : (r.text m).2.err = 0) : (r.text m).2.last = r.at' := by
  unfold Rs.text at h ⊢
  split
  · rename_i hh; rw [if_pos hh] at h; exact absurd h hh
  · rename_i hh
    rw [if_neg hh] at h
    split
    · rename_i h2; rw [if_pos h2] at h; exact absurd h h2
    · rename_i h2
      rw [if_neg h2] at h
      split
      · rename_i h3; rw [if_pos h3] at h; simp [Rs.fails] at h
      · rfl
theorem reqGet_is (b : Bytes) : reqGet b = if 1024 < b.length then (req0, 1, 0) else
    reqEnd ((Rs.new b).count 63).1 ((Rs.new b).count 63).2.uint.1 (((Rs.new b).count 63).2.uint.2.text 16).1
      (argsF ((if nameOk (((Rs.new b).count 63).2.uint.2.text 16).1 then (((Rs.new b).count 63).2.uint.2.text 16).2 else (((Rs.new b).count 63).2.uint.2.text 16).2.fail 90).count 8).1 []
        ((if nameOk (((Rs.new b).count 63).2.uint.2.text 16).1 then (((Rs.new b).count 63).2.uint.2.text 16).2 else (((Rs.new b).count 63).2.uint.2.text 16).2.fail 90).count 8).2) := by
  unfold reqGet
  split
  · rfl
  · simp only
    cases argsF ((if nameOk (((Rs.new b).count 63).2.uint.2.text 16).1 then (((Rs.new b).count 63).2.uint.2.text 16).2 else (((Rs.new b).count 63).2.uint.2.text 16).2.fail 90).count 8).1 []
        ((if nameOk (((Rs.new b).count 63).2.uint.2.text 16).1 then (((Rs.new b).count 63).2.uint.2.text 16).2 else (((Rs.new b).count 63).2.uint.2.text 16).2.fail 90).count 8).2 with
    | inr a => rfl
    | inl p => rfl
theorem reqGetR_eq (b : Bytes) : reqGetR b = reqGet b := by
  rw [reqGet_is]
  unfold reqGetR
  split
  · rfl
  · simp only
    have hlast := fun h => text_last (r := ((Rs.new b).count 63).2.uint.2) (m := 16) h
    generalize ((Rs.new b).count 63).1 = c
    generalize ((Rs.new b).count 63).2.uint.1 = t
    generalize ((Rs.new b).count 63).2.uint.2.at' = a0 at *
    generalize (((Rs.new b).count 63).2.uint.2.text 16).1 = nm
    generalize (((Rs.new b).count 63).2.uint.2.text 16).2 = r at *
    by_cases hn : nameOk nm = true
    · rw [if_neg (by rw [hn]; simp), if_pos hn]
      exact args_same _ _ _ _ _ _
    · rw [if_neg hn]
      have hn' : nameOk nm = false := by simpa using hn
      by_cases he : r.err = 0
      · rw [if_pos ⟨he, hn'⟩]
        have hf : r.fail 90 = { r with err := 90, spot := r.last } := by unfold Rs.fail; rw [if_pos ⟨he, by omega⟩]
        have hb : (r.fail 90).err ≠ 0 := by rw [hf]; simp
        rw [bad_count hb]
        simp only [argsF, reqEnd]
        rw [bad_end hb, if_pos hb, hf, ← hlast he]
      · rw [if_neg fun h => he h.1, bad_fail he]
        exact args_same _ _ _ _ _ _

/-! footprints -/
def keysR : Nat → Nat → Fp → ByteArray → Rs → (Fp × Rs) ⊕ Int
  | 0, _, f, _, r => .inl (f, r)
  | n + 1, i, f, last, r =>
    if r.err ≠ 0 then .inl (f, r) else
    let k := r.text 32
    if k.2.err = 0 ∧ keyOk k.1 = false then .inr 30 else
    if k.2.err = 0 ∧ 0 < i ∧ ltT last k.1 = false then .inr 31 else
    let u := k.2.byte
    if u.2.err = 0 ∧ ¬ (1 ≤ u.1 ∧ u.1 ≤ 3) then .inr 31 else
    keysR n (i + 1) (mkFp (if u.1 % 2 = 1 then f.rs ++ [k.1] else f.rs) (if 2 ≤ u.1 then f.ws ++ [k.1] else f.ws)) k.1 u.2
def footEndR : (Fp × Rs) ⊕ Int → Fp × Nat × Int
  | .inr e => (mkFp [] [], 0, e)
  | .inl (f, r) => if r.err ≠ 0 then (mkFp [] [], 0, r.err) else (f, r.at', 0)
def footGetR (b : Bytes) : Fp × Nat × Int := footEndR (keysR ((Rs.new b).count 64).1 0 (mkFp [] []) noText ((Rs.new b).count 64).2)
def footEnd (x : Fp × Rs) : Fp × Nat × Int := if x.2.err ≠ 0 then (mkFp [] [], 0, x.2.err) else (x.1, x.2.at', 0)
theorem keysF_bad {r : Rs} (h : r.err ≠ 0) : ∀ (n : Nat) (f : Fp) (last : ByteArray), (keysF n f last r).2 = r
  | 0, f, last => rfl
  | n + 1, f, last => by
    unfold keysF
    simp only [bad_text h]
    have e1 : (if keyOk (textOf []) then r else r.fail 30) = r := by split; rfl; exact bad_fail h _
    rw [e1]
    have e2 : (if ltT last (textOf []) then r else r.fail 31) = r := by split; rfl; exact bad_fail h _
    rw [e2, bad_byte h]
    simp only
    have e3 : (if (1 : Int) ≤ 0 ∧ (0 : Int) ≤ 3 then r else r.fail 31) = r := by split; rfl; exact bad_fail h _
    rw [e3]
    exact keysF_bad h n _ _
theorem foot_bad {r : Rs} (h : r.err ≠ 0) (n : Nat) (f : Fp) (last : ByteArray) : footEnd (keysF n f last r) = (mkFp [] [], 0, r.err) := by
  unfold footEnd
  rw [keysF_bad h, if_pos h]
theorem fail_err {r : Rs} (h : r.err = 0) {e : Int} (he : e ≠ 0) : (r.fail e).err = e := by unfold Rs.fail; rw [if_pos ⟨h, he⟩]
theorem ltT_noText {k : ByteArray} (h : keyOk k = true) : ltT noText k = true := by
  have h1 := keyOk_size h
  rcases ltT_or noText k with h | h | h
  · exact h
  · rw [← h] at h1; simp [noText_size] at h1
  · rw [ltT_iff] at h
    exact absurd h (by simp [noText])
theorem keys_same : ∀ (n i : Nat) (f : Fp) (last : ByteArray) (r : Rs), (i = 0 → last = noText) → footEndR (keysR n i f last r) = footEnd (keysF n f last r)
  | 0, i, f, last, r, _ => rfl
  | n + 1, i, f, last, r, hi => by
    by_cases h : r.err ≠ 0
    · rw [foot_bad h]
      unfold keysR
      rw [if_pos h]
      simp only [footEndR]
      rw [if_pos h]
    · unfold keysR keysF
      rw [if_neg h]
      simp only
      generalize (r.text 32).1 = k
      generalize (r.text 32).2 = r1
      by_cases he : r1.err = 0
      · by_cases hk : keyOk k = true
        · rw [if_neg (by rw [hk]; simp), if_pos hk]
          by_cases hl : ltT last k = true
          · rw [if_neg (by rw [hl]; simp), if_pos hl]
            have hb : ∀ x : Int, r1.byte.1 = x → r1.byte.2.err = 0 → 0 ≤ x ∨ True := fun _ _ _ => .inr trivial
            by_cases hu : 1 ≤ r1.byte.1 ∧ r1.byte.1 ≤ 3
            · rw [if_neg (fun hh => hh.2 hu), if_pos hu]
              have e4 : (2 ≤ r1.byte.1) = (2 ≤ r1.byte.1 % 4) := by
                apply propext; omega
              rw [show (if 2 ≤ r1.byte.1 then f.ws ++ [k] else f.ws) = (if 2 ≤ r1.byte.1 % 4 then f.ws ++ [k] else f.ws) by simp only [e4]]
              exact keys_same n (i + 1) _ k _ (fun h => by omega)
            · rw [if_neg hu]
              by_cases he2 : r1.byte.2.err = 0
              · rw [if_pos ⟨he2, hu⟩]
                have hf := fail_err he2 (e := 31) (by omega)
                rw [foot_bad (by rw [hf]; omega), hf]
                rfl
              · rw [if_neg (fun hh => he2 hh.1), bad_fail he2, foot_bad he2]
                have hz : ∀ (j : Nat) (g : Fp) (m : ByteArray), footEndR (keysR n j g m r1.byte.2) = (mkFp [] [], 0, r1.byte.2.err) := fun j g m => by
                  cases n with
                  | zero => simp only [keysR, footEndR]; rw [if_pos he2]
                  | succ n => unfold keysR; rw [if_pos he2]; simp only [footEndR]; rw [if_pos he2]
                exact hz _ _ _
          · have hl' : ltT last k = false := by simpa using hl
            have hi0 : 0 < i := by
              rcases Nat.eq_zero_or_pos i with h0 | h0
              · rw [hi h0] at hl; exact absurd (ltT_noText hk) hl
              · exact h0
            rw [if_pos ⟨he, hi0, hl'⟩, if_neg hl]
            have hf := fail_err he (e := 31) (by omega)
            have hfe : (r1.fail 31).err ≠ 0 := by rw [hf]; omega
            rw [bad_byte hfe]
            simp only
            have e3 : (if (1 : Int) ≤ 0 ∧ (0 : Int) ≤ 3 then r1.fail 31 else (r1.fail 31).fail 31) = r1.fail 31 := by split; rfl; exact bad_fail hfe _
            rw [e3, foot_bad hfe, hf]
            rfl
        · have hk' : keyOk k = false := by simpa using hk
          rw [if_pos ⟨he, hk'⟩, if_neg hk]
          have hf := fail_err he (e := 30) (by omega)
          have hfe : (r1.fail 30).err ≠ 0 := by rw [hf]; omega
          have e2 : (if ltT last k = true then r1.fail 30 else (r1.fail 30).fail 31) = r1.fail 30 := by split; rfl; exact bad_fail hfe _
          rw [e2, bad_byte hfe]
          simp only
          have e3 : (if (1 : Int) ≤ 0 ∧ (0 : Int) ≤ 3 then r1.fail 30 else (r1.fail 30).fail 31) = r1.fail 30 := by split; rfl; exact bad_fail hfe _
          rw [e3, foot_bad hfe, hf]
          rfl
      · have e1 : (if keyOk k = true then r1 else r1.fail 30) = r1 := by split; rfl; exact bad_fail he _
        have e2 : (if ltT last k = true then r1 else r1.fail 31) = r1 := by split; rfl; exact bad_fail he _
        rw [if_neg (fun hh => he hh.1), if_neg (fun hh => he hh.1), e1, e2, bad_byte he]
        simp only
        have e3 : (if (1 : Int) ≤ 0 ∧ (0 : Int) ≤ 3 then r1 else r1.fail 31) = r1 := by split; rfl; exact bad_fail he _
        rw [if_neg (fun hh => he hh.1), e3, foot_bad he]
        cases n with
        | zero => simp only [keysR, footEndR]; rw [if_pos he]
        | succ n => unfold keysR; rw [if_pos he]; simp only [footEndR]; rw [if_pos he]
theorem footGetR_eq (b : Bytes) : footGetR b = footGet b := keys_same _ 0 _ _ _ fun _ => rfl
end Go.Proofs.YtnknihmchmmenaaGreat

namespace Go.Proofs.YtnknihmchmmenaaGreat
set_option linter.unusedVariables false
set_option linter.unusedSimpArgs false
open Go Go.RowKit Go.Deep

def entGetR (b : Bytes) : Ent × Int :=
  let s := (Rs.new b).uint
  let e := s.2.uint
  let t := e.2.text 1073741824
  let h := t.2.byte
  if h.2.err ≠ 0 ∨ 2 ^ 63 ≤ s.1 ∨ 2 ^ 63 ≤ e.1 then (ent0, 123) else
  let q := reqGet (bytesOf t.1)
  if q.2.1 ≠ 0 then (ent0, 123) else
  let f := footGet h.2.rest
  if f.2.2 ≠ 0 ∨ f.2.1 ≠ h.2.left then (ent0, 123) else
  if (mkPlan q.1 h.1 f.1).right ≠ 0 then (ent0, 123) else (mkEnt s.1 e.1 (mkPlan q.1 h.1 f.1), 0)
theorem entGetR_eq {b : Bytes} (hA : AllB b) (h63 : b.length < 2 ^ 63) : entGetR b = entGetL 1073741824 b := by
  unfold entGetR entGetL
  simp only
  have o1 := over_uint (Rs.new b)
  generalize (Rs.new b).uint.1 = s at o1 ⊢
  generalize (Rs.new b).uint.2 = r1 at o1 ⊢
  have o2 := over_uint r1
  generalize r1.uint.1 = ep at o2 ⊢
  generalize r1.uint.2 = r2 at o2 ⊢
  have o3 := over_text r2 1073741824 (by rw [o2.b, o1.b]; show b.length < _; omega)
  generalize (r2.text 1073741824).1 = t at o3 ⊢
  generalize (r2.text 1073741824).2 = r3 at o3 ⊢
  have o4 := over_byte r3
  generalize r3.byte.1 = h at o4 ⊢
  generalize r3.byte.2 = r4 at o4 ⊢
  have k4 := (((o1.trans o2).trans o3).trans o4).ok (.new hA)
  have hb4 : r4.b = b := (((o1.trans o2).trans o3).trans o4).b
  have hq := reqGet_ok (bytesOf_allB t)
  have hrl : r4.rest.length ≤ b.length := by unfold Rs.rest; rw [hb4]; simp
  have hf := footGet_ok (b := r4.rest) k4.rest (by omega)
  generalize reqGet (bytesOf t) = q at hq ⊢
  generalize footGet r4.rest = f at hf ⊢
  by_cases hc : r4.err ≠ 0 ∨ 2 ^ 63 ≤ s ∨ 2 ^ 63 ≤ ep
  · rw [if_pos hc, if_pos (by omega)]
  · rw [if_neg hc]
    by_cases hh : h = 1 ∨ h = 2
    · rw [if_neg (show ¬ (r4.err ≠ 0 ∨ 2 ^ 63 ≤ s ∨ 2 ^ 63 ≤ ep ∨ (h ≠ 1 ∧ h ≠ 2)) by omega)]
      by_cases hq0 : q.2.1 ≠ 0
      · rw [if_pos hq0, if_pos (.inl hq0)]
      · rw [if_neg hq0]
        by_cases hf0 : f.2.2 ≠ 0 ∨ f.2.1 ≠ r4.left
        · rw [if_pos hf0, if_pos (.inr hf0)]
        · rw [if_neg hf0, if_neg (show ¬ (q.2.1 ≠ 0 ∨ f.2.2 ≠ 0 ∨ f.2.1 ≠ r4.left) from fun hx => hx.elim hq0 hf0)]
          obtain ⟨q1, q2⟩ := hq.2.2.2.2.2.2 (by simpa using hq0)
          obtain ⟨f1, f2, f3⟩ := hf (Classical.byContradiction fun hx => hf0 (.inl hx))
          rw [if_neg (by
            have : (mkPlan q.1 h f.1).right = 0 := (Plan.right_iff _).2 ⟨q2, hh, f1⟩
            rw [this]; simp)]
    · rw [if_pos (show (r4.err ≠ 0 ∨ 2 ^ 63 ≤ s ∨ 2 ^ 63 ≤ ep ∨ (h ≠ 1 ∧ h ≠ 2)) from .inr (.inr (.inr (by omega))))]
      split
      · rfl
      · split
        · rfl
        · rename_i hq0 hf0
          rw [if_pos]
          have hne : ¬ (mkPlan q.1 h f.1).right = 0 := fun hz => by
            obtain ⟨-, h2, -⟩ := (Plan.right_iff _).1 hz
            exact hh h2
          exact hne

/-! a text's limit has no part where it is as long as the bytes -/
theorem text_two (r : Rs) (m n : Nat) (hm : r.b.length ≤ m) (hn : r.b.length ≤ n) : ((r.text m).2.err ≠ 0 ∧ (r.text n).2.err ≠ 0) ∨ r.text m = r.text n := by
  by_cases he : r.err ≠ 0
  · right; rw [bad_text he, bad_text he]
  · have key : ∀ k : Nat, r.b.length ≤ k → (((numB r.rest).2.2 = 0 ∧ (numB r.rest).1 ≤ r.b.length) → limB k 1 r.rest = ((numB r.rest).1, (numB r.rest).2.1, 0)) ∧ (¬ ((numB r.rest).2.2 = 0 ∧ (numB r.rest).1 ≤ r.b.length) → (r.text k).2.err ≠ 0) := fun k hk => by
      have hrl : r.rest.length ≤ r.b.length := by unfold Rs.rest; simp
      constructor
      · rintro ⟨h1, h2⟩
        unfold limB
        rw [if_neg (by rw [h1]; simp), if_neg (by omega)]
      · intro h
        by_cases h1 : (numB r.rest).2.2 = 0
        · have h2 : r.b.length < (numB r.rest).1 := by
            rcases Nat.lt_or_ge r.b.length (numB r.rest).1 with h2 | h2
            · exact h2
            · exact absurd ⟨h1, h2⟩ h
          unfold Rs.text
          rw [if_neg he]
          by_cases h3 : (limB (k : Int) 1 r.rest).2.2 ≠ 0
          · rw [if_pos h3]; exact h3
          · rw [if_neg h3]
            have h4 : limB (k : Int) 1 r.rest = ((numB r.rest).1, (numB r.rest).2.1, 0) := by
              unfold limB at h3 ⊢
              rw [if_neg (by rw [h1]; simp)] at h3 ⊢
              split
              · rename_i h5; rw [if_pos h5] at h3; exact absurd (by simp) h3
              · rfl
            rw [h4, if_pos (by simp only; omega)]
            simp [Rs.fails]
        · unfold Rs.text
          have h4 : (limB (k : Int) 1 r.rest).2.2 ≠ 0 := by
            unfold limB; rw [if_pos h1]; exact h1
          rw [if_neg he, if_pos h4]
          exact h4
    by_cases h : (numB r.rest).2.2 = 0 ∧ (numB r.rest).1 ≤ r.b.length
    · right
      unfold Rs.text
      rw [(key m hm).1 h, (key n hn).1 h]
    · left
      exact ⟨(key m hm).2 h, (key n hn).2 h⟩
theorem text_b' (r : Rs) (m : Int) : (r.text m).2.b = r.b := by
  unfold Rs.text
  split
  · rfl
  · split
    · rfl
    · split <;> rfl
theorem loadF_same {m m' : Nat} {most most' : Int → Int} (ep : Int) (hmost : ∀ n : Nat, ∃ q : Nat, most n = q ∧ (700 ≤ q ∨ n ≤ q)) (hmost' : ∀ n : Nat, ∃ q : Nat, most' n = q ∧ (700 ≤ q ∨ n ≤ q)) : ∀ (n i : Nat) (last : Int) (l : List Ent) (r : Rs), r.b.length ≤ m → r.b.length ≤ m' → r.b.length < 2 ^ 63 → (∀ k : Nat, (r.text k).1.size < 2 ^ 63 ∨ True) →
    loadF most m ep n i last l r = loadF most' m' ep n i last l r
  | 0, _, _, _, _, _, _, _, _ => rfl
  | n + 1, i, last, l, r, hm, hm', h63, _ => by
    simp only [loadF]
    rcases text_two r m m' hm hm' with ⟨h1, h2⟩ | h
    · rw [if_pos h1, if_pos h2]
    · rw [h]
      split
      · rfl
      · obtain ⟨q, hq, hq'⟩ := hmost (r.text m').1.size
        obtain ⟨q2, hq2, hq2'⟩ := hmost' (r.text m').1.size
        have hsz : (r.text m').1.size < 2 ^ 63 := by
          by_cases he : r.err = 0
          · have := text_le r m'
            rcases text_two r r.b.length m' (Nat.le_refl _) hm' with ⟨h1, h2⟩ | h3
            · rename_i hz; exact absurd h2 hz
            · have h4 := text_le r r.b.length
              rw [h3] at h4
              omega
          · rw [bad_text he]; rw [textOf_size]; simp
        have hent : entGetL (most (r.text m').1.size) (bytesOf (r.text m').1) = entGetL (most' (r.text m').1.size) (bytesOf (r.text m').1) := by
          rw [hq, hq2]
          exact entGet_same (bytesOf_allB _) (by rw [bytesOf_length]; exact hsz) q q2 (by rw [bytesOf_length]; exact hq') (by rw [bytesOf_length]; exact hq2')
        rw [hent]
        split
        · rfl
        · split
          · rfl
          · split
            · rfl
            · have hb := text_b' r m'
              exact loadF_same ep hmost hmost' n _ _ _ _ (by rw [hb]; exact hm) (by rw [hb]; exact hm') (by rw [hb]; exact h63) fun _ => .inr trivial
def loadR (b : Bytes) : Option Lg × Int × Nat := loadL (fun _ => 1073741824) 1073741824 b
theorem loadR_eq {b : Bytes} (hb : b.length ≤ 1073741824) : loadR b = load b := by
  unfold loadR load loadL
  simp only
  have e1 : ((Rs.new b).uint.2.count 65536).2.b = b := by
    have h1 := over_uint (Rs.new b)
    have h2 := over_count (Rs.new b).uint.2 65536
    rw [h2.b, h1.b]; rfl
  generalize ((Rs.new b).uint.2.count 65536).1 = n
  generalize ((Rs.new b).uint.2.count 65536).2 = r at *
  generalize (Rs.new b).uint.1 = ep
  have hs := loadF_same (m := 1073741824) (m' := b.length) (most := fun _ => 1073741824) (most' := fun n => n) ep (fun n => ⟨1073741824, rfl, .inl (by omega)⟩) (fun n => ⟨n, rfl, .inr (Nat.le_refl _)⟩) n 0 0 [] r (by rw [e1]; exact hb) (by rw [e1]; exact Nat.le_refl _) (by rw [e1]; omega) (fun _ => .inr trivial)
  have e2 : ((1073741824 : Nat) : Int) = 1073741824 := rfl
  rw [e2] at hs
  rw [hs]
end Go.Proofs.YtnknihmchmmenaaGreat
