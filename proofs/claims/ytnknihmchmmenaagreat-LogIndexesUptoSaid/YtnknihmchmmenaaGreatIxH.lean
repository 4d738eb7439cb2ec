/-
  The law's 'in'; its index().
-/
import Derived.Test.YtnknihmchmmenaaGreatIxG
import Derived.Test.YtnknihmchmmenaaGreatHL
namespace Go.Proofs.YtnknihmchmmenaaGreat
open Go Go.RowKit Go.Deep
set_option linter.unusedVariables false
set_option linter.unusedSimpArgs false

theorem in_any (w : World) (S : Nat → Prop) (v : Value) (l : List Int) (h : Rd (.slice (.int .i64)) w S [v] l) (hl : l.length ≤ 1048576) (n : Int) (b : Bool) (hb : b = true ↔ n ∈ l) :
    Calls Tryz.prog 48 #[v, .int .i64 n] w fun e w' => e = .returned (.bool b) ∧ w = w' := by
  obtain ⟨a, c, rfl, -, -, hat⟩ := i64_at h
  have HA := Lib.hid hat
  have HL := Lib.hid (And.intro hl hb)
  clear hat h hl hb
  obtain ⟨q, hq⟩ : ∃ q, l.length = q := ⟨_, rfl⟩
  have HQ := Lib.hid hq
  rw [hq]
  clear hq
  go_enter Tryz.func48, Tryz.ntmps48
  go_wp2_with fail
  go_loopw [5] (fun i wr => ∃ k : Nat, i = .int .i64 k ∧ k ≤ q ∧ wr = w ∧ RowKit.Hid (∀ i (h : i < l.length), i < k → l[i] ≠ n)) (fun i _ => q - (intOf i).toNat)
  case atStart => exact ⟨0, rfl, Nat.zero_le _, rfl, fun i _ h => absurd h (Nat.not_lt_zero _)⟩
  case round =>
    obtain ⟨k, rfl, hk, rfl, HK⟩ := hrel
    by_cases hlt : k < q
    · have hk' : k < l.length := by have := HQ.out; omega
      obtain ⟨b1, off, rfl, hc, -⟩ := HA.out k hk'
      have i0 : (0 : Int) ≤ (k : Int) := by omega
      have i1 : (k : Int) < (q : Int) := by omega
      have i3 : (k : Int) ≤ 9223372036854775806 := by have := HQ.out; have := HL.out.1; omega
      obtain ⟨y, hy, hcy⟩ : ∃ y, l[k] = y ∧ wr.cell? ⟨b1, off + k, none⟩ = some (.int .i64 y) := ⟨_, rfl, hc⟩
      have HY : RowKit.Hid (k < q ∧ ∃ h : k < l.length, l[k] = y) := ⟨hlt, hk', hy⟩
      clear hy hc hlt hk hk'
      by_cases hyn : y = n
      · have e1 : (y == n) = true := by simpa using hyn
        have hbt : b = true := HL.out.2.2 (by
          obtain ⟨h1, h2⟩ := HY.out.2
          rw [← hyn, ← h2]
          exact List.getElem_mem _)
        subst hbt
        clear hyn
        go_wp2_with fail
        go_ret
        exact ⟨rfl, rfl⟩
      · have e1 : (y == n) = false := by simpa using hyn
        have HN := Lib.hid hyn
        clear hyn
        go_wp2_with fail
        go_roundw
        case rel =>
          refine ⟨k + 1, by simp, HY.out.1, by first | rfl | trivial, fun i hi hik => ?_⟩
          rcases Nat.lt_or_ge i k with h1 | h1
          · exact HK.out i hi h1
          · obtain rfl : i = k := by omega
            obtain ⟨_, h2⟩ := HY.out.2
            rw [h2]; exact HN.out
        case measure => simp [intOf]; have := HY.out.1; omega
    · have i1 : ¬ (k : Int) < (q : Int) := by omega
      have hbf : b = false := by
        rw [Bool.eq_false_iff]
        intro hbt
        obtain ⟨i, hi, he⟩ := List.getElem_of_mem (HL.out.2.1 hbt)
        exact HK.out i hi (by have := HQ.out; omega) he
      subst hbf
      clear hlt hk
      go_wp2_with fail
      go_ret
      exact ⟨rfl, rfl⟩

theorem IxAt.new {w' : World} {B : Nat} {lab : Nat → Nat} {ve : Value} {m : Nat → Nat} (h : IxW w' B lab ve m [] (fun _ _ => []) 0 (.map [])) : IxAt w' B (fun i => lab i < 7) [] := by
  refine ⟨lab, ve, m, 0, .map [], h.congr fun j h1 h4 kl => ?_, ⟨⟨[], rfl⟩, fun c t _ _ => ⟨rfl, rfl⟩⟩, by simp [cntI], fun i hi => hi⟩
  unfold fI
  cases kl with
  | string bs => simp [idxs]
  | int q x => cases q <;> simp [idxs]
  | _ => rfl

theorem IxAt.live {w : World} {B : Nat} {S : Nat → Prop} {l : List Ent} (h : IxAt w B S l) : IxAt w B (fun i => S i ∧ i < w.heap.size) l := by
  obtain ⟨lab, ve, m, n, D, h1, h2, h3, h4⟩ := h
  exact ⟨lab, ve, m, n, D, h1, h2, h3, fun i hi => ⟨h4 i hi, h1.lt i hi⟩⟩
/-! what is asked of an index, in plain words -/
theorem IxAt.client {w : World} {B : Nat} {S : Nat → Prop} {l : List Ent} (h : IxAt w B S l) (hl : l.length ≤ 65536) (c : Int) (wc : (Lit.int .i64 c).wf = true) :
    Calls Tryz.prog 49 #[.pointer (some ⟨B, 0, none⟩), .int .i64 c] w (Cloned (.int .i64) 2 w (idxs (fun e => e.plan.client == c) 0 l)) := by
  obtain ⟨lab, ve, m, n, D, hix, -⟩ := h
  have := ixClient_any hix c wc (Nat.le_trans (fI_len l 1 _) (by omega))
  rw [fI_1] at this
  exact this
theorem IxAt.name {w : World} {B : Nat} {S : Nat → Prop} {l : List Ent} (h : IxAt w B S l) (hl : l.length ≤ 65536) (x : ByteArray) (wx : x.size ≤ 9223372036854775807) :
    Calls Tryz.prog 50 #[.pointer (some ⟨B, 0, none⟩), .string x] w (Cloned (.int .i64) 2 w (idxs (fun e => decide (e.plan.name = x)) 0 l)) := by
  obtain ⟨lab, ve, m, n, D, hix, -⟩ := h
  have := ixName_any hix x wx (Nat.le_trans (fI_len l 2 _) (by omega))
  rw [fI_2] at this
  exact this
theorem IxAt.readers {w : World} {B : Nat} {S : Nat → Prop} {l : List Ent} (h : IxAt w B S l) (hl : l.length ≤ 65536) (x : ByteArray) (wx : x.size ≤ 9223372036854775807) :
    Calls Tryz.prog 46 #[.pointer (some ⟨B, 0, none⟩), .string x] w (Cloned (.int .i64) 2 w (idxs (fun e => hasT e.plan.reads x) 0 l)) := by
  obtain ⟨lab, ve, m, n, D, hix, -⟩ := h
  have := ixReaders_any hix x wx (Nat.le_trans (fI_len l 3 _) (by omega))
  rw [fI_3] at this
  exact this
theorem IxAt.writers {w : World} {B : Nat} {S : Nat → Prop} {l : List Ent} (h : IxAt w B S l) (hl : l.length ≤ 65536) (x : ByteArray) (wx : x.size ≤ 9223372036854775807) :
    Calls Tryz.prog 47 #[.pointer (some ⟨B, 0, none⟩), .string x] w (Cloned (.int .i64) 2 w (idxs (fun e => hasT e.plan.writes x) 0 l)) := by
  obtain ⟨lab, ve, m, n, D, hix, -⟩ := h
  have := ixWriters_any hix x wx (Nat.le_trans (fI_len l 4 _) (by omega))
  rw [fI_4] at this
  exact this
/-- the last entry of a client and a token -/
def askI (l : List Ent) (c t : Int) : List Int := idxs (fun e => e.plan.client == c && e.plan.token == t) 0 l
theorem IxAt.find {w : World} {B : Nat} {S : Nat → Prop} {l : List Ent} (h : IxAt w B S l) (c t : Int) (wc : (Lit.int .i64 c).wf = true) (wt : (Lit.int .u64 t).wf = true) :
    Calls Tryz.prog 53 #[.pointer (some ⟨B, 0, none⟩), .int .i64 c, .int .u64 t] w fun e w' => e = .returned (.tuple #[.int .i64 ((askI l c t).getLast?.getD 0), .bool (decide (askI l c t ≠ []))]) ∧ w = w' := by
  obtain ⟨lab, ve, m, n, D, hix, hask, -⟩ := h
  refine (ixFind_any hix c t wc wt).mono ?_
  rintro e w' ⟨k, hk, rfl, rfl⟩
  have h1 := hask.2 c t wc wt
  have h2 := hk.symm.trans h1.2
  injection h2 with h2
  injection h2 with h3 h4
  rw [h1.1]
  unfold askI
  rw [← h4]
  exact ⟨rfl, rfl⟩
theorem IxAt.epochs {w : World} {B : Nat} {S : Nat → Prop} {l : List Ent} (h : IxAt w B S l) (hl : l.length ≤ 65536) (hs : (l.map (fun e => e.epoch)).Pairwise (· ≤ ·)) (t : Int) :
    Calls Tryz.prog 52 #[.pointer (some ⟨B, 0, none⟩), .int .i64 t] w (GivesEp w (l.map (fun e => e.epoch)) t) := by
  obtain ⟨lab, ve, m, n, D, hix, -⟩ := h
  exact ixEpoch_any hix (by simp; omega) hs t

theorem hNum (w : World) (e : Int) : Calls Tryz.prog 25 #[.int .i64 e] w fun en w' => en = .returned (.int .i64 e) ∧ w = w' :=
  (lnum_any w e).mono (by rintro _ _ ⟨rfl, rfl⟩; exact ⟨rfl, rfl⟩)

def entP (t : Int) : Ent := mkEnt 0 0 (planP t)
theorem addI_1 : addI [] (entP 5) = (0, [entP 5]) := by
  unfold addI
  rw [if_neg (fun h => h rfl), if_neg (by
    rintro (h | ⟨h, -⟩)
    · exact absurd h (by decide)
    · exact h rfl), if_neg (fun h => h (planP_right 5))]
  rfl
theorem addI_2 : addI [entP 5] (entP 5) = (122, [entP 5]) := by
  unfold addI
  rw [if_pos (by show ¬ (0 : Int) = ((1 : Nat) : Int); decide)]

set_option maxRecDepth 10000 in
set_option maxHeartbeats 2000000 in
theorem index_any (w : World) : Calls Tryz.prog 43 #[] w fun e w' => e = .returned (.bool true) ∧ Keep No w w' := by
  go_enter Tryz.func43, Tryz.ntmps43
  go_wp2_with fail
  refine (ixNew_any w).mono ?_
  rintro e w1 ⟨B, rfl, lab, ve, m, H1⟩
  have HI1 : RowKit.Hid (IxAt w1 B (fun i => lab i < 7) [] ∧ Keep No w w1 ∧ (∀ i, lab i < 7 → w.heap.size ≤ i) ∧ ∀ i, lab i < 7 → i < w1.heap.size) := ⟨IxAt.new H1.out.1, H1.out.2.1, H1.out.2.2, H1.out.1.lt⟩
  clear H1
  have HI : ∃ S1 : Nat → Prop, RowKit.Hid (IxAt w1 B S1 [] ∧ Keep No w w1 ∧ (∀ i, S1 i → w.heap.size ≤ i) ∧ ∀ i, S1 i → i < w1.heap.size) := ⟨_, HI1⟩
  obtain ⟨S1, HI⟩ := HI
  clear HI1
  go_wp2_with fail
  refine (lplan_any w1 5 rfl).mono ?_
  rintro e w2 ⟨b2, rfl, H2⟩
  have hadd := ixAdd_any w2 B S1 (Fr w1.heap.size w2.heap.size) [] (HI.out.1.keep H2.out.2 fun _ _ x => x) (by simp) (by simp [cntI]) (entP 5) none (some ⟨b2, 0, none⟩) none 0 1 0 (ent_mk H2.out.1 rfl rfl) (fun k hk hs => by have := HI.out.2.2.2 k hs; have := hk.1; omega) (planP_fit 5).1 (by show 1 + 1 + 0 ≤ _; omega)
  rw [addI_1] at hadd
  have hadd2 := hadd.mono (R' := fun e w' => e = .returned (.int .i64 0) ∧ ∃ S' : Nat → Prop, RowKit.Hid (IxAt w' B S' [entP 5] ∧ Keep No w w' ∧ (∀ i, S' i → w.heap.size ≤ i) ∧ ∀ i, S' i → i < w'.heap.size)) (by
    rintro e w' ⟨rfl, S', h1, h2, h3⟩
    have h4 := (HI.out.2.1.trans H2.out.2).size
    have h5 := h1.live
    refine ⟨rfl, _, h5, (HI.out.2.1.trans H2.out.2).then h3 fun i hi hs => by have := HI.out.2.2.1 i hs; omega, fun i hi => ?_, fun i hi => hi.2⟩
    rcases h2 i hi.1 with hh | hh
    · exact HI.out.2.2.1 i hh
    · omega)
  clear hadd
  go_wp2_with fail
  refine hadd2.mono ?_
  clear hadd2 H2 HI
  rintro e w3 ⟨rfl, S3, HI⟩
  go_wp2_with fail
  refine (lplan_any w3 5 rfl).mono ?_
  rintro e w4 ⟨b4, rfl, H4⟩
  have hadd := ixAdd_any w4 B S3 (Fr w3.heap.size w4.heap.size) [entP 5] (HI.out.1.keep H4.out.2 fun _ _ x => x) (by simp) (by show 1 + 1 + 0 + 0 ≤ _; omega) (entP 5) none (some ⟨b4, 0, none⟩) none 0 1 0 (ent_mk H4.out.1 rfl rfl) (fun k hk hs => by have := HI.out.2.2.2 k hs; have := hk.1; omega) (planP_fit 5).1 (by show 1 + 1 + 0 ≤ _; omega)
  rw [addI_2] at hadd
  have hadd2 := hadd.mono (R' := fun e w' => e = .returned (.int .i64 122) ∧ ∃ S' : Nat → Prop, RowKit.Hid (IxAt w' B S' [entP 5] ∧ Keep No w w')) (by
    rintro e w' ⟨rfl, S', h1, h2, h3⟩
    have h4 := (HI.out.2.1.trans H4.out.2).size
    exact ⟨rfl, _, h1, (HI.out.2.1.trans H4.out.2).then h3 fun i hi hs => by have := HI.out.2.2.1 i hs; omega⟩)
  clear hadd
  go_wp2_with fail
  refine hadd2.mono ?_
  clear hadd2 H4 HI
  rintro e w5 ⟨rfl, S5, HI⟩
  have hfd := HI.out.1.find 1 5 (by decide) (by decide)
  rw [show askI [entP 5] 1 5 = [0] from rfl] at hfd
  have hrd : ∀ W, Keep No w5 W → Calls Tryz.prog 46 #[.pointer (some ⟨B, 0, none⟩), .string ⟨#[97]⟩] W fun e w' => ∃ a c, e = .returned (.slice a 1 c) ∧ RowKit.Hid (Keep No w5 w') := fun W hk => by
    have := (HI.out.1.keep hk fun _ _ x => x).readers (by simp) ⟨#[97]⟩ (by decide)
    rw [show idxs (fun e => hasT e.plan.reads ⟨#[97]⟩) 0 [entP 5] = [0] from rfl] at this
    refine this.mono ?_
    rintro e w' ⟨a, c, rfl, -, hk'⟩
    exact ⟨a, c, rfl, hk.trans hk'⟩
  have hwr : ∀ W, Keep No w5 W → Calls Tryz.prog 47 #[.pointer (some ⟨B, 0, none⟩), .string ⟨#[97]⟩] W fun e w' => ∃ a c, e = .returned (.slice a 0 c) ∧ RowKit.Hid (Keep No w5 w') := fun W hk => by
    have := (HI.out.1.keep hk fun _ _ x => x).writers (by simp) ⟨#[97]⟩ (by decide)
    rw [show idxs (fun e => hasT e.plan.writes ⟨#[97]⟩) 0 [entP 5] = [] from rfl] at this
    refine this.mono ?_
    rintro e w' ⟨a, c, rfl, -, hk'⟩
    exact ⟨a, c, rfl, hk.trans hk'⟩
  have HRD := Lib.hid (And.intro hrd hwr)
  have hrd0 := hrd w5 (Keep.refl _ _)
  clear hrd hwr
  go_wp2_with fail
  refine hfd.mono ?_
  clear hfd
  rintro e w6 ⟨rfl, rfl⟩
  go_wp2_with (first
    | (go_at_call 25; refine (hNum _ _).mono ?_; rintro e w20 ⟨rfl, rfl⟩)
    | (go_at_call 46; refine hrd0.mono ?_; clear hrd0; rintro e w7 ⟨a7, c7, rfl, H7⟩; have hwr0 := HRD.out.2 w7 H7.out)
    | (go_at_call 47; refine hwr0.mono ?_; clear hwr0; rintro e w8 ⟨a8, c8, rfl, H8⟩)
    | (go_at_call 17; refine (live_any _).mono ?_; rintro e w9 ⟨rfl, hk9⟩; have H9 := Lib.hid (H8.out.trans hk9); clear hk9))
  go_ret
  exact ⟨by simp, HI.out.2.trans H9.out⟩
end Go.Proofs.YtnknihmchmmenaaGreat
