/-
  The program's index: BinarySearch at numbers; Last, Epoch, Find.
-/
import Derived.Test.YtnknihmchmmenaaGreatIxB
namespace Go.Proofs.YtnknihmchmmenaaGreat
open Go Go.RowKit Go.Deep
set_option linter.unusedVariables false
set_option linter.unusedSimpArgs false

theorem i64_at {w : World} {S : Nat → Prop} {v : Value} {l : List Int} (h : Rd (.slice (.int .i64)) w S [v] l) :
    ∃ a c, v = .slice a l.length c ∧ l.length ≤ c ∧ c ≤ maxLen ∧ ∀ i (hi : i < l.length), ∃ b off, a = some ⟨b, off, none⟩ ∧ w.cell? ⟨b, off + i, none⟩ = some (.int .i64 l[i]) ∧ (Lit.int .i64 l[i]).wf = true := by
  obtain ⟨a, c, e, h1, h2, h3, h4⟩ := h
  simp only [List.cons.injEq, and_true] at e
  refine ⟨a, c, e, h1, h2, fun i hi => ?_⟩
  obtain ⟨b, off, row, ha, hb, hS, hl, hr, hx, hw⟩ := h4 i hi
  subst hx
  have := hr 0 (by simp)
  simp [Sh.size] at this
  exact ⟨b, off, ha, this.1, hw⟩

theorem nan_i64 (w : World) (a : Int) : Calls Tryz.prog 167 #[.int .i64 a] w fun e w' => e = .returned (.bool false) ∧ w = w' := by
  go_enter Tryz.func167, Tryz.ntmps167
  go_wp2
  go_ret
  exact ⟨by simp, rfl⟩
theorem nan_i64' (w : World) (a : Int) : Calls Tryz.prog 143 #[.int .i64 a] w fun e w' => e = .returned (.bool false) ∧ w = w' := by
  go_enter Tryz.func143, Tryz.ntmps143
  go_wp2
  go_ret
  exact ⟨by simp, rfl⟩
theorem less_i64 (w : World) (a b : Int) : Calls Tryz.prog 142 #[.int .i64 a, .int .i64 b] w fun e w' => e = .returned (.bool (decide (a < b))) ∧ w = w' := by
  go_enter Tryz.func142, Tryz.ntmps142
  go_wp2_with (go_at_call 167; refine (nan_i64 _ _).mono ?_; rintro e w2 ⟨rfl, rfl⟩)
  go_ret
  exact ⟨by simp, rfl⟩

/-- how many are below t, in a rising list -/
structure Below' (l : List Int) (t : Int) (k : Nat) : Prop where
  le : k ≤ l.length
  lo : ∀ i (h : i < l.length), i < k → l[i] < t
  hi : ∀ i (h : i < l.length), k ≤ i → t ≤ l[i]

/-- between two rounds of the search -/
structure Bs (l : List Int) (t : Int) (i j : Nat) : Prop where
  ij : i ≤ j
  le : j ≤ l.length
  lo : ∀ k (h : k < l.length), k < i → l[k] < t
  hi : ∀ k (h : k < l.length), j ≤ k → t ≤ l[k]

def GivesBs (w : World) (l : List Int) (t : Int) (e : Ending) (w' : World) : Prop := ∃ (k : Nat) (b : Bool), e = .returned (.tuple #[.int .i64 k, .bool b]) ∧ w = w' ∧ RowKit.Hid (Below' l t k)

set_option maxHeartbeats 1000000 in
theorem bs_any (w : World) (S : Nat → Prop) (v : Value) (l : List Int) (h : Rd (.slice (.int .i64)) w S [v] l) (hl : l.length ≤ 1048576) (hs : l.Pairwise (· ≤ ·)) (t : Int) :
    Calls Tryz.prog 100 #[v, .int .i64 t] w (GivesBs w l t) := by
  obtain ⟨a, c, rfl, -, -, hget⟩ := i64_at h
  have HG := Lib.hid hget
  have HS : RowKit.Hid (∀ (x y : Nat) (hx : x < l.length) (hy : y < l.length), x ≤ y → l[x] ≤ l[y]) := fun x y hx hy hxy => by
    rcases Nat.lt_or_ge x y with h1 | h1
    · exact (List.pairwise_iff_getElem.1 hs) x y hx hy h1
    · obtain rfl : x = y := by omega
      exact Int.le_refl _
  clear hget h hs
  go_enter Tryz.func100, Tryz.ntmps100
  go_wp2_with fail
  go_loopw [7, 8] (fun i j wr => ∃ p q : Nat, i = .int .i64 p ∧ j = .int .i64 q ∧ wr = w ∧ RowKit.Hid (Bs l t p q)) (fun i j _ => (intOf j - intOf i).toNat)
  case atStart => exact ⟨0, l.length, rfl, rfl, rfl, ⟨Nat.zero_le _, Nat.le_refl _, fun k _ h => absurd h (Nat.not_lt_zero _), fun k h1 h2 => by omega⟩⟩
  case round =>
    obtain ⟨p, q, rfl, rfl, rfl, HB⟩ := hrel
    by_cases hlt : p < q
    · have j1 : (p : Int) < (q : Int) := by omega
      have hq : q ≤ 1048576 := by have := HB.out.le; omega
      have hw : IntKind.i64.wrap ((p : Int) + (q : Int)) = (p : Int) + (q : Int) := by rw [IntKind.wrap_i64]; omega
      obtain ⟨r, hr⟩ : ∃ r, (p + q) / 2 = r := ⟨_, rfl⟩
      have hm : wrap64 (IntKind.u64.wrap ((p : Int) + (q : Int)) / 2) = (r : Int) := by rw [IntKind.wrap_u64]; unfold wrap64; omega
      have hrl : r < l.length := by have := HB.out.le; omega
      obtain ⟨b, off, rfl, hc, hwf⟩ := HG.out r hrl
      have i0 : (0 : Int) ≤ (r : Int) := by omega
      have i1 : (r : Int) < (l.length : Int) := by omega
      have i3 : (r : Int) ≤ 9223372036854775806 := by omega
      have HR : RowKit.Hid (p ≤ r ∧ r < q ∧ r < l.length) := ⟨by omega, by omega, hrl⟩
      clear hq hr hwf
      go_upto_region 5 with fail
      rw [hm]
      clear hm hw
      have hv : ∃ x, l[r] = x := ⟨_, rfl⟩
      obtain ⟨x, hx⟩ := hv
      rw [hx] at hc
      by_cases hxt : x < t
      · have d1 : decide (x < t) = true := by simpa using hxt
        have HX := Lib.hid (And.intro hx hxt)
        clear hx hxt hlt j1
        go_wp2_with (go_at_call 142; refine (less_i64 _ _ _).mono ?_; rintro e w2 ⟨rfl, rfl⟩)
        go_roundw
        case rel =>
          refine ⟨r + 1, q, by simp, by first | rfl | trivial, by first | rfl | trivial, ⟨by have := HR.out; omega, HB.out.le, fun k hk hkr => ?_, HB.out.hi⟩⟩
          have := HS.out k r hk HR.out.2.2 (by omega)
          have := HX.out.1
          have := HX.out.2
          omega
        case measure => simp [intOf]; have := HR.out; omega
      · have d1 : decide (x < t) = false := by simpa using hxt
        have HX := Lib.hid (And.intro hx hxt)
        clear hx hxt hlt j1
        go_wp2_with (go_at_call 142; refine (less_i64 _ _ _).mono ?_; rintro e w2 ⟨rfl, rfl⟩)
        go_roundw
        case rel =>
          refine ⟨p, r, by first | rfl | trivial, by first | rfl | trivial, by first | rfl | trivial, ⟨HR.out.1, by have := HR.out; omega, HB.out.lo, fun k hk hkr => ?_⟩⟩
          have := HS.out r k HR.out.2.2 hk hkr
          have := HX.out.1
          have := HX.out.2
          omega
        case measure => simp [intOf]; have := HR.out; omega
    · have hpq : p = q := by have := HB.out.ij; omega
      subst hpq
      have HF : RowKit.Hid (Below' l t p) := ⟨HB.out.le, HB.out.lo, HB.out.hi⟩
      clear hlt
      by_cases hp : p < l.length
      · obtain ⟨b, off, rfl, hc, hwf⟩ := HG.out p hp
        have i0 : (0 : Int) ≤ (p : Int) := by omega
        have i1 : (p : Int) < (l.length : Int) := by omega
        generalize l[p] = x at *
        clear hwf HB hp
        generalize hxt : (x == t) = xt at *
        cases xt
        · go_wp2_with (go_at_call 143; refine (nan_i64' _ _).mono ?_; rintro e w2 ⟨rfl, rfl⟩)
          exact bodyPost_ret (v := .tuple #[.int .i64 p, .bool false]) (by simp [results, Tryz.results100, go_sem, hxt]) rfl ⟨p, _, rfl, rfl, HF⟩
        · go_wp2_with (go_at_call 143; refine (nan_i64' _ _).mono ?_; rintro e w2 ⟨rfl, rfl⟩)
          exact bodyPost_ret (v := .tuple #[.int .i64 p, .bool true]) (by simp [results, Tryz.results100, go_sem, hxt]) rfl ⟨p, _, rfl, rfl, HF⟩
      · have i1 : ¬ (p : Int) < (l.length : Int) := by omega
        clear HB hp
        go_wp2_with fail
        exact bodyPost_ret (v := .tuple #[.int .i64 p, .bool false]) (by simp [results, Tryz.results100, go_sem]) rfl ⟨p, _, rfl, rfl, HF⟩

theorem Below'.eq {l : List Int} {t : Int} {j k : Nat} (h : Below' l t j) (h' : Below' l t k) : j = k := by
  rcases Nat.lt_trichotomy j k with h1 | h1 | h1
  · have h2 := h'.le
    have := h.hi j (by omega) (Nat.le_refl _)
    have := h'.lo j (by omega) h1
    omega
  · exact h1
  · have h2 := h.le
    have := h'.hi k (by omega) (Nat.le_refl _)
    have := h.lo k (by omega) h1
    omega

/-- the last below t, in a rising list -/
def GivesLast (w : World) (l : List Int) (t : Int) (e : Ending) (w' : World) : Prop := ∃ k, Below' l t k ∧ w' = w ∧ ((k = 0 ∧ e = .returned (.tuple #[.int .i64 0, .bool false])) ∨ ∃ (h : k - 1 < l.length), 0 < k ∧ e = .returned (.tuple #[.int .i64 l[k - 1], .bool true]))

set_option maxHeartbeats 1000000 in
theorem ixLast_any {w : World} {B : Nat} {lab : Nat → Nat} {ve : Value} {m : Nat → Nat} {le : List Int} {f : Nat → Lit → List Int} {n : Nat} {D : DataW Unit} (h : IxW w B lab ve m le f n D) (x : ByteArray) (wc : x.size ≤ 9223372036854775807) (hl : (f 4 (keyL x)).length ≤ 1048576) (hs : (f 4 (keyL x)).Pairwise (· ≤ ·)) (t : Int) :
    Calls Tryz.prog 57 #[.pointer (some ⟨B, 0, none⟩), .string x, .int .i64 t] w (GivesLast w (f 4 (keyL x)) t) := by
  have c0 := blk_cell h.blk
  obtain ⟨a, k, hrun, G, ho, -⟩ := (h.c 4 (by omega) (by omega)).look (kt_key 4) Tryz.underlying155 (zeroInts w) (keyL_of wc)
  have hb := bs_any w G _ _ ho.rd hl hs t
  have hat := i64_at ho.rd
  clear h hs ho wc
  generalize f 4 (keyL x) = L at *
  obtain ⟨a', c', hv, -, -, hat⟩ := hat
  simp only [Value.slice.injEq] at hv
  obtain ⟨rfl, -, rfl⟩ := hv
  have HA := Lib.hid hat
  have HL := Lib.hid hl
  clear hat hl
  obtain ⟨q, hq⟩ : ∃ q, L.length = q := ⟨_, rfl⟩
  rw [hq] at hrun hb
  have HQ := Lib.hid hq
  clear hq
  go_enter Tryz.func57, Tryz.ntmps57
  go_wp2_with fail
  refine hb.mono ?_
  clear hb
  rintro e w2 ⟨p, b, rfl, rfl, HB⟩
  cases p with
  | zero =>
    go_wp2_with fail
    exact bodyPost_ret (v := .tuple #[.int .i64 0, .bool false]) (by simp [results, Tryz.results57, go_sem]) rfl ⟨0, HB.out, rfl, .inl ⟨rfl, rfl⟩⟩
  | succ p =>
    have hp : p < L.length := by have := HB.out.le; omega
    obtain ⟨b1, off, rfl, hcc, hwf⟩ := HA.out p hp
    have e0 : (((p + 1 : Nat) : Int) == 0) = false := by simp; omega
    have e1 : IntKind.i64.wrap (((p + 1 : Nat) : Int) - 1) = (p : Int) := by rw [IntKind.wrap_i64]; have := HQ.out; have := HL.out; omega
    have i0 : (0 : Int) ≤ (p : Int) := by omega
    have i1 : (p : Int) < (q : Int) := by have := HQ.out; omega
    have HP := Lib.hid hp
    obtain ⟨y, hy, hc⟩ : ∃ y, L[p] = y ∧ w.cell? ⟨b1, off + p, none⟩ = some (.int .i64 y) := ⟨_, rfl, hcc⟩
    have HY := Lib.hid hy
    clear hcc hy hwf hp
    generalize ((p + 1 : Nat) : Int) = P at *
    go_wp2_with fail
    exact bodyPost_ret (v := .tuple #[.int .i64 y, .bool true]) (by simp [results, Tryz.results57, go_sem]) rfl ⟨p + 1, HB.out, rfl, .inr ⟨HP.out, by omega, by rw [show L[p + 1 - 1] = y from HY.out]⟩⟩

/-- where an epoch begins and ends, in a rising list -/
def GivesEp (w : World) (l : List Int) (t : Int) (e : Ending) (w' : World) : Prop := ∃ j k, Below' l t j ∧ Below' l (t + 1) k ∧ w' = w ∧ e = .returned (.tuple #[.int .i64 j, .int .i64 k])
/-- between two rounds -/
structure EpR (l : List Int) (t : Int) (j k : Nat) : Prop where
  jk : j ≤ k
  le : k ≤ l.length
  eq : ∀ i (h : i < l.length), j ≤ i → i < k → l[i] = t

set_option maxHeartbeats 1000000 in
theorem ixEpoch_any {w : World} {B : Nat} {lab : Nat → Nat} {ve : Value} {m : Nat → Nat} {le : List Int} {f : Nat → Lit → List Int} {n : Nat} {D : DataW Unit} (h : IxW w B lab ve m le f n D) (hl : le.length ≤ 1048576) (hs : le.Pairwise (· ≤ ·)) (t : Int) :
    Calls Tryz.prog 52 #[.pointer (some ⟨B, 0, none⟩), .int .i64 t] w (GivesEp w le t) := by
  have c0 := blk_cell h.blk
  have hb := bs_any w _ _ _ h.eps.rd hl hs t
  obtain ⟨a, c, rfl, -, -, hat⟩ := i64_at h.eps.rd
  have HS : RowKit.Hid (∀ (x y : Nat) (hx : x < le.length) (hy : y < le.length), x ≤ y → le[x] ≤ le[y]) := fun x y hx hy hxy => by
    rcases Nat.lt_or_ge x y with h1 | h1
    · exact (List.pairwise_iff_getElem.1 hs) x y hx hy h1
    · obtain rfl : x = y := by omega
      exact Int.le_refl _
  have HA := Lib.hid hat
  have HL := Lib.hid hl
  clear h hs hat hl
  obtain ⟨q, hq⟩ : ∃ q, le.length = q := ⟨_, rfl⟩
  rw [hq] at hb
  simp only [hq] at c0
  have HQ := Lib.hid hq
  clear hq
  go_enter Tryz.func52, Tryz.ntmps52
  go_wp2_with fail
  refine hb.mono ?_
  clear hb
  rintro e w2 ⟨p, b, rfl, rfl, HB⟩
  go_wp2_with fail
  go_loopw [8] (fun i wr => ∃ k : Nat, i = .int .i64 k ∧ wr = w ∧ RowKit.Hid (EpR le t p k)) (fun i _ => q - (intOf i).toNat)
  case atStart => exact ⟨p, rfl, rfl, ⟨Nat.le_refl _, HB.out.le, fun i h h1 h2 => by omega⟩⟩
  case round =>
    obtain ⟨k, rfl, rfl, HE⟩ := hrel
    have HX : RowKit.Hid ((∃ h : k < le.length, le[k] ≠ t) ∨ k = le.length → Below' le (t + 1) k) := fun hh => ⟨HE.out.le, fun i hi hik => by
        rcases Nat.lt_or_ge i p with h1 | h1
        · have := HB.out.lo i hi h1; omega
        · have := HE.out.eq i hi h1 hik; omega, fun i hi hik => by
        rcases hh with ⟨h1, h2⟩ | h1
        · have := HS.out k i h1 hi hik
          have := HB.out.hi k h1 HE.out.jk
          omega
        · omega⟩
    by_cases hk : k < q
    · have hk' : k < le.length := by have := HQ.out; omega
      obtain ⟨b1, off, rfl, hc, hwf⟩ := HA.out k hk'
      have i0 : (0 : Int) ≤ (k : Int) := by omega
      have i1 : (k : Int) < (q : Int) := by omega
      have i3 : (k : Int) ≤ 9223372036854775806 := by have := HL.out; have := HQ.out; omega
      obtain ⟨y, hy⟩ : ∃ y, le[k] = y := ⟨_, rfl⟩
      rw [hy] at hc hwf
      have HY : RowKit.Hid (k < q ∧ ∃ h : k < le.length, le[k] = y) := ⟨hk, hk', hy⟩
      clear hy hk hk' hwf
      by_cases hyt : y = t
      · have e1 : (y == t) = true := by simpa using hyt
        have HYT := Lib.hid hyt
        clear hyt
        go_wp2_with fail
        go_roundw
        case rel =>
          refine ⟨k + 1, by simp, by first | rfl | trivial, ⟨by have := HE.out.jk; omega, by have := HY.out.1; have := HQ.out; omega, fun i hi h1 h2 => ?_⟩⟩
          rcases Nat.lt_or_ge i k with h3 | h3
          · exact HE.out.eq i hi h1 h3
          · obtain rfl : i = k := by omega
            obtain ⟨_, h4⟩ := HY.out.2
            rw [h4]; exact HYT.out
        case measure => simp [intOf]; have := HY.out.1; omega
      · have e1 : (y == t) = false := by simpa using hyt
        have HYT := Lib.hid hyt
        clear hyt
        go_wp2_with fail
        refine bodyPost_ret (v := .tuple #[.int .i64 p, .int .i64 k]) (by simp [results, Tryz.results52, go_sem]) rfl ⟨p, k, HB.out, HX.out (.inl ?_), rfl, rfl⟩
        obtain ⟨h3, h4⟩ := HY.out.2
        exact ⟨h3, by rw [h4]; exact HYT.out⟩
    · have i1 : ¬ (k : Int) < (q : Int) := by omega
      have HK : RowKit.Hid (k = le.length) := by have := HE.out.le; have := HQ.out; show _ = _; omega
      clear hk
      go_wp2_with fail
      exact bodyPost_ret (v := .tuple #[.int .i64 p, .int .i64 k]) (by simp [results, Tryz.results52, go_sem]) rfl ⟨p, k, HB.out, HX.out (.inr HK.out), rfl, rfl⟩
end Go.Proofs.YtnknihmchmmenaaGreat
