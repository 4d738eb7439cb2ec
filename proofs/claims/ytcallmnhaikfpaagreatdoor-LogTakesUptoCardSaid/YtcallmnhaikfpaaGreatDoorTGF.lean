/-
  Parts of what is proved for this claim; each declaration is one of the seat's texts.
-/
import Derived.Test.YtcallmnhaikfpaaGreatDoorTGA
import Derived.Test.YtcallmnhaikfpaaGreatDoorTGC
import Derived.Still
import Derived.StillTactics
import Derived.WalkKit
import Derived.WalkSpells
import Derived.WalkLawsBesides
import Derived.ProofKit
import Derived.Deep.Slices
import Derived.Deep.AppendSrc
import Derived.Lib.Hide
import Derived.Recover
import Derived.Defers
import Derived.Deep.QuietTactic
import Derived.BigQuiet
import Derived.Handy
import Derived.Laws.Bits64b
set_option linter.unusedVariables false
set_option linter.unusedSimpArgs false
namespace Go.Proofs.YtcallmnhaikfpaaGreatDoor
open Go Go.RowKit Go.Deep
theorem bytes_at {w : World} {S : Nat → Prop} {v : Value} {l : Bytes} (h : Rd bytesSh w S [v] l) :
    ∃ a c, v = .slice a l.length c ∧ l.length ≤ c ∧ c ≤ maxLen ∧ (a = none → l = [] ∧ c = 0) ∧ ∀ i (hi : i < l.length), ∃ b off, a = some ⟨b, off, none⟩ ∧ S b ∧ b < w.heap.size ∧ w.cell? ⟨b, off + i, none⟩ = some (.int .u8 l[i]) ∧ w.frozen? ⟨b, off + i, none⟩ = false ∧ 0 ≤ l[i] ∧ l[i] < 256 := by
  obtain ⟨a, c, e, h1, h2, h3, h4⟩ := h
  simp only [List.cons.injEq, and_true] at e
  refine ⟨a, c, e, h1, h2, h3, fun i hi => ?_⟩
  obtain ⟨b, off, row, ha, hb, hS, hl, hr, hx, hw⟩ := h4 i hi
  subst hx
  have := hr 0 (by simp)
  simp [Sh.size] at this
  simp [Lit.wf, IntKind.min, IntKind.max, IntKind.signed, IntKind.bits] at hw
  exact ⟨b, off, ha, hS, hb, this.1, this.2, by omega, by omega⟩
theorem bytes_all {w : World} {S : Nat → Prop} {v : Value} {l : Bytes} (h : Rd bytesSh w S [v] l) : AllB l := fun x hx => by
  obtain ⟨i, hi, rfl⟩ := List.getElem_of_mem hx
  obtain ⟨a, c, -, -, -, -, h4⟩ := bytes_at h
  obtain ⟨b, off, -, -, -, -, -, h5, h6⟩ := h4 i hi
  exact ⟨h5, h6⟩
def PlainV (v : Value) : Prop := ∀ a n c, v = .slice (some a) n c → ∃ b off, a = ⟨b, off, none⟩
structure RdrAt (T : TypeId) (w : World) (B : Nat) (S : Nat → Prop) (v : Value) (r : Rs) : Prop where
  blk : w.heap[B]? = some (.cells #[v, .int .i64 r.at', .int .i64 r.last, .int .i64 r.err, .int .i64 r.spot] T (0, 0))
  rd : Rd bytesSh w S [v] r.b
  nB : ¬ S B
  ok : r.Ok
  pl : PlainV v
theorem RdrAt.agree {T : TypeId} {w w' : World} {B : Nat} {S : Nat → Prop} {v : Value} {r : Rs} (h : RdrAt T w B S v r) (hk : Keep No w w') : RdrAt T w' B S v r :=
  ⟨hk.blk h.blk (fun x => x), h.rd.agree bytesSh hk.agreeNo, h.nB, h.ok, h.pl⟩
theorem RdrAt.lt {T : TypeId} {w : World} {B : Nat} {S : Nat → Prop} {v : Value} {r : Rs} (h : RdrAt T w B S v r) : B < w.heap.size := blk_lt h.blk
theorem RdrAt.step {T : TypeId} {w w' : World} {B : Nat} {S : Nat → Prop} {v : Value} {r r' : Rs} (h : RdrAt T w B S v r) (hk : Keep (One B) w w')
    (hb : w'.heap[B]? = some (.cells #[v, .int .i64 r'.at', .int .i64 r'.last, .int .i64 r'.err, .int .i64 r'.spot] T (0, 0))) (e : r'.b = r.b) (ok : r'.Ok) : RdrAt T w' B S v r' :=
  ⟨hb, by rw [e]; exact h.rd.agree bytesSh (hk.agree fun k _ hs hm => h.nB (by cases (show k = B from hm); exact hs)), h.nB, ok, h.pl⟩
theorem RdrAt.drewN {T : TypeId} {w : World} {B : Nat} {S : Nat → Prop} {v : Value} {r : Rs} (h : RdrAt T w B S v r) (n : Nat) : RdrAt T (w.drewN n) B S v r := h.agree ((Keep.refl No w).drewN n)
theorem RdrAt.setAt {T : TypeId} {w : World} {B : Nat} {S : Nat → Prop} {v : Value} {r : Rs} (h : RdrAt T w B S v r) (a : Nat) (x : Int) (hx : x = a) (ha : a ≤ r.b.length) : RdrAt T (w.setCell ⟨B, 1, none⟩ (.int .i64 x)) B S v { r with at' := a } := by
  subst hx
  exact h.step (keep_set w B 1 _) (by simpa using blk_set h.blk 1 (.int .i64 (a : Int))) rfl ⟨ha, h.ok.last_le, h.ok.spot_le, h.ok.all, h.ok.err0, h.ok.err1⟩
theorem RdrAt.setLast {T : TypeId} {w : World} {B : Nat} {S : Nat → Prop} {v : Value} {r : Rs} (h : RdrAt T w B S v r) (a : Nat) (x : Int) (hx : x = a) (ha : a ≤ r.b.length) : RdrAt T (w.setCell ⟨B, 2, none⟩ (.int .i64 x)) B S v { r with last := a } := by
  subst hx
  exact h.step (keep_set w B 2 _) (by simpa using blk_set h.blk 2 (.int .i64 (a : Int))) rfl ⟨h.ok.at_le, ha, h.ok.spot_le, h.ok.all, h.ok.err0, h.ok.err1⟩
theorem RdrAt.setErr {T : TypeId} {w : World} {B : Nat} {S : Nat → Prop} {v : Value} {r : Rs} (h : RdrAt T w B S v r) (x : Int) (h0 : 0 ≤ x) (h1 : x < 1000) : RdrAt T (w.setCell ⟨B, 3, none⟩ (.int .i64 x)) B S v { r with err := x } :=
  h.step (keep_set w B 3 _) (by simpa using blk_set h.blk 3 (.int .i64 x)) rfl ⟨h.ok.at_le, h.ok.last_le, h.ok.spot_le, h.ok.all, h0, h1⟩
theorem RdrAt.setSpot {T : TypeId} {w : World} {B : Nat} {S : Nat → Prop} {v : Value} {r : Rs} (h : RdrAt T w B S v r) (a : Nat) (x : Int) (hx : x = a) (ha : a ≤ r.b.length) : RdrAt T (w.setCell ⟨B, 4, none⟩ (.int .i64 x)) B S v { r with spot := a } := by
  subst hx
  exact h.step (keep_set w B 4 _) (by simpa using blk_set h.blk 4 (.int .i64 (a : Int))) rfl ⟨h.ok.at_le, h.ok.last_le, ha, h.ok.all, h.ok.err0, h.ok.err1⟩
theorem keep_own {w w' : World} {B : Nat} (h : Keep (One B) w w') (i : Nat) (x : Value) : Keep (One B) w (w'.setCell ⟨B, i, none⟩ x) := h.setCell (p := ⟨B, i, none⟩) (fun _ => rfl) x
def gave (T : TypeId) (e : Int) : List PanicEntry := [{ v := .iface T (.agg #[.int .i64 e]), recovered := false }]
def Takes (T G : TypeId) (w : World) (B : Nat) (S : Nat → Prop) (v : Value) (r : Rs) (o : (Value × Nat) ⊕ Int) (e : Ending) (w' : World) : Prop :=
  ∃ a : Nat, RdrAt T w' B S v { r with at' := a } ∧ Keep (One B) w w' ∧
    match o with
    | .inl (x, k) => e = .returned x ∧ a = r.at' + k
    | .inr x => e = .panicked (gave G x)
theorem maxLen_is : maxLen = 9223372036854775807 := rfl
theorem RdrAt.len {T : TypeId} {w : World} {B : Nat} {S : Nat → Prop} {v : Value} {r : Rs} (h : RdrAt T w B S v r) : r.b.length ≤ 9223372036854775807 := by
  obtain ⟨a, c, -, h1, h2, -, -⟩ := bytes_at h.rd
  rw [maxLen_is] at h2
  omega
theorem rest_cons {r : Rs} {c : Int} {t : Bytes} (h : r.rest = c :: t) : ∃ hi : r.at' < r.b.length, r.b[r.at'] = c := by
  have hl := congrArg List.length h
  simp [Rs.rest] at hl
  have hi : r.at' < r.b.length := by omega
  refine ⟨hi, ?_⟩
  have : r.rest[0]? = some c := by rw [h]; rfl
  simp [Rs.rest] at this
  rw [List.getElem?_eq_getElem hi] at this
  exact Option.some.inj this
def byteO (l : Bytes) : (Value × Nat) ⊕ Int := match l with | [] => .inr 3 | c :: _ => .inl (.int .u8 c, 1)
set_option maxHeartbeats 1000000 in
theorem byte_any (w : World) (B : Nat) (S : Nat → Prop) (v : Value) (r : Rs) (h : RdrAt 141 w B S v r) :
    Calls Tryz.prog 98 #[.pointer (some ⟨B, 0, none⟩)] w (Takes 141 148 w B S v r (byteO r.rest)) := by
  have hb := blk_cell h.blk
  have hf := blk_fro h.blk
  have q0 := hb 0
  have q1 := hb 1
  have z1 := hf 1
  simp at q0 q1
  obtain ⟨a, c, rfl, h1, h2, h3, h4⟩ := bytes_at h.rd
  have hat := h.ok.at_le
  generalize hrest : r.rest = l
  cases l with
  | nil =>
    have hl := congrArg List.length hrest
    simp [Rs.rest] at hl
    have i1 : ¬ ((r.at' : Int) < (r.b.length : Int)) := by omega
    go_enter Tryz.func98, Tryz.ntmps98
    go_wp2
    go_quiet (fail)
    go_wp2
    exact ⟨rfl, r.at', ⟨h.blk, h.rd.agree bytesSh (fun _ _ _ => rfl), h.nB, h.ok, h.pl⟩, (Keep.refl _ w).drewN _, rfl⟩
  | cons c t =>
    obtain ⟨hi, hc⟩ := rest_cons hrest
    obtain ⟨b, off, rfl, hS, hlt, hcell, hfro, j0, j1⟩ := h4 _ hi
    have i1 : ((r.at' : Int) < (r.b.length : Int)) := by omega
    have hne : ¬ B = b := fun e => h.nB (e ▸ hS)
    have hne' : ¬ b = B := fun e => h.nB (e ▸ hS)
    rw [hc] at hcell j0 j1
    have hm := h.len
    have i2 : (r.at' : Int) ≤ 9223372036854775806 := by omega
    have i3 : (0 : Int) ≤ (r.at' : Int) := by omega
    have HS := Lib.hid hS
    have HR := Lib.hid hrest
    have HH := Lib.hid h
    have HT := Lib.hid hat
    clear h4 h2 h1 h3 hS hc hrest hat h hm hb hf hi
    go_enter Tryz.func98, Tryz.ntmps98
    go_wp2
    go_quiet (fail)
    go_wp2
    go_quiet (fail)
    go_wp2
    go_ret
    have h : RdrAt 141 w B S _ r := HH
    have hle : r.at' + 1 ≤ r.b.length := by have := i1; omega
    exact ⟨r.at' + 1, ((h.drewN _).setAt (r.at' + 1) _ (by simp) hle).drewN _, (keep_own ((Keep.refl _ w).drewN _) 1 _).drewN _, rfl, rfl⟩
def numO (n : Nat × Nat × Int) : (Value × Nat) ⊕ Int := if n.2.2 = 0 then .inl (.int .u64 n.1, n.2.1) else .inr n.2.2
end Go.Proofs.YtcallmnhaikfpaaGreatDoor
namespace Go.Proofs.YtcallmnhaikfpaaGreatDoor
open Go Go.RowKit Go.Deep
theorem or_bits (a c i : Nat) (h : a < 128 ^ i) : a ||| (c * 128 ^ i) = a + c * 128 ^ i := by
  have e : (128 : Nat) ^ i = 2 ^ (7 * i) := by rw [Nat.pow_mul]
  rw [e] at h ⊢
  rw [← Nat.shiftLeft_eq, Nat.or_comm, ← Nat.shiftLeft_add_eq_or_of_lt h]
  omega
theorem andNot_u8_all : ∀ c : Fin 256, bits BinOp.andNot .u8 ((c.val : Nat) : Int) 128 = ((c.val % 128 : Nat) : Int) := by decide +kernel
theorem andNot_u8 (c : Nat) (h : c < 256) : bits BinOp.andNot .u8 (c : Int) 128 = ((c % 128 : Nat) : Int) := andNot_u8_all ⟨c, h⟩
theorem wrap_u64_nat (n : Nat) (h : n < 18446744073709551616) : IntKind.u64.wrap (n : Int) = n := by
  rw [IntKind.wrap_u64]; omega
theorem uint_step (acc k c : Nat) (h : c < 256) (hk : k ≤ 9) (ha : acc < 128 ^ k) (h9 : k = 9 → c ≤ 1) :
    bits BinOp.or .u64 (acc : Int) (IntKind.u64.wrap (IntKind.u64.wrap (bits BinOp.andNot .u8 (c : Int) 128) * 2 ^ (7 * k))) = ((acc + c % 128 * 128 ^ k : Nat) : Int) ∧ acc + c % 128 * 128 ^ k < 128 ^ (k + 1) ∧ acc + c % 128 * 128 ^ k < 18446744073709551616 := by
  have e : (2 : Int) ^ (7 * k) = ((128 ^ k : Nat) : Int) := by rw [Int.pow_mul]; norm_cast
  have hlt : acc + c % 128 * 128 ^ k < 128 ^ (k + 1) := by
    have : c % 128 * 128 ^ k ≤ 127 * 128 ^ k := Nat.mul_le_mul_right _ (by omega)
    rw [Nat.pow_succ]; omega
  have hm : (128 : Nat) ^ k ≤ 128 ^ 9 := Nat.pow_le_pow_right (by decide) hk
  have h64 : acc + c % 128 * 128 ^ k < 18446744073709551616 := by
    by_cases h0 : k = 9
    · have := h9 h0
      subst h0
      have : c % 128 * 128 ^ 9 ≤ 1 * 128 ^ 9 := Nat.mul_le_mul_right _ (by omega)
      omega
    · have h8 : (128 : Nat) ^ (k + 1) ≤ 128 ^ 9 := Nat.pow_le_pow_right (by decide) (by omega)
      have : (128 : Nat) ^ 9 < 18446744073709551616 := by decide
      omega
  refine ⟨?_, hlt, h64⟩
  rw [andNot_u8 c h, wrap_u64_nat _ (by omega), e, ← Int.natCast_mul, wrap_u64_nat _ (by omega), bits_or_u64_nat _ _ (by omega) (by omega), or_bits _ _ _ ha]
set_option maxHeartbeats 2000000 in
theorem uint_any (w : World) (B : Nat) (S : Nat → Prop) (v : Value) (r : Rs) (h : RdrAt 141 w B S v r) :
    Calls Tryz.prog 68 #[.pointer (some ⟨B, 0, none⟩)] w (Takes 141 148 w B S v r (numO (numB r.rest))) := by
  go_enter Tryz.func68, Tryz.ntmps68
  go_wp2_with fail
  go_loopw [3, 6] (fun s i wr => ∃ k acc : Nat, k ≤ 9 ∧ i = .int .i64 k ∧ s = .int .u64 acc ∧ acc < 128 ^ k ∧ k ≤ r.rest.length ∧ RdrAt 141 wr B S v { r with at' := r.at' + k } ∧ Keep (One B) w wr ∧ numF (10 - k) k acc (r.rest.drop k) = numB r.rest) (fun _ i _ => 10 - (intOf i).toNat)
  case atStart => exact ⟨0, 0, by omega, rfl, rfl, by simp, by omega, h, Keep.refl _ _, rfl⟩
  case round =>
    obtain ⟨k, acc, hk, rfl, rfl, ha, hkl, hr, hkp, hn⟩ := hrel
    have er : ({ r with at' := r.at' + k } : Rs).rest = r.rest.drop k := by simp [Rs.rest, List.drop_drop]
    have hc := byte_any wr B S v { r with at' := r.at' + k } hr
    rw [er] at hc
    obtain ⟨f, hf⟩ : ∃ f, 10 - k = f + 1 := ⟨9 - k, by omega⟩
    rw [hf] at hn
    cases hl : r.rest.drop k with
    | nil =>
      rw [hl] at hc hn
      have hn' : numB r.rest = (0, 0, 3) := hn.symm
      have HH := Lib.hid h
      have HP := Lib.hid hkp
      have HN := Lib.hid hn'
      have j9 : (k : Int) < 10 := by omega
      clear h hr hkp hn hn' er hf ha
      go_wp2_with (go_at_call 98; refine hc.mono ?_; clear hc; rintro e w2 ⟨a, hr2, hk2, rfl⟩)
      have hn' : numB r.rest = (0, 0, 3) := HN
      have hO : numO (numB r.rest) = .inr 3 := by rw [hn']; rfl
      exact ⟨rfl, a, hr2, Keep.trans HP hk2, by rw [hO]⟩
    | cons c t =>
      rw [hl] at hc hn
      have hcm : c ∈ r.b := List.mem_of_mem_drop (List.mem_of_mem_drop (show c ∈ r.rest.drop k by rw [hl]; exact List.mem_cons_self))
      have hcb := h.ok.all c hcm
      have hkl' : k + 1 ≤ r.rest.length := by have := congrArg List.length hl; simp at this; omega
      have htl : r.rest.drop (k + 1) = t := by rw [← List.drop_drop, hl]; rfl
      have HH := Lib.hid h
      have HP := Lib.hid hkp
      obtain ⟨cn, ecn⟩ : ∃ cn : Nat, c = cn := ⟨c.toNat, by omega⟩
      have e128 : (c % 128).toNat = cn % 128 := by omega
      have HA := Lib.hid ha
      have j0 := hcb.1
      have j1 := hcb.2
      have j9 : (k : Int) < 10 := by omega
      unfold numF at hn
      rw [e128] at hn
      by_cases c1 : k = 9 ∧ 1 < c
      · rw [if_pos c1] at hn
        have HN := Lib.hid hn
        obtain ⟨c1, c2⟩ := c1
        have HT := Lib.hid htl
        have HL := Lib.hid hkl'
        have HK := Lib.hid hk
        clear h hr hkp hn er hf ha hl hkl htl hcm hkl' hcb hk ecn e128
        subst c1
        go_wp2_with (go_at_call 98; refine hc.mono ?_; clear hc; rintro e w2 ⟨a, hr2, hk2, rfl, rfl⟩)
        have hN : numB r.rest = (0, 0, 11) := Eq.symm HN
        have hO : numO (numB r.rest) = .inr 11 := by rw [hN]; rfl
        exact ⟨rfl, _, hr2, Keep.trans HP hk2, by rw [hO]; rfl⟩
      · rw [if_neg c1] at hn
        by_cases c2 : c < 128
        · rw [if_pos c2] at hn
          obtain ⟨us1, us2, us3⟩ := uint_step acc k cn (by omega) hk ha (fun h9 => by have : ¬ (1 : Int) < c := fun hh => c1 ⟨h9, hh⟩; omega)
          rw [← ecn] at us1
          have US := Lib.hid us1
          have c4 : ¬ ((k : Int) = 9 ∧ (1 : Int) < c) := by intro hh; exact c1 ⟨by omega, by omega⟩
          by_cases c3 : 0 < k ∧ c = 0
          · rw [if_pos c3] at hn
            have HN := Lib.hid hn
            obtain ⟨c5, c6⟩ := c3
            have HT := Lib.hid htl
            have HL := Lib.hid hkl'
            have c7 : (0 : Int) < k := by omega
            have c8 : c = 0 := by omega
            clear h hr hkp hn er hf ha hl hkl htl hcm hkl' hcb us1 us2 us3 c5 c6 c1 ecn e128
            subst c8
            go_wp2_with (go_at_call 98; refine hc.mono ?_; clear hc; rintro e w2 ⟨a, hr2, hk2, rfl, rfl⟩)
            all_goals
              have hN : numB r.rest = (0, 0, 10) := Eq.symm HN
              have hO : numO (numB r.rest) = .inr 10 := by rw [hN]; rfl
              exact ⟨rfl, _, hr2, Keep.trans HP hk2, by rw [hO]; rfl⟩
          · rw [if_neg c3] at hn
            have HN := Lib.hid hn
            have HT := Lib.hid htl
            have HL := Lib.hid hkl'
            have c7 : ¬ ((0 : Int) < k ∧ c = 0) := by intro hh; exact c3 ⟨by omega, by omega⟩
            clear h hr hkp hn er hf ha hl hkl htl hcm hkl' hcb us1 us2 us3 c1 c3 ecn e128
            by_cases h9 : k = 9
            · subst h9
              have c9 : ¬ ((1 : Int) < c) := fun hh => c4 ⟨rfl, hh⟩
              have c10 : ¬ c = 0 := fun hh => c7 ⟨by omega, hh⟩
              clear c4 c7
              go_wp2_with (go_at_call 98; refine hc.mono ?_; clear hc; rintro e w2 ⟨a, hr2, hk2, rfl, rfl⟩)
              go_ret
              have hN : (acc + cn % 128 * 128 ^ 9, 9 + 1, (0 : Int)) = numB r.rest := HN
              have hO : numO (numB r.rest) = .inl (.int .u64 ((acc + cn % 128 * 128 ^ 9 : Nat) : Int), 9 + 1) := by rw [← hN]; rfl
              exact ⟨_, hr2, Keep.trans HP hk2, by rw [hO]; exact ⟨congrArg Ending.returned (congrArg (Value.int .u64) US), by first | rfl | omega | (simp; omega)⟩⟩
            · have c9 : ¬ ((k : Int) = 9) := by omega
              clear c4 h9
              go_wp2_with (go_at_call 98; refine hc.mono ?_; clear hc; rintro e w2 ⟨a, hr2, hk2, rfl, rfl⟩)
              all_goals
                go_ret
                have hN : (acc + cn % 128 * 128 ^ k, k + 1, (0 : Int)) = numB r.rest := HN
                have hO : numO (numB r.rest) = .inl (.int .u64 ((acc + cn % 128 * 128 ^ k : Nat) : Int), k + 1) := by rw [← hN]; rfl
                exact ⟨_, hr2, Keep.trans HP hk2, by rw [hO]; exact ⟨congrArg Ending.returned (congrArg (Value.int .u64) US), by first | rfl | omega | (simp; omega)⟩⟩
        · rw [if_neg c2] at hn
          have HN := Lib.hid hn
          have HT := Lib.hid htl
          have HL := Lib.hid hkl'
          have HF := Lib.hid hf
          have k8 : k ≤ 8 := by
            apply Classical.byContradiction
            intro hh; exact c1 ⟨by omega, by omega⟩
          have us := uint_step acc k cn (by omega) hk ha (fun h9 => by omega)
          rw [← ecn] at us
          have US := Lib.hid us
          clear us
          have c3 : ¬ ((k : Int) = 9) := by intro hh; exact c1 ⟨by omega, by omega⟩
          clear h hr hkp hn er hf ha hl hkl htl hcm hkl' hcb c1 ecn e128
          have HK8 := Lib.hid k8
          clear k8
          go_wp2_with (go_at_call 98; refine hc.mono ?_; clear hc; rintro e w2 ⟨a, hr2, hk2, rfl, rfl⟩)
          go_roundw
          case rel =>
            unfold RowKit.Hid at US HK8 HF
            exact ⟨k + 1, acc + cn % 128 * 128 ^ k, by omega, by simp, congrArg _ US.1, US.2.1, HL, hr2, Keep.trans HP hk2, by
              have hN : numF f (k + 1) (acc + cn % 128 * 128 ^ k) t = numB r.rest := HN
              have hT : r.rest.drop (k + 1) = t := HT
              rw [hT, ← hN]; congr 1; omega⟩
          case measure => simp [intOf]; omega
end Go.Proofs.YtcallmnhaikfpaaGreatDoor
namespace Go.Proofs.YtcallmnhaikfpaaGreatDoor
open Go Go.RowKit Go.Deep
def limO (n : Nat × Nat × Int) : (Value × Nat) ⊕ Int := if n.2.2 = 0 then .inl (.int .i64 n.1, n.2.1) else .inr n.2.2
set_option maxHeartbeats 2000000 in
theorem limited_any (w : World) (B : Nat) (S : Nat → Prop) (v : Value) (r : Rs) (h : RdrAt 141 w B S v r) (most e : Int) (hm : most ≤ 9223372036854775807) (hm0 : -9223372036854775808 ≤ most) (he : e ≠ 0) :
    Calls Tryz.prog 71 #[.pointer (some ⟨B, 0, none⟩), .int .i64 most, .int .i64 e] w (Takes 141 148 w B S v r (limO (limB most e r.rest))) := by
  have hu := uint_any w B S v r h
  have hlt : (numB r.rest).2.2 = 0 → (numB r.rest).1 < 2 ^ 64 := fun hz => (numB_ok h.ok.rest hz).1
  have hlim : limB most e r.rest = if (numB r.rest).2.2 ≠ 0 then (0, 0, (numB r.rest).2.2) else if most < 0 ∨ most < (numB r.rest).1 then (0, 0, e) else ((numB r.rest).1, (numB r.rest).2.1, 0) := rfl
  generalize numB r.rest = nb at hu hlt hlim
  by_cases h1 : nb.2.2 = 0
  · have hlt := hlt h1
    have hO : numO nb = .inl (.int .u64 nb.1, nb.2.1) := by unfold numO; rw [if_pos h1]
    rw [hO] at hu
    rw [if_neg (by simpa using h1)] at hlim
    obtain ⟨n, en⟩ : ∃ n : Int, n = nb.1 := ⟨_, rfl⟩
    rw [← en] at hu
    have n0 : 0 ≤ n := by omega
    have n1 : n ≤ 18446744073709551615 := by omega
    by_cases h2 : most < 0
    · rw [if_pos (.inl h2)] at hlim
      have HL := Lib.hid hlim
      clear hlim hlt h1 hO h en hm hm0
      go_enter Tryz.func71, Tryz.ntmps71
      go_wp2_with (go_at_call 68; refine hu.mono ?_; clear hu; rintro e' w2 ⟨a, hr2, hk2, rfl, rfl⟩)
      have hl : limB most e r.rest = (0, 0, e) := HL
      exact ⟨rfl, _, hr2, hk2, by rw [hl]; simp [limO, he]; rfl⟩
    · by_cases h3 : most < nb.1
      · rw [if_pos (.inr h3)] at hlim
        have HL := Lib.hid hlim
        have h4 : n > most := by omega
        have h5 : 0 ≤ most := by omega
        have h6 : IntKind.u64.wrap most = most := by rw [IntKind.wrap_u64]; omega
        clear hlim hlt h1 hO h en h3
        go_enter Tryz.func71, Tryz.ntmps71
        go_wp2_with (go_at_call 68; refine hu.mono ?_; clear hu; rintro e' w2 ⟨a, hr2, hk2, rfl, rfl⟩)
        have hl : limB most e r.rest = (0, 0, e) := HL
        exact ⟨rfl, _, hr2, hk2, by rw [hl]; simp [limO, he]; rfl⟩
      · rw [if_neg (fun hh => hh.elim h2 h3)] at hlim
        have HL := Lib.hid hlim
        have h4 : ¬ n > most := by omega
        have h5 : 0 ≤ most := by omega
        have h6 : IntKind.u64.wrap most = most := by rw [IntKind.wrap_u64]; omega
        have h7 : n ≤ 9223372036854775807 := by omega
        have EN := Lib.hid en
        clear hlim hlt h1 hO h en h3
        go_enter Tryz.func71, Tryz.ntmps71
        go_wp2_with (go_at_call 68; refine hu.mono ?_; clear hu; rintro e' w2 ⟨a, hr2, hk2, rfl, rfl⟩)
        go_ret
        have hl : limB most e r.rest = (nb.1, nb.2.1, 0) := HL
        have en : n = nb.1 := EN
        exact ⟨_, hr2, hk2, by rw [hl, en]; exact ⟨rfl, rfl⟩⟩
  · have hO : numO nb = .inr nb.2.2 := by unfold numO; rw [if_neg h1]
    rw [hO] at hu
    rw [if_pos h1] at hlim
    have HL := Lib.hid hlim
    have H1 := Lib.hid h1
    clear hlim hlt h1 hO h hm hm0 he
    go_enter Tryz.func71, Tryz.ntmps71
    go_wp2_with (go_at_call 68; refine hu.mono ?_; clear hu; rintro e' w2 ⟨a, hr2, hk2, rfl⟩)
    have hl : limB most e r.rest = (0, 0, nb.2.2) := HL
    have h1 : ¬ nb.2.2 = 0 := H1
    exact ⟨rfl, _, hr2, hk2, by rw [hl]; simp [limO, h1]⟩
def textO (most : Int) (l : Bytes) : (Value × Nat) ⊕ Int :=
  if (limB most 1 l).2.2 ≠ 0 then .inr (limB most 1 l).2.2 else
  if l.length < (limB most 1 l).2.1 + (limB most 1 l).1 then .inr 3 else
  .inl (.string (textOf ((l.drop (limB most 1 l).2.1).take (limB most 1 l).1)), (limB most 1 l).2.1 + (limB most 1 l).1)
theorem Rd.part {s : Sh} {w : World} {S : Nat → Prop} {b off c : Nat} {l : List s.T} (h : Rd (.slice s) w S [.slice (some ⟨b, off, none⟩) l.length c] l) (i n : Nat) (hn : i + n ≤ l.length) :
    Rd (.slice s) w S [.slice (some ⟨b, off + i * s.size, none⟩) n (c - i)] ((l.drop i).take n) := by
  obtain ⟨a', c', e1, h1, h2, h3, h4⟩ := h
  simp only [List.cons.injEq, Value.slice.injEq, and_true, true_and] at e1
  obtain ⟨rfl, rfl⟩ := e1
  have hl : ((l.drop i).take n).length = n := by simp; omega
  refine ⟨_, c - i, by rw [hl], by omega, by omega, fun hh => by (cases hh), fun j hj => ?_⟩
  rw [hl] at hj
  obtain ⟨b', off', row, e2, hb, hS, hr, hrow, hx⟩ := h4 (i + j) (by omega)
  simp only [Option.some.injEq, Addr.mk.injEq, and_true] at e2
  obtain ⟨rfl, rfl⟩ := e2
  refine ⟨b, off + i * s.size, row, rfl, hb, hS, hr, ?_, ?_⟩
  · rw [Nat.add_assoc, ← Nat.add_mul]; exact hrow
  · have : ((l.drop i).take n)[j] = l[i + j] := by simp
    rw [this]; exact hx
theorem run_string_back {P : Program} {w : World} {S : Nat → Prop} {l : Bytes} (src dst e : TypeId) (a : Option Addr) (c n : Nat) (hs : P.underlying src = some (.slice e)) (he : P.underlying e = some (.int .u8)) (hd : P.underlying dst = some .string)
    (h : Rd bytesSh w S [.slice a n c] l) : (convert src dst (.slice a n c)).run P w = .ok (.string (textOf l)) w := by
  obtain ⟨a', c', e1, -, -, h3, h4⟩ := bytes_at h
  simp only [Value.slice.injEq] at e1
  obtain ⟨rfl, rfl, rfl⟩ := e1
  cases a with
  | none =>
    obtain ⟨rfl, -⟩ := h3 rfl
    rw [run_convert_bytes_string w src dst e _ _ _ hs he hd]
    simp [Conv.bytesToString, textOf]
    rfl
  | some a =>
    have := run_convert_bytes_back w src dst e a c (l.map fun x => UInt8.ofNat x.toNat) hs he hd fun j hj => by
      simp only [List.length_map] at hj
      obtain ⟨b, off, ea, -, -, hc, -, h0, h1⟩ := h4 j hj
      simp only [Option.some.injEq] at ea
      subst ea
      rw [Addr.add_lit, hc, List.getElem_map]
      congr 2
      rw [UInt8.toNat_ofNat', Nat.mod_eq_of_lt (by omega)]
      omega
    rw [List.length_map] at this
    exact this
set_option maxHeartbeats 4000000 in
theorem text_take (w : World) (B : Nat) (S : Nat → Prop) (v : Value) (r : Rs) (h : RdrAt 141 w B S v r) (most : Int) (hm : most ≤ 9223372036854775807) (hm0 : -9223372036854775808 ≤ most) (pb qb : Nat) (hpB : pb ≠ B) (hqB : qb ≠ B)
    (hp : w.cell? ⟨pb, 0, none⟩ = some (.pointer (some ⟨B, 0, none⟩))) (hq : w.cell? ⟨qb, 0, none⟩ = some (.int .i64 most)) :
    Calls Tryz.prog 73 #[.pointer (some ⟨pb, 0, none⟩), .pointer (some ⟨qb, 0, none⟩)] w (Takes 141 148 w B S v r (textO most r.rest)) := by
  have hu := limited_any w B S v r h most 1 hm hm0 (by omega)
  have hb1 : pb < w.heap.size := World.block_lt_of_cell? _ _ hp
  have hT : textO most r.rest = textO most r.rest := rfl
  conv at hT => rhs; unfold textO
  by_cases h1 : (limB most 1 r.rest).2.2 = 0
  · obtain ⟨g1, g2, g3, g4⟩ := limB_ok h1 (by omega)
    have hlen := numB_len _ g1
    have hlt := (numB_ok h.ok.rest g1).1
    have hk1 : 1 ≤ (limB most 1 r.rest).2.1 := by rw [g3, (numB_ok h.ok.rest g1).2.1]; exact (uintB_length _).1
    rw [← g2] at hlt
    rw [← g3] at hlen
    have hO : limO (limB most 1 r.rest) = .inl (.int .i64 (limB most 1 r.rest).1, (limB most 1 r.rest).2.1) := by unfold limO; rw [if_pos h1]
    rw [hO] at hu
    rw [if_neg (by simpa using h1)] at hT
    generalize (limB most 1 r.rest).1 = n at hu hT hlt g4
    generalize (limB most 1 r.rest).2.1 = k at hu hT hlen hk1
    clear g1 g2 g3 hO h1
    have hat := h.ok.at_le
    have hrl : r.rest.length = r.b.length - r.at' := by simp [Rs.rest]
    have hlen63 := h.len
    by_cases h2 : r.rest.length < k + n
    · rw [if_pos h2] at hT
      have hu' := hu.mono (R' := fun e' w2 => ∃ a : Nat, e' = .returned (.int .i64 n) ∧ w2.cell? ⟨B, 0, none⟩ = some v ∧ w2.cell? ⟨B, 1, none⟩ = some (.int .i64 a) ∧ w2.cell? ⟨pb, 0, none⟩ = some (.pointer (some ⟨B, 0, none⟩)) ∧
          (r.b.length : Int) - (a : Int) < (n : Int) ∧ (a : Int) ≤ r.b.length ∧ RowKit.Hid (RdrAt 141 w2 B S v { r with at' := a } ∧ Keep (One B) w w2)) (by
        rintro e' w2 ⟨a, hr2, hk2, rfl, ha⟩
        have ha : a = r.at' + k := ha
        exact ⟨a, rfl, blk_cell hr2.blk 0, blk_cell hr2.blk 1, (hk2.cell hb1 (o := 0) (show ¬ One B pb from hpB)).trans hp, by omega, by omega, hr2, hk2⟩)
      clear hu
      have HT := Lib.hid hT
      obtain ⟨a0, c0, rfl, -, -, -, -⟩ := bytes_at h.rd
      have j4 : (r.b.length : Int) ≤ 9223372036854775807 := by omega
      clear hT h hat hrl hlen63 h2 g4 hlen hlt hm hm0 hk1
      go_enter Tryz.func73, Tryz.ntmps73
      go_wp2_with (go_at_call 71; refine hu'.mono ?_; clear hu'; rintro e' w2 ⟨a, rfl, q0, q1, p0, j1, j2, HR⟩)
      go_quiet (fail)
      go_wp2
      have hT : textO most r.rest = .inr 3 := HT
      exact ⟨rfl, a, HR.1.drewN _, HR.2.drewN _, by rw [hT]; rfl⟩
    · rw [if_neg h2] at hT
      have hpart : ∀ b off c : Nat, v = .slice (some ⟨b, off, none⟩) r.b.length c → Rd bytesSh w S [.slice (some ⟨b, off + (r.at' + k), none⟩) n (c - (r.at' + k))] ((r.rest.drop k).take n) := fun b off c hv => by
        have := h.rd
        rw [hv] at this
        have hp := Rd.part this (r.at' + k) n (by omega)
        rw [← List.drop_drop] at hp
        simp only [Sh.size, Nat.mul_one] at hp
        exact hp
      have hu' := hu.mono (R' := fun e' w2 => ∃ a : Nat, e' = .returned (.int .i64 n) ∧ w2.cell? ⟨B, 0, none⟩ = some v ∧ w2.cell? ⟨B, 1, none⟩ = some (.int .i64 a) ∧ w2.frozen? ⟨B, 1, none⟩ = false ∧ w2.cell? ⟨pb, 0, none⟩ = some (.pointer (some ⟨B, 0, none⟩)) ∧
          (n : Int) ≤ (r.b.length : Int) - (a : Int) ∧ (a : Int) ≤ r.b.length ∧ (∀ b off c : Nat, v = .slice (some ⟨b, off, none⟩) r.b.length c → Rd bytesSh w2 S [.slice (some ⟨b, off + a, none⟩) n (c - a)] ((r.rest.drop k).take n)) ∧ RowKit.Hid (RdrAt 141 w2 B S v { r with at' := a } ∧ Keep (One B) w w2 ∧ a = r.at' + k)) (by
        rintro e' w2 ⟨a, hr2, hk2, rfl, ha'⟩
        have ha : a = r.at' + k := ha'
        clear ha'
        subst ha
        exact ⟨r.at' + k, rfl, blk_cell hr2.blk 0, blk_cell hr2.blk 1, blk_fro hr2.blk 1, (hk2.cell hb1 (o := 0) (show ¬ One B pb from hpB)).trans hp, by omega, by omega, fun b off c hv => (hpart b off c hv).agree bytesSh (hk2.agree fun k _ hs hm => h.nB (by cases (show k = B from hm); exact hs)), hr2, hk2, rfl⟩)
      clear hu hpart
      have HT := Lib.hid hT
      obtain ⟨a0, c0, rfl, j5, -, hnil, -⟩ := bytes_at h.rd
      have j4 : (r.b.length : Int) ≤ 9223372036854775807 := by omega
      have j6 : (r.b.length : Int) ≤ (c0 : Int) := by omega
      cases a0 with
      | none =>
        have : r.b.length = 0 := by rw [(hnil rfl).1]; rfl
        omega
      | some a0 =>
        obtain ⟨a1, c1, e1, -, -, -, h4⟩ := bytes_at h.rd
        simp only [Value.slice.injEq] at e1
        obtain ⟨rfl, -, rfl⟩ := e1
        obtain ⟨b, off, hab, -⟩ := h4 0 (by omega)
        simp only [Option.some.injEq] at hab
        subst hab
        have hu2 := hu'.mono (R' := fun e' w2 => ∃ a : Nat, e' = .returned (.int .i64 n) ∧ w2.cell? ⟨B, 0, none⟩ = some (.slice (some ⟨b, off, none⟩) r.b.length c0) ∧ w2.cell? ⟨B, 1, none⟩ = some (.int .i64 a) ∧ w2.frozen? ⟨B, 1, none⟩ = false ∧ w2.cell? ⟨pb, 0, none⟩ = some (.pointer (some ⟨B, 0, none⟩)) ∧
          ¬ ((r.b.length : Int) - (a : Int) < (n : Int)) ∧ (a : Int) + (n : Int) ≤ 9223372036854775807 ∧ (a : Int) ≤ (a : Int) + (n : Int) ∧ (a : Int) + (n : Int) ≤ (c0 : Int) ∧ (a : Int) ≤ (r.b.length : Int) ∧ (r.b.length : Int) ≤ 9223372036854775807 ∧ IntKind.i64.wrap (a : Int) = (a : Int) ∧ (0 : Int) ≤ (a : Int) ∧ (∀ m1 m2 : Nat, (convert 55 9 (.slice (if c0 = a then some ⟨b, off, none⟩ else some ⟨b, off + a, none⟩) (((a : Int) + (n : Int)).toNat - a) (c0 - a))).run Tryz.prog (((w2.drewN m1).setCell ⟨B, 1, none⟩ (.int .i64 ((a : Int) + (n : Int)))).drewN m2) = .ok (.string (textOf ((r.rest.drop k).take n))) (((w2.drewN m1).setCell ⟨B, 1, none⟩ (.int .i64 ((a : Int) + (n : Int)))).drewN m2)) ∧ RowKit.Hid (RdrAt 141 w2 B S (.slice (some ⟨b, off, none⟩) r.b.length c0) { r with at' := a } ∧ Keep (One B) w w2 ∧ a = r.at' + k)) (by
          rintro e' w2 ⟨a, rfl, q0, q1, z1, p0, j1, j2, hcv, HR⟩
          have ha : a = r.at' + k := HR.2.2
          have hrdl : ((r.rest.drop k).take n).length = n := by simp; omega
          refine ⟨a, rfl, q0, q1, z1, p0, by omega, by omega, by omega, by omega, by omega, by omega, by rw [IntKind.wrap_i64]; omega, by omega, fun m1 m2 => ?_, HR⟩
          have hR : RdrAt 141 (((w2.drewN m1).setCell ⟨B, 1, none⟩ (.int .i64 ((a : Int) + (n : Int)))).drewN m2) B S _ _ := ((HR.1.drewN m1).setAt (a + n) _ (by simp) (by show a + n ≤ r.b.length; omega)).drewN m2
          have hn : ((a : Int) + (n : Int)).toNat - a = n := by omega
          rw [hn]
          by_cases hc : c0 = a
          · rw [if_pos hc]
            have hn0 : n = 0 := by omega
            subst hn0
            rw [List.take_zero]
            exact run_string_back (S := S) _ _ 5 _ _ _ Tryz.underlying55 Tryz.underlying5 Tryz.underlying9 ⟨_, _, rfl, Nat.zero_le _, by omega, fun hh => by (cases hh), fun i hi => absurd hi (Nat.not_lt_zero _)⟩
          · rw [if_neg hc]
            refine run_string_back (S := S) _ _ 5 _ _ _ Tryz.underlying55 Tryz.underlying5 Tryz.underlying9 ((hcv b off c0 rfl).agree bytesSh ?_)
            exact ((keep_set (w2.drewN m1) B 1 _).drewN m2).agree fun j _ hs hm => HR.1.nB (by cases (show j = B from hm); exact hs))
        clear hu' hT h hat hrl hlen63 h2 g4 hlen hlt hm hm0 hk1 h4 hnil j4 j5 j6
        go_enter Tryz.func73, Tryz.ntmps73
        go_wp2_with (go_at_call 71; refine hu2.mono ?_; clear hu2; rintro e' w2 ⟨a, rfl, q0, q1, z1, p0, j1, j2, j3, j4, j5, j6, j7, j8, hcv, HR⟩)
        go_quiet (fail)
        go_wp2
        go_quiet (fail)
        go_wp2
        all_goals
          go_ret
          have hT : textO most r.rest = .inl (.string (textOf ((r.rest.drop k).take n)), k + n) := HT
          obtain ⟨h1, h2, h3⟩ := HR
          have j2' : a + n ≤ r.b.length := by omega
          first
          | exact ⟨a + n, ((h1.drewN _).setAt (a + n) ((a : Int) + (n : Int)) (by simp) j2').drewN _, (keep_own (h2.drewN _) 1 _).drewN _, by rw [hT]; exact ⟨rfl, by rw [h3, Nat.add_assoc]⟩⟩
          | (have hca : c0 = a := by assumption
             rw [hca] at h1
             exact ⟨a + n, ((h1.drewN _).setAt (a + n) ((a : Int) + (n : Int)) (by simp) j2').drewN _, (keep_own (h2.drewN _) 1 _).drewN _, by rw [hT]; exact ⟨rfl, by rw [h3, Nat.add_assoc]⟩⟩)
  · have hO : limO (limB most 1 r.rest) = .inr (limB most 1 r.rest).2.2 := by unfold limO; rw [if_neg h1]
    rw [hO] at hu
    rw [if_pos h1] at hT
    have HT := Lib.hid hT
    clear hT h1 hO h
    go_enter Tryz.func73, Tryz.ntmps73
    go_wp2_with (go_at_call 71; refine hu.mono ?_; clear hu; rintro e' w2 ⟨a, hr2, hk2, rfl⟩)
    have hT : textO most r.rest = .inr (limB most 1 r.rest).2.2 := HT
    exact ⟨rfl, _, hr2, hk2, by rw [hT]⟩
end Go.Proofs.YtcallmnhaikfpaaGreatDoor
