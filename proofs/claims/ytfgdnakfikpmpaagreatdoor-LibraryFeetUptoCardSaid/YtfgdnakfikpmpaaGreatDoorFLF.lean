/-
  Parts of what is proved for this claim; each declaration is one of the seat's texts.
-/
import Derived.Test.YtfgdnakfikpmpaaGreatDoorFLD
set_option linter.unusedVariables false
set_option linter.unusedSimpArgs false
namespace Go.Proofs.YtfgdnakfikpmpaaGreatDoor
open Go Go.RowKit Go.Deep
def CellsS (w : World) (a : Option Addr) (l : List ByteArray) : Prop := ∀ j (hj : j < l.length), ∃ b off, a = some ⟨b, off, none⟩ ∧ w.cell? ⟨b, off + j, none⟩ = some (.string l[j])
def idxS (l : List ByteArray) (s : ByteArray) : Int := match l.findIdx? fun c => decide (c = s) with
  | some i => i
  | none => -1
theorem idxS_hit {l : List ByteArray} {v : ByteArray} {k : Nat} (hk : k < l.length) (h : l[k] = v) (hn : ∀ j (hj : j < l.length), j < k → l[j] ≠ v) : idxS l v = k := by
  unfold idxS
  have : l.findIdx? (fun c => decide (c = v)) = some k := by
    rw [List.findIdx?_eq_some_iff_getElem]
    exact ⟨hk, by simpa using h, fun j hj => by simpa using hn j (by omega) hj⟩
  rw [this]
theorem idxS_miss {l : List ByteArray} {v : ByteArray} (hn : ∀ j (hj : j < l.length), l[j] ≠ v) : idxS l v = -1 := by
  unfold idxS
  have : l.findIdx? (fun c => decide (c = v)) = none := by
    rw [List.findIdx?_eq_none_iff]
    intro x hx
    obtain ⟨j, hj, rfl⟩ := List.getElem_of_mem hx
    simpa using hn j hj
  rw [this]
set_option maxRecDepth 10000 in
set_option maxHeartbeats 4000000 in
theorem indexS_any (w : World) (a : Option Addr) (c : Nat) (l : List ByteArray) (v : ByteArray) (h : CellsS w a l) (hl : l.length ≤ 1073741824) :
    Calls Tryz.prog 103 #[.slice a l.length c, .string v] w fun e w' => e = .returned (.int .i64 (idxS l v)) ∧ w' = w := by
  have i20 : (l.length : Int) ≤ 1073741824 := by omega
  have HX := Lib.hid (And.intro h hl)
  clear h hl
  go_enter Tryz.func103, Tryz.ntmps103
  go_wp2_with fail
  go_loopg [8] l.length (fun g i wr => ∃ k : Nat, k ≤ l.length ∧ g = l.length - k ∧ i = .int .i64 k ∧ wr = w ∧ RowKit.Hid (∀ j (hj : j < l.length), j < k → l[j] ≠ v))
  case atStart => exact ⟨0, by omega, by omega, rfl, rfl, fun j hj h => absurd h (Nat.not_lt_zero _)⟩
  case round =>
    obtain ⟨k, hk, rfl, rfl, rfl, HR⟩ := hrel
    by_cases hlt : k < l.length
    · have j1 : (k : Int) < l.length := by omega
      have j0 : (0 : Int) ≤ k := by omega
      obtain ⟨b, off, ha, p0⟩ := HX.out.1 k hlt
      subst ha
      by_cases he : l[k] = v
      · have HE := Lib.hid (idxS_hit hlt he HR.out)
        have hg : (v.toList == l[k].toList) = true := by rw [text_beq]; exact decide_eq_true he.symm
        generalize l[k] = y at *
        clear he
        go_wp2_with fail
        go_ret
        rw [HE.out]
        exact ⟨rfl, rfl⟩
      · have hg : (v.toList == l[k].toList) = false := by rw [text_beq]; exact decide_eq_false fun h => he h.symm
        have HN := Lib.hid (show ∀ j (hj : j < l.length), j < k + 1 → l[j] ≠ v from fun j hj h1 => by
          by_cases h3 : j < k
          · exact HR.out j hj h3
          · obtain rfl : j = k := by omega
            exact he)
        have HM := Lib.hid hlt
        generalize l[k] = y at *
        clear he hlt hk
        go_wp2_with fail
        go_roundg (l.length - (k + 1))
        case measure => have := HM.out; omega
        case rel => exact ⟨k + 1, HM.out, rfl, by simp, rfl, HN.out⟩
    · have HE := Lib.hid (idxS_miss fun j hj => HR.out j hj (by omega))
      have j1 : ¬ (k : Int) < l.length := by omega
      clear hlt hk
      go_wp2_with fail
      go_ret
      rw [HE.out]
      exact ⟨rfl, rfl⟩
def hasE (l : List ByteArray) : Bool := l.any fun x => decide (x.size = 0)
theorem hasE_idx (l : List ByteArray) : decide (0 ≤ idxS l noText) = hasE l := by
  unfold idxS hasE
  cases hf : l.findIdx? fun c => decide (c = noText) with
  | some i =>
    have h := List.findIdx?_eq_some_iff_getElem.1 hf
    have h1 : l[i]'h.1 = noText := by obtain ⟨_, h2, _⟩ := h; simpa using h2
    have : l.any (fun x => decide (x.size = 0)) = true := List.any_eq_true.2 ⟨l[i]'h.1, List.getElem_mem _, by rw [h1]; rfl⟩
    rw [this]
    simp
  | none =>
    have h := List.findIdx?_eq_none_iff.1 hf
    have : l.any (fun x => decide (x.size = 0)) = false := by
      rw [List.any_eq_false]
      intro x hx
      have h1 := h x hx
      simp only [decide_eq_false_iff_not] at h1
      simp only [decide_eq_true_eq]
      intro h2
      apply h1
      apply ByteArray.ext
      apply Array.toList_inj.1
      exact List.length_eq_zero_iff.1 h2
    rw [this]
    rfl
theorem containsE_any (w : World) (a : Option Addr) (c : Nat) (l : List ByteArray) (h : CellsS w a l) (hl : l.length ≤ 1073741824) :
    Calls Tryz.prog 105 #[.slice a l.length c, .string ⟨#[]⟩] w fun e w' => e = .returned (.bool (hasE l)) ∧ w' = w := by
  have hi := indexS_any w a c l ⟨#[]⟩ h hl
  have he := hasE_idx l
  unfold noText at he
  generalize idxS l ⟨#[]⟩ = x at *
  clear h hl
  go_enter Tryz.func105, Tryz.ntmps105
  go_wp2_with (go_at_call 103; refine hi.mono ?_; clear hi; rintro e w8 ⟨rfl, rfl⟩)
  go_ret
  exact ⟨rfl, rfl⟩
def preB (p s : ByteArray) : Bool := decide (p.size ≤ s.size) && decide (s.extract 0 p.size = p)
set_option maxRecDepth 10000 in
set_option maxHeartbeats 4000000 in
theorem prefix_lite (s p : ByteArray) (hs : s.size ≤ 1073741824) (hp : p.size ≤ 1073741824) (w : World) : Calls Tryz.prog 188 #[.string s, .string p] w fun e w' => e = .returned (.bool (preB p s)) ∧ w' = w := by
  have j1 : (s.size : Int) ≤ 1073741824 := by omega
  have j2 : (p.size : Int) ≤ 1073741824 := by omega
  have j0 : (0 : Int) ≤ p.size := by omega
  by_cases h : p.size ≤ s.size
  · have j3 : (p.size : Int) ≤ s.size := by omega
    obtain ⟨b, hb⟩ : ∃ b, preB p s = b := ⟨_, rfl⟩
    rw [hb]
    have hg : ((s.extract 0 p.size).toList == p.toList) = b := by rw [text_beq, ← hb]; unfold preB; simp [h]
    clear hb h hs hp
    go_enter Tryz.func188, Tryz.ntmps188
    go_wp2_with fail
    go_ret
    first | exact ⟨rfl, rfl⟩ | exact ⟨congrArg (fun b => Ending.returned (Value.bool b)) hg, rfl⟩
  · have j3 : (s.size : Int) < p.size := by omega
    have hb : preB p s = false := by unfold preB; simp; omega
    rw [hb]
    clear hb h hs hp
    go_enter Tryz.func188, Tryz.ntmps188
    go_wp2_with fail
    go_ret
    exact ⟨rfl, rfl⟩
theorem cutPre_lite (s p : ByteArray) (hs : s.size ≤ 1073741824) (hp : p.size ≤ 1073741824) (w : World) : Calls Tryz.prog 152 #[.string s, .string p] w fun e w' => e = .returned (.tuple #[.string (if preB p s = true then s.extract p.size s.size else s), .bool (preB p s)]) ∧ w' = w := by
  have hc := prefix_lite s p hs hp w
  have j1 : (s.size : Int) ≤ 1073741824 := by omega
  have j2 : (p.size : Int) ≤ 1073741824 := by omega
  have j0 : (0 : Int) ≤ p.size := by omega
  cases hb : preB p s with
  | true =>
    have j3 : (p.size : Int) ≤ s.size := by
      unfold preB at hb
      simp only [Bool.and_eq_true, decide_eq_true_eq] at hb
      omega
    rw [hb] at hc
    simp only [if_true]
    clear hb hs hp
    go_enter Tryz.func152, Tryz.ntmps152
    go_wp2_with (go_at_call 188; refine hc.mono ?_; clear hc; rintro e w8 ⟨rfl, rfl⟩)
    go_ret2
    exact ⟨rfl, rfl⟩
  | false =>
    rw [hb] at hc
    simp only [Bool.false_eq_true, if_false]
    clear hb hs hp
    go_enter Tryz.func152, Tryz.ntmps152
    go_wp2_with (go_at_call 188; refine hc.mono ?_; clear hc; rintro e w8 ⟨rfl, rfl⟩)
    go_ret2
    exact ⟨rfl, rfl⟩
theorem cutPre_any (s p : ByteArray) (hs : s.size ≤ 1073741824) (hp : p.size ≤ 1073741824) (w : World) : Calls Tryz.prog 104 #[.string s, .string p] w fun e w' => e = .returned (.tuple #[.string (if preB p s = true then s.extract p.size s.size else s), .bool (preB p s)]) ∧ w' = w := by
  have hc := cutPre_lite s p hs hp w
  generalize (if preB p s = true then s.extract p.size s.size else s) = t at *
  generalize preB p s = b at *
  clear hs hp
  go_enter Tryz.func104, Tryz.ntmps104
  go_wp2_with (go_at_call 152; refine hc.mono ?_; clear hc; rintro e w8 ⟨rfl, rfl⟩)
  go_ret2
  exact ⟨rfl, rfl⟩
end Go.Proofs.YtfgdnakfikpmpaaGreatDoor
namespace Go.Proofs.YtfgdnakfikpmpaaGreatDoor
open Go Go.RowKit Go.Deep
theorem pcs_cut (c : UInt8) (s : ByteArray) : pcsAt c s = cutT' c s := splitB_cut c s
theorem row_cells {w : World} {b : Nat} {L : List ByteArray} {e : TypeId} (h : w.heap[b]? = some (.cells (L.map Value.string).toArray e (0, 0))) : CellsS w (some ⟨b, 0, none⟩) L := fun j hj =>
  ⟨b, 0, rfl, by rw [Nat.zero_add]; exact row_str h j hj⟩
theorem row_rd {w : World} {S : Nat → Prop} {b : Nat} {L : List ByteArray} {e : TypeId} (h : w.heap[b]? = some (.cells (L.map Value.string).toArray e (0, 0))) (hS : S b) (hs : ∀ x ∈ L, x.size ≤ 9223372036854775807) (hl : L.length ≤ 9223372036854775807) : Rd (.slice .str) w S [.slice (some ⟨b, 0, none⟩) L.length L.length] L :=
  ⟨some ⟨b, 0, none⟩, L.length, rfl, Nat.le_refl _, by rw [maxLen_is]; exact hl, (fun e => by cases e), fun i hi => ⟨b, 0, [.string L[i]], rfl, blk_lt h, hS, rfl, fun j hj => by
    have hj0 : j = 0 := by simp at hj; omega
    subst hj0
    refine ⟨?_, by simpa using blk_fro h _⟩
    have := row_str h i hi
    simpa [Sh.size] using this, ⟨rfl, by rw [maxLen_is]; exact hs _ (List.getElem_mem hi)⟩⟩⟩
theorem preB_pre (p s : ByteArray) : preB p s = hasPre p.data.toList s := by
  unfold preB hasPre
  have e1 : (s.extract 0 p.size).data.toList = s.data.toList.take p.size := by simp [ByteArray.data_extract]
  have e2 : p.data.toList.length = p.size := rfl
  have e3 : s.data.toList.length = s.size := rfl
  rw [e2]
  by_cases h : p.size ≤ s.size
  · rw [decide_eq_true h, Bool.true_and, decide_eq_decide]
    constructor
    · intro e; rw [← e1, e]
    · intro e
      apply ByteArray.ext
      apply Array.toList_inj.1
      rw [e1, e]
  · rw [decide_eq_false h, Bool.false_and]
    symm
    rw [decide_eq_false_iff_not]
    intro e
    have := congrArg List.length e
    rw [List.length_take, e2, e3] at this
    omega
theorem hasE_all (l : List ByteArray) : (!hasE l) = l.all fun x => decide (0 < x.size) := by
  unfold hasE
  rw [List.not_any_eq_all_not]
  congr 1
  funext x
  by_cases h : x.size = 0 <;> simp [h] <;> omega
def GivesTm (w : World) (r : List ByteArray × Bool × Bool) (e : Ending) (w' : World) : Prop :=
  ∃ a c, e = .returned (.tuple #[.slice a r.1.length c, .bool r.2.1, .bool r.2.2]) ∧ RowKit.Hid (Keep No w w' ∧ Rd (.slice .str) w' (Fr w.heap.size w'.heap.size) [.slice a r.1.length c] r.1)
set_option maxRecDepth 10000 in
set_option maxHeartbeats 4000000 in
theorem templates_any (s word : ByteArray) (hs : s.size ≤ 1073741000) (hw : word.size ≤ 100) (w : World) : Calls Tryz.prog 57 #[.string s, .string word] w (GivesTm w (tmplsT word.data.toList s)) := by
  obtain ⟨r, hr⟩ : ∃ r, tmplsT word.data.toList s = r := ⟨_, rfl⟩
  rw [hr]
  unfold tmplsT at hr
  have e0 : (word ++ ⟨#[32]⟩).data.toList = word.data.toList ++ [32] := by simp
  have hp := preB_pre (word ++ ⟨#[32]⟩) s
  rw [e0] at hp
  have hsz : (word ++ (⟨#[32]⟩ : ByteArray)).size = word.size + 1 := by rw [ByteArray.size_append]; rfl
  have hcp := cutPre_any s (word ++ ⟨#[32]⟩) (by omega) (by rw [hsz]; omega) w
  have hc : ¬ 9223372036854775807 < word.size + 1 := by omega
  rw [hp, hsz] at hcp
  have hlen : word.data.toList.length = word.size := rfl
  rw [hlen] at hr
  obtain ⟨bp, hbp⟩ : ∃ b, hasPre (word.data.toList ++ [32]) s = b := ⟨_, rfl⟩
  rw [hbp] at hr hcp
  clear hp hsz hlen hbp
  cases bp with
  | false =>
    rw [if_pos rfl] at hr
    subst hr
    simp only [Bool.false_eq_true, if_false] at hcp
    clear e0 hs hw
    go_enter Tryz.func57, Tryz.ntmps57
    go_wp2_with (go_at_call 104; refine hcp.mono ?_; clear hcp; rintro e w8 ⟨rfl, rfl⟩)
    go_ret3
    exact ⟨none, 0, rfl, Keep.refl _ _, rd_nilS _ _⟩
  | true =>
    rw [if_neg (by decide)] at hr
    simp only [if_true] at hcp
    obtain ⟨t, ht⟩ : ∃ t, s.extract (word.size + 1) s.size = t := ⟨_, rfl⟩
    rw [ht] at hr hcp
    have hts : t.size ≤ 1073741000 := by rw [← ht, ByteArray.size_extract]; omega
    have hsp := splitC_any t 32 (by omega) w
    have hbd := pcs_bd 32 t
    unfold wordsT at hr
    rw [← pcs_cut] at hr
    obtain ⟨L, hL⟩ : ∃ L, pcsAt 32 t = L := ⟨_, rfl⟩
    rw [hL] at hr hsp hbd
    have hrow := blk_new w (.cells (L.map Value.string).toArray 9)
    have hct := containsE_any (w.alloc (.cells (L.map Value.string).toArray 9)) _ L.length L (row_cells hrow) (by omega)
    have hrd := row_rd (S := Fr w.heap.size (w.heap.size + 1)) hrow ⟨Nat.le_refl _, Nat.lt_succ_self _⟩ (fun x hx => by have := hbd.2.2 x hx; omega) (by omega)
    rw [← hasE_all] at hr
    subst hr
    have HX := Lib.hid (And.intro hrd ((Keep.refl No w).alloc (.cells (L.map Value.string).toArray 9)))
    clear hrd hrow hbd hL hts ht e0 hs hw
    generalize hasE L = be at *
    go_enter Tryz.func57, Tryz.ntmps57
    go_wp2_with (first | (go_at_call 104; refine hcp.mono ?_; clear hcp; rintro e w8 ⟨rfl, rfl⟩) | (go_at_call 55; refine hsp.mono ?_; clear hsp; rintro e w8 ⟨rfl, rfl⟩) | (go_at_call 105; refine hct.mono ?_; clear hct; rintro e w8 ⟨rfl, rfl⟩))
    go_ret3
    exact ⟨_, _, rfl, HX.out.2, by simpa using HX.out.1⟩
end Go.Proofs.YtfgdnakfikpmpaaGreatDoor
namespace Go.Proofs.YtfgdnakfikpmpaaGreatDoor
open Go Go.RowKit Go.Deep
def kindsL : List ByteArray := [⟨#[]⟩, ⟨#[105, 110, 116]⟩, ⟨#[116, 101, 120, 116]⟩, ⟨#[97, 110, 121]⟩]
def KindsW (w : World) : Prop := CellsS w (some ⟨0, 0, none⟩) kindsL
theorem KindsW.keep {w w' : World} {M : Nat → Prop} (h : KindsW w) (hk : Keep M w w') (hM : ¬ M 0) : KindsW w' := fun j hj => by
  obtain ⟨b, off, e, hc⟩ := h j hj
  simp only [Option.some.injEq, Addr.mk.injEq, and_true] at e
  obtain ⟨rfl, rfl⟩ := e
  exact ⟨_, _, rfl, (hk.cell (World.block_lt_of_cell? _ _ hc) hM).trans hc⟩
theorem ba_iff {s : ByteArray} {l : List UInt8} : s = ⟨l.toArray⟩ ↔ s.data.toList = l := by
  constructor
  · rintro rfl; simp
  · intro h; exact ba_eq h
theorem kind_idx (s : ByteArray) : (idxS kindsL s < 1 ↔ kindOf s = 0) ∧ (¬ idxS kindsL s < 1 → idxS kindsL s = kindOf s) := by
  have h0 : ∀ (l : List UInt8), ((⟨l.toArray⟩ : ByteArray) = s) = (s.data.toList = l) := fun l => propext ⟨fun h => by rw [← h], fun h => (ba_eq h).symm⟩
  have e0 := h0 []
  have e1 := h0 [105, 110, 116]
  have e2 := h0 [116, 101, 120, 116]
  have e3 := h0 [97, 110, 121]
  have hk : kindsL.findIdx? (fun c => decide (c = s)) = if s.data.toList = [] then some 0 else if s.data.toList = [105, 110, 116] then some 1 else if s.data.toList = [116, 101, 120, 116] then some 2 else if s.data.toList = [97, 110, 121] then some 3 else none := by
    unfold kindsL
    simp only [List.findIdx?_cons, List.findIdx?_nil]
    simp only [e0, e1, e2, e3]
    by_cases g0 : s.data.toList = []
    · simp [g0]
    · by_cases g1 : s.data.toList = [105, 110, 116]
      · simp [g1]
      · by_cases g2 : s.data.toList = [116, 101, 120, 116]
        · simp [g2]
        · by_cases g3 : s.data.toList = [97, 110, 121]
          · simp [g3]
          · simp [g0, g1, g2, g3]
  unfold idxS kindOf
  rw [hk]
  have k1 : kindW 1 = [105, 110, 116] := rfl
  have k2 : kindW 2 = [116, 101, 120, 116] := rfl
  have k3 : kindW 3 = [97, 110, 121] := rfl
  rw [k1, k2, k3]
  by_cases g0 : s.data.toList = []
  · simp [g0]
  · by_cases g1 : s.data.toList = [105, 110, 116]
    · simp [g1]
    · by_cases g2 : s.data.toList = [116, 101, 120, 116]
      · simp [g2]
      · by_cases g3 : s.data.toList = [97, 110, 121]
        · simp [g3]
        · simp [g0, g1, g2, g3]
def OwnI (lo : Nat) (w : World) (v : Value) (l : List Int) : Prop := Own (.int .i64) 3 w (Fr lo w.heap.size) v l
theorem OwnI.app {lo : Nat} {w : World} {v : Value} {l : List Int} (h : OwnI lo w v l) (hlo : lo ≤ w.heap.size) (x : Int) (h0 : (Lit.int .i64 x).wf = true) (hl : l.length ≤ 1073741825) :
    ∃ a c w', (Builtin.append_ #[22, 22] 22 #[v, .slice (some ⟨w.heap.size, 0, none⟩) 1 1]).run Tryz.prog (w.alloc (.cells #[.int .i64 x] 3)) = .ok (.slice a (l.length + 1) c) w' ∧ OwnI lo w' (.slice a (l.length + 1) c) (l ++ [x]) ∧ Keep (Fr lo w.heap.size) w w' := by
  obtain ⟨i0, hi, hz0, hz1, hz2⟩ := info_parts Tryz.infoClI
  have h1 : Own (.int .i64) 3 (w.alloc (.cells #[.int .i64 x] 3)) (Fr lo w.heap.size) v l := Own.agree h ((Keep.refl No w).alloc _).agreeNo
  obtain ⟨a, c, w', hr, ho, hk, hs⟩ := Own.append (P := Tryz.prog) (T := No) h1 22 22 i0 _ 8 Tryz.underlying22 hi hz0 hz1 hz2 rfl (blk_new w _) (x := x) ⟨by simp, h0⟩ (fun k _ x => x) (by omega) (by omega) 1
  have hsz := hk.size
  simp only [World.size_alloc] at hsz
  refine ⟨a, c, w', hr, Own.mono ho.live fun k hk' => ?_, ((Keep.refl _ w).alloc _).then hk fun i _ hi => hi⟩
  obtain ⟨h1 | h1 | h1, h2⟩ := hk'
  · exact ⟨h1.1, h2⟩
  · exact h1.elim
  · simp only [World.size_alloc] at h1; exact ⟨by omega, h2⟩
theorem OwnI.keep {lo : Nat} {w w' : World} {v : Value} {l : List Int} (h : OwnI lo w v l) {M : Nat → Prop} (hk : Keep M w w') (hM : ∀ i, lo ≤ i → ¬ M i) : OwnI lo w' v l :=
  Own.mono (Own.agree h (hk.agree fun i _ hi hm => hM i hi.1 hm)) fun k hk' => ⟨hk'.1, Nat.lt_of_lt_of_le hk'.2 hk.size⟩
def PrAt (w : World) (P lo : Nat) (nm : ByteArray) (dep : Bool) (ks : List Int) : Prop :=
  ∃ v, w.heap[P]? = some (.cells #[.string nm, v, .bool dep, .slice none 0 0, .slice none 0 0, .int .i64 0, .slice none 0 0, .slice none 0 0] 29 (0, 0)) ∧ OwnI lo w v ks
def MayP (P lo : Nat) : Nat → Prop := fun k => k = P ∨ lo ≤ k
theorem PrAt.look {w : World} {P lo : Nat} {nm : ByteArray} {dep : Bool} {ks : List Int} (h : PrAt w P lo nm dep ks) (hP : P < lo) (hlo : lo ≤ w.heap.size) (hl : ks.length ≤ 1073741825) (x : Int) (hx : (Lit.int .i64 x).wf = true) :
    ∃ a c a' c' w2, w.cell? ⟨P, 1, none⟩ = some (.slice a ks.length c) ∧ (Builtin.append_ #[22, 22] 22 #[.slice a ks.length c, .slice (some ⟨w.heap.size, 0, none⟩) 1 1]).run Tryz.prog (w.alloc (.cells #[.int .i64 x] 3)) = .ok (.slice a' (ks.length + 1) c') w2 ∧
      w2.cell? ⟨P, 1, none⟩ = some (.slice a ks.length c) ∧ w2.frozen? ⟨P, 1, none⟩ = false ∧ PrAt (w2.setCell ⟨P, 1, none⟩ (.slice a' (ks.length + 1) c')) P lo nm dep (ks ++ [x]) ∧ Keep (MayP P lo) w (w2.setCell ⟨P, 1, none⟩ (.slice a' (ks.length + 1) c')) := by
  obtain ⟨v, h1, h2⟩ := h
  obtain ⟨a, c, rfl, -⟩ := Own.form h2
  obtain ⟨a', c', w2, hr, ho, hk⟩ := h2.app hlo x hx hl
  have h3 := hk.blk h1 (fun hh => by have := hh.1; omega)
  refine ⟨a, c, a', c', w2, (blk_cell h1 1).trans rfl, hr, (blk_cell h3 1).trans rfl, blk_fro h3 1, ⟨_, by simpa using blk_set h3 1 (.slice a' (ks.length + 1) c'), ho.keep (keep_set w2 P 1 _) (fun k hk e => by have : k = P := e; omega)⟩, ?_⟩
  exact (hk.mono fun k _ hh => .inr hh.1).then (keep_set w2 P 1 _) (fun k _ e => .inl e)
def GivesHd (w : World) (r : Option Prc) (e : Ending) (w' : World) : Prop :=
  match r with
  | none => e = .returned (.tuple #[.agg #[.string ⟨#[]⟩, .slice none 0 0, .bool false, .slice none 0 0, .slice none 0 0, .int .i64 0, .slice none 0 0, .slice none 0 0], .bool false]) ∧ RowKit.Hid (Keep No w w')
  | some p => ∃ a c, e = .returned (.tuple #[.agg #[.string p.name, .slice a p.kinds.length c, .bool p.dep, .slice none 0 0, .slice none 0 0, .int .i64 0, .slice none 0 0, .slice none 0 0], .bool true]) ∧
      RowKit.Hid (Keep No w w' ∧ Rd (.slice (.int .i64)) w' (Fr w.heap.size w'.heap.size) [.slice a p.kinds.length c] p.kinds)
theorem headS_none1 {s : ByteArray} {L : List ByteArray} (hL : wordsT s = L) (h : L.length < 2 ∨ isW (L.getD 0 noText) procW = false ∨ nameOk (L.getD 1 noText) = false) : headS s = none := by
  unfold headS
  rw [hL, if_pos h]
theorem headS_some {s : ByteArray} {L : List ByteArray} (hL : wordsT s = L) (h : ¬ (L.length < 2 ∨ isW (L.getD 0 noText) procW = false ∨ nameOk (L.getD 1 noText) = false)) :
    headS s = if (headK (L.drop 2)).1.all (fun x => decide (kindOf x ≠ 0)) = true then some (mkPrc (L.getD 1 noText) ((headK (L.drop 2)).1.map kindOf) (headK (L.drop 2)).2 [] [] pgm0) else none := by
  unfold headS
  rw [hL, if_neg h]
theorem isW_beq (s : ByteArray) (l : List UInt8) : (s.toList == l) = isW s l := by
  unfold isW
  have := text_beq s ⟨l.toArray⟩
  rw [show ((⟨l.toArray⟩ : ByteArray).toList) = l by simp [ByteArray.toList_eq]] at this
  rw [this, decide_eq_decide]
  exact ba_iff
end Go.Proofs.YtfgdnakfikpmpaaGreatDoor
