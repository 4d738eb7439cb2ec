/-
  Parts of what is proved for this claim; each declaration is one of the seat's texts.
-/
import Derived.Test.YtfgdnakfikpmpaaGreatDoorFPE
set_option linter.unusedVariables false
set_option linter.unusedSimpArgs false
namespace Go.Proofs.YtfgdnakfikpmpaaGreatDoor
open Go Go.RowKit Go.Deep
def runP (code : List Ins) : Nat → List Int → List Bool → (Int × Int) ⊕ List Int
  | 0, D, _ => .inr D
  | f + 1, D, L => match nextP code.length D L with
    | none => .inr D
    | some k => match lookP code D k with
      | .inl x => .inl x
      | .inr D' => runP code f D' (L.set k true)
def dep0 : List Int := (List.replicate 256 (-1)).set 0 0
def lk0 : List Bool := List.replicate 256 false
def pgmR : (Int × Int) ⊕ List Int → Int × Int
  | .inl x => x
  | .inr _ => (0, 0)
def pgmE (args : Int) (consts : List Val) (code : List Ins) : Int × Int :=
  if (formL args consts code).1 ≠ 0 then formL args consts code else pgmR (runP code 257 dep0 lk0)
theorem fill_set {α : Type} (a b : α) (k : Nat) (h : k < 256) : (List.replicate k a ++ List.replicate (256 - k) b).set k a = List.replicate (k + 1) a ++ List.replicate (256 - (k + 1)) b := by
  obtain ⟨m, hm⟩ : ∃ m, 256 - k = m + 1 := ⟨255 - k, by omega⟩
  have h2 : 256 - (k + 1) = m := by omega
  rw [hm, h2, List.replicate_succ (n := m), List.set_append, if_neg (by simp), List.length_replicate, Nat.sub_self, List.set_cons_zero, List.replicate_succ' (n := k), List.append_assoc]
  rfl
theorem mem_set_bd {D : List Int} {t : Nat} {x : Int} (hD : ∀ d ∈ D, -1 ≤ d ∧ d ≤ 32) (h0 : -1 ≤ x) (h1 : x ≤ 32) : ∀ d ∈ D.set t x, -1 ≤ d ∧ d ≤ 32 := fun d hd => by
  rcases List.mem_or_eq_of_mem_set hd with h | h
  · exact hD d h
  · subst h; exact ⟨h0, h1⟩
theorem leadsP_bd {n : Nat} {D D' : List Int} {f t : Nat} {x : Int} (hD : ∀ d ∈ D, -1 ≤ d ∧ d ≤ 32) (h0 : -1 ≤ x) (h1 : x ≤ 32) (h : leadsP n D f t x = .inr D') : ∀ d ∈ D', -1 ≤ d ∧ d ≤ 32 := by
  unfold leadsP at h
  split at h
  · cases h
  · split at h
    · cases h; exact mem_set_bd hD h0 h1
    · split at h
      · cases h
      · cases h; exact hD
theorem lookP_bd {code : List Ins} {D D' : List Int} {k : Nat} (hD : ∀ d ∈ D, -1 ≤ d ∧ d ≤ 32) (h : lookP code D k = .inr D') : ∀ d ∈ D', -1 ≤ d ∧ d ≤ 32 := by
  unfold lookP at h
  simp only at h
  generalize hi : code.getD k (0, 0, ()) = i at h
  have hs := opAt_small i.1
  by_cases hA : D.getD k 0 < (opAt i.1).2.2.1 ∨ 32 < D.getD k 0 - (opAt i.1).2.2.1 + (opAt i.1).2.2.2
  · rw [if_pos hA] at h; cases h
  · rw [if_neg hA] at h
    have b0 : -1 ≤ D.getD k 0 - (opAt i.1).2.2.1 + (opAt i.1).2.2.2 := by omega
    have b1 : D.getD k 0 - (opAt i.1).2.2.1 + (opAt i.1).2.2.2 ≤ 32 := by omega
    split at h
    · cases h; exact hD
    · split at h
      · exact leadsP_bd hD b0 b1 h
      · split at h
        · cases hl : leadsP code.length D k (k + 1) (D.getD k 0 - (opAt i.1).2.2.1 + (opAt i.1).2.2.2) with
          | inl x => rw [hl] at h; cases h
          | inr D1 =>
            rw [hl] at h
            exact leadsP_bd (leadsP_bd hD b0 b1 hl) b0 b1 h
        · exact leadsP_bd hD b0 b1 h
theorem count_set {L : List Bool} {k : Nat} (hk : k < L.length) (h : L[k] = false) : (L.set k true).count false + 1 = L.count false := by
  induction L generalizing k with
  | nil => cases hk
  | cons a L ih =>
    cases k with
    | zero =>
      simp only [List.getElem_cons_zero] at h
      subst h
      simp [List.count_cons]
    | succ k =>
      simp only [List.getElem_cons_succ] at h
      have := ih (by simpa using hk) h
      simp only [List.set_cons_succ, List.count_cons]
      omega
theorem nextP_spec {n k : Nat} {D : List Int} {L : List Bool} (h : nextP n D L = some k) : k < n ∧ L.getD k false = false := by
  have h1 := List.find?_range_eq_some.1 h
  refine ⟨List.mem_range.1 h1.2.1, ?_⟩
  have := h1.1
  simp only [okN, Bool.and_eq_true, Bool.not_eq_true'] at this
  exact this.2
def GivesFd (w : World) (x : Int × Int) (e : Ending) (w' : World) : Prop := (∃ v, e = .returned (.tuple #[v, .int .i64 x.1, .int .i64 x.2])) ∧ Keep No w w'
theorem pgmE_form {args : Int} {consts : List Val} {code : List Ins} (h : (formL args consts code).1 = 0) : pgmE args consts code = pgmR (runP code 257 dep0 lk0) := by
  unfold pgmE
  rw [if_neg (fun x => x h)]
theorem formL_ok {args : Int} {consts : List Val} {code : List Ins} (h : (formL args consts code).1 = 0) : (0 ≤ args ∧ args ≤ 8) ∧ consts.length ≤ 32 ∧ (1 ≤ code.length ∧ code.length ≤ 256) ∧ (∀ v ∈ consts, badC v = false) ∧ ∀ i ∈ code, badI args consts.length code.length i = false := by
  unfold formL at h
  split at h
  · cases h
  · split at h
    · cases h
    · split at h
      · cases h
      · rename_i hn
        split at h
        · cases h
        · split at h
          · simp only at h; split at h <;> cases h
          · rename_i hi
            refine ⟨by omega, by omega, by omega, fun v hv => ?_, fun i hi' => ?_⟩
            · simpa using List.findIdx?_eq_none_iff.1 hn v hv
            · simpa using List.findIdx?_eq_none_iff.1 hi i hi'
theorem leadsP_err {n : Nat} {D : List Int} {f t : Nat} {x : Int} {r : Int × Int} (h : leadsP n D f t x = .inl r) : r.1 ≠ 0 := by
  unfold leadsP at h
  split at h
  · cases h; exact (by decide : ((57 : Int)) ≠ 0)
  · split at h
    · cases h
    · split at h
      · cases h; exact (by decide : ((56 : Int)) ≠ 0)
      · cases h
theorem lookP_err {code : List Ins} {D : List Int} {k : Nat} {r : Int × Int} (h : lookP code D k = .inl r) : r.1 ≠ 0 := by
  unfold lookP at h
  simp only at h
  split at h
  · cases h; exact (by decide : ((55 : Int)) ≠ 0)
  · split at h
    · cases h
    · split at h
      · exact leadsP_err h
      · split at h
        · split at h
          · rename_i hl; cases h; exact leadsP_err hl
          · exact leadsP_err h
        · exact leadsP_err h
theorem runP_err {code : List Ins} : ∀ (f : Nat) {D : List Int} {L : List Bool} {r : Int × Int}, runP code f D L = .inl r → r.1 ≠ 0
  | 0, D, L, r, h => by cases h
  | f + 1, D, L, r, h => by
    unfold runP at h
    split at h
    · cases h
    · split at h
      · rename_i hl; cases h; exact lookP_err hl
      · exact runP_err f h
theorem pgmE_zero {args : Int} {consts : List Val} {code : List Ins} (h : (pgmE args consts code).1 = 0) : pgmE args consts code = (0, 0) ∧ (formL args consts code).1 = 0 := by
  have hf : (formL args consts code).1 = 0 := Classical.byContradiction fun hn => by
    unfold pgmE at h
    rw [if_pos hn] at h
    exact hn h
  refine ⟨?_, hf⟩
  rw [pgmE_form hf] at h ⊢
  cases hr : runP code 257 dep0 lk0 with
  | inl x => rw [hr] at h; exact absurd h (runP_err _ hr)
  | inr D => rfl
theorem pgmE_len {args : Int} {consts : List Val} {code : List Ins} (h : pgmE args consts code = (0, 0)) : consts.length ≤ 32 ∧ code.length ≤ 256 := by
  have := formL_ok (pgmE_zero (by rw [h])).2
  exact ⟨this.2.1, this.2.2.1.2⟩
theorem Tryz.zeroCk (x0 x1 x2 : Value) : ((Tryz.zeroCells231.setIfInBounds 0 x0).setIfInBounds 1 x1).setIfInBounds 2 x2 = (ckCells [x0, x1, x2] (List.replicate 256 0) lk0).toArray := by kernel_rfl
theorem form_nat {args : Int} {consts : List Val} {code : List Ins} (h : (formL args consts code).1 = 0) (k : Nat) (hk : k < code.length) : 0 ≤ (code[k]'hk).2.1 := by
  have := (formL_ok h).2.2.2.2 _ (List.getElem_mem hk)
  simp only [badI, Bool.or_eq_false_iff, Bool.not_eq_false', fitsB, Bool.and_eq_true, decide_eq_true_eq] at this
  exact this.2.1
def cutAt (D : List Int) (n : Nat) : List Int := D.take n
theorem depths_rd {w : World} {b : Nat} {cs : List Value} {D : List Int} {L : List Bool} (h : CkG w b cs D L) (hD : ∀ d ∈ D, -1 ≤ d ∧ d ≤ 32) (n : Nat) (hn : n ≤ 256) : Rd (.slice (.int .i64)) w (One b) [.slice (some ⟨b, 3, none⟩) n 256] (cutAt D n) := by
  have hd := h.d
  have hl : (cutAt D n).length = n := by unfold cutAt; rw [List.length_take]; omega
  refine ⟨some ⟨b, 3, none⟩, 256, by rw [hl], by omega, by rw [maxLen_is]; omega, (fun h => by cases h), fun i hi => ?_⟩
  rw [hl] at hi
  have hg : (cutAt D n)[i]'(by rw [hl]; exact hi) = D[i]'(by omega) := by unfold cutAt; rw [List.getElem_take]
  refine ⟨b, 3, [.int .i64 (D[i]'(by omega))], rfl, h.lt, rfl, rfl, fun j hj => ?_, by rw [hg], ?_⟩
  · have : j = 0 := by simp at hj; omega
    subst this
    have h1 := h.depth i (by omega)
    have h2 := blk_fro h.blk (3 + i)
    simpa [Sh.size] using And.intro h1 h2
  · rw [hg]
    have := hD _ (List.getElem_mem (show i < D.length by omega))
    exact wf_i64q (by omega) (by omega)
end Go.Proofs.YtfgdnakfikpmpaaGreatDoor
namespace Go.Proofs.YtfgdnakfikpmpaaGreatDoor
open Go Go.RowKit Go.Deep
def GivesP0 (w : World) (e : Ending) (w' : World) : Prop := e = .returned (.tuple #[.slice none 0 0, .bool false]) ∧ RowKit.Hid (Keep No w w')
theorem keyOk_oneB {s : ByteArray} {k : Nat} {hk : k < s.size} {hl : k < (bytesOf s).length} (hg : (bytesOf s)[k] = s[k].toNat) : keyOk ⟨#[s[k]]⟩ = keyC (bytesOf s)[k] := by
  have : bytesOf ⟨#[s[k]]⟩ = [(s[k].toNat : Int)] := rfl
  unfold keyOk
  rw [this, ← hg, List.all_cons]
  show ((keyC (bytesOf s)[k] && true) && decide (1 ≤ 1) && decide (1 ≤ 32)) = _
  simp
set_option maxRecDepth 10000 in
set_option maxHeartbeats 4000000 in
theorem cut_none (t : ByteArray) (hn : cutT t = none) (w : World) : Calls Tryz.prog 70 #[.string t] w (GivesP0 w) := by
  have k0 := Keep.refl No w
  have HK0 := Lib.hid k0
  clear k0
  by_cases hz : t.size = 0
  · have e0 : t.toList = [] := by
      have : t.data.toList.length = 0 := by simpa using hz
      rw [ByteArray.toList_eq]
      exact List.length_eq_zero_iff.1 this
    have e1 : t.toList.isEmpty = true := by rw [e0]; rfl
    clear hn hz e0
    go_enter Tryz.func70, Tryz.ntmps70
    go_wp2_with fail
    go_ret2
    exact ⟨rfl, HK0.out⟩
  · have e0 : ¬ t.toList = [] := fun e => by
      simp only [ByteArray.toList_eq] at e
      have hz' : t.size = 0 := by
        have : t.data.toList.length = 0 := by rw [e]; rfl
        simpa using this
      exact hz hz'
    have e1 : t.toList.isEmpty = false := by simpa using e0
    by_cases h64 : 64 < t.size
    · have i64 : (64 : Int) < t.size := by omega
      clear hn hz h64
      go_enter Tryz.func70, Tryz.ntmps70
      go_wp2_with fail
      go_ret2
      exact ⟨rfl, HK0.out⟩
    · have hbl := bytesOf_length t
      rw [cutT_some (by omega) (by omega)] at hn
      have i64 : ¬ (64 : Int) < t.size := by omega
      have HC := Lib.hid (And.intro hbl (And.intro h64 hn))
      clear hn hbl h64 hz
      go_enter Tryz.func70, Tryz.ntmps70
      go_wp2_with fail
      go_loopg [4, 5] t.size (fun g s i wr => ∃ (k : Nat) (v : Value) (out : List Prt), k ≤ t.size ∧ g = t.size - k ∧ s = v ∧ i = .int .i64 k ∧ RowKit.Hid (CutTo (bytesOf t) k out ∧ OwnP w.heap.size wr v out ∧ Keep No w wr))
      case atStart => exact ⟨0, _, [], by omega, by omega, rfl, rfl, CutTo.start _, Own.nil _ _ _ _, Keep.refl No w⟩
      case round =>
        obtain ⟨k, v, out, hk, rfl, rfl, rfl, HR⟩ := hrel
        have HKr := Lib.hid HR.out.2.2
        by_cases hlt : k < t.size
        · have j1 : (k : Int) < t.size := by omega
          have j0 : (0 : Int) ≤ k := by omega
          have j3 : (k : Int) ≤ 64 := by have := HC.out.2.1; omega
          have hl : k < (bytesOf t).length := by rw [HC.out.1]; exact hlt
          have hg := bytesOf_get t k hl hlt
          by_cases hm : (bytesOf t)[k] = 123
          · by_cases hk2 : k + 2 < (bytesOf t).length
            · have ht2 : k + 2 < t.size := by rw [← HC.out.1]; exact hk2
              have ht1 : k + 1 < t.size := Nat.lt_of_succ_lt ht2
              have g1 := bytesOf_get t (k + 1) (Nat.lt_of_succ_lt hk2) ht1
              have g2 := bytesOf_get t (k + 2) hk2 ht2
              have hnext := fun hd => HR.out.1.mark hk2 hm hd
              rw [g1, g2] at hnext
              rw [hg] at hm
              have j4 : (k : Int) + 2 < t.size := by omega
              have j5 : (k : Int) + 1 < t.size := by omega
              obtain ⟨c1, hc1⟩ : ∃ c1 : Int, (t[k + 1].toNat : Int) = c1 := ⟨_, rfl⟩
              obtain ⟨c2, hc2⟩ : ∃ c2 : Int, (t[k + 2].toNat : Int) = c2 := ⟨_, rfl⟩
              rw [hc1, hc2] at hnext
              have b0 : 0 ≤ c1 := by omega
              have b1 : c1 ≤ 255 := by have := t[k + 1].toNat_lt; omega
              by_cases d0 : c1 < 48
              · clear hnext hg hl hk hk2 g1 g2 HC HR
                go_wp2_with fail
                go_ret2
                exact ⟨rfl, HKr.out⟩
              · by_cases d1 : 57 < c1
                · clear hnext hg hl hk hk2 g1 g2 HC HR
                  go_wp2_with fail
                  go_ret2
                  exact ⟨rfl, HKr.out⟩
                · by_cases d2 : c2 = 125
                  · have hnx := hnext ⟨by omega, by omega, d2⟩
                    have HT := Lib.hid (And.intro hnx ht2)
                    clear hnext hg hl hk hk2 g1 g2 hnx
                    obtain ⟨av, cv, hv, -⟩ := Own.form HR.out.2.1
                    subst hv
                    obtain ⟨a3, c3, w2, hrun, ho2, hk2⟩ := HR.out.2.1.app HR.out.2.2.size ⟨#[]⟩ (c1 - 48) (by decide) (by omega) (by omega) (by have := HR.out.1.2; have := HT.out.2; have := HC.out.2.1; omega)
                    have HO := Lib.hid (And.intro ho2 (HR.out.2.2.thenOwn hk2))
                    clear ho2 hk2
                    generalize out.length = m at *
                    go_wp2_with (at_builtin; refine wpList_app rfl (.tmp 47) (.tmp 55) 119 119 rfl rfl rfl hrun ?_)
                    go_roundg (t.size - (k + 3))
                    case measure => have := HT.out.2; omega
                    case rel => exact ⟨k + 3, _, _, by have := HT.out.2; omega, rfl, rfl, by simp, HT.out.1, HO.out.1, HO.out.2⟩
                  · have d2' : (c2 == 125) = false := by simpa using d2
                    have d3' : (c2 != 125) = true := by simpa using d2
                    clear hnext hg hl hk hk2 g1 g2 HC HR
                    go_wp2_with fail
                    go_ret2
                    exact ⟨rfl, HKr.out⟩
            · have j4 : ¬ (k : Int) + 2 < t.size := by have := HC.out.1; omega
              rw [hg] at hm
              clear hg hl hk hk2 HC HR
              go_wp2_with fail
              go_ret2
              exact ⟨rfl, HKr.out⟩
          · have hnext := fun hkc => HR.out.1.text hl hm hkc
            have hsub := sub_one t k hlt
            have hko : keyOk ⟨#[t[k]]⟩ = keyC (bytesOf t)[k] := keyOk_oneB hg
            rw [hg] at hm hnext hko
            have hbk : (t[k].toNat : Int).toNat.toUInt8 = t[k] := by simp
            rw [hbk] at hnext
            have hm' : ((t[k].toNat : Int) == 123) = false := by simpa using hm
            have hval := keyOk_any ⟨#[t[k]]⟩ (by show (1 : Nat) ≤ 9223372036854775807; decide) wr
            cases hkc : keyC (t[k].toNat : Int) with
            | true =>
              have HN := Lib.hid (And.intro (hnext hkc) hlt)
              rw [hko, hkc] at hval
              clear hnext hm hkc hg hl hk hko
              obtain ⟨av, cv, hv, -⟩ := Own.form HR.out.2.1
              subst hv
              obtain ⟨a3, c3, w2, hrun, ho2, hk2⟩ := HR.out.2.1.app HR.out.2.2.size ⟨#[t[k]]⟩ (-1) (by show (1 : Nat) ≤ 9223372036854775807; decide) (by omega) (by omega) (by have := HR.out.1.2; have := HN.out.2; have := HC.out.2.1; omega)
              have HO := Lib.hid (And.intro ho2 (HR.out.2.2.thenOwn hk2))
              clear ho2 hk2
              generalize out.length = m at *
              go_wp2_with (first | (go_at_call 74; refine hval.mono ?_; clear hval; rintro e w3 ⟨rfl, rfl⟩) | (at_builtin; refine wpList_app rfl (.tmp 66) (.tmp 73) 119 119 rfl rfl rfl hrun ?_))
              go_roundg (t.size - (k + 1))
              case measure => have := HN.out.2; omega
              case rel => exact ⟨k + 1, _, _, by have := HN.out.2; omega, rfl, rfl, by simp, HN.out.1, HO.out.1, HO.out.2⟩
            | false =>
              rw [hko, hkc] at hval
              clear hnext hm hkc hg hl hk hko HC HR
              go_wp2_with (go_at_call 74; refine hval.mono ?_; clear hval; rintro e w3 ⟨rfl, rfl⟩)
              go_ret2
              exact ⟨rfl, HKr.out⟩
        · exfalso
          obtain rfl : k = t.size := by omega
          have := HR.out.1
          rw [← HC.out.1] at this
          have := this.done
          rw [HC.out.2.2] at this
          cases this
set_option maxRecDepth 10000 in
set_option maxHeartbeats 2000000 in
theorem template_any (t : ByteArray) (n : Nat) (w : World) :
    Calls Tryz.prog 48 #[.string t, .int .i64 n] w (Says w (tmplOk t n)) := by
  have K1 : Keep No w (w.alloc (.cells #[.int .i64 n] 3)) := (Keep.refl No w).alloc _
  have x1 := blk_new w (.cells #[.int .i64 n] 3)
  unfold tmplOk
  cases hr : cutT t with
  | none =>
    have hcut' := (cut_none t hr (w.alloc (.cells #[.int .i64 n] 3))).mono (R' := fun e w2 => e = .returned (.tuple #[.slice none 0 0, .bool false]) ∧ RowKit.Hid (Keep No w w2)) (by
      rintro e w2 ⟨rfl, hk⟩
      exact ⟨rfl, K1.trans hk.out⟩)
    clear K1 x1 hr
    go_enter Tryz.func48, Tryz.ntmps48
    go_wp2_with (go_at_call 70; refine hcut'.mono ?_; clear hcut'; rintro e w2 ⟨rfl, HC⟩)
    go_ret
    exact ⟨rfl, HC.out⟩
  | some l =>
    simp only
    rw [below_any]
    obtain ⟨bad, hbad⟩ : ∃ bad, (l.any fun x => decide ((n : Int) ≤ x.arg)) = bad := ⟨_, rfl⟩
    rw [hbad]
    have hcut := cut_ok t l hr (w.alloc (.cells #[.int .i64 n] 3))
    have hcut' := hcut.mono (R' := fun e w2 => ∃ a c, e = .returned (.tuple #[.slice a l.length c, .bool true]) ∧ RowKit.Hid (Calls Tryz.prog 96 #[.slice a l.length c, .func (.func 97) #[] #[.pointer (some ⟨w.heap.size, 0, none⟩)]] w2 fun e w3 => e = .returned (.bool bad) ∧ RowKit.Hid (Keep No w w3))) (by
      rintro e w2 ⟨a, c, rfl, ho, hk⟩
      refine ⟨a, c, rfl, ?_⟩
      have hcell := (hk.cell (blk_lt x1) (o := 0) (fun x => x)).trans (blk_cell x1 0)
      refine (partArg_any w2 _ a c l ho.rd w.heap.size (fun x => decide ((n : Int) ≤ x.arg)) fun W hW i hi => ?_).mono ?_
      · exact tooFar_any _ _ _ W _ ((hW.cell (World.block_lt_of_cell? _ _ hcell) (o := 0) (fun x => x)).trans hcell)
      · rintro e w3 ⟨rfl, hk3⟩
        exact ⟨by rw [hbad], (K1.trans hk).trans hk3⟩)
    clear hcut K1 x1 hr hbad
    generalize l.length = m at *
    go_enter Tryz.func48, Tryz.ntmps48
    go_wp2_with (first | (go_at_call 70; refine hcut'.mono ?_; clear hcut'; rintro e w2 ⟨a, c, rfl, HC⟩) | (go_at_call 96; refine HC.out.mono ?_; clear HC; rintro e w3 ⟨rfl, HK⟩))
    go_ret
    exact ⟨rfl, HK.out⟩
end Go.Proofs.YtfgdnakfikpmpaaGreatDoor
namespace Go.Proofs.YtfgdnakfikpmpaaGreatDoor
open Go Go.RowKit Go.Deep
set_option maxRecDepth 10000 in
theorem kindBadB_any (k : Int) (w : World) : Calls Tryz.prog 46 #[.int .i64 k] w (Says w (!kindOk k)) := by
  have k0 := Keep.refl No w
  obtain ⟨r, hr⟩ : ∃ r, (!kindOk k) = r := ⟨_, rfl⟩
  rw [hr]
  have HR := Lib.hid hr
  clear hr
  by_cases h1 : k < 1
  · have e : r = true := by rw [← HR.out]; simp [kindOk]; omega
    subst e
    clear HR
    go_enter Tryz.func46, Tryz.ntmps46
    go_wp2_with fail
    go_ret
    exact ⟨rfl, k0⟩
  · by_cases h2 : 3 < k
    · have e : r = true := by rw [← HR.out]; simp [kindOk]; omega
      subst e
      clear HR
      go_enter Tryz.func46, Tryz.ntmps46
      go_wp2_with fail
      go_ret
      exact ⟨rfl, k0⟩
    · have e : r = false := by rw [← HR.out]; simp [kindOk]; omega
      subst e
      clear HR
      go_enter Tryz.func46, Tryz.ntmps46
      go_wp2_with fail
      go_ret
      exact ⟨rfl, k0⟩
set_option maxRecDepth 10000 in
theorem textBadB_any (t : ByteArray) (n : Nat) (w : World) (p : Nat) (a : Option Addr) (c : Nat) (hp : w.cell? ⟨p, 1, none⟩ = some (.slice a n c)) :
    Calls Tryz.prog 47 #[.string t, .pointer (some ⟨p, 0, none⟩)] w (Says w (!tmplOk t n)) := by
  have h1 := (template_any t n w).mono (R' := fun e w2 => e = .returned (.bool (tmplOk t n)) ∧ RowKit.Hid (Keep No w w2)) (by rintro e w2 ⟨rfl, hk⟩; exact ⟨rfl, hk⟩)
  generalize tmplOk t n = tb at *
  go_enter Tryz.func47, Tryz.ntmps47
  go_wp2_with (go_at_call 48; refine h1.mono ?_; clear h1; rintro e w2 ⟨rfl, HK⟩)
  go_ret
  exact ⟨rfl, HK.out⟩
def PgSays (w : World) (v1 v2 v3 : Value) (e : Int) : Prop := ∀ W, Keep No w W → Calls Tryz.prog 50 #[.agg #[v1, v2, v3]] W fun en w2 => (∃ x : Int, en = .returned (.tuple #[.int .i64 e, .int .i64 x])) ∧ Keep No W w2
theorem any_not_all {α : Type} (l : List α) (q : α → Bool) : (l.any fun x => !q x) = !l.all q := by
  rw [List.not_all_eq_any_not]
set_option maxRecDepth 10000 in
set_option maxHeartbeats 8000000 in
theorem libCheck_any (w : World) (S : Nat → Prop) (n1 n2 n3 c1 c2 c3 : Nat) (a1 a2 a3 : Option Addr) (v4 v5 : Value) (p : Prc) (pg : Int) (e1 : n1 = p.kinds.length) (e2 : n2 = p.reads.length) (e3 : n3 = p.writes.length)
    (h1 : Rd (.slice (.int .i64)) w S [.slice a1 n1 c1] p.kinds) (h2 : Rd (.slice .str) w S [.slice a2 n2 c2] p.reads) (h3 : Rd (.slice .str) w S [.slice a3 n3 c3] p.writes) (hnm : p.name.size ≤ 9223372036854775807) (hsum : n2 + n3 ≤ 9223372036854775807) (hpg : PgSays w (.int .i64 p.pgm.args) v4 v5 pg) :
    Calls Tryz.prog 17 #[.agg #[.string p.name, .slice a1 n1 c1, .bool p.dep, .slice a2 n2 c2, .slice a3 n3 c3, .int .i64 p.pgm.args, v4, v5]] w (GivesI w (p.check pg)) := by
  have K1 := (Keep.refl No w).alloc (.cells #[.string p.name, .slice a1 n1 c1, .bool p.dep, .slice a2 n2 c2, .slice a3 n3 c3, .int .i64 p.pgm.args, v4, v5] 29)
  have x1 := blk_new w (.cells #[.string p.name, .slice a1 n1 c1, .bool p.dep, .slice a2 n2 c2, .slice a3 n3 c3, .int .i64 p.pgm.args, v4, v5] 29)
  obtain ⟨er, hE⟩ : ∃ er, p.check pg = er := ⟨_, rfl⟩
  rw [hE]
  obtain ⟨nb, hnb⟩ : ∃ nb, nameOk p.name = nb := ⟨_, rfl⟩
  obtain ⟨kb, hkb⟩ : ∃ kb, p.kinds.all kindOk = kb := ⟨_, rfl⟩
  obtain ⟨rb, hrb⟩ : ∃ rb, p.reads.all (tmplOk · p.kinds.length) = rb := ⟨_, rfl⟩
  obtain ⟨wb, hwb⟩ : ∃ wb, p.writes.all (tmplOk · p.kinds.length) = wb := ⟨_, rfl⟩
  have HN : RowKit.Hid (∀ W, Calls Tryz.prog 44 #[.string p.name] W fun e w2 => e = .returned (.bool nb) ∧ w2 = W) := fun W => by
    have := libName_any p.name hnm W
    rw [hnb] at this
    exact this
  have HKi : RowKit.Hid (∀ W, Keep No w W → Calls Tryz.prog 45 #[.slice a1 n1 c1, .func (.func 46) #[] #[]] W fun e w2 => e = .returned (.bool (!kb)) ∧ RowKit.Hid (Keep No W w2)) := fun W hW => by
    subst e1
    refine (kindArg_any W S a1 c1 p.kinds (h1.agree _ hW.agreeNo) (fun k => !kindOk k) fun W2 _ i hi => kindBadB_any _ W2).mono ?_
    rintro e w2 ⟨rfl, hk⟩
    exact ⟨by rw [any_not_all, hkb], hk⟩
  have HT : RowKit.Hid (∀ W, Keep No (w.alloc (.cells #[.string p.name, .slice a1 n1 c1, .bool p.dep, .slice a2 n2 c2, .slice a3 n3 c3, .int .i64 p.pgm.args, v4, v5] 29)) W → ∀ a n c l b, Rd (.slice .str) w S [.slice a n c] l → n = l.length → l.all (tmplOk · p.kinds.length) = b →
      Calls Tryz.prog 49 #[.slice a n c, .func (.func 47) #[] #[.pointer (some ⟨w.heap.size, 0, none⟩)]] W fun e w2 => e = .returned (.bool (!b)) ∧ RowKit.Hid (Keep No W w2)) := fun W hW a n c l b hl hn hb => by
    subst hn
    have hcell : W.cell? ⟨w.heap.size, 1, none⟩ = some (.slice a1 n1 c1) := (hW.cell (blk_lt x1) (o := 1) (fun x => x)).trans (blk_cell x1 1)
    refine (textArg_any W S a c l (hl.agree _ (K1.trans hW).agreeNo) w.heap.size (fun t => !tmplOk t p.kinds.length) fun W2 h2 i hi => ?_).mono ?_
    · have := textBadB_any l[i] n1 W2 w.heap.size a1 c1 ((h2.cell (World.block_lt_of_cell? _ _ hcell) (o := 1) (fun x => x)).trans hcell)
      rw [e1] at this
      exact this
    · rintro e w2 ⟨rfl, hk⟩
      exact ⟨by rw [any_not_all, hb], hk⟩
  have HP : RowKit.Hid (∀ W, Keep No w W → Calls Tryz.prog 50 #[.agg #[.int .i64 p.pgm.args, v4, v5]] W fun en w2 => ∃ x : Int, en = .returned (.tuple #[.int .i64 pg, .int .i64 x]) ∧ RowKit.Hid (Keep No W w2)) := fun W hW => (hpg W hW).mono (by
    rintro e w2 ⟨⟨x, rfl⟩, hk⟩
    exact ⟨x, rfl, hk⟩)
  have HA := Lib.hid (And.intro h2 (And.intro h3 (And.intro hrb (And.intro hwb (And.intro e2 e3)))))
  have HK1 := Lib.hid K1
  have q1 := blk_cell x1
  have HX := Lib.hid x1
  have s1 : IntKind.i64.wrap ((n2 : Int) + (n3 : Int)) = (n2 : Int) + (n3 : Int) := wrap_pc (by omega) (by omega)
  unfold Prc.check at hE
  rw [hnb, hkb, hrb, hwb, ← e1, ← e2, ← e3] at hE
  clear hpg h1 h2 h3 e1 e2 e3 K1 x1 hnm hsum hnb hkb hrb hwb
  generalize p.pgm.args = ag at *
  generalize p.name = s0 at *
  generalize p.dep = d0 at *
  generalize p.kinds.length = n1' at *
  cases nb with
  | false =>
    rw [if_pos (.inl rfl)] at hE
    subst hE
    go_enter Tryz.func17, Tryz.ntmps17
    go_wp2_with (go_at_call 44; refine (HN.out _).mono ?_; rintro e w2 ⟨rfl, rfl⟩)
    go_ret
    exact ⟨rfl, HK1.out⟩
  | true =>
    by_cases h8 : 8 < n1
    · rw [if_pos (.inr h8)] at hE
      subst hE
      have i1 : ¬ (n1 : Int) ≤ 8 := by omega
      have i1' : (8 : Int) < n1 := by omega
      clear h8
      go_enter Tryz.func17, Tryz.ntmps17
      go_wp2_with (go_at_call 44; refine (HN.out _).mono ?_; rintro e w2 ⟨rfl, rfl⟩)
      go_ret
      exact ⟨rfl, HK1.out⟩
    · rw [if_neg (fun h => h.elim (fun x => by cases x) h8)] at hE
      have i1 : (n1 : Int) ≤ 8 := by omega
      have i1' : ¬ (8 : Int) < n1 := by omega
      clear h8
      cases kb with
      | false =>
        rw [if_pos rfl] at hE
        subst hE
        go_enter Tryz.func17, Tryz.ntmps17
        go_wp2_with (go_at_call 44; refine (HN.out _).mono ?_; rintro e w2 ⟨rfl, rfl⟩)
        refine (HKi.out _ HK1.out).mono ?_
        rintro e w2 ⟨rfl, HK2⟩
        have x2 := HK2.out.blk HX.out (fun x => x)
        have q2 := blk_cell x2
        have HK2' := Lib.hid (HK1.out.trans HK2.out)
        clear q1 x2
        go_wp2_with fail
        go_ret
        exact ⟨rfl, HK2'.out⟩
      | true =>
        rw [if_neg (fun x => by cases x)] at hE
        by_cases hD : d0 = true ∧ 0 < n2 + n3
        · rw [if_pos hD] at hE
          subst hE
          obtain ⟨rfl, hD2⟩ := hD
          have i4 : (0 : Int) < (n2 : Int) + n3 := by omega
          clear hD2
          go_enter Tryz.func17, Tryz.ntmps17
          go_wp2_with (go_at_call 44; refine (HN.out _).mono ?_; rintro e w2 ⟨rfl, rfl⟩)
          refine (HKi.out _ HK1.out).mono ?_
          rintro e w2 ⟨rfl, HK2⟩
          have x2 := HK2.out.blk HX.out (fun x => x)
          have q2 := blk_cell x2
          have HK2' := Lib.hid (HK1.out.trans HK2.out)
          clear q1 x2
          go_wp2_with fail
          go_ret
          exact ⟨rfl, HK2'.out⟩
        · rw [if_neg hD] at hE
          cases d0 with
          | true =>
            obtain ⟨rfl, rfl⟩ : n2 = 0 ∧ n3 = 0 := ⟨by have : ¬ 0 < n2 + n3 := fun x => hD ⟨rfl, x⟩; omega, by have : ¬ 0 < n2 + n3 := fun x => hD ⟨rfl, x⟩; omega⟩
            rw [if_neg (by omega)] at hE
            clear hD s1
            cases rb with
            | false =>
              rw [if_pos (.inl rfl)] at hE
              subst hE
              go_enter Tryz.func17, Tryz.ntmps17
              go_wp2_with (go_at_call 44; refine (HN.out _).mono ?_; rintro e w2 ⟨rfl, rfl⟩)
              refine (HKi.out _ HK1.out).mono ?_
              rintro e w2 ⟨rfl, HK2⟩
              have x2 := HK2.out.blk HX.out (fun x => x)
              have q2 := blk_cell x2
              have HK2' := Lib.hid (HK1.out.trans HK2.out)
              clear q1 x2
              go_wp2_with fail
              refine (HT.out _ HK2.out _ _ _ _ _ HA.out.1 HA.out.2.2.2.2.1 HA.out.2.2.1).mono ?_
              rintro e w3 ⟨rfl, HK3⟩
              have x3 := (HK2.out.trans HK3.out).blk HX.out (fun x => x)
              have q3 := blk_cell x3
              have HK3' := Lib.hid (HK2.out.trans HK3.out)
              have HK3q := Lib.hid (HK1.out.trans HK3'.out)
              clear q2 x3
              go_wp2_with fail
              go_ret
              exact ⟨rfl, HK3q.out⟩
            | true =>
              cases wb with
              | false =>
                rw [if_pos (.inr rfl)] at hE
                subst hE
                go_enter Tryz.func17, Tryz.ntmps17
                go_wp2_with (go_at_call 44; refine (HN.out _).mono ?_; rintro e w2 ⟨rfl, rfl⟩)
                refine (HKi.out _ HK1.out).mono ?_
                rintro e w2 ⟨rfl, HK2⟩
                have x2 := HK2.out.blk HX.out (fun x => x)
                have q2 := blk_cell x2
                have HK2' := Lib.hid (HK1.out.trans HK2.out)
                clear q1 x2
                go_wp2_with fail
                refine (HT.out _ HK2.out _ _ _ _ _ HA.out.1 HA.out.2.2.2.2.1 HA.out.2.2.1).mono ?_
                rintro e w3 ⟨rfl, HK3⟩
                have x3 := (HK2.out.trans HK3.out).blk HX.out (fun x => x)
                have q3 := blk_cell x3
                have HK3' := Lib.hid (HK2.out.trans HK3.out)
                have HK3q := Lib.hid (HK1.out.trans HK3'.out)
                clear q2 x3
                go_wp2_with fail
                refine (HT.out _ HK3'.out _ _ _ _ _ HA.out.2.1 HA.out.2.2.2.2.2 HA.out.2.2.2.1).mono ?_
                rintro e w4 ⟨rfl, HK4⟩
                have x4 := (HK3'.out.trans HK4.out).blk HX.out (fun x => x)
                have q4 := blk_cell x4
                have HK4' := Lib.hid (HK1.out.trans (HK3'.out.trans HK4.out))
                clear q3 x4
                go_wp2_with fail
                go_ret
                exact ⟨rfl, HK4'.out⟩
              | true =>
                rw [if_neg (fun h => h.elim (fun x => by cases x) (fun x => by cases x))] at hE
                by_cases hpz : pg = 0
                · subst hpz
                  rw [if_neg (fun h => h rfl)] at hE
                  by_cases hz : ag = n1
                  · rw [if_neg (fun h => h hz)] at hE
                    subst hE
                    subst hz
                    go_enter Tryz.func17, Tryz.ntmps17
                    go_wp2_with (go_at_call 44; refine (HN.out _).mono ?_; rintro e w2 ⟨rfl, rfl⟩)
                    refine (HKi.out _ HK1.out).mono ?_
                    rintro e w2 ⟨rfl, HK2⟩
                    have x2 := HK2.out.blk HX.out (fun x => x)
                    have q2 := blk_cell x2
                    have HK2' := Lib.hid (HK1.out.trans HK2.out)
                    clear q1 x2
                    go_wp2_with fail
                    refine (HT.out _ HK2.out _ _ _ _ _ HA.out.1 HA.out.2.2.2.2.1 HA.out.2.2.1).mono ?_
                    rintro e w3 ⟨rfl, HK3⟩
                    have x3 := (HK2.out.trans HK3.out).blk HX.out (fun x => x)
                    have q3 := blk_cell x3
                    have HK3' := Lib.hid (HK2.out.trans HK3.out)
                    have HK3q := Lib.hid (HK1.out.trans HK3'.out)
                    clear q2 x3
                    go_wp2_with fail
                    refine (HT.out _ HK3'.out _ _ _ _ _ HA.out.2.1 HA.out.2.2.2.2.2 HA.out.2.2.2.1).mono ?_
                    rintro e w4 ⟨rfl, HK4⟩
                    have x4 := (HK3'.out.trans HK4.out).blk HX.out (fun x => x)
                    have q4 := blk_cell x4
                    have HK4' := Lib.hid (HK1.out.trans (HK3'.out.trans HK4.out))
                    clear q3 x4
                    go_wp2_with fail
                    refine (HP.out _ HK4'.out).mono ?_
                    rintro e w5 ⟨x9, rfl, HK5⟩
                    have x5 := (HK3'.out.trans (HK4.out.trans HK5.out)).blk HX.out (fun x => x)
                    have q5 := blk_cell x5
                    have HK5' := Lib.hid (HK4'.out.trans HK5.out)
                    clear q4 x5
                    go_wp2_with fail
                    go_ret
                    exact ⟨rfl, HK5'.out⟩
                  · rw [if_pos hz] at hE
                    subst hE
                    have b9 : (ag != (n1 : Int)) = true := by simpa using hz
                    have b8 : (ag == (n1 : Int)) = false := by simpa using hz
                    clear hz
                    go_enter Tryz.func17, Tryz.ntmps17
                    go_wp2_with (go_at_call 44; refine (HN.out _).mono ?_; rintro e w2 ⟨rfl, rfl⟩)
                    refine (HKi.out _ HK1.out).mono ?_
                    rintro e w2 ⟨rfl, HK2⟩
                    have x2 := HK2.out.blk HX.out (fun x => x)
                    have q2 := blk_cell x2
                    have HK2' := Lib.hid (HK1.out.trans HK2.out)
                    clear q1 x2
                    go_wp2_with fail
                    refine (HT.out _ HK2.out _ _ _ _ _ HA.out.1 HA.out.2.2.2.2.1 HA.out.2.2.1).mono ?_
                    rintro e w3 ⟨rfl, HK3⟩
                    have x3 := (HK2.out.trans HK3.out).blk HX.out (fun x => x)
                    have q3 := blk_cell x3
                    have HK3' := Lib.hid (HK2.out.trans HK3.out)
                    have HK3q := Lib.hid (HK1.out.trans HK3'.out)
                    clear q2 x3
                    go_wp2_with fail
                    refine (HT.out _ HK3'.out _ _ _ _ _ HA.out.2.1 HA.out.2.2.2.2.2 HA.out.2.2.2.1).mono ?_
                    rintro e w4 ⟨rfl, HK4⟩
                    have x4 := (HK3'.out.trans HK4.out).blk HX.out (fun x => x)
                    have q4 := blk_cell x4
                    have HK4' := Lib.hid (HK1.out.trans (HK3'.out.trans HK4.out))
                    clear q3 x4
                    go_wp2_with fail
                    refine (HP.out _ HK4'.out).mono ?_
                    rintro e w5 ⟨x9, rfl, HK5⟩
                    have x5 := (HK3'.out.trans (HK4.out.trans HK5.out)).blk HX.out (fun x => x)
                    have q5 := blk_cell x5
                    have HK5' := Lib.hid (HK4'.out.trans HK5.out)
                    clear q4 x5
                    go_wp2_with fail
                    go_ret
                    exact ⟨rfl, HK5'.out⟩
                · rw [if_pos hpz] at hE
                  subst hE
                  have b9 : (pg != 0) = true := by simpa using hpz
                  clear hpz
                  go_enter Tryz.func17, Tryz.ntmps17
                  go_wp2_with (go_at_call 44; refine (HN.out _).mono ?_; rintro e w2 ⟨rfl, rfl⟩)
                  refine (HKi.out _ HK1.out).mono ?_
                  rintro e w2 ⟨rfl, HK2⟩
                  have x2 := HK2.out.blk HX.out (fun x => x)
                  have q2 := blk_cell x2
                  have HK2' := Lib.hid (HK1.out.trans HK2.out)
                  clear q1 x2
                  go_wp2_with fail
                  refine (HT.out _ HK2.out _ _ _ _ _ HA.out.1 HA.out.2.2.2.2.1 HA.out.2.2.1).mono ?_
                  rintro e w3 ⟨rfl, HK3⟩
                  have x3 := (HK2.out.trans HK3.out).blk HX.out (fun x => x)
                  have q3 := blk_cell x3
                  have HK3' := Lib.hid (HK2.out.trans HK3.out)
                  have HK3q := Lib.hid (HK1.out.trans HK3'.out)
                  clear q2 x3
                  go_wp2_with fail
                  refine (HT.out _ HK3'.out _ _ _ _ _ HA.out.2.1 HA.out.2.2.2.2.2 HA.out.2.2.2.1).mono ?_
                  rintro e w4 ⟨rfl, HK4⟩
                  have x4 := (HK3'.out.trans HK4.out).blk HX.out (fun x => x)
                  have q4 := blk_cell x4
                  have HK4' := Lib.hid (HK1.out.trans (HK3'.out.trans HK4.out))
                  clear q3 x4
                  go_wp2_with fail
                  refine (HP.out _ HK4'.out).mono ?_
                  rintro e w5 ⟨x9, rfl, HK5⟩
                  have x5 := (HK3'.out.trans (HK4.out.trans HK5.out)).blk HX.out (fun x => x)
                  have q5 := blk_cell x5
                  have HK5' := Lib.hid (HK4'.out.trans HK5.out)
                  clear q4 x5
                  go_wp2_with fail
                  go_ret
                  exact ⟨rfl, HK5'.out⟩
          | false =>
            clear hD s1
            by_cases hm : 32 < n2 ∨ 32 < n3
            · rw [if_pos hm] at hE
              subst hE
              rcases Nat.lt_or_ge 32 n2 with hm | hm2
              · have i2 : ¬ (n2 : Int) ≤ 32 := by omega
                have i2' : (32 : Int) < n2 := by omega
                clear hm
                go_enter Tryz.func17, Tryz.ntmps17
                go_wp2_with (go_at_call 44; refine (HN.out _).mono ?_; rintro e w2 ⟨rfl, rfl⟩)
                refine (HKi.out _ HK1.out).mono ?_
                rintro e w2 ⟨rfl, HK2⟩
                have x2 := HK2.out.blk HX.out (fun x => x)
                have q2 := blk_cell x2
                have HK2' := Lib.hid (HK1.out.trans HK2.out)
                clear q1 x2
                go_wp2_with fail
                go_ret
                exact ⟨rfl, HK2'.out⟩
              · have i2 : (n2 : Int) ≤ 32 := by omega
                have i2' : ¬ (32 : Int) < n2 := by omega
                have i3 : ¬ (n3 : Int) ≤ 32 := by omega
                have i3' : (32 : Int) < n3 := by omega
                clear hm hm2
                go_enter Tryz.func17, Tryz.ntmps17
                go_wp2_with (go_at_call 44; refine (HN.out _).mono ?_; rintro e w2 ⟨rfl, rfl⟩)
                refine (HKi.out _ HK1.out).mono ?_
                rintro e w2 ⟨rfl, HK2⟩
                have x2 := HK2.out.blk HX.out (fun x => x)
                have q2 := blk_cell x2
                have HK2' := Lib.hid (HK1.out.trans HK2.out)
                clear q1 x2
                go_wp2_with fail
                go_ret
                exact ⟨rfl, HK2'.out⟩
            rw [if_neg hm] at hE
            have i2 : (n2 : Int) ≤ 32 := by omega
            have i2' : ¬ (32 : Int) < n2 := by omega
            have i3 : (n3 : Int) ≤ 32 := by omega
            have i3' : ¬ (32 : Int) < n3 := by omega
            clear hm
            cases rb with
            | false =>
              rw [if_pos (.inl rfl)] at hE
              subst hE
              go_enter Tryz.func17, Tryz.ntmps17
              go_wp2_with (go_at_call 44; refine (HN.out _).mono ?_; rintro e w2 ⟨rfl, rfl⟩)
              refine (HKi.out _ HK1.out).mono ?_
              rintro e w2 ⟨rfl, HK2⟩
              have x2 := HK2.out.blk HX.out (fun x => x)
              have q2 := blk_cell x2
              have HK2' := Lib.hid (HK1.out.trans HK2.out)
              clear q1 x2
              go_wp2_with fail
              refine (HT.out _ HK2.out _ _ _ _ _ HA.out.1 HA.out.2.2.2.2.1 HA.out.2.2.1).mono ?_
              rintro e w3 ⟨rfl, HK3⟩
              have x3 := (HK2.out.trans HK3.out).blk HX.out (fun x => x)
              have q3 := blk_cell x3
              have HK3' := Lib.hid (HK2.out.trans HK3.out)
              have HK3q := Lib.hid (HK1.out.trans HK3'.out)
              clear q2 x3
              go_wp2_with fail
              go_ret
              exact ⟨rfl, HK3q.out⟩
            | true =>
              cases wb with
              | false =>
                rw [if_pos (.inr rfl)] at hE
                subst hE
                go_enter Tryz.func17, Tryz.ntmps17
                go_wp2_with (go_at_call 44; refine (HN.out _).mono ?_; rintro e w2 ⟨rfl, rfl⟩)
                refine (HKi.out _ HK1.out).mono ?_
                rintro e w2 ⟨rfl, HK2⟩
                have x2 := HK2.out.blk HX.out (fun x => x)
                have q2 := blk_cell x2
                have HK2' := Lib.hid (HK1.out.trans HK2.out)
                clear q1 x2
                go_wp2_with fail
                refine (HT.out _ HK2.out _ _ _ _ _ HA.out.1 HA.out.2.2.2.2.1 HA.out.2.2.1).mono ?_
                rintro e w3 ⟨rfl, HK3⟩
                have x3 := (HK2.out.trans HK3.out).blk HX.out (fun x => x)
                have q3 := blk_cell x3
                have HK3' := Lib.hid (HK2.out.trans HK3.out)
                have HK3q := Lib.hid (HK1.out.trans HK3'.out)
                clear q2 x3
                go_wp2_with fail
                refine (HT.out _ HK3'.out _ _ _ _ _ HA.out.2.1 HA.out.2.2.2.2.2 HA.out.2.2.2.1).mono ?_
                rintro e w4 ⟨rfl, HK4⟩
                have x4 := (HK3'.out.trans HK4.out).blk HX.out (fun x => x)
                have q4 := blk_cell x4
                have HK4' := Lib.hid (HK1.out.trans (HK3'.out.trans HK4.out))
                clear q3 x4
                go_wp2_with fail
                go_ret
                exact ⟨rfl, HK4'.out⟩
              | true =>
                rw [if_neg (fun h => h.elim (fun x => by cases x) (fun x => by cases x))] at hE
                by_cases hpz : pg = 0
                · subst hpz
                  rw [if_neg (fun h => h rfl)] at hE
                  by_cases hz : ag = n1
                  · rw [if_neg (fun h => h hz)] at hE
                    subst hE
                    subst hz
                    go_enter Tryz.func17, Tryz.ntmps17
                    go_wp2_with (go_at_call 44; refine (HN.out _).mono ?_; rintro e w2 ⟨rfl, rfl⟩)
                    refine (HKi.out _ HK1.out).mono ?_
                    rintro e w2 ⟨rfl, HK2⟩
                    have x2 := HK2.out.blk HX.out (fun x => x)
                    have q2 := blk_cell x2
                    have HK2' := Lib.hid (HK1.out.trans HK2.out)
                    clear q1 x2
                    go_wp2_with fail
                    refine (HT.out _ HK2.out _ _ _ _ _ HA.out.1 HA.out.2.2.2.2.1 HA.out.2.2.1).mono ?_
                    rintro e w3 ⟨rfl, HK3⟩
                    have x3 := (HK2.out.trans HK3.out).blk HX.out (fun x => x)
                    have q3 := blk_cell x3
                    have HK3' := Lib.hid (HK2.out.trans HK3.out)
                    have HK3q := Lib.hid (HK1.out.trans HK3'.out)
                    clear q2 x3
                    go_wp2_with fail
                    refine (HT.out _ HK3'.out _ _ _ _ _ HA.out.2.1 HA.out.2.2.2.2.2 HA.out.2.2.2.1).mono ?_
                    rintro e w4 ⟨rfl, HK4⟩
                    have x4 := (HK3'.out.trans HK4.out).blk HX.out (fun x => x)
                    have q4 := blk_cell x4
                    have HK4' := Lib.hid (HK1.out.trans (HK3'.out.trans HK4.out))
                    clear q3 x4
                    go_wp2_with fail
                    refine (HP.out _ HK4'.out).mono ?_
                    rintro e w5 ⟨x9, rfl, HK5⟩
                    have x5 := (HK3'.out.trans (HK4.out.trans HK5.out)).blk HX.out (fun x => x)
                    have q5 := blk_cell x5
                    have HK5' := Lib.hid (HK4'.out.trans HK5.out)
                    clear q4 x5
                    go_wp2_with fail
                    go_ret
                    exact ⟨rfl, HK5'.out⟩
                  · rw [if_pos hz] at hE
                    subst hE
                    have b9 : (ag != (n1 : Int)) = true := by simpa using hz
                    have b8 : (ag == (n1 : Int)) = false := by simpa using hz
                    clear hz
                    go_enter Tryz.func17, Tryz.ntmps17
                    go_wp2_with (go_at_call 44; refine (HN.out _).mono ?_; rintro e w2 ⟨rfl, rfl⟩)
                    refine (HKi.out _ HK1.out).mono ?_
                    rintro e w2 ⟨rfl, HK2⟩
                    have x2 := HK2.out.blk HX.out (fun x => x)
                    have q2 := blk_cell x2
                    have HK2' := Lib.hid (HK1.out.trans HK2.out)
                    clear q1 x2
                    go_wp2_with fail
                    refine (HT.out _ HK2.out _ _ _ _ _ HA.out.1 HA.out.2.2.2.2.1 HA.out.2.2.1).mono ?_
                    rintro e w3 ⟨rfl, HK3⟩
                    have x3 := (HK2.out.trans HK3.out).blk HX.out (fun x => x)
                    have q3 := blk_cell x3
                    have HK3' := Lib.hid (HK2.out.trans HK3.out)
                    have HK3q := Lib.hid (HK1.out.trans HK3'.out)
                    clear q2 x3
                    go_wp2_with fail
                    refine (HT.out _ HK3'.out _ _ _ _ _ HA.out.2.1 HA.out.2.2.2.2.2 HA.out.2.2.2.1).mono ?_
                    rintro e w4 ⟨rfl, HK4⟩
                    have x4 := (HK3'.out.trans HK4.out).blk HX.out (fun x => x)
                    have q4 := blk_cell x4
                    have HK4' := Lib.hid (HK1.out.trans (HK3'.out.trans HK4.out))
                    clear q3 x4
                    go_wp2_with fail
                    refine (HP.out _ HK4'.out).mono ?_
                    rintro e w5 ⟨x9, rfl, HK5⟩
                    have x5 := (HK3'.out.trans (HK4.out.trans HK5.out)).blk HX.out (fun x => x)
                    have q5 := blk_cell x5
                    have HK5' := Lib.hid (HK4'.out.trans HK5.out)
                    clear q4 x5
                    go_wp2_with fail
                    go_ret
                    exact ⟨rfl, HK5'.out⟩
                · rw [if_pos hpz] at hE
                  subst hE
                  have b9 : (pg != 0) = true := by simpa using hpz
                  clear hpz
                  go_enter Tryz.func17, Tryz.ntmps17
                  go_wp2_with (go_at_call 44; refine (HN.out _).mono ?_; rintro e w2 ⟨rfl, rfl⟩)
                  refine (HKi.out _ HK1.out).mono ?_
                  rintro e w2 ⟨rfl, HK2⟩
                  have x2 := HK2.out.blk HX.out (fun x => x)
                  have q2 := blk_cell x2
                  have HK2' := Lib.hid (HK1.out.trans HK2.out)
                  clear q1 x2
                  go_wp2_with fail
                  refine (HT.out _ HK2.out _ _ _ _ _ HA.out.1 HA.out.2.2.2.2.1 HA.out.2.2.1).mono ?_
                  rintro e w3 ⟨rfl, HK3⟩
                  have x3 := (HK2.out.trans HK3.out).blk HX.out (fun x => x)
                  have q3 := blk_cell x3
                  have HK3' := Lib.hid (HK2.out.trans HK3.out)
                  have HK3q := Lib.hid (HK1.out.trans HK3'.out)
                  clear q2 x3
                  go_wp2_with fail
                  refine (HT.out _ HK3'.out _ _ _ _ _ HA.out.2.1 HA.out.2.2.2.2.2 HA.out.2.2.2.1).mono ?_
                  rintro e w4 ⟨rfl, HK4⟩
                  have x4 := (HK3'.out.trans HK4.out).blk HX.out (fun x => x)
                  have q4 := blk_cell x4
                  have HK4' := Lib.hid (HK1.out.trans (HK3'.out.trans HK4.out))
                  clear q3 x4
                  go_wp2_with fail
                  refine (HP.out _ HK4'.out).mono ?_
                  rintro e w5 ⟨x9, rfl, HK5⟩
                  have x5 := (HK3'.out.trans (HK4.out.trans HK5.out)).blk HX.out (fun x => x)
                  have q5 := blk_cell x5
                  have HK5' := Lib.hid (HK4'.out.trans HK5.out)
                  clear q4 x5
                  go_wp2_with fail
                  go_ret
                  exact ⟨rfl, HK5'.out⟩
end Go.Proofs.YtfgdnakfikpmpaaGreatDoor
namespace Go.Proofs.YtfgdnakfikpmpaaGreatDoor
open Go Go.RowKit Go.Deep
set_option maxRecDepth 20000 in
set_option maxHeartbeats 800000 in
theorem find_g (w : World) (S T : Nat → Prop) (args : Int) (a4 a5 : Option Addr) (c4 c5 : Nat) (consts : List Val) (code : List Ins) (h4 : Rd (.slice valueSh) w S [.slice a4 consts.length c4] consts) (h5 : Rd (.slice instrSh) w T [.slice a5 code.length c5] code) :
    Calls Tryz.prog 99 #[.agg #[.int .i64 args, .slice a4 consts.length c4, .slice a5 code.length c5]] w (GivesFd w (pgmE args consts code)) := by
  obtain ⟨fe, fa, hF⟩ : ∃ fe fa, formL args consts code = (fe, fa) := ⟨_, _, rfl⟩
  have K1 := (Keep.refl No w).alloc (.cells #[.int .i64 args, .slice a4 consts.length c4, .slice a5 code.length c5] 27)
  have x1 := blk_new w (.cells #[.int .i64 args, .slice a4 consts.length c4, .slice a5 code.length c5] 27)
  have q1 := blk_cell x1
  have h5' : Rd (.slice instrSh) w (Lt w.heap.size) [.slice a5 code.length c5] code := h5.mono _ fun k hk _ => hk
  have HX := Lib.hid (And.intro K1 (And.intro x1 h5'))
  have hmf : ∀ (fn : Fn) (first cap : Array Value) (w : World), (Instr.makeFunc fn first cap).run Tryz.prog w = .ok (.func fn first cap) w := fun _ _ _ _ => rfl
  have HF : RowKit.Hid (∀ W, Keep No w W → Calls Tryz.prog 140 #[.agg #[.int .i64 args, .slice a4 consts.length c4, .slice a5 code.length c5]] W fun e w' => e = .returned (.tuple #[.int .i64 fe, .int .i64 fa]) ∧ RowKit.Hid (Keep No W w')) := fun W hW => by
    have := form_g W S T args a4 a5 c4 c5 consts code (h4.agree _ hW.agreeNo) (h5.agree _ hW.agreeNo)
    rw [hF] at this
    exact this
  have hL0 : ∀ w5, Keep No (((w.alloc (.cells #[.int .i64 args, .slice a4 consts.length c4, .slice a5 code.length c5] 27)).alloc (.cells #[.slice none 0 0] 22)).alloc (.cells #[.int .i64 0] 34) |>.alloc (.cells #[.int .i64 0] 3)) w5 → Look0 w w5.heap.size args (.slice a4 consts.length c4) (.slice a5 code.length c5) w5 := fun w5 HK5 => by
    have hs := HK5.size
    simp only [World.size_alloc] at hs
    have K1 := (Keep.refl No w).alloc (.cells #[.int .i64 args, .slice a4 consts.length c4, .slice a5 code.length c5] 27)
    have x1 := blk_new w (.cells #[.int .i64 args, .slice a4 consts.length c4, .slice a5 code.length c5] 27)
    refine ⟨(((K1.alloc _).alloc _).alloc _).trans HK5, HK5.blk (blk_alloc (blk_alloc (blk_alloc x1))) (fun x => x), HK5.blk (blk_alloc (blk_alloc ?_)) (fun x => x), HK5.blk (blk_alloc ?_) (fun x => x), HK5.blk ?_ (fun x => x), by omega⟩
    · simpa using blk_new (w.alloc (.cells #[.int .i64 args, .slice a4 consts.length c4, .slice a5 code.length c5] 27)) (.cells #[.slice none 0 0] 22)
    · simpa using blk_new ((w.alloc (.cells #[.int .i64 args, .slice a4 consts.length c4, .slice a5 code.length c5] 27)).alloc (.cells #[.slice none 0 0] 22)) (.cells #[.int .i64 0] 34)
    · simpa using blk_new (((w.alloc (.cells #[.int .i64 args, .slice a4 consts.length c4, .slice a5 code.length c5] 27)).alloc (.cells #[.slice none 0 0] 22)).alloc (.cells #[.int .i64 0] 34)) (.cells #[.int .i64 0] 3)
  by_cases hfe : fe = 0
  · obtain ⟨res, hres⟩ : ∃ res, runP code 257 dep0 lk0 = res := ⟨_, rfl⟩
    have hE : pgmE args consts code = pgmR res := by rw [pgmE_form (by rw [hF]; exact hfe), hres]
    have hok := formL_ok (args := args) (consts := consts) (code := code) (by rw [hF]; exact hfe)
    have hnat := form_nat (args := args) (consts := consts) (code := code) (by rw [hF]; exact hfe)
    rw [hE]
    subst hfe
    have HC := Lib.hid (And.intro hok.2.2.1 (And.intro hnat hres))
    have HL0 := Lib.hid hL0
    clear hok hnat hE hF h4 h5 h5' K1 x1 hres hL0
    generalize Value.slice a4 consts.length c4 = v4 at *
    go_enter_defers Tryz.func99, Tryz.ntmps99
    go_wp2_with fail
    refine (HF.out _ (((HX.out.1.alloc _).alloc _).alloc _)).mono ?_
    rintro e w5 ⟨rfl, HK5⟩
    have hL := HL0.out w5 HK5.out
    have hX5 : Rd (.slice instrSh) w5 (Lt w.heap.size) [.slice a5 code.length c5] code := HX.out.2.2.agree _ hL.keep.agreeNo
    have q5 := blk_cell hL.p
    have HL5 := Lib.hid (And.intro hL hX5)
    clear q1 hL hX5
    go_wp2_with fail
    have hW : CkG (w5.alloc (.cells (((Tryz.zeroCells231.setIfInBounds 0 (Value.int IntKind.i64 args)).setIfInBounds 1 v4).setIfInBounds 2 (Value.slice a5 code.length c5)) 231)) w5.heap.size [.int .i64 args, v4, .slice a5 code.length c5] (List.replicate 256 0) lk0 := by
      rw [Tryz.zeroCk]
      exact ⟨blk_new _ _, rfl, List.length_replicate, List.length_replicate⟩
    generalize (((Tryz.zeroCells231.setIfInBounds 0 (Value.int IntKind.i64 args)).setIfInBounds 1 v4).setIfInBounds 2 (Value.slice a5 code.length c5)) = C at *
    have hL6 := HL5.out.1.more ((Keep.refl (One w5.heap.size) w5).alloc (.cells C 231))
    have hX6 : Rd (.slice instrSh) (w5.alloc (.cells C 231)) (Lt w.heap.size) [.slice a5 code.length c5] code := HL5.out.2.agree _ ((Keep.refl No w5).alloc _).agreeNo
    have HC6 := Lib.hid (And.intro hW (And.intro hL6 hX6))
    clear hW hL6 hX6 q5
    generalize w5.alloc (.cells C 231) = w6 at *
    generalize w5.heap.size = b at *
    have hXk : RowKit.Hid (∀ W W', Rd (.slice instrSh) W (Lt w.heap.size) [.slice a5 code.length c5] code → Keep (One b) W W' → Rd (.slice instrSh) W' (Lt w.heap.size) [.slice a5 code.length c5] code) := fun W W' h hk => h.agree _ (hk.agree fun k _ hs e => by
      have h1 : k < w.heap.size := hs
      have h2 : k = b := e
      have := HC6.out.2.1.lt
      omega)
    go_loopg [23] 256 (fun g i wr => ∃ k : Nat, k ≤ 256 ∧ g = 256 - k ∧ i = .int .i64 k ∧ RowKit.Hid (CkG wr b [.int .i64 args, v4, .slice a5 code.length c5] (List.replicate k (-1) ++ List.replicate (256 - k) 0) lk0 ∧ Look0 w b args v4 (.slice a5 code.length c5) wr ∧ Rd (.slice instrSh) wr (Lt w.heap.size) [.slice a5 code.length c5] code))
    case atStart => exact ⟨0, by omega, by omega, rfl, HC6.out⟩
    case round =>
      obtain ⟨k, hk, rfl, rfl, HR⟩ := hrel
      by_cases hlt : k < 256
      · have j1 : (k : Int) < 256 := by omega
        have j0 : (0 : Int) ≤ k := by omega
        have hlen : k < (List.replicate k (-1 : Int) ++ List.replicate (256 - k) 0).length := by simp; omega
        have q0 := HR.out.1.depth k hlen
        have z0 := blk_fro HR.out.1.blk (3 + k)
        have hput := HR.out.1.put k hlen (-1)
        rw [fill_set (-1) 0 k hlt] at hput
        have HS := Lib.hid (And.intro hk (And.intro hlt hput))
        generalize ((List.replicate k (-1 : Int) ++ List.replicate (256 - k) 0)[k]'hlen) = dd at *
        clear hk hlt hput
        go_wp2_with fail
        go_roundg (256 - (k + 1))
        case measure => have := HS.out.2.1; omega
        case rel => exact ⟨k + 1, by have := HS.out.2.1; omega, rfl, by simp, HS.out.2.2, HR.out.2.1.more (keep_set _ _ _ _), hXk.out _ _ HR.out.2.2 (keep_set _ _ _ _)⟩
      · obtain rfl : k = 256 := by omega
        have j1 : ((256 : Nat) : Int) = 256 := rfl
        rw [j1]
        have hC := HR.out.1
        rw [Nat.sub_self, List.replicate_zero, List.append_nil] at hC
        have q0 := hC.depth 0 (by simp)
        have z0 := blk_fro hC.blk (3 + 0)
        have hput := hC.put 0 (by simp) 0
        have HP7 : RowKit.Hid (CkG (wr.setCell ⟨b, 3, none⟩ (.int .i64 0)) b [.int .i64 args, v4, .slice a5 code.length c5] dep0 lk0) := hput
        have HS7 := Lib.hid (And.intro (HR.out.2.1.more (keep_set wr b 3 (.int .i64 0))) (hXk.out _ _ HR.out.2.2 (keep_set wr b 3 (.int .i64 0))))
        clear hk hlt hC hput
        go_upto_region 12 with fail
        clear q0 z0
        generalize wr.setCell ⟨b, 3, none⟩ (.int .i64 0) = w7 at *
        have HRES : RowKit.Hid (lk0.count false = 256 ∧ ∀ d ∈ dep0, -1 ≤ d ∧ d ≤ 32) := ⟨by decide, mem_set_bd (fun d hd => by rw [List.eq_of_mem_replicate hd]; decide) (by decide) (by decide)⟩
        go_loopg [] 256 (fun g wq => ∃ (D : List Int) (L : List Bool), g = L.count false ∧ RowKit.Hid (CkG wq b [.int .i64 args, v4, .slice a5 code.length c5] D L ∧ Look0 w b args v4 (.slice a5 code.length c5) wq ∧ Rd (.slice instrSh) wq (Lt w.heap.size) [.slice a5 code.length c5] code ∧ runP code (L.count false + 1) D L = res ∧ ∀ d ∈ D, -1 ≤ d ∧ d ≤ 32))
        case atStart => exact ⟨dep0, lk0, HRES.out.1.symm, HP7.out, HS7.out.1, HS7.out.2, by rw [HRES.out.1]; exact HC.out.2.2, HRES.out.2⟩
        case round =>
          obtain ⟨D, L, rfl, HQ⟩ := hrel
          have hrun := HQ.out.2.2.2.1
          unfold runP at hrun
          have hnx := next_g wr b (.int .i64 args) v4 a5 code.length c5 D L HQ.out.1 HC.out.1.2
          unfold GivesNx at hnx
          cases hn : nextP code.length D L with
          | none =>
            rw [hn] at hrun hnx
            simp only at hrun
            subst hrun
            simp only [Option.getD_none, Option.isSome_none] at hnx
            have HH := Lib.hid (show pgmR (.inr D) = (0, 0) from rfl)
            clear hn
            go_wp2_with fail
            refine hnx.mono ?_
            clear hnx
            rintro e w8 ⟨rfl, rfl⟩
            go_upto_region 14 with fail
            have L1 := HQ.out.2.1.lt
            have hlen5 := HC.out.1
            have p1 := blk_cell HQ.out.2.1.p
            have p2 := blk_cell HQ.out.2.1.d
            have p3 := blk_cell HQ.out.2.1.e
            have p4 := blk_cell HQ.out.2.1.a
            have f2 := blk_fro HQ.out.2.1.d
            have f3 := blk_fro HQ.out.2.1.e
            have f4 := blk_fro HQ.out.2.1.a
            have hr0 := depths_rd HQ.out.1 HQ.out.2.2.2.2 code.length hlen5.2
            have hcl : (cutAt D code.length).length = code.length := by have := HQ.out.1.d; unfold cutAt; rw [List.length_take]; omega
            obtain ⟨i0, hi0, hz0, hz1, hz2⟩ := info_parts Tryz.infoI
            obtain ⟨a9, c9, w9, hrun, hk9⟩ := app_nil (hr0.agree (.slice (.int .i64)) ((Keep.refl No w8).drew).agreeNo) 22 3 22 i0 _ 8 Tryz.underlying22 hi0 hz0 hz1 hz2 rfl (by rw [hcl]; omega) (by decide)
            rw [hcl] at hrun
            have H9 := Lib.hid (HQ.out.2.1.more (((Keep.refl (One b) w8).drew).thenNo hk9))
            have g2 := blk_cell H9.out.d
            have g3 := blk_cell H9.out.e
            have g4 := blk_cell H9.out.a
            have e2 := blk_fro H9.out.d
            have e3 := blk_fro H9.out.e
            have e4 := blk_fro H9.out.a
            have j6 : (code.length : Int) ≤ 256 := by omega
            have j7 : (0 : Int) ≤ code.length := by omega
            clear hr0 hk9 hcl hlen5
            refine wp_nopc ?_
            refine wp_region_canw [0, 1, 2, 3, 4, 5, 6, 7, 8, 9, 10, 11] [8, 9, 10, 11] [] (by kernel_rfl) (by kernel_rfl) (by kernel_rfl) (by kernel_rfl) (by intro c a d v w h; exact h) ?_
            iterate 8 (refine canw_sil rfl rfl (fun K hK => ?_); go_simp; refine hK _ ?_; clear hK K)
            refine canw_loud [] rfl rfl rfl (fun K hK => ?_)
            refine wpList_app rfl (.tmp 44) (.tmp 51) 22 22 rfl rfl rfl hrun ?_
            go_wp2_with fail
            refine Mid.normal (hK _ _ stabs_nil ?_)
            clear hK K
            refine canw_loud [] rfl rfl rfl (fun K hK => ?_)
            go_wp2_with fail
            refine Mid.normal (hK _ _ stabs_nil ?_)
            clear hK K
            refine canw_loud [] rfl rfl rfl (fun K hK => ?_)
            go_wp2_with fail
            refine Mid.normal (hK _ _ stabs_nil ?_)
            clear hK K
            refine canw_loud [] rfl rfl rfl (fun K hK => ?_)
            go_wp2_with fail
            refine Mid.normal (hK _ _ stabs_nil ?_)
            clear hK K
            refine canw_nil ?_
            refine NoPc.normal ?_
            obtain ⟨y1, y2, y3⟩ := three_done (x0 := .slice a9 code.length c9) (x1 := .int .i64 0) (x2 := .int .i64 0) H9.out.d H9.out.e H9.out.a (by omega) (by omega) (by omega)
            have hfin : Keep No w (((w9.setCell ⟨w.heap.size + 1, 0, none⟩ (.slice a9 code.length c9)).setCell ⟨w.heap.size + 1 + 1, 0, none⟩ (.int .i64 0)).setCell ⟨w.heap.size + 1 + 1 + 1, 0, none⟩ (.int .i64 0)) := by
              have := H9.out.keep
              exact ((this.setNew (by show w.heap.size ≤ w.heap.size + 1; omega) _).setNew (by show w.heap.size ≤ w.heap.size + 1 + 1; omega) _).setNew (by show w.heap.size ≤ w.heap.size + 1 + 1 + 1; omega) _
            have HE := Lib.hid hfin
            clear hfin g2 g3 g4 e2 e3 e4 p1 p2 p3 p4 f2 f3 f4 hrun
            generalize (((w9.setCell ⟨w.heap.size + 1, 0, none⟩ (.slice a9 code.length c9)).setCell ⟨w.heap.size + 1 + 1, 0, none⟩ (.int .i64 0)).setCell ⟨w.heap.size + 1 + 1 + 1, 0, none⟩ (.int .i64 0)) = w10 at *
            go_wp2_with fail
            refine leaves_cons (f := 141) (args := #[.pointer (some ⟨w.heap.size + 1, 0, none⟩), .pointer (some ⟨w.heap.size + 1 + 1, 0, none⟩), .pointer (some ⟨w.heap.size + 1 + 1 + 1, 0, none⟩)]) (by simp) (by simp [go_sem]) ?_
            refine (find_idle _ _ _ _).mono ?_
            rintro e u' w'' ⟨rfl, rfl, rfl⟩
            exact ⟨.tuple #[.slice a9 code.length c9, .int .i64 0, .int .i64 0], by simp [results, Tryz.results99, go_sem, y1, y2, y3], ⟨_, rfl⟩, HE.out⟩
          | some k =>
            rw [hn] at hrun hnx
            simp only at hrun
            have hks := nextP_spec hn
            have hlL := HQ.out.1.l
            have hkL : k < L.length := by have := HC.out.1.2; omega
            have hLk : L[k] = false := by have := hks.2; simpa [hkL] using this
            have hcnt := count_set hkL hLk
            have hlook := look_g wr b (.int .i64 args) v4 a5 c5 (Lt w.heap.size) code D L HQ.out.1 HC.out.1.2 HQ.out.2.2.1 (fun i hi e => by have h1 : i < w.heap.size := hi; have := HQ.out.2.1.lt; omega) k hks.1 HQ.out.2.2.2.2 (HC.out.2.1 k hks.1)
            cases hlk : lookP code D k with
            | inl x =>
              rw [hlk] at hrun hlook
              simp only at hrun
              obtain ⟨x1, x2⟩ := x
              subst hrun
              have HH := Lib.hid (show pgmR (.inl (x1, x2)) = (x1, x2) from rfl)
              clear hcnt hlk hLk hks hn hlL hkL
              unfold GivesCk at hlook
              simp only [Option.getD_some, Option.isSome_some] at hnx hlook
              go_wp2_with fail
              refine hnx.mono ?_
              clear hnx
              rintro e w8 ⟨rfl, rfl⟩
              go_wp2_with (go_at_call 143; refine hlook.mono ?_; clear hlook; rintro e w9 ⟨rfl, hk9⟩)
              have H9 := Lib.hid (HQ.out.2.1.more hk9)
              clear hk9
              refine leaves_cons (f := 141) (args := #[.pointer (some ⟨w.heap.size + 1, 0, none⟩), .pointer (some ⟨w.heap.size + 1 + 1, 0, none⟩), .pointer (some ⟨w.heap.size + 1 + 1 + 1, 0, none⟩)]) (by simp) (by simp [go_sem]) ?_
              refine (find_caught _ _ _ x1 x2 w9 _ _ _ H9.out.d H9.out.e H9.out.a (by omega) (by omega) (by omega) (blk_lt H9.out.d) (blk_lt H9.out.e)).mono ?_
              rintro e u' w'' ⟨rfl, rfl, wx, hkx, rfl⟩
              have H10 := H9.out.more (hkx.mono fun _ _ h => h.elim)
              obtain ⟨y1, y2, y3⟩ := three_done (x0 := .slice none 0 0) (x1 := .int .i64 x1) (x2 := .int .i64 x2) H10.d H10.e H10.a (by omega) (by omega) (by omega)
              have hfin : Keep No w (((wx.setCell ⟨w.heap.size + 1, 0, none⟩ (.slice none 0 0)).setCell ⟨w.heap.size + 1 + 1, 0, none⟩ (.int .i64 x1)).setCell ⟨w.heap.size + 1 + 1 + 1, 0, none⟩ (.int .i64 x2)) := by
                have := H10.keep
                exact ((this.setNew (by show w.heap.size ≤ w.heap.size + 1; omega) _).setNew (by show w.heap.size ≤ w.heap.size + 1 + 1; omega) _).setNew (by show w.heap.size ≤ w.heap.size + 1 + 1 + 1; omega) _
              exact ⟨.tuple #[.slice none 0 0, .int .i64 x1, .int .i64 x2], by simp [results, Tryz.results99, go_sem, y1, y2, y3], ⟨_, rfl⟩, hfin⟩
            | inr D' =>
              rw [hlk] at hrun hlook
              simp only at hrun
              have hbd := lookP_bd HQ.out.2.2.2.2 hlk
              have H8 := Lib.hid (And.intro hrun (And.intro hbd hcnt))
              clear hrun hbd hcnt hlk hLk hks hn hlL hkL
              unfold GivesCk at hlook
              simp only [Option.getD_some, Option.isSome_some] at hnx
              go_wp2_with fail
              refine hnx.mono ?_
              clear hnx
              rintro e w8 ⟨rfl, rfl⟩
              go_wp2_with (go_at_call 143; refine hlook.mono ?_; clear hlook; rintro e w9 ⟨rfl, hc9, hk9⟩)
              have H9 := Lib.hid (And.intro hc9 (And.intro (HQ.out.2.1.more hk9) (hXk.out _ _ HQ.out.2.2.1 hk9)))
              clear hc9 hk9
              go_roundg ((L.set k true).count false)
              case measure => have := H8.out.2.2; omega
              case rel => exact ⟨D', L.set k true, rfl, H9.out.1, H9.out.2.1, H9.out.2.2, by rw [H8.out.2.2]; exact H8.out.1, H8.out.2.1⟩
  · have hE : pgmE args consts code = (fe, fa) := by
      unfold pgmE
      rw [hF, if_pos hfe]
    rw [hE]
    have b1 : (fe != 0) = true := by simpa using hfe
    have HL0 := Lib.hid hL0
    clear hE hF h4 h5 h5' K1 x1 hL0 hfe
    generalize Value.slice a4 consts.length c4 = v4 at *
    go_enter_defers Tryz.func99, Tryz.ntmps99
    go_wp2_with fail
    refine (HF.out _ (((HX.out.1.alloc _).alloc _).alloc _)).mono ?_
    rintro e w5 ⟨rfl, HK5⟩
    have H5 := Lib.hid (HL0.out w5 HK5.out)
    have p2 := blk_cell H5.out.d
    have p3 := blk_cell H5.out.e
    have p4 := blk_cell H5.out.a
    have f2 := blk_fro H5.out.d
    have f3 := blk_fro H5.out.e
    have f4 := blk_fro H5.out.a
    obtain ⟨y1, y2, y3⟩ := three_done (x0 := .slice none 0 0) (x1 := .int .i64 fe) (x2 := .int .i64 fa) H5.out.d H5.out.e H5.out.a (by omega) (by omega) (by omega)
    have hfin : Keep No w (((w5.setCell ⟨w.heap.size + 1, 0, none⟩ (.slice none 0 0)).setCell ⟨w.heap.size + 1 + 1, 0, none⟩ (.int .i64 fe)).setCell ⟨w.heap.size + 1 + 1 + 1, 0, none⟩ (.int .i64 fa)) := by
      have := H5.out.keep
      exact ((this.setNew (by show w.heap.size ≤ w.heap.size + 1; omega) _).setNew (by show w.heap.size ≤ w.heap.size + 1 + 1; omega) _).setNew (by show w.heap.size ≤ w.heap.size + 1 + 1 + 1; omega) _
    have HE := Lib.hid (And.intro hfin (And.intro y1 (And.intro y2 y3)))
    clear hfin y1 y2 y3
    go_wp2_with fail
    clear p2 p3 p4 f2 f3 f4
    exact ⟨.tuple #[.slice none 0 0, .int .i64 fe, .int .i64 fa], by simp [results, Tryz.results99, go_sem, HE.out.2.1, HE.out.2.2.1, HE.out.2.2.2], ⟨_, rfl⟩, HE.out.1⟩
set_option maxRecDepth 10000 in
theorem pgCheck_g {w : World} {S T : Nat → Prop} {args : Int} {a4 a5 : Option Addr} {c4 c5 : Nat} {consts : List Val} {code : List Ins} (h4 : Rd (.slice valueSh) w S [.slice a4 consts.length c4] consts) (h5 : Rd (.slice instrSh) w T [.slice a5 code.length c5] code) (W : World) (hW : Keep No w W) :
    Calls Tryz.prog 50 #[.agg #[.int .i64 args, .slice a4 consts.length c4, .slice a5 code.length c5]] W fun en w2 => en = .returned (.tuple #[.int .i64 (pgmE args consts code).1, .int .i64 (pgmE args consts code).2]) ∧ Keep No W w2 := by
  have K1 := (Keep.refl No W).alloc (.cells #[.int .i64 args, .slice a4 consts.length c4, .slice a5 code.length c5] 27)
  have hW' := hW.trans K1
  obtain ⟨er, at', hE⟩ : ∃ er at', pgmE args consts code = (er, at') := ⟨_, _, rfl⟩
  have hf := find_g _ S T args a4 a5 c4 c5 consts code (h4.agree _ hW'.agreeNo) (h5.agree _ hW'.agreeNo)
  rw [hE] at hf ⊢
  have hc := hf.mono (R' := fun e w2 => ∃ v, e = .returned (.tuple #[v, .int .i64 er, .int .i64 at']) ∧ RowKit.Hid (Keep No W w2)) (by
    rintro e w2 ⟨⟨v, rfl⟩, hk⟩
    exact ⟨v, rfl, K1.trans hk⟩)
  clear K1 hW hW' h4 h5 hE hf
  generalize Value.slice a4 consts.length c4 = v4 at *
  generalize Value.slice a5 code.length c5 = v5 at *
  go_enter Tryz.func50, Tryz.ntmps50
  go_wp2_with (go_at_call 99; refine hc.mono ?_; clear hc; rintro e w2 ⟨v, rfl, HK⟩)
  go_ret2
  exact ⟨rfl, HK.out⟩
theorem pgSays_any {w : World} {S T : Nat → Prop} {args : Int} {a4 a5 : Option Addr} {c4 c5 : Nat} {consts : List Val} {code : List Ins} (h4 : Rd (.slice valueSh) w S [.slice a4 consts.length c4] consts) (h5 : Rd (.slice instrSh) w T [.slice a5 code.length c5] code) :
    PgSays w (.int .i64 args) (.slice a4 consts.length c4) (.slice a5 code.length c5) (pgmE args consts code).1 := fun W hW => (pgCheck_g h4 h5 W hW).mono (by
  rintro e w2 ⟨rfl, hk⟩
  exact ⟨⟨_, rfl⟩, hk⟩)
end Go.Proofs.YtfgdnakfikpmpaaGreatDoor
