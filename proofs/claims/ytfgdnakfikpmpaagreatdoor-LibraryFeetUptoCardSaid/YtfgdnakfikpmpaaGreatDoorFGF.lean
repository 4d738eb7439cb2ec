/-
  Parts of what is proved for this claim; each declaration is one of the seat's texts.
-/
import Derived.Test.YtfgdnakfikpmpaaGreatDoorFGD
import Derived.BigQuiet
import Derived.Handy
import Derived.Lib.Zigzag
import Derived.Deep.DeepCutAuto
set_option linter.unusedVariables false
set_option linter.unusedSimpArgs false
namespace Go.Proofs.YtfgdnakfikpmpaaGreatDoor
open Go Go.RowKit Go.Deep
theorem bytes_at {w : World} {S : Nat → Prop} {v : Value} {l : Bytes} (h : Rd bytesSh w S [v] l) :
    ∃ a c, v = .slice a l.length c ∧ l.length ≤ c ∧ c ≤ maxLen ∧ (a = none → l = [] ∧ c = 0) ∧ ∀ i (hi : i < l.length), ∃ b off, a = some ⟨b, off, none⟩ ∧ S b ∧ b < w.heap.size ∧ w.cell? ⟨b, off + i, none⟩ = some (.int .u8 l[i]) ∧ w.frozen? ⟨b, off + i, none⟩ = false ∧ 0 ≤ l[i] ∧ l[i] < 256 := by
  obtain ⟨a, c, e, h1, h2, h3, h4⟩ := h
  simp only [List.cons.injEq, and_true] at e
  refine ⟨a, c, e, h1, h2, h3, fun i hi => ?_⟩
  obtain ⟨b, off, row, ha, hb, hS, hl, hr, hx, hw⟩ := h4 i hi
  subst hx
  have := hr 0 (by simp)
  simp [Sh.size] at this
  simp [Lit.wf, IntKind.min, IntKind.max, IntKind.signed, IntKind.bits] at hw
  exact ⟨b, off, ha, hS, hb, this.1, this.2, by omega, by omega⟩
theorem maxLen_is : maxLen = 9223372036854775807 := rfl
end Go.Proofs.YtfgdnakfikpmpaaGreatDoor
namespace Go.Proofs.YtfgdnakfikpmpaaGreatDoor
open Go Go.RowKit Go.Deep
theorem cutU_text (l : Bytes) (k : Nat) (hk : k < l.length) (h : l[k] ≠ 123) (hc : keyC l[k] = true) : cutU (l.drop k) = (cutU (l.drop (k + 1))).map (mkPrt ⟨#[l[k].toNat.toUInt8]⟩ (-1) :: ·) := by
  rw [List.drop_eq_getElem_cons hk]
  conv => lhs; unfold cutU
  rw [if_neg h, if_pos hc]
theorem cutU_bad (l : Bytes) (k : Nat) (hk : k < l.length) (h : l[k] ≠ 123) (hc : keyC l[k] = false) : cutU (l.drop k) = none := by
  rw [List.drop_eq_getElem_cons hk]
  conv => lhs; unfold cutU
  rw [if_neg h, if_neg (by rw [hc]; exact Bool.false_ne_true)]
theorem drop3 {α : Type} (l : List α) (k : Nat) (hk : k + 2 < l.length) : l.drop k = l[k] :: l[k + 1] :: l[k + 2] :: l.drop (k + 3) := by
  rw [List.drop_eq_getElem_cons (show k < l.length by omega), List.drop_eq_getElem_cons (show k + 1 < l.length by omega), List.drop_eq_getElem_cons hk]
theorem cutU_mark (l : Bytes) (k : Nat) (hk : k + 2 < l.length) (h : l[k] = 123) (hd : 48 ≤ l[k + 1] ∧ l[k + 1] ≤ 57 ∧ l[k + 2] = 125) : cutU (l.drop k) = (cutU (l.drop (k + 3))).map (mkPrt noText (l[k + 1] - 48) :: ·) := by
  rw [drop3 l k hk, h]
  conv => lhs; unfold cutU
  rw [if_pos rfl]
  simp only
  rw [if_pos hd]
theorem cutU_nomark (l : Bytes) (k : Nat) (hk : k + 2 < l.length) (h : l[k] = 123) (hd : ¬ (48 ≤ l[k + 1] ∧ l[k + 1] ≤ 57 ∧ l[k + 2] = 125)) : cutU (l.drop k) = none := by
  rw [drop3 l k hk, h]
  conv => lhs; unfold cutU
  rw [if_pos rfl]
  simp only
  rw [if_neg hd]
theorem cutU_short (l : Bytes) (k : Nat) (hk : k < l.length) (h : l[k] = 123) (hs : ¬ k + 2 < l.length) : cutU (l.drop k) = none := by
  rw [List.drop_eq_getElem_cons hk, h]
  conv => lhs; unfold cutU
  rw [if_pos rfl]
  have hl : (l.drop (k + 1)).length ≤ 1 := by simp; omega
  match l.drop (k + 1), hl with
  | [], _ => rfl
  | [_], _ => rfl
  | _ :: _ :: _, h => simp at h
def CutTo (l : Bytes) (k : Nat) (out : List Prt) : Prop := cutU l = (cutU (l.drop k)).map (out ++ ·) ∧ out.length ≤ k
theorem CutTo.start (l : Bytes) : CutTo l 0 [] := ⟨by simp, Nat.le_refl _⟩
theorem CutTo.text {l : Bytes} {k : Nat} {out : List Prt} (h : CutTo l k out) (hk : k < l.length) (hn : l[k] ≠ 123) (hc : keyC l[k] = true) : CutTo l (k + 1) (out ++ [mkPrt ⟨#[l[k].toNat.toUInt8]⟩ (-1)]) := by
  refine ⟨?_, by have := h.2; simp; omega⟩
  rw [h.1, cutU_text l k hk hn hc, Option.map_map]
  congr 1
  funext r
  simp
theorem CutTo.mark {l : Bytes} {k : Nat} {out : List Prt} (h : CutTo l k out) (hk : k + 2 < l.length) (hn : l[k] = 123) (hd : 48 ≤ l[k + 1] ∧ l[k + 1] ≤ 57 ∧ l[k + 2] = 125) : CutTo l (k + 3) (out ++ [mkPrt noText (l[k + 1] - 48)]) := by
  refine ⟨?_, by have := h.2; simp; omega⟩
  rw [h.1, cutU_mark l k hk hn hd, Option.map_map]
  congr 1
  funext r
  simp
theorem CutTo.none {l : Bytes} {k : Nat} {out : List Prt} (h : CutTo l k out) (hn : cutU (l.drop k) = .none) : cutU l = .none := by
  rw [h.1, hn]; rfl
theorem CutTo.done {l : Bytes} {out : List Prt} (h : CutTo l l.length out) : cutU l = some out := by
  rw [h.1, List.drop_length]
  simp [cutU]
theorem cutT_some {t : ByteArray} (h1 : 1 ≤ t.size) (h2 : t.size ≤ 64) : cutT t = cutU (bytesOf t) := by
  unfold cutT
  rw [if_neg (by omega)]
theorem cutT_none {t : ByteArray} (h : t.size = 0 ∨ 64 < t.size) : cutT t = none := by
  unfold cutT
  rw [if_pos h]
theorem cutU_arg : ∀ (n : Nat) (l : Bytes), l.length ≤ n → ∀ out, cutU l = some out → ∀ p ∈ out, -1 ≤ p.arg ∧ p.arg ≤ 9 ∧ p.text.size ≤ 1 := by
  intro n
  induction n with
  | zero =>
    intro l hl out h p hp
    have : l = [] := List.length_eq_zero_iff.1 (by omega)
    subst this
    simp [cutU] at h
    subst h
    cases hp
  | succ n ih =>
    intro l hl out h p hp
    match l, hl with
    | [], _ => simp [cutU] at h; subst h; cases hp
    | c :: r, hl =>
      conv at h => lhs; unfold cutU
      by_cases hc : c = 123
      · rw [if_pos hc] at h
        match r, hl with
        | [], _ => cases h
        | [_], _ => cases h
        | d :: e :: t, hl =>
          simp only at h
          by_cases hd : 48 ≤ d ∧ d ≤ 57 ∧ e = 125
          · rw [if_pos hd, Option.map_eq_some_iff] at h
            obtain ⟨o, ho, rfl⟩ := h
            rcases List.mem_cons.1 hp with rfl | hp
            · exact ⟨by show (-1 : Int) ≤ d - 48; omega, by show d - 48 ≤ 9; omega, Nat.zero_le _⟩
            · exact ih t (by simp at hl; omega) o ho p hp
          · rw [if_neg hd] at h; cases h
      · rw [if_neg hc] at h
        by_cases hk : keyC c = true
        · rw [if_pos hk, Option.map_eq_some_iff] at h
          obtain ⟨o, ho, rfl⟩ := h
          rcases List.mem_cons.1 hp with rfl | hp
          · exact ⟨by show (-1 : Int) ≤ -1; decide, by show (-1 : Int) ≤ 9; decide, Nat.le_refl _⟩
          · exact ih r (by simp at hl; omega) o ho p hp
        · rw [if_neg hk] at h; cases h
theorem cutU_len : ∀ (n : Nat) (l : Bytes), l.length ≤ n → ∀ out, cutU l = some out → out.length ≤ l.length := by
  intro n
  induction n with
  | zero =>
    intro l hl out h
    have : l = [] := List.length_eq_zero_iff.1 (by omega)
    subst this
    simp [cutU] at h
    subst h
    exact Nat.le_refl _
  | succ n ih =>
    intro l hl out h
    match l, hl with
    | [], _ => simp [cutU] at h; subst h; exact Nat.le_refl _
    | c :: r, hl =>
      conv at h => lhs; unfold cutU
      by_cases hc : c = 123
      · rw [if_pos hc] at h
        match r, hl with
        | [], _ => cases h
        | [_], _ => cases h
        | d :: e :: t, hl =>
          simp only at h
          by_cases hd : 48 ≤ d ∧ d ≤ 57 ∧ e = 125
          · rw [if_pos hd, Option.map_eq_some_iff] at h
            obtain ⟨o, ho, rfl⟩ := h
            have := ih t (by simp at hl; omega) o ho
            simp; omega
          · rw [if_neg hd] at h; cases h
      · rw [if_neg hc] at h
        by_cases hk : keyC c = true
        · rw [if_pos hk, Option.map_eq_some_iff] at h
          obtain ⟨o, ho, rfl⟩ := h
          have := ih r (by simp at hl; omega) o ho
          simp; omega
        · rw [if_neg hk] at h; cases h
theorem cutT_arg {t : ByteArray} {out : List Prt} (h : cutT t = some out) : (∀ p ∈ out, -1 ≤ p.arg ∧ p.arg ≤ 9 ∧ p.text.size ≤ 1) ∧ out.length ≤ 64 := by
  unfold cutT at h
  split at h
  · cases h
  · rename_i hn
    refine ⟨cutU_arg _ _ (Nat.le_refl _) out h, ?_⟩
    have := cutU_len _ _ (Nat.le_refl _) out h
    rw [bytesOf_length] at this
    omega
end Go.Proofs.YtfgdnakfikpmpaaGreatDoor
namespace Go.Proofs.YtfgdnakfikpmpaaGreatDoor
open Go Go.RowKit Go.Deep
theorem run_string_back {P : Program} {w : World} {S : Nat → Prop} {l : Bytes} (src dst e : TypeId) (a : Option Addr) (c n : Nat) (hs : P.underlying src = some (.slice e)) (he : P.underlying e = some (.int .u8)) (hd : P.underlying dst = some .string)
    (h : Rd bytesSh w S [.slice a n c] l) : (convert src dst (.slice a n c)).run P w = .ok (.string (textOf l)) w := by
  obtain ⟨a', c', e1, -, -, h3, h4⟩ := bytes_at h
  simp only [Value.slice.injEq] at e1
  obtain ⟨rfl, rfl, rfl⟩ := e1
  cases a with
  | none =>
    obtain ⟨rfl, -⟩ := h3 rfl
    rw [run_convert_bytes_string w src dst e _ _ _ hs he hd]
    simp [Conv.bytesToString, textOf]
    rfl
  | some a =>
    have := run_convert_bytes_back w src dst e a c (l.map fun x => UInt8.ofNat x.toNat) hs he hd fun j hj => by
      simp only [List.length_map] at hj
      obtain ⟨b, off, ea, -, -, hc, -, h0, h1⟩ := h4 j hj
      simp only [Option.some.injEq] at ea
      subst ea
      rw [Addr.add_lit, hc, List.getElem_map]
      congr 2
      rw [UInt8.toNat_ofNat', Nat.mod_eq_of_lt (by omega)]
      omega
    rw [List.length_map] at this
    exact this
end Go.Proofs.YtfgdnakfikpmpaaGreatDoor
namespace Go.Proofs.YtfgdnakfikpmpaaGreatDoor
open Go Go.RowKit Go.Deep
def Looks (w : World) (x : Value) (e : Ending) (w' : World) : Prop := ∃ n, e = .returned x ∧ w' = w.drewN n
theorem clone_big {P : Program} {w : World} {S : Nat → Prop} {v : Value} {s : Sh} {l : List s.T} (h : Rd (.slice s) w S [v] l) (hf : s.flat = true) (t e ty : TypeId) (i : TypeInfo) (z : Value) (bytes : Nat)
    (ht : P.underlying t = some (.slice e)) (hi : P.info? e = some i) (hz : i.zero = some z) (hsz : i.size = s.size) (hby : i.bytes = bytes) (hzs : z.cells.size = s.size) (hl : l.length ≤ 140737488355328) (hb : l.length * bytes ≤ 140737488355328) :
    ∃ a c w', (Builtin.append_ #[t, t] ty #[.slice (some ⟨w.heap.size, 0, none⟩) 0 0, v]).run P (w.alloc (.cells #[] e)) = .ok (.slice a l.length c) w' ∧ Own s e w' (Fr w.heap.size w'.heap.size) (.slice a l.length c) l ∧ Keep No w w' := by
  obtain ⟨rows, hrl, hr, hsrc⟩ := Rd.rows h
  have h0 : OwnRows (w.alloc (.cells #[] e)) e s.size (.slice (some ⟨w.heap.size, 0, none⟩) 0 0) (some w.heap.size) [] :=
    ⟨fun _ h => (by cases h), .inr ⟨w.heap.size, 0, 0, #[], rfl, rfl, heap_alloc_new w _, Nat.le_refl _, Nat.zero_le _, by simp, by simp⟩⟩
  have hag : Agree S w (w.alloc (.cells #[] e)) := ((Keep.refl No w).alloc _).agreeNo
  obtain ⟨a, c, w', g', hrun, ho, hg', hk, hs⟩ := own_append h0 t t ty i z bytes ht hi hz hsz hby hzs (hsrc P t e ht _ hag) (fun r hr' => by
    obtain ⟨j, hj, rfl⟩ := List.getElem_of_mem hr'
    exact (hr j hj (by omega)).length s) (by simp; omega) (by simpa [hrl] using hb)
  simp only [List.length_nil, Nat.zero_add, hrl, List.nil_append] at hrun ho
  refine ⟨a, c, w', hrun, ?_, ((Keep.refl No w).alloc _).then hk fun k hk hg => ?_⟩
  · refine ⟨g', rows, No, ho, hrl, fun i hi hi' => Rd.ofFlat s hf (hr i hi hi'), fun b hb => ⟨?_, fun x => x⟩, fun _ x => x.elim⟩
    have := ho.lt hb
    rcases hg' with rfl | rfl
    · cases hb; exact ⟨Nat.le_refl _, this⟩
    · cases hb; exact ⟨by simp, this⟩
  · simp only [Option.some.injEq] at hg; omega
theorem Tryz.infoByte : (Tryz.prog.info? 5).map (fun i => (i.zero, i.size, i.bytes)) = some (some (.int .u8 0), 1, 1) := by kernel_rfl
end Go.Proofs.YtfgdnakfikpmpaaGreatDoor
namespace Go.Proofs.YtfgdnakfikpmpaaGreatDoor
open Go Go.RowKit Go.Deep
def OwnB (w0 w : World) (v : Value) (l : Bytes) : Prop := Own (.int .u8) 5 w (Fr w0.heap.size w.heap.size) v l ∧ Keep No w0 w
theorem flat_rows {w : World} {T : Nat → Prop} (l : Bytes) (h : AllB l) (i : Nat) (hi : i < (l.map fun x => [Value.int .u8 x]).length) (hi' : i < l.length) : Rd (.int .u8) w T (l.map fun x => [Value.int .u8 x])[i] l[i] := by
  have := h l[i] (List.getElem_mem hi')
  refine ⟨by simp, ?_⟩
  simp [Lit.wf, IntKind.min, IntKind.max, IntKind.signed, IntKind.bits]
  omega
theorem flat_flatten (l : Bytes) : (l.map fun x => [Value.int .u8 x]).flatten = l.map (Value.int .u8) := by
  induction l with
  | nil => rfl
  | cons x l ih => simp [ih]
theorem app_src {w0 w w1 : World} {v : Value} {l : Bytes} (h : OwnB w0 w v l) (hk : Keep No w w1) {u : TypeId} {x : Value} {xs : Bytes} (hs : Src Tryz.prog 1 u x xs.length (xs.map (Value.int .u8)) w1) (hx : AllB xs) (hl : l.length + xs.length ≤ 140737488355328) :
    ∃ a c w', (Builtin.append_ #[123, u] 123 #[v, x]).run Tryz.prog w1 = .ok (.slice a (l.length + xs.length) c) w' ∧ OwnB w0 w' (.slice a (l.length + xs.length) c) (l ++ xs) := by
  obtain ⟨i0, hi, hz0, hz1, hz2⟩ := info_parts Tryz.infoByte
  obtain ⟨ho, hk0⟩ := h
  have ho := ho.agree (k := hk.agreeNo)
  obtain ⟨g, rows, T, h1, h2, h3, h4, h5⟩ := ho
  have hxr := flat_flatten xs
  have hk1 : Keep No w0 w1 := hk0.trans hk
  obtain ⟨a, c, w', g', hr, ho', hg', hk', hsz⟩ := own_append h1 123 u 123 i0 _ 1 Tryz.underlying123 hi hz0 hz1 hz2 rfl (x := x) (news := xs.map fun x => [Value.int .u8 x]) (by
    rw [List.length_map, hxr]; exact hs) (fun r hr => by obtain ⟨y, -, rfl⟩ := List.mem_map.1 hr; rfl) (by rw [List.length_map, h2]; omega) (by rw [List.length_map, h2]; omega)
  rw [List.length_map, h2] at hr ho'
  have hge := hk1.size
  have hge' := hk.size
  refine ⟨a, c, w', hr, ⟨g', rows ++ xs.map (fun x => [Value.int .u8 x]), No, ho', by simp [h2], fun i hi hi' => ?_, fun b hb => ⟨?_, fun x => x⟩, fun _ x => x.elim⟩, hk1.then hk' fun i hi hg => ?_⟩
  · by_cases hlt : i < rows.length
    · rw [List.getElem_append_left hlt, List.getElem_append_left (by omega)]
      exact Rd.ofFlat _ rfl (h3 i hlt (by omega))
    · simp only [List.length_append, List.length_map] at hi hi'
      have e1 : (rows ++ xs.map fun x => [Value.int .u8 x])[i]'(by simp; omega) = (xs.map fun x => [Value.int .u8 x])[i - rows.length]'(by simp; omega) := List.getElem_append_right (by omega)
      have e2 : (l ++ xs)[i]'(by simp; omega) = xs[i - l.length]'(by omega) := List.getElem_append_right (by omega)
      rw [e1, e2]
      have e3 : xs[i - l.length]'(by omega) = xs[i - rows.length]'(by omega) := by simp only [h2]
      rw [e3]
      exact flat_rows xs hx _ _ _
  · have hlt := ho'.lt hb
    rcases hg' with rfl | rfl
    · exact ⟨(h4 b hb).1.1, hlt⟩
    · cases hb; exact ⟨hge, hlt⟩
  · have := (h4 i hg).1.1
    omega
theorem app_byte {w0 w : World} {v : Value} {l : Bytes} (h : OwnB w0 w v l) (x : Int) (h0 : 0 ≤ x) (h1 : x < 256) (hl : l.length + 1 ≤ 140737488355328) :
    ∃ a c w', (Builtin.append_ #[123, 123] 123 #[v, .slice (some ⟨w.heap.size, 0, none⟩) 1 1]).run Tryz.prog (w.alloc (.cells #[.int .u8 x] 5)) = .ok (.slice a (l.length + 1) c) w' ∧ OwnB w0 w' (.slice a (l.length + 1) c) (l ++ [x]) :=
  app_src h ((Keep.refl No w).alloc _) (xs := [x]) (Src.ofBlock Tryz.underlying123 w.heap.size 1 1 #[.int .u8 x] 5 _ (blk_new w _) rfl (fun u hu => by simp at hu; subst hu; rfl)) (AllB.cons h0 h1 .nil) hl
end Go.Proofs.YtfgdnakfikpmpaaGreatDoor
namespace Go.Proofs.YtfgdnakfikpmpaaGreatDoor
open Go Go.RowKit Go.Deep
theorem OwnB.rd {w0 w : World} {v : Value} {x : Bytes} (h : OwnB w0 w v x) : Rd bytesSh w (Fr w0.heap.size w.heap.size) [v] x := Own.rd h.1
end Go.Proofs.YtfgdnakfikpmpaaGreatDoor
namespace Go.Proofs.YtfgdnakfikpmpaaGreatDoor
open Go Go.RowKit Go.Deep
theorem plain_any (c : Int) (w : World) : Calls Tryz.prog 160 #[.int .u8 c] w fun e w' => e = .returned (.bool (plainC c)) ∧ w' = w := by
  unfold plainC
  by_cases h1 : 32 ≤ c
  · by_cases h2 : c ≤ 126
    · go_enter Tryz.func160, Tryz.ntmps160
      go_wp2
      go_ret
      simp [h1, h2]
    · go_enter Tryz.func160, Tryz.ntmps160
      go_wp2
      go_ret
      simp [h1, h2]
  · go_enter Tryz.func160, Tryz.ntmps160
    go_wp2
    go_ret
    simp; omega
theorem bytesOf_get (s : ByteArray) (i : Nat) (h : i < (bytesOf s).length) (h' : i < s.size) : (bytesOf s)[i] = (s[i].toNat : Int) := by
  simp only [bytesOf, List.getElem_map, Array.getElem_toList]; rfl
theorem all_take (l : Bytes) (p : Int → Bool) (k : Nat) (hk : k < l.length) (h : (l.take k).all p = true) : (l.take (k + 1)).all p = p l[k] := by
  rw [List.take_succ_eq_append_getElem hk, List.all_append, h]; simp
theorem all_false (l : Bytes) (p : Int → Bool) (k : Nat) (hk : k < l.length) (h : p l[k] = false) : l.all p = false := by
  rw [Bool.eq_false_iff]; intro hh; rw [List.all_eq_true] at hh; have := hh l[k] (List.getElem_mem hk); rw [h] at this; cases this
set_option maxHeartbeats 1000000 in
theorem printable_any (s : ByteArray) (hs : s.size ≤ 9223372036854775807) (w : World) : Calls Tryz.prog 116 #[.string s] w fun e w' => e = .returned (.bool (plainB s)) ∧ w' = w := by
  go_enter Tryz.func116, Tryz.ntmps116
  go_wp2_with fail
  go_loopw [6] (fun i wr => ∃ k : Nat, k ≤ s.size ∧ i = .int .i64 k ∧ wr = w ∧ ((bytesOf s).take k).all plainC = true) (fun i _ => s.size - (intOf i).toNat)
  case atStart => exact ⟨0, by omega, rfl, rfl, by simp⟩
  case round =>
    obtain ⟨k, hk, rfl, rfl, ha⟩ := hrel
    by_cases hlt : k < s.size
    · have j1 : (k : Int) < s.size := by omega
      have j0 : (0 : Int) ≤ k := by omega
      have hl : k < (bytesOf s).length := by rw [bytesOf_length]; exact hlt
      have hg := bytesOf_get s k hl hlt
      have hc := plain_any (s[k].toNat : Int) wr
      rw [← hg] at hc
      cases hp : plainC (bytesOf s)[k] with
      | true =>
        have hn := all_take _ _ k hl ha
        rw [hp] at hn hc
        rw [hg] at hc
        have HA := Lib.hid hn
        clear hn hp hg ha
        go_wp2_with (go_at_call 160; refine hc.mono ?_; clear hc; rintro e w' ⟨rfl, rfl⟩)
        go_roundw
        case rel => exact ⟨k + 1, by omega, by simp, by first | rfl | trivial, HA⟩
        case measure => simp [intOf]; omega
      | false =>
        have hn := all_false _ _ k hl hp
        rw [hp] at hc
        rw [hg] at hc
        have HA := Lib.hid hn
        clear hn hp hg ha
        go_wp2_with (go_at_call 160; refine hc.mono ?_; clear hc; rintro e w' ⟨rfl, rfl⟩)
        go_ret
        unfold plainB
        rw [show (bytesOf s).all plainC = false from HA]
        exact ⟨rfl, by first | rfl | trivial⟩
    · have j1 : ¬ (k : Int) < s.size := by omega
      have hk2 : k = (bytesOf s).length := by rw [bytesOf_length]; omega
      rw [hk2, List.take_length] at ha
      have HA := Lib.hid ha
      clear ha hk2 hk hlt hs
      go_wp2_with fail
      go_ret
      unfold plainB
      rw [show (bytesOf s).all plainC = true from HA]
      exact ⟨rfl, by first | rfl | trivial⟩
def GivesV (w : World) (x : Val) (e : Ending) (w' : World) : Prop := e = .returned (.agg #[.int .i64 x.kind, .int .i64 x.num, .string x.text]) ∧ Keep No w w'
theorem Of_any (n : Int) (w : World) : Calls Tryz.prog 286 #[.int .i64 n] w (GivesV w (mkVal 1 n noText)) := by
  go_enter Tryz.func286, Tryz.ntmps286
  go_wp2
  refine bodyPost_ret (v := .agg #[.int .i64 1, .int .i64 n, .string noText]) (by simp [results, Tryz.results286, go_sem]; rfl) rfl ⟨rfl, ?_⟩
  exact (Keep.refl _ _).alloc _
theorem Word_any (s : ByteArray) (w : World) : Calls Tryz.prog 283 #[.string s] w (GivesV w (mkVal 2 0 s)) := by
  go_enter Tryz.func283, Tryz.ntmps283
  go_wp2
  refine bodyPost_ret (v := .agg #[.int .i64 2, .int .i64 0, .string s]) (by simp [results, Tryz.results283, go_sem]) rfl ⟨rfl, ?_⟩
  exact (Keep.refl _ _).alloc _
end Go.Proofs.YtfgdnakfikpmpaaGreatDoor
namespace Go.Proofs.YtfgdnakfikpmpaaGreatDoor
open Go Go.RowKit Go.Deep
def nameBad (k : Nat) (c : Int) : Bool := decide ((c < 97 ∨ 122 < c) ∧ (k = 0 ∨ (c ≠ 95 ∧ (c < 48 ∨ 57 < c))))
def nameTo (s : ByteArray) (k : Nat) : Prop := ∀ j (hj : j < (bytesOf s).length), j < k → nameBad j (bytesOf s)[j] = false
theorem nameTo_succ {s : ByteArray} {k : Nat} (h : nameTo s k) (hk : k < (bytesOf s).length) (e : nameBad k (bytesOf s)[k] = false) : nameTo s (k + 1) := fun j hj hjk => by
  by_cases hh : j = k
  · subst hh; exact e
  · exact h j hj (by omega)
theorem nameOk_good (s : ByteArray) (h : nameTo s (bytesOf s).length) : nameOk s = (decide (1 ≤ s.size) && decide (s.size ≤ 16)) := by
  have hl := bytesOf_length s
  unfold nameOk
  have h' : ∀ j (hj : j < (bytesOf s).length), nameBad j (bytesOf s)[j] = false := fun j hj => h j hj hj
  clear h
  generalize bytesOf s = l at *
  cases l with
  | nil =>
    have : s.size = 0 := hl.symm
    simp [this]
  | cons c l =>
    have h0 := h' 0 (by simp)
    simp only [List.getElem_cons_zero, nameBad] at h0
    have h0 := of_decide_eq_false h0
    have h0 : ¬ (c < 97 ∨ 122 < c) := fun hh => h0 ⟨hh, .inl trivial⟩
    have h1 : (l.all fun c => (decide (97 ≤ c) && decide (c ≤ 122)) || decide (c = 95) || (decide (48 ≤ c) && decide (c ≤ 57))) = true := by
      rw [List.all_eq_true]
      intro x hx
      obtain ⟨i, hi, rfl⟩ := List.getElem_of_mem hx
      have h2 := h' (i + 1) (by simpa using hi)
      simp only [List.getElem_cons_succ, nameBad] at h2
      have h2 := of_decide_eq_false h2
      simp only [Bool.or_eq_true, Bool.and_eq_true, decide_eq_true_eq]
      omega
    have h3 : decide (97 ≤ c) = true := decide_eq_true (by omega)
    have h4 : decide (c ≤ 122) = true := decide_eq_true (by omega)
    have h5 : decide (1 ≤ s.size) = true := decide_eq_true (by rw [← hl]; simp)
    simp only [h1, h3, h4, h5, Bool.and_self, Bool.true_and]
theorem nameOk_bad (s : ByteArray) (j : Nat) (hj : j < (bytesOf s).length) (h : nameBad j (bytesOf s)[j] = true) : nameOk s = false := by
  unfold nameOk
  generalize bytesOf s = l at *
  cases l with
  | nil => simp at hj
  | cons c l =>
    cases j with
    | zero =>
      simp only [List.getElem_cons_zero, nameBad] at h
      have h := of_decide_eq_true h
      by_cases h3 : 97 ≤ c
      · have h4 : decide (c ≤ 122) = false := decide_eq_false (by omega)
        simp [h4]
      · simp [h3]
    | succ i =>
      simp only [List.getElem_cons_succ, nameBad] at h
      have h := of_decide_eq_true h
      have h1 : (l.all fun c => (decide (97 ≤ c) && decide (c ≤ 122)) || decide (c = 95) || (decide (48 ≤ c) && decide (c ≤ 57))) = false := by
        rw [List.all_eq_false]
        refine ⟨l[i]'(by simpa using hj), List.getElem_mem _, ?_⟩
        simp only [Bool.or_eq_true, Bool.and_eq_true, decide_eq_true_eq]
        omega
      simp only [h1, Bool.and_false, Bool.false_and]
end Go.Proofs.YtfgdnakfikpmpaaGreatDoor
namespace Go.Proofs.YtfgdnakfikpmpaaGreatDoor
open Go Go.RowKit Go.Deep
set_option maxRecDepth 10000 in
set_option maxHeartbeats 4000000 in
theorem libName_any (s : ByteArray) (hs : s.size ≤ 9223372036854775807) (w : World) : Calls Tryz.prog 44 #[.string s] w fun e w' => e = .returned (.bool (nameOk s)) ∧ w' = w := by
  have hbl := bytesOf_length s
  go_enter Tryz.func44, Tryz.ntmps44
  go_wp2_with fail
  go_loopg [7] s.size (fun g i wr => ∃ k : Nat, k ≤ s.size ∧ g = s.size - k ∧ i = .int .i64 k ∧ wr = w ∧ RowKit.Hid (nameTo s k))
  case atStart => exact ⟨0, by omega, by omega, rfl, rfl, fun _ _ h => absurd h (Nat.not_lt_zero _)⟩
  case round =>
    obtain ⟨k, hk, rfl, rfl, rfl, HN⟩ := hrel
    by_cases hlt : k < s.size
    · have j1 : (k : Int) < s.size := by omega
      have j0 : (0 : Int) ≤ k := by omega
      have j3 : (k : Int) ≤ 9223372036854775806 := by omega
      have hl : k < (bytesOf s).length := by omega
      have hg := bytesOf_get s k hl hlt
      have hr := bytesOf_allB s _ (List.getElem_mem hl)
      have hyes := fun h => nameTo_succ HN.out hl h
      have hno := fun h => nameOk_bad s k hl h
      rw [hg] at hr hyes hno
      generalize hc : (s[k].toNat : Int) = c at hr hyes hno
      have HS := Lib.hid (And.intro hk (And.intro hlt (And.intro hyes hno)))
      have HC := Lib.hid hc
      clear hg hl hs hyes hno hbl hk
      obtain ⟨bad, hbad⟩ : ∃ bad : Bool, bad = nameBad k c := ⟨_, rfl⟩
      have HBD := Lib.hid hbad
      clear hbad
      go_upto_region 5 with fail
      go_cut [35] (fun c wx => c = .bool bad ∧ wx = wr)
      case first =>
        by_cases hz : k = 0
        · subst hz
          have e0 : ((0 : Nat) : Int) = 0 := rfl
          rw [e0]
          go_wp2_with fail
          all_goals
            go_meet
            case rel => exact ⟨by rw [HBD.out]; congr 1; rw [Bool.eq_iff_iff]; simp [nameBad] <;> omega, rfl⟩
        · have hz' : (0 : Int) < k := by omega
          have HZ := Lib.hid hz
          clear hz
          by_cases h95 : c = 95
          · subst h95
            go_wp2_with fail
            all_goals
              go_meet
              case rel => exact ⟨by rw [HBD.out]; have := HZ.out; congr 1; rw [Bool.eq_iff_iff]; simp [nameBad] <;> omega, rfl⟩
          · have h95' : (c == 95) = false := by simpa using h95
            have H95 := Lib.hid h95
            clear h95
            go_wp2_with fail
            all_goals
              go_meet
              case rel => exact ⟨by rw [HBD.out]; have := HZ.out; have := H95.out; congr 1; rw [Bool.eq_iff_iff]; simp [nameBad] <;> omega, rfl⟩
      case rest =>
        obtain ⟨rfl, rfl⟩ := hcut
        cases bad with
        | true =>
          go_wp2_with fail
          go_ret
          have := HS.out.2.2.2 HBD.out.symm
          rw [this]
          exact ⟨rfl, by first | rfl | trivial⟩
        | false =>
          go_wp2_with fail
          go_roundg (s.size - (k + 1))
          case measure => have := HS.out.2.1; omega
          case rel => exact ⟨k + 1, by have := HS.out.2.1; omega, rfl, by simp, by first | rfl | trivial, HS.out.2.2.1 HBD.out.symm⟩
    · have hke : k = s.size := by omega
      have j1 : ¬ (k : Int) < s.size := by omega
      have hres := nameOk_good s (by rw [hbl, ← hke]; exact HN.out)
      by_cases h1 : 1 ≤ s.size
      · by_cases h16 : s.size ≤ 16
        · have e : nameOk s = true := by rw [hres, decide_eq_true h1, decide_eq_true h16]; rfl
          have HE := Lib.hid e
          have i1 : (1 : Int) ≤ s.size := by omega
          have i2 : (s.size : Int) ≤ 16 := by omega
          clear e hres hbl hlt hk hke h1 h16
          go_wp2_with fail
          go_ret
          rw [HE.out]
          exact ⟨rfl, by first | rfl | trivial⟩
        · have e : nameOk s = false := by rw [hres, decide_eq_false h16, Bool.and_false]
          have HE := Lib.hid e
          have i1 : (1 : Int) ≤ s.size := by omega
          have i2 : ¬ (s.size : Int) ≤ 16 := by omega
          clear e hres hbl hlt hk hke h1 h16
          go_wp2_with fail
          go_ret
          rw [HE.out]
          exact ⟨rfl, by first | rfl | trivial⟩
      · have e : nameOk s = false := by rw [hres, decide_eq_false h1, Bool.false_and]
        have HE := Lib.hid e
        have i1 : ¬ (1 : Int) ≤ s.size := by omega
        clear e hres hbl hlt hk hke h1
        go_wp2_with fail
        go_ret
        rw [HE.out]
        exact ⟨rfl, by first | rfl | trivial⟩
end Go.Proofs.YtfgdnakfikpmpaaGreatDoor
