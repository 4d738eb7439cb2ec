/-
  Parts of what is proved for this claim; each declaration is one of the seat's texts.
-/
import Derived.Test.YtfgdnakfikpmpaaGreatDoorFGM
set_option linter.unusedVariables false
set_option linter.unusedSimpArgs false
namespace Go.Proofs.YtfgdnakfikpmpaaGreatDoor
open Go Go.RowKit Go.Deep
theorem Tryz.infoText : (Tryz.prog.info? 9).map (fun i => (i.zero, i.size, i.bytes)) = some (some (.string ⟨#[]⟩), 1, 16) := by kernel_rfl
def AllT (l : List ByteArray) : Prop := ∀ x ∈ l, x.size ≤ maxLen
theorem texts_all {w : World} {S : Nat → Prop} {v : Value} {l : List ByteArray} (h : Rd (.slice .str) w S [v] l) : AllT l := fun x hx => by
  obtain ⟨i, hi, rfl⟩ := List.getElem_of_mem hx
  obtain ⟨a, c, -, -, -, -, h4⟩ := strs_at h
  obtain ⟨b, off, -, -, -, -, -, h5⟩ := h4 i hi
  exact h5
def OwnT (w0 w : World) (v : Value) (l : List ByteArray) : Prop := Own .str 9 w (Fr w0.heap.size w.heap.size) v l ∧ Keep No w0 w
theorem flatT_rows {w : World} {T : Nat → Prop} (l : List ByteArray) (h : AllT l) (i : Nat) (hi : i < (l.map fun x => [Value.string x]).length) (hi' : i < l.length) : Rd .str w T (l.map fun x => [Value.string x])[i] l[i] := by
  exact ⟨by simp, h l[i] (List.getElem_mem hi')⟩
theorem flatT_flatten (l : List ByteArray) : (l.map fun x => [Value.string x]).flatten = l.map (Value.string) := by
  induction l with
  | nil => rfl
  | cons x l ih => simp [ih]
theorem appT_src {w0 w w1 : World} {v : Value} {l : List ByteArray} (h : OwnT w0 w v l) (hk : Keep No w w1) {u : TypeId} {x : Value} {xs : List ByteArray} (hs : Src Tryz.prog 1 u x xs.length (xs.map (Value.string)) w1) (hx : AllT xs) (hl : (l.length + xs.length) * 16 ≤ 140737488355328) :
    ∃ a c w', (Builtin.append_ #[23, u] 23 #[v, x]).run Tryz.prog w1 = .ok (.slice a (l.length + xs.length) c) w' ∧ OwnT w0 w' (.slice a (l.length + xs.length) c) (l ++ xs) := by
  obtain ⟨i0, hi, hz0, hz1, hz2⟩ := info_parts Tryz.infoText
  obtain ⟨ho, hk0⟩ := h
  have ho := ho.agree (k := hk.agreeNo)
  obtain ⟨g, rows, T, h1, h2, h3, h4, h5⟩ := ho
  have hxr := flatT_flatten xs
  have hk1 : Keep No w0 w1 := hk0.trans hk
  obtain ⟨a, c, w', g', hr, ho', hg', hk', hsz⟩ := own_append h1 23 u 23 i0 _ 16 Tryz.underlying23 hi hz0 hz1 hz2 rfl (x := x) (news := xs.map fun x => [Value.string x]) (by
    rw [List.length_map, hxr]; exact hs) (fun r hr => by obtain ⟨y, -, rfl⟩ := List.mem_map.1 hr; rfl) (by rw [List.length_map, h2]; omega) (by rw [List.length_map, h2]; omega)
  rw [List.length_map, h2] at hr ho'
  have hge := hk1.size
  have hge' := hk.size
  refine ⟨a, c, w', hr, ⟨g', rows ++ xs.map (fun x => [Value.string x]), No, ho', by simp [h2], fun i hi hi' => ?_, fun b hb => ⟨?_, fun x => x⟩, fun _ x => x.elim⟩, hk1.then hk' fun i hi hg => ?_⟩
  · by_cases hlt : i < rows.length
    · rw [List.getElem_append_left hlt, List.getElem_append_left (by omega)]
      exact Rd.ofFlat _ rfl (h3 i hlt (by omega))
    · simp only [List.length_append, List.length_map] at hi hi'
      have e1 : (rows ++ xs.map fun x => [Value.string x])[i]'(by simp; omega) = (xs.map fun x => [Value.string x])[i - rows.length]'(by simp; omega) := List.getElem_append_right (by omega)
      have e2 : (l ++ xs)[i]'(by simp; omega) = xs[i - l.length]'(by omega) := List.getElem_append_right (by omega)
      rw [e1, e2]
      have e3 : xs[i - l.length]'(by omega) = xs[i - rows.length]'(by omega) := by simp only [h2]
      rw [e3]
      exact flatT_rows xs hx _ _ _
  · have hlt := ho'.lt hb
    rcases hg' with rfl | rfl
    · exact ⟨(h4 b hb).1.1, hlt⟩
    · cases hb; exact ⟨hge, hlt⟩
  · have := (h4 i hg).1.1
    omega
theorem appT_one {w0 w : World} {v : Value} {l : List ByteArray} (h : OwnT w0 w v l) (x : ByteArray) (h0 : x.size ≤ maxLen) (hl : (l.length + 1) * 16 ≤ 140737488355328) :
    ∃ a c w', (Builtin.append_ #[23, 23] 23 #[v, .slice (some ⟨w.heap.size, 0, none⟩) 1 1]).run Tryz.prog (w.alloc (.cells #[.string x] 9)) = .ok (.slice a (l.length + 1) c) w' ∧ OwnT w0 w' (.slice a (l.length + 1) c) (l ++ [x]) :=
  appT_src h ((Keep.refl No w).alloc _) (xs := [x]) (Src.ofBlock Tryz.underlying23 w.heap.size 1 1 #[.string x] 9 _ (blk_new w _) rfl (fun u hu => by simp at hu; subst hu; rfl)) (fun y hy => by simp at hy; subst hy; exact h0) hl
theorem appT_slice {w0 w : World} {v : Value} {l : List ByteArray} (h : OwnT w0 w v l) {S : Nat → Prop} {u : Value} {xs : List ByteArray} (hr : Rd (.slice .str) w S [u] xs) (hl : (l.length + xs.length) * 16 ≤ 140737488355328) :
    ∃ a c w', (Builtin.append_ #[23, 23] 23 #[v, u]).run Tryz.prog w = .ok (.slice a (l.length + xs.length) c) w' ∧ OwnT w0 w' (.slice a (l.length + xs.length) c) (l ++ xs) := by
  refine appT_src h (Keep.refl No w) (xs := xs) (u := 23) (x := u) ?_ (texts_all hr) hl
  obtain ⟨rows, hrl, hrr, hsrc⟩ := Rd.rows hr
  have := hsrc Tryz.prog 23 9 Tryz.underlying23 w (Agree.refl _ _)
  have e : rows.flatten = xs.map (Value.string) := by
    have : rows = xs.map fun x => [Value.string x] := by
      apply List.ext_getElem (by simp [hrl])
      intro i h1 h2
      have := hrr i h1 (by simpa using h2)
      rw [List.getElem_map]
      exact this.1
    rw [this, flatT_flatten]
  rw [e, hrl] at this
  exact this
theorem OwnT.nil (w : World) : OwnT w w (.slice none 0 0) [] := ⟨Own.nil _ _ _ _, Keep.refl _ _⟩
theorem OwnT.more {w0 w w' : World} {v : Value} {x : List ByteArray} (h : OwnT w0 w v x) (hk : Keep No w w') : OwnT w0 w' v x :=
  ⟨(h.1.agree (k := hk.agreeNo)).mono fun k hk' => ⟨hk'.1, Nat.lt_of_lt_of_le hk'.2 hk.size⟩, h.2.trans hk⟩
theorem OwnT.rd {w0 w : World} {v : Value} {x : List ByteArray} (h : OwnT w0 w v x) : Rd (.slice .str) w (Fr w0.heap.size w.heap.size) [v] x := Own.rd h.1
theorem OwnT.len {w0 w : World} {a : Option Addr} {n c : Nat} {x : List ByteArray} (h : OwnT w0 w (.slice a n c) x) : n = x.length := by
  obtain ⟨a', c', e, -⟩ := h.1.form
  simp only [Value.slice.injEq] at e
  exact e.2.1
def GivesT (w : World) (x : List ByteArray) (e : Ending) (w' : World) : Prop := ∃ a n c, e = .returned (.slice a n c) ∧ OwnT w w' (.slice a n c) x
theorem clone_textsApp (w : World) (S : Nat → Prop) (v : Value) (l : List ByteArray) (h : Rd (.slice .str) w S [v] l) (hl : l.length * 16 ≤ 140737488355328) :
    ∃ a c w', (Builtin.append_ #[23, 23] 23 #[.slice (some ⟨w.heap.size, 0, none⟩) 0 0, v]).run Tryz.prog (w.alloc (.cells #[] 9)) = .ok (.slice a l.length c) w' ∧ OwnT w w' (.slice a l.length c) l := by
  obtain ⟨i0, hi, hz0, hz1, hz2⟩ := info_parts Tryz.infoText
  obtain ⟨a', c', w', hrun, ho, hk⟩ := clone_big h rfl 23 9 23 i0 _ 16 Tryz.underlying23 hi hz0 hz1 hz2 rfl (by omega) hl
  exact ⟨a', c', w', hrun, ho, hk⟩
set_option maxRecDepth 10000 in
set_option maxHeartbeats 1000000 in
theorem rBoth_any (w : World) (S T : Nat → Prop) (u v : Value) (l m : List ByteArray) (h : Rd (.slice .str) w S [u] l) (h' : Rd (.slice .str) w T [v] m) (hl : (l.length + m.length) * 16 ≤ 140737488355328) :
    Calls Tryz.prog 94 #[u, v] w (GivesT w (l ++ m)) := by
  obtain ⟨a1, c1, w1, hrun1, ho⟩ := clone_textsApp w S u l h (by omega)
  obtain ⟨a2, c2, w2, hrun2, ho2⟩ := appT_slice ho (h'.agree (.slice .str) ho.2.agreeNo) hl
  obtain ⟨au, cu, rfl, -⟩ := strs_at h
  obtain ⟨av, cv, rfl, -⟩ := strs_at h'
  clear h h' hl ho
  go_enter Tryz.func94, Tryz.ntmps94
  go_wp2_with (first | (at_builtin; refine wpList_app rfl (.tmp 5) (.tmp 6) 23 23 rfl rfl rfl hrun1 ?_) | (at_builtin; refine wpList_app rfl (.tmp 7) (.tmp 8) 23 23 rfl rfl rfl hrun2 ?_))
  go_ret
  exact ⟨a2, _, c2, rfl, ho2⟩
end Go.Proofs.YtfgdnakfikpmpaaGreatDoor
namespace Go.Proofs.YtfgdnakfikpmpaaGreatDoor
open Go Go.RowKit Go.Deep
theorem insT_at (x : ByteArray) (ys : List ByteArray) (p : Nat) (hp : p ≤ ys.length) (h1 : ∀ i (hi : i < ys.length), i < p → ltT ys[i] x = true) (h2 : ∀ hi : p < ys.length, ltT ys[p] x = false) :
    insT x ys = if ∃ hi : p < ys.length, ys[p] = x then ys else ys.take p ++ x :: ys.drop p := by
  induction ys generalizing p with
  | nil =>
    have : p = 0 := by simpa using hp
    subst this
    simp [insT]
  | cons y ys ih =>
    cases p with
    | zero =>
      have := h2 (by simp)
      simp only [List.getElem_cons_zero] at this
      unfold insT
      rw [if_neg (by rw [this]; simp)]
      by_cases e : y = x
      · rw [if_pos e, if_pos ⟨by simp, by simpa using e⟩]
      · rw [if_neg e, if_neg (by rintro ⟨hi, h⟩; exact e (by simpa using h))]; rfl
    | succ p =>
      have h0 := h1 0 (by simp) (by omega)
      simp only [List.getElem_cons_zero] at h0
      unfold insT
      rw [if_pos h0, ih p (by simpa using hp) (fun i hi hip => h1 (i + 1) (by simpa using hi) (by omega)) (fun hi => h2 (by simpa using hi))]
      by_cases e : ∃ hi : p < ys.length, ys[p] = x
      · rw [if_pos e, if_pos (by obtain ⟨hi, e⟩ := e; exact ⟨by simpa using hi, by simpa using e⟩)]
      · rw [if_neg e, if_neg (by rintro ⟨hi, h⟩; exact e ⟨by simpa using hi, by simpa using h⟩)]
        simp
theorem setT_succ (l : List ByteArray) (j : Nat) (h : j < l.length) : setT (l.take (j + 1)) = insT l[j] (setT (l.take j)) := by
  unfold setT; rw [List.take_succ_eq_append_getElem h, List.foldl_append]; rfl
theorem OwnT.open' {w0 w : World} {a : Option Addr} {n c : Nat} {zs : List ByteArray} (h : OwnT w0 w (.slice a n c) zs) (hne : zs ≠ []) :
    ∃ b off cur, a = some ⟨b, off, none⟩ ∧ Fr w0.heap.size w.heap.size b ∧ w.heap[b]? = some (.cells cur 9 (0, 0)) ∧ n = zs.length ∧ n ≤ c ∧ c ≤ maxLen ∧ off + c ≤ cur.size ∧ (cur.toList.drop off).take zs.length = zs.map Value.string := by
  have hn := h.len
  obtain ⟨⟨g, rows, T, h1, h2, h3, h4, h5⟩, hk⟩ := h
  have hrow : rows.flatten = zs.map Value.string := by
    have : rows = zs.map fun x => [Value.string x] := by
      apply List.ext_getElem (by simp [h2])
      intro i hi hi'
      rw [List.getElem_map]
      exact (h3 i hi (by simpa using hi')).1
    rw [this, flatT_flatten]
  rcases h1.2 with ⟨-, e, -⟩ | ⟨b, off, cap, cur, hg, hv, hb, hl, hm, hs, ht⟩
  · subst e
    have : zs.length = 0 := by simpa using h2.symm
    exact absurd (List.length_eq_zero_iff.1 this) hne
  · simp only [Value.slice.injEq] at hv
    obtain ⟨rfl, e2, rfl⟩ := hv
    simp only [Sh.size, Nat.mul_one] at hs ht
    refine ⟨b, off, cur, rfl, (h4 b hg).1, hb, hn, by omega, hm, hs, ?_⟩
    rw [← h2, ht, hrow]
theorem OwnT.shut {w0 w : World} {b off n c : Nat} {zs : List ByteArray} {cur : Array Value} (hf : Fr w0.heap.size w.heap.size b) (hb : w.heap[b]? = some (.cells cur 9 (0, 0))) (hn : n = zs.length) (hc : n ≤ c) (hm : c ≤ maxLen) (hs : off + c ≤ cur.size)
    (ht : (cur.toList.drop off).take zs.length = zs.map Value.string) (hA : AllT zs) (hk : Keep No w0 w) : OwnT w0 w (.slice (some ⟨b, off, none⟩) n c) zs := by
  refine ⟨⟨some b, zs.map fun x => [Value.string x], No, ⟨fun r hr => by obtain ⟨y, -, rfl⟩ := List.mem_map.1 hr; rfl, .inr ⟨b, off, c, cur, rfl, by rw [List.length_map, hn], hb, by rw [List.length_map]; omega, hm, by simpa [Sh.size] using hs, ?_⟩⟩, by simp, fun i hi hi' => flatT_rows zs hA i hi hi', fun b' hb' => by cases hb'; exact ⟨hf, fun x => x⟩, fun _ x => x.elim⟩, hk⟩
  rw [List.length_map, flatT_flatten]; simpa [Sh.size] using ht
theorem OwnT.all {w0 w : World} {v : Value} {zs : List ByteArray} (h : OwnT w0 w v zs) : AllT zs := texts_all h.rd
theorem ins_cells (D : List Value) (Y : List Value) (e x : Value) (p : Nat) (hp : p ≤ Y.length) (hD : D.take (Y.length + 1) = Y ++ [e]) :
    ((D.take (p + 1) ++ (Y.drop p) ++ D.drop (p + 1 + (Y.drop p).length)).set p x).take (Y.length + 1) = Y.take p ++ x :: Y.drop p := by
  have hl : Y.length + 1 ≤ D.length := by have := congrArg List.length hD; simp at this; omega
  have hpre : ∀ i, i < Y.length → D[i]? = Y[i]? := fun i hi => by
    have := congrArg (fun t => t[i]?) hD
    simp only [List.getElem?_take, List.getElem?_append] at this
    rw [if_pos (by omega), if_pos hi] at this
    exact this
  apply List.ext_getElem?
  intro i
  rw [List.getElem?_take, List.getElem?_set]
  by_cases hi : i < Y.length + 1
  · rw [if_pos hi]
    rcases Nat.lt_trichotomy i p with h | h | h
    · rw [if_neg (by omega), List.append_assoc, List.getElem?_append_left (by simp; omega), List.getElem?_take, if_pos (by omega), hpre i (by omega), List.getElem?_append_left (by simp; omega), List.getElem?_take, if_pos h]
    · subst h
      have hl2 : (Y.take i).length = i := by simp; omega
      rw [if_pos rfl, if_pos (by simp; omega), List.getElem?_append_right (by omega), hl2, Nat.sub_self]
      rfl
    · rw [if_neg (by omega), List.append_assoc, List.getElem?_append_right (by simp; omega), List.getElem?_append_left (by simp; omega), List.getElem?_drop, List.getElem?_append_right (by simp; omega)]
      have e1 : i - (Y.take p).length = (i - p - 1) + 1 := by simp; omega
      rw [e1, List.getElem?_cons_succ, List.getElem?_drop]
      congr 1
      simp; omega
  · rw [if_neg hi, List.getElem?_eq_none (by simp; omega)]
theorem shift_drop (cur cs : List Value) (off p : Nat) (h : off + (p + 1) ≤ cur.length) :
    (cur.take (off + (p + 1)) ++ cs ++ cur.drop (off + (p + 1) + cs.length)).drop off = (cur.drop off).take (p + 1) ++ cs ++ (cur.drop off).drop (p + 1 + cs.length) := by
  have e1 : off + (p + 1) - off = p + 1 := by omega
  have e2 : off + (p + 1 + cs.length) = off + (p + 1) + cs.length := by omega
  rw [List.append_assoc, List.append_assoc, List.drop_append_of_le_length (by simp; omega), List.drop_take, List.drop_drop, e1, e2]
def fromS (b off n c k : Nat) : Value := .slice (if c = k then some ⟨b, off, none⟩ else some ⟨b, off + k, none⟩) (n - k) (c - k)
theorem ins_mem {w0 w : World} {a : Option Addr} {n c : Nat} {ys : List ByteArray} {e x : ByteArray} (h : OwnT w0 w (.slice a n c) (ys ++ [e])) (p : Nat) (hp : p ≤ ys.length) (hx : x.size ≤ maxLen) :
    ∃ b off w1, a = some ⟨b, off, none⟩ ∧ (Builtin.copy_ #[23, 23] 3 #[fromS b off n c (p + 1), fromS b off n c p]).run Tryz.prog w = .ok (.int .i64 ((ys.length - p : Nat) : Int)) w1 ∧
      (∃ u, w1.cell? ⟨b, off + p, none⟩ = some u) ∧ w1.frozen? ⟨b, off + p, none⟩ = false ∧ Keep No w0 w1 ∧ OwnT w0 (w1.setCell ⟨b, off + p, none⟩ (.string x)) (.slice a n c) (ys.take p ++ x :: ys.drop p) := by
  have hA := h.all
  have hk := h.2
  obtain ⟨b, off, cur, rfl, hf, hb, hn, hnc, hm, hs, ht⟩ := h.open' (by simp)
  have hn' : n = ys.length + 1 := by rw [hn]; simp
  have hzl : (ys ++ [e]).length = ys.length + 1 := by simp
  rw [hzl, List.map_append] at ht
  have hsz : (Tryz.prog.info? 9).map (·.size) = some 1 := by kernel_rfl
  have hAll : AllT (ys.take p ++ x :: ys.drop p) := fun y hy => by
    rcases List.mem_append.1 hy with hy | hy
    · exact hA y (List.mem_append_left _ (List.mem_of_mem_take hy))
    · rcases List.mem_cons.1 hy with rfl | hy
      · exact hx
      · exact hA y (List.mem_append_left _ (List.mem_of_mem_drop hy))
  have hcells := ins_cells (cur.toList.drop off) (ys.map Value.string) (.string e) (.string x) p (by simpa using hp) (by simpa using ht)
  have hlen : n = (ys.take p ++ x :: ys.drop p).length := by simp; omega
  have fin : ∀ (w1 : World) (cur1 : Array Value), w1.heap[b]? = some (.cells cur1 9 (0, 0)) → Keep No w0 w1 → w.heap.size ≤ w1.heap.size → cur1.size = cur.size →
      cur1.toList.drop off = (cur.toList.drop off).take (p + 1) ++ (ys.map Value.string).drop p ++ (cur.toList.drop off).drop (p + 1 + ((ys.map Value.string).drop p).length) →
      (∃ u, w1.cell? ⟨b, off + p, none⟩ = some u) ∧ w1.frozen? ⟨b, off + p, none⟩ = false ∧ Keep No w0 w1 ∧ OwnT w0 (w1.setCell ⟨b, off + p, none⟩ (.string x)) (.slice (some ⟨b, off, none⟩) n c) (ys.take p ++ x :: ys.drop p) := by
    intro w1 cur1 h1 h2 h3 h4 h5
    have hb2 := blk_set h1 (off + p) (.string x)
    refine ⟨⟨cur1[off + p]'(by omega), (blk_cell h1 (off + p)).trans (Array.getElem?_eq_getElem (by omega))⟩, blk_fro h1 _, h2, ?_⟩
    refine OwnT.shut (cur := cur1.setIfInBounds (off + p) (.string x)) ⟨hf.1, by simp; have := hf.2; omega⟩ hb2 hlen hnc hm (by simpa [h4] using hs) ?_ hAll (h2.setCell (p := ⟨b, off + p, none⟩) (fun hh => by have := hf.1; simp at hh; omega) _)
    rw [Array.toList_setIfInBounds, List.drop_set, if_neg (by omega), Nat.add_sub_cancel_left, h5, ← hlen, hn']
    have := hcells
    simp only [List.length_map] at this
    rw [this]
    simp
  by_cases hpn : p = ys.length
  · refine ⟨b, off, w, rfl, ?_, ?_⟩
    · have := run_copy_none (P := Tryz.prog) w 23 23 3 9 (if c = p + 1 then some ⟨b, off, none⟩ else some ⟨b, off + (p + 1), none⟩) (if c = p then some ⟨b, off, none⟩ else some ⟨b, off + p, none⟩) (n - (p + 1)) (c - (p + 1)) (n - p) (c - p) Tryz.underlying23 hsz (by rw [hn', hpn]; simp)
      rw [show ys.length - p = 0 by omega]
      exact this
    · refine fin w cur hb hk (Nat.le_refl _) rfl ?_
      have e1 : (ys.map Value.string).drop p = [] := by rw [List.drop_eq_nil_iff]; simp; omega
      rw [e1, List.append_nil, List.length_nil, Nat.add_zero, List.take_append_drop]
  · have e1 : ¬ c = p + 1 := by omega
    have e2 : ¬ c = p := by omega
    have hY : ((ys.map Value.string).drop p).length = ys.length - p := by simp
    have hD : ∀ i, i < ys.length → cur[off + i]? = (ys.map Value.string)[i]? := fun i hi => by
      have := congrArg (fun t => t[i]?) ht
      simp only [List.getElem?_take, List.getElem?_append] at this
      rw [if_pos (by omega), if_pos (by simpa using hi), List.getElem?_drop] at this
      simpa using this
    have hrun := run_copy_row (P := Tryz.prog) w 23 23 3 9 b (off + (p + 1)) (n - (p + 1)) (c - (p + 1)) ⟨b, off + p, none⟩ (n - p) (c - p) cur 9 ((ys.map Value.string).drop p) Tryz.underlying23 hsz hb
      (by rw [hY, hn']; show _ = min _ _; omega)
      (fun j v hj => by
        rw [List.getElem?_drop] at hj
        have hj' : p + j < ys.length := by have := (List.getElem?_eq_some_iff.1 hj).1; simpa using this
        rw [Addr.add_lit, cell_of_row w b _ cur 9 (0, 0) hb, Nat.add_assoc, hD (p + j) hj']
        exact hj)
      (by rw [hY]; omega) (fun u hu => by obtain ⟨y, -, rfl⟩ := List.mem_map.1 (List.mem_of_mem_drop hu); rfl)
    refine ⟨b, off, w.setRow b (cur.toList.take (off + (p + 1)) ++ (ys.map Value.string).drop p ++ cur.toList.drop (off + (p + 1) + ((ys.map Value.string).drop p).length)).toArray, rfl, ?_, fin _ _ (setRow_heap w b cur _ 9 _ hb) (hk.setRow (fun hh => by have := hf.1; omega) _) (by simp) ?_ ?_⟩
    · unfold fromS
      rw [if_neg e1, if_neg e2, hrun, hY]
      rfl
    · simp only [List.size_toArray, List.length_append, List.length_take, List.length_drop, Array.length_toList, hY]; omega
    · exact shift_drop cur.toList _ off p (by simp; omega)
end Go.Proofs.YtfgdnakfikpmpaaGreatDoor
