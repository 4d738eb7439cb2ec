/-
  Parts of what is proved for this claim; each declaration is one of the seat's texts.
-/
import Derived.Test.YtfgdnakfikpmpaaGreatDoorFPH
import Derived.Test.YtfgdnakfikpmpaaGreatDoorFPF
set_option linter.unusedVariables false
set_option linter.unusedSimpArgs false
namespace Go.Proofs.YtfgdnakfikpmpaaGreatDoor
open Go Go.RowKit Go.Deep
def TwoS (lo : Nat) (w : World) (F i : Nat) (ov : Value) (l : List ByteArray) : Prop := ∃ v, w.heap[F]? = some (.cells (if i = 0 then #[v, ov] else #[ov, v]) 49 (0, 0)) ∧ OwnL lo w v l
theorem TwoS.keep {lo : Nat} {w w' : World} {F i : Nat} {ov : Value} {l : List ByteArray} (h : TwoS lo w F i ov l) (hk : Keep No w w') : TwoS lo w' F i ov l := by
  obtain ⟨v, h1, h2⟩ := h
  exact ⟨v, hk.blk h1 (fun x => x), h2.keep hk (fun _ _ x => x)⟩
def MayS (F lo : Nat) : Nat → Prop := fun k => k = F ∨ lo ≤ k
theorem TwoS.look {lo : Nat} {w : World} {F i : Nat} {ov : Value} {l : List ByteArray} (h : TwoS lo w F i ov l) (hF : F < lo) (hlo : lo ≤ w.heap.size) (hi : i < 2) (hl : l.length + 1 ≤ 1000) :
    ∃ a n c, w.cell? ⟨F, i, none⟩ = some (.slice a n c) ∧ ∀ x : ByteArray, x.size ≤ 9223372036854775807 →
      ∃ a' n' c' w2, (Builtin.append_ #[23, 23] 23 #[.slice a n c, .slice (some ⟨w.heap.size, 0, none⟩) 1 1]).run Tryz.prog (w.alloc (.cells #[.string x] 9)) = .ok (.slice a' n' c') w2 ∧
        w2.cell? ⟨F, i, none⟩ = some (.slice a n c) ∧ w2.frozen? ⟨F, i, none⟩ = false ∧ TwoS lo (w2.setCell ⟨F, i, none⟩ (.slice a' n' c')) F i ov (l ++ [x]) ∧ Keep (MayS F lo) w w2 ∧ Keep (MayS F lo) w (w2.setCell ⟨F, i, none⟩ (.slice a' n' c')) := by
  obtain ⟨v, h1, h2⟩ := h
  obtain ⟨a, c, rfl, -⟩ := Own.form h2
  have hcase : i = 0 ∨ i = 1 := by omega
  have hfin : ∀ (w2 : World) (u : Value), Keep (Fr lo w.heap.size) w w2 → Keep (MayS F lo) w (w2.setCell ⟨F, i, none⟩ u) := fun w2 u hk => (hk.mono fun k _ hh => .inr hh.1).then (keep_set w2 F i u) (fun k _ e => .inl e)
  refine ⟨a, l.length, c, ?_, fun x hx => ?_⟩
  · rcases hcase with rfl | rfl
    · exact (blk_cell h1 0).trans rfl
    · exact (blk_cell h1 1).trans rfl
  · obtain ⟨a2, c2, w2, hr, ht, hk⟩ := h2.app hlo x (by rw [maxLen_is]; exact hx) (by omega)
    have h3 := hk.blk h1 (fun hh => by have := hh.1; omega)
    refine ⟨a2, _, c2, w2, hr, ?_, blk_fro h3 i, ⟨.slice a2 (l.length + 1) c2, ?_, ht.keep (keep_set w2 F i _) (fun k hk e => by have : k = F := e; omega)⟩, hk.mono fun k _ hh => .inr hh.1, hfin w2 _ hk⟩
    · rcases hcase with rfl | rfl
      · exact (blk_cell h3 0).trans rfl
      · exact (blk_cell h3 1).trans rfl
    · have h4 := blk_set h3 i (.slice a2 (l.length + 1) c2)
      rcases hcase with rfl | rfl
      · simpa using h4
      · simpa using h4
def sideT (p : Prc) (i : Nat) : List ByteArray := if i = 0 then p.reads else p.writes
def keysOf (args : List Val) (l : List ByteArray) : List ByteArray := l.map fun t => (keyT t args).1
def okTo (p : Prc) (args : List Val) (i k : Nat) : Prop := (∀ j, j < i → ∀ t ∈ sideT p j, (keyT t args).2 = 0) ∧ ∀ t ∈ (sideT p i).take k, (keyT t args).2 = 0
theorem keysOf_add (args : List Val) (l : List ByteArray) (k : Nat) (hk : k < l.length) : keysOf args (l.take (k + 1)) = keysOf args (l.take k) ++ [(keyT l[k] args).1] := by
  unfold keysOf
  rw [List.take_succ_eq_append_getElem hk, List.map_append]
  rfl
theorem keysT_ok (args : List Val) : ∀ l : List ByteArray, (∀ t ∈ l, (keyT t args).2 = 0) → keysT args l = (keysOf args l, 0)
  | [], _ => rfl
  | t :: l, h => by
    have h1 := h t (List.mem_cons_self ..)
    have h2 := keysT_ok args l fun t ht => h t (List.mem_cons_of_mem _ ht)
    unfold keysT
    rw [if_neg (fun hh => hh h1), h2]
    simp [keysOf]
theorem keysT_bad (args : List Val) (e : Int) (he : e ≠ 0) : ∀ (l : List ByteArray) (k : Nat) (hk : k < l.length), (∀ t ∈ l.take k, (keyT t args).2 = 0) → (keyT l[k] args).2 = e → keysT args l = ([], e)
  | [], k, hk, _, _ => absurd hk (Nat.not_lt_zero _)
  | t :: l, 0, hk, _, h => by
    have h : (keyT t args).2 = e := h
    unfold keysT
    rw [if_pos (by rw [h]; exact he), h]
  | t :: l, k + 1, hk, h1, h2 => by
    have h0 := h1 t (by simp)
    have ih := keysT_bad args e he l k (by simpa using hk) (fun t ht => h1 t (by simp [ht])) (by simpa using h2)
    unfold keysT
    rw [if_neg (fun hh => hh h0), ih, if_pos he]
theorem foot_ok {p : Prc} {args : List Val} (hd : p.dep = false) (hs : suitsB p.kinds args = true) (h : okTo p args 2 0) : p.foot args = (mkFp (keysOf args p.reads) (keysOf args p.writes)).norm := by
  have h0 := keysT_ok args p.reads (h.1 0 (by omega))
  have h1 := keysT_ok args p.writes (h.1 1 (by omega))
  unfold Prc.foot
  rw [hd, if_neg (by simp), if_neg (by rw [hs]; simp), h0, h1]
  simp
theorem foot_bad {p : Prc} {args : List Val} (hd : p.dep = false) (hs : suitsB p.kinds args = true) {i k : Nat} (hi : i < 2) (hk : k < (sideT p i).length) (h : okTo p args i k) (e : Int) (he : e ≠ 0) (hb : (keyT (sideT p i)[k] args).2 = e) : p.foot args = (mkFp [] [], e) := by
  have hcase : i = 0 ∨ i = 1 := by omega
  unfold Prc.foot
  rw [hd, if_neg (by simp), if_neg (by rw [hs]; simp)]
  rcases hcase with rfl | rfl
  · have h0 := keysT_bad args e he p.reads k hk h.2 hb
    rw [h0, if_pos he]
  · have h0 := keysT_ok args p.reads (h.1 0 (by omega))
    have h1 := keysT_bad args e he p.writes k hk h.2 hb
    rw [h0, h1, if_neg (by simp), if_pos he]
end Go.Proofs.YtfgdnakfikpmpaaGreatDoor
namespace Go.Proofs.YtfgdnakfikpmpaaGreatDoor
open Go Go.RowKit Go.Deep
theorem keyLs_some (args : List Val) (hg : ∀ v ∈ args, givenV v = true) : ∀ l : List Prt, below args.length l = true → ∃ b, keyLs args l = some b
  | [], _ => ⟨[], rfl⟩
  | p :: l, h => by
    unfold below at h
    rw [List.all_cons, Bool.and_eq_true, decide_eq_true_eq] at h
    obtain ⟨b, hb⟩ := keyLs_some args hg l h.2
    unfold keyLs
    by_cases h0 : p.arg < 0
    · rw [if_pos h0, hb]; exact ⟨_, rfl⟩
    · have hj : p.arg.toNat < args.length := by omega
      have hget : args.getD p.arg.toNat val0 = args[p.arg.toNat] := by simp [List.getD, hj]
      rw [if_neg h0, hget, if_neg (by rw [hg _ (List.getElem_mem hj)]; exact Bool.false_ne_true.symm), hb]
      exact ⟨_, rfl⟩
theorem key_any (t : ByteArray) (args : List Val) (ht : tmplOk t args.length = true) (hg : ∀ v ∈ args, givenV v = true) (w : World) (S : Nat → Prop) (a : Option Addr) (c : Nat)
    (h : Rd (.slice valueSh) w S [.slice a args.length c] args) (htb : Tab w) (ha : args.length ≤ 8) :
    (Calls Tryz.prog 25 #[.string t, .slice a args.length c] w fun e w' => e = .returned (.tuple #[.string (keyT t args).1, .int .i64 (keyT t args).2]) ∧ RowKit.Hid (Keep No w w')) ∧ ((keyT t args).2 = 0 ∨ (keyT t args).2 = 30) ∧ (keyT t args).1.size ≤ 32 := by
  unfold tmplOk at ht
  cases hl : cutT t with
  | none => rw [hl] at ht; cases ht
  | some l =>
    rw [hl] at ht
    simp only at ht
    obtain ⟨b, hb⟩ := keyLs_some args hg l ht
    have hk : keyT t args = if keyOk ⟨b.toArray⟩ then (⟨b.toArray⟩, 0) else (noText, 30) := by
      unfold keyT
      rw [hl]
      simp only
      rw [if_neg (by rw [ht]; exact Bool.false_ne_true.symm), hb]
    refine ⟨(key_ok t l args hl ht hg b hb w S a c h htb ha).mono ?_, ?_, ?_⟩
    · rintro e w' ⟨rfl, hk'⟩
      rw [hk]
      refine ⟨?_, hk'⟩
      split <;> rfl
    · rw [hk]; split
      · exact .inl rfl
      · exact .inr rfl
    · rw [hk]; split
      · rename_i h
        unfold keyOk at h
        rw [Bool.and_eq_true, Bool.and_eq_true, decide_eq_true_eq, decide_eq_true_eq] at h
        exact h.2
      · exact Nat.zero_le _
theorem suits_given {ks : List Int} {args : List Val} (h : suitsB ks args = true) : args.length = ks.length ∧ ∀ v ∈ args, givenV v = true := by
  unfold suitsB at h
  rw [Bool.and_eq_true, decide_eq_true_eq, List.all_eq_true] at h
  refine ⟨h.1, fun v hv => ?_⟩
  obtain ⟨i, hi, rfl⟩ := List.getElem_of_mem hv
  have := h.2 (ks[i]'(by omega), args[i]) (List.mem_iff_getElem.2 ⟨i, by simp; omega, by rw [List.getElem_zip]⟩)
  unfold suitB at this
  rw [Bool.and_eq_true] at this
  exact this.1
theorem Keep.may {F lo : Nat} {a b c : World} (h : Keep No a b) (k : Keep (MayS F lo) b c) (hF : a.heap.size ≤ F) (hlo : a.heap.size ≤ lo) : Keep No a c :=
  h.then k fun i hi hm => by
    rcases hm with e | e
    · omega
    · omega
structure SideW (w5 : World) (F lo : Nat) (p : Prc) (args : List Val) (i : Nat) (W : World) : Prop where
  keep : Keep (MayS F lo) w5 W
  blk : ∃ u v, W.heap[F]? = some (.cells #[u, v] 49 (0, 0)) ∧ Rd (.slice .str) W (Up lo) [u] (if 0 < i then keysOf args p.reads else []) ∧ Rd (.slice .str) W (Up lo) [v] (if 1 < i then keysOf args p.writes else []) ∧ (i = 0 → u = .slice none 0 0) ∧ (i ≤ 1 → v = .slice none 0 0)
  ok : okTo p args i 0
structure SideI (W1 : World) (F P : Nat) (p : Prc) (args : List Val) (i k : Nat) (ov : Value) (W : World) : Prop where
  keep : Keep (MayS F (P + 1)) W1 W
  two : TwoS (P + 1) W F i ov (keysOf args ((sideT p i).take k))
  ok : okTo p args i k
theorem SideI.fin {w5 W W1 W' : World} {F lo P : Nat} {p : Prc} {args : List Val} {i : Nat} {ov : Value} (h0 : SideW w5 F lo p args i W) (hi : i < 2) (hP : P = W.heap.size) (hlo : lo ≤ P) (hFl : F < lo) (h1 : Keep No W W1)
    (hov : W.heap[F]? = some (.cells (if i = 0 then #[.slice none 0 0, ov] else #[ov, .slice none 0 0]) 49 (0, 0))) (h : SideI W1 F P p args i (sideT p i).length ov W') : SideW w5 F lo p args (i + 1) W' := by
  obtain ⟨u, v, b0, r1, r2, e1, e2⟩ := h0.blk
  obtain ⟨x, b1, o1⟩ := h.two
  rw [List.take_length] at o1
  have hk : Keep (MayS F lo) W W' := (((Keep.refl (MayS F lo) W).thenNo h1)).trans (h.keep.mono fun k _ hm => hm.elim (fun e => .inl e) (fun e => .inr (by omega)))
  have hold : ∀ (y : Value) (l : List ByteArray), Rd (.slice .str) W (Up lo) [y] l → Rd (.slice .str) W' (Up lo) [y] l := fun y l hr =>
    ((hr.mono (.slice .str) (T := fun k => Up lo k ∧ k < P) fun k hk hu => ⟨hu, by omega⟩).agree (.slice .str) ((((Keep.refl (MayS F (P + 1)) W).thenNo h1).trans h.keep).agree fun k _ hk hm => hm.elim (fun e => by have := hk.1; have : lo ≤ k := this; omega) (fun e => by have := hk.2; omega))).mono (.slice .str) fun k _ hk => hk.1
  have hnew : Rd (.slice .str) W' (Up lo) [x] (keysOf args (sideT p i)) := o1.rd.mono (.slice .str) fun k _ hk => by have := hk.1; show lo ≤ k; omega
  refine ⟨h0.keep.trans hk, ?_, ?_, fun t ht => by simp at ht⟩
  · have hcase : i = 0 ∨ i = 1 := by omega
    rcases hcase with rfl | rfl
    · have hvv : ov = v := by
        rw [b0] at hov
        simp at hov
        exact hov.2.symm
      subst hvv
      exact ⟨x, ov, b1, hnew, hold _ _ r2, (fun e => by cases e), fun _ => e2 (by omega)⟩
    · have huu : ov = u := by
        rw [b0] at hov
        simp at hov
        exact hov.1.symm
      subst huu
      exact ⟨ov, x, b1, hold _ _ r1, hnew, (fun e => by cases e), fun e => by omega⟩
  · intro j hj t ht
    by_cases e : j = i
    · subst e
      have := h.ok.2
      rw [List.take_length] at this
      exact this t ht
    · exact h.ok.1 j (by omega) t ht
set_option maxRecDepth 10000 in
set_option maxHeartbeats 4000000 in
theorem libFoot_any (w : World) (S T : Nat → Prop) (cs : List Value) (p : Prc) (h : Rd procSh w S cs p) (hh : p.Home) (hd : p.dep = false) (args : List Val) (a : Option Addr) (c : Nat) (ha : Rd (.slice valueSh) w T [.slice a args.length c] args) (hs : suitsB p.kinds args = true) (ht : Tab w) :
    Calls Tryz.prog 23 #[.agg cs.toArray, .slice a args.length c] w (GivesFC w (p.foot args)) := by
  obtain ⟨a1, c1, a2, c2, a3, c3, a4, c4, a5, c5, rfl, h1, h2, h3, h4, h5, w1, w2⟩ := proc_cells h
  have hgv := suits_given hs
  have K0 := ((Keep.refl No w).alloc (.cells #[.string p.name, .slice a1 p.kinds.length c1, .bool p.dep, .slice a2 p.reads.length c2, .slice a3 p.writes.length c3, .int .i64 p.pgm.args, .slice a4 p.pgm.consts.length c4, .slice a5 p.pgm.code.length c5] 29)).alloc (.cells #[.slice none 0 0, .slice none 0 0] 49)
  have x0 := blk_alloc (o' := .cells #[.slice none 0 0, .slice none 0 0] 49) (blk_new w (.cells #[.string p.name, .slice a1 p.kinds.length c1, .bool p.dep, .slice a2 p.reads.length c2, .slice a3 p.writes.length c3, .int .i64 p.pgm.args, .slice a4 p.pgm.consts.length c4, .slice a5 p.pgm.code.length c5] 29))
  have y0 := blk_new (w.alloc (.cells #[.string p.name, .slice a1 p.kinds.length c1, .bool p.dep, .slice a2 p.reads.length c2, .slice a3 p.writes.length c3, .int .i64 p.pgm.args, .slice a4 p.pgm.consts.length c4, .slice a5 p.pgm.code.length c5] 29)) (.cells #[.slice none 0 0, .slice none 0 0] 49)
  simp only [World.size_alloc] at y0
  have hch := (libCheck_ok _ S p.kinds.length p.reads.length p.writes.length c1 c2 c3 a1 a2 a3 (.slice a4 p.pgm.consts.length c4) (.slice a5 p.pgm.code.length c5) p rfl rfl rfl (h1.agree _ K0.agreeNo) (h2.agree _ K0.agreeNo) (h3.agree _ K0.agreeNo) hh.ok (pgOk_rd hh (h4.agree _ K0.agreeNo) (h5.agree _ K0.agreeNo))).mono (R' := fun e w2 => e = .returned (.int .i64 0) ∧ w2.heap[w.heap.size]? = some (.cells #[.string p.name, .slice a1 p.kinds.length c1, .bool p.dep, .slice a2 p.reads.length c2, .slice a3 p.writes.length c3, .int .i64 p.pgm.args, .slice a4 p.pgm.consts.length c4, .slice a5 p.pgm.code.length c5] 29 (0, 0)) ∧ RowKit.Hid (Keep No w w2 ∧ w2.heap[w.heap.size + 1]? = some (.cells #[.slice none 0 0, .slice none 0 0] 49 (0, 0)))) (by
    rintro e w2 ⟨rfl, hk⟩
    exact ⟨rfl, hk.blk x0 (fun x => x), K0.trans hk, hk.blk y0 (fun x => x)⟩)
  have HSU : RowKit.Hid (∀ W, Keep No w W → Calls Tryz.prog 28 #[.agg #[.string p.name, .slice a1 p.kinds.length c1, .bool p.dep, .slice a2 p.reads.length c2, .slice a3 p.writes.length c3, .int .i64 p.pgm.args, .slice a4 p.pgm.consts.length c4, .slice a5 p.pgm.code.length c5], .slice a args.length c] W fun e w2 => e = .returned (.int .i64 0) ∧ RowKit.Hid (Keep No W w2)) := fun W hW => by
    refine (suits_any W S T _ _ _ _ _ _ _ ⟨rfl, rfl, rfl, rfl, rfl, rfl, rfl⟩ a1 a c1 c p.kinds args (h1.agree _ hW.agreeNo) (ha.agree _ hW.agreeNo)).mono ?_
    rintro e w2 ⟨rfl, hk⟩
    rw [hs]
    exact ⟨rfl, hk⟩
  have HX := Lib.hid (And.intro h2 (And.intro h3 (And.intro ha (And.intro hh (And.intro hs (And.intro ht hgv))))))
  have q0 := blk_cell x0
  have HD := Lib.hid hd
  clear h h1 h2 h3 h4 h5 w1 w2 hgv K0 x0 y0 ha hh hs ht
  rw [hd] at hch HSU q0 ⊢
  clear hd
  go_enter Tryz.func23, Tryz.ntmps23
  go_wp2_with (first | (go_at_call 17; refine hch.mono ?_; clear hch; rintro e w3 ⟨rfl, x3, HK3⟩; clear q0; have q3 := blk_cell x3) | (go_at_call 28; refine (HSU.out _ HK3.out.1).mono ?_; rintro e w4 ⟨rfl, HK4⟩; have x4 := HK4.out.blk x3 (fun x => x); have q4 := blk_cell x4; have q4a := blk_cell (blk_alloc (o' := .cells #[.slice none 0 0, .slice none 0 0] 49) x4)))
  have hs34 := HK4.out.size
  have hw3 := HK3.out.1.size
  have HR4 := Lib.hid (HK4.out.blk HK3.out.2 (fun x => x))
  have HK5 := Lib.hid (((HK3.out.1.trans HK4.out).alloc (.cells #[.slice none 0 0, .slice none 0 0] 49)).alloc (.cells #[.slice a2 p.reads.length c2, .pointer (some ⟨w4.heap.size, 0, none⟩), .slice a3 p.writes.length c3, .pointer (some ⟨w4.heap.size, 1, none⟩)] 115))
  have b5 := blk_alloc (o' := .cells #[.slice a2 p.reads.length c2, .pointer (some ⟨w4.heap.size, 0, none⟩), .slice a3 p.writes.length c3, .pointer (some ⟨w4.heap.size, 1, none⟩)] 115) (blk_new w4 (.cells #[.slice none 0 0, .slice none 0 0] 49))
  have d5 := blk_new (w4.alloc (.cells #[.slice none 0 0, .slice none 0 0] 49)) (.cells #[.slice a2 p.reads.length c2, .pointer (some ⟨w4.heap.size, 0, none⟩), .slice a3 p.writes.length c3, .pointer (some ⟨w4.heap.size, 1, none⟩)] 115)
  simp only [World.size_alloc] at d5
  have hrs : w.heap.size + 1 < w4.heap.size := blk_lt HR4.out
  have r5 := blk_alloc (o' := .cells #[.slice a2 p.reads.length c2, .pointer (some ⟨w4.heap.size, 0, none⟩), .slice a3 p.writes.length c3, .pointer (some ⟨w4.heap.size, 1, none⟩)] 115) (blk_alloc (o' := .cells #[.slice none 0 0, .slice none 0 0] 49) HR4.out)
  have hsz5 : ((w4.alloc (.cells #[.slice none 0 0, .slice none 0 0] 49)).alloc (.cells #[.slice a2 p.reads.length c2, .pointer (some ⟨w4.heap.size, 0, none⟩), .slice a3 p.writes.length c3, .pointer (some ⟨w4.heap.size, 1, none⟩)] 115)).heap.size = w4.heap.size + 2 := by simp
  have HB5 := Lib.hid (And.intro b5 (And.intro d5 (And.intro r5 hsz5)))
  have HSZ := Lib.hid hrs
  clear b5 d5 r5 hsz5 hrs q3 q4 q4a x3 x4 HR4 HSU hs34 hw3 HK3 HK4
  generalize (w4.alloc (.cells #[.slice none 0 0, .slice none 0 0] 49)).alloc (.cells #[.slice a2 p.reads.length c2, .pointer (some ⟨w4.heap.size, 0, none⟩), .slice a3 p.writes.length c3, .pointer (some ⟨w4.heap.size, 1, none⟩)] 115) = w5 at *
  generalize w4.heap.size = F at *
  have hS0 : SideW w5 F (F + 2) p args 0 w5 := ⟨Keep.refl _ _, ⟨_, _, HB5.out.1, ⟨none, 0, rfl, Nat.le_refl _, by rw [maxLen_is]; omega, fun _ => ⟨rfl, rfl⟩, fun i hi => absurd hi (by simp)⟩, ⟨none, 0, rfl, Nat.le_refl _, by rw [maxLen_is]; omega, fun _ => ⟨rfl, rfl⟩, fun i hi => absurd hi (by simp)⟩, fun _ => rfl, fun _ => rfl⟩, fun j hj => absurd hj (Nat.not_lt_zero _), fun t ht => by simp at ht⟩
  have HS0 := Lib.hid hS0
  clear hS0
  go_loopg [40] 2 (fun g x wr => ∃ i : Nat, i ≤ 2 ∧ g = 2 - i ∧ x = .int .i64 i ∧ RowKit.Hid (SideW w5 F (F + 2) p args i wr))
  case atStart => exact ⟨0, by omega, by omega, rfl, HS0.out⟩
  case round =>
    obtain ⟨i, hi, rfl, rfl, HR⟩ := hrel
    by_cases hlt : i < 2
    · have j1 : (i : Int) < 2 := by omega
      have j0 : (0 : Int) ≤ i := by omega
      have hP : F + 2 ≤ wr.heap.size := by have := HR.out.keep.size; have := HB5.out.2.2.2; omega
      have kNo : Keep No w wr := HK5.out.may HR.out.keep (by have := HSZ.out; omega) (by have := HSZ.out; omega)
      have dQ := HR.out.keep.blk HB5.out.2.1 (fun hm => hm.elim (fun e => by omega) (fun e => by omega))
      obtain ⟨ai, ci, p0, p1, hrd⟩ : ∃ ai ci, wr.cell? ⟨F + 1, i * 2, none⟩ = some (.slice ai (sideT p i).length ci) ∧ wr.cell? ⟨F + 1, i * 2 + 1, none⟩ = some (.pointer (some ⟨F, i, none⟩)) ∧ Rd (.slice .str) w S [.slice ai (sideT p i).length ci] (sideT p i) := by
        have hcase : i = 0 ∨ i = 1 := by omega
        rcases hcase with rfl | rfl
        · exact ⟨a2, c2, (blk_cell dQ 0).trans rfl, (blk_cell dQ 1).trans rfl, HX.out.1⟩
        · exact ⟨a3, c3, (blk_cell dQ 2).trans rfl, (blk_cell dQ 3).trans rfl, HX.out.2.1⟩
      have hov : ∃ ov, wr.heap[F]? = some (.cells (if i = 0 then #[.slice none 0 0, ov] else #[ov, .slice none 0 0]) 49 (0, 0)) := by
        obtain ⟨u, v, b0, -, -, e1, e2⟩ := HR.out.blk
        have hcase : i = 0 ∨ i = 1 := by omega
        rcases hcase with rfl | rfl
        · have := e1 rfl; subst this; exact ⟨v, b0⟩
        · have := e2 (by omega); subst this; exact ⟨u, b0⟩
      obtain ⟨ov, hov⟩ := hov
      have hsideok : ∀ k (hk : k < (sideT p i).length), tmplOk (sideT p i)[k] args.length = true := fun k hk => by
        have hcase : i = 0 ∨ i = 1 := by omega
        have hkl := HX.out.2.2.2.2.2.2.1
        rcases hcase with rfl | rfl
        · rw [hkl]; exact HX.out.2.2.2.1.ok.reads k hk
        · rw [hkl]; exact HX.out.2.2.2.1.ok.writes k hk
      have hside32 : (sideT p i).length ≤ 32 := by
        have hcase : i = 0 ∨ i = 1 := by omega
        rcases hcase with rfl | rfl
        · exact HX.out.2.2.2.1.ok.nr
        · exact HX.out.2.2.2.1.ok.nw
      have HI := Lib.hid (And.intro hlt (And.intro hP (And.intro kNo (And.intro hrd (And.intro hov (And.intro hsideok hside32))))))
      have i32 : ((sideT p i).length : Int) ≤ 32 := by omega
      clear hi hlt hP kNo dQ hrd hov hsideok hside32
      go_upto_region 13 with fail
      have hI0 : SideI (wr.alloc (.cells #[.slice ai (sideT p i).length ci, .pointer (some ⟨F, i, none⟩)] 115)) F wr.heap.size p args i 0 ov (wr.alloc (.cells #[.slice ai (sideT p i).length ci, .pointer (some ⟨F, i, none⟩)] 115)) := by
        refine ⟨Keep.refl _ _, ⟨.slice none 0 0, blk_alloc HI.out.2.2.2.2.1, ?_⟩, HR.out.ok⟩
        exact Own.nil _ _ _ _
      have HI0 := Lib.hid hI0
      have hPb := Lib.hid (blk_new wr (.cells #[.slice ai (sideT p i).length ci, .pointer (some ⟨F, i, none⟩)] 115))
      have hW1 := Lib.hid ((Keep.refl No wr).alloc (.cells #[.slice ai (sideT p i).length ci, .pointer (some ⟨F, i, none⟩)] 115))
      have hsz1 := Lib.hid (World.size_alloc wr (.cells #[.slice ai (sideT p i).length ci, .pointer (some ⟨F, i, none⟩)] 115))
      clear hI0 p0 p1
      generalize wr.alloc (.cells #[.slice ai (sideT p i).length ci, .pointer (some ⟨F, i, none⟩)] 115) = W1 at *
      obtain ⟨P, hPP⟩ : ∃ P, P = wr.heap.size := ⟨_, rfl⟩
      rw [← hPP] at HI0 hPb hsz1 ⊢
      have HPP := Lib.hid hPP
      clear hPP
      obtain ⟨n, hn⟩ : ∃ n, n = (sideT p i).length := ⟨_, rfl⟩
      rw [← hn] at hPb i32 ⊢
      have HN := Lib.hid hn
      clear hn
      generalize wr = wa at *
      go_loopg [47] n (fun g x wq => ∃ k : Nat, k ≤ n ∧ g = n - k ∧ x = .int .i64 k ∧ RowKit.Hid (SideI W1 F P p args i k ov wq))
      case atStart => exact ⟨0, by omega, by omega, rfl, HI0.out⟩
      case round =>
        obtain ⟨k, hk, rfl, rfl, HQ⟩ := hrel
        by_cases hkn : k < n
        · have hkl : k < (sideT p i).length := by rw [← HN.out]; exact hkn
          have g1 : (k : Int) < n := by omega
          have g0 : (0 : Int) ≤ k := by omega
          have hFlt := HSZ.out
          have hPlo := HI.out.2.1
          have hPP := HPP.out
          have kq : Keep No w wr := (HI.out.2.2.1.trans hW1.out).may HQ.out.keep (by omega) (by have := HPP.out; omega)
          obtain ⟨bt, ft, rfl, t0, -⟩ := strs_get (HI.out.2.2.2.1.agree (.slice .str) kq.agreeNo) k hkl
          obtain ⟨hkc, hke, hks⟩ := key_any (sideT p i)[k] args (HI.out.2.2.2.2.2.1 k hkl) HX.out.2.2.2.2.2.2.2 wr T a c (HX.out.2.2.1.agree _ kq.agreeNo) (HX.out.2.2.2.2.2.1.keep kq) (by have := HX.out.2.2.2.1.ok.kinds; have := HX.out.2.2.2.2.2.2.1; omega)
          have bP := HQ.out.keep.blk hPb.out (fun hm => hm.elim (fun e => by omega) (fun e => by omega))
          have hadd := keysOf_add args (sideT p i) k hkl
          have hokn : (keyT (sideT p i)[k] args).2 = 0 → okTo p args i (k + 1) := fun e => ⟨HQ.out.ok.1, fun t ht => by
            rw [List.take_succ_eq_append_getElem hkl, List.mem_append] at ht
            rcases ht with ht | ht
            · exact HQ.out.ok.2 t ht
            · simp at ht; subst ht; exact e⟩
          have hbadn : ∀ e, e ≠ 0 → (keyT (sideT p i)[k] args).2 = e → p.foot args = (mkFp [] [], e) := fun e he hb => foot_bad HD.out HX.out.2.2.2.2.1 HI.out.1 hkl HQ.out.ok e he hb
          have hkl32 : (keysOf args ((sideT p i).take k)).length + 1 ≤ 1000 := by
            unfold keysOf
            rw [List.length_map]
            have h1 := List.length_take_le k (sideT p i)
            have h2 := HI.out.2.2.2.2.2.2
            omega
          have HS := Lib.hid (And.intro hkn (And.intro hadd (And.intro hokn (And.intro hbadn (And.intro hkl32 hks)))))
          have HKQ := Lib.hid kq
          have HBP := Lib.hid bP
          clear hadd hokn hbadn hkl32 hks bP kq
          generalize (sideT p i)[k] = tk at *
          generalize (keyT tk args).1 = ks at *
          generalize (keyT tk args).2 = ke at *
          have hFP := Lib.hid (show F < P by omega)
          clear hkl hkn hk hPP hPlo hFlt
          rcases hke with rfl | rfl
          · go_upto_region 18 with (go_at_call 25; refine hkc.mono ?_; clear hkc; rintro e w7 ⟨rfl, HK7⟩)
            have k8 := HK7.out.drew
            have hT8 := HQ.out.two.keep k8
            have hs8 : P + 1 ≤ w7.drew.heap.size := by have := HQ.out.keep.size; have := hsz1.out; have := k8.size; omega
            have hFP' := hFP.out
            obtain ⟨av, nv, cv, f0, happ⟩ := hT8.look (by omega) hs8 HI.out.1 HS.out.2.2.2.2.1
            obtain ⟨a9, n9, c9, w9, hrun, f9, z9, hT9, hk9, hkk9⟩ := happ ks (by have := HS.out.2.2.2.2.2; omega)
            have bP8 := k8.blk HBP.out (fun x => x)
            have c8 := blk_cell bP8
            have c8a := blk_cell (blk_alloc (o' := .cells #[.string ks] 9) bP8)
            have bP9 := hk9.blk bP8 (fun hm => hm.elim (fun e => by omega) (fun e => by omega))
            have c9P := blk_cell bP9
            have f0a : (w7.drew.alloc (.cells #[.string ks] 9)).cell? ⟨F, i, none⟩ = some (.slice av nv cv) := (((Keep.refl No w7.drew).alloc _).cell (World.block_lt_of_cell? _ _ f0) (fun x => x)).trans f0
            have H9 := Lib.hid (SideI.mk (W1 := W1) (F := F) (P := P) (p := p) (args := args) (i := i) (k := k + 1) (ov := ov) ((HQ.out.keep.thenNo k8).trans hkk9) (by rw [HS.out.2.1]; exact hT9) (HS.out.2.2.1 trivial))
            clear k8 hT8 hs8 happ bP8 bP9 hT9 hk9 hkk9 hFP'
            refine wp_region_canw [0, 1, 2, 3, 4, 5, 6, 7, 8, 9, 10] [7, 8, 10] [(0, 7), (1, 7), (2, 7), (3, 7), (4, 7), (5, 7), (0, 8), (1, 8)] (by kernel_rfl) (by kernel_rfl) (by kernel_rfl) (by kernel_rfl) (by intro c a d v w h; cases d <;> exact h) ?_
            generalize w7.drew = w8 at *
            iterate 7 (refine canw_sil rfl rfl (fun K hK => ?_); go_simp; refine hK _ ?_; clear hK K)
            refine canw_loud [0, 1, 2, 3, 4, 5] rfl rfl rfl (fun K hK => ?_)
            go_wp2_with fail
            refine Mid.normal (hK _ _ ?_ ?_)
            · simp only [List.forall_mem_cons]
              refine ⟨?_, ?_, ?_, ?_, ?_, ?_, stabs_nil⟩ <;> exact stab_of rfl (fun K hK => by go_simp; exact hK)
            clear hK K
            refine canw_loud [0, 1] rfl rfl rfl (fun K hK => ?_)
            refine wpList_app rfl (.tmp 66) (.tmp 68) 23 23 rfl rfl rfl hrun ?_
            go_wp2_with fail
            refine Mid.normal (hK _ _ ?_ ?_)
            · simp only [List.forall_mem_cons]
              refine ⟨?_, ?_, stabs_nil⟩ <;> exact stab_of rfl (fun K hK => by go_simp; exact hK)
            clear hK K
            iterate 1 (refine canw_sil rfl rfl (fun K hK => ?_); go_simp; refine hK _ ?_; clear hK K)
            refine canw_loud [] rfl rfl rfl (fun K hK => ?_)
            go_wp2_with fail
            refine Mid.normal (hK _ _ stabs_nil ?_)
            clear hK K
            refine canw_nil ?_
            go_wp2_with fail
            go_roundg (n - (k + 1))
            case measure => have := HS.out.1; omega
            case rel => exact ⟨k + 1, by have := HS.out.1; omega, rfl, by simp, H9.out⟩
          · have hFP' := hFP.out
            have hFlt := HSZ.out
            have hPP := HPP.out
            have r7 := (HQ.out.keep.blk (hW1.out.blk (HR.out.keep.blk HB5.out.2.2.1 (fun hm => hm.elim (fun e => by omega) (fun e => by omega))) (fun x => x)) (fun hm => hm.elim (fun e => by omega) (fun e => by omega)))
            have e30 := HS.out.2.2.2.1 30 (by decide) rfl
            have HR7 := Lib.hid (And.intro r7 e30)
            clear r7 e30 hPP hFP' hFlt
            go_wp2_with (go_at_call 25; refine hkc.mono ?_; clear hkc; rintro e w7 ⟨rfl, HK7⟩; have r8 := HK7.out.blk HR7.out.1 (fun x => x); have c8 := blk_cell r8; have z8 := blk_fro r8)
            have y8 := blk_two r8 (.slice none 0 0) (.slice none 0 0)
            have k8 := ((HKQ.out.trans HK7.out).setNew2 (b := w.heap.size + 1) (by omega) (.slice none 0 0) (.slice none 0 0))
            have s8 := blk_cell y8
            refine bodyPost_ret (v := .tuple #[.agg #[.slice none 0 0, .slice none 0 0], .int .i64 30]) (by simp [results, Tryz.results23, go_sem, s8]) rfl ?_
            rw [HR7.out.2]
            exact ⟨none, 0, 0, none, 0, 0, rfl, ⟨OwnT.nil' k8, OwnT.nil' k8⟩, k8⟩
        · obtain rfl : k = n := by omega
          have hq := HQ.out
          have hPP := HPP.out
          rw [HN.out] at hq
          have hfin := SideI.fin HR.out HI.out.1 hPP (by rw [hPP]; exact HI.out.2.1) (by omega) hW1.out HI.out.2.2.2.2.1 hq
          have g1 : ¬ (k : Int) < k := by omega
          have HFI := Lib.hid (And.intro hfin HI.out.1)
          clear hq hPP hfin hkn hk
          go_wp2_with fail
          go_roundg (2 - (i + 1))
          case measure => have := HFI.out.2; omega
          case rel => exact ⟨i + 1, by have := HFI.out.2; omega, rfl, by simp, HFI.out.1⟩
    · obtain rfl : i = 2 := by omega
      have j1 : ((2 : Nat) : Int) = 2 := rfl
      rw [j1]
      obtain ⟨u, v, b0, r1, r2, -, -⟩ := HR.out.blk
      rw [if_pos (by omega)] at r1
      rw [if_pos (by omega)] at r2
      have hfo := foot_ok HD.out HX.out.2.2.2.2.1 HR.out.ok
      have hFlt := HSZ.out
      have hnr := HX.out.2.2.2.1.ok.nr
      have hnw := HX.out.2.2.2.1.ok.nw
      have kNo : Keep No w wr := HK5.out.may HR.out.keep (by omega) (by omega)
      have r7 := HR.out.keep.blk HB5.out.2.2.1 (fun hm => hm.elim (fun e => by omega) (fun e => by omega))
      have hnorm := (Norm_any wr (Up (F + 2)) u v (mkFp (keysOf args p.reads) (keysOf args p.writes)) ⟨r1, r2⟩ (by
        have e1 : (keysOf args p.reads).length = p.reads.length := by simp [keysOf]
        have e2 : (keysOf args p.writes).length = p.writes.length := by simp [keysOf]
        show ((keysOf args p.reads).length + (keysOf args p.writes).length + 1) * 16 ≤ _
        omega)).mono (R' := fun e w8 => ∃ a n c a' n' c' q, e = .returned (.tuple #[.agg #[.slice a n c, .slice a' n' c'], .int .i64 q]) ∧ w8.heap[w.heap.size + 1]? = some (.cells #[.slice none 0 0, .slice none 0 0] 49 (0, 0)) ∧ RowKit.Hid (q = (p.foot args).2 ∧ OwnF wr w8 (.slice a n c) (.slice a' n' c') (p.foot args).1 ∧ Keep No w w8)) (by
        rintro e w8 ⟨a, n, c, a', n', c', rfl, ho, hk⟩
        rw [hfo]
        exact ⟨a, n, c, a', n', c', _, rfl, hk.blk r7 (fun x => x), rfl, ho, kNo.trans hk⟩)
      have c0 := blk_cell b0
      have hsw := Lib.hid kNo.size
      clear b0 r1 r2 hfo hnr hnw kNo r7 hlt hi
      go_wp2_with (go_at_call 68; refine hnorm.mono ?_; clear hnorm; rintro e w8 ⟨x1, x2, x3, x4, x5, x6, q, rfl, r8, H8⟩; have c8 := blk_cell r8; have z8 := blk_fro r8)
      have y8 := blk_two r8 (.slice x1 x2 x3) (.slice x4 x5 x6)
      have k8 := H8.out.2.2.setNew2 (b := w.heap.size + 1) (by omega) (.slice x1 x2 x3) (.slice x4 x5 x6)
      have s8 := blk_cell y8
      refine bodyPost_ret (v := .tuple #[.agg #[.slice x1 x2 x3, .slice x4 x5 x6], .int .i64 q]) (by simp [results, Tryz.results23, go_sem, s8]) rfl ?_
      refine ⟨x1, x2, x3, x4, x5, x6, by rw [H8.out.1], ?_, k8⟩
      have hup : ∀ (y : Value) (l : List ByteArray), OwnT wr w8 y l → OwnT w ((w8.setCell ⟨w.heap.size + 1, 0, none⟩ (.slice x1 x2 x3)).setCell ⟨w.heap.size + 1, 1, none⟩ (.slice x4 x5 x6)) y l := fun y l ho => by
        obtain ⟨o1, o2⟩ := ho
        refine ⟨(o1.agree ((keep_two w8 (w.heap.size + 1) _ _).agree fun k _ hk e => ?_)).mono fun k hk => ⟨Nat.le_trans hsw.out hk.1, by have := hk.2; simpa using this⟩, k8⟩
        have : k = w.heap.size + 1 := e
        have h9 := hk.1
        have h10 := HB5.out.2.2.2
        have h11 := HR.out.keep.size
        omega
      exact ⟨hup _ _ H8.out.2.1.1, hup _ _ H8.out.2.1.2⟩
end Go.Proofs.YtfgdnakfikpmpaaGreatDoor
