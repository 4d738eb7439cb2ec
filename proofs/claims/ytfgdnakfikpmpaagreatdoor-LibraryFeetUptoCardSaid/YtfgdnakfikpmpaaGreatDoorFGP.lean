/-
  Parts of what is proved for this claim; each declaration is one of the seat's texts.
-/
import Derived.Test.YtfgdnakfikpmpaaGreatDoorFGB
import Derived.Test.YtfgdnakfikpmpaaGreatDoorFGN
set_option linter.unusedVariables false
set_option linter.unusedSimpArgs false
namespace Go.Proofs.YtfgdnakfikpmpaaGreatDoor
open Go Go.RowKit Go.Deep
theorem wpList_cpy {P : Program} {w : World} {ops : Array Oper} {rest : List Oper} {o : Oper} {a : Act} {Q : Exit → Act → World → Prop} (hgd : o.guard = none) (s x : Operand) (t u : TypeId)
    (ho : o.op = .call { callee := .builtin .copy, args := #[s, x], argTypes := #[t, u] }) {v xv : Value} (hs : a.eval s = v) (hx : a.eval x = xv) {v' : Value} {w' : World}
    (hr : (Builtin.copy_ #[t, u] o.type #[v, xv]).run P w = .ok v' w') (h : wpList P ops Q rest (a.put o.dst v') w') : wpList P ops Q (o :: rest) a w :=
  wpList_plain hgd fun K hK => by
    unfold Oper.wp execOp
    simp only [ho, resolve, invoke, builtin, Sem.run_bind, Sem.run_pure, Result.andThen_ok, List.map_toArray, List.map_cons, List.map_nil, hs, hx, hr]
    exact hK _ _ h
theorem setT_bound (l : List ByteArray) (j : Nat) : (setT (l.take j)).length ≤ l.length := Nat.le_trans (setT_len_le _) (by simp; omega)
theorem set_ins {w wr : World} {ao : Option Addr} {co : Nat} {ys : List ByteArray} (ho : OwnT w wr (.slice ao ys.length co) ys) {S : Nat → Prop} {b off c : Nat} {l : List ByteArray} (h0 : Rd (.slice .str) w S [.slice (some ⟨b, off, none⟩) l.length c] l)
    (j : Nat) (hj : j < l.length) (k : Nat) (hk : k ≤ ys.length) (hl : (ys.length + 1) * 16 ≤ 140737488355328) (M : Nat) :
    ∃ c2 w2 b2 off2 w3, (Builtin.append_ #[23, 23] 23 #[.slice ao ys.length co, .slice (some ⟨wr.heap.size, 0, none⟩) 1 1]).run Tryz.prog ((wr.drewN M).alloc (.cells #[.string ⟨#[]⟩] 9)) = .ok (.slice (some ⟨b2, off2, none⟩) (ys.length + 1) c2) w2 ∧
      (Builtin.copy_ #[23, 23] 3 #[fromS b2 off2 (ys.length + 1) c2 (k + 1), fromS b2 off2 (ys.length + 1) c2 k]).run Tryz.prog w2.drew = .ok (.int .i64 ((ys.length - k : Nat) : Int)) w3 ∧
      (∃ u, w3.cell? ⟨b2, off2 + k, none⟩ = some u) ∧ w3.frozen? ⟨b2, off2 + k, none⟩ = false ∧ w3.cell? ⟨b, off + j, none⟩ = some (.string l[j]) ∧ ys.length + 1 ≤ c2 ∧
      RowKit.Hid (OwnT w (w3.setCell ⟨b2, off2 + k, none⟩ (.string l[j])) (.slice (some ⟨b2, off2, none⟩) (ys.length + 1) c2) (ys.take k ++ l[j] :: ys.drop k)) := by
  have hoM : OwnT w (wr.drewN M) _ ys := ho.more ((Keep.refl No wr).drewN M)
  obtain ⟨a2, c2, w2, hrun, ho2⟩ := appT_one hoM ⟨#[]⟩ (by simp [ByteArray.size]) (by simpa using hl)
  have ho2' : OwnT w w2.drew _ _ := ho2.more (Keep.refl No w2).drew
  obtain ⟨a', c', e1, -, -, -, h4⟩ := strs_at h0
  obtain ⟨b', off', e2, -, hb, hx, -, hxs⟩ := h4 j hj
  simp only [Value.slice.injEq, true_and] at e1
  obtain ⟨rfl, rfl⟩ := e1
  simp only [Option.some.injEq, Addr.mk.injEq, and_true] at e2
  obtain ⟨rfl, rfl⟩ := e2
  obtain ⟨b2, off2, w3, rfl, hcp, hu, hz, hk3, hfin⟩ := ins_mem ho2' k hk hxs
  obtain ⟨_, _, _, e3, -, -, -, hc2, -⟩ := ho2.open' (by simp)
  exact ⟨c2, w2, b2, off2, w3, hrun, hcp, hu, hz, (hk3.cell hb (fun x => x)).trans hx, hc2, hfin⟩
set_option maxRecDepth 10000 in
set_option maxHeartbeats 8000000 in
theorem rSet_any (w : World) (S : Nat → Prop) (v : Value) (l : List ByteArray) (h : Rd (.slice .str) w S [v] l) (hl : (l.length + 1) * 16 ≤ 140737488355328) :
    Calls Tryz.prog 80 #[v] w (GivesT w (setT l)) := by
  have h0 := h
  obtain ⟨a, c, rfl, -, -, -, -⟩ := strs_at h
  clear h
  go_enter Tryz.func80, Tryz.ntmps80
  go_wp2_with fail
  go_loopw [3, 4] (fun o i wr => ∃ j : Nat, j ≤ l.length ∧ i = .int .i64 j ∧ OwnT w wr o (setT (l.take j))) (fun _ i _ => l.length - (intOf i).toNat)
  case atStart => exact ⟨0, by omega, rfl, OwnT.nil w⟩
  case round =>
    obtain ⟨j, hj, rfl, ho⟩ := hrel
    by_cases hlt : j < l.length
    · have j1 : (j : Int) < l.length := by omega
      have j0 : (0 : Int) ≤ j := by omega
      have j3 : (j : Int) ≤ 9223372036854775806 := by omega
      have hR := h0.agree (.slice .str) ho.2.agreeNo
      obtain ⟨a', c', e1, -, -, -, h4⟩ := strs_at hR
      simp only [Value.slice.injEq, true_and] at e1
      obtain ⟨rfl, rfl⟩ := e1
      obtain ⟨b, off, rfl, -, -, hx, -, hxs⟩ := h4 j hlt
      have hsucc := setT_succ l j hlt
      have hbound := setT_bound l j
      generalize hxx : l[j] = x at hx hxs hsucc
      generalize setT (l.take j) = ys at ho hsucc hbound
      obtain ⟨ao, co, rfl, -⟩ := ho.1.form
      obtain ⟨a1, c1, e1, -, -, -, g4⟩ := strs_at ho.rd
      simp only [Value.slice.injEq, true_and] at e1
      obtain ⟨rfl, rfl⟩ := e1
      have HO := Lib.hid ho
      have HB := Lib.hid h0
      have hxx' := Lib.hid hxx
      have HS := Lib.hid (And.intro hsucc (And.intro hbound (And.intro hxs hl)))
      clear ho hR h0 h4 hxx hsucc hbound hl hxs
      go_wp2_with fail
      go_loopw [5] (fun kk wr' => ∃ k m : Nat, k ≤ ys.length ∧ kk = .int .i64 k ∧ wr' = wr.drewN m ∧ ∀ i (hi : i < ys.length), i < k → ltT ys[i] x = true) (fun kk _ => ys.length - (intOf kk).toNat)
      case atStart => exact ⟨0, 0, by omega, rfl, rfl, fun _ _ h => absurd h (Nat.not_lt_zero _)⟩
      case round =>
        obtain ⟨k, m, hk, rfl, rfl, hpre⟩ := hrel
        have hX : (wr.drewN m).cell? ⟨b, off + j, none⟩ = some (.string x) := hx
        by_cases hkl : k < ys.length
        · have k1 : (k : Int) < ys.length := by omega
          have k0 : (0 : Int) ≤ k := by omega
          have k3 : (k : Int) ≤ 9223372036854775806 := by have := HS.2.2.2; have := HS.2.1; omega
          obtain ⟨b', off', rfl, -, -, hy, -, hys⟩ := g4 k hkl
          have hlt' := hpre
          generalize hyy : ys[k] = y at hy
          cases hcmp : ltT y x with
          | true =>
            have hbl : Op.bytesLess y.toList x.toList = true := hcmp
            have HP := Lib.hid (show k + 1 ≤ ys.length ∧ ∀ i (hi : i < ys.length), i < k + 1 → ltT ys[i] x = true from ⟨hkl, fun i hi hik => by
              by_cases e : i = k
              · subst e; rw [hyy]; exact hcmp
              · exact hpre i hi (by omega)⟩)
            clear hpre hlt' hcmp g4 hyy hkl hk hys
            go_wp2_with fail
            go_quiet (fail)
            go_wp2_with fail
            go_roundw
            case rel => exact ⟨k + 1, _, HP.1, by simp, by first | rfl | trivial, HP.2⟩
            case measure => simp [intOf]; have := HP.1; omega
          | false =>
            have hbl : Op.bytesLess y.toList x.toList = false := hcmp
            by_cases heq : y = x
            · have hbe : (y.toList == x.toList) = true := by rw [text_beq]; exact decide_eq_true heq
              have hins : insT x ys = ys := by
                rw [insT_at x ys k hk hpre (fun hi => by rw [hyy]; exact hcmp), if_pos ⟨hkl, hyy.trans heq⟩]
              have HI := Lib.hid hins
              clear hpre hlt' hcmp g4 hyy hkl hk hys hins
              subst heq
              go_wp2_with fail
              go_quiet (fail)
              go_wp2_with fail
              go_quiet (fail)
              go_wp2_with fail
              go_roundw
              case rel =>
                have e1 := HS.1
                rw [show insT _ ys = ys from HI] at e1
                exact ⟨j + 1, by omega, by simp, by rw [e1]; exact OwnT.more HO ((Keep.refl No wr).drewN _)⟩
              case measure => simp [intOf]; omega
            · have hbe : (y.toList == x.toList) = false := by rw [text_beq]; exact decide_eq_false heq
              have hins : insT x ys = ys.take k ++ x :: ys.drop k := by
                rw [insT_at x ys k hk hpre (fun hi => by rw [hyy]; exact hcmp), if_neg (by rintro ⟨hi, e⟩; exact heq (hyy.symm.trans e))]
              have HI := Lib.hid hins
              have HK := Lib.hid hk
              clear hpre hlt' hcmp g4 hyy hkl hk hys hins heq
              go_wp2_with fail
              go_quiet (fail)
              go_wp2_with fail
              go_quiet (fail)
              rw [World.drewN_drewN, World.drewN_drewN]
              generalize m + (_ + _) = M
              go_upto_region 9 with fail
              have hI := set_ins HO HB j (by omega) k HK (by have := HS.2.2.2; have := HS.2.1; omega)
              rw [hxx'] at hI
              unfold fromS at hI
              obtain ⟨c2, w2, b2, off2, w3, hrun, hcp, ⟨u, hu⟩, hz, hx3, hc2, HF⟩ := hI M
              clear hI
              have i1 : (k : Int) ≤ ys.length := by have : k ≤ ys.length := HK; omega
              have i2 : (ys.length : Int) ≤ 9223372036854775806 := by have := HS.2.2.2; have := HS.2.1; omega
              have i3 : (0 : Int) ≤ (k : Int) + 1 := by omega
              have i4 : (k : Int) + 1 ≤ (ys.length : Int) + 1 := by omega
              have i5 : (k : Int) ≤ 9223372036854775806 := by omega
              have i6 : (0 : Int) ≤ (k : Int) := by omega
              have i7 : (ys.length : Int) + 1 ≤ c2 := by omega
              go_wp2_with (at_builtin; refine wpList_app rfl (.tmp 44) (.tmp 45) 23 23 rfl rfl rfl hrun ?_)
              refine wp_region_can [0, 1, 2, 3, 4, 5, 6, 7] [7] [] (by kernel_rfl) (by kernel_rfl) (by kernel_rfl) (by kernel_rfl) (by intro c a d v w h; cases d <;> exact h) ?_
              have e1 : IntKind.i64.wrap ((k : Int) + 1) = ((k + 1 : Nat) : Int) := by rw [Int.natCast_add]; rw [IntKind.wrap_i64]; omega
              have e2 : (0 : Int) ≤ ((k + 1 : Nat) : Int) := by omega
              have e3 : ((k + 1 : Nat) : Int) ≤ (ys.length : Int) + 1 := by omega
              have e4 : (k : Int) ≤ (ys.length : Int) + 1 := by omega
              iterate 7 (refine can_sil rfl rfl (fun K hK => ?_); go_simp; (try simp only [e1, e2, e3, e4, i6, and_self, if_true, Int.toNat_natCast]); refine hK _ ?_; clear hK K)
              refine can_loud [] rfl rfl rfl (fun K hK => ?_)
              rw [Nat.add_sub_add_right] at hcp
              refine wpList_cpy rfl (.tmp 50) (.tmp 53) 23 23 rfl rfl rfl hcp ?_
              go_wp2_with fail
              refine Mid.normal (hK _ _ ?_ ?_)
              · exact stabs_nil
              clear hK K
              refine can_nil ?_
              go_wp2_with fail
              go_roundw
              case rel =>
                have e1 := HS.1
                rw [show insT _ ys = _ from HI] at e1
                exact ⟨j + 1, by omega, by simp, by rw [e1]; exact HF⟩
              case measure => simp [intOf]; omega
        · have hke : k = ys.length := by omega
          have k1 : ¬ (k : Int) < ys.length := by omega
          have hins : insT x ys = ys.take k ++ x :: ys.drop k := by
            rw [insT_at x ys k hk hpre (fun hi => absurd hi hkl), if_neg (by rintro ⟨hi, e⟩; exact hkl hi)]
          have HI := Lib.hid hins
          have HK := Lib.hid hk
          clear hpre g4 hk hins hke
          go_wp2_with fail
          go_quiet (fail)
          go_wp2_with fail
          go_quiet (fail)
          rw [World.drewN_drewN, World.drewN_drewN]
          generalize m + (_ + _) = M
          go_upto_region 9 with fail
          have hI := set_ins HO HB j (by omega) k HK (by have := HS.2.2.2; have := HS.2.1; omega)
          rw [hxx'] at hI
          unfold fromS at hI
          obtain ⟨c2, w2, b2, off2, w3, hrun, hcp, ⟨u, hu⟩, hz, hx3, hc2, HF⟩ := hI M
          clear hI
          have i1 : (k : Int) ≤ ys.length := by have : k ≤ ys.length := HK; omega
          have i2 : (ys.length : Int) ≤ 9223372036854775806 := by have := HS.2.2.2; have := HS.2.1; omega
          have i3 : (0 : Int) ≤ (k : Int) + 1 := by omega
          have i4 : (k : Int) + 1 ≤ (ys.length : Int) + 1 := by omega
          have i5 : (k : Int) ≤ 9223372036854775806 := by omega
          have i6 : (0 : Int) ≤ (k : Int) := by omega
          have i7 : (ys.length : Int) + 1 ≤ c2 := by omega
          go_wp2_with (at_builtin; refine wpList_app rfl (.tmp 44) (.tmp 45) 23 23 rfl rfl rfl hrun ?_)
          refine wp_region_can [0, 1, 2, 3, 4, 5, 6, 7] [7] [] (by kernel_rfl) (by kernel_rfl) (by kernel_rfl) (by kernel_rfl) (by intro c a d v w h; cases d <;> exact h) ?_
          have e1 : IntKind.i64.wrap ((k : Int) + 1) = ((k + 1 : Nat) : Int) := by rw [Int.natCast_add]; rw [IntKind.wrap_i64]; omega
          have e2 : (0 : Int) ≤ ((k + 1 : Nat) : Int) := by omega
          have e3 : ((k + 1 : Nat) : Int) ≤ (ys.length : Int) + 1 := by omega
          have e4 : (k : Int) ≤ (ys.length : Int) + 1 := by omega
          iterate 7 (refine can_sil rfl rfl (fun K hK => ?_); go_simp; (try simp only [e1, e2, e3, e4, i6, and_self, if_true, Int.toNat_natCast]); refine hK _ ?_; clear hK K)
          refine can_loud [] rfl rfl rfl (fun K hK => ?_)
          rw [Nat.add_sub_add_right] at hcp
          refine wpList_cpy rfl (.tmp 50) (.tmp 53) 23 23 rfl rfl rfl hcp ?_
          go_wp2_with fail
          all_goals
            refine Mid.normal (hK _ _ ?_ ?_)
            · exact stabs_nil
            clear hK K
            refine can_nil ?_
            go_wp2_with fail
            go_roundw
            case rel =>
              have e1 := HS.1
              rw [show insT _ ys = _ from HI] at e1
              refine ⟨j + 1, by omega, by simp, ?_⟩
              rw [e1]
              first
              | exact HF
              | (have hca : c2 = k + 1 := by assumption
                 rw [hca] at HF
                 exact HF)
            case measure => simp [intOf]; omega
    · have hje : ¬ (j : Int) < l.length := by omega
      have hfin : setT (l.take j) = setT l := by rw [List.take_of_length_le (by omega)]
      obtain ⟨ao, co, rfl, -⟩ := ho.1.form
      have HO := Lib.hid ho
      clear ho
      go_wp2_with fail
      go_ret
      exact ⟨_, _, _, rfl, hfin ▸ HO⟩
end Go.Proofs.YtfgdnakfikpmpaaGreatDoor
namespace Go.Proofs.YtfgdnakfikpmpaaGreatDoor
open Go Go.RowKit Go.Deep
def FpAt (w : World) (S : Nat → Prop) (u v : Value) (f : Fp) : Prop := Rd (.slice .str) w S [u] f.rs ∧ Rd (.slice .str) w S [v] f.ws
theorem FpAt.agree {w w' : World} {S : Nat → Prop} {u v : Value} {f : Fp} (h : FpAt w S u v f) (k : Agree S w w') : FpAt w' S u v f := ⟨h.1.agree _ k, h.2.agree _ k⟩
theorem FpAt.keep {w w' : World} {S : Nat → Prop} {u v : Value} {f : Fp} (h : FpAt w S u v f) (k : Keep No w w') : FpAt w' S u v f := h.agree k.agreeNo
theorem FpAt.mono {w : World} {S T : Nat → Prop} {u v : Value} {f : Fp} (h : FpAt w S u v f) (k : ∀ i, i < w.heap.size → S i → T i) : FpAt w T u v f := ⟨h.1.mono _ k, h.2.mono _ k⟩
def OwnF (w0 w : World) (u v : Value) (f : Fp) : Prop := OwnT w0 w u f.rs ∧ OwnT w0 w v f.ws
theorem rSame_any (w : World) (S T : Nat → Prop) (u v u' v' : Value) (f g : Fp) (h : FpAt w S u v f) (h' : FpAt w T u' v' g) :
    Calls Tryz.prog 27 #[.agg #[u, v], .agg #[u', v']] w (Says w (decide (f.rs = g.rs) && decide (f.ws = g.ws))) := by
  have k1 : ∀ w', Keep No w w' → Calls Tryz.prog 38 #[u, u'] w' (Looks w' (.bool (decide (f.rs = g.rs)))) := fun w' hk => rTexts_any w' S T u u' _ _ (h.keep hk).1 (h'.keep hk).1
  have k2 : ∀ w', Keep No w w' → Calls Tryz.prog 38 #[v, v'] w' (Looks w' (.bool (decide (f.ws = g.ws)))) := fun w' hk => rTexts_any w' S T v v' _ _ (h.keep hk).2 (h'.keep hk).2
  obtain ⟨a1, c1, rfl, -⟩ := strs_at h.1
  obtain ⟨a2, c2, rfl, -⟩ := strs_at h.2
  obtain ⟨a3, c3, rfl, -⟩ := strs_at h'.1
  obtain ⟨a4, c4, rfl, -⟩ := strs_at h'.2
  have K0 := Keep.refl No w
  generalize decide (f.rs = g.rs) = p at k1
  generalize decide (f.ws = g.ws) = q at k2
  generalize f.rs = fr at *
  generalize f.ws = fw at *
  generalize g.rs = gr at *
  generalize g.ws = gw at *
  clear h h'
  cases p with
  | false =>
    go_enter Tryz.func27, Tryz.ntmps27
    go_wp2_with fail
    refine (k1 _ ((K0.alloc _).alloc _)).mono ?_
    rintro e w' ⟨n, rfl, rfl⟩
    go_wp2
    go_ret
    exact ⟨rfl, ((K0.alloc _).alloc _).drewN _⟩
  | true =>
    go_enter Tryz.func27, Tryz.ntmps27
    go_wp2_with fail
    refine (k1 _ ((K0.alloc _).alloc _)).mono ?_
    rintro e w' ⟨n, rfl, rfl⟩
    go_wp2_with fail
    refine (k2 _ (((K0.alloc _).alloc _).drewN _)).mono ?_
    rintro e w' ⟨n, rfl, rfl⟩
    go_wp2
    go_ret
    exact ⟨by simp, ((K0.alloc _).alloc _).drewN _⟩
def GivesFC (w : World) (x : Fp × Int) (e : Ending) (w' : World) : Prop := ∃ a n c a' n' c', e = .returned (.tuple #[.agg #[.slice a n c, .slice a' n' c'], .int .i64 x.2]) ∧ OwnF w w' (.slice a n c) (.slice a' n' c') x.1 ∧ Keep No w w'
theorem setT_le (l : List ByteArray) : (setT l).length ≤ l.length := setT_len_le l
theorem allT_take (l : List ByteArray) (p : ByteArray → Bool) (k : Nat) (hk : k < l.length) (h : (l.take k).all p = true) : (l.take (k + 1)).all p = p l[k] := by
  rw [List.take_succ_eq_append_getElem hk, List.all_append, h]; simp
theorem allT_false (l : List ByteArray) (p : ByteArray → Bool) (k : Nat) (hk : k < l.length) (h : p l[k] = false) : l.all p = false := by
  rw [List.all_eq_false]; exact ⟨l[k], List.getElem_mem hk, by simp [h]⟩
theorem OwnT.over {w0 w1 w2 w' : World} {v : Value} {x : List ByteArray} {M : Nat → Prop} (h : OwnT w1 w2 v x) (k : Keep M w2 w') (hM : ∀ i, w1.heap.size ≤ i → ¬ M i) (h0 : w0.heap.size ≤ w1.heap.size) (hk : Keep No w0 w') : OwnT w0 w' v x :=
  ⟨(h.1.agree (k.agree fun i _ hf hm => hM i hf.1 hm)).mono fun i hi => ⟨by have := hi.1; omega, by have := hi.2; have := k.size; omega⟩, hk⟩
theorem blk_two {w : World} {b : Nat} {x y : Value} {t : TypeId} (h : w.heap[b]? = some (.cells #[x, y] t (0, 0))) (x' y' : Value) :
    ((w.setCell ⟨b, 0, none⟩ x').setCell ⟨b, 1, none⟩ y').heap[b]? = some (.cells #[x', y'] t (0, 0)) := by
  have := blk_set (blk_set h 0 x') 1 y'
  simpa using this
theorem keep_two (w : World) (b : Nat) (x y : Value) : Keep (One b) w ((w.setCell ⟨b, 0, none⟩ x).setCell ⟨b, 1, none⟩ y) := (keep_set w b 0 x).trans (keep_set _ b 1 y)
theorem Keep.setNew2 {M : Nat → Prop} {a w : World} (h : Keep M a w) {b : Nat} (hb : a.heap.size ≤ b) (x y : Value) :
    Keep M a ((w.setCell ⟨b, 0, none⟩ x).setCell ⟨b, 1, none⟩ y) := (h.setNew (p := ⟨b, 0, none⟩) hb x).setNew (p := ⟨b, 1, none⟩) hb y
theorem OwnT.nil' {w0 w : World} (h : Keep No w0 w) : OwnT w0 w (.slice none 0 0) [] := ⟨Own.nil _ _ _ _, h⟩
end Go.Proofs.YtfgdnakfikpmpaaGreatDoor
