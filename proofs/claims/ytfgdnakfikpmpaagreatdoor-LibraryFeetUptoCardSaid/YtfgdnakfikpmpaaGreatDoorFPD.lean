/-
  Parts of what is proved for this claim; each declaration is one of the seat's texts.
-/
import Derived.Test.YtfgdnakfikpmpaaGreatDoorFPB
import Derived.Test.YtfgdnakfikpmpaaGreatDoorFGQ
set_option linter.unusedVariables false
set_option linter.unusedSimpArgs false
namespace Go.Proofs.YtfgdnakfikpmpaaGreatDoor
open Go Go.RowKit Go.Deep
def opsL : List (ByteArray × Int × Int × Int) := [(⟨#[]⟩, 0, 0, 0), (⟨#[99, 111, 110, 115, 116]⟩, 1, 0, 1), (⟨#[97, 114, 103]⟩, 2, 0, 1), (⟨#[100, 117, 112]⟩, 0, 1, 2), (⟨#[100, 114, 111, 112]⟩, 0, 1, 0), (⟨#[115, 119, 97, 112]⟩, 0, 2, 2), (⟨#[111, 118, 101, 114]⟩, 0, 2, 3), (⟨#[97, 100, 100]⟩, 0, 2, 1), (⟨#[115, 117, 98]⟩, 0, 2, 1), (⟨#[109, 117, 108]⟩, 0, 2, 1), (⟨#[100, 105, 118]⟩, 0, 2, 1), (⟨#[109, 111, 100]⟩, 0, 2, 1), (⟨#[110, 101, 103]⟩, 0, 1, 1), (⟨#[101, 113]⟩, 0, 2, 1), (⟨#[108, 116]⟩, 0, 2, 1), (⟨#[110, 111, 116]⟩, 0, 1, 1), (⟨#[97, 110, 100]⟩, 0, 2, 1), (⟨#[111, 114]⟩, 0, 2, 1), (⟨#[106, 117, 109, 112]⟩, 3, 0, 0), (⟨#[106, 117, 109, 112, 122]⟩, 3, 1, 0), (⟨#[108, 111, 97, 100]⟩, 0, 1, 1), (⟨#[104, 97, 115]⟩, 0, 1, 1), (⟨#[115, 116, 111, 114, 101]⟩, 0, 2, 0), (⟨#[100, 101, 108]⟩, 0, 1, 0), (⟨#[99, 97, 116]⟩, 0, 2, 1), (⟨#[116, 101, 120, 116]⟩, 0, 1, 1), (⟨#[110, 117, 109]⟩, 0, 1, 1), (⟨#[108, 101, 110]⟩, 0, 1, 1), (⟨#[105, 115, 110, 111, 110, 101]⟩, 0, 1, 1), (⟨#[101, 109, 105, 116]⟩, 0, 1, 0), (⟨#[97, 98, 111, 114, 116]⟩, 0, 1, 0), (⟨#[114, 101, 116]⟩, 0, 0, 0)]
def opRow (x : ByteArray × Int × Int × Int) : List Value := [.string x.1, .int .i64 x.2.1, .int .i64 x.2.2.1, .int .i64 x.2.2.2]
def opsC : Array Value := (opsL.flatMap opRow).toArray
def opAt (op : Int) : ByteArray × Int × Int × Int := if 1 ≤ op ∧ op ≤ 31 then opsL.getD op.toNat (⟨#[]⟩, 0, 0, 0) else (⟨#[]⟩, 0, 0, 0)
set_option maxRecDepth 100000 in
set_option maxHeartbeats 4000000 in
theorem operations_g (w : World) : Calls Tryz.prog 216 #[] w fun e w' => e = .returned (.agg opsC) ∧ RowKit.Hid (Keep No w w') := by
  go_enter Tryz.func216, Tryz.ntmps216
  go_wp2_with fail
  rw [store_list (P := Tryz.prog) w _ rfl _ _ _ (by kernel_rfl) (by kernel_rfl) (by kernel_rfl)]
  generalize hC : (List.toArray (List.set _ 127 _) : Array Value) = C
  have h1 : C.size = 128 := by rw [← hC]; kernel_rfl
  have h2 : C = opsC := by rw [← hC]; kernel_rfl
  clear hC
  go_wp2_with fail
  subst h2
  exact bodyPost_ret (results_cell Tryz.results216 rfl (ops_load w opsC h1)) rfl ⟨rfl, (Keep.refl No w).alloc _⟩
theorem ops_row : ∀ (k : Nat), k < 32 → opsC.extract (k * 4) (k * 4 + 4) = (opRow (opsL.getD k (⟨#[]⟩, 0, 0, 0))).toArray
  | 0, _ => by kernel_rfl | 1, _ => by kernel_rfl | 2, _ => by kernel_rfl | 3, _ => by kernel_rfl | 4, _ => by kernel_rfl | 5, _ => by kernel_rfl | 6, _ => by kernel_rfl | 7, _ => by kernel_rfl | 8, _ => by kernel_rfl | 9, _ => by kernel_rfl | 10, _ => by kernel_rfl | 11, _ => by kernel_rfl | 12, _ => by kernel_rfl | 13, _ => by kernel_rfl | 14, _ => by kernel_rfl | 15, _ => by kernel_rfl | 16, _ => by kernel_rfl | 17, _ => by kernel_rfl | 18, _ => by kernel_rfl | 19, _ => by kernel_rfl | 20, _ => by kernel_rfl | 21, _ => by kernel_rfl | 22, _ => by kernel_rfl | 23, _ => by kernel_rfl | 24, _ => by kernel_rfl | 25, _ => by kernel_rfl | 26, _ => by kernel_rfl | 27, _ => by kernel_rfl | 28, _ => by kernel_rfl | 29, _ => by kernel_rfl | 30, _ => by kernel_rfl | 31, _ => by kernel_rfl
  | n + 32, h => absurd h (by omega)
theorem idx_g (k : Nat) (hk : k < 32) (W : World) : (Instr.index 302 (.agg opsC) (.int .i64 k)).run Tryz.prog W = .ok (.agg (opRow (opsL.getD k (⟨#[]⟩, 0, 0, 0))).toArray) W := by
  have h3 := ops_row k hk
  have h4 : ¬ (k : Int) < 0 := by omega
  have h5 : (k : Int) < 32 := by omega
  simp [Instr.index, run_underlying Tryz.underlying302, asIntOf, part, go_sem, h3, h4, h5]
  intro h; omega
theorem oprow_eq (x : ByteArray × Int × Int × Int) : Value.agg (opRow x).toArray = .agg #[.string x.1, .int .i64 x.2.1, .int .i64 x.2.2.1, .int .i64 x.2.2.2] := rfl
def OpG (w : World) (op : Int) (e : Ending) (w' : World) : Prop := e = .returned (.agg #[.string (opAt op).1, .int .i64 (opAt op).2.1, .int .i64 (opAt op).2.2.1, .int .i64 (opAt op).2.2.2]) ∧ RowKit.Hid (Keep No w w')
set_option maxRecDepth 10000 in
set_option maxHeartbeats 4000000 in
theorem opOf_g (op : Int) (w : World) : Calls Tryz.prog 166 #[.int .i64 op] w (OpG w op) := by
  have K1 := (Keep.refl No w).alloc (.cells #[.string ⟨#[]⟩, .int .i64 0, .int .i64 0, .int .i64 0] 258)
  have x1 := blk_new w (.cells #[.string ⟨#[]⟩, .int .i64 0, .int .i64 0, .int .i64 0] 258)
  by_cases h : 1 ≤ op ∧ op ≤ 31
  · have hw : opAt op = opsL.getD op.toNat (⟨#[]⟩, 0, 0, 0) := if_pos h
    obtain ⟨k, rfl⟩ : ∃ k : Nat, op = k := ⟨op.toNat, by omega⟩
    have hidx := idx_g k (by omega)
    have hop : opsL.getD ((k : Int)).toNat (⟨#[]⟩, 0, 0, 0) = opsL.getD k (⟨#[]⟩, 0, 0, 0) := rfl
    rw [hop] at hw
    rw [← hw, oprow_eq] at hidx
    have hc := (operations_g (w.alloc (.cells #[.string ⟨#[]⟩, .int .i64 0, .int .i64 0, .int .i64 0] 258))).mono (R' := fun e w2 => e = .returned (.agg opsC) ∧ w2.heap[w.heap.size]? = some (.cells #[.string ⟨#[]⟩, .int .i64 0, .int .i64 0, .int .i64 0] 258 (0, 0)) ∧ RowKit.Hid (Keep No w w2)) (by
      rintro e w2 ⟨rfl, hk⟩
      exact ⟨rfl, hk.out.blk x1 (fun x => x), K1.trans hk.out⟩)
    have j1 : ¬ (k : Int) < 1 := by omega
    have j2 : ¬ (31 : Int) < (k : Int) := by omega
    have HI := Lib.hid hidx
    unfold OpG
    generalize opsC = C at *
    generalize opAt (k : Int) = X at *
    obtain ⟨X1, X2, X3, X4⟩ := X
    clear h hw hop K1 x1
    go_enter Tryz.func166, Tryz.ntmps166
    go_wp2_with (go_at_call 216; refine hc.mono ?_; clear hc; rintro e w2 ⟨rfl, x2, HK⟩; have q2 := blk_cell x2; have z2 := blk_fro x2)
    have y2 := blk_four x2 (.string X1) (.int .i64 X2) (.int .i64 X3) (.int .i64 X4)
    have s2 := blk_cell y2
    have s0 := s2 0
    have s1 := s2 1
    have s3 := s2 2
    have s4 := s2 3
    simp at s0 s1 s3 s4
    refine bodyPost_ret (v := .agg #[.string X1, .int .i64 X2, .int .i64 X3, .int .i64 X4]) (by simp [results, Tryz.results166, go_sem, s0, s1, s3, s4]) rfl ?_
    exact ⟨rfl, (((HK.out.setNew (Nat.le_refl _) _).setNew (Nat.le_refl _) _).setNew (Nat.le_refl _) _).setNew (Nat.le_refl _) _⟩
  · have hw : opAt op = (⟨#[]⟩, 0, 0, 0) := if_neg h
    have q1 := blk_cell x1
    have z1 := blk_fro x1
    unfold OpG
    rw [hw]
    have HW := Lib.hid K1
    rcases Int.lt_or_le op 1 with j | j
    · clear h hw K1
      go_enter Tryz.func166, Tryz.ntmps166
      go_wp2_with fail
      refine bodyPost_ret (v := .agg #[.string ⟨#[]⟩, .int .i64 0, .int .i64 0, .int .i64 0]) (by simp [results, Tryz.results166, go_sem, q1]) rfl ?_
      exact ⟨rfl, HW⟩
    · have j2 : (31 : Int) < op := by omega
      have j1 : ¬ op < 1 := by omega
      clear h hw K1 j
      go_enter Tryz.func166, Tryz.ntmps166
      go_wp2_with fail
      refine bodyPost_ret (v := .agg #[.string ⟨#[]⟩, .int .i64 0, .int .i64 0, .int .i64 0]) (by simp [results, Tryz.results166, go_sem, q1]) rfl ?_
      exact ⟨rfl, HW⟩
end Go.Proofs.YtfgdnakfikpmpaaGreatDoor
namespace Go.Proofs.YtfgdnakfikpmpaaGreatDoor
open Go Go.RowKit Go.Deep
set_option maxRecDepth 10000 in
theorem word_g (op : Int) (w : World) : Calls Tryz.prog 129 #[.int .i64 op] w fun e w' => e = .returned (.string (opAt op).1) ∧ RowKit.Hid (Keep No w w') := by
  have hc := opOf_g op w
  unfold OpG at hc
  generalize opAt op = X at *
  obtain ⟨X1, X2, X3, X4⟩ := X
  have hf : ∀ W, (Instr.field 258 (.agg #[.string X1, .int .i64 X2, .int .i64 X3, .int .i64 X4]) 0).run Tryz.prog W = .ok (.string X1) W := fun W => by
    simp [Instr.field, run_underlying Tryz.underlying258, part, asAgg, go_sem]
  go_enter Tryz.func129, Tryz.ntmps129
  go_wp2_with (go_at_call 166; refine hc.mono ?_; clear hc; rintro e w2 ⟨rfl, HK⟩)
  go_ret
  exact ⟨rfl, HK⟩
set_option maxRecDepth 10000 in
theorem takes_g (op : Int) (w : World) : Calls Tryz.prog 167 #[.int .i64 op] w fun e w' => e = .returned (.tuple #[.int .i64 (opAt op).2.2.1, .int .i64 (opAt op).2.2.2]) ∧ RowKit.Hid (Keep No w w') := by
  have hc := opOf_g op w
  unfold OpG at hc
  generalize opAt op = X at *
  obtain ⟨X1, X2, X3, X4⟩ := X
  go_enter Tryz.func167, Tryz.ntmps167
  go_wp2_with (go_at_call 166; refine hc.mono ?_; clear hc; rintro e w2 ⟨rfl, HK⟩)
  go_quiet (fail)
  go_wp2_with fail
  go_ret2
  exact ⟨rfl, (HK.out.alloc _).drewN _⟩
def mostOf (args : Int) (n4 n5 : Nat) (g : Int) : Int := if g = 1 then n4 else if g = 2 then args else if g = 3 then n5 else 1
def fitsB (args : Int) (n4 n5 : Nat) (op N : Int) : Bool := decide (0 ≤ N) && decide (N < mostOf args n4 n5 (opAt op).2.1)
set_option maxRecDepth 10000 in
set_option maxHeartbeats 4000000 in
theorem fits_g (w : World) (args : Int) (a4 a5 : Option Addr) (n4 c4 n5 c5 : Nat) (op N : Int) :
    Calls Tryz.prog 180 #[.agg #[.int .i64 args, .slice a4 n4 c4, .slice a5 n5 c5], .agg #[.int .i64 op, .int .i64 N]] w fun e w' => e = .returned (.bool (fitsB args n4 n5 op N)) ∧ RowKit.Hid (Keep No w w') := by
  obtain ⟨b, hb⟩ : ∃ b, b = fitsB args n4 n5 op N := ⟨_, rfl⟩
  rw [← hb]
  have K2 := ((Keep.refl No w).alloc (.cells #[.int .i64 args, .slice a4 n4 c4, .slice a5 n5 c5] 27)).alloc (.cells #[.int .i64 op, .int .i64 N] 144)
  have x0 := blk_alloc (o' := .cells #[.int .i64 op, .int .i64 N] 144) (blk_new w (.cells #[.int .i64 args, .slice a4 n4 c4, .slice a5 n5 c5] 27))
  have x1 := blk_new (w.alloc (.cells #[.int .i64 args, .slice a4 n4 c4, .slice a5 n5 c5] 27)) (.cells #[.int .i64 op, .int .i64 N] 144)
  simp only [World.size_alloc] at x1
  have hop := (opOf_g op ((w.alloc (.cells #[.int .i64 args, .slice a4 n4 c4, .slice a5 n5 c5] 27)).alloc (.cells #[.int .i64 op, .int .i64 N] 144))).mono (R' := fun e w3 => e = .returned (.agg #[.string (opAt op).1, .int .i64 (opAt op).2.1, .int .i64 (opAt op).2.2.1, .int .i64 (opAt op).2.2.2]) ∧ w3.heap[w.heap.size]? = some (.cells #[.int .i64 args, .slice a4 n4 c4, .slice a5 n5 c5] 27 (0, 0)) ∧ w3.heap[w.heap.size + 1]? = some (.cells #[.int .i64 op, .int .i64 N] 144 (0, 0)) ∧ RowKit.Hid (Keep No w w3)) (by
    rintro e w3 ⟨rfl, hk⟩
    exact ⟨rfl, hk.out.blk x0 (fun x => x), hk.out.blk x1 (fun x => x), K2.trans hk.out⟩)
  have q0 := blk_cell x0
  have q1 := blk_cell x1
  obtain ⟨X, hX⟩ : ∃ X, opAt op = X := ⟨_, rfl⟩
  rw [hX] at hop
  obtain ⟨X1, g, X3, X4⟩ := X
  have hg0 : (opAt op).2.1 = g := by rw [hX]
  have hf : ∀ W, (Instr.field 258 (.agg #[.string X1, .int .i64 g, .int .i64 X3, .int .i64 X4]) 1).run Tryz.prog W = .ok (.int .i64 g) W := fun W => by
    simp [Instr.field, run_underlying Tryz.underlying258, part, asAgg, go_sem]
  clear K2 x0 x1 hX
  by_cases g1 : g = 1
  · subst g1
    have hg : (opAt op).2.1 = 1 := hg0
    clear hg0
    simp only at hop
    by_cases h0 : 0 ≤ N
    · by_cases h1 : N < (n4 : Int)
      · have hres : b = true := by rw [hb]; unfold fitsB mostOf; rw [hg]; simp [h0, h1]
        subst hres
        clear hg hb
        go_enter Tryz.func180, Tryz.ntmps180
        go_wp2_with (go_at_call 166; refine hop.mono ?_; clear hop q0 q1; rintro e w3 ⟨rfl, y0, y1, HK⟩; have q0 := blk_cell y0; have q1 := blk_cell y1)
        go_ret
        first | exact ⟨rfl, HK⟩ | exact ⟨congrArg (fun x => Ending.returned (Value.bool x)) (decide_eq_false (by omega)), HK⟩
      · have hres : b = false := by rw [hb]; unfold fitsB mostOf; rw [hg]; simp [h1]
        subst hres
        clear hg hb
        go_enter Tryz.func180, Tryz.ntmps180
        go_wp2_with (go_at_call 166; refine hop.mono ?_; clear hop q0 q1; rintro e w3 ⟨rfl, y0, y1, HK⟩; have q0 := blk_cell y0; have q1 := blk_cell y1)
        go_ret
        first | exact ⟨rfl, HK⟩ | exact ⟨congrArg (fun x => Ending.returned (Value.bool x)) (decide_eq_false (by omega)), HK⟩
    · have hres : b = false := by rw [hb]; unfold fitsB mostOf; rw [hg]; simp [h0]
      subst hres
      clear hg hb
      go_enter Tryz.func180, Tryz.ntmps180
      go_wp2_with (go_at_call 166; refine hop.mono ?_; clear hop q0 q1; rintro e w3 ⟨rfl, y0, y1, HK⟩; have q0 := blk_cell y0; have q1 := blk_cell y1)
      go_ret
      first | exact ⟨rfl, HK⟩ | exact ⟨congrArg (fun x => Ending.returned (Value.bool x)) (decide_eq_false (by omega)), HK⟩
  · by_cases g2 : g = 2
    · subst g2
      have hg : (opAt op).2.1 = 2 := hg0
      clear hg0
      simp only at hop
      by_cases h0 : 0 ≤ N
      · by_cases h1 : N < args
        · have hres : b = true := by rw [hb]; unfold fitsB mostOf; rw [hg]; simp [h0, h1]
          subst hres
          clear hg hb
          go_enter Tryz.func180, Tryz.ntmps180
          go_wp2_with (go_at_call 166; refine hop.mono ?_; clear hop q0 q1; rintro e w3 ⟨rfl, y0, y1, HK⟩; have q0 := blk_cell y0; have q1 := blk_cell y1)
          go_ret
          first | exact ⟨rfl, HK⟩ | exact ⟨congrArg (fun x => Ending.returned (Value.bool x)) (decide_eq_false (by omega)), HK⟩
        · have hres : b = false := by rw [hb]; unfold fitsB mostOf; rw [hg]; simp [h1]
          subst hres
          clear hg hb
          go_enter Tryz.func180, Tryz.ntmps180
          go_wp2_with (go_at_call 166; refine hop.mono ?_; clear hop q0 q1; rintro e w3 ⟨rfl, y0, y1, HK⟩; have q0 := blk_cell y0; have q1 := blk_cell y1)
          go_ret
          first | exact ⟨rfl, HK⟩ | exact ⟨congrArg (fun x => Ending.returned (Value.bool x)) (decide_eq_false (by omega)), HK⟩
      · have hres : b = false := by rw [hb]; unfold fitsB mostOf; rw [hg]; simp [h0]
        subst hres
        clear hg hb
        go_enter Tryz.func180, Tryz.ntmps180
        go_wp2_with (go_at_call 166; refine hop.mono ?_; clear hop q0 q1; rintro e w3 ⟨rfl, y0, y1, HK⟩; have q0 := blk_cell y0; have q1 := blk_cell y1)
        go_ret
        first | exact ⟨rfl, HK⟩ | exact ⟨congrArg (fun x => Ending.returned (Value.bool x)) (decide_eq_false (by omega)), HK⟩
    · by_cases g3 : g = 3
      · subst g3
        have hg : (opAt op).2.1 = 3 := hg0
        clear hg0
        simp only at hop
        by_cases h0 : 0 ≤ N
        · by_cases h1 : N < (n5 : Int)
          · have hres : b = true := by rw [hb]; unfold fitsB mostOf; rw [hg]; simp [h0, h1]
            subst hres
            clear hg hb
            go_enter Tryz.func180, Tryz.ntmps180
            go_wp2_with (go_at_call 166; refine hop.mono ?_; clear hop q0 q1; rintro e w3 ⟨rfl, y0, y1, HK⟩; have q0 := blk_cell y0; have q1 := blk_cell y1)
            go_ret
            first | exact ⟨rfl, HK⟩ | exact ⟨congrArg (fun x => Ending.returned (Value.bool x)) (decide_eq_false (by omega)), HK⟩
          · have hres : b = false := by rw [hb]; unfold fitsB mostOf; rw [hg]; simp [h1]
            subst hres
            clear hg hb
            go_enter Tryz.func180, Tryz.ntmps180
            go_wp2_with (go_at_call 166; refine hop.mono ?_; clear hop q0 q1; rintro e w3 ⟨rfl, y0, y1, HK⟩; have q0 := blk_cell y0; have q1 := blk_cell y1)
            go_ret
            first | exact ⟨rfl, HK⟩ | exact ⟨congrArg (fun x => Ending.returned (Value.bool x)) (decide_eq_false (by omega)), HK⟩
        · have hres : b = false := by rw [hb]; unfold fitsB mostOf; rw [hg]; simp [h0]
          subst hres
          clear hg hb
          go_enter Tryz.func180, Tryz.ntmps180
          go_wp2_with (go_at_call 166; refine hop.mono ?_; clear hop q0 q1; rintro e w3 ⟨rfl, y0, y1, HK⟩; have q0 := blk_cell y0; have q1 := blk_cell y1)
          go_ret
          first | exact ⟨rfl, HK⟩ | exact ⟨congrArg (fun x => Ending.returned (Value.bool x)) (decide_eq_false (by omega)), HK⟩
      · have e1 : (g == 1) = false := by simpa using g1
        have e2 : (g == 2) = false := by simpa using g2
        have e3 : (g == 3) = false := by simpa using g3
        have hg := hg0
        simp only at hop
        by_cases h0 : 0 ≤ N
        · by_cases h1 : N < 1
          · have hres : b = true := by rw [hb]; unfold fitsB mostOf; rw [hg]; simp [h0, h1, g1, g2, g3]
            clear hg0 g1 g2 g3
            subst hres
            clear hg hb
            go_enter Tryz.func180, Tryz.ntmps180
            go_wp2_with (go_at_call 166; refine hop.mono ?_; clear hop q0 q1; rintro e w3 ⟨rfl, y0, y1, HK⟩; have q0 := blk_cell y0; have q1 := blk_cell y1)
            go_ret
            first | exact ⟨rfl, HK⟩ | exact ⟨congrArg (fun x => Ending.returned (Value.bool x)) (decide_eq_false (by omega)), HK⟩
          · have hres : b = false := by rw [hb]; unfold fitsB mostOf; rw [hg]; simp [h1, g1, g2, g3]
            clear hg0 g1 g2 g3
            subst hres
            clear hg hb
            go_enter Tryz.func180, Tryz.ntmps180
            go_wp2_with (go_at_call 166; refine hop.mono ?_; clear hop q0 q1; rintro e w3 ⟨rfl, y0, y1, HK⟩; have q0 := blk_cell y0; have q1 := blk_cell y1)
            go_ret
            first | exact ⟨rfl, HK⟩ | exact ⟨congrArg (fun x => Ending.returned (Value.bool x)) (decide_eq_false (by omega)), HK⟩
        · have hres : b = false := by rw [hb]; unfold fitsB mostOf; rw [hg]; simp [h0]
          clear hg0 g1 g2 g3
          subst hres
          clear hg hb
          go_enter Tryz.func180, Tryz.ntmps180
          go_wp2_with (go_at_call 166; refine hop.mono ?_; clear hop q0 q1; rintro e w3 ⟨rfl, y0, y1, HK⟩; have q0 := blk_cell y0; have q1 := blk_cell y1)
          go_ret
          first | exact ⟨rfl, HK⟩ | exact ⟨congrArg (fun x => Ending.returned (Value.bool x)) (decide_eq_false (by omega)), HK⟩
end Go.Proofs.YtfgdnakfikpmpaaGreatDoor
namespace Go.Proofs.YtfgdnakfikpmpaaGreatDoor
open Go Go.RowKit Go.Deep
def badC (v : Val) : Bool := !v.ok || decide (v.kind = 0)
def badI (args : Int) (n4 n5 : Nat) (i : Ins) : Bool := decide ((opAt i.1).1 = ⟨#[]⟩) || !fitsB args n4 n5 i.1 i.2.1
def formL (args : Int) (consts : List Val) (code : List Ins) : Int × Int :=
  if args < 0 ∨ 8 < args then (50, 0) else if 32 < consts.length then (6, 0) else
  match consts.findIdx? badC with
  | some i => (51, i)
  | none => if code.length = 0 ∨ 256 < code.length then (52, 0) else
    match code.findIdx? (badI args consts.length code.length) with
    | some i => (if (opAt (code.getD i (0, 0, ())).1).1 = ⟨#[]⟩ then 53 else 54, i)
    | none => (0, 0)
theorem instrs_get {w : World} {S : Nat → Prop} {a : Option Addr} {n c : Nat} {l : List Ins} (h : Rd (.slice instrSh) w S [.slice a n c] l) (i : Nat) (hi : i < l.length) :
    ∃ b off, a = some ⟨b, off, none⟩ ∧ b < w.heap.size ∧ S b ∧ w.cell? ⟨b, off + i * 2, none⟩ = some (.int .i64 l[i].1) ∧ w.cell? ⟨b, off + i * 2 + 1, none⟩ = some (.int .i64 l[i].2.1) := by
  obtain ⟨b, off, row, ha, -, hb, hS, -, hrow, hx⟩ := h.elem' i hi
  obtain ⟨_, _, rfl, ⟨rfl, w1⟩, _, _, rfl, ⟨rfl, w2⟩, rfl⟩ := hx
  have p0 := (hrow 0 (by simp)).1
  have p1 := (hrow 1 (by simp)).1
  simp [Sh.size] at p0 p1
  exact ⟨b, off, ha, hb, hS, p0, p1⟩
theorem find_at {α : Type} {l : List α} {p : α → Bool} {k : Nat} (hk : k < l.length) (h : p l[k] = true) (hb : ∀ j (hj : j < k), p (l[j]'(by omega)) = false) : l.findIdx? p = some k :=
  List.findIdx?_eq_some_iff_getElem.2 ⟨hk, h, fun j hj => by rw [hb j hj]; simp⟩
theorem find_no {α : Type} {l : List α} {p : α → Bool} (hb : ∀ j (hj : j < l.length), p l[j] = false) : l.findIdx? p = none :=
  List.findIdx?_eq_none_iff.2 fun x hx => by obtain ⟨j, hj, rfl⟩ := List.mem_iff_getElem.1 hx; exact hb j hj
set_option maxRecDepth 10000 in
set_option maxHeartbeats 4000000 in
theorem form_g (w : World) (S T : Nat → Prop) (args : Int) (a4 a5 : Option Addr) (c4 c5 : Nat) (consts : List Val) (code : List Ins) (h4 : Rd (.slice valueSh) w S [.slice a4 consts.length c4] consts) (h5 : Rd (.slice instrSh) w T [.slice a5 code.length c5] code) :
    Calls Tryz.prog 140 #[.agg #[.int .i64 args, .slice a4 consts.length c4, .slice a5 code.length c5]] w fun e w' => e = .returned (.tuple #[.int .i64 (formL args consts code).1, .int .i64 (formL args consts code).2]) ∧ RowKit.Hid (Keep No w w') := by
  obtain ⟨er, at', hF⟩ : ∃ er at', formL args consts code = (er, at') := ⟨_, _, rfl⟩
  rw [hF]
  have K1 := (Keep.refl No w).alloc (.cells #[.int .i64 args, .slice a4 consts.length c4, .slice a5 code.length c5] 27)
  have x1 := blk_new w (.cells #[.int .i64 args, .slice a4 consts.length c4, .slice a5 code.length c5] 27)
  have q1 := blk_cell x1
  have HX := Lib.hid (And.intro K1 x1)
  have HR := Lib.hid (And.intro h4 h5)
  have HF := Lib.hid hF
  clear K1 x1 h4 h5
  unfold formL at hF
  by_cases ha : args < 0 ∨ 8 < args
  · rw [if_pos ha] at hF
    simp only [Prod.mk.injEq] at hF
    obtain ⟨rfl, rfl⟩ := hF
    rcases ha with ha | ha
    · clear HF
      go_enter Tryz.func140, Tryz.ntmps140
      go_wp2_with fail
      go_ret2
      exact ⟨rfl, HX.out.1⟩
    · have ha2 : ¬ args < 0 := by omega
      clear HF
      go_enter Tryz.func140, Tryz.ntmps140
      go_wp2_with fail
      go_ret2
      exact ⟨rfl, HX.out.1⟩
  · rw [if_neg ha] at hF
    have ha1 : ¬ args < 0 := by omega
    have ha2 : ¬ 8 < args := by omega
    clear ha
    by_cases hc : 32 < consts.length
    · rw [if_pos hc] at hF
      simp only [Prod.mk.injEq] at hF
      obtain ⟨rfl, rfl⟩ := hF
      have hc1 : (32 : Int) < consts.length := by omega
      clear HF
      go_enter Tryz.func140, Tryz.ntmps140
      go_wp2_with fail
      go_ret2
      exact ⟨rfl, HX.out.1⟩
    · rw [if_neg hc] at hF
      have hc1 : ¬ (32 : Int) < consts.length := by omega
      have HG := Lib.hid hF
      clear hc hF HF
      go_enter Tryz.func140, Tryz.ntmps140
      go_wp2_with fail
      go_loopg [25] consts.length (fun g i wr => ∃ k : Nat, k ≤ consts.length ∧ g = consts.length - k ∧ i = .int .i64 k ∧ RowKit.Hid (Keep No (w.alloc (.cells #[.int .i64 args, .slice a4 consts.length c4, .slice a5 code.length c5] 27)) wr ∧ ∀ j (hj : j < k), ∀ hl : j < consts.length, badC (consts[j]'hl) = false))
      case atStart => exact ⟨0, by omega, by omega, rfl, Keep.refl No _, fun j hj => absurd hj (by omega)⟩
      case round =>
        obtain ⟨k, hk, rfl, rfl, HK⟩ := hrel
        by_cases hlt : k < consts.length
        · have j1 : (k : Int) < consts.length := by omega
          obtain ⟨v, hv⟩ : ∃ v, consts[k] = v := ⟨_, rfl⟩
          obtain ⟨b, off, ha4, hb, -, r0, r1, r2, hI, ht⟩ := vals_get (HR.out.1.agree _ (HX.out.1.trans HK.out.1).agreeNo) k hlt
          rw [hv] at r0 r1 r2 ht
          obtain ⟨v1, v2, v3, hvv⟩ : ∃ v1 v2 v3, v = mkVal v1 v2 v3 := ⟨v.kind, v.num, v.text, rfl⟩
          subst hvv
          have r0' : wr.cell? ⟨b, off + k * 3, none⟩ = some (.int .i64 v1) := r0
          have r1' : wr.cell? ⟨b, off + k * 3 + 1, none⟩ = some (.int .i64 v2) := r1
          have r2' : wr.cell? ⟨b, off + k * 3 + 2, none⟩ = some (.string v3) := r2
          have kA := (Keep.refl No wr).alloc (.cells #[.int .i64 v1, .int .i64 v2, .string v3] 47)
          have xA := blk_new wr (.cells #[.int .i64 v1, .int .i64 v2, .string v3] 47)
          obtain ⟨vo, hvo⟩ : ∃ vo, (mkVal v1 v2 v3).ok = vo := ⟨_, rfl⟩
          have hval := (Valid_any v1 v2 v3 ht (wr.alloc (.cells #[.int .i64 v1, .int .i64 v2, .string v3] 47))).mono (R' := fun e w3 => e = .returned (.bool vo) ∧ w3.heap[wr.heap.size]? = some (.cells #[.int .i64 v1, .int .i64 v2, .string v3] 47 (0, 0)) ∧ RowKit.Hid (Keep No (w.alloc (.cells #[.int .i64 args, .slice a4 consts.length c4, .slice a5 code.length c5] 27)) w3)) (by
            rintro e w3 ⟨rfl, hk⟩
            exact ⟨by rw [hvo], hk.blk xA (fun x => x), HK.out.1.trans (kA.trans hk)⟩)
          have hbad : badC (consts[k]'hlt) = (!vo || decide (v1 = 0)) := by rw [hv]; unfold badC; rw [hvo]; rfl
          have HB := Lib.hid (And.intro hbad hlt)
          subst ha4
          clear kA xA hvo hv hbad r0 r1 r2 hI ht hb hk q1
          cases vo with
          | false =>
            have hr : er = 51 ∧ at' = k := by
              have h1 := HG.out
              rw [find_at HB.out.2 (by rw [HB.out.1]; rfl) (fun j hj => HK.out.2 j hj _)] at h1
              simp only [Prod.mk.injEq] at h1
              exact ⟨h1.1.symm, h1.2.symm⟩
            obtain ⟨rfl, rfl⟩ := hr
            clear HG
            go_wp2_with (go_at_call 72; refine hval.mono ?_; clear hval; rintro e w3 ⟨rfl, y3, H3⟩; have q3 := blk_cell y3)
            go_ret2
            exact ⟨rfl, (HX.out.1.trans H3.out)⟩
          | true =>
            by_cases hz : v1 = 0
            · have hr : er = 51 ∧ at' = k := by
                have h1 := HG.out
                rw [find_at HB.out.2 (by rw [HB.out.1]; simp [hz]) (fun j hj => HK.out.2 j hj _)] at h1
                simp only [Prod.mk.injEq] at h1
                exact ⟨h1.1.symm, h1.2.symm⟩
              obtain ⟨rfl, rfl⟩ := hr
              subst hz
              clear HG
              go_wp2_with (go_at_call 72; refine hval.mono ?_; clear hval; rintro e w3 ⟨rfl, y3, H3⟩; have q3 := blk_cell y3)
              go_ret2
              exact ⟨rfl, (HX.out.1.trans H3.out)⟩
            · have hz2 : (v1 == 0) = false := by simpa using hz
              have HN := Lib.hid (show ∀ j (hj : j < k + 1), ∀ hl : j < consts.length, badC (consts[j]'hl) = false from fun j hj hl => by
                rcases Nat.lt_or_ge j k with h | h
                · exact HK.out.2 j h hl
                · obtain rfl : j = k := by omega
                  rw [HB.out.1]; simp [hz])
              clear hz
              go_wp2_with (go_at_call 72; refine hval.mono ?_; clear hval; rintro e w3 ⟨rfl, y3, H3⟩; have q3 := blk_cell y3)
              go_roundg (consts.length - (k + 1))
              case measure => have := HB.out.2; omega
              case rel => exact ⟨k + 1, HB.out.2, rfl, by simp, H3.out, HN.out⟩
        · obtain rfl : k = consts.length := by omega
          have j1 : ¬ (consts.length : Int) < consts.length := by omega
          have hno := find_no (l := consts) (p := badC) fun j hj => HK.out.2 j hj hj
          have hG := HG.out
          rw [hno] at hG
          simp only at hG
          have q1 := blk_cell (HK.out.1.blk HX.out.2 (fun x => x))
          clear HG hno hk hlt
          by_cases hcl : code.length = 0 ∨ 256 < code.length
          · rw [if_pos hcl] at hG
            simp only [Prod.mk.injEq] at hG
            obtain ⟨rfl, rfl⟩ := hG
            rcases hcl with hcl | hcl
            · have e1 : ((code.length : Int) == 0) = true := by rw [hcl]; rfl
              clear hcl
              go_wp2_with fail
              go_ret2
              exact ⟨rfl, HX.out.1.trans HK.out.1⟩
            · have e1 : ((code.length : Int) == 0) = false := by simp; intro h; rw [h] at hcl; simp at hcl
              have e2 : (256 : Int) < code.length := by omega
              clear hcl
              go_wp2_with fail
              go_ret2
              exact ⟨rfl, HX.out.1.trans HK.out.1⟩
          · rw [if_neg hcl] at hG
            have e1 : ((code.length : Int) == 0) = false := by simp; intro h; rw [h] at hcl; simp at hcl
            have e2 : ¬ (256 : Int) < code.length := by omega
            have HG := Lib.hid hG
            have HK1 := Lib.hid HK.out.1
            clear hG hcl HK
            go_wp2_with fail
            generalize wr = wq at *
            go_loopg [53] code.length (fun g i wx => ∃ k : Nat, k ≤ code.length ∧ g = code.length - k ∧ i = .int .i64 k ∧ RowKit.Hid (Keep No (w.alloc (.cells #[.int .i64 args, .slice a4 consts.length c4, .slice a5 code.length c5] 27)) wx ∧ ∀ j (hj : j < k), ∀ hl : j < code.length, badI args consts.length code.length (code[j]'hl) = false))
            case atStart => exact ⟨0, by omega, by omega, rfl, HK1.out, fun j hj => absurd hj (by omega)⟩
            case round =>
              clear q1 HK1
              obtain ⟨k, hk, rfl, rfl, HK⟩ := hrel
              by_cases hlt : k < code.length
              · have j1 : (k : Int) < code.length := by omega
                obtain ⟨o1, o2, hv⟩ : ∃ o1 o2, code[k] = (o1, o2, ()) := ⟨code[k].1, code[k].2.1, rfl⟩
                obtain ⟨b, off, ha5, hb, -, r0, r1⟩ := instrs_get (HR.out.2.agree _ (HX.out.1.trans HK.out.1).agreeNo) k hlt
                rw [hv] at r0 r1
                have r0' : wr.cell? ⟨b, off + k * 2, none⟩ = some (.int .i64 o1) := r0
                have r1' : wr.cell? ⟨b, off + k * 2 + 1, none⟩ = some (.int .i64 o2) := r1
                have kA := (Keep.refl No wr).alloc (.cells #[.int .i64 o1, .int .i64 o2] 144)
                have xA := blk_new wr (.cells #[.int .i64 o1, .int .i64 o2] 144)
                have xP := blk_alloc (o' := .cells #[.int .i64 o1, .int .i64 o2] 144) (HK.out.1.blk HX.out.2 (fun x => x))
                obtain ⟨X1, hX1⟩ : ∃ X1, (opAt o1).1 = X1 := ⟨_, rfl⟩
                obtain ⟨fb, hfb⟩ : ∃ fb, fitsB args consts.length code.length o1 o2 = fb := ⟨_, rfl⟩
                have hword := (word_g o1 (wr.alloc (.cells #[.int .i64 o1, .int .i64 o2] 144))).mono (R' := fun e w3 => e = .returned (.string X1) ∧ w3.heap[wr.heap.size]? = some (.cells #[.int .i64 o1, .int .i64 o2] 144 (0, 0)) ∧ w3.heap[w.heap.size]? = some (.cells #[.int .i64 args, .slice a4 consts.length c4, .slice a5 code.length c5] 27 (0, 0)) ∧ RowKit.Hid (Keep No (w.alloc (.cells #[.int .i64 args, .slice a4 consts.length c4, .slice a5 code.length c5] 27)) w3)) (by
                  rintro e w3 ⟨rfl, hk⟩
                  exact ⟨by rw [hX1], hk.out.blk xA (fun x => x), hk.out.blk xP (fun x => x), HK.out.1.trans (kA.trans hk.out)⟩)
                have HFT : RowKit.Hid (∀ W, Keep No (w.alloc (.cells #[.int .i64 args, .slice a4 consts.length c4, .slice a5 code.length c5] 27)) W → Calls Tryz.prog 180 #[.agg #[.int .i64 args, .slice a4 consts.length c4, .slice a5 code.length c5], .agg #[.int .i64 o1, .int .i64 o2]] W fun e w4 => e = .returned (.bool fb) ∧ RowKit.Hid (Keep No (w.alloc (.cells #[.int .i64 args, .slice a4 consts.length c4, .slice a5 code.length c5] 27)) w4)) := fun W hW => by
                  refine (fits_g W args a4 a5 consts.length c4 code.length c5 o1 o2).mono ?_
                  rintro e w4 ⟨rfl, hk⟩
                  exact ⟨by rw [hfb], hW.trans hk.out⟩
                have hbad : badI args consts.length code.length (code[k]'hlt) = (decide (X1 = ⟨#[]⟩) || !fb) := by rw [hv]; unfold badI; rw [hfb, hX1]
                have hget : (opAt (code.getD k (0, 0, ())).1).1 = X1 := by
                  rw [List.getD_eq_getElem?_getD, List.getElem?_eq_getElem hlt, hv]
                  exact hX1
                have HB := Lib.hid (And.intro hbad (And.intro hlt hget))
                subst ha5
                clear kA xA xP hX1 hfb hv hbad hget r0 r1 hb hk
                by_cases hemp : X1 = ⟨#[]⟩
                · have hr : er = 53 ∧ at' = k := by
                    have h1 := HG.out
                    rw [find_at HB.out.2.1 (by rw [HB.out.1]; simp [hemp]) (fun j hj => HK.out.2 j hj _)] at h1
                    simp only [HB.out.2.2, hemp, if_true, Prod.mk.injEq] at h1
                    exact ⟨h1.1.symm, h1.2.symm⟩
                  obtain ⟨rfl, rfl⟩ := hr
                  subst hemp
                  clear HG HFT
                  go_wp2_with (go_at_call 129; refine hword.mono ?_; clear hword; rintro e w3 ⟨rfl, y3, p3, H3⟩)
                  go_ret2
                  exact ⟨rfl, (HX.out.1.trans H3.out)⟩
                · have hne : X1.toList.isEmpty = false := by
                    rw [empty_iff]
                    refine decide_eq_false fun h => hemp ?_
                    obtain ⟨⟨l⟩⟩ := X1
                    cases l with
                    | nil => rfl
                    | cons _ _ => simp [ByteArray.size] at h
                  cases fb with
                  | false =>
                    have hr : er = 54 ∧ at' = k := by
                      have h1 := HG.out
                      rw [find_at HB.out.2.1 (by rw [HB.out.1]; simp) (fun j hj => HK.out.2 j hj _)] at h1
                      simp only [HB.out.2.2, if_neg hemp, Prod.mk.injEq] at h1
                      exact ⟨h1.1.symm, h1.2.symm⟩
                    obtain ⟨rfl, rfl⟩ := hr
                    clear HG hemp
                    go_wp2_with (first | (go_at_call 129; refine hword.mono ?_; clear hword; rintro e w3 ⟨rfl, y3, p3, H3⟩; have q3 := blk_cell y3; have q4 := blk_cell p3) | (go_at_call 180; refine (HFT.out _ H3.out).mono ?_; clear HFT q3 q4; rintro e w4 ⟨rfl, H4⟩))
                    go_ret2
                    exact ⟨rfl, (HX.out.1.trans H4.out)⟩
                  | true =>
                    have HN := Lib.hid (show ∀ j (hj : j < k + 1), ∀ hl : j < code.length, badI args consts.length code.length (code[j]'hl) = false from fun j hj hl => by
                      rcases Nat.lt_or_ge j k with h | h
                      · exact HK.out.2 j h hl
                      · obtain rfl : j = k := by omega
                        rw [HB.out.1]; simp [hemp])
                    clear hemp
                    go_wp2_with (first | (go_at_call 129; refine hword.mono ?_; clear hword; rintro e w3 ⟨rfl, y3, p3, H3⟩; have q3 := blk_cell y3; have q4 := blk_cell p3) | (go_at_call 180; refine (HFT.out _ H3.out).mono ?_; clear HFT q3 q4; rintro e w4 ⟨rfl, H4⟩))
                    go_roundg (code.length - (k + 1))
                    case measure => have := HB.out.2.1; omega
                    case rel => exact ⟨k + 1, HB.out.2.1, rfl, by simp, H4.out, HN.out⟩
              · obtain rfl : k = code.length := by omega
                have j1 : ¬ (code.length : Int) < code.length := by omega
                have hr : er = 0 ∧ at' = 0 := by
                  have h1 := HG.out
                  rw [find_no (l := code) (p := badI args consts.length code.length) fun j hj => HK.out.2 j hj hj] at h1
                  simp only [Prod.mk.injEq] at h1
                  exact ⟨h1.1.symm, h1.2.symm⟩
                obtain ⟨rfl, rfl⟩ := hr
                clear HG hk hlt
                go_wp2_with fail
                go_ret2
                exact ⟨rfl, (HX.out.1.trans HK.out.1)⟩
end Go.Proofs.YtfgdnakfikpmpaaGreatDoor
