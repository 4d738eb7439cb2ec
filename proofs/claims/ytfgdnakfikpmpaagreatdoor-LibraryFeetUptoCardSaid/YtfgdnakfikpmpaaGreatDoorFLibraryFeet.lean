/-
  LibraryFeet holds: at every input the call returns true, and what was there reads as it did (where what it reads is of bulk at most 1048576); the listed variables read as the program's text lays them.
-/
import Derived.Test.YtfgdnakfikpmpaaGreatDoorFMN
import Derived.Test.YtfgdnakfikpmpaaGreatDoorFReH
import Derived.JoinedCond
import Derived.Lay
namespace Go.Proofs.YtfgdnakfikpmpaaGreatDoor.libraryFeet
open Go Go.RowKit Go.Deep Go.ChangeShapes Go.WideShapes Go.ChangeAt
set_option linter.unusedVariables false

theorem own : ownKnob Tryz.prog.godebug = none := by kernel_rfl
theorem laidOut : laidOutB Tryz.prog = true := by kernel_rfl
set_option maxRecDepth 100000 in
theorem contract (H : Type) (enc : TypeId × Value → H) (W : World) (base : Nat) (args : Array Value) (ds gs : List (DataW H)) (before : List MemPlace)
    (hval : ∀ (j : Nat) t v, Tryz.f5.params[j]? = some t → args[j]? = some v → Value.okWide Tryz.prog W .any base t v)
    (hW : DataW.Whole enc Tryz.prog Tryz.f5.params.toList Rows.libraryFeetSpec.vars false W args.toList ds gs before) (hL : laidMetH Tryz.prog Rows.libraryFeetUptoRow.laid W) (hk : Rows.uptoSmall H (ds ++ gs) = true) :
    Calls Tryz.prog 5 args W fun e W' => ∃ v, e = .returned v ∧ Rows.libraryFeetSpec.post enc Tryz.prog Tryz.f5 false true false false W args v W' := by
  have hTab : Tab W ∧ Errs W ∧ KindsW W := libEnv_of_laid hL
  have hW' := hW
  obtain ⟨p, q, hA0, hV, rfl, hfz, hnd⟩ := hW
  have hA : DataW.TrodAll enc Tryz.prog W 0 (fun _ => true) true Tryz.f5.params.toList args.toList ds p := hA0
  rw [Tryz.params5] at hA hval
  obtain ⟨rfl, rfl⟩ := trodVars_none hV
  obtain ⟨v0, vs0, d0, ds0, p0, q0, hargs, rfl, rfl, h0, r0⟩ := trodAll_cons hA
  obtain ⟨v1, vs1, d1, ds1, p1, q1, rfl, rfl, rfl, h1, r1⟩ := trodAll_cons r0
  obtain ⟨v2, vs2, d2, ds2, p2, q2, rfl, rfl, rfl, h2, r2⟩ := trodAll_cons r1
  obtain ⟨rfl, rfl, rfl⟩ := trodAll_nil r2
  obtain rfl : args = #[v0, v1, v2] := by cases args; simp_all
  have z0 := noneFrozen_left (noneFrozen_left hfz)
  have z1 := noneFrozen_left (noneFrozen_right (noneFrozen_left hfz))
  have z2 := noneFrozen_left (noneFrozen_right (noneFrozen_right (noneFrozen_left hfz)))
  have hb := of_decide_eq_true hk
  simp only [Rows.uptoBulkAll, List.append_nil] at hb
  obtain ⟨cs0, x0, rfl, w0, b0⟩ := arg_struct (.cons .str (.cons (.slice (.int .i64)) (.cons .bool (.cons (.slice .str) (.cons (.slice .str) (.cons progSh .nil)))))) (by kernel_rfl) (hval 0 29 v0 rfl rfl) h0 z0
  obtain ⟨x1, w1, b1⟩ := arg_slice (valueSh) (by kernel_rfl) (hval 1 24 v1 rfl rfl) h1 z1
  obtain ⟨x2, rfl, w2, b2⟩ := arg_str (by kernel_rfl) (hval 2 9 v2 rfl rfl) h2 z2
  refine (LibraryFeet_calls W hTab cs0 x0 w0 (show (Sh.struct (.cons .str (.cons (.slice (.int .i64)) (.cons .bool (.cons (.slice .str) (.cons (.slice .str) (.cons progSh .nil))))))).bulk x0 ≤ 1048576 by show (.cons .str (.cons (.slice (.int .i64)) (.cons .bool (.cons (.slice .str) (.cons (.slice .str) (.cons progSh .nil))))) : Sh).bulk x0 + 1 ≤ _; omega) v1 x1 w1 (show (Sh.slice (valueSh)).bulk x1 ≤ 1048576 by omega) x2 w2 (by omega)).mono fun e W' he => ?_
  obtain ⟨rfl, hg⟩ := he
  exact ⟨_, rfl, law_post laidOut hW' rfl rfl Tryz.underlying4 (by kernel_rfl) rfl hg⟩

theorem laid_met (os : Os) : laidMet Tryz.prog Rows.libraryFeetUptoRow.laid ((World.laidAll Tryz.prog os Rows.libraryFeetUptoRow.laid).forCall (fun _ _ => 0) ⟨#[], #[.agg #[.string ⟨#[]⟩, .slice none 0 0, .bool false, .slice none 0 0, .slice none 0 0, .int .i64 0, .slice none 0 0, .slice none 0 0], .slice none 0 0, .string ⟨#[]⟩], []⟩).memory :=
  laidMet_laidAll _ (by kernel_rfl) (by kernel_rfl)
theorem reads (os : Os) {H : Type} (enc : TypeId × Value → H) : ∃ places, DataW.whole enc Tryz.prog ((World.laidAll Tryz.prog os Rows.libraryFeetUptoRow.laid).forCall (fun _ _ => 0) ⟨#[], #[.agg #[.string ⟨#[]⟩, .slice none 0 0, .bool false, .slice none 0 0, .slice none 0 0, .int .i64 0, .slice none 0 0, .slice none 0 0], .slice none 0 0, .string ⟨#[]⟩], []⟩).memory Tryz.f5.params.toList Rows.libraryFeetSpec.vars false (#[.agg #[.string ⟨#[]⟩, .slice none 0 0, .bool false, .slice none 0 0, .slice none 0 0, .int .i64 0, .slice none 0 0, .slice none 0 0], .slice none 0 0, .string ⟨#[]⟩] : Array Value).toList 8 = some ([.agg [.lit (.string []), .nil, .lit (.bool false), .nil, .nil, .agg [.lit (.int .i64 0), .nil, .nil]], .nil, .lit (.string [])], [], places) :=
  ⟨[], by kernel_rfl⟩

set_option maxRecDepth 100000 in
theorem lifted (os : Os) (started : os.Started) (H : Type) (enc : TypeId × Value → H) (F : Stop.Interp) :
    ReturnsInHanded {} Tryz.checked os 5 .any ((Rows.OpenSpec.upto Rows.libraryFeetSpec).preRow enc Tryz.prog Tryz.f5 Rows.libraryFeetUptoRow.domain false Rows.libraryFeetUptoRow.laid) (((Rows.OpenSpec.upto Rows.libraryFeetSpec).at F).post enc Tryz.prog Tryz.f5 false true false false) := by
  obtain ⟨places, hx⟩ := reads os enc
  refine returnsInHanded_of_row (C := Tryz.checked) (s := Rows.OpenSpec.upto Rows.libraryFeetSpec) own started (by kernel_rfl) Tryz.func5
    (witness_row_at (enc := enc) (C := Tryz.checked) false (World.laidAll Tryz.prog os Rows.libraryFeetUptoRow.laid) #[.agg #[.string ⟨#[]⟩, .slice none 0 0, .bool false, .slice none 0 0, .slice none 0 0, .int .i64 0, .slice none 0 0, .slice none 0 0], .slice none 0 0, .string ⟨#[]⟩] rfl (by kernel_rfl) (by kernel_rfl) (by kernel_rfl)
      (OpenSpec.preRow_of_cond 8 hx (by kernel_rfl) (fun k hk => by cases hk; kernel_rfl) (by kernel_rfl) (laid_met os))) ?_
  intro W base args ds gs before hval hW _ hcond _ hL _ _
  exact contract H enc W base args ds gs before hval hW hL (hcond _ rfl)

theorem and_mk {a b : Bool} (h : a = true) (k : b = true) : (a && b) = true := by rw [h, k]; rfl
set_option maxHeartbeats 4000000 in
/-- the row's cells, one by one: in one declaration they want too much memory -/
theorem closed : joinedFacts Tryz.pinned.checked.prog 5 Tryz.f5 (Rows.OpenSpec.upto Rows.libraryFeetSpec).bare Rows.libraryFeetUptoRow = true := by
  unfold joinedFacts
  refine and_mk (and_mk (and_mk (and_mk (and_mk (and_mk (and_mk (and_mk (and_mk (and_mk (and_mk (and_mk (and_mk (and_mk (and_mk (and_mk (and_mk (and_mk (and_mk (and_mk (and_mk (and_mk (and_mk (and_mk (and_mk (and_mk (and_mk (and_mk (and_mk (and_mk (and_mk ?_ ?_) ?_) ?_) ?_) ?_) ?_) ?_) ?_) ?_) ?_) ?_) ?_) ?_) ?_) ?_) ?_) ?_) ?_) ?_) ?_) ?_) ?_) ?_) ?_) ?_) ?_) ?_) ?_) ?_) ?_) ?_
  all_goals (as_aux_lemma => kernel_rfl)

theorem said : Rows.LibraryFeetUptoSaid :=
  OpenClaim.holds_of_cond 5 Tryz.f5 rfl rfl rfl rfl rfl rfl rfl ⟨rfl, rfl, rfl, rfl, rfl⟩ rfl rfl rfl rfl rfl (by kernel_rfl) Tryz.func5 closed
    (of_decide_eq_true (by kernel_rfl)) (by unfold Func.isWrapper; first | (rw [if_pos (by decide +kernel)]; kernel_rfl) | (rw [if_neg (by decide +kernel)]; exact ⟨rfl, rfl⟩))
    (fun os started H enc _ F => by rw [OpenClaim.pre_eq_preRow]; exact lifted os started H enc F)

/-- No parameter wants a stand-in; the program's own looks are as the card says. -/
theorem plain (f : FuncId) (fn : Func) (hf : Tryz.pinned.checked.prog.funcNamed "tranche/tranchelaw08.LibraryFeet" = some f) (hfn : Tryz.pinned.checked.prog.funcs[f]? = some fn) :
    true = Tryz.pinned.checked.prog.looks [] ∧ ∀ (j : Nat) t, fn.params[j]? = some t → Tryz.pinned.checked.prog.wantsStandIn t = false := by
  obtain rfl : f = 5 := Option.some.inj ((show Tryz.prog.funcNamed "tranche/tranchelaw08.LibraryFeet" = some 5 by kernel_rfl).symm.trans hf) |>.symm
  obtain rfl : fn = Tryz.f5 := (Option.some.inj (Tryz.func5.symm.trans hfn)).symm
  refine ⟨by kernel_rfl, fun j t ht => ?_⟩
  rw [Tryz.params5] at ht
  have hm : t ∈ [29, 24, 9] := by simpa using Array.mem_of_getElem? ht
  have hall : ([29, 24, 9].all fun u => !Tryz.prog.wantsStandIn u) = true := by kernel_rfl
  exact (show Tryz.prog.wantsStandIn t = false by simpa using List.all_eq_true.1 hall t hm)
theorem wf : Rows.libraryFeetUptoRow.wfByText (Rows.OpenSpec.upto Rows.libraryFeetSpec) = true := by kernel_rfl
theorem main_is : Tryz.pinned.checked.prog.mainIs = some (Rows.libraryFeetUptoCard.stood.harness.1, Rows.libraryFeetUptoCard.stood.harness.2.toList) := by kernel_rfl
theorem goes : false = Rows.libraryFeetUptoRow.goesBy Tryz.pinned.checked.prog := by kernel_rfl
/-- THE CARD. -/
theorem proved : Rows.LibraryFeetUptoCardSaid :=
  Claim7.holds_tied_plain_at .later [] _ _ _ _ said (fun _ h => by cases h) wf (fun _ h => by cases h) libraryFeetUpto_row_tie rfl ⟨rfl, rfl⟩ main_is rfl plain goes
end Go.Proofs.YtfgdnakfikpmpaaGreatDoor.libraryFeet
