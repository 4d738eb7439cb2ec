/-
  Parts of what is proved for this claim; each declaration is one of the seat's texts.
-/
import Derived.Test.YtcallmnhaikfpaaGreatDoorTGA
import Derived.Test.YtcallmnhaikfpaaGreatDoorTGB
import Derived.Test.YtcallmnhaikfpaaGreatDoorTGC
import Derived.Test.YtcallmnhaikfpaaGreatDoorTGD
import Derived.Test.YtcallmnhaikfpaaGreatDoorTGE
import Derived.Test.YtcallmnhaikfpaaGreatDoorTGF
import Derived.Test.YtcallmnhaikfpaaGreatDoorTGK
import Derived.Test.YtcallmnhaikfpaaGreatDoorTGN
import Derived.Test.YtcallmnhaikfpaaGreatDoorTGP
import Derived.Test.YtcallmnhaikfpaaGreatDoorTGU
import Derived.Test.YtcallmnhaikfpaaGreatDoorTGZ
import Derived.Test.YtcallmnhaikfpaaGreatDoorTGX
import Derived.Test.YtcallmnhaikfpaaGreatDoorTHA
import Derived.Test.YtcallmnhaikfpaaGreatDoorTHB
import Derived.Test.YtcallmnhaikfpaaGreatDoorTHE
import Derived.Test.YtcallmnhaikfpaaGreatDoorTHF
import Derived.Test.YtcallmnhaikfpaaGreatDoorTHK
import Derived.Test.YtcallmnhaikfpaaGreatDoorTPA
import Derived.Test.YtcallmnhaikfpaaGreatDoorTPB
import Derived.Test.YtcallmnhaikfpaaGreatDoorTPE
import Derived.Test.YtcallmnhaikfpaaGreatDoorTPF
import Derived.Test.YtcallmnhaikfpaaGreatDoorTPH
import Derived.Test.YtcallmnhaikfpaaGreatDoorTPJ
import Derived.WalkKit
import Derived.WalkSpells
import Derived.WalkLawsBesides
import Derived.ProofKit
import Derived.Deep.Slices
import Derived.Deep.AppendSrc
import Derived.Lib.Hide
import Derived.Lib.ItoaNum
import Derived.Lib.Join
import Derived.Still
import Derived.StillTactics
import Derived.Recover
import Derived.Defers
import Derived.Deep.QuietTactic
import Derived.BigQuiet
import Derived.Handy
import Derived.Laws.Bits64b
import Derived.Lib.Zigzag
import Derived.OwnWalk
import Derived.Deep.DeepCutAuto
import Derived.Deep.LoopGhost
import Derived.Lib.Bytealg
import Derived.Laws.Externs
import Derived.Laws.CopyRow
import Derived.Laws.IdiomCopy
import Derived.Maps.OwnSet
import Derived.Maps.RangeWalk
import Derived.Shelf.SortM.Plain
import Derived.Shelf.SortM.SortNone
import Derived.Ground.SlgmProg
import Derived.Maps.OwnOps
import Derived.Shelf.Strconv.Itoa4
import Derived.Shelf.Strings.BuilderK
import Derived.Shelf.Strings.OnBuilder
import Derived.Ground.NamesProg
import Derived.Lib.AppendIntMem
import Derived.Lib.UnsafeStr
import Derived.Deep.WholeRow
import Derived.Maps.Views
import Derived.RangeFuncNested
import Derived.RangeFuncBound
import Derived.RangeFuncCalls
import Derived.RangeFuncLeaves
import Derived.Shelf.Abstract
import Derived.Shelf.RegionOpen
import Derived.OwnWalkIn
import Derived.TacticsInMore
import Derived.LoopNIn
import Derived.LoopIn
import Derived.Lib.ConvBytes
import Derived.OrdersIn
set_option linter.unusedVariables false
set_option linter.unusedSimpArgs false
namespace Go.Proofs.YtcallmnhaikfpaaGreatDoor
open Go Go.RowKit Go.Deep
theorem fp_few {f : Fp} (h : f.Is) : f.rs.length ≤ 64 ∧ f.ws.length ≤ 64 := by
  have h1 : f.pairs.length ≤ 64 := by simpa [Fp.pairs] using h.many
  have h2 := Fp.addUs_pairs h
  rw [addUs_eq] at h2
  constructor
  · have : f.rs = (f.pairs.filter fun p => p.2 % 2 = 1).map Prod.fst := (congrArg (fun g : Fp => g.rs) h2).symm
    rw [this]
    have := List.length_filter_le (fun p : ByteArray × Int => decide (p.2 % 2 = 1)) f.pairs
    simp
    simpa using Nat.le_trans this h1
  · have : f.ws = (f.pairs.filter fun p => decide (2 ≤ p.2 % 4)).map Prod.fst := (congrArg (fun g : Fp => g.ws) h2).symm
    rw [this]
    have := List.length_filter_le (fun p : ByteArray × Int => decide (2 ≤ p.2 % 4)) f.pairs
    simp
    simpa using Nat.le_trans this h1
theorem right_fit {p : Plan} (h : p.right = 0) : p.Fit ∧ p.Few ∧ (p.fp.rs.length ≤ 64 ∧ p.fp.ws.length ≤ 64) ∧ p.req.name.size ≤ 16 := by
  obtain ⟨h1, h2, h3⟩ := (Plan.right_iff p).1 h
  obtain ⟨c1, c2, c3, c4, c5⟩ := (Req.check_iff _).1 h1
  have h4 := fp_few h3
  have h5 := nameOk_size c3
  have e1 : p.fp.rs.length = p.reads.length := rfl
  have e2 : p.fp.ws.length = p.writes.length := rfl
  have e3 : p.req.args.length = p.args.length := rfl
  have e4 : p.req.name.size = p.name.size := rfl
  have h6 := h4
  rw [e1, e2] at h4
  rw [e3] at c4
  have h7 := h5
  rw [e4] at h5
  exact ⟨⟨by omega, by omega⟩, ⟨by omega, by omega, by omega⟩, h6, by omega⟩
theorem Lg.Good.fit {x : Lg} (h : x.Good) : ∀ e ∈ x.l, e.plan.Fit ∧ e.err = 0 := fun e he =>
  ⟨(right_fit ((Ent.err_iff e).1 (h.ok e he).1).2.2).1, (h.ok e he).1⟩
theorem Lg.Good.few {x : Lg} (h : x.Good) : x.Few := ⟨h.len, fun e he => (right_fit ((Ent.err_iff e).1 (h.ok e he).1).2.2).2.1⟩
theorem rd_plan_in {w : World} {S : Nat → Prop} {cs : List Value} {p : Plan} (h : Rd planSh w S cs p) : p.req.In := by
  obtain ⟨a1, c1, a2, c2, a3, c3, rfl, h1, h2, h3, w1, w2, w3, w4⟩ := plan_cells h
  simp [Lit.wf, IntKind.min, IntKind.max, IntKind.signed, IntKind.bits] at w1 w2
  refine ⟨w1.1, by have := w1.2; show p.client ≤ _; omega, w2.1, by have := w2.2; show p.token < _; omega, fun v hv => ?_⟩
  obtain ⟨i, hi, rfl⟩ := List.getElem_of_mem hv
  obtain ⟨b, off, row, -, -, -, -, -, -, hx⟩ := h1.elem' i hi
  exact (val_cells hx).2.1
theorem norm_is {f : Fp} (h : f.norm.2 = 0) : f.norm.1.Is ∧ ∀ k, k ∈ setT (f.norm.1.rs ++ f.norm.1.ws) ↔ k ∈ f.rs ++ f.ws := by
  unfold Fp.norm at h ⊢
  split at h
  · cases h
  · rename_i h1
    split at h
    · cases h
    · rename_i h2
      rw [if_neg h1, if_neg h2]
      have hm : ∀ k, k ∈ setT (setT f.rs ++ setT f.ws) ↔ k ∈ setT (f.rs ++ f.ws) := fun k => by
        rw [setT_mem, setT_mem, List.mem_append, List.mem_append, setT_mem, setT_mem]
      have he : setT (setT f.rs ++ setT f.ws) = setT (f.rs ++ f.ws) := (setT_rising _).eq (setT_rising _) hm
      simp only [Bool.not_eq_false, List.all_append, Bool.and_eq_true, List.all_eq_true] at h1
      refine ⟨⟨fun k hk => ?_, ?_, setT_rising _, setT_rising _⟩, fun k => ?_⟩
      · rcases hk with hk | hk
        · exact h1.1 k ((setT_mem _ k).1 hk)
        · exact h1.2 k ((setT_mem _ k).1 hk)
      · show (setT (setT f.rs ++ setT f.ws)).length ≤ 64
        rw [he]; omega
      · show k ∈ setT (setT f.rs ++ setT f.ws) ↔ _
        rw [hm, setT_mem]
structure Judged (L : List Prc) (q : Req) (most : Int) (pl : Plan) : Prop where
  check : q.check = 0
  find : ∃ p, findP L q.name = some p ∧ suitsB p.kinds q.args = true
  req : pl.req = q
  how : (pl.how = 0 ∧ pl.fp.rs = [] ∧ pl.fp.ws = []) ∨ (pl.how = 1 ∧ pl.fp.Is ∧ ((setT (pl.fp.rs ++ pl.fp.ws)).length : Int) ≤ most)
theorem judge_ok {L : List Prc} {q : Req} {most : Int} {pl : Plan} (h : judgeL L q most = (pl, 0)) : Judged L q most pl := by
  unfold judgeL at h
  by_cases hc : q.check = 0
  · rw [if_neg (fun x => x hc)] at h
    cases hf : findP L q.name with
    | none => rw [hf] at h; simp only [Prod.mk.injEq] at h; cases h.2
    | some p =>
      rw [hf] at h
      simp only at h
      cases hs : suitsB p.kinds q.args with
      | false => rw [hs, if_pos rfl] at h; simp only [Prod.mk.injEq] at h; cases h.2
      | true =>
        rw [hs, if_neg (fun x => by cases x)] at h
        cases hd : p.dep with
        | true =>
          rw [hd, if_pos rfl] at h
          simp only [Prod.mk.injEq, and_true] at h
          subst h
          exact ⟨hc, ⟨p, hf, hs⟩, rfl, .inl ⟨rfl, rfl, rfl⟩⟩
        | false =>
          rw [hd, if_neg (fun x => by cases x)] at h
          by_cases he : (p.foot q.args).2 = 0
          · rw [if_neg (fun x => x he)] at h
            by_cases hm : most < ((setT ((p.foot q.args).1.rs ++ (p.foot q.args).1.ws)).length : Int)
            · rw [if_pos hm] at h; simp only [Prod.mk.injEq] at h; cases h.2
            · rw [if_neg hm] at h
              simp only [Prod.mk.injEq, and_true] at h
              subst h
              refine ⟨hc, ⟨p, hf, hs⟩, rfl, .inr ⟨rfl, ?_, by show ((setT ((p.foot q.args).1.rs ++ (p.foot q.args).1.ws)).length : Int) ≤ most; omega⟩⟩
              show ((p.foot q.args).1).Is
              unfold Prc.foot at he ⊢
              rw [hd, if_neg (fun x => by cases x), hs, if_neg (fun x => by cases x)] at he ⊢
              by_cases h1 : (keysT q.args p.reads).2 = 0
              · rw [if_neg (fun x => x h1)] at he ⊢
                by_cases h2 : (keysT q.args p.writes).2 = 0
                · rw [if_neg (fun x => x h2)] at he ⊢
                  exact (norm_is he).1
                · rw [if_pos h2] at he; exact absurd he h2
              · rw [if_pos h1] at he; exact absurd he h1
          · rw [if_pos he] at h
            simp only [Prod.mk.injEq] at h
            exact absurd h.2 he
  · rw [if_pos hc] at h
    simp only [Prod.mk.injEq] at h
    exact absurd h.2 hc
structure TkX (L : List Prc) (most : Int) (b n : Nat) (x : Lg) : Prop where
  good : x.Good
  len : x.l.length = n
  ep : ∀ j (h : j < x.l.length), x.l[j].epoch = ((j / b : Nat) : Int)
  last : x.epoch ≤ ((n / b : Nat) : Int)
  all : ∀ e ∈ x.l, TakenP L most e.plan
theorem TkX.start (L : List Prc) (most : Int) (b : Nat) : TkX L most b 0 lg0 := ⟨lg0_good, rfl, fun j hj => absurd hj (Nat.not_lt_zero _), by simp [lg0], fun e he => by cases he⟩
theorem TkX.add {L : List Prc} {most : Int} {b n : Nat} {x : Lg} (h : TkX L most b n x) (hn : n < 200) {p : Plan} (hp : TakenP L most p) (hr : p.right = 0) (hi : p.req.In) :
    TkX L most b (n + 1) (x.append ((n / b : Nat) : Int) [p]).2 := by
  have hdiv : n / b ≤ n := Nat.div_le_self n b
  have hg := append_good h.good (ep := ((n / b : Nat) : Int)) (ps := [p]) (by omega) (fun q hq => by rcases List.mem_cons.1 hq with rfl | hq; exact hi; cases hq)
  have e : (x.append ((n / b : Nat) : Int) [p]).2 = ⟨x.l ++ [mkEnt x.l.length ((n / b : Nat) : Int) p], ((n / b : Nat) : Int)⟩ := by
    have hl := h.len
    have h0 : (0 : Int) ≤ ((n / b : Nat) : Int) := Int.natCast_nonneg _
    have h1 : ¬ (((n / b : Nat) : Int) < x.epoch ∨ ((n / b : Nat) : Int) < 0) := by have := h.last; omega
    have h2 : ¬ 65536 < x.l.length + [p].length := by simp; omega
    unfold Lg.append
    rw [if_neg h1, if_neg h2]
    simp only [badAt, hr, ne_eq, not_true_eq_false, if_false, layAt]
  rw [e] at hg ⊢
  refine ⟨hg, by simp [h.len], fun j hj => ?_, ?_, fun q hq => ?_⟩
  · simp only [List.length_append, List.length_cons, List.length_nil] at hj
    by_cases hlt : j < x.l.length
    · simp only [List.getElem_append_left hlt]
      exact h.ep j hlt
    · have : j = x.l.length := by omega
      subst this
      simp only [List.getElem_append_right (Nat.le_refl _), Nat.sub_self, List.getElem_cons_zero]
      rw [h.len]
      rfl
  · show ((n / b : Nat) : Int) ≤ (((n + 1) / b : Nat) : Int)
    have : n / b ≤ (n + 1) / b := Nat.div_le_div_right (Nat.le_succ n)
    omega
  · rcases List.mem_append.1 hq with hq | hq
    · exact h.all q hq
    · simp at hq; subst hq; exact hp
theorem succ_mod {b k : Nat} (hb : 0 < b) (hk : 1 ≤ k) : (k / b = (k - 1) / b ∧ k % b = (k - 1) % b + 1) ∨ (k / b ≠ (k - 1) / b ∧ k % b = 0) := by
  obtain ⟨j, rfl⟩ : ∃ j, k = j + 1 := ⟨k - 1, by omega⟩
  simp only [Nat.add_sub_cancel]
  have h1 := Nat.div_add_mod j b
  have h2 := Nat.mod_lt j hb
  by_cases h : j % b + 1 < b
  · left
    have e : j + 1 = (j % b + 1) + b * (j / b) := by omega
    constructor
    · rw [e, Nat.add_mul_div_left _ _ hb, Nat.div_eq_of_lt h]; omega
    · rw [e, Nat.add_mul_mod_self_left, Nat.mod_eq_of_lt h]
  · right
    have e : j + 1 = 0 + b * (j / b + 1) := by rw [Nat.mul_add, Nat.mul_one]; omega
    constructor
    · rw [e, Nat.add_mul_div_left _ _ hb]; simp
    · rw [e, Nat.add_mul_mod_self_left]; simp
theorem TkX.st {L : List Prc} {most : Int} {b n : Nat} {x : Lg} (h : TkX L most b n x) (hb : 0 < b) : ∀ k, k ≤ x.l.length → stA (x.l.take k) = if k = 0 then (0, -1) else ((((k - 1) % b + 1 : Nat) : Int), (((k - 1) / b : Nat) : Int)) := by
  intro k
  induction k with
  | zero => intro _; rfl
  | succ k ih =>
    intro hk
    rw [stA_succ x.l k (by omega), ih (by omega)]
    have he := h.ep k (by omega)
    rw [if_neg (show ¬ k + 1 = 0 by omega)]
    simp only [Nat.add_sub_cancel]
    unfold stepA ahA
    rw [he]
    by_cases hk0 : k = 0
    · subst hk0
      simp
    · rw [if_neg hk0]
      rcases succ_mod hb (show 1 ≤ k by omega) with ⟨h1, h2⟩ | ⟨h1, h2⟩
      · simp only
        rw [if_pos (by rw [h1]), h2]
        simp
      · simp only
        rw [if_neg (fun e => h1 (by omega)), h2]
        simp
theorem TkX.ah {L : List Prc} {most : Int} {b n : Nat} {x : Lg} (h : TkX L most b n x) (hb : 0 < b) (k : Nat) (hk : k < x.l.length) : ahA (stA (x.l.take k)) x.l[k] < (b : Int) := by
  rw [h.st hb k (by omega)]
  unfold ahA
  rw [h.ep k hk]
  by_cases hk0 : k = 0
  · rw [if_pos hk0]
    split <;> simp <;> omega
  · rw [if_neg hk0]
    rcases succ_mod hb (show 1 ≤ k by omega) with ⟨h1, h2⟩ | ⟨h1, h2⟩
    · simp only
      rw [if_pos (by rw [h1])]
      have := Nat.mod_lt k hb
      omega
    · simp only
      rw [if_neg (fun e => h1 (by omega))]
      omega
theorem taken_suits {L : List Prc} {most : Int} {p : Plan} (h : TakenP L most p) : (∃ r, findP L p.req.name = some r ∧ suitsB r.kinds p.req.args = true) ∧ ((setT (p.fp.rs ++ p.fp.ws)).length : Int) ≤ most := by
  obtain ⟨pl, hj, hc⟩ := h
  have hd := judge_ok hj
  refine ⟨hd.find, ?_⟩
  rcases hc with ⟨h1, h2, h3, h4⟩ | ⟨h1, h2, h3⟩
  · rcases hd.how with ⟨k1, -⟩ | ⟨-, -, k3⟩
    · omega
    · rw [← h3, ← h4]; exact k3
  · exact h3
theorem ofBad_ne {L : List Prc} {k : Nat} {x : Nat × Int} (h : ofBad L k = some x) : x.2 ≠ 0 := by
  unfold ofBad at h
  rw [Option.map_eq_some_iff] at h
  obtain ⟨i, hi, rfl⟩ := h
  have := List.find?_some hi
  simpa using this
end Go.Proofs.YtcallmnhaikfpaaGreatDoor
namespace Go.Proofs.YtcallmnhaikfpaaGreatDoor
open Go Go.RowKit Go.Deep
theorem logAppend_of {w0 w : World} {m B : Nat} {x : Lg} (h : LogIn w0 m w B x) (hx : x.l.length ≤ 65536) (ep : Int) (hwe : (Lit.int .i64 ep).wf = true) (v : Value) (ps : List Plan) {U : Nat → Prop} (hps : Rd (.slice planSh) w U [v] ps) (hU : ∀ k, U k → k < w0.heap.size ∨ m ≤ k)
    (hok : PlansOk ps) (hm : ps.length ≤ 4611686018427387904) :
    Calls Tryz.prog 11 #[.pointer (some ⟨B, 0, none⟩), .int .i64 ep, v] w fun e w' => e = .returned (.tuple #[.int .i64 (x.append ep ps).1.n, .int .i64 (x.append ep ps).1.err, .int .i64 (x.append ep ps).1.at']) ∧ RowKit.Hid (LogIn w0 w'.heap.size w' B (x.append ep ps).2) := by
  obtain ⟨S, h1, h2, h3⟩ := h
  refine (logAppend_any w B S U x h1 hx ep hwe v ps hps (fun k hk hS => by have := hU k hk; have := h2 k hS; omega) hok hm).mono ?_
  rintro e w' ⟨rfl, S', g1, g2, g3⟩
  obtain ⟨ov, SO, -, -, -, -, -, g6⟩ := id g1
  refine ⟨rfl, S', g1, fun k hk => ⟨?_, g6 k hk⟩, h3.then g3 fun k hk hS => by have := (h2 k hS).1; omega⟩
  have := h3.size
  rcases g2 k hk with hS | hS
  · exact (h2 k hS).1
  · omega
theorem reqs_get {w : World} {S : Nat → Prop} {a : Option Addr} {n c : Nat} {l : List Req} (h : Rd (.slice requestSh) w S [.slice a n c] l) (i : Nat) (hi : i < l.length) :
    ∃ b off a1 c1, a = some ⟨b, off, none⟩ ∧ w.cell? ⟨b, off + i * 4, none⟩ = some (.int .i64 l[i].client) ∧ w.cell? ⟨b, off + i * 4 + 1, none⟩ = some (.int .u64 l[i].token) ∧ w.cell? ⟨b, off + i * 4 + 2, none⟩ = some (.string l[i].name) ∧ w.cell? ⟨b, off + i * 4 + 3, none⟩ = some (.slice a1 l[i].args.length c1) ∧
      Rd requestSh w S [.int .i64 l[i].client, .int .u64 l[i].token, .string l[i].name, .slice a1 l[i].args.length c1] l[i] := by
  obtain ⟨b, off, row, ha, -, hb, hS, -, hrow, hx⟩ := h.elem' i hi
  obtain ⟨a1, c1, rfl, -⟩ := req_cells hx
  have p0 := (hrow 0 (by simp)).1
  have p1 := (hrow 1 (by simp)).1
  have p2 := (hrow 2 (by simp)).1
  have p3 := (hrow 3 (by simp)).1
  simp [Sh.size] at p0 p1 p2 p3
  exact ⟨b, off, a1, c1, ha, p0, p1, p2, p3, hx⟩
theorem feet_get {w : World} {S : Nat → Prop} {a : Option Addr} {n c : Nat} {l : List Fp} (h : Rd (.slice footSh) w S [.slice a n c] l) (i : Nat) (hi : i < l.length) :
    ∃ b off a1 c1 a2 c2, a = some ⟨b, off, none⟩ ∧ w.cell? ⟨b, off + i * 2, none⟩ = some (.slice a1 l[i].rs.length c1) ∧ w.cell? ⟨b, off + i * 2 + 1, none⟩ = some (.slice a2 l[i].ws.length c2) ∧ FpAt w S (.slice a1 l[i].rs.length c1) (.slice a2 l[i].ws.length c2) l[i] := by
  obtain ⟨b, off, row, ha, -, hb, hS, -, hrow, hx⟩ := h.elem' i hi
  obtain ⟨_, _, rfl, h1, _, _, rfl, h2, rfl⟩ := hx
  obtain ⟨a1, c1, rfl, -⟩ := Rd.sliceForm h1
  obtain ⟨a2, c2, rfl, -⟩ := Rd.sliceForm h2
  have p0 := (hrow 0 (by simp)).1
  have p1 := (hrow 1 (by simp)).1
  simp [Sh.size] at p0 p1
  exact ⟨b, off, a1, c1, a2, c2, ha, p0, p1, h1, h2⟩
def LogNow (w3 W : World) (LB : Nat) (x : Lg) : Prop := ∃ m, m ≤ W.heap.size ∧ LogIn w3 m W LB x
theorem LogNow.more {w3 W W' : World} {LB : Nat} {x : Lg} (h : LogNow w3 W LB x) (hk : Keep No W W') : LogNow w3 W' LB x := by
  obtain ⟨m, h1, h2⟩ := h
  exact ⟨m, Nat.le_trans h1 hk.size, h2.more hk⟩
theorem LogNow.keep {w3 W : World} {LB : Nat} {x : Lg} (h : LogNow w3 W LB x) : Keep No w3 W := by
  obtain ⟨m, h1, h2⟩ := h
  exact h2.keep
def PlanNow (w wr : World) (S : Nat → Prop) (L : List Prc) (most : Int) (P : Nat) (W : World) : Prop :=
  ∃ (p : Plan) (b1 : Option Addr) (d1 : Nat) (b2 : Option Addr) (d2 : Nat) (b3 : Option Addr) (d3 : Nat), W.heap[P]? = some (.cells #[.int .i64 p.client, .int .u64 p.token, .string p.name, .slice b1 p.args.length d1, .int .i64 p.how, .slice b2 p.reads.length d2, .slice b3 p.writes.length d3] 43 (0, 0)) ∧
    Rd planSh W (fun k => (S k ∧ k < w.heap.size) ∨ (wr.heap.size ≤ k ∧ k ≠ P)) [.int .i64 p.client, .int .u64 p.token, .string p.name, .slice b1 p.args.length d1, .int .i64 p.how, .slice b2 p.reads.length d2, .slice b3 p.writes.length d3] p ∧ TakenP L most p ∧ p.right = 0
theorem PlanNow.seen {w wr : World} {S : Nat → Prop} {L : List Prc} {most : Int} {P : Nat} {W : World} {q : Req} {pl : Plan} (hjl : judgeL L q most = (pl, 0)) (h0 : pl.how = 0) (f' : Fp) (hf : f'.Is) (hm : ((setT (f'.rs ++ f'.ws)).length : Int) ≤ most) {b1 b2 b3 : Option Addr} {d1 d2 d3 : Nat}
    (hb : W.heap[P]? = some (.cells #[.int .i64 pl.client, .int .u64 pl.token, .string pl.name, .slice b1 pl.args.length d1, .int .i64 2, .slice b2 f'.rs.length d2, .slice b3 f'.ws.length d3] 43 (0, 0)))
    (ha : Rd (.slice valueSh) W (fun k => (S k ∧ k < w.heap.size) ∨ (wr.heap.size ≤ k ∧ k ≠ P)) [.slice b1 pl.args.length d1] pl.args) (hr : Rd (.slice .str) W (fun k => (S k ∧ k < w.heap.size) ∨ (wr.heap.size ≤ k ∧ k ≠ P)) [.slice b2 f'.rs.length d2] f'.rs) (hw : Rd (.slice .str) W (fun k => (S k ∧ k < w.heap.size) ∨ (wr.heap.size ≤ k ∧ k ≠ P)) [.slice b3 f'.ws.length d3] f'.ws)
    (w1 : (Lit.int .i64 pl.client).wf = true) (w2 : (Lit.int .u64 pl.token).wf = true) (w3 : pl.name.size ≤ maxLen) : PlanNow w wr S L most P W := by
  have hd := judge_ok hjl
  refine ⟨mkPlan pl.req 2 f', b1, d1, b2, d2, b3, d3, hb, plan_mk (mkPlan pl.req 2 f') ha hr hw w1 w2 w3 (show (Lit.int .i64 2).wf = true by decide), ⟨pl, ?_, .inr ⟨h0, rfl, hm⟩⟩, (Plan.right_iff _).2 ⟨?_, .inr rfl, hf⟩⟩
  · show judgeL L pl.req most = _
    rw [hd.req]; exact hjl
  · show pl.req.check = 0
    rw [hd.req]; exact hd.check
theorem PlanNow.judged {w wr : World} {S : Nat → Prop} {L : List Prc} {most : Int} {P : Nat} {W : World} {q : Req} {pl : Plan} (hjl : judgeL L q most = (pl, 0)) (h0 : pl.how ≠ 0) {b1 b2 b3 : Option Addr} {d1 d2 d3 : Nat}
    (hb : W.heap[P]? = some (.cells #[.int .i64 pl.client, .int .u64 pl.token, .string pl.name, .slice b1 pl.args.length d1, .int .i64 pl.how, .slice b2 pl.reads.length d2, .slice b3 pl.writes.length d3] 43 (0, 0)))
    (ha : Rd planSh W (fun k => (S k ∧ k < w.heap.size) ∨ (wr.heap.size ≤ k ∧ k ≠ P)) [.int .i64 pl.client, .int .u64 pl.token, .string pl.name, .slice b1 pl.args.length d1, .int .i64 pl.how, .slice b2 pl.reads.length d2, .slice b3 pl.writes.length d3] pl) : PlanNow w wr S L most P W := by
  have hd := judge_ok hjl
  rcases hd.how with ⟨h1, -⟩ | ⟨h1, h2, h3⟩
  · exact absurd h1 h0
  · refine ⟨pl, b1, d1, b2, d2, b3, d3, hb, ha, ⟨pl, ?_, .inl ⟨h1, h1, rfl, rfl⟩⟩, (Plan.right_iff _).2 ⟨?_, .inl h1, h2⟩⟩
    · show judgeL L pl.req most = _
      rw [hd.req]; exact hjl
    · show pl.req.check = 0
      rw [hd.req]; exact hd.check
def tooBig (n r : Nat) (most batch : Int) : Bool := decide (64 < n) || decide (200 < r) || decide (most < 0) || decide (64 < most) || decide (batch < 1)
def DoneT (w : World) (e : Ending) (w' : World) : Prop := e = .returned (.bool true) ∧ Keep No w w'
set_option maxRecDepth 10000 in
set_option maxHeartbeats 4000000 in
theorem LogTakes_main (w : World) (S : Nat → Prop) (a1 a2 a3 : Option Addr) (c1 c2 c3 : Nat) (ps : List Prc) (rs : List Req) (fs : List Fp) (most batch : Int) (h1 : Rd (.slice procSh) w S [.slice a1 ps.length c1] ps) (h2 : Rd (.slice requestSh) w S [.slice a2 rs.length c2] rs) (h3 : Rd (.slice footSh) w S [.slice a3 fs.length c3] fs)
    (hwb : (Lit.int .i64 batch).wf = true) (hps : ∀ p ∈ ps, p.name.size ≤ 9223372036854775806 ∧ p.reads.length + p.writes.length ≤ 9223372036854775807) (hrs : ∀ q ∈ rs, q.name.size ≤ 9223372036854775806) (hfs : ∀ f ∈ fs, f.rs.length + f.ws.length ≤ 1048576) (hlp : ps.length ≤ 1048576) (hlr : rs.length ≤ 1048576) (hlf : fs.length ≤ 1048576) (ht : Tab w) :
    Calls Tryz.prog 3 #[.agg #[.slice a1 ps.length c1, .slice a2 rs.length c2, .slice a3 fs.length c3, .int .i64 most, .int .i64 batch]] w (DoneT w) := by
  have K1 := (Keep.refl No w).alloc (.cells #[.slice a1 ps.length c1, .slice a2 rs.length c2, .slice a3 fs.length c3, .int .i64 most, .int .i64 batch] 26)
  have x1 := blk_new w (.cells #[.slice a1 ps.length c1, .slice a2 rs.length c2, .slice a3 fs.length c3, .int .i64 most, .int .i64 batch] 26)
  have q1 := blk_cell x1
  have HX := Lib.hid (And.intro K1 (And.intro h1 (And.intro h2 (And.intro h3 (And.intro hwb (And.intro hps (And.intro hrs (And.intro hfs (And.intro hlp (And.intro hlr (And.intro hlf ht)))))))))))
  have HLV : RowKit.Hid (∀ W, Keep No w W → Calls Tryz.prog 4 #[] W fun e w' => e = .returned (.bool true) ∧ RowKit.Hid (Keep No w w')) := fun W hW => (live_any W).mono (by
    rintro e w' ⟨rfl, hk⟩
    exact ⟨rfl, hW.trans hk⟩)
  clear h1 h2 h3 hwb hps hrs hfs hlr hlf ht K1
  have j1 : (ps.length : Int) ≤ 1048576 := by omega
  unfold DoneT
  go_enter Tryz.func3, Tryz.ntmps3
  go_wp2_with fail
  go_quiet (fail)
  obtain ⟨g, hg⟩ : ∃ g, tooBig ps.length rs.length most batch = g := ⟨_, rfl⟩
  have HG := Lib.hid hg
  clear hg
  have hk1 := HX.out.1.drewN nq
  have HK1 := Lib.hid hk1
  clear x1 q1 hk1
  generalize (w.alloc (.cells #[.slice a1 ps.length c1, .slice a2 rs.length c2, .slice a3 fs.length c3, .int .i64 most, .int .i64 batch] 26)).drewN nq = w1 at *
  have j2 := HX.out.2.2.2.2.2.2.2.2.2.1
  have i2 : (rs.length : Int) ≤ 1048576 := by omega
  clear hlp j2
  go_upto_region 2 with fail
  go_cut [52] (fun c wx => c = .bool g ∧ w1 = wx)
  case first =>
    by_cases e1 : (64 : Int) < ps.length
    · have hg : g = true := by rw [← HG.out]; unfold tooBig; rw [decide_eq_true (show 64 < ps.length by omega)]; rfl
      subst hg
      go_wp2_with fail
      go_meet
      case rel => exact ⟨rfl, by first | rfl | trivial⟩
    · by_cases e2 : (200 : Int) < rs.length
      · have hg : g = true := by rw [← HG.out]; unfold tooBig; rw [decide_eq_true (show 200 < rs.length by omega)]; simp
        subst hg
        go_wp2_with fail
        go_meet
        case rel => exact ⟨rfl, by first | rfl | trivial⟩
      · by_cases e3 : most < 0
        · have hg : g = true := by rw [← HG.out]; unfold tooBig; rw [decide_eq_true e3]; simp
          subst hg
          go_wp2_with fail
          go_meet
          case rel => exact ⟨rfl, by first | rfl | trivial⟩
        · by_cases e4 : 64 < most
          · have hg : g = true := by rw [← HG.out]; unfold tooBig; rw [decide_eq_true e4]; simp
            subst hg
            go_wp2_with fail
            go_meet
            case rel => exact ⟨rfl, by first | rfl | trivial⟩
          · by_cases e5 : batch < 1
            · have hg : g = true := by rw [← HG.out]; unfold tooBig; rw [decide_eq_true e5]; simp
              subst hg
              go_wp2_with fail
              go_meet
              case rel => exact ⟨rfl, by first | rfl | trivial⟩
            · have hg : g = false := by rw [← HG.out]; unfold tooBig; rw [decide_eq_false (show ¬ 64 < ps.length by omega), decide_eq_false (show ¬ 200 < rs.length by omega), decide_eq_false e3, decide_eq_false e4, decide_eq_false e5]; rfl
              subst hg
              go_wp2_with fail
              go_meet
              case rel => exact ⟨rfl, by first | rfl | trivial⟩
  case rest =>
    obtain ⟨rfl, rfl⟩ := hcut
    cases g with
    | true =>
      go_wp2_with fail
      refine (HLV.out _ HK1.out).mono ?_
      rintro e w2 ⟨rfl, HK2⟩
      go_wp2_with fail
      go_ret
      exact ⟨rfl, HK2.out⟩
    | false =>
      have hb : ps.length ≤ 64 ∧ rs.length ≤ 200 ∧ 0 ≤ most ∧ most ≤ 64 ∧ 1 ≤ batch := by
        have := HG.out
        simp only [tooBig, Bool.or_eq_false_iff, decide_eq_false_iff_not] at this
        omega
      have HB := Lib.hid hb
      have hof := libOf_gen w1 S a1 c1 ps (HX.out.2.1.agree _ HK1.out.agreeNo) HX.out.2.2.2.2.2.1 (by omega)
      clear hb j1 i2
      unfold GivesLb at hof
      cases hbad : ofBad ps 0 with
      | some x =>
        have hne := ofBad_ne hbad
        rw [hbad] at hof
        simp only at hof
        obtain ⟨x1, x2⟩ := x
        have b1 : (x2 != 0) = true := by simpa using hne
        have hof2 := hof.mono (R' := fun e w' => e = .returned (.tuple #[.pointer none, .int .i64 x2, .int .i64 x1]) ∧ RowKit.Hid (Keep No w w')) (by
          rintro e w' ⟨rfl, hk⟩
          exact ⟨rfl, HK1.out.trans hk⟩)
        clear hof hne hbad
        go_wp2_with (first | (go_at_call 5; refine hof2.mono ?_; clear hof2; rintro e w2 ⟨rfl, HK2⟩) | (go_at_call 6; refine (lnum_any _ _).mono ?_; rintro e w3 ⟨rfl, rfl⟩))
        refine (HLV.out _ HK2.out).mono ?_
        rintro e w4 ⟨rfl, HK4⟩
        go_wp2_with fail
        go_ret
        exact ⟨rfl, HK4.out⟩
      | none =>
        rw [hbad] at hof
        simp only at hof
        have hof2 := hof.mono (R' := fun e w' => ∃ B m, e = .returned (.tuple #[.pointer (some ⟨B, 0, none⟩), .int .i64 0, .int .i64 0]) ∧ RowKit.Hid (LibAt w' (Fr w1.heap.size w'.heap.size) B m ps ∧ Keep No w w')) (by
          rintro e w' ⟨B, m, rfl, hl, hk⟩
          exact ⟨B, m, rfl, hl, HK1.out.trans hk⟩)
        clear hof hbad
        go_wp2_with (first | (go_at_call 5; refine hof2.mono ?_; clear hof2; rintro e w2 ⟨B, m, rfl, H2⟩) | (go_at_call 6; refine (lnum_any _ _).mono ?_; rintro e w3 ⟨rfl, rfl⟩))
        refine (logNew_any _).mono ?_
        rintro e w4 ⟨rfl, hl4, hk4, hs4⟩
        obtain ⟨bn, rfl⟩ : ∃ bn : Nat, batch = bn := ⟨batch.toNat, by have := HB.out.2.2.2.2; omega⟩
        have hL4 : LogNow w3 w4 w3.heap.size lg0 := ⟨w3.heap.size + 1, by omega, LogIn.new hl4 hk4 hs4⟩
        have H4 := Lib.hid (And.intro hL4 (TkX.start ps most bn))
        clear hl4 hk4 hs4 hL4
        have j5 : (rs.length : Int) ≤ 200 := by have := HB.out.2.1; omega
        go_wp2_with fail
        go_loopg [12, 13] rs.length (fun g n i wr => ∃ (k cnt : Nat) (x : Lg), k ≤ rs.length ∧ g = rs.length - k ∧ n = .int .i64 cnt ∧ i = .int .i64 k ∧ RowKit.Hid (cnt ≤ k ∧ LogNow w3 wr w3.heap.size x ∧ TkX ps most bn cnt x))
        case atStart => exact ⟨0, 0, lg0, by omega, by omega, rfl, rfl, Nat.le_refl _, H4.out⟩
        case round =>
          obtain ⟨k, cnt, x, hk, rfl, rfl, rfl, HR⟩ := hrel
          by_cases hlt : k < rs.length
          · have jk1 : (k : Int) < rs.length := by omega
            have jk0 : (0 : Int) ≤ k := by omega
            have jk3 : (k : Int) ≤ 200 := by omega
            have hkw := H2.out.2.trans HR.out.2.1.keep
            obtain ⟨b, off, r1, e1, rfl, p0, p1, p2, p3, hrq⟩ := reqs_get (HX.out.2.2.1.agree _ hkw.agreeNo) k hlt
            have hnm := HX.out.2.2.2.2.2.2.1 _ (List.getElem_mem hlt)
            have hjd := judge_any wr _ S B m ps (H2.out.1.keep HR.out.2.1.keep (fun _ _ x => x)) _ rs[k] hrq hnm most (HX.out.2.2.2.2.2.2.2.2.2.2.2.keep hkw)
            obtain ⟨q, hq⟩ : ∃ q, rs[k] = q := ⟨_, rfl⟩
            rw [hq] at p0 p1 p2 p3 hrq hnm hjd
            obtain ⟨pl, f, hjl⟩ : ∃ pl f, judgeL ps q most = (pl, f) := ⟨_, _, rfl⟩
            rw [hjl] at hjd
            obtain ⟨ph, hph⟩ : ∃ ph, pl.how = ph := ⟨_, rfl⟩
            have hjd2 := hjd.mono (R' := fun e w5 => ∃ b1 d1 b2 d2 b3 d3, e = .returned (.tuple #[.agg #[.int .i64 pl.client, .int .u64 pl.token, .string pl.name, .slice b1 pl.args.length d1, .int .i64 ph, .slice b2 pl.reads.length d2, .slice b3 pl.writes.length d3], .int .i64 f]) ∧ RowKit.Hid (Rd planSh w5 (Fr wr.heap.size w5.heap.size) [.int .i64 pl.client, .int .u64 pl.token, .string pl.name, .slice b1 pl.args.length d1, .int .i64 pl.how, .slice b2 pl.reads.length d2, .slice b3 pl.writes.length d3] pl ∧ Keep No wr w5)) (by
              rintro e w5 ⟨cs, rfl, hr, hk⟩
              obtain ⟨b1, d1, b2, d2, b3, d3, ecs, -⟩ := plan_cells hr
              obtain rfl : cs = #[.int .i64 pl.client, .int .u64 pl.token, .string pl.name, .slice b1 pl.args.length d1, .int .i64 pl.how, .slice b2 pl.reads.length d2, .slice b3 pl.writes.length d3] := by
                cases cs; simp at ecs; rw [ecs]
              exact ⟨b1, d1, b2, d2, b3, d3, by rw [hph], hr, hk⟩)
            have HJ := Lib.hid (And.intro hjl (And.intro hph (And.intro hlt (And.intro hkw hnm))))
            clear hjd hjl hph hq hrq hnm hkw hk
            by_cases hf : f = 0
            · subst hf
              go_upto_region 14 with (first | (go_at_call 8; refine hjd2.mono ?_; clear hjd2; rintro e w5 ⟨b1, d1, b2, d2, b3, d3, rfl, H5⟩) | (go_at_call 6; refine (lnum_any _ _).mono ?_; rintro e w6 ⟨rfl, rfl⟩))
              have hz := blk_new w5 (.cells #[.int .i64 pl.client, .int .u64 pl.token, .string pl.name, .slice b1 pl.args.length d1, .int .i64 ph, .slice b2 pl.reads.length d2, .slice b3 pl.writes.length d3] 43)
              have hz5 := Lib.hid hz
              have qz := blk_cell hz
              have hd := judge_ok HJ.out.1
              obtain ⟨hb, hhb⟩ : ∃ hb : Bool, (ph == 0) = hb := ⟨_, rfl⟩
              have HHB := Lib.hid hhb
              clear hz hhb p0 p1 p2 p3
              have K56 := Lib.hid ((Keep.refl No w5).alloc (.cells #[.int .i64 pl.client, .int .u64 pl.token, .string pl.name, .slice b1 pl.args.length d1, .int .i64 ph, .slice b2 pl.reads.length d2, .slice b3 pl.writes.length d3] 43))
              generalize hw6 : w5.alloc (.cells #[.int .i64 pl.client, .int .u64 pl.token, .string pl.name, .slice b1 pl.args.length d1, .int .i64 ph, .slice b2 pl.reads.length d2, .slice b3 pl.writes.length d3] 43) = w6 at *
              have HW6 := Lib.hid hw6
              clear hw6
              go_cut [94] (fun c wx => c = .bool hb ∧ w6 = wx)
              case first =>
                have hhb := HHB.out
                go_wp2_with fail
                go_meet
                case rel => exact ⟨rfl, rfl⟩
              case rest =>
                obtain ⟨rfl, rfl⟩ := hcut
                go_upto_if 94 with fail
                go_cut [14] (fun c wx => c = .pointer (some ⟨w5.heap.size, 0, none⟩) ∧ RowKit.Hid (PlanNow w wr S ps most w5.heap.size wx ∧ Keep No wr wx))
                case first =>
                  have hsz6 : w6.heap.size = w5.heap.size + 1 := by rw [← HW6.out]; simp
                  have hrl := H5.out.2.size
                  have hrw : w.heap.size ≤ wr.heap.size := HJ.out.2.2.2.1.size
                  cases hb with
                  | false =>
                    have hne : pl.how ≠ 0 := by rw [HJ.out.2.1]; simpa using HHB.out
                    have hfin : PlanNow w wr S ps most w5.heap.size w6 := PlanNow.judged HJ.out.1 hne (by rw [HJ.out.2.1]; exact hz5.out) ((H5.out.1.agree planSh K56.out.agreeNo).mono planSh fun i _ hi => .inr ⟨hi.1, by have := hi.2; omega⟩)
                    have HF := Lib.hid (And.intro hfin (H5.out.2.trans K56.out))
                    clear hne hfin
                    go_wp2_with fail
                    go_meet
                    case rel => exact ⟨rfl, HF.out⟩
                  | true =>
                    have h0 : pl.how = 0 := by rw [HJ.out.2.1]; simpa using HHB.out
                    have hph0 : ph = 0 := by rw [← HJ.out.2.1]; exact h0
                    have z7 : (w6.setCell ⟨w5.heap.size, 4, none⟩ (.int .i64 2)).heap[w5.heap.size]? = some (.cells #[.int .i64 pl.client, .int .u64 pl.token, .string pl.name, .slice b1 pl.args.length d1, .int .i64 2, .slice b2 pl.reads.length d2, .slice b3 pl.writes.length d3] 43 (0, 0)) := by simpa using blk_set hz5.out 4 (.int .i64 2)
                    have k57 : Keep No w5 (w6.setCell ⟨w5.heap.size, 4, none⟩ (.int .i64 2)) := K56.out.setNew (by show w5.heap.size ≤ w5.heap.size; omega) _
                    have hUn : ∀ W, Keep No w5 W → Rd planSh W (fun k => (S k ∧ k < w.heap.size) ∨ (wr.heap.size ≤ k ∧ k ≠ w5.heap.size)) [.int .i64 pl.client, .int .u64 pl.token, .string pl.name, .slice b1 pl.args.length d1, .int .i64 pl.how, .slice b2 pl.reads.length d2, .slice b3 pl.writes.length d3] pl := fun W hW =>
                      (H5.out.1.mono planSh (T := (fun k => (S k ∧ k < w.heap.size) ∨ (wr.heap.size ≤ k ∧ k ≠ w5.heap.size))) fun i _ hi => .inr ⟨hi.1, by have := hi.2; omega⟩).agree planSh hW.agreeNo
                    have hemp : pl.fp.rs = [] ∧ pl.fp.ws = [] := by
                      rcases hd.how with ⟨-, h1, h2⟩ | ⟨h1, -⟩
                      · exact ⟨h1, h2⟩
                      · omega
                    have hseen : ∀ W, Keep No w5 W → W.heap[w5.heap.size]? = some (.cells #[.int .i64 pl.client, .int .u64 pl.token, .string pl.name, .slice b1 pl.args.length d1, .int .i64 2, .slice b2 pl.reads.length d2, .slice b3 pl.writes.length d3] 43 (0, 0)) → PlanNow w wr S ps most w5.heap.size W ∧ Keep No wr W := fun W hW hb => by
                      obtain ⟨b1', d1', b2', d2', b3', d3', ecs, hA, hRr, hWw, v1, v2, v3, -⟩ := plan_cells (hUn W hW)
                      simp only [List.cons.injEq, Value.slice.injEq, and_true, true_and] at ecs
                      obtain ⟨⟨rfl, rfl⟩, ⟨rfl, rfl⟩, rfl, rfl⟩ := ecs
                      refine ⟨PlanNow.seen HJ.out.1 h0 pl.fp ⟨fun i hi => ?_, ?_, ?_, ?_⟩ ?_ hb hA hRr hWw v1 v2 v3, H5.out.2.trans hW⟩
                      · rw [hemp.1, hemp.2] at hi; exact hi.elim (fun h => by cases h) (fun h => by cases h)
                      · rw [hemp.1, hemp.2]; decide
                      · rw [hemp.1]; exact List.Pairwise.nil
                      · rw [hemp.2]; exact List.Pairwise.nil
                      · rw [hemp.1, hemp.2]; have := HB.out.2.2.1; simpa [setT] using this
                    have HS := Lib.hid (And.intro hseen (And.intro z7 (And.intro k57 (And.intro hUn h0))))
                    have fz := blk_fro hz5.out 4
                    clear hseen hUn hemp h0 hph0 k57
                    by_cases hkf : k < fs.length
                    · obtain ⟨F, hF⟩ : ∃ F, fs[k] = F := ⟨_, rfl⟩
                      have h3' := (HX.out.2.2.2.1).mono (.slice footSh) (T := fun i => S i ∧ i < w.heap.size) fun i hi hs => ⟨hs, hi⟩
                      obtain ⟨bf, of', f1, g1, f2, g2, rfl, p0, p1, hFp⟩ := feet_get h3' k hkf
                      have hfl := HX.out.2.2.2.2.2.2.2.1 _ (List.getElem_mem hkf)
                      rw [hF] at p0 p1 hFp hfl
                      have hbf := World.block_lt_of_cell? _ _ p0
                      have HFc : RowKit.Hid (∀ W, Keep No w W → W.cell? ⟨bf, of' + k * 2, none⟩ = some (.slice f1 F.rs.length g1) ∧ W.cell? ⟨bf, of' + k * 2 + 1, none⟩ = some (.slice f2 F.ws.length g2)) := fun W hW =>
                        ⟨(hW.cell hbf (o := of' + k * 2) (fun x => x)).trans p0, (hW.cell hbf (o := of' + k * 2 + 1) (fun x => x)).trans p1⟩
                      have h16 : (F.rs.length + F.ws.length + 1) * 16 ≤ 140737488355200 := Nat.le_trans (Nat.mul_le_mul_right 16 (show F.rs.length + F.ws.length + 1 ≤ 1048577 by omega)) (by decide)
                      obtain ⟨isb, hib⟩ : ∃ isb, F.normal = isb := ⟨_, rfl⟩
                      have HIs : RowKit.Hid (∀ W, Keep No w W → Calls Tryz.prog 9 #[.agg #[.slice f1 F.rs.length g1, .slice f2 F.ws.length g2]] W fun e w' => e = .returned (.bool isb) ∧ RowKit.Hid (Keep No W w')) := fun W hW =>
                        (rIs_any W _ _ _ F (hFp.keep hW) h16).mono (by
                          rintro e w' ⟨rfl, hk⟩
                          exact ⟨by rw [hib], hk⟩)
                      have jf : (k : Int) < fs.length := by omega
                      have KW7 := Lib.hid (HJ.out.2.2.2.1.trans (H5.out.2.trans HS.out.2.2.1))
                      obtain ⟨m0, m1⟩ := HFc.out _ KW7.out
                      have HALL : RowKit.Hid (∀ W, Keep No (w6.setCell ⟨w5.heap.size, 4, none⟩ (.int .i64 2)) W → PlanNow w wr S ps most w5.heap.size W ∧ Keep No wr W) := fun W hW => HS.out.1 W (HS.out.2.2.1.trans hW) (hW.blk HS.out.2.1 (fun x => x))
                      have HFF := Lib.hid (And.intro hFp (And.intro h16 hib))
                      clear p0 p1 hFp hfl h3' hF h16 hib z7 hkf
                      cases isb with
                      | false =>
                        go_wp2_with (go_at_call 9; refine (HIs.out _ KW7.out).mono ?_; rintro e w8 ⟨rfl, H8⟩; obtain ⟨m0, m1⟩ := HFc.out w8 (KW7.out.trans H8.out))
                        go_meet
                        case rel => exact ⟨rfl, HALL.out _ H8.out⟩
                      | true =>
                        have hi : F.Is := (Fp.normal_iff F).1 HFF.out.2.2
                        obtain ⟨lk, hlk⟩ : ∃ lk, (setT (F.rs ++ F.ws)).length = lk := ⟨_, rfl⟩
                        have HLk : RowKit.Hid (∀ W, Keep No w W → Calls Tryz.prog 10 #[.agg #[.slice f1 F.rs.length g1, .slice f2 F.ws.length g2]] W fun e w' => ∃ a c, e = .returned (.slice a lk c) ∧ RowKit.Hid (Keep No W w')) := fun W hW =>
                          (rLocks_any W _ _ _ F (HFF.out.1.keep hW) (Nat.le_trans HFF.out.2.1 (by decide)) (by have := hi.many; omega)).mono (by
                            rintro e w' ⟨a, n, c, rfl, hn, -, hk⟩
                            have : n = lk := by rw [hn, ← hlk]; simp [Fp.locks]
                            subst this
                            exact ⟨a, c, rfl, hk⟩)
                        have HI := Lib.hid (And.intro hi hlk)
                        clear hi hlk
                        by_cases hm : (lk : Int) ≤ most
                        · go_wp2_with (first | (go_at_call 9; refine (HIs.out _ KW7.out).mono ?_; rintro e w8 ⟨rfl, H8⟩; obtain ⟨m0, m1⟩ := HFc.out w8 (KW7.out.trans H8.out)) | (go_at_call 10; refine (HLk.out _ (KW7.out.trans H8.out)).mono ?_; rintro e w9 ⟨a9, c9, rfl, H9⟩; clear m0 m1; obtain ⟨m0, m1⟩ := HFc.out w9 (KW7.out.trans (H8.out.trans H9.out)); have z9 := H9.out.blk (H8.out.blk HS.out.2.1 (fun x => x)) (fun x => x); have q9 := blk_cell z9; have f9 := blk_fro z9))
                          go_meet
                          case rel =>
                            refine ⟨rfl, ?_⟩
                            have k59 : Keep No w5 w9 := HS.out.2.2.1.trans (H8.out.trans H9.out)
                            have k5W := (k59.setNew (p := ⟨w5.heap.size, 5, none⟩) (Nat.le_refl _) (.slice f1 F.rs.length g1)).setNew (p := ⟨w5.heap.size, 6, none⟩) (Nat.le_refl _) (.slice f2 F.ws.length g2)
                            have zW : ((w9.setCell ⟨w5.heap.size, 5, none⟩ (.slice f1 F.rs.length g1)).setCell ⟨w5.heap.size, 6, none⟩ (.slice f2 F.ws.length g2)).heap[w5.heap.size]? = some (.cells #[.int .i64 pl.client, .int .u64 pl.token, .string pl.name, .slice b1 pl.args.length d1, .int .i64 2, .slice f1 F.rs.length g1, .slice f2 F.ws.length g2] 43 (0, 0)) := by simpa using blk_set (blk_set z9 5 (.slice f1 F.rs.length g1)) 6 (.slice f2 F.ws.length g2)
                            obtain ⟨b1', d1', b2', d2', b3', d3', ecs, hA, hRr, hWw, v1, v2, v3, -⟩ := plan_cells (HS.out.2.2.2.1 _ k5W)
                            simp only [List.cons.injEq, Value.slice.injEq, and_true, true_and] at ecs
                            obtain ⟨⟨rfl, rfl⟩, ⟨rfl, rfl⟩, rfl, rfl⟩ := ecs
                            have hFW := (HFF.out.1.keep ((HJ.out.2.2.2.1.trans H5.out.2).trans k5W)).mono (T := (fun k => (S k ∧ k < w.heap.size) ∨ (wr.heap.size ≤ k ∧ k ≠ w5.heap.size))) fun i _ hi => .inl hi
                            exact ⟨PlanNow.seen HJ.out.1 HS.out.2.2.2.2 F HI.out.1 (by rw [HI.out.2]; exact hm) zW hA hFW.1 hFW.2 v1 v2 v3, H5.out.2.trans k5W⟩
                        · go_wp2_with (first | (go_at_call 9; refine (HIs.out _ KW7.out).mono ?_; rintro e w8 ⟨rfl, H8⟩; obtain ⟨m0, m1⟩ := HFc.out w8 (KW7.out.trans H8.out)) | (go_at_call 10; refine (HLk.out _ (KW7.out.trans H8.out)).mono ?_; rintro e w9 ⟨a9, c9, rfl, H9⟩; clear m0 m1; obtain ⟨m0, m1⟩ := HFc.out w9 (KW7.out.trans (H8.out.trans H9.out)); have z9 := H9.out.blk (H8.out.blk HS.out.2.1 (fun x => x)) (fun x => x); have q9 := blk_cell z9; have f9 := blk_fro z9))
                          go_meet
                          case rel => exact ⟨rfl, HALL.out _ (H8.out.trans H9.out)⟩
                    · have jf : ¬ (k : Int) < fs.length := by omega
                      have HF := Lib.hid (HS.out.1 _ HS.out.2.2.1 HS.out.2.1)
                      clear z7
                      go_wp2_with fail
                      go_meet
                      case rel => exact ⟨rfl, HF.out⟩
                case rest =>
                  obtain ⟨rfl, HP⟩ := hcut
                  obtain ⟨⟨p, f1, g1, f2, g2, f3, g3, hblk, hrd, htk, hright⟩, hlog⟩ := HP.out
                  have hdrew := hlog.drew
                  have hblkD : wc.drew.heap[w5.heap.size]? = _ := hblk
                  have hrdD := hrd.agree planSh ((Keep.refl No wc).drew).agreeNo
                  have qD := blk_cell hblkD
                  have HQ := Lib.hid (And.intro hrdD (And.intro htk (And.intro hright (And.intro hdrew hblkD))))
                  obtain ⟨qq, hqq⟩ : ∃ qq : Nat, cnt / bn = qq := ⟨_, rfl⟩
                  have hqle : qq ≤ cnt := by rw [← hqq]; exact Nat.div_le_self _ _
                  have hc200 := HR.out.1
                  have tq : IntKind.i64.wrap ((cnt : Int) / (bn : Int)) = (qq : Int) := by
                    have : (cnt : Int) / (bn : Int) = ((cnt / bn : Nat) : Int) := rfl
                    rw [this, hqq]; exact wrap_pc (by omega) (by omega)
                  have tz : ¬ bn = 0 := by have := HB.out.2.2.2.2; omega
                  have HQQ := Lib.hid (And.intro hqq hqle)
                  clear hblk hrd htk hright hlog hdrew hblkD hrdD hqq hqle HP hc200
                  go_upto_region 18 with fail
                  refine wp_region_canw [0, 1, 2, 3, 4, 5, 6] [5, 6] [(0, 5), (1, 5), (2, 5), (3, 5)] (by kernel_rfl) (by kernel_rfl) (by kernel_rfl) (by kernel_rfl) (by intro c a d v w h; cases d <;> exact h) ?_
                  generalize wc.drew = w10 at *
                  iterate 3 (refine canw_sil rfl rfl (fun K hK => ?_); go_simp; refine hK _ ?_; clear hK K)
                  refine canw_sil rfl rfl (fun K hK => ?_)
                  go_simp
                  refine hK _ ?_
                  clear hK K
                  iterate 1 (refine canw_sil rfl rfl (fun K hK => ?_); go_simp; refine hK _ ?_; clear hK K)
                  refine canw_loud [0, 1, 2, 3] rfl rfl rfl (fun K hK => ?_)
                  go_wp2_with fail
                  refine Mid.normal (hK _ _ ?_ ?_)
                  · simp only [List.forall_mem_cons]
                    refine ⟨?_, ?_, ?_, ?_, stabs_nil⟩ <;> exact stab_of rfl (fun K hK => by go_simp; exact hK)
                  clear hK K
                  have hin : p.req.In := rd_plan_in HQ.out.1
                  have hfit := right_fit HQ.out.2.2.1
                  obtain ⟨mm, hmm, hlin⟩ := HR.out.2.1
                  have hkr := HQ.out.2.2.2.1
                  have hww : w.heap.size ≤ w3.heap.size := H2.out.2.size
                  have kA := (Keep.refl No w10).alloc (.cells #[.int .i64 p.client, .int .u64 p.token, .string p.name, .slice f1 p.args.length g1, .int .i64 p.how, .slice f2 p.reads.length g2, .slice f3 p.writes.length g3] 43)
                  have hrl : Rd (.slice planSh) (w10.alloc (.cells #[.int .i64 p.client, .int .u64 p.token, .string p.name, .slice f1 p.args.length g1, .int .i64 p.how, .slice f2 p.reads.length g2, .slice f3 p.writes.length g3] 43)) (fun i => (S i ∧ i < w.heap.size) ∨ wr.heap.size ≤ i) [.slice (some ⟨w10.heap.size, 0, none⟩) 1 1] [p] :=
                    rd_block (s := planSh) (rows := [[.int .i64 p.client, .int .u64 p.token, .string p.name, .slice f1 p.args.length g1, .int .i64 p.how, .slice f2 p.reads.length g2, .slice f3 p.writes.length g3]]) (l := [p]) (blk_new w10 _) (.inr hkr.size) rfl (by rw [maxLen_is]; show (1 : Nat) ≤ _; omega) fun i h1 h2 => by
                      have : i = 0 := by simp at h1; omega
                      subst this
                      exact (HQ.out.1.agree planSh kA.agreeNo).mono planSh fun i _ hi => hi.elim .inl (fun h => .inr h.1)
                  have hc200 : cnt < 200 := by have h1 := HR.out.1; have h2 := HJ.out.2.2.1; have h3 := HB.out.2.1; omega
                  have hap := (logAppend_of (hlin.more (hkr.trans kA)) HR.out.2.2.good.len (qq : Int) (wf_i64q (by omega) (by have := HQQ.out.2; omega)) _ [p] hrl (fun i hi => by
                    rcases hi with hi | hi
                    · have := hi.2; omega
                    · omega) (fun p' hp' => by
                    have : p' = p := by simpa using hp'
                    subst this
                    exact ⟨hfit.1, hfit.2.1⟩) (by simp)).mono (R' := fun e w' => (∃ t1 t2 t3, e = .returned (.tuple #[.int .i64 t1, .int .i64 t2, .int .i64 t3])) ∧ RowKit.Hid (LogNow w3 w' w3.heap.size (x.append (qq : Int) [p]).2)) (by
                    rintro e w' ⟨rfl, hl⟩
                    exact ⟨⟨_, _, _, rfl⟩, _, Nat.le_refl _, hl.out⟩)
                  have HADD := Lib.hid (show TkX ps most bn (cnt + 1) (x.append (qq : Int) [p]).2 from by
                    have := HR.out.2.2.add hc200 HQ.out.2.1 HQ.out.2.2.1 hin
                    rw [HQQ.out.1] at this
                    exact this)
                  have jc4 : IntKind.i64.wrap ((cnt : Int) + 1) = (cnt : Int) + 1 := wrap_pc (by omega) (by omega)
                  have jk4 : IntKind.i64.wrap ((k : Int) + 1) = (k : Int) + 1 := wrap_pc (by omega) (by omega)
                  have HLT := Lib.hid hlt
                  clear hin hfit hlin hkr kA hrl hc200 hmm hww tq tz hlt
                  refine canw_loud [] rfl rfl rfl (fun K hK => ?_)
                  go_wp2_with (go_at_call 11; refine hap.mono ?_; clear hap; rintro e w12 ⟨⟨t1, t2, t3, rfl⟩, H12⟩)
                  refine Mid.normal (hK _ _ stabs_nil ?_)
                  clear hK K
                  refine canw_nil ?_
                  go_wp2_with fail
                  go_roundg (rs.length - (k + 1))
                  case measure => have := HLT.out; omega
                  case rel => exact ⟨k + 1, cnt + 1, _, HLT.out, rfl, by simp, by simp, Nat.succ_le_succ HR.out.1, H12.out, HADD.out⟩
            · have b1 : (f != 0) = true := by simpa using hf
              have jk4 : IntKind.i64.wrap ((k : Int) + 1) = (k : Int) + 1 := wrap_pc (by omega) (by omega)
              clear hf hlt
              go_wp2_with (first | (go_at_call 8; refine hjd2.mono ?_; clear hjd2; rintro e w5 ⟨b1, d1, b2, d2, b3, d3, rfl, H5⟩) | (go_at_call 6; refine (lnum_any _ _).mono ?_; rintro e w6 ⟨rfl, rfl⟩))
              go_roundg (rs.length - (k + 1))
              case measure => have := HJ.out.2.2.1; omega
              case rel => exact ⟨k + 1, cnt, x, HJ.out.2.2.1, rfl, rfl, by simp, Nat.le_succ_of_le HR.out.1, (HR.out.2.1.more H5.out.2).more ((Keep.refl No _).alloc _), HR.out.2.2⟩
          · have jk : ¬ (k : Int) < rs.length := by omega
            obtain ⟨mm, hmm, S6, hla, hS6, hkl⟩ := HR.out.2.1
            have hgood := HR.out.2.2.good
            have hcl := HR.out.2.2.len
            have hlen := (logLen_any wr w3.heap.size S6 x hla).mono (R' := fun e w' => e = .returned (.int .i64 cnt) ∧ wr = w') (by
              rintro e w' ⟨rfl, rfl⟩
              exact ⟨by rw [hcl], rfl⟩)
            have hlenb : x.bytes.length ≤ 140737488355328 := by
              have q1 := framed_all x.l fun e he => (hgood.ok e he).1
              have q2 := (uintB_length x.epoch.toNat).2
              have q3 := (uintB_length x.l.length).2
              have q4 := hgood.len
              unfold Lg.bytes
              simp only [List.length_append]
              omega
            have hby := (logBytes_any wr w3.heap.size S6 x hla hgood.few hgood.fit hgood.ep0).mono (R' := fun e w' => ∃ a n c, e = .returned (.slice a n c) ∧ RowKit.Hid (Rd bytesSh w' (Fr wr.heap.size w'.heap.size) [.slice a n c] x.bytes ∧ Keep No wr w')) (by
              rintro e w' ⟨a, n, c, rfl, ho⟩
              exact ⟨a, n, c, rfl, ho.rd, ho.2⟩)
            have HE := Lib.hid (And.intro hla (And.intro hlenb (And.intro hkl hcl)))
            have HCK : RowKit.Hid (∀ W a n c, Keep No wr W → Rd bytesSh W (Fr wr.heap.size W.heap.size) [.slice a n c] x.bytes → Calls Tryz.prog 13 #[.pointer (some ⟨B, 0, none⟩), .slice a n c, .int .i64 most, .int .i64 bn] W fun e w' => e = .returned (.tuple #[.int .i64 0, .int .i64 0]) ∧ RowKit.Hid (Keep No W w')) := fun W a n c hk hb =>
              (logCheck_ok W _ _ B m ps (H2.out.1.keep (hkl.trans hk) (fun _ _ x => x)) _ x.bytes hb hlenb x (load_bytes hgood) hgood.few most bn (fun e he => by
                have h1 := right_fit ((Ent.err_iff e).1 (hgood.ok e he).1).2.2
                exact ⟨HR.out.2.2.all e he, by have := h1.2.2.1; omega, by have := h1.2.2.2; omega⟩) (fun i hi => HR.out.2.2.ah (by have := HB.out.2.2.2.2; omega) i hi) (HX.out.2.2.2.2.2.2.2.2.2.2.2.keep (H2.out.2.trans (hkl.trans hk)))).mono (by
                rintro e w' ⟨rfl, hk⟩
                exact ⟨rfl, hk⟩)
            have jcnt : (cnt : Int) ≤ 200 := by have h1 := HR.out.1; have h3 := HB.out.2.1; omega
            clear hla hS6 hkl hgood hcl hlenb hmm hk hlt
            go_wp2_with (first | (go_at_call 12; refine hlen.mono ?_; clear hlen; rintro e w14 ⟨rfl, rfl⟩) | (go_at_call 14; refine hby.mono ?_; clear hby; rintro e w15 ⟨a15, n15, c15, rfl, H15⟩) | (go_at_call 13; refine (HCK.out _ _ _ _ H15.out.2 H15.out.1).mono ?_; rintro e w16 ⟨rfl, H16⟩) | (go_at_call 6; refine (lnum_any _ _).mono ?_; rintro e w17 ⟨rfl, rfl⟩))
            have HN := Lib.hid (HR.out.2.1.more (H15.out.2.trans H16.out))
            generalize w17 = w18 at *
            go_loopg [18] cnt (fun g i wq => ∃ j : Nat, j ≤ cnt ∧ g = cnt - j ∧ i = .int .i64 j ∧ RowKit.Hid (LogNow w3 wq w3.heap.size x))
            case atStart => exact ⟨0, by omega, by omega, rfl, HN.out⟩
            case round =>
              obtain ⟨j, hj, rfl, rfl, HQ⟩ := hrel
              by_cases hlt : j < cnt
              · have jj1 : (j : Int) < cnt := by omega
                have jj0 : (0 : Int) ≤ j := by omega
                have jj4 : IntKind.i64.wrap ((j : Int) + 1) = (j : Int) + 1 := wrap_pc (by omega) (by omega)
                have hjl : j < x.l.length := by rw [HE.out.2.2.2]; exact hlt
                obtain ⟨mm, hmm, S6, hla, hS6, hkl⟩ := HQ.out
                have hgood := HR.out.2.2.good
                have hat := logAt_in wr w3.heap.size S6 x hla hgood.few j hjl
                obtain ⟨y, hy⟩ : ∃ y, x.l[j] = y := ⟨_, rfl⟩
                have hmem : y ∈ x.l := by rw [← hy]; exact List.getElem_mem hjl
                rw [hy] at hat
                obtain ⟨⟨r, hfr, hsu⟩, hlk⟩ := taken_suits (HR.out.2.2.all y hmem)
                have hrf := right_fit ((Ent.err_iff y).1 (hgood.ok y hmem).1).2.2
                have hyi := ((Plan.right_iff _).1 ((Ent.err_iff y).1 (hgood.ok y hmem).1).2.2).2.2
                have hat2 := hat.mono (R' := fun e w' => ∃ b1 k1 b2 k2 b3 k3, e = .returned (.tuple #[.agg #[.int .i64 y.seq, .int .i64 y.epoch, .int .i64 y.plan.client, .int .u64 y.plan.token, .string y.plan.name, .slice b1 y.plan.args.length k1, .int .i64 y.plan.how, .slice b2 y.plan.reads.length k2, .slice b3 y.plan.writes.length k3], .bool true]) ∧ RowKit.Hid (Rd entrySh w' (Fr wr.heap.size w'.heap.size) [.int .i64 y.seq, .int .i64 y.epoch, .int .i64 y.plan.client, .int .u64 y.plan.token, .string y.plan.name, .slice b1 y.plan.args.length k1, .int .i64 y.plan.how, .slice b2 y.plan.reads.length k2, .slice b3 y.plan.writes.length k3] y ∧ Keep No wr w')) (by
                  rintro e w' ⟨cs, rfl, hr, hk⟩
                  obtain ⟨b1, k1, b2, k2, b3, k3, rfl⟩ := ent_array hr
                  exact ⟨b1, k1, b2, k2, b3, k3, rfl, hr, hk⟩)
                have HFD : RowKit.Hid (∀ W, Keep No wr W → Calls Tryz.prog 16 #[.pointer (some ⟨B, 0, none⟩), .string y.plan.name] W fun e w' => ∃ e1 l1 e2 l2 e3 l3 e4 l4 e5 l5, e = .returned (.tuple #[.agg #[.string r.name, .slice e1 r.kinds.length l1, .bool r.dep, .slice e2 r.reads.length l2, .slice e3 r.writes.length l3, .int .i64 r.pgm.args, .slice e4 r.pgm.consts.length l4, .slice e5 r.pgm.code.length l5], .bool true]) ∧ RowKit.Hid (Rd procSh w' (Fr W.heap.size w'.heap.size) [.string r.name, .slice e1 r.kinds.length l1, .bool r.dep, .slice e2 r.reads.length l2, .slice e3 r.writes.length l3, .int .i64 r.pgm.args, .slice e4 r.pgm.consts.length l4, .slice e5 r.pgm.code.length l5] r ∧ Keep No W w')) := fun W hW =>
                  (find_lib W _ B m ps (H2.out.1.keep (hkl.trans hW) (fun _ _ x => x)) y.plan.name (by have := hrf.2.2.2; show y.plan.req.name.size ≤ _; omega)).mono (by
                    rintro e w' ⟨cs, rfl, hr, hk⟩
                    have hfr' : findP ps y.plan.name = some r := hfr
                    rw [hfr'] at hr ⊢
                    simp only [Option.getD_some] at hr
                    obtain ⟨e1, l1, e2, l2, e3, l3, e4, l4, e5, l5, ecs, -⟩ := proc_cells hr
                    obtain rfl : cs = #[.string r.name, .slice e1 r.kinds.length l1, .bool r.dep, .slice e2 r.reads.length l2, .slice e3 r.writes.length l3, .int .i64 r.pgm.args, .slice e4 r.pgm.consts.length l4, .slice e5 r.pgm.code.length l5] := by cases cs; simp at ecs; rw [ecs]
                    exact ⟨e1, l1, e2, l2, e3, l3, e4, l4, e5, l5, rfl, hr, hk⟩)
                have HSU : RowKit.Hid (∀ W T1 T2 e1 l1 e2 l2 e3 l3 e4 l4 e5 l5 b1 k1 b2 k2 b3 k3, Rd procSh W T1 [.string r.name, .slice e1 r.kinds.length l1, .bool r.dep, .slice e2 r.reads.length l2, .slice e3 r.writes.length l3, .int .i64 r.pgm.args, .slice e4 r.pgm.consts.length l4, .slice e5 r.pgm.code.length l5] r → Rd entrySh W T2 [.int .i64 y.seq, .int .i64 y.epoch, .int .i64 y.plan.client, .int .u64 y.plan.token, .string y.plan.name, .slice b1 y.plan.args.length k1, .int .i64 y.plan.how, .slice b2 y.plan.reads.length k2, .slice b3 y.plan.writes.length k3] y → Calls Tryz.prog 17 #[.agg #[.string r.name, .slice e1 r.kinds.length l1, .bool r.dep, .slice e2 r.reads.length l2, .slice e3 r.writes.length l3, .int .i64 r.pgm.args, .slice e4 r.pgm.consts.length l4, .slice e5 r.pgm.code.length l5], .slice b1 y.plan.args.length k1] W fun e w' => e = .returned (.int .i64 0) ∧ RowKit.Hid (Keep No W w')) := fun W T1 T2 e1 l1 e2 l2 e3 l3 e4 l4 e5 l5 b1 k1 b2 k2 b3 k3 hr he => by
                  obtain ⟨z1, d1, z2, d2, z3, d3, z4, d4, z5, d5, ecs, hk1, -⟩ := proc_cells hr
                  simp only [List.cons.injEq, Value.slice.injEq, and_true, true_and] at ecs
                  obtain ⟨⟨rfl, rfl⟩, -⟩ := ecs
                  obtain ⟨ps', ecs2, hp, -⟩ := ent_cells he
                  simp only [List.cons.injEq, true_and] at ecs2
                  subst ecs2
                  obtain ⟨t1, t2, t3, t4, t5, t6, ecs3, hA, -⟩ := plan_cells hp
                  simp only [List.cons.injEq, Value.slice.injEq, and_true, true_and] at ecs3
                  obtain ⟨⟨rfl, rfl⟩, -⟩ := ecs3
                  have hs := suits_any W T1 T2 (.string r.name) (.bool r.dep) (.slice e2 r.reads.length l2) (.slice e3 r.writes.length l3) (.int .i64 r.pgm.args) (.slice e4 r.pgm.consts.length l4) (.slice e5 r.pgm.code.length l5) ⟨rfl, rfl, rfl, rfl, rfl, rfl, rfl⟩ _ _ _ _ r.kinds y.plan.args hk1 hA
                  have hsu' : suitsB r.kinds y.plan.args = true := hsu
                  rw [hsu'] at hs
                  exact hs.mono (by rintro e w' ⟨rfl, hk⟩; exact ⟨rfl, hk⟩)
                obtain ⟨lk, hlk2⟩ : ∃ lk, (setT (y.plan.fp.rs ++ y.plan.fp.ws)).length = lk := ⟨_, rfl⟩
                rw [hlk2] at hlk
                have HLK : RowKit.Hid (∀ W T2 b1 k1 b2 k2 b3 k3, Rd entrySh W T2 [.int .i64 y.seq, .int .i64 y.epoch, .int .i64 y.plan.client, .int .u64 y.plan.token, .string y.plan.name, .slice b1 y.plan.args.length k1, .int .i64 y.plan.how, .slice b2 y.plan.reads.length k2, .slice b3 y.plan.writes.length k3] y → Calls Tryz.prog 10 #[.agg #[.slice b2 y.plan.reads.length k2, .slice b3 y.plan.writes.length k3]] W fun e w' => ∃ a c, e = .returned (.slice a lk c) ∧ RowKit.Hid (Keep No W w')) := fun W T2 b1 k1 b2 k2 b3 k3 he => by
                  obtain ⟨ps', ecs2, hp, -⟩ := ent_cells he
                  simp only [List.cons.injEq, true_and] at ecs2
                  subst ecs2
                  obtain ⟨t1, t2, t3, t4, t5, t6, ecs3, hA, hR6, hW6, -⟩ := plan_cells hp
                  simp only [List.cons.injEq, Value.slice.injEq, and_true, true_and] at ecs3
                  obtain ⟨-, ⟨rfl, rfl⟩, rfl, rfl⟩ := ecs3
                  exact (rLocks_any W T2 _ _ y.plan.fp ⟨hR6, hW6⟩ (Nat.le_trans (Nat.mul_le_mul_right 16 (show y.plan.fp.rs.length + y.plan.fp.ws.length + 1 ≤ 129 by have := hrf.2.2.1; omega)) (by decide)) (by have := hyi.many; omega)).mono (by
                    rintro e w' ⟨a, n, c, rfl, hn, -, hk⟩
                    have : n = lk := by rw [hn, ← hlk2]; simp [Fp.locks]
                    subst this
                    exact ⟨a, c, rfl, hk⟩)
                have jm : ¬ most < (lk : Int) := by omega
                have HLT := Lib.hid (And.intro hlt (And.intro hmm hkl))
                clear hjl hla hS6 hkl hgood hat hy hmem hfr hsu hlk hrf hyi hlk2 hmm hj hlt
                go_wp2_with (first | (go_at_call 15; refine hat2.mono ?_; clear hat2; rintro e w20 ⟨b1, k1, b2, k2, b3, k3, rfl, H20⟩; have x20 := blk_new w20 (.cells #[.int .i64 y.seq, .int .i64 y.epoch, .int .i64 y.plan.client, .int .u64 y.plan.token, .string y.plan.name, .slice b1 y.plan.args.length k1, .int .i64 y.plan.how, .slice b2 y.plan.reads.length k2, .slice b3 y.plan.writes.length k3] 58); have q20 := blk_cell x20; have K20 := Lib.hid (H20.out.2.alloc (.cells #[.int .i64 y.seq, .int .i64 y.epoch, .int .i64 y.plan.client, .int .u64 y.plan.token, .string y.plan.name, .slice b1 y.plan.args.length k1, .int .i64 y.plan.how, .slice b2 y.plan.reads.length k2, .slice b3 y.plan.writes.length k3] 58)); have R20 := Lib.hid (H20.out.1.agree entrySh ((Keep.refl No w20).alloc (.cells #[.int .i64 y.seq, .int .i64 y.epoch, .int .i64 y.plan.client, .int .u64 y.plan.token, .string y.plan.name, .slice b1 y.plan.args.length k1, .int .i64 y.plan.how, .slice b2 y.plan.reads.length k2, .slice b3 y.plan.writes.length k3] 58)).agreeNo)) | (go_at_call 16; refine (HFD.out _ K20.out).mono ?_; rintro e w22 ⟨e1, l1, e2, l2, e3, l3, e4, l4, e5, l5, rfl, H22⟩; clear q20; have x22 := H22.out.2.blk x20 (fun x => x); have x23 := blk_alloc (o' := .cells #[.string r.name, .slice e1 r.kinds.length l1, .bool r.dep, .slice e2 r.reads.length l2, .slice e3 r.writes.length l3, .int .i64 r.pgm.args, .slice e4 r.pgm.consts.length l4, .slice e5 r.pgm.code.length l5] 66) x22; have y23 := blk_new w22 (.cells #[.string r.name, .slice e1 r.kinds.length l1, .bool r.dep, .slice e2 r.reads.length l2, .slice e3 r.writes.length l3, .int .i64 r.pgm.args, .slice e4 r.pgm.consts.length l4, .slice e5 r.pgm.code.length l5] 66); have q23 := blk_cell x23; have r23 := blk_cell y23; have K22 := Lib.hid (K20.out.trans H22.out.2); have R22 := Lib.hid (And.intro (H22.out.1.agree procSh ((Keep.refl No w22).alloc (.cells #[.string r.name, .slice e1 r.kinds.length l1, .bool r.dep, .slice e2 r.reads.length l2, .slice e3 r.writes.length l3, .int .i64 r.pgm.args, .slice e4 r.pgm.consts.length l4, .slice e5 r.pgm.code.length l5] 66)).agreeNo) ((R20.out.agree entrySh H22.out.2.agreeNo).agree entrySh ((Keep.refl No w22).alloc (.cells #[.string r.name, .slice e1 r.kinds.length l1, .bool r.dep, .slice e2 r.reads.length l2, .slice e3 r.writes.length l3, .int .i64 r.pgm.args, .slice e4 r.pgm.consts.length l4, .slice e5 r.pgm.code.length l5] 66)).agreeNo))) | (go_at_call 17; refine (HSU.out _ _ _ _ _ _ _ _ _ _ _ _ _ _ _ _ _ _ _ R22.out.1 R22.out.2).mono ?_; rintro e w24 ⟨rfl, H24⟩; clear q23 r23; have x24 := H24.out.blk x23 (fun x => x); have q24 := blk_cell x24; have R24 := Lib.hid (R22.out.2.agree entrySh H24.out.agreeNo)) | (go_at_call 6; refine (lnum_any _ _).mono ?_; rintro e w25 ⟨rfl, rfl⟩) | (go_at_call 10; refine (HLK.out _ _ _ _ _ _ _ _ R24.out).mono ?_; rintro e w26 ⟨a26, c26, rfl, H26⟩))
                go_roundg (cnt - (j + 1))
                case measure => have := HLT.out.1; omega
                case rel => exact ⟨j + 1, HLT.out.1, rfl, by simp, HQ.out.more (((K22.out.alloc _).trans H24.out).trans H26.out)⟩
              · obtain rfl : j = cnt := by omega
                have jk2 : ¬ (j : Int) < j := by omega
                have HQ2 := Lib.hid (H2.out.2.trans HQ.out.keep)
                clear hj hlt
                go_wp2_with fail
                refine (HLV.out _ HQ2.out).mono ?_
                rintro e w19 ⟨rfl, HK19⟩
                go_wp2_with fail
                go_ret
                exact ⟨rfl, HK19.out⟩
end Go.Proofs.YtcallmnhaikfpaaGreatDoor
namespace Go.Proofs.YtcallmnhaikfpaaGreatDoor
open Go Go.RowKit Go.Deep
@[reducible] def takenSh : Sh := .struct (.cons (.slice procSh) (.cons (.slice requestSh) (.cons (.slice footSh) (.cons (.int .i64) (.cons (.int .i64) .nil)))))
theorem len_bulk (s : Sh) (l : List s.T) (h : ∀ x, 1 ≤ s.bulk x) : l.length ≤ (l.map s.bulk).sum := by
  induction l with
  | nil => simp
  | cons x l ih => have := h x; simp; omega
theorem mem_bulk (s : Sh) {l : List s.T} {x : s.T} (h : x ∈ l) : s.bulk x ≤ (l.map s.bulk).sum := by
  induction l with
  | nil => cases h
  | cons y l ih =>
    rcases List.mem_cons.1 h with rfl | h
    · simp
    · have := ih h; simp; omega
theorem proc_bulk (p : Prc) : p.name.size + p.reads.length + p.writes.length + 1 ≤ procSh.bulk p := by
  have h2 := len_bulk .str p.reads (fun y => by simp [Sh.bulk])
  have h3 := len_bulk .str p.writes (fun y => by simp [Sh.bulk])
  have e : procSh.bulk p = ((p.name.size + 1) + ((Sh.slice (.int .i64)).bulk p.kinds + (1 + (((p.reads.map Sh.str.bulk).sum + 1) + (((p.writes.map Sh.str.bulk).sum + 1) + (progSh.bulk p.pgm + 0)))))) + 1 := rfl
  rw [e]; omega
theorem req_bulk (q : Req) : q.name.size + 1 ≤ requestSh.bulk q := by
  have e : requestSh.bulk q = (1 + (1 + ((q.name.size + 1) + ((Sh.slice valueSh).bulk q.args + 0)))) + 1 := rfl
  rw [e]; omega
theorem foot_bulk (f : Fp) : f.rs.length + f.ws.length + 1 ≤ footSh.bulk f := by
  have h2 := len_bulk .str f.rs (fun y => by simp [Sh.bulk])
  have h3 := len_bulk .str f.ws (fun y => by simp [Sh.bulk])
  have e : footSh.bulk f = (((f.rs.map Sh.str.bulk).sum + 1) + (((f.ws.map Sh.str.bulk).sum + 1) + 0)) + 1 := rfl
  rw [e]; omega
theorem LogTakes_calls (w : World) (ht : Tab w) (cs : List Value) (x : takenSh.T) (hr : Rd takenSh w (Lt w.heap.size) cs x) (hb : takenSh.bulk x ≤ 1048576) :
    Calls Tryz.prog 3 #[.agg cs.toArray] w fun e w' => e = .returned (.bool true) ∧ Keep No w w' := by
  obtain ⟨_, _, rfl, h1, _, _, rfl, h2, _, _, rfl, h3, _, _, rfl, ⟨rfl, w4⟩, _, _, rfl, ⟨rfl, w5⟩, rfl⟩ := hr
  obtain ⟨a1, c1, rfl, -⟩ := Rd.sliceForm h1
  obtain ⟨a2, c2, rfl, -⟩ := Rd.sliceForm h2
  obtain ⟨a3, c3, rfl, -⟩ := Rd.sliceForm h3
  have e : takenSh.bulk x = (((x.1.map procSh.bulk).sum + 1) + (((x.2.1.map requestSh.bulk).sum + 1) + (((x.2.2.1.map footSh.bulk).sum + 1) + (1 + (1 + 0))))) + 1 := rfl
  rw [e] at hb
  have l1 := len_bulk procSh x.1 (fun y => by have := proc_bulk y; omega)
  have l2 := len_bulk requestSh x.2.1 (fun y => by have := req_bulk y; omega)
  have l3 := len_bulk footSh x.2.2.1 (fun y => by have := foot_bulk y; omega)
  exact LogTakes_main w _ a1 a2 a3 c1 c2 c3 x.1 x.2.1 x.2.2.1 x.2.2.2.1 x.2.2.2.2.1 h1 h2 h3 w5 (fun p hp => by have := mem_bulk procSh hp; have := proc_bulk p; omega) (fun q hq => by have := mem_bulk requestSh hq; have := req_bulk q; omega) (fun f hf => by have := mem_bulk footSh hf; have := foot_bulk f; omega) (by omega) (by omega) (by omega) ht
end Go.Proofs.YtcallmnhaikfpaaGreatDoor
