/-
  The shapes of the program's plain types, and how their cells read.
-/
import Derived.Test.YtjillekahongeaaBase
namespace Go.Proofs.Ytjillekahongeaa
open Go Go.RowKit Go.Deep

@[reducible] def valueSh : Sh := .struct (.cons (.int .i64) (.cons (.int .i64) (.cons .str .nil)))
@[reducible] def requestSh : Sh := .struct (.cons (.int .i64) (.cons (.int .u64) (.cons .str (.cons (.slice valueSh) .nil))))
@[reducible] def footSh : Sh := .struct (.cons (.slice .str) (.cons (.slice .str) .nil))
@[reducible] def planIn : Sh := .cons requestSh (.cons (.int .i64) (.cons footSh .nil))
@[reducible] def planSh : Sh := .struct planIn

/-- no slices inside -/
def Sh.flat : Sh → Bool
  | .int _ | .bool | .str | .nil => true
  | .slice _ => false
  | .cons a b => a.flat && b.flat
  | .struct b => b.flat

theorem Rd.ofFlat : ∀ (s : Sh), s.flat = true → ∀ {w w' : World} {S T : Nat → Prop} {cs : List Value} {x : s.T}, Rd s w S cs x → Rd s w' T cs x
  | .int _, _, _, _, _, _, _, _, h => h
  | .bool, _, _, _, _, _, _, _, h => h
  | .str, _, _, _, _, _, _, _, h => h
  | .slice _, hf, _, _, _, _, _, _, _ => by cases hf
  | .nil, _, _, _, _, _, _, _, h => h
  | .cons a b, hf, _, _, _, _, _, _, h => by
    simp only [Sh.flat, Bool.and_eq_true] at hf
    obtain ⟨c1, c2, rfl, h1, h2⟩ := h
    exact ⟨c1, c2, rfl, Rd.ofFlat a hf.1 h1, Rd.ofFlat b hf.2 h2⟩
  | .struct b, hf, _, _, _, _, _, x, h => Rd.ofFlat b hf (x := x) h

abbrev Plan := planSh.T
abbrev Plan.client (p : Plan) : Int := p.1.1
abbrev Plan.token (p : Plan) : Int := p.1.2.1
abbrev Plan.name (p : Plan) : ByteArray := p.1.2.2.1
abbrev Plan.args (p : Plan) : List valueSh.T := p.1.2.2.2.1
abbrev Plan.how (p : Plan) : Int := p.2.1
abbrev Plan.reads (p : Plan) : List ByteArray := p.2.2.1.1
abbrev Plan.writes (p : Plan) : List ByteArray := p.2.2.1.2.1

/-- a slice's value, written out -/
theorem Rd.sliceForm {s : Sh} {w : World} {S : Nat → Prop} {cs : List Value} {l : List s.T} (h : Rd (.slice s) w S cs l) : ∃ a c, cs = [.slice a l.length c] ∧ l.length ≤ c ∧ (a = none → l = [] ∧ c = 0) := by
  obtain ⟨a, c, rfl, h1, _, h2, _⟩ := h
  exact ⟨a, c, rfl, h1, h2⟩

theorem plan_cells {w : World} {S : Nat → Prop} {cs : List Value} {p : Plan} (h : Rd planSh w S cs p) :
    ∃ a1 c1 a2 c2 a3 c3, cs = [.int .i64 p.client, .int .u64 p.token, .string p.name, .slice a1 p.args.length c1, .int .i64 p.how, .slice a2 p.reads.length c2, .slice a3 p.writes.length c3] ∧
      Rd (.slice valueSh) w S [.slice a1 p.args.length c1] p.args ∧ Rd (.slice .str) w S [.slice a2 p.reads.length c2] p.reads ∧ Rd (.slice .str) w S [.slice a3 p.writes.length c3] p.writes ∧
      (Lit.int .i64 p.client).wf = true ∧ (Lit.int .u64 p.token).wf = true ∧ p.name.size ≤ maxLen ∧ (Lit.int .i64 p.how).wf = true := by
  obtain ⟨_, _, rfl, ⟨_, _, rfl, ⟨rfl, w1⟩, _, _, rfl, ⟨rfl, w2⟩, _, _, rfl, ⟨rfl, w3⟩, _, _, rfl, h4, rfl⟩, _, _, rfl, ⟨rfl, w5⟩, _, _, rfl, ⟨_, _, rfl, h6, _, _, rfl, h7, rfl⟩, rfl⟩ := h
  obtain ⟨a1, c1, rfl, _⟩ := Rd.sliceForm h4
  obtain ⟨a2, c2, rfl, _⟩ := Rd.sliceForm h6
  obtain ⟨a3, c3, rfl, _⟩ := Rd.sliceForm h7
  exact ⟨a1, c1, a2, c2, a3, c3, rfl, h4, h6, h7, w1, w2, w3, w5⟩

theorem plan_mk {w : World} {S : Nat → Prop} (p : Plan) {v1 v2 v3 : Value} (h1 : Rd (.slice valueSh) w S [v1] p.args) (h2 : Rd (.slice .str) w S [v2] p.reads) (h3 : Rd (.slice .str) w S [v3] p.writes)
    (w1 : (Lit.int .i64 p.client).wf = true) (w2 : (Lit.int .u64 p.token).wf = true) (w3 : p.name.size ≤ maxLen) (w4 : (Lit.int .i64 p.how).wf = true) :
    Rd planSh w S [.int .i64 p.client, .int .u64 p.token, .string p.name, v1, .int .i64 p.how, v2, v3] p :=
  ⟨[.int .i64 p.client, .int .u64 p.token, .string p.name, v1], _, rfl, ⟨[.int .i64 p.client], _, rfl, ⟨rfl, w1⟩, [.int .u64 p.token], _, rfl, ⟨rfl, w2⟩, [.string p.name], _, rfl, ⟨rfl, w3⟩, [v1], _, rfl, h1, rfl⟩,
    [.int .i64 p.how], _, rfl, ⟨rfl, w4⟩, [v2, v3], _, rfl, ⟨[v2], _, rfl, h2, [v3], _, rfl, h3, rfl⟩, rfl⟩

def Cloned (s : Sh) (e : TypeId) (w : World) (l : List s.T) (en : Ending) (w' : World) : Prop :=
  ∃ a c, en = .returned (.slice a l.length c) ∧ Own s e w' (Fr w.heap.size w'.heap.size) (.slice a l.length c) l ∧ Keep No w w'

/-- 'append([]T{}, l...)' of flat elements, whatever follows -/
theorem clone_app {P : Program} {w : World} {S : Nat → Prop} {v : Value} {s : Sh} {l : List s.T} (h : Rd (.slice s) w S [v] l) (hf : s.flat = true) (t e ty : TypeId) (i : TypeInfo) (z : Value) (bytes : Nat)
    (ht : P.underlying t = some (.slice e)) (hi : P.info? e = some i) (hz : i.zero = some z) (hsz : i.size = s.size) (hby : i.bytes = bytes) (hzs : z.cells.size = s.size) (hl : l.length ≤ 1048576) (hb : bytes ≤ 4096) :
    ∃ a c w', (Builtin.append_ #[t, t] ty #[.slice (some ⟨w.heap.size, 0, none⟩) 0 0, v]).run P (w.alloc (.cells #[] e)) = .ok (.slice a l.length c) w' ∧ Own s e w' (Fr w.heap.size w'.heap.size) (.slice a l.length c) l ∧ Keep No w w' := by
  obtain ⟨rows, hrl, hr, hsrc⟩ := Rd.rows h
  have h0 : OwnRows (w.alloc (.cells #[] e)) e s.size (.slice (some ⟨w.heap.size, 0, none⟩) 0 0) (some w.heap.size) [] :=
    ⟨fun _ h => (by cases h), .inr ⟨w.heap.size, 0, 0, #[], rfl, rfl, heap_alloc_new w _, Nat.le_refl _, Nat.zero_le _, by simp, by simp⟩⟩
  have hag : Agree S w (w.alloc (.cells #[] e)) := ((Keep.refl No w).alloc _).agreeNo
  obtain ⟨a, c, w', g', hrun, ho, hg', hk, hs⟩ := own_append h0 t t ty i z bytes ht hi hz hsz hby hzs (hsrc P t e ht _ hag) (fun r hr' => by
    obtain ⟨j, hj, rfl⟩ := List.getElem_of_mem hr'
    exact (hr j hj (by omega)).length s) (by simp; omega) (by
      simp only [List.length_nil, Nat.zero_add, hrl]
      exact Nat.le_trans (Nat.mul_le_mul hl hb) (by decide))
  simp only [List.length_nil, Nat.zero_add, hrl, List.nil_append] at hrun ho
  refine ⟨a, c, w', hrun, ?_, ((Keep.refl No w).alloc _).then hk fun k hk hg => ?_⟩
  · refine ⟨g', rows, No, ho, hrl, fun i hi hi' => Rd.ofFlat s hf (hr i hi hi'), fun b hb => ⟨?_, fun x => x⟩, fun _ x => x.elim⟩
    have := ho.lt hb
    rcases hg' with rfl | rfl
    · cases hb; exact ⟨Nat.le_refl _, this⟩
    · cases hb; exact ⟨by simp, this⟩
  · simp only [Option.some.injEq] at hg; omega

end Go.Proofs.Ytjillekahongeaa
