/-
  The shapes of the program's plain types, and how their cells read.
  What the functions of package codec compute, in plain words: bytes are a list of numbers, a reader is its five fields.
  What the functions of packages value, foot, request and seqlog compute, in plain words.
  What is written is read again, and what was read is what would be written: numbers, texts.
  A reader that sees what was written; what a reader has read.
-/
import Derived.Test.YtfgdnakfikpmpaaGreatDoorGA
import Derived.WalkKit
import Derived.WalkSpells
import Derived.WalkLawsBesides
import Derived.ProofKit
import Derived.Deep.Slices
import Derived.Deep.AppendSrc
import Derived.Lib.Hide
namespace Go.Proofs.YtfgdnakfikpmpaaGreatDoor
set_option linter.unusedVariables false
set_option linter.unusedSimpArgs false
open Go Go.RowKit Go.Deep

@[reducible] def valueSh : Sh := .struct (.cons (.int .i64) (.cons (.int .i64) (.cons .str .nil)))
@[reducible] def requestSh : Sh := .struct (.cons (.int .i64) (.cons (.int .u64) (.cons .str (.cons (.slice valueSh) .nil))))
@[reducible] def footSh : Sh := .struct (.cons (.slice .str) (.cons (.slice .str) .nil))
@[reducible] def planIn : Sh := .cons requestSh (.cons (.int .i64) (.cons footSh .nil))
@[reducible] def planSh : Sh := .struct planIn

/-- no slices inside -/
def Sh.flat : Sh → Bool
  | .int _ | .bool | .str | .nil => true
  | .slice _ => false
  | .cons a b => a.flat && b.flat
  | .struct b => b.flat

theorem Rd.ofFlat : ∀ (s : Sh), s.flat = true → ∀ {w w' : World} {S T : Nat → Prop} {cs : List Value} {x : s.T}, Rd s w S cs x → Rd s w' T cs x
  | .int _, _, _, _, _, _, _, _, h => h
  | .bool, _, _, _, _, _, _, _, h => h
  | .str, _, _, _, _, _, _, _, h => h
  | .slice _, hf, _, _, _, _, _, _, _ => by cases hf
  | .nil, _, _, _, _, _, _, _, h => h
  | .cons a b, hf, _, _, _, _, _, _, h => by
    simp only [Sh.flat, Bool.and_eq_true] at hf
    obtain ⟨c1, c2, rfl, h1, h2⟩ := h
    exact ⟨c1, c2, rfl, Rd.ofFlat a hf.1 h1, Rd.ofFlat b hf.2 h2⟩
  | .struct b, hf, _, _, _, _, _, x, h => Rd.ofFlat b hf (x := x) h

abbrev Plan := planSh.T
abbrev Plan.client (p : Plan) : Int := p.1.1
abbrev Plan.token (p : Plan) : Int := p.1.2.1
abbrev Plan.name (p : Plan) : ByteArray := p.1.2.2.1
abbrev Plan.args (p : Plan) : List valueSh.T := p.1.2.2.2.1
abbrev Plan.how (p : Plan) : Int := p.2.1
abbrev Plan.reads (p : Plan) : List ByteArray := p.2.2.1.1
abbrev Plan.writes (p : Plan) : List ByteArray := p.2.2.1.2.1

/-- a slice's value, written out -/
theorem Rd.sliceForm {s : Sh} {w : World} {S : Nat → Prop} {cs : List Value} {l : List s.T} (h : Rd (.slice s) w S cs l) : ∃ a c, cs = [.slice a l.length c] ∧ l.length ≤ c ∧ (a = none → l = [] ∧ c = 0) := by
  obtain ⟨a, c, rfl, h1, _, h2, _⟩ := h
  exact ⟨a, c, rfl, h1, h2⟩

theorem plan_cells {w : World} {S : Nat → Prop} {cs : List Value} {p : Plan} (h : Rd planSh w S cs p) :
    ∃ a1 c1 a2 c2 a3 c3, cs = [.int .i64 p.client, .int .u64 p.token, .string p.name, .slice a1 p.args.length c1, .int .i64 p.how, .slice a2 p.reads.length c2, .slice a3 p.writes.length c3] ∧
      Rd (.slice valueSh) w S [.slice a1 p.args.length c1] p.args ∧ Rd (.slice .str) w S [.slice a2 p.reads.length c2] p.reads ∧ Rd (.slice .str) w S [.slice a3 p.writes.length c3] p.writes ∧
      (Lit.int .i64 p.client).wf = true ∧ (Lit.int .u64 p.token).wf = true ∧ p.name.size ≤ maxLen ∧ (Lit.int .i64 p.how).wf = true := by
  obtain ⟨_, _, rfl, ⟨_, _, rfl, ⟨rfl, w1⟩, _, _, rfl, ⟨rfl, w2⟩, _, _, rfl, ⟨rfl, w3⟩, _, _, rfl, h4, rfl⟩, _, _, rfl, ⟨rfl, w5⟩, _, _, rfl, ⟨_, _, rfl, h6, _, _, rfl, h7, rfl⟩, rfl⟩ := h
  obtain ⟨a1, c1, rfl, _⟩ := Rd.sliceForm h4
  obtain ⟨a2, c2, rfl, _⟩ := Rd.sliceForm h6
  obtain ⟨a3, c3, rfl, _⟩ := Rd.sliceForm h7
  exact ⟨a1, c1, a2, c2, a3, c3, rfl, h4, h6, h7, w1, w2, w3, w5⟩

theorem plan_mk {w : World} {S : Nat → Prop} (p : Plan) {v1 v2 v3 : Value} (h1 : Rd (.slice valueSh) w S [v1] p.args) (h2 : Rd (.slice .str) w S [v2] p.reads) (h3 : Rd (.slice .str) w S [v3] p.writes)
    (w1 : (Lit.int .i64 p.client).wf = true) (w2 : (Lit.int .u64 p.token).wf = true) (w3 : p.name.size ≤ maxLen) (w4 : (Lit.int .i64 p.how).wf = true) :
    Rd planSh w S [.int .i64 p.client, .int .u64 p.token, .string p.name, v1, .int .i64 p.how, v2, v3] p :=
  ⟨[.int .i64 p.client, .int .u64 p.token, .string p.name, v1], _, rfl, ⟨[.int .i64 p.client], _, rfl, ⟨rfl, w1⟩, [.int .u64 p.token], _, rfl, ⟨rfl, w2⟩, [.string p.name], _, rfl, ⟨rfl, w3⟩, [v1], _, rfl, h1, rfl⟩,
    [.int .i64 p.how], _, rfl, ⟨rfl, w4⟩, [v2, v3], _, rfl, ⟨[v2], _, rfl, h2, [v3], _, rfl, h3, rfl⟩, rfl⟩

def Cloned (s : Sh) (e : TypeId) (w : World) (l : List s.T) (en : Ending) (w' : World) : Prop :=
  ∃ a c, en = .returned (.slice a l.length c) ∧ Own s e w' (Fr w.heap.size w'.heap.size) (.slice a l.length c) l ∧ Keep No w w'

/-- 'append([]T{}, l...)' of flat elements, whatever follows -/
theorem clone_app {P : Program} {w : World} {S : Nat → Prop} {v : Value} {s : Sh} {l : List s.T} (h : Rd (.slice s) w S [v] l) (hf : s.flat = true) (t e ty : TypeId) (i : TypeInfo) (z : Value) (bytes : Nat)
    (ht : P.underlying t = some (.slice e)) (hi : P.info? e = some i) (hz : i.zero = some z) (hsz : i.size = s.size) (hby : i.bytes = bytes) (hzs : z.cells.size = s.size) (hl : l.length ≤ 1048576) (hb : bytes ≤ 4096) :
    ∃ a c w', (Builtin.append_ #[t, t] ty #[.slice (some ⟨w.heap.size, 0, none⟩) 0 0, v]).run P (w.alloc (.cells #[] e)) = .ok (.slice a l.length c) w' ∧ Own s e w' (Fr w.heap.size w'.heap.size) (.slice a l.length c) l ∧ Keep No w w' := by
  obtain ⟨rows, hrl, hr, hsrc⟩ := Rd.rows h
  have h0 : OwnRows (w.alloc (.cells #[] e)) e s.size (.slice (some ⟨w.heap.size, 0, none⟩) 0 0) (some w.heap.size) [] :=
    ⟨fun _ h => (by cases h), .inr ⟨w.heap.size, 0, 0, #[], rfl, rfl, heap_alloc_new w _, Nat.le_refl _, Nat.zero_le _, by simp, by simp⟩⟩
  have hag : Agree S w (w.alloc (.cells #[] e)) := ((Keep.refl No w).alloc _).agreeNo
  obtain ⟨a, c, w', g', hrun, ho, hg', hk, hs⟩ := own_append h0 t t ty i z bytes ht hi hz hsz hby hzs (hsrc P t e ht _ hag) (fun r hr' => by
    obtain ⟨j, hj, rfl⟩ := List.getElem_of_mem hr'
    exact (hr j hj (by omega)).length s) (by simp; omega) (by
      simp only [List.length_nil, Nat.zero_add, hrl]
      exact Nat.le_trans (Nat.mul_le_mul hl hb) (by decide))
  simp only [List.length_nil, Nat.zero_add, hrl, List.nil_append] at hrun ho
  refine ⟨a, c, w', hrun, ?_, ((Keep.refl No w).alloc _).then hk fun k hk hg => ?_⟩
  · refine ⟨g', rows, No, ho, hrl, fun i hi hi' => Rd.ofFlat s hf (hr i hi hi'), fun b hb => ⟨?_, fun x => x⟩, fun _ x => x.elim⟩
    have := ho.lt hb
    rcases hg' with rfl | rfl
    · cases hb; exact ⟨Nat.le_refl _, this⟩
    · cases hb; exact ⟨by simp, this⟩
  · simp only [Option.some.injEq] at hg; omega

end Go.Proofs.YtfgdnakfikpmpaaGreatDoor

namespace Go.Proofs.YtfgdnakfikpmpaaGreatDoor
set_option linter.unusedVariables false
set_option linter.unusedSimpArgs false
open Go Go.RowKit Go.Deep

abbrev Bytes := List Int
@[reducible] def bytesSh : Sh := .slice (.int .u8)

/-- every number is a byte -/
def AllB (l : Bytes) : Prop := ∀ x ∈ l, 0 ≤ x ∧ x < 256
theorem AllB.nil : AllB [] := fun _ h => by cases h
theorem AllB.append {a b : Bytes} (h : AllB a) (k : AllB b) : AllB (a ++ b) := fun x hx => (List.mem_append.1 hx).elim (h x) (k x)
theorem AllB.cons {x : Int} {b : Bytes} (h0 : 0 ≤ x) (h1 : x < 256) (k : AllB b) : AllB (x :: b) := fun y hy => by
  rcases List.mem_cons.1 hy with rfl | hy
  · exact ⟨h0, h1⟩
  · exact k y hy
theorem AllB.drop {a : Bytes} (h : AllB a) (n : Nat) : AllB (a.drop n) := fun x hx => h x (List.mem_of_mem_drop hx)
theorem AllB.take {a : Bytes} (h : AllB a) (n : Nat) : AllB (a.take n) := fun x hx => h x (List.mem_of_mem_take hx)
theorem AllB.left {a b : Bytes} (h : AllB (a ++ b)) : AllB a := fun x hx => h x (List.mem_append_left _ hx)
theorem AllB.right {a b : Bytes} (h : AllB (a ++ b)) : AllB b := fun x hx => h x (List.mem_append_right _ hx)

/-- a text's bytes -/
def bytesOf (s : ByteArray) : Bytes := s.data.toList.map fun c => (c.toNat : Int)
/-- the text of bytes -/
def textOf (l : Bytes) : ByteArray := ⟨(l.map fun x => UInt8.ofNat x.toNat).toArray⟩

theorem bytesOf_length (s : ByteArray) : (bytesOf s).length = s.size := by
  show (s.data.toList.map _).length = s.data.size
  rw [List.length_map, Array.length_toList]
theorem textOf_size (l : Bytes) : (textOf l).size = l.length := by
  show ((l.map _).toArray).size = _
  rw [List.size_toArray, List.length_map]
theorem bytesOf_allB (s : ByteArray) : AllB (bytesOf s) := fun x hx => by
  obtain ⟨c, -, rfl⟩ := List.mem_map.1 hx
  have := c.toNat_lt
  omega
theorem textOf_bytesOf (s : ByteArray) : textOf (bytesOf s) = s := by
  have h : ∀ l : List UInt8, (l.map fun c => (c.toNat : Int)).map (fun x => UInt8.ofNat x.toNat) = l := fun l => by
    induction l with
    | nil => rfl
    | cons c l ih => rw [List.map_cons, List.map_cons, ih, Int.toNat_natCast, UInt8.ofNat_toNat]
  simp only [textOf, bytesOf, h]
theorem bytesOf_textOf {l : Bytes} (h : AllB l) : bytesOf (textOf l) = l := by
  simp only [bytesOf, textOf, List.map_map]
  conv => rhs; rw [← List.map_id l]
  apply List.map_congr_left
  intro x hx
  have := h x hx
  simp only [Function.comp_def, UInt8.toNat_ofNat']
  rw [Nat.mod_eq_of_lt (by omega)]
  simp
  omega
theorem bytesOf_inj {s t : ByteArray} (h : bytesOf s = bytesOf t) : s = t := by rw [← textOf_bytesOf s, ← textOf_bytesOf t, h]

/-- a number's bytes, at most so many more -/
def uintF : Nat → Nat → Bytes
  | 0, n => [(n : Int)]
  | f + 1, n => if n < 128 then [(n : Int)] else ((n % 128 + 128 : Nat) : Int) :: uintF f (n / 128)
def uintB (n : Nat) : Bytes := uintF 9 n
theorem uintF_length (f n : Nat) : 1 ≤ (uintF f n).length ∧ (uintF f n).length ≤ f + 1 := by
  induction f generalizing n with
  | zero => simp [uintF]
  | succ f ih => unfold uintF; split; · simp
                 have := ih (n / 128); simp; omega
theorem uintF_allB (f n : Nat) (h : n < 256 * 128 ^ f) : AllB (uintF f n) := by
  induction f generalizing n with
  | zero => simp [uintF]; exact AllB.cons (by omega) (by omega) .nil
  | succ f ih =>
    unfold uintF
    split
    · exact AllB.cons (by omega) (by omega) .nil
    · refine AllB.cons (by omega) (by omega) (ih _ ?_)
      rw [Nat.pow_succ] at h
      omega
theorem uintB_allB (n : Nat) (h : n < 2 ^ 64) : AllB (uintB n) := uintF_allB 9 n (by omega)
theorem uintB_length (n : Nat) : 1 ≤ (uintB n).length ∧ (uintB n).length ≤ 10 := uintF_length 9 n

/-- an int, as a number -/
def zig (n : Int) : Nat := if 0 ≤ n then (2 * n).toNat else (-2 * n - 1).toNat
def zag (n : Nat) : Int := if n % 2 = 0 then (n / 2 : Nat) else -((n / 2 : Nat) : Int) - 1
theorem zag_zig (n : Int) : zag (zig n) = n := by
  unfold zag zig; split <;> split <;> omega
theorem zig_zag (n : Nat) : zig (zag n) = n := by
  unfold zag zig; split <;> split <;> omega
theorem zig_lt {n : Int} (h0 : -9223372036854775808 ≤ n) (h1 : n ≤ 9223372036854775807) : zig n < 2 ^ 64 := by
  unfold zig; split <;> omega

/-- a text's bytes behind its length -/
def textB (s : ByteArray) : Bytes := uintB s.size ++ bytesOf s

/-- The number with which bytes begin; how many bytes it has; the error. -/
def numF : Nat → Nat → Nat → Bytes → Nat × Nat × Int
  | 0, _, _, _ => (0, 0, 11)
  | _ + 1, _, _, [] => (0, 0, 3)
  | f + 1, i, acc, c :: r =>
    if i = 9 ∧ 1 < c then (0, 0, 11)
    else if c < 128 then (if 0 < i ∧ c = 0 then (0, 0, 10) else (acc + (c % 128).toNat * 128 ^ i, i + 1, 0))
    else numF f (i + 1) (acc + (c % 128).toNat * 128 ^ i) r
def numB (l : Bytes) : Nat × Nat × Int := numF 10 0 0 l

/-- A reader's fields. -/
structure Rs where
  b : Bytes
  at' : Nat
  last : Nat
  err : Int
  spot : Nat

def Rs.new (b : Bytes) : Rs := ⟨b, 0, 0, 0, 0⟩
def Rs.fails (r : Rs) (e : Int) : Rs := { r with err := e, spot := r.at' }
def Rs.took (r : Rs) (n : Nat) : Rs := { r with last := r.at', at' := r.at' + n }
def Rs.rest (r : Rs) : Bytes := r.b.drop r.at'

def Rs.byte (r : Rs) : Int × Rs :=
  if r.err ≠ 0 then (0, r) else
  match r.rest with
  | [] => (0, r.fails 3)
  | c :: _ => (c, r.took 1)
def Rs.uint (r : Rs) : Nat × Rs :=
  if r.err ≠ 0 then (0, r) else
  if (numB r.rest).2.2 ≠ 0 then (0, r.fails (numB r.rest).2.2) else ((numB r.rest).1, r.took (numB r.rest).2.1)
def Rs.int (r : Rs) : Int × Rs := (zag r.uint.1, r.uint.2)
/-- a number that is at most so much, or the error -/
def limB (most : Int) (e : Int) (l : Bytes) : Nat × Nat × Int :=
  if (numB l).2.2 ≠ 0 then (0, 0, (numB l).2.2) else if most < 0 ∨ most < (numB l).1 then (0, 0, e) else ((numB l).1, (numB l).2.1, 0)
def Rs.count (most : Int) (r : Rs) : Nat × Rs :=
  if r.err ≠ 0 then (0, r) else
  if (limB most 6 r.rest).2.2 ≠ 0 then (0, r.fails (limB most 6 r.rest).2.2) else ((limB most 6 r.rest).1, r.took (limB most 6 r.rest).2.1)
def Rs.text (most : Int) (r : Rs) : ByteArray × Rs :=
  if r.err ≠ 0 then (textOf [], r) else
  if (limB most 1 r.rest).2.2 ≠ 0 then (textOf [], r.fails (limB most 1 r.rest).2.2) else
  if r.rest.length < (limB most 1 r.rest).2.1 + (limB most 1 r.rest).1 then (textOf [], r.fails 3) else
  (textOf ((r.rest.drop (limB most 1 r.rest).2.1).take (limB most 1 r.rest).1), r.took ((limB most 1 r.rest).2.1 + (limB most 1 r.rest).1))
def Rs.fail (e : Int) (r : Rs) : Rs := if r.err = 0 ∧ e ≠ 0 then { r with err := e, spot := r.last } else r
def Rs.end' (r : Rs) : Rs := if r.err = 0 ∧ r.at' < r.b.length then r.fails 4 else r
def Rs.left (r : Rs) : Nat := if r.err ≠ 0 then 0 else r.b.length - r.at'

/-- what holds of every reader -/
structure Rs.Ok (r : Rs) : Prop where
  at_le : r.at' ≤ r.b.length
  last_le : r.last ≤ r.b.length
  spot_le : r.spot ≤ r.b.length
  all : AllB r.b
  err0 : 0 ≤ r.err
  err1 : r.err < 1000

end Go.Proofs.YtfgdnakfikpmpaaGreatDoor

namespace Go.Proofs.YtfgdnakfikpmpaaGreatDoor
set_option linter.unusedVariables false
set_option linter.unusedSimpArgs false
open Go Go.RowKit Go.Deep

/-! values -/
abbrev Val := valueSh.T
abbrev Val.kind (v : Val) : Int := v.1
abbrev Val.num (v : Val) : Int := v.2.1
abbrev Val.text (v : Val) : ByteArray := v.2.2.1
def mkVal (k n : Int) (t : ByteArray) : Val := (k, n, t, ())
def noText : ByteArray := ⟨#[]⟩
def val0 : Val := mkVal 0 0 noText

def plainC (c : Int) : Bool := decide (32 ≤ c) && decide (c ≤ 126)
def plainB (s : ByteArray) : Bool := (bytesOf s).all plainC
def Val.ok (v : Val) : Bool :=
  if v.kind = 0 then decide (v.num = 0) && decide (v.text.size = 0)
  else if v.kind = 1 then decide (v.text.size = 0)
  else if v.kind = 2 then decide (v.num = 0) && decide (v.text.size ≤ 64) && plainB v.text
  else false
def Val.bytes (v : Val) : Bytes :=
  if v.ok = false then [] else if v.kind = 1 then 1 :: uintB (zig v.num) else if v.kind = 2 then 2 :: textB v.text else [0]

/-- a value, unless the reader has failed -/
def orNone (v : Val) (r : Rs) : Val × Rs := if r.err ≠ 0 then (val0, r) else (v, r)
def takeV (r : Rs) : Val × Rs :=
  if r.byte.1 = 1 then orNone (mkVal 1 r.byte.2.int.1 noText) r.byte.2.int.2
  else if r.byte.1 = 2 then
    (let t := r.byte.2.text 64
     orNone (mkVal 2 0 t.1) (if plainB t.1 then t.2 else t.2.fail 20))
  else if r.byte.1 = 0 then orNone val0 r.byte.2
  else orNone val0 (r.byte.2.fail 20)

/-! keys and footprints -/
def keyC (c : Int) : Bool := (decide (97 ≤ c) && decide (c ≤ 122)) || (decide (48 ≤ c) && decide (c ≤ 57)) || decide (c = 47) || decide (c = 58) || decide (c = 46) || decide (c = 95) || decide (c = 45)
def keyOk (s : ByteArray) : Bool := (bytesOf s).all keyC && decide (1 ≤ s.size) && decide (s.size ≤ 32)

/-- the order of texts -/
def ltT (a b : ByteArray) : Bool := Op.bytesLess a.toList b.toList
/-- laid into a rising list -/
def insT (x : ByteArray) : List ByteArray → List ByteArray
  | [] => [x]
  | y :: l => if ltT y x then y :: insT x l else if y = x then y :: l else x :: y :: l
/-- the unlike texts of a list, rising -/
def setT (l : List ByteArray) : List ByteArray := l.foldl (fun s x => insT x s) []

abbrev Fp := footSh.T
abbrev Fp.rs (f : Fp) : List ByteArray := f.1
abbrev Fp.ws (f : Fp) : List ByteArray := f.2.1
def mkFp (r w : List ByteArray) : Fp := (r, w, ())
def Fp.norm (f : Fp) : Fp × Int :=
  if (f.rs ++ f.ws).all keyOk = false then (mkFp [] [], 30)
  else if 64 < (setT (f.rs ++ f.ws)).length then (mkFp [] [], 6)
  else (mkFp (setT f.rs) (setT f.ws), 0)
def Fp.normal (f : Fp) : Bool := decide (f.norm.2 = 0) && decide (f.norm.1.rs = f.rs) && decide (f.norm.1.ws = f.ws)
/-- is a text in a list? -/
def hasT (l : List ByteArray) (k : ByteArray) : Bool := l.any fun x => decide (x = k)
theorem hasT_iff (l : List ByteArray) (k : ByteArray) : hasT l k = true ↔ k ∈ l := by simp [hasT]
/-- how a text is used -/
def Fp.use (f : Fp) (k : ByteArray) : Int := (if hasT f.rs k then 1 else 0) + (if hasT f.ws k then 2 else 0)
def Fp.body (f : Fp) (l : List ByteArray) : Bytes := l.flatMap fun k => textB k ++ [f.use k]
def Fp.bytes (f : Fp) : Bytes := uintB (setT (f.rs ++ f.ws)).length ++ f.body (setT (f.rs ++ f.ws))

/-- the keys of bytes: so many still to come; what came, the last one -/
def keysF : Nat → Fp → ByteArray → Rs → Fp × Rs
  | 0, f, _, r => (f, r)
  | n + 1, f, last, r =>
    let k := r.text 32
    let r1 := if keyOk k.1 then k.2 else k.2.fail 30
    let r2 := if ltT last k.1 then r1 else r1.fail 31
    let u := r2.byte
    let r3 := if 1 ≤ u.1 ∧ u.1 ≤ 3 then u.2 else u.2.fail 31
    keysF n (mkFp (if u.1 % 2 = 1 then f.rs ++ [k.1] else f.rs) (if 2 ≤ u.1 % 4 then f.ws ++ [k.1] else f.ws)) k.1 r3
def footGet (b : Bytes) : Fp × Nat × Int :=
  let c := (Rs.new b).count 64
  let x := keysF c.1 (mkFp [] []) noText c.2
  if x.2.err ≠ 0 then (mkFp [] [], 0, x.2.err) else (x.1, x.2.at', 0)

/-! requests -/
def nameOk (s : ByteArray) : Bool :=
  (match bytesOf s with
   | [] => false
   | c :: l => decide (97 ≤ c) && decide (c ≤ 122) && l.all fun c => (decide (97 ≤ c) && decide (c ≤ 122)) || decide (c = 95) || (decide (48 ≤ c) && decide (c ≤ 57))) && decide (s.size ≤ 16)

abbrev Req := requestSh.T
abbrev Req.client (q : Req) : Int := q.1
abbrev Req.token (q : Req) : Int := q.2.1
abbrev Req.name (q : Req) : ByteArray := q.2.2.1
abbrev Req.args (q : Req) : List Val := q.2.2.2.1
def mkReq (c t : Int) (n : ByteArray) (a : List Val) : Req := (c, t, n, a, ())
def req0 : Req := mkReq 0 0 noText []
def givenV (v : Val) : Bool := v.ok && decide (v.kind ≠ 0)
def Req.check (q : Req) : Int :=
  if q.client < 0 ∨ 64 ≤ q.client then 2
  else if nameOk q.name = false then 90
  else if 8 < q.args.length then 6
  else if q.args.all givenV = false then 91
  else 0
def Req.bytes (q : Req) : Bytes := uintB q.client.toNat ++ uintB q.token.toNat ++ textB q.name ++ uintB q.args.length ++ q.args.flatMap Val.bytes

/-- values to come: the place of one that is nothing, or the values and the reader -/
def argsF : Nat → List Val → Rs → (List Val × Rs) ⊕ Nat
  | 0, l, r => .inl (l, r)
  | n + 1, l, r =>
    if (takeV r).2.err = 0 ∧ (takeV r).1.kind = 0 then .inr r.at'
    else argsF n (l ++ [(takeV r).1]) (takeV r).2
def reqGet (b : Bytes) : Req × Int × Nat :=
  if 1024 < b.length then (req0, 1, 0) else
  let c := (Rs.new b).count 63
  let t := c.2.uint
  let n := t.2.text 16
  let r := if nameOk n.1 then n.2 else n.2.fail 90
  let k := r.count 8
  match argsF k.1 [] k.2 with
  | .inr at' => (req0, 91, at')
  | .inl (l, r) => if r.end'.err ≠ 0 then (req0, r.end'.err, r.end'.spot) else (mkReq c.1 t.1 n.1 l, 0, 0)

end Go.Proofs.YtfgdnakfikpmpaaGreatDoor

namespace Go.Proofs.YtfgdnakfikpmpaaGreatDoor
set_option linter.unusedVariables false
set_option linter.unusedSimpArgs false
open Go Go.RowKit Go.Deep

theorem numF_uintF (f i acc n : Nat) (r : Bytes) (hi : f + i = 9) (hn : n < 2 * 128 ^ f) (h0 : 0 < i → 0 < n) :
    numF (f + 1) i acc (uintF f n ++ r) = (acc + n * 128 ^ i, i + (uintF f n).length, 0) := by
  induction f generalizing i acc n with
  | zero =>
    have : i = 9 := by omega
    subst this
    have h1 : n < 2 := by simpa using hn
    have h2 : 0 < n := h0 (by omega)
    have : n = 1 := by omega
    subst this
    simp [numF, uintF]
  | succ f ih =>
    unfold uintF
    split
    · rename_i hlt
      have e1 : ((n : Int) % 128).toNat = n := by omega
      have hi9 : ¬ i = 9 := by omega
      simp only [List.singleton_append, numF, hi9, false_and, if_false, List.length_singleton, e1]
      rw [if_pos (by omega), if_neg (by intro h; have := h0 h.1; omega)]
    · rename_i hlt
      have e1 : (((n % 128 + 128 : Nat) : Int) % 128).toNat = n % 128 := by omega
      have hi9 : ¬ i = 9 := by omega
      rw [List.cons_append]
      unfold numF
      rw [if_neg (by simp [hi9]), if_neg (by omega), e1]
      have hp : n < 2 * (128 ^ f * 128) := by rw [← Nat.pow_succ]; exact hn
      rw [ih (i + 1) _ (n / 128) (by omega) (by omega) (fun _ => by omega)]
      refine Prod.ext ?_ (Prod.ext ?_ rfl)
      · show acc + n % 128 * 128 ^ i + n / 128 * 128 ^ (i + 1) = acc + n * 128 ^ i
        rw [Nat.pow_succ, Nat.add_assoc]
        congr 1
        rw [Nat.mul_comm (128 ^ i) 128, ← Nat.mul_assoc, ← Nat.add_mul]
        congr 1
        omega
      · show i + 1 + _ = i + (_ :: _).length
        simp; omega
theorem numB_uintB (n : Nat) (r : Bytes) (hn : n < 2 ^ 64) : numB (uintB n ++ r) = (n, (uintB n).length, 0) := by
  unfold numB uintB
  rw [numF_uintF 9 0 0 n r rfl (by simpa using hn) (by omega)]
  simp

theorem numF_ok (f i acc : Nat) (l : Bytes) (hi : f + i = 9) (hl : AllB l) (hz : (numF (f + 1) i acc l).2.2 = 0) :
    ∃ n, (numF (f + 1) i acc l).1 = acc + n * 128 ^ i ∧ (numF (f + 1) i acc l).2.1 = i + (uintF f n).length ∧ l = uintF f n ++ l.drop (uintF f n).length ∧ n < 2 * 128 ^ f ∧ (0 < i → 0 < n) := by
  induction f generalizing i acc l with
  | zero =>
    have : i = 9 := by omega
    subst this
    cases l with
    | nil => simp [numF] at hz
    | cons c r =>
      have hc := hl c List.mem_cons_self
      simp only [numF, true_and] at hz ⊢
      by_cases h1 : 1 < c
      · rw [if_pos h1] at hz; simp at hz
      · rw [if_neg h1, if_pos (by omega)] at hz ⊢
        by_cases h2 : c = 0
        · subst h2; simp at hz
        · have : c = 1 := by omega
          subst this
          exact ⟨1, by simp, by simp [uintF], by simp [uintF], by omega, by omega⟩
  | succ f ih =>
    cases l with
    | nil => simp [numF] at hz
    | cons c r =>
      have hc := hl c List.mem_cons_self
      have hi9 : ¬ i = 9 := by omega
      unfold numF at hz ⊢
      rw [if_neg (by simp [hi9])] at hz ⊢
      by_cases h1 : c < 128
      · rw [if_pos h1] at hz ⊢
        by_cases h2 : 0 < i ∧ c = 0
        · rw [if_pos h2] at hz; simp at hz
        · rw [if_neg h2] at hz ⊢
          refine ⟨c.toNat, ?_, ?_, ?_, ?_, ?_⟩
          · have : (c % 128).toNat = c.toNat := by omega
            rw [this]
          · unfold uintF; rw [if_pos (by omega)]; simp
          · unfold uintF; rw [if_pos (by omega)]; simp; omega
          · have : 1 ≤ 128 ^ f := Nat.pos_of_ne_zero (by simp)
            rw [Nat.pow_succ]
            omega
          · omega
      · rw [if_neg h1] at hz ⊢
        obtain ⟨n, e1, e2, e3, e4, e5⟩ := ih (i + 1) _ r (by omega) (fun x hx => hl x (List.mem_cons_of_mem _ hx)) hz
        have hn : 0 < n := e5 (by omega)
        have hu : uintF (f + 1) (n * 128 + (c % 128).toNat) = c :: uintF f n := by
          conv => lhs; unfold uintF
          rw [if_neg (by omega)]
          congr 1
          · omega
          · congr 1; omega
        refine ⟨n * 128 + (c % 128).toNat, ?_, ?_, ?_, ?_, by omega⟩
        · rw [e1, Nat.pow_succ, Nat.add_assoc]
          congr 1
          rw [Nat.mul_comm (128 ^ i) 128, ← Nat.mul_assoc, Nat.add_comm, ← Nat.add_mul]
        · rw [e2, hu]; simp; omega
        · rw [hu]
          simp only [List.cons_append, List.length_cons, List.drop_succ_cons]
          rw [← e3]
        · rw [Nat.pow_succ]
          omega
theorem numB_ok {l : Bytes} (hl : AllB l) (hz : (numB l).2.2 = 0) : (numB l).1 < 2 ^ 64 ∧ (numB l).2.1 = (uintB (numB l).1).length ∧ l = uintB (numB l).1 ++ l.drop (numB l).2.1 := by
  obtain ⟨n, e1, e2, e3, e4, -⟩ := numF_ok 9 0 0 l rfl hl hz
  have e1' : (numB l).1 = n := by simpa [numB] using e1
  have e2' : (numB l).2.1 = (uintF 9 n).length := by simpa [numB] using e2
  rw [e1', e2']
  exact ⟨by simpa using e4, rfl, e3⟩

end Go.Proofs.YtfgdnakfikpmpaaGreatDoor

namespace Go.Proofs.YtfgdnakfikpmpaaGreatDoor
set_option linter.unusedVariables false
set_option linter.unusedSimpArgs false
open Go Go.RowKit Go.Deep

theorem bytesOf_nil : bytesOf noText = [] := rfl
theorem textOf_nil : textOf [] = noText := rfl

structure Rs.Sees (r : Rs) (t : Bytes) : Prop where
  err : r.err = 0
  rest : r.rest = t

theorem Rs.took_rest (r : Rs) (n : Nat) : (r.took n).rest = r.rest.drop n := by
  simp [Rs.took, Rs.rest, List.drop_drop]
theorem Rs.Sees.took {r : Rs} {a t : Bytes} (h : r.Sees (a ++ t)) : (r.took a.length).Sees t := ⟨h.err, by rw [Rs.took_rest, h.rest, List.drop_left]⟩
theorem Rs.Sees.at_eq {r : Rs} {t : Bytes} (h : r.Sees t) (ha : r.at' ≤ r.b.length) : r.at' + t.length = r.b.length := by
  have := congrArg List.length h.rest
  simp [Rs.rest] at this
  omega

theorem sees_new (b : Bytes) : (Rs.new b).Sees b := ⟨rfl, rfl⟩
theorem sees_byte {r : Rs} {c : Int} {t : Bytes} (h : r.Sees (c :: t)) : r.byte.1 = c ∧ r.byte.2.Sees t ∧ r.byte = (c, r.took 1) := by
  have e : r.byte = (c, r.took 1) := by
    unfold Rs.byte
    rw [if_neg (by rw [h.err]; simp), h.rest]
  rw [e]
  exact ⟨rfl, Rs.Sees.took (a := [c]) h, rfl⟩
theorem sees_uint {r : Rs} {n : Nat} {t : Bytes} (h : r.Sees (uintB n ++ t)) (hn : n < 2 ^ 64) : r.uint = (n, r.took (uintB n).length) ∧ r.uint.2.Sees t := by
  have e : r.uint = (n, r.took (uintB n).length) := by
    unfold Rs.uint
    rw [if_neg (by rw [h.err]; simp), h.rest, numB_uintB n t hn]
    simp
  rw [e]
  exact ⟨rfl, h.took⟩
theorem sees_int {r : Rs} {n : Int} {t : Bytes} (h : r.Sees (uintB (zig n) ++ t)) (h0 : -9223372036854775808 ≤ n) (h1 : n ≤ 9223372036854775807) : r.int = (n, r.took (uintB (zig n)).length) ∧ r.int.2.Sees t := by
  have := sees_uint h (zig_lt h0 h1)
  unfold Rs.int
  rw [this.1, zag_zig]
  exact ⟨rfl, by have := this.2; rwa [(sees_uint h (zig_lt h0 h1)).1] at this⟩
theorem limB_uintB (most : Nat) (e : Int) (n : Nat) (t : Bytes) (hn : n < 2 ^ 64) (hm : n ≤ most) : limB most e (uintB n ++ t) = (n, (uintB n).length, 0) := by
  unfold limB
  rw [numB_uintB n t hn]
  simp
  omega
theorem sees_count {r : Rs} {n : Nat} {t : Bytes} {most : Nat} (h : r.Sees (uintB n ++ t)) (hn : n < 2 ^ 64) (hm : n ≤ most) : r.count most = (n, r.took (uintB n).length) ∧ (r.count most).2.Sees t := by
  have e : r.count most = (n, r.took (uintB n).length) := by
    unfold Rs.count
    rw [if_neg (by rw [h.err]; simp), h.rest, limB_uintB most 6 n t hn hm]
    simp
  rw [e]
  exact ⟨rfl, h.took⟩
theorem sees_text {r : Rs} {s : ByteArray} {t : Bytes} {most : Nat} (h : r.Sees (textB s ++ t)) (hn : s.size < 2 ^ 64) (hm : s.size ≤ most) : r.text most = (s, r.took (textB s).length) ∧ (r.text most).2.Sees t := by
  have e : r.text most = (s, r.took (textB s).length) := by
    unfold Rs.text
    rw [if_neg (by rw [h.err]; simp), h.rest]
    have : textB s ++ t = uintB s.size ++ (bytesOf s ++ t) := by simp [textB]
    rw [this, limB_uintB most 1 s.size _ hn hm]
    simp only [ne_eq, not_true_eq_false, if_false]
    rw [if_neg (by simp [bytesOf_length]), List.drop_left]
    refine Prod.ext ?_ ?_
    · show textOf _ = s
      rw [← bytesOf_length, List.take_left, textOf_bytesOf]
    · show r.took _ = r.took _
      congr 1
      simp [textB, bytesOf_length]
  rw [e]
  exact ⟨rfl, h.took⟩

/-! what was read -/
/-- r came to r' over the bytes x, if r' has not failed -/
structure Rs.Over (r r' : Rs) (x : Bytes) : Prop where
  b : r'.b = r.b
  ok : r.Ok → r'.Ok
  err : r.err ≠ 0 → r'.err ≠ 0
  over : r.Ok → r'.err = 0 → r.rest = x ++ r'.rest

theorem Rs.Ok.fails {r : Rs} (h : r.Ok) {e : Int} (h0 : 0 ≤ e) (h1 : e < 1000) : (r.fails e).Ok := ⟨h.at_le, h.last_le, h.at_le, h.all, h0, h1⟩
theorem Rs.Ok.took {r : Rs} (h : r.Ok) {n : Nat} (hn : n ≤ r.rest.length) : (r.took n).Ok := by
  simp [Rs.rest] at hn
  have := h.at_le
  exact ⟨by show r.at' + n ≤ r.b.length; omega, h.at_le, h.spot_le, h.all, h.err0, h.err1⟩
theorem Rs.Ok.rest {r : Rs} (h : r.Ok) : AllB r.rest := h.all.drop _
theorem Rs.Ok.fail {r : Rs} (h : r.Ok) {e : Int} (h0 : 0 ≤ e) (h1 : e < 1000) : (r.fail e).Ok := by
  unfold Rs.fail; split
  · exact ⟨h.at_le, h.last_le, h.last_le, h.all, h0, h1⟩
  · exact h
theorem Rs.Ok.end' {r : Rs} (h : r.Ok) : r.end'.Ok := by
  unfold Rs.end'; split
  · exact h.fails (by omega) (by omega)
  · exact h
theorem Rs.Ok.new {b : Bytes} (h : AllB b) : (Rs.new b).Ok := ⟨by simp [Rs.new], by simp [Rs.new], by simp [Rs.new], h, by simp [Rs.new], by simp [Rs.new]⟩
theorem Rs.took_err (r : Rs) (n : Nat) : (r.took n).err = r.err := rfl
theorem Rs.Over.refl (r : Rs) : r.Over r [] := ⟨rfl, id, id, fun _ _ => rfl⟩
theorem Rs.Over.trans {r s t : Rs} {x y : Bytes} (h : r.Over s x) (k : s.Over t y) : r.Over t (x ++ y) :=
  ⟨k.b.trans h.b, fun o => k.ok (h.ok o), fun e => k.err (h.err e), fun o e => by
    have hs : s.err = 0 := Classical.byContradiction fun he => k.err he e
    rw [h.over o hs, k.over (h.ok o) e, List.append_assoc]⟩
theorem Rs.Over.fail (r : Rs) {e : Int} (h0 : 0 ≤ e) (h1 : e < 1000) : r.Over (r.fail e) [] :=
  ⟨by unfold Rs.fail; split <;> rfl, fun o => o.fail h0 h1, fun he => by unfold Rs.fail; rw [if_neg (fun h => he h.1)]; exact he,
   fun o he => by
    unfold Rs.fail at he ⊢
    split
    · rename_i h; rw [if_pos h] at he; exact absurd he h.2
    · rfl⟩
theorem Rs.fail_err {r : Rs} {e : Int} (he : e ≠ 0) (h : (r.fail e).err = 0) : False := by
  unfold Rs.fail at h; split at h
  · exact he h
  · rename_i hh; exact hh ⟨h, he⟩

theorem numF_len (f i acc : Nat) (l : Bytes) : (numF f i acc l).2.2 = 0 → (numF f i acc l).2.1 ≤ i + l.length := by
  induction f generalizing i acc l with
  | zero => simp [numF]
  | succ f ih =>
    cases l with
    | nil => simp [numF]
    | cons c r =>
      unfold numF
      split
      · simp
      · split
        · split
          · simp
          · simp
        · intro h; have := ih _ _ _ h; simp at this ⊢; omega
theorem numF_err (f i acc : Nat) (l : Bytes) : (numF f i acc l).2.2 = 0 ∨ (numF f i acc l).2.2 = 3 ∨ (numF f i acc l).2.2 = 10 ∨ (numF f i acc l).2.2 = 11 := by
  induction f generalizing i acc l with
  | zero => simp [numF]
  | succ f ih =>
    cases l with
    | nil => simp [numF]
    | cons c r =>
      unfold numF
      split
      · simp
      · split
        · split <;> simp
        · exact ih _ _ _
theorem numB_len (l : Bytes) (h : (numB l).2.2 = 0) : (numB l).2.1 ≤ l.length := by
  have := numF_len 10 0 0 l h
  simpa [numB] using this
theorem numB_err (l : Bytes) : (numB l).2.2 = 0 ∨ (numB l).2.2 = 3 ∨ (numB l).2.2 = 10 ∨ (numB l).2.2 = 11 := numF_err 10 0 0 l

theorem Rs.Over.of_took {r : Rs} {n : Nat} {x : Bytes} (he : r.err = 0) (hn : r.Ok → n ≤ r.rest.length) (hx : r.Ok → r.rest = x ++ r.rest.drop n) : r.Over (r.took n) x :=
  ⟨rfl, fun o => o.took (hn o), fun e => absurd he e, fun o _ => by rw [Rs.took_rest]; exact hx o⟩
theorem Rs.Over.of_fails {r : Rs} {e : Int} {x : Bytes} (h0 : 0 < e) (h1 : e < 1000) : r.Over (r.fails e) x :=
  ⟨rfl, fun o => o.fails (by omega) h1, fun _ h => by have : e = 0 := h; omega, fun _ h => by have : e = 0 := h; omega⟩
theorem Rs.Over.of_bad {r : Rs} {x : Bytes} (he : r.err ≠ 0) : r.Over r x := ⟨rfl, id, id, fun _ h => absurd h he⟩

theorem over_byte (r : Rs) : r.Over r.byte.2 [r.byte.1] := by
  unfold Rs.byte
  split
  · rename_i h; exact .of_bad h
  · rename_i h
    split
    · exact .of_fails (by omega) (by omega)
    · rename_i c t ht
      exact .of_took (by simpa using h) (fun _ => by rw [ht]; simp) (fun _ => by rw [ht]; simp)
theorem over_uint (r : Rs) : r.Over r.uint.2 (uintB r.uint.1) := by
  unfold Rs.uint
  split
  · rename_i h; exact .of_bad h
  · rename_i h
    split
    · rename_i he
      have := numB_err r.rest
      exact .of_fails (by omega) (by omega)
    · rename_i he
      have he : (numB r.rest).2.2 = 0 := by simpa using he
      refine .of_took (by simpa using h) (fun o => numB_len _ he) (fun o => ?_)
      exact (numB_ok o.rest he).2.2
theorem uint_lt {r : Rs} (h : r.Ok) : r.uint.1 < 2 ^ 64 := by
  unfold Rs.uint
  split
  · simp
  · split
    · simp
    · rename_i he
      exact (numB_ok h.rest (by simpa using he)).1
theorem over_int (r : Rs) : r.Over r.int.2 (uintB (zig r.int.1)) := by
  unfold Rs.int
  rw [zig_zag]
  exact over_uint r
theorem int_lt {r : Rs} (h : r.Ok) : -9223372036854775808 ≤ r.int.1 ∧ r.int.1 ≤ 9223372036854775807 := by
  have := uint_lt h
  unfold Rs.int zag
  split <;> constructor <;> simp only [] <;> omega
theorem limB_ok {most e : Int} {l : Bytes} (h : (limB most e l).2.2 = 0) (he : e ≠ 0) : (numB l).2.2 = 0 ∧ (limB most e l).1 = (numB l).1 ∧ (limB most e l).2.1 = (numB l).2.1 ∧ ((limB most e l).1 : Int) ≤ most := by
  unfold limB at h ⊢
  split at h
  · rename_i h1; exact absurd h h1
  · rename_i h1
    split at h
    · exact absurd h he
    · rename_i h2
      rw [if_neg h1, if_neg h2]
      exact ⟨by simpa using h1, rfl, rfl, by omega⟩
theorem limB_err {most e : Int} (l : Bytes) (h0 : 0 < e) (h1 : e < 1000) : 0 ≤ (limB most e l).2.2 ∧ (limB most e l).2.2 < 1000 := by
  unfold limB
  have := numB_err l
  split
  · constructor <;> simp only [] <;> omega
  · split <;> constructor <;> simp only [] <;> omega
theorem over_count (r : Rs) (most : Int) : r.Over (r.count most).2 (uintB (r.count most).1) := by
  unfold Rs.count
  split
  · rename_i h; exact .of_bad h
  · rename_i h
    split
    · rename_i he
      have := limB_err (most := most) r.rest (e := 6) (by omega) (by omega)
      exact .of_fails (by omega) this.2
    · rename_i he
      have he : (limB most 6 r.rest).2.2 = 0 := by simpa using he
      obtain ⟨e1, e2, e3, -⟩ := limB_ok he (by omega)
      refine .of_took (by simpa using h) (fun o => by rw [e3]; exact numB_len _ e1) (fun o => ?_)
      show r.rest = uintB (limB most 6 r.rest).1 ++ r.rest.drop (limB most 6 r.rest).2.1
      rw [e2, e3]
      exact (numB_ok o.rest e1).2.2
theorem count_le (r : Rs) (most : Nat) : (r.count most).1 ≤ most := by
  unfold Rs.count
  split
  · simp
  · split
    · simp
    · rename_i he
      obtain ⟨-, -, -, h⟩ := limB_ok (most := most) (e := 6) (l := r.rest) (by simpa using he) (by omega)
      simp only []
      omega
theorem over_text (r : Rs) (most : Int) (h63 : r.b.length < 2 ^ 64) : r.Over (r.text most).2 (textB (r.text most).1) := by
  unfold Rs.text
  split
  · rename_i h; exact .of_bad h
  · rename_i h
    split
    · rename_i he
      have := limB_err (most := most) r.rest (e := 1) (by omega) (by omega)
      exact .of_fails (by omega) this.2
    · rename_i he
      have he : (limB most 1 r.rest).2.2 = 0 := by simpa using he
      obtain ⟨e1, e2, e3, -⟩ := limB_ok he (by omega)
      split
      · exact .of_fails (by omega) (by omega)
      · rename_i hl
        refine .of_took (by simpa using h) (fun o => by omega) (fun o => ?_)
        have hsz : (textOf ((r.rest.drop (limB most 1 r.rest).2.1).take (limB most 1 r.rest).1)).size = (limB most 1 r.rest).1 := by
          rw [textOf_size, List.length_take, List.length_drop]; omega
        show r.rest = textB (textOf _) ++ r.rest.drop _
        unfold textB
        rw [hsz, bytesOf_textOf ((o.rest.drop _).take _), ← List.drop_drop, List.append_assoc, List.take_append_drop, e2, e3]
        exact (numB_ok o.rest e1).2.2
theorem text_le (r : Rs) (most : Nat) : (r.text most).1.size ≤ most := by
  unfold Rs.text
  split
  · rw [textOf_size]; simp
  · split
    · rw [textOf_size]; simp
    · rename_i he
      obtain ⟨-, -, -, h⟩ := limB_ok (most := most) (e := 1) (l := r.rest) (by simpa using he) (by omega)
      split
      · rw [textOf_size]; simp
      · rw [textOf_size, List.length_take]; omega

end Go.Proofs.YtfgdnakfikpmpaaGreatDoor
