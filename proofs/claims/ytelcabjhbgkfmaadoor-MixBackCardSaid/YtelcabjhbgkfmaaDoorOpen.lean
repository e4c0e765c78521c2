/- Arguments opened: strings, structs, slices of anything, over any program. -/
import Derived.Test.YtelcabjhbgkfmaaDoorBase
import Derived.ProofKit
import Derived.OpenShut
import Derived.ShutString
import Derived.ChangeOld
import Derived.SizedLaws
import Derived.Deep.Slices
import Derived.Deep.Fields
import Derived.Lib.SmallJoins
namespace Go.Proofs.YtelcabjhbgkfmaaDoor
set_option linter.unusedVariables false
open Go.ChangeShapes Go.WideShapes Go.ChangeAt Go.RowKit Go.Deep Go.Joins

section
variable {H : Type} {enc : TypeId × Value → H} {P : Program} {w : World} {base : Nat} {spare : Nat → Bool} {held : Bool}

theorem block_lt_of_cell {a : Addr} {u : Value} (h : w.cell? a = some u) : a.block < w.heap.size := by
  rcases Nat.lt_or_ge a.block w.heap.size with hl | hl
  · exact hl
  · simp [World.cell?, Array.getElem?_eq_none hl] at h

theorem block_lt_of_cells {a : Addr} {C : Nat} {cs : List Value} (hC : 0 < C) (h : w.cells? base a C = some cs) : a.block < w.heap.size := by
  obtain ⟨_, hl, hat⟩ := World.cells?_some h
  have h0 := hat 0 hC
  rw [List.getElem?_eq_getElem (by omega)] at h0
  have := block_lt_of_cell h0
  rwa [blk_add] at this

theorem flat_get {τ : Type} (f : τ → List Value) (C : Nat) (hlen : ∀ y, (f y).length = C) : ∀ (ys : List τ) (j : Nat) (u : Value), (ys.flatMap f)[j]? = some u → ∃ i r y, i < ys.length ∧ r < C ∧ j = i * C + r ∧ ys[i]? = some y ∧ (f y)[r]? = some u
  | [], j, u, h => by simp at h
  | y :: ys, j, u, h => by
    rw [List.flatMap_cons] at h
    by_cases hj : j < C
    · rw [List.getElem?_append_left (by rw [hlen]; exact hj)] at h
      exact ⟨0, j, y, by simp, hj, by simp, by simp, h⟩
    · rw [List.getElem?_append_right (by rw [hlen]; omega), hlen] at h
      obtain ⟨i, r, z, hi, hr, he, hz, hu⟩ := flat_get f C hlen ys (j - C) u h
      refine ⟨i + 1, r, z, by simpa using hi, hr, ?_, by simpa using hz, hu⟩
      rw [Nat.add_mul]; omega

theorem flat_len {τ : Type} (f : τ → List Value) (C : Nat) (hlen : ∀ y, (f y).length = C) (ys : List τ) : (ys.flatMap f).length = ys.length * C := by
  induction ys with
  | nil => simp
  | cons y ys ih => rw [List.flatMap_cons, List.length_append, ih, hlen, List.length_cons, Nat.add_mul]; omega

/-- ANY SLICE: each element decoded by 'dec'. -/
theorem open_rd {τ : Type} [Inhabited τ] (C : Nat) (hC0 : 0 < C) (f : τ → List Value) (good : τ → Prop) (hlen : ∀ y, (f y).length = C) {t e : TypeId} (ht : P.underlying t = some (.slice e)) (hC : P.cellsOf e = C)
    (dec : ∀ n cs x, DataW.trod enc P w 0 spare held n e cs = some x → ∃ y, cs = f y ∧ good y)
    {r : Reach} {b0 : Nat} {v : Value} {d : DataW H} {p : List MemPlace} (hv : Value.okWide P w r b0 t v) (h : DataW.Trod enc P w 0 spare held t v d p) :
    ∃ (A : Option Addr) (n c : Nat) (ys : List τ), v = .slice A n c ∧ ys.length = n ∧ c ≤ maxLen ∧ Rd w C A n c (ys.flatMap f) ∧ ∀ y ∈ ys, good y := by
  obtain ⟨a0, len, cap, rfl⟩ := okWide_slice ht hv
  obtain ⟨fuel, hf⟩ := h
  rcases open_slice ht hf with ⟨hcs, _⟩ | ⟨a, len', cap', m, n, D, Pl, hcs, _, hl, hm, hmm, _, hi⟩
  · simp [Value.cells] at hcs
    obtain ⟨rfl, rfl, rfl⟩ := hcs
    exact ⟨none, 0, 0, [], rfl, rfl, Nat.zero_le _, Rd.nil _ _ _ _, by simp⟩
  · simp [Value.cells] at hcs
    obtain ⟨rfl, rfl, rfl⟩ := hcs
    have hlm : len ≤ m := by rw [hmm]; split <;> omega
    have key : ∀ i, i < len → ∃ y : τ, w.cells? 0 (a.add (i * C)) C = some (f y) ∧ good y := fun i hil => by
      obtain ⟨cs', h1, h2⟩ := hi i (by omega)
      obtain ⟨y, rfl, hy⟩ := dec _ _ _ h2
      rw [hC] at h1
      exact ⟨y, h1, hy⟩
    obtain ⟨F, hF⟩ := choose_lt key
    refine ⟨some a, len, cap, (List.range len).map F, rfl, by simp, hm, ⟨?_, hl, fun hn => ?_⟩, ?_⟩
    · rw [flat_len f C hlen]; simp
    · refine ⟨a, rfl, ?_, fun j u hu => ?_⟩
      · have := block_lt_of_cells hC0 (hF 0 hn).1
        rwa [blk_add] at this
      · obtain ⟨i, r, y, hil, hr, rfl, hy, hru⟩ := flat_get f C hlen _ _ _ hu
        simp at hil
        have hyF : y = F i := by
          rw [List.getElem?_map, List.getElem?_range (by omega)] at hy
          simpa using hy.symm
        subst hyF
        obtain ⟨_, _, hat⟩ := World.cells?_some (hF i hil).1
        rw [← add_add', hat r hr, hru]
    · intro y hy
      obtain ⟨i, hi1, rfl⟩ := List.mem_map.1 hy
      exact (hF i (List.mem_range.1 hi1)).2

/-- one-cell fields of a struct's cells, by index -/
theorem fields_of {t : TypeId} {fs : Array Field} {fuel : Nat} {cs : List Value} {x : DataW H × List MemPlace} (ht : P.underlying t = some (.struct fs)) (hone : oneCellFields P fs = true) (hC : P.cellsOf t = fs.size)
    (h : DataW.trod enc P w base spare held fuel t cs = some x) : cs.length = fs.size ∧ ∃ n, ∀ (j : Nat) (f : Field), fs[j]? = some f → ∃ v y, cs[j]? = some v ∧ DataW.trod enc P w base spare held n f.type [v] = some y := by
  obtain ⟨ys, n, _, _, hlen, hyl, hf⟩ := DataW.trod_struct ht h
  rw [hC] at hlen
  refine ⟨hlen, n, fun j f hj => ?_⟩
  obtain ⟨ho, hk⟩ := hone_of hone j f hj
  have hjl : j < fs.size := (Array.getElem?_eq_some_iff.1 hj).1
  have h1 := hf j f hj
  rw [ho, hk] at h1
  have h2 : (cs.drop j).take 1 = [cs[j]'(by omega)] := by
    rw [List.drop_eq_getElem_cons (by omega)]
    rfl
  rw [h2, List.getElem?_eq_getElem (by omega)] at h1
  exact ⟨_, _, List.getElem?_eq_getElem (by omega), h1⟩

/-! ### The element types of this project, each at its own numbers -/
theorem dec_int {e : TypeId} {n : Nat} {cs : List Value} {x : DataW H × List MemPlace} (he : P.underlying e = some (.int .i64)) (h : DataW.trod enc P w base spare held n e cs = some x) : ∃ z : Int, cs = [.int .i64 z] ∧ (Lit.int .i64 z).wf = true := by
  obtain ⟨z, h1, _, h3⟩ := DataW.trod_int he h
  exact ⟨z, h1, h3⟩
theorem dec_str {e : TypeId} {n : Nat} {cs : List Value} {x : DataW H × List MemPlace} (he : P.underlying e = some .string) (h : DataW.trod enc P w base spare held n e cs = some x) : ∃ s : ByteArray, cs = [.string s] ∧ s.size ≤ maxLen := by
  obtain ⟨s, h1, _, h3⟩ := DataW.trod_string he h
  exact ⟨s, h1, h3⟩
end

/-- an entry: its time, its data -/
structure Ent where
  time : Int
  data : ByteArray
instance : Inhabited Ent := ⟨⟨0, ByteArray.empty⟩⟩
def Ent.cells (e : Ent) : List Value := [.int .i64 e.time, .string e.data]
abbrev Ent.val (e : Ent) : Value := .agg #[.int .i64 e.time, .string e.data]
def Ent.good (e : Ent) : Prop := (Lit.int .i64 e.time).wf = true ∧ e.data.size ≤ maxLen
/-- a pair -/
structure Pr where
  key : ByteArray
  value : ByteArray
  gone : Bool
instance : Inhabited Pr := ⟨⟨ByteArray.empty, ByteArray.empty, false⟩⟩
def Pr.cells (p : Pr) : List Value := [.string p.key, .string p.value, .bool p.gone]
abbrev Pr.val (p : Pr) : Value := .agg #[.string p.key, .string p.value, .bool p.gone]
def Pr.good (p : Pr) : Prop := p.key.size ≤ maxLen ∧ p.value.size ≤ maxLen
/-- a head -/
structure Hd where
  size : Int
  root : Int
  time : Int
  sign : Int
instance : Inhabited Hd := ⟨⟨0, 0, 0, 0⟩⟩
def Hd.cells (h : Hd) : List Value := [.int .i64 h.size, .int .i64 h.root, .int .i64 h.time, .int .i64 h.sign]
abbrev Hd.val (h : Hd) : Value := .agg #[.int .i64 h.size, .int .i64 h.root, .int .i64 h.time, .int .i64 h.sign]
def Hd.good (h : Hd) : Prop := (Lit.int .i64 h.size).wf = true ∧ (Lit.int .i64 h.root).wf = true ∧ (Lit.int .i64 h.time).wf = true ∧ (Lit.int .i64 h.sign).wf = true
/-- a tile -/
structure Tl where
  level : Int
  index : Int
  wide : Int
instance : Inhabited Tl := ⟨⟨0, 0, 0⟩⟩
def Tl.cells (t : Tl) : List Value := [.int .i64 t.level, .int .i64 t.index, .int .i64 t.wide]
abbrev Tl.val (t : Tl) : Value := .agg #[.int .i64 t.level, .int .i64 t.index, .int .i64 t.wide]
def Tl.good (t : Tl) : Prop := (Lit.int .i64 t.level).wf = true ∧ (Lit.int .i64 t.index).wf = true ∧ (Lit.int .i64 t.wide).wf = true
def icells (z : Int) : List Value := [.int .i64 z]
def scells (s : ByteArray) : List Value := [.string s]
def igood (z : Int) : Prop := (Lit.int .i64 z).wf = true
def sgood (s : ByteArray) : Prop := s.size ≤ maxLen
theorem flat_icells (l : List Int) : l.flatMap icells = l.map (Value.int .i64) := by
  induction l with
  | nil => rfl
  | cons z l ih => rw [List.flatMap_cons, ih]; rfl
theorem flat_scells (l : List ByteArray) : l.flatMap scells = l.map Value.string := by
  induction l with
  | nil => rfl
  | cons z l ih => rw [List.flatMap_cons, ih]; rfl
end Go.Proofs.YtelcabjhbgkfmaaDoor
