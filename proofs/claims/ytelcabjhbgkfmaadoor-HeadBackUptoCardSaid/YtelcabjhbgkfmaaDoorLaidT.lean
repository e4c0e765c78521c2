/- What the rows of this seat list of strconv's: tables and errors. -/
import Derived.Test.YtelcabjhbgkfmaaDoorLaidG
import Derived.Test.YtelcabjhbgkfmaaDoorParse2
import Derived.Stop.LaidErr
import Derived.Lib.LaidTab
import Derived.Lib.TrailingZeros
import Derived.Lib.ItoaNum
namespace Go.Proofs.YtelcabjhbgkfmaaDoor
open Go.ChangeShapes Go.WideShapes Go.RowKit
set_option linter.unusedVariables false

/-- the table of powers -/
def PowG (w : World) : Prop := Lib.TabIs Tryd.prog w "internal/strconv.uint64pow10" .u64 Lib.pow10Tab
theorem pow_named : Tryd.prog.globalNamed "internal/strconv.uint64pow10" = some 3 := by kernel_rfl
theorem deb_named : Tryd.prog.globalNamed "math/bits.deBruijn64tab" = some 8 := by kernel_rfl
theorem PowG.ext {w w' : World} (h : PowG w) (e : Ext w w') : PowG w' := by
  unfold PowG Lib.TabIs World.var? at h ⊢
  rw [pow_named] at h ⊢
  simp only [Option.bind_some] at h ⊢
  have hlt : 3 < w.heap.size := by
    rcases Nat.lt_or_ge 3 w.heap.size with h' | h'
    · exact h'
    · rw [Array.getElem?_eq_none h'] at h; cases h
  rw [e.block _ hlt]
  exact h
def deb64 : List Int := Lib.deBruijn64tab.map (fun (n : Nat) => (n : Int))
theorem cell_lt {w : World} {a : Addr} {v : Value} (h : w.cell? a = some v) : a.block < w.heap.size := by
  rcases Nat.lt_or_ge a.block w.heap.size with h' | h'
  · exact h'
  · simp [World.cell?, Array.getElem?_eq_none h'] at h
theorem deb_of_laid {W : World} {r : List (String × DataW Unit)} (h : laidMet Tryd.prog (("math/bits.deBruijn64tab", Rows.laid_math_bits_deBruijn64tab) :: r) W) : DebG W := by
  have h' : laidMet Tryd.prog (("math/bits.deBruijn64tab", Lib.tabData .u8 deb64) :: r) W := h
  have ht := Lib.tabIs_of_head (g := 8) (t := 225) (e := 5) (n := 64) deb_named (by kernel_rfl) (by kernel_rfl) (by kernel_rfl) (by kernel_rfl) (by kernel_rfl) h'
  have hc := Lib.TabIs.cell ht deb_named 15 (by decide)
  exact ⟨hc, cell_lt (a := ⟨8, 15, none⟩) hc⟩
theorem pow_of_laid {W : World} {r : List (String × DataW Unit)} (h : laidMet Tryd.prog (("internal/strconv.uint64pow10", Rows.laid_internal_strconv_uint64pow10) :: r) W) : PowG W := by
  have h' : laidMet Tryd.prog (("internal/strconv.uint64pow10", Lib.tabData .u64 Lib.pow10Tab) :: r) W := h
  exact Lib.tabIs_of_head (g := 3) (t := 213) (e := 165) (n := 20) pow_named (by kernel_rfl) (by kernel_rfl) (by kernel_rfl) (by kernel_rfl) (by kernel_rfl) h'
theorem star : "*" ++ "errors.errorString" = "*errors.errorString" := by decide
theorem rowErr (u : TypeId) (h : Tryd.prog.typeName? 3 u = some "*errors.errorString") : u = 215 :=
  typeName_ptr_named (nm := "errors.errorString") (by rw [star]; kernel_rfl) (by kernel_rfl) (by decide) u (by rw [star]; exact h)
theorem rng_of_laid {W : World} {r : List (String × DataW Unit)} (h : laidMet Tryd.prog (("strconv.ErrRange", Rows.laid_strconv_ErrRange) :: r) W) : ErrAt 2 W := by
  have hgn : Tryd.prog.globalNamed "strconv.ErrRange" = some 2 := by kernel_rfl
  obtain ⟨a, s, hv, -⟩ := laid_sentinel (g := 2) (ti := 23) (tp := 215) (te := 217) (ts := 9) h hgn (by kernel_rfl) Tryd.underlying23 rowErr (by kernel_rfl) Tryd.underlying217 rfl rfl Tryd.underlying9 (by kernel_rfl) (by kernel_rfl)
  have hc := World.var?_cell hgn hv 0
  exact ⟨⟨_, _, by simpa using hc⟩, cell_lt (a := ⟨2, 0, none⟩) (by simpa using hc)⟩
theorem syn_of_laid {W : World} {r : List (String × DataW Unit)} (h : laidMet Tryd.prog (("strconv.ErrSyntax", Rows.laid_strconv_ErrSyntax) :: r) W) : ErrAt 1 W := by
  have hgn : Tryd.prog.globalNamed "strconv.ErrSyntax" = some 1 := by kernel_rfl
  obtain ⟨a, s, hv, -⟩ := laid_sentinel (g := 1) (ti := 23) (tp := 215) (te := 217) (ts := 9) h hgn (by kernel_rfl) Tryd.underlying23 rowErr (by kernel_rfl) Tryd.underlying217 rfl rfl Tryd.underlying9 (by kernel_rfl) (by kernel_rfl)
  have hc := World.var?_cell hgn hv 0
  exact ⟨⟨_, _, by simpa using hc⟩, cell_lt (a := ⟨1, 0, none⟩) (by simpa using hc)⟩
theorem err_of_handle {W : World} (h : handlesMet Tryd.prog [("errors.errorType", Rows.laid_errors_errorType)] W) : ErrG W :=
  handle_of_laid (W := W) ⟨⟨[], rfl, List.nodup_nil, fun b off h => by cases h⟩, h⟩
noncomputable def low : Nat := (World.holding Tryd.prog default ⟨#[], #[], []⟩).heap.size
/-- a world for the witness -/
noncomputable def laidWorldT (os : Os) : World :=
  let w0 := World.holding Tryd.prog os ⟨#[.cells #[.string ⟨#[118, 97, 108, 117, 101, 32, 111, 117, 116, 32, 111, 102, 32, 114, 97, 110, 103, 101]⟩] 217, .cells #[.string ⟨#[105, 110, 118, 97, 108, 105, 100, 32, 115, 121, 110, 116, 97, 120]⟩] 217], #[], []⟩
  let put := fun (h : Array Obj) (g : Nat) (cs : Array Value) => h.modify g fun
      | .cells _ t frozen => .cells cs t frozen
      | o => o
  let hp := put (put (put (put (put (put w0.heap 0 #[.iface 176 (.agg #[.pointer (some ⟨9, 23, none⟩)])])
      8 (deb64.map fun z => Value.int .u8 z).toArray)
      7 (Lib.deBruijn32tab.map (fun (n : Nat) => Value.int .u8 (n : Int))).toArray)
      3 (Lib.pow10Tab.map fun z => Value.int .u64 z).toArray)
      2 #[.iface 215 (.pointer (some ⟨low, 0, none⟩))])
      1 #[.iface 215 (.pointer (some ⟨low + 1, 0, none⟩))]
  { w0 with heap := hp }
end Go.Proofs.YtelcabjhbgkfmaaDoor
