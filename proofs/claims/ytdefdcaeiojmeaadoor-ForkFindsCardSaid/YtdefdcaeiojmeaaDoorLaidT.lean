/- What the rows of this seat list of strconv's: tables and errors. -/
import Derived.Test.YtdefdcaeiojmeaaDoorLaidG
import Derived.Test.YtdefdcaeiojmeaaDoorParse2
import Derived.Stop.LaidErr
import Derived.Lib.LaidTab
import Derived.Lib.TrailingZeros
import Derived.Lib.ItoaNum
namespace Go.Proofs.YtdefdcaeiojmeaaDoor
open Go.ChangeShapes Go.WideShapes Go.RowKit
set_option linter.unusedVariables false

/-- the table of powers -/
def PowG (w : World) : Prop := Lib.TabIs Tryd.prog w "internal/strconv.uint64pow10" .u64 Lib.pow10Tab
theorem pow_named : Tryd.prog.globalNamed "internal/strconv.uint64pow10" = some 2 := by kernel_rfl
theorem deb_named : Tryd.prog.globalNamed "math/bits.deBruijn64tab" = some 4 := by kernel_rfl
theorem PowG.ext {w w' : World} (h : PowG w) (e : Ext w w') : PowG w' := by
  unfold PowG Lib.TabIs World.var? at h ⊢
  rw [pow_named] at h ⊢
  simp only [Option.bind_some] at h ⊢
  have hlt : 2 < w.heap.size := by
    rcases Nat.lt_or_ge 2 w.heap.size with h' | h'
    · exact h'
    · rw [Array.getElem?_eq_none h'] at h; cases h
  rw [e.block _ hlt]
  exact h
def deb64 : List Int := Lib.deBruijn64tab.map (fun (n : Nat) => (n : Int))
theorem cell_lt {w : World} {a : Addr} {v : Value} (h : w.cell? a = some v) : a.block < w.heap.size := by
  rcases Nat.lt_or_ge a.block w.heap.size with h' | h'
  · exact h'
  · simp [World.cell?, Array.getElem?_eq_none h'] at h
theorem deb_of_laid {W : World} {r : List (String × DataW Unit)} (h : laidMet Tryd.prog (("math/bits.deBruijn64tab", Rows.laid_math_bits_deBruijn64tab) :: r) W) : DebG W := by
  have h' : laidMet Tryd.prog (("math/bits.deBruijn64tab", Lib.tabData .u8 deb64) :: r) W := h
  have ht := Lib.tabIs_of_head (g := 4) (t := 162) (e := 5) (n := 64) deb_named (by kernel_rfl) (by kernel_rfl) (by kernel_rfl) (by kernel_rfl) (by kernel_rfl) h'
  have hc := Lib.TabIs.cell ht deb_named 15 (by decide)
  exact ⟨hc, cell_lt (a := ⟨4, 15, none⟩) hc⟩
theorem pow_of_laid {W : World} {r : List (String × DataW Unit)} (h : laidMet Tryd.prog (("internal/strconv.uint64pow10", Rows.laid_internal_strconv_uint64pow10) :: r) W) : PowG W := by
  have h' : laidMet Tryd.prog (("internal/strconv.uint64pow10", Lib.tabData .u64 Lib.pow10Tab) :: r) W := h
  exact Lib.tabIs_of_head (g := 2) (t := 159) (e := 149) (n := 20) pow_named (by kernel_rfl) (by kernel_rfl) (by kernel_rfl) (by kernel_rfl) (by kernel_rfl) h'
theorem star : "*" ++ "errors.errorString" = "*errors.errorString" := by decide
theorem err_of_handle {W : World} (h : handlesMet Tryd.prog [("errors.errorType", Rows.laid_errors_errorType)] W) : ErrG W :=
  handle_of_laid (W := W) ⟨⟨[], rfl, List.nodup_nil, fun b off h => by cases h⟩, h⟩
noncomputable def low : Nat := (World.holding Tryd.prog default ⟨#[], #[], []⟩).heap.size
end Go.Proofs.YtdefdcaeiojmeaaDoor
