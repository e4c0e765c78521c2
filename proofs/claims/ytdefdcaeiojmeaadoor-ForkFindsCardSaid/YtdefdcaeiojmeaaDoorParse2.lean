/- internal/strconv.ParseUint at base 16. -/
import Derived.Test.YtdefdcaeiojmeaaDoorRead
import Derived.Test.YtdefdcaeiojmeaaDoorShelf
namespace Go.Proofs.YtdefdcaeiojmeaaDoor
open Go.RowKit Go.WideShapes
set_option linter.unusedVariables false
attribute [local go_sem ↓] Go.wp_at_zero Go.wp_at_succ

theorem ba_extQ {s : ByteArray} (h : s.data.toList = []) : s = ⟨#[]⟩ := ba_ext (by rw [h])
theorem str_someQ {s : ByteArray} (h : 0 < s.size) : s.toList.isEmpty = false ∧ ¬ s.toList = [] := by
  have h1 : ¬ s.toList = [] := fun e => by
    rw [Lib.toList_data] at e
    have : s.data.toList.length = 0 := by rw [e]; rfl
    have h2 : s.data.toList.length = s.size := rfl
    omega
  refine ⟨?_, h1⟩
  cases hl : s.toList with
  | nil => exact absurd hl h1
  | cons a l => rfl
theorem str_noneQ {s : ByteArray} (h : s.size = 0) : s = ⟨#[]⟩ := ba_extQ (List.eq_nil_of_length_eq_zero (show s.data.toList.length = 0 from h))
/-- the small letter -/
def lowV (b : UInt8) : Nat := b.toNat ||| 32
theorem or_all : ∀ n : Fin 256, bits .or .u8 ((n.val : Nat) : Int) 32 = ((n.val ||| 32 : Nat) : Int) ∧ n.val ||| 32 < 256 ∧ (97 ≤ n.val → n.val ≤ 102 → n.val ||| 32 = n.val) := by decide +kernel
theorem low_or (b : UInt8) : bits .or .u8 (b.toNat : Int) 32 = (lowV b : Int) := (or_all ⟨b.toNat, b.toNat_lt⟩).1
theorem low_lt (b : UInt8) : lowV b < 256 := (or_all ⟨b.toNat, b.toNat_lt⟩).2.1
theorem low_hex {b : UInt8} (h1 : 97 ≤ b.toNat) (h2 : b.toNat ≤ 102) : lowV b = b.toNat := (or_all ⟨b.toNat, b.toNat_lt⟩).2.2 h1 h2
theorem hexD_low {b : UInt8} {d : Nat} (h : hexD b = some d) (hn : ¬ (48 ≤ b.toNat ∧ b.toNat ≤ 57)) : 97 ≤ lowV b ∧ lowV b ≤ 102 ∧ d = lowV b - 87 := by
  unfold hexD at h
  rw [if_neg hn] at h
  split at h
  · rename_i h2
    have := low_hex h2.1 h2.2
    obtain rfl : b.toNat - 87 = d := by simpa using h
    omega
  · cases h
/-- what was read of the first bytes -/
def PUi (s : ByteArray) (j n : Nat) : Prop := ∀ M, readH s = some M → hexGo 0 (s.data.toList.take j) = some n
theorem PUi.lt {s : ByteArray} {j n : Nat} (h : PUi s j n) (hj : j ≤ s.size) {M : Nat} (hM : readH s = some M) : n < 4294967296 := by
  obtain ⟨h8, _, _, _⟩ := readH_text hM
  exact hexGo_lt (j := j) h8 (by omega) (h M hM)
theorem PUi.step {s : ByteArray} {j n : Nat} (h : PUi s j n) {b : UInt8} (hb : s.data.toList[j]? = some b) {M : Nat} (hM : readH s = some M) : ∃ d, hexD b = some d ∧ hexGo 0 (s.data.toList.take (j + 1)) = some (n * 16 + d) := by
  obtain ⟨h1, h2⟩ := hexGo_at hb (h M hM)
  cases hd : hexD b with
  | none =>
    have := h1 hd
    rw [(readH_text hM).2.1] at this
    cases this
  | some d => exact ⟨d, rfl, h2 d hd⟩
theorem opt_none {α : Type} {o : Option α} (h : ∀ M, o = some M → False) : o = none := by
  cases o with
  | none => rfl
  | some M => exact absurd rfl (fun e => h M e)

end Go.Proofs.YtdefdcaeiojmeaaDoor

/- strconv.ParseInt at base 16; mix.Parse. -/
namespace Go.Proofs.YtdefdcaeiojmeaaDoor
open Go.RowKit Go.WideShapes
set_option linter.unusedVariables false
attribute [local go_sem ↓] Go.wp_at_zero Go.wp_at_succ

theorem head_byte {s : ByteArray} (h : 0 < s.size) : s.data.toList[0]? = some (s.data[0]'h) := by
  rw [Array.getElem?_toList, Array.getElem?_eq_getElem]
theorem sign_none {s : ByteArray} (h : 0 < s.size) (hb : (s.data[0]'h).toNat = 43 ∨ (s.data[0]'h).toNat = 45) : readH s = none := opt_none fun M hM => by
  obtain ⟨d, h1, _⟩ := PUi.step (s := s) (j := 0) (n := 0) (fun M _ => rfl) (head_byte h) hM
  have h2 := hexD_no (b := s.data[0]'h) (by omega) (by omega)
  rw [h2] at h1
  cases h1

theorem w64_bd (x : Int) : (-9223372036854775808 : Int) ≤ wrap64 x ∧ wrap64 x ≤ 9223372036854775807 := by
  unfold wrap64
  omega
theorem w64_in (M : Nat) (h : M < 4294967296) : wrap64 (M : Int) = M := by
  unfold wrap64
  omega
theorem un_bd (n : Nat) : Hid (¬ 9223372036854775808 ≤ n → (-9223372036854775808 : Int) ≤ (n : Int) ∧ (n : Int) ≤ 9223372036854775807) := Lib.hid fun h => by omega

end Go.Proofs.YtdefdcaeiojmeaaDoor

/- strconv.ParseInt at base 16; mix.Parse. -/
namespace Go.Proofs.YtdefdcaeiojmeaaDoor
open Go.RowKit Go.WideShapes
set_option linter.unusedVariables false
attribute [local go_sem ↓] Go.wp_at_zero Go.wp_at_succ

/-- an error of the library's that is laid -/
def ErrAt (g : Nat) (w : World) : Prop := (∃ tp p, w.cell? ⟨g, 0, none⟩ = some (.iface tp p)) ∧ g < w.heap.size
theorem ErrAt.ext {g : Nat} {w w' : World} (h : ErrAt g w) (e : Ext w w') : ErrAt g w' := by
  obtain ⟨⟨tp, p, hc⟩, hl⟩ := h
  exact ⟨⟨tp, p, (e.cell (p := ⟨g, 0, none⟩) hl).trans hc⟩, Nat.lt_of_lt_of_le hl e.size⟩
theorem readK_some {s : ByteArray} {M : Nat} (h : readH s = some M) : (vld (M : Int) = true → readV s = M ∧ readK s = 0) ∧ (vld (M : Int) = false → readV s = 0 ∧ readK s = 1) := by
  obtain ⟨h1, h2⟩ := read_some h
  refine ⟨fun hv => ?_, fun hv => ?_⟩
  · have : M < 2147483647 := by simp [vld] at hv; omega
    rw [if_pos this] at h1 h2; exact ⟨h1, h2⟩
  · have : ¬ M < 2147483647 := by simp [vld] at hv; omega
    rw [if_neg this] at h1 h2; exact ⟨h1, h2⟩

end Go.Proofs.YtdefdcaeiojmeaaDoor
