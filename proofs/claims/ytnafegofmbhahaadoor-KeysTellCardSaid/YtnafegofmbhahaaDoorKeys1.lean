/- Keys: the place of a key, its bits, its leaf. -/
import Derived.Test.YtnafegofmbhahaaDoorPairs
import Derived.Deep.OwnRows
import Derived.Test.YtnafegofmbhahaaDoorErrA
namespace Go.Proofs.YtnafegofmbhahaaDoor
open Go.RowKit
set_option linter.unusedVariables false
attribute [local go_sem ↓] Go.wp_at_zero Go.wp_at_succ

/-- where a key stands -/
def plcN (s : ByteArray) : Nat := (sumL s.data.toList % 256).toNat
theorem plcN_lt (s : ByteArray) : plcN s < 256 := by unfold plcN; omega
theorem plcN_eq (s : ByteArray) : sumL s.data.toList % 256 = (plcN s : Int) := by unfold plcN; omega
set_option maxRecDepth 100000 in
theorem place_any (s : ByteArray) (w : World) (hs : s.size ≤ maxLen) :
    Calls Tryd.prog 79 #[.string s] w fun e w' => e = .returned (.int .i64 (plcN s : Nat)) ∧ Ext w w' := by
  have HP := Lib.hid (plcN_eq s)
  have hb := sumL_bd s.data.toList
  obtain ⟨x, hx⟩ : ∃ x, sumL s.data.toList = x := ⟨_, rfl⟩
  rw [hx] at hb HP
  go_enter Tryd.func79, Tryd.ntmps79
  go_wp2_with fail
  refine (Sum_any s _ hs).mono ?_
  rw [hx]
  rintro _ w1 ⟨rfl, hb1⟩
  go_wp2_with fail
  go_ret
  exact ⟨ret_int HP.out, hb1⟩
/-- a leaf -/
def kleafB (k v : ByteArray) : ByteArray := k ++ ⟨#[0]⟩ ++ v
def kleaf (k v : ByteArray) : Int := leafL (kleafB k v).data.toList
set_option maxRecDepth 100000 in
theorem kleaf_any (k v : ByteArray) (w : World) (hk : k.size ≤ 200) (hv : v.size ≤ 200) :
    Calls Tryd.prog 83 #[.string k, .string v] w fun e w' => e = .returned (.int .i64 (kleaf k v)) ∧ Ext w w' := by
  have hs : (kleafB k v).size = k.size + 1 + v.size := by unfold kleafB; rw [size_cat, size_cat]; rfl
  have HL : Hid (leafL (kleafB k v).data.toList = kleaf k v) := rfl
  obtain ⟨b, hb⟩ : ∃ b, k ++ ⟨#[0]⟩ ++ v = b := ⟨_, rfl⟩
  have HB : Hid (k ++ ⟨#[0]⟩ ++ v = b) := hb
  have hb2 : kleafB k v = b := hb
  rw [hb2] at hs HL
  have hs2 : b.size ≤ 140737488355328 := by omega
  clear hb hb2 hs
  go_enter Tryd.func83, Tryd.ntmps83
  go_wp2_with fail
  rw [HB.out]
  refine (Leaf_any b _ hs2).mono ?_
  rw [HL.out]
  rintro _ w1 ⟨rfl, hb1⟩
  go_wp2_with fail
  go_ret
  exact ⟨rfl, hb1⟩
/-- its bits as text -/
def bitB (p i : Nat) : UInt8 := if p / 2 ^ (7 - i) % 2 = 1 then 49 else 48
def bitsL (p : Nat) : List UInt8 := (List.range 8).map (bitB p)
def bitsS (p : Nat) : ByteArray := ⟨(bitsL p).toArray⟩
theorem and_one (n : Nat) (h : n < 9223372036854775808) : bits .and .i64 (n : Int) 1 = ((n % 2 : Nat) : Int) := by
  show IntKind.i64.wrap ((BitVec.ofInt 64 (n : Int) &&& BitVec.ofInt 64 1).toNat : Int) = _
  rw [BitVec.toNat_and, show (BitVec.ofInt 64 1).toNat = 1 from rfl, Nat.and_one_is_mod, BitVec.toNat_ofInt, show ((n : Int) % ((2 ^ 64 : Nat) : Int)).toNat = n by omega]
  exact IntWalk.i64_in _ (by omega)
theorem bitV (p j : Nat) (hp : p < 256) : (48 + bits .and .i64 ((p : Int) / 2 ^ (7 - j)) 1) % 256 = ((bitB p j).toNat : Int) := by
  have h1 : (p : Int) / 2 ^ (7 - j) = ((p / 2 ^ (7 - j) : Nat) : Int) := by simp
  have h2 : p / 2 ^ (7 - j) ≤ p := Nat.div_le_self _ _
  rw [h1, and_one _ (by omega)]
  unfold bitB
  split
  · rename_i h; rw [h]; rfl
  · rename_i h; rw [show p / 2 ^ (7 - j) % 2 = 0 by omega]; rfl
theorem bitsS_size (p : Nat) : (bitsS p).size = 8 := rfl
set_option maxRecDepth 100000 in
theorem Bits_ok (s : ByteArray) (w : World) (h : keyK s = 0) :
    Calls Tryd.prog 31 #[.string s] w fun e w' => e = .returned (.tuple #[.string (bitsS (plcN s)), .nilIface]) ∧ Ext w w' := by
  have HK := Lib.hid h
  have hs : s.size ≤ maxLen := by have := keyK_zero.1 h; unfold maxLen; omega
  have hp := plcN_lt s
  obtain ⟨p, HP⟩ : ∃ p, Hid (plcN s = p) := ⟨_, rfl⟩
  rw [HP.out] at hp
  clear h
  rw [HP.out]
  go_enter Tryd.func31, Tryd.ntmps31
  go_wp2_with fail
  refine (Key_any s _).mono ?_
  rw [HK.out, errR_0]
  rintro _ _ ⟨rfl, rfl⟩
  go_wp2_with fail
  refine (place_any s _ hs).mono ?_
  rw [HP.out]
  rintro _ w1 ⟨rfl, hb1⟩
  have r0 := (World.rowIs_alloc w #[.int .u8 0, .int .u8 0, .int .u8 0, .int .u8 0, .int .u8 0, .int .u8 0, .int .u8 0, .int .u8 0] 107 (fun _ => .int .u8 0) (fun i hi => by
    have h8 : i < 8 := hi
    have h8' : i = 0 ∨ i = 1 ∨ i = 2 ∨ i = 3 ∨ i = 4 ∨ i = 5 ∨ i = 6 ∨ i = 7 := by omega
    rcases h8' with rfl | rfl | rfl | rfl | rfl | rfl | rfl | rfl <;> rfl)).of_block (hb1.block w.heap.size (by simp))
  have e0 : Ext w w1 := by (repeat (with_reducible first | exact Ext.refl _ | assumption | refine Ext.drew ?_ | refine Ext.drewN ?_ _ | refine Ext.alloc ?_ _ | refine Ext.trans ?_ (by with_reducible assumption)))
  go_wp2_with fail
  go_loopw [7, 15] (fun v x wr => ∃ j : Nat, x = .int .i64 j ∧ j ≤ 8 ∧ Ext w wr ∧ Hid (wr.rowIs w.heap.size 107 8 (fun i => .int .u8 (if i < j then ((bitB p i).toNat : Int) else 0)))) (fun _ x _ => 8 - (intOf x).toNat)
  case atStart => exact ⟨0, rfl, Nat.zero_le _, e0, r0⟩
  case round =>
    obtain ⟨j, rfl, hj, hbw, hrow⟩ := hrel
    by_cases hc : j < 8
    · have c0 := hrow.out.cell hc
      have f0 := hrow.out.frozen j
      have HV := Lib.hid (bitV p j hp)
      go_wp2_with fail
      rw [HV.out]
      go_roundw
      case rel => exact ⟨j + 1, by go_num, by omega, hbw.setCell (by simp) _, (hrow.out.set j _).congr (fun i hi => by
        by_cases h1 : i = j
        · subst h1; simp
        · rw [if_neg h1]
          by_cases h2 : i < j
          · rw [if_pos h2, if_pos (by omega)]
          · rw [if_neg h2, if_neg (by omega)])⟩
      case measure => simp [intOf]; omega
    · obtain rfl : j = 8 := by omega
      have hcv := run_convert_bytes_back wr 93 9 5 (P := Tryd.prog) ⟨w.heap.size, 0, none⟩ 8 (bitsL p) Tryd.underlying93 Tryd.underlying5 Tryd.underlying9 (fun i hi => by
        have h8 : i < 8 := hi
        have := hrow.out.cell h8
        rw [if_pos h8] at this
        rw [show (⟨w.heap.size, 0, none⟩ : Addr).add i = ⟨w.heap.size, i, none⟩ by cases i <;> simp [Addr.add], this]
        simp [bitsL])
      have hcv2 : (convert 93 9 (.slice (some ⟨w.heap.size, 0, none⟩) 8 8)).run Tryd.prog wr = .ok (.string (bitsS p)) wr := hcv
      obtain ⟨b, HB⟩ : ∃ b, Hid (bitsS p = b) := ⟨_, rfl⟩
      rw [HB.out] at hcv2
      clear hcv hb1 r0
      go_wp2_with fail
      go_ret2
      exact ⟨by rw [HB.out]; rfl, hbw⟩
/-- what Bits tells -/
def bitsR (s : ByteArray) : ByteArray := if keyK s = 0 then bitsS (plcN s) else ⟨#[]⟩
theorem bitsR_ok {s : ByteArray} (h : keyK s = 0) : bitsR s = bitsS (plcN s) := if_pos h
set_option maxRecDepth 100000 in
theorem Bits_any (s : ByteArray) (w : World) :
    Calls Tryd.prog 31 #[.string s] w fun e w' => e = .returned (.tuple #[.string (bitsR s), errR (keyK s)]) ∧ Ext w w' := by
  by_cases h : keyK s = 0
  · refine (Bits_ok s w h).mono fun e w' hh => ⟨?_, hh.2⟩
    rw [bitsR_ok h, h]; exact hh.1
  · have HE := Lib.hid (errR_ne h)
    have HR : Hid (bitsR s = ⟨#[]⟩) := if_neg h
    go_enter Tryd.func31, Tryd.ntmps31
    go_wp2_with fail
    refine (Key_any s _).mono ?_
    rw [HE.out]
    rintro _ _ ⟨rfl, rfl⟩
    simp only [errV]
    go_wp2_with fail
    go_ret2
    exact ⟨by rw [HE.out, HR.out]; rfl, Ext.refl _⟩
theorem bitB_one (p i : Nat) : bitB p i = 49 ↔ p / 2 ^ (7 - i) % 2 = 1 := by
  unfold bitB
  split
  · simp_all
  · rename_i h
    constructor
    · intro h2; cases h2
    · intro h2; exact absurd h2 h
theorem bit_half {x y : Nat} (h : x % 2 = 1 ↔ y % 2 = 1) (h2 : x / 2 = y / 2) : x = y := by omega
theorem bitsS_inj {p q : Nat} (hp : p < 256) (hq : q < 256) (h : bitsS p = bitsS q) : p = q := by
  have h0 : bitsL p = bitsL q := congrArg (fun b : ByteArray => b.data.toList) h
  have hb : ∀ i, i < 8 → (p / 2 ^ (7 - i) % 2 = 1 ↔ q / 2 ^ (7 - i) % 2 = 1) := fun i hi => by
    have e : ∀ x, (bitsL x)[i]? = some (bitB x i) := fun x => by
      unfold bitsL
      rw [List.getElem?_map, List.getElem?_range hi]; rfl
    have h1 := e p
    rw [h0, e q] at h1
    have h2 : bitB q i = bitB p i := Option.some.inj h1
    rw [← bitB_one, ← bitB_one, h2]
  have a0 : p / 128 % 2 = 1 ↔ q / 128 % 2 = 1 := hb 0 (by omega)
  have a1 : p / 64 % 2 = 1 ↔ q / 64 % 2 = 1 := hb 1 (by omega)
  have a2 : p / 32 % 2 = 1 ↔ q / 32 % 2 = 1 := hb 2 (by omega)
  have a3 : p / 16 % 2 = 1 ↔ q / 16 % 2 = 1 := hb 3 (by omega)
  have a4 : p / 8 % 2 = 1 ↔ q / 8 % 2 = 1 := hb 4 (by omega)
  have a5 : p / 4 % 2 = 1 ↔ q / 4 % 2 = 1 := hb 5 (by omega)
  have a6 : p / 2 % 2 = 1 ↔ q / 2 % 2 = 1 := hb 6 (by omega)
  have a7 : p / 1 % 2 = 1 ↔ q / 1 % 2 = 1 := hb 7 (by omega)
  clear hb h0 h
  have b0 : p / 128 = q / 128 := bit_half a0 (by clear a0 a1 a2 a3 a4 a5 a6 a7; omega)
  have b1 : p / 64 = q / 64 := bit_half a1 (by rw [Nat.div_div_eq_div_mul, Nat.div_div_eq_div_mul]; exact b0)
  have b2 : p / 32 = q / 32 := bit_half a2 (by rw [Nat.div_div_eq_div_mul, Nat.div_div_eq_div_mul]; exact b1)
  have b3 : p / 16 = q / 16 := bit_half a3 (by rw [Nat.div_div_eq_div_mul, Nat.div_div_eq_div_mul]; exact b2)
  have b4 : p / 8 = q / 8 := bit_half a4 (by rw [Nat.div_div_eq_div_mul, Nat.div_div_eq_div_mul]; exact b3)
  have b5 : p / 4 = q / 4 := bit_half a5 (by rw [Nat.div_div_eq_div_mul, Nat.div_div_eq_div_mul]; exact b4)
  have b6 : p / 2 = q / 2 := bit_half a6 (by rw [Nat.div_div_eq_div_mul, Nat.div_div_eq_div_mul]; exact b5)
  have b7 : p / 1 = q / 1 := bit_half a7 (by rw [Nat.div_div_eq_div_mul, Nat.div_div_eq_div_mul]; exact b6)
  rwa [Nat.div_one, Nat.div_one] at b7
end Go.Proofs.YtnafegofmbhahaaDoor
