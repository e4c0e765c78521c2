/- the names of two letters, plain; and lists of pairs of such names. -/
import Derived.Test.YtcgfdhgceokcnaaDoorJWalWhole13
import Derived.BigQuiet
import Derived.Test.YtcgfdhgceokcnaaDoorJWalWhole1
namespace Go.Proofs.YtcgfdhgceokcnaaDoor
open Go.RowKit
set_option linter.unusedVariables false

def abcB : ByteArray := ⟨#[97, 98, 99, 100, 101, 102, 103, 104, 105, 106, 107, 108, 109, 110, 111, 112, 113, 114, 115, 116, 117, 118, 119, 120, 121, 122]⟩
def lett (n : Nat) : ByteArray := abcB.extract (n / 26 % 26) (n / 26 % 26 + 1) ++ abcB.extract (n % 26) (n % 26 + 1)
def lettL (n : Nat) : List UInt8 := [UInt8.ofNat (97 + n / 26 % 26), UInt8.ofNat (97 + n % 26)]
theorem abc_one : ∀ i, i < 26 → (abcB.extract i (i + 1)).data.toList = [UInt8.ofNat (97 + i)] := by decide
theorem lett_list (n : Nat) : (lett n).data.toList = lettL n := by
  unfold lett
  have h1 := abc_one (n / 26 % 26) (by omega)
  have h2 := abc_one (n % 26) (by omega)
  show (_ ++ _ : ByteArray).data.toList = _
  rw [toList_cat, h1, h2]
  rfl
theorem lett_size (n : Nat) : (lett n).size = 2 := by
  have h : (lett n).data.toList.length = 2 := by rw [lett_list]; rfl
  exact h
theorem lett_step : ∀ i, i < 100 → Op.bytesLess (lettL i) (lettL (i + 1)) = true := by decide
theorem lett_lt {i j : Nat} (hij : i < j) (hj : j ≤ 100) : kLt (lett i) (lett j) = true := by
  obtain ⟨d, rfl⟩ : ∃ d, j = i + d + 1 := ⟨j - i - 1, by omega⟩
  clear hij
  induction d with
  | zero => unfold kLt; rw [lett_list, lett_list]; exact lett_step i (by omega)
  | succ d ih =>
    refine kLt_trans (ih (by omega)) ?_
    unfold kLt
    rw [lett_list, lett_list]
    exact lett_step (i + d + 1) (by omega)
theorem lett_zzz : ∀ i, i < 100 → Op.bytesLess (lettL i) [122, 122, 122] = true := by decide
def lettP (v : ByteArray) (k : Nat) : List Pr := (List.range k).map fun i => ⟨lett i, v, false⟩
theorem lettP_len (v : ByteArray) (k : Nat) : (lettP v k).length = k := by simp [lettP]
theorem lettP_get (v : ByteArray) {k i : Nat} (h : i < k) : (lettP v k)[i]? = some ⟨lett i, v, false⟩ := by
  unfold lettP
  rw [List.getElem?_map, List.getElem?_range h]
  rfl
theorem lettP_some {v : ByteArray} {k i : Nat} {p : Pr} (h : (lettP v k)[i]? = some p) : i < k ∧ p = ⟨lett i, v, false⟩ := by
  have hi := (List.getElem?_eq_some_iff.1 h).1
  rw [lettP_len] at hi
  rw [lettP_get v hi] at h
  injection h with h
  exact ⟨hi, h.symm⟩
theorem lettP_asc (v : ByteArray) {k : Nat} (h : k ≤ 100) : Asc (lettP v k) := fun i j p q hp hq hij => by
  obtain ⟨h1, rfl⟩ := lettP_some hp
  obtain ⟨h2, rfl⟩ := lettP_some hq
  exact lett_lt hij (by omega)
theorem lettP_ok {v : ByteArray} (hv : v.size ≤ 200) (k : Nat) : ∀ p ∈ lettP v k, PrOk p := fun p hp => by
  obtain ⟨i, hi⟩ := List.getElem?_of_mem hp
  obtain ⟨_, rfl⟩ := lettP_some hi
  exact ⟨keyK_ok (by rw [lett_size]; omega) (by rw [lett_size]; omega), hv, fun h => by cases h⟩
theorem lettP_snoc (v : ByteArray) (k : Nat) : lettP v (k + 1) = lettP v k ++ [⟨lett k, v, false⟩] := by
  unfold lettP
  rw [List.range_succ, List.map_append]
  rfl
theorem lettP_low (v : ByteArray) {k : Nat} {key : ByteArray} (h : ∀ i, i < k → kLt (lett i) key = true) : lowN (lettP v k) key = k ∧ hasB (lettP v k) key = false := by
  have h1 : lowN (lettP v k) key = k := lowN_border (by rw [lettP_len]; exact Nat.le_refl _) (fun t p ht hp => by
    obtain ⟨h2, rfl⟩ := lettP_some hp
    exact h t h2) (fun t p ht hp => by
    obtain ⟨h2, _⟩ := lettP_some hp
    omega)
  refine ⟨h1, ?_⟩
  unfold hasB
  rw [h1, List.getElem?_eq_none (by rw [lettP_len]; exact Nat.le_refl _)]
theorem lettP_has (v : ByteArray) {k i : Nat} (hk : k ≤ 100) (hi : i < k) : lowN (lettP v k) (lett i) = i ∧ hasB (lettP v k) (lett i) = true :=
  ⟨low_eq (lettP_asc v hk) (lettP_get v hi) rfl, has_of (lettP_asc v hk) (lettP_get v hi) rfl⟩
theorem lettP_put (v : ByteArray) {k : Nat} (hk : k ≤ 99) : putL (lettP v k) ⟨lett k, v, false⟩ = lettP v (k + 1) := by
  obtain ⟨h1, h2⟩ := lettP_low v (k := k) (key := lett k) fun i hi => lett_lt hi (by omega)
  unfold putL
  rw [if_neg (by rw [show (⟨lett k, v, false⟩ : Pr).key = lett k from rfl, h2]; decide), show (⟨lett k, v, false⟩ : Pr).key = lett k from rfl, h1, lettP_snoc]
  unfold insL
  rw [List.take_of_length_le (by rw [lettP_len]; exact Nat.le_refl _), List.drop_of_length_le (by rw [lettP_len]; exact Nat.le_refl _)]
end Go.Proofs.YtcgfdhgceokcnaaDoor

/- letters, walked. -/
namespace Go.Proofs.YtcgfdhgceokcnaaDoor
open Go.RowKit
set_option linter.unusedVariables false
attribute [local go_sem ↓] Go.wp_at_zero Go.wp_at_succ

theorem Lett_any (n : Nat) (w : World) (hn : n ≤ 100) : Calls Tryd.prog 5 #[.int .i64 n] w fun e w' => e = .returned (.string (lett n)) ∧ Ext w w' := by
  obtain ⟨a, ha⟩ : ∃ a : Nat, n / 26 % 26 = a := ⟨_, rfl⟩
  obtain ⟨b, hb⟩ : ∃ b : Nat, n % 26 = b := ⟨_, rfl⟩
  have ha' : (((n : Int).tdiv 26).tmod 26) = (a : Int) := by
    rw [← ha]; rfl
  have hb' : ((n : Int).tmod 26) = (b : Int) := by rw [← hb]; rfl
  have ha2 : (a : Int) ≤ 3 := by omega
  have hb2 : (b : Int) ≤ 25 := by omega
  have hl : lett n = (ByteArray.mk #[97, 98, 99, 100, 101, 102, 103, 104, 105, 106, 107, 108, 109, 110, 111, 112, 113, 114, 115, 116, 117, 118, 119, 120, 121, 122]).extract a (a + 1) ++ (ByteArray.mk #[97, 98, 99, 100, 101, 102, 103, 104, 105, 106, 107, 108, 109, 110, 111, 112, 113, 114, 115, 116, 117, 118, 119, 120, 121, 122]).extract b (b + 1) := by
    rw [← ha, ← hb]; rfl
  go_enter Tryd.func5, Tryd.ntmps5
  go_wp2_with fail
  go_quiet (fail)
  go_wp2_with fail
  go_ret
  exact ⟨hl ▸ rfl, by (repeat (with_reducible first | exact Ext.refl _ | assumption | refine Ext.drew ?_ | refine Ext.drewN ?_ _ | refine Ext.alloc ?_ _ | refine Ext.trans ?_ (by with_reducible assumption)))⟩
end Go.Proofs.YtcgfdhgceokcnaaDoor

/- witsame.Error at its own number. -/
namespace Go.Proofs.YtcgfdhgceokcnaaDoor
open Go.RowKit
theorem errIs_eq (k : Int) : errIs k k = true := by unfold errIs; simp
theorem Error_is (k : Int) (w : World) (hg : ErrG w) : Calls Tryd.prog 9 #[errR k, .int .i64 k] w fun e w' => e = .returned (.bool true) ∧ Ext w w' :=
  (Error_any k k w hg).mono fun e w' hh => ⟨hh.1.trans (by rw [errIs_eq]), hh.2⟩
end Go.Proofs.YtcgfdhgceokcnaaDoor
