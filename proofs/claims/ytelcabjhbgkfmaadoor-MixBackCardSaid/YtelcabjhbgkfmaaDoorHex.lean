/- strconv.FormatInt at base 16: a sum as text. -/
import Derived.Test.YtelcabjhbgkfmaaDoorHexP
import Derived.Test.YtelcabjhbgkfmaaDoorErr
import Derived.Test.YtelcabjhbgkfmaaDoorGrown
import Derived.Deep.OwnRows
import Derived.Deep.LoopGhost
import Derived.Deep.DrawnRows
import Derived.Deep.DeepCutAuto
import Derived.Lib.SlicesS
namespace Go.Proofs.YtelcabjhbgkfmaaDoor
open Go.RowKit Go.WideShapes
set_option linter.unusedVariables false
attribute [local go_sem ↓] Go.wp_at_zero Go.wp_at_succ

/-- the cell of math/bits.deBruijn64tab that is read -/
def DebG (w : World) : Prop := w.cell? ⟨8, 15, none⟩ = some (.int .u8 4) ∧ 8 < w.heap.size
theorem DebG.ext {w w' : World} (h : DebG w) (e : Ext w w') : DebG w' := ⟨(e.cell (p := ⟨8, 15, none⟩) h.2).trans h.1, Nat.lt_of_lt_of_le h.2 e.size⟩

set_option maxRecDepth 100000 in
theorem TZ64_16 (w : World) (hd : DebG w) :
    Calls Tryd.prog 173 #[.int .u64 16] w fun e w' => e = .returned (.int .i64 4) ∧ w = w' := by
  have h1 : IntKind.u64.wrap (bits .and .u64 16 (IntKind.u64.wrap (-16)) * 285870213051353865) / 288230376151711744 = 15 := by decide +kernel
  have hc := hd.1
  go_enter Tryd.func173, Tryd.ntmps173
  go_wp2_with fail
  go_ret
  exact ⟨rfl, rfl⟩
set_option maxRecDepth 100000 in
theorem TZ16 (w : World) (hd : DebG w) :
    Calls Tryd.prog 166 #[.int .u64 16] w fun e w' => e = .returned (.int .i64 4) ∧ w = w' := by
  go_enter Tryd.func166, Tryd.ntmps166
  go_wp2_with fail
  refine (TZ64_16 _ hd).mono ?_
  rintro _ _ ⟨rfl, rfl⟩
  go_wp2_with fail
  go_ret
  exact ⟨rfl, rfl⟩
theorem and_15 (n : Nat) (h : n < 18446744073709551616) : bits .and .u64 (n : Int) 15 = ((n % 16 : Nat) : Int) := by
  show IntKind.u64.wrap ((BitVec.ofInt 64 (n : Int) &&& BitVec.ofInt 64 15).toNat : Int) = _
  rw [BitVec.toNat_and, show (BitVec.ofInt 64 15).toNat = 2 ^ 4 - 1 from rfl, Nat.and_two_pow_sub_one_eq_mod, BitVec.toNat_ofInt, show ((n : Int) % ((2 ^ 64 : Nat) : Int)).toNat = n by omega]
  show (((n % 2 ^ 4 : Nat) : Int)) % 18446744073709551616 = _
  omega
/-- the digit in place t of 65 -/
def hexAt (n t : Nat) : Int := ((hexC (n / 16 ^ (64 - t) % 16)).toNat : Int)

set_option maxRecDepth 100000 in
set_option maxHeartbeats 1000000 in
theorem dig36 : ∀ d, (h : d < 16) → ((ByteArray.mk #[48, 49, 50, 51, 52, 53, 54, 55, 56, 57, 97, 98, 99, 100, 101, 102, 103, 104, 105, 106, 107, 108, 109, 110, 111, 112, 113, 114, 115, 116, 117, 118, 119, 120, 121, 122])[d]'(Nat.lt_of_lt_of_le h (by decide))) = hexC d := by decide +kernel
theorem hexB_list : ∀ (j n : Nat), n / 16 ^ j < 16 → (j ≠ 0 → 16 ≤ n / 16 ^ (j - 1)) → (hexB n).data.toList = (List.range (j + 1)).map fun t => hexC (n / 16 ^ (j - t) % 16)
  | 0, n, h, _ => by
    have h16 : n < 16 := by simpa using h
    rw [hexB_one h16, hx_eq n h16]
    simp [Nat.mod_eq_of_lt h16]
  | j + 1, n, h, h2 => by
    have h3 := h2 (by omega)
    rw [Nat.add_sub_cancel] at h3
    have h16 : ¬ n < 16 := by
      have := Nat.div_le_self n (16 ^ j)
      omega
    have e : ∀ k, n / 16 / 16 ^ k = n / 16 ^ (k + 1) := fun k => by rw [Nat.div_div_eq_div_mul, Nat.pow_succ, Nat.mul_comm]
    have ih := hexB_list j (n / 16) (by rw [e]; exact h) (fun hj => by rw [e, Nat.sub_add_cancel (Nat.pos_of_ne_zero hj)]; exact h3)
    rw [hexB_more h16, ByteArray.data_append, Array.toList_append, ih, hx_eq _ (Nat.mod_lt _ (by decide)), List.range_succ (n := j + 1), List.map_append]
    congr 1
    · refine List.map_congr_left fun t ht => ?_
      have ht := List.mem_range.1 ht
      rw [e, show j - t + 1 = j + 1 - t by omega]
    · simp
theorem pow2_16 (w : World) : Calls Tryd.prog 165 #[.int .i64 16] w fun e w' => e = .returned (.bool true) ∧ w = w' := by
  have h1 : bits .and .i64 16 15 = 0 := by decide +kernel
  go_enter Tryd.func165, Tryd.ntmps165
  go_wp2_with fail
  go_ret
  exact ⟨rfl, rfl⟩
set_option maxRecDepth 100000 in
set_option maxHeartbeats 1000000 in
theorem FBits_any (n : Nat) (w : World) (hn : n < 9223372036854775808) (hd : DebG w) :
    Calls Tryd.prog 149 #[.slice none 0 0, .int .u64 n, .int .i64 16, .bool false, .bool false] w fun e w' => e = .returned (.tuple #[.slice none 0 0, .string (hexB n)]) ∧ Ext w w' := by
  have r0 := World.rowIs_alloc w (Array.replicate 65 (.int .u8 0)) 214 (fun _ => .int .u8 0) (fun i hi => by
    rw [Array.getElem?_replicate, if_pos (by simpa using hi)])
  have e0 : Ext w (w.alloc (.cells (Array.replicate 65 (.int .u8 0)) 214)) := by (repeat (with_reducible first | exact Ext.refl _ | assumption | refine Ext.drew ?_ | refine Ext.drewN ?_ _ | refine Ext.alloc ?_ _ | refine Ext.trans ?_ (by with_reducible assumption)))
  have hd0 := hd.ext e0
  have HD := Lib.hid hd0
  have HTZ := Lib.hid (TZ16 _ hd0)
  go_enter Tryd.func149, Tryd.ntmps149
  go_wp2_with fail
  refine (pow2_16 _).mono ?_
  rintro _ _ ⟨rfl, rfl⟩
  go_wp2_with fail
  refine (TZ16 _ ?_).mono ?_
  · exact hd0
  rintro _ _ ⟨rfl, rfl⟩
  have R0 : Hid ((w.alloc (.cells (Array.replicate 65 (.int .u8 0)) 214)).rowIs w.heap.size 214 65 (fun t => .int .u8 (if t < 65 then 0 else hexAt n t))) := Lib.hid (r0.congr fun t ht => by rw [if_pos (by simpa using ht)])
  clear r0 HTZ hd0 hd
  go_wp2_with fail
  go_loopw [1, 13] (fun u x wr => ∃ (j i : Nat), u = .int .u64 ((n / 16 ^ j : Nat) : Int) ∧ x = .int .i64 (i : Nat) ∧ Hid (i + j = 65) ∧ Hid (j ≠ 0 → 16 ≤ n / 16 ^ (j - 1)) ∧ i ≤ 65 ∧ 50 ≤ i ∧ Ext w wr ∧ Hid (wr.rowIs w.heap.size 214 65 (fun t => .int .u8 (if t < i then 0 else hexAt n t)))) (fun _ x _ => (intOf x).toNat)
  case atStart => exact ⟨0, 65, by simp, rfl, rfl, fun h => absurd rfl h, Nat.le_refl _, by omega, e0, R0⟩
  case round =>
    obtain ⟨j, i, rfl, rfl, hij, hld, hi1, hi2, hbw, hrow⟩ := hrel
    have hq : n / 16 ^ j ≤ n := Nat.div_le_self _ _
    have HN : Hid (n / 16 ^ j / 16 = n / 16 ^ (j + 1)) := by show _ = _; rw [Nat.div_div_eq_div_mul, Nat.pow_succ]
    have HJ : Hid (j = 15 → n / 16 ^ j < 16) := by
      rintro rfl
      rw [Nat.div_lt_iff_lt_mul (by decide)]
      exact Nat.lt_of_lt_of_le hn (by decide)
    obtain ⟨q, HQ⟩ : ∃ q, Hid (n / 16 ^ j = q) := ⟨_, rfl⟩
    rw [HQ.out] at hq HN HJ ⊢
    by_cases hc : 16 ≤ q
    · have hj15 : j ≠ 15 := fun h => by have := HJ.out h; omega
      have hi3 : 51 ≤ i := by have := hij.out; omega
      have hd := and_15 q (by omega)
      obtain ⟨d, hd2⟩ : ∃ d, q % 16 = d := ⟨_, rfl⟩
      rw [hd2] at hd
      have hd16 : d < 16 := by omega
      have c0 := hrow.out.cell (i := i - 1) (by omega)
      have f0 := hrow.out.frozen (i - 1)
      have k1 : ((i : Int) - 1).toNat = i - 1 := by omega
      have hqi : (16 : Int) ≤ (q : Int) := by omega
      clear e0
      go_wp2_with fail
      go_roundw
      case rel =>
        refine ⟨j + 1, i - 1, ?_, ?_, ?_, ?_, by omega, by omega, hbw.setCell (by simp) _, ?_⟩
        · rw [← HN.out]; go_num
        · go_num
        · show _ = _; have := hij.out; omega
        · intro _; rw [Nat.add_sub_cancel, HQ.out]; exact hc
        · refine (hrow.out.set (i - 1) _).congr fun t ht => ?_
          by_cases h1 : t = i - 1
          · subst h1
            rw [if_pos rfl, if_neg (by omega)]
            unfold hexAt
            rw [show 64 - (i - 1) = j by have := hij.out; omega, HQ.out, hd2]
            simp only [dig36 d hd16]
          · rw [if_neg h1]
            by_cases h2 : t < i - 1
            · rw [if_pos (by omega), if_pos h2]
            · rw [if_neg (by omega), if_neg h2]
      case measure => simp [intOf]; omega
    · have hi3 : 50 ≤ i := hi2
      have hqi : ¬ (16 : Int) ≤ (q : Int) := by omega
      have hq16 : q < 16 := by omega
      have c0 := hrow.out.cell (i := i - 1) (by omega)
      have f0 := hrow.out.frozen (i - 1)
      have k1 : ((i : Int) - 1).toNat = i - 1 := by omega
      have hfin : ∀ W : World, W.rowIs w.heap.size 214 65 (fun t => .int .u8 (if t < i - 1 then 0 else hexAt n t)) → (convert 93 9 (.slice (some ⟨w.heap.size, i - 1, none⟩) (65 - (i - 1)) (65 - (i - 1)))).run Tryd.prog W = .ok (.string (hexB n)) W := by
        intro W hW
        have hl := hexB_list j n (by rw [HQ.out]; exact hq16) hld.out
        have hij' := hij.out
        obtain ⟨L, hL⟩ : ∃ L, (List.range (j + 1)).map (fun t => hexC (n / 16 ^ (j - t) % 16)) = L := ⟨_, rfl⟩
        have hLl : L.length = 65 - (i - 1) := by rw [← hL]; simp; omega
        have hLg : ∀ t, (h : t < L.length) → L[t] = hexC (n / 16 ^ (j - t) % 16) := by
          intro t h
          subst hL
          simp
        rw [hL] at hl
        have hcv := run_convert_bytes_back W 93 9 5 (P := Tryd.prog) ⟨w.heap.size, i - 1, none⟩ (65 - (i - 1)) L Tryd.underlying93 Tryd.underlying5 Tryd.underlying9 (fun t ht => by
          have := hW.cell (i := i - 1 + t) (by omega)
          rw [if_neg (by omega)] at this
          rw [show (⟨w.heap.size, i - 1, none⟩ : Addr).add t = ⟨w.heap.size, i - 1 + t, none⟩ by cases t <;> simp [Addr.add], this, hLg t ht]
          unfold hexAt
          rw [show 64 - (i - 1 + t) = j - t by omega])
        rw [hLl] at hcv
        rw [show hexB n = ⟨L.toArray⟩ from ba_ext (by rw [hl])]
        exact hcv
      have HF := Lib.hid hfin
      obtain ⟨b, HB⟩ : ∃ b, Hid (hexB n = b) := ⟨_, rfl⟩
      rw [HB.out] at HF
      have hqi2 : (q : Int) < 36 := by omega
      have k5 : (65 : Int) - ((i : Int) - 1) = ((65 - (i - 1) : Nat) : Int) := by omega
      have hal : Tryd.prog.arrayLen 214 = 65 := by kernel_rfl
      have hsl : ∀ W, (Instr.sliceAt 214 (.pointer (some ⟨w.heap.size, 0, none⟩)) (some (.int .i64 ((i : Int) - 1))) none none).run Tryd.prog W = .ok (.slice (some ⟨w.heap.size, i - 1, none⟩) (65 - (i - 1)) (65 - (i - 1))) W := fun W => by
        rw [run_sliceAt_array_l W 214 ⟨w.heap.size, 0, none⟩ (by kernel_rfl) .i64 ((i : Int) - 1) (by omega) (by rw [hal]; omega), hal]
        have e1 : ((i : Int) - 1).toNat = i - 1 := k1
        have es : ∀ W : World, (sizeOf (Tryd.prog.elem 214)).run Tryd.prog W = .ok 1 W := fun W => by kernel_rfl
        rw [es, e1]
        show Result.ok (slicedAt ⟨w.heap.size, 0, none⟩ (i - 1) 65 65 1) W = _
        unfold slicedAt
        rw [if_neg (by omega), Nat.mul_one]
        cases hi9 : i - 1 with
        | zero => omega
        | succ m => simp [Addr.add]
      have row2 := (hrow.out.set (i - 1) (.int .u8 (((ByteArray.mk #[48, 49, 50, 51, 52, 53, 54, 55, 56, 57, 97, 98, 99, 100, 101, 102, 103, 104, 105, 106, 107, 108, 109, 110, 111, 112, 113, 114, 115, 116, 117, 118, 119, 120, 121, 122])[q]'(Nat.lt_of_lt_of_le hq16 (by decide))).toNat : Int))).congr (g := fun t => .int .u8 (if t < i - 1 then 0 else hexAt n t)) (fun t ht => by
        by_cases h1 : t = i - 1
        · subst h1
          rw [if_pos rfl, if_neg (by omega)]
          unfold hexAt
          rw [show 64 - (i - 1) = j by have := hij.out; omega, HQ.out, Nat.mod_eq_of_lt hq16, dig36 q hq16]
        · rw [if_neg h1]
          by_cases h2 : t < i - 1
          · rw [if_pos (by omega), if_pos h2]
          · rw [if_neg (by omega), if_neg h2])
      have hcv := HF.out _ row2
      clear e0 hfin hal row2
      go_wp2_with fail
      go_ret2
      exact ⟨by rw [HB.out]; rfl, hbw.setCell (by simp) _⟩
end Go.Proofs.YtelcabjhbgkfmaaDoor
