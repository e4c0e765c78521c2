/- strconv.FormatInt at base 16: a sum as text. -/
import Derived.Test.YtnphbkjkeipmmaaGreatDoorJRunBegins2
import Derived.Test.YtnphbkjkeipmmaaGreatDoorJRunBegins3
import Derived.Test.YtnphbkjkeipmmaaGreatDoorJRunBegins4
import Derived.Deep.OwnRows
import Derived.Deep.LoopGhost
import Derived.Deep.DrawnRows
import Derived.Deep.DeepCutAuto
import Derived.Lib.SlicesS
import Derived.Test.YtnphbkjkeipmmaaGreatDoorJRunBegins8
import Derived.Test.YtnphbkjkeipmmaaGreatDoorJRunBegins5
import Derived.Stop.LaidErr
import Derived.Lib.LaidTab
import Derived.Lib.TrailingZeros
import Derived.Lib.ItoaNum
namespace Go.Proofs.YtnphbkjkeipmmaaGreatDoor
open Go.RowKit Go.WideShapes
set_option linter.unusedVariables false
attribute [local go_sem ↓] Go.wp_at_zero Go.wp_at_succ

/-- the cell of math/bits.deBruijn64tab that is read -/
def DebG (w : World) : Prop := w.cell? ⟨6, 15, none⟩ = some (.int .u8 4) ∧ 6 < w.heap.size
theorem DebG.ext {w w' : World} (h : DebG w) (e : Ext w w') : DebG w' := ⟨(e.cell (p := ⟨6, 15, none⟩) h.2).trans h.1, Nat.lt_of_lt_of_le h.2 e.size⟩

set_option maxRecDepth 100000 in
theorem TZ64_16 (w : World) (hd : DebG w) :
    Calls Tryz.prog 184 #[.int .u64 16] w fun e w' => e = .returned (.int .i64 4) ∧ w = w' := by
  have h1 : IntKind.u64.wrap (bits .and .u64 16 (IntKind.u64.wrap (-16)) * 285870213051353865) / 288230376151711744 = 15 := by decide +kernel
  have hc := hd.1
  go_enter Tryz.func184, Tryz.ntmps184
  go_wp2_with fail
  go_ret
  exact ⟨rfl, rfl⟩
set_option maxRecDepth 100000 in
theorem TZ16 (w : World) (hd : DebG w) :
    Calls Tryz.prog 171 #[.int .u64 16] w fun e w' => e = .returned (.int .i64 4) ∧ w = w' := by
  go_enter Tryz.func171, Tryz.ntmps171
  go_wp2_with fail
  refine (TZ64_16 _ hd).mono ?_
  rintro _ _ ⟨rfl, rfl⟩
  go_wp2_with fail
  go_ret
  exact ⟨rfl, rfl⟩
theorem and_15 (n : Nat) (h : n < 18446744073709551616) : bits .and .u64 (n : Int) 15 = ((n % 16 : Nat) : Int) := by
  show IntKind.u64.wrap ((BitVec.ofInt 64 (n : Int) &&& BitVec.ofInt 64 15).toNat : Int) = _
  rw [BitVec.toNat_and, show (BitVec.ofInt 64 15).toNat = 2 ^ 4 - 1 from rfl, Nat.and_two_pow_sub_one_eq_mod, BitVec.toNat_ofInt, show ((n : Int) % ((2 ^ 64 : Nat) : Int)).toNat = n by omega]
  show (((n % 2 ^ 4 : Nat) : Int)) % 18446744073709551616 = _
  omega
/-- the digit in place t of 65 -/
def hexAt (n t : Nat) : Int := ((hexC (n / 16 ^ (64 - t) % 16)).toNat : Int)

set_option maxRecDepth 100000 in
set_option maxHeartbeats 1000000 in
theorem dig36 : ∀ d, (h : d < 16) → ((ByteArray.mk #[48, 49, 50, 51, 52, 53, 54, 55, 56, 57, 97, 98, 99, 100, 101, 102, 103, 104, 105, 106, 107, 108, 109, 110, 111, 112, 113, 114, 115, 116, 117, 118, 119, 120, 121, 122])[d]'(Nat.lt_of_lt_of_le h (by decide))) = hexC d := by decide +kernel
theorem hexB_list : ∀ (j n : Nat), n / 16 ^ j < 16 → (j ≠ 0 → 16 ≤ n / 16 ^ (j - 1)) → (hexB n).data.toList = (List.range (j + 1)).map fun t => hexC (n / 16 ^ (j - t) % 16)
  | 0, n, h, _ => by
    have h16 : n < 16 := by simpa using h
    rw [hexB_one h16, hx_eq n h16]
    simp [Nat.mod_eq_of_lt h16]
  | j + 1, n, h, h2 => by
    have h3 := h2 (by omega)
    rw [Nat.add_sub_cancel] at h3
    have h16 : ¬ n < 16 := by
      have := Nat.div_le_self n (16 ^ j)
      omega
    have e : ∀ k, n / 16 / 16 ^ k = n / 16 ^ (k + 1) := fun k => by rw [Nat.div_div_eq_div_mul, Nat.pow_succ, Nat.mul_comm]
    have ih := hexB_list j (n / 16) (by rw [e]; exact h) (fun hj => by rw [e, Nat.sub_add_cancel (Nat.pos_of_ne_zero hj)]; exact h3)
    rw [hexB_more h16, ByteArray.data_append, Array.toList_append, ih, hx_eq _ (Nat.mod_lt _ (by decide)), List.range_succ (n := j + 1), List.map_append]
    congr 1
    · refine List.map_congr_left fun t ht => ?_
      have ht := List.mem_range.1 ht
      rw [e, show j - t + 1 = j + 1 - t by omega]
    · simp
theorem pow2_16 (w : World) : Calls Tryz.prog 170 #[.int .i64 16] w fun e w' => e = .returned (.bool true) ∧ w = w' := by
  have h1 : bits .and .i64 16 15 = 0 := by decide +kernel
  go_enter Tryz.func170, Tryz.ntmps170
  go_wp2_with fail
  go_ret
  exact ⟨rfl, rfl⟩
set_option maxRecDepth 100000 in
set_option maxHeartbeats 1000000 in
theorem FBits_any (n : Nat) (w : World) (hn : n < 9223372036854775808) (hd : DebG w) :
    Calls Tryz.prog 148 #[.slice none 0 0, .int .u64 n, .int .i64 16, .bool false, .bool false] w fun e w' => e = .returned (.tuple #[.slice none 0 0, .string (hexB n)]) ∧ Ext w w' := by
  have r0 := World.rowIs_alloc w (Array.replicate 65 (.int .u8 0)) 204 (fun _ => .int .u8 0) (fun i hi => by
    rw [Array.getElem?_replicate, if_pos (by simpa using hi)])
  have e0 : Ext w (w.alloc (.cells (Array.replicate 65 (.int .u8 0)) 204)) := by (repeat (with_reducible first | exact Ext.refl _ | assumption | refine Ext.drew ?_ | refine Ext.drewN ?_ _ | refine Ext.alloc ?_ _ | refine Ext.trans ?_ (by with_reducible assumption)))
  have hd0 := hd.ext e0
  have HD := Lib.hid hd0
  have HTZ := Lib.hid (TZ16 _ hd0)
  go_enter Tryz.func148, Tryz.ntmps148
  go_wp2_with fail
  refine (pow2_16 _).mono ?_
  rintro _ _ ⟨rfl, rfl⟩
  go_wp2_with fail
  refine (TZ16 _ ?_).mono ?_
  · exact hd0
  rintro _ _ ⟨rfl, rfl⟩
  have R0 : Hid ((w.alloc (.cells (Array.replicate 65 (.int .u8 0)) 204)).rowIs w.heap.size 204 65 (fun t => .int .u8 (if t < 65 then 0 else hexAt n t))) := Lib.hid (r0.congr fun t ht => by rw [if_pos (by simpa using ht)])
  clear r0 HTZ hd0 hd
  go_wp2_with fail
  go_loopw [1, 13] (fun u x wr => ∃ (j i : Nat), u = .int .u64 ((n / 16 ^ j : Nat) : Int) ∧ x = .int .i64 (i : Nat) ∧ Hid (i + j = 65) ∧ Hid (j ≠ 0 → 16 ≤ n / 16 ^ (j - 1)) ∧ i ≤ 65 ∧ 50 ≤ i ∧ Ext w wr ∧ Hid (wr.rowIs w.heap.size 204 65 (fun t => .int .u8 (if t < i then 0 else hexAt n t)))) (fun _ x _ => (intOf x).toNat)
  case atStart => exact ⟨0, 65, by simp, rfl, rfl, fun h => absurd rfl h, Nat.le_refl _, by omega, e0, R0⟩
  case round =>
    obtain ⟨j, i, rfl, rfl, hij, hld, hi1, hi2, hbw, hrow⟩ := hrel
    have hq : n / 16 ^ j ≤ n := Nat.div_le_self _ _
    have HN : Hid (n / 16 ^ j / 16 = n / 16 ^ (j + 1)) := by show _ = _; rw [Nat.div_div_eq_div_mul, Nat.pow_succ]
    have HJ : Hid (j = 15 → n / 16 ^ j < 16) := by
      rintro rfl
      rw [Nat.div_lt_iff_lt_mul (by decide)]
      exact Nat.lt_of_lt_of_le hn (by decide)
    obtain ⟨q, HQ⟩ : ∃ q, Hid (n / 16 ^ j = q) := ⟨_, rfl⟩
    rw [HQ.out] at hq HN HJ ⊢
    by_cases hc : 16 ≤ q
    · have hj15 : j ≠ 15 := fun h => by have := HJ.out h; omega
      have hi3 : 51 ≤ i := by have := hij.out; omega
      have hd := and_15 q (by omega)
      obtain ⟨d, hd2⟩ : ∃ d, q % 16 = d := ⟨_, rfl⟩
      rw [hd2] at hd
      have hd16 : d < 16 := by omega
      have c0 := hrow.out.cell (i := i - 1) (by omega)
      have f0 := hrow.out.frozen (i - 1)
      have k1 : ((i : Int) - 1).toNat = i - 1 := by omega
      have hqi : (16 : Int) ≤ (q : Int) := by omega
      clear e0
      go_wp2_with fail
      go_roundw
      case rel =>
        refine ⟨j + 1, i - 1, ?_, ?_, ?_, ?_, by omega, by omega, hbw.setCell (by simp) _, ?_⟩
        · rw [← HN.out]; go_num
        · go_num
        · show _ = _; have := hij.out; omega
        · intro _; rw [Nat.add_sub_cancel, HQ.out]; exact hc
        · refine (hrow.out.set (i - 1) _).congr fun t ht => ?_
          by_cases h1 : t = i - 1
          · subst h1
            rw [if_pos rfl, if_neg (by omega)]
            unfold hexAt
            rw [show 64 - (i - 1) = j by have := hij.out; omega, HQ.out, hd2]
            simp only [dig36 d hd16]
          · rw [if_neg h1]
            by_cases h2 : t < i - 1
            · rw [if_pos (by omega), if_pos h2]
            · rw [if_neg (by omega), if_neg h2]
      case measure => simp [intOf]; omega
    · have hi3 : 50 ≤ i := hi2
      have hqi : ¬ (16 : Int) ≤ (q : Int) := by omega
      have hq16 : q < 16 := by omega
      have c0 := hrow.out.cell (i := i - 1) (by omega)
      have f0 := hrow.out.frozen (i - 1)
      have k1 : ((i : Int) - 1).toNat = i - 1 := by omega
      have hfin : ∀ W : World, W.rowIs w.heap.size 204 65 (fun t => .int .u8 (if t < i - 1 then 0 else hexAt n t)) → (convert 47 9 (.slice (some ⟨w.heap.size, i - 1, none⟩) (65 - (i - 1)) (65 - (i - 1)))).run Tryz.prog W = .ok (.string (hexB n)) W := by
        intro W hW
        have hl := hexB_list j n (by rw [HQ.out]; exact hq16) hld.out
        have hij' := hij.out
        obtain ⟨L, hL⟩ : ∃ L, (List.range (j + 1)).map (fun t => hexC (n / 16 ^ (j - t) % 16)) = L := ⟨_, rfl⟩
        have hLl : L.length = 65 - (i - 1) := by rw [← hL]; simp; omega
        have hLg : ∀ t, (h : t < L.length) → L[t] = hexC (n / 16 ^ (j - t) % 16) := by
          intro t h
          subst hL
          simp
        rw [hL] at hl
        have hcv := run_convert_bytes_back W 47 9 5 (P := Tryz.prog) ⟨w.heap.size, i - 1, none⟩ (65 - (i - 1)) L Tryz.underlying47 Tryz.underlying5 Tryz.underlying9 (fun t ht => by
          have := hW.cell (i := i - 1 + t) (by omega)
          rw [if_neg (by omega)] at this
          rw [show (⟨w.heap.size, i - 1, none⟩ : Addr).add t = ⟨w.heap.size, i - 1 + t, none⟩ by cases t <;> simp [Addr.add], this, hLg t ht]
          unfold hexAt
          rw [show 64 - (i - 1 + t) = j - t by omega])
        rw [hLl] at hcv
        rw [show hexB n = ⟨L.toArray⟩ from ba_ext (by rw [hl])]
        exact hcv
      have HF := Lib.hid hfin
      obtain ⟨b, HB⟩ : ∃ b, Hid (hexB n = b) := ⟨_, rfl⟩
      rw [HB.out] at HF
      have hqi2 : (q : Int) < 36 := by omega
      have k5 : (65 : Int) - ((i : Int) - 1) = ((65 - (i - 1) : Nat) : Int) := by omega
      have hal : Tryz.prog.arrayLen 204 = 65 := by kernel_rfl
      have hsl : ∀ W, (Instr.sliceAt 204 (.pointer (some ⟨w.heap.size, 0, none⟩)) (some (.int .i64 ((i : Int) - 1))) none none).run Tryz.prog W = .ok (.slice (some ⟨w.heap.size, i - 1, none⟩) (65 - (i - 1)) (65 - (i - 1))) W := fun W => by
        rw [run_sliceAt_array_l W 204 ⟨w.heap.size, 0, none⟩ (by kernel_rfl) .i64 ((i : Int) - 1) (by omega) (by rw [hal]; omega), hal]
        have e1 : ((i : Int) - 1).toNat = i - 1 := k1
        have es : ∀ W : World, (sizeOf (Tryz.prog.elem 204)).run Tryz.prog W = .ok 1 W := fun W => by kernel_rfl
        rw [es, e1]
        show Result.ok (slicedAt ⟨w.heap.size, 0, none⟩ (i - 1) 65 65 1) W = _
        unfold slicedAt
        rw [if_neg (by omega), Nat.mul_one]
        cases hi9 : i - 1 with
        | zero => omega
        | succ m => simp [Addr.add]
      have row2 := (hrow.out.set (i - 1) (.int .u8 (((ByteArray.mk #[48, 49, 50, 51, 52, 53, 54, 55, 56, 57, 97, 98, 99, 100, 101, 102, 103, 104, 105, 106, 107, 108, 109, 110, 111, 112, 113, 114, 115, 116, 117, 118, 119, 120, 121, 122])[q]'(Nat.lt_of_lt_of_le hq16 (by decide))).toNat : Int))).congr (g := fun t => .int .u8 (if t < i - 1 then 0 else hexAt n t)) (fun t ht => by
        by_cases h1 : t = i - 1
        · subst h1
          rw [if_pos rfl, if_neg (by omega)]
          unfold hexAt
          rw [show 64 - (i - 1) = j by have := hij.out; omega, HQ.out, Nat.mod_eq_of_lt hq16, dig36 q hq16]
        · rw [if_neg h1]
          by_cases h2 : t < i - 1
          · rw [if_pos (by omega), if_pos h2]
          · rw [if_neg (by omega), if_neg h2])
      have hcv := HF.out _ row2
      clear e0 hfin hal row2
      go_wp2_with fail
      go_ret2
      exact ⟨by rw [HB.out]; rfl, hbw.setCell (by simp) _⟩
end Go.Proofs.YtnphbkjkeipmmaaGreatDoor

/- Sums as text: mix.Text, mix.Print; the references' Text and Read. -/
namespace Go.Proofs.YtnphbkjkeipmmaaGreatDoor
open Go.RowKit Go.WideShapes
set_option linter.unusedVariables false
attribute [local go_sem ↓] Go.wp_at_zero Go.wp_at_succ

set_option maxRecDepth 100000 in
theorem FI16_any (n : Nat) (w : World) (hn : n < 9223372036854775808) (hd : DebG w) :
    Calls Tryz.prog 105 #[.int .i64 n, .int .i64 16] w fun e w' => e = .returned (.string (hexB n)) ∧ Ext w w' := by
  have HC := Lib.hid (FBits_any n w hn hd)
  have hin : Calls Tryz.prog 127 #[.int .i64 n, .int .i64 16] w fun e w' => e = .returned (.string (hexB n)) ∧ Ext w w' := by
    go_enter Tryz.func127, Tryz.ntmps127
    go_wp2_with fail
    refine HC.out.mono ?_
    rintro _ w1 ⟨rfl, hb1⟩
    go_wp2_with fail
    go_ret
    exact ⟨rfl, hb1⟩
  have HI := Lib.hid hin
  clear hin
  go_enter Tryz.func105, Tryz.ntmps105
  go_wp2_with fail
  refine HI.out.mono ?_
  rintro _ w1 ⟨rfl, hb1⟩
  go_wp2_with fail
  go_ret
  exact ⟨rfl, hb1⟩

def szS : Value → Nat
  | .string s => s.size
  | _ => 0
set_option maxRecDepth 100000 in
theorem MText_any (n : Nat) (w : World) (hn : n < 9223372036854775808) (hd : DebG w) :
    Calls Tryz.prog 78 #[.int .i64 n] w fun e w' => e = .returned (.string (padH n)) ∧ Ext w w' := by
  have HC := Lib.hid (FI16_any n w hn hd)
  have h1 := hexB_size hn
  have h2 := hexB_pos n
  have HP : Hid (padH n = zsB (8 - (hexB n).size) ++ hexB n) := rfl
  have H0 : Hid (zsB 0 ++ hexB n = hexB n) := by apply ba_ext; simp [zsB]
  rw [HP.out]
  obtain ⟨b, hb⟩ : ∃ b, hexB n = b := ⟨_, rfl⟩
  rw [hb] at HC h1 h2 H0
  rw [hb]
  clear hb HP
  go_enter Tryz.func78, Tryz.ntmps78
  go_wp2_with fail
  refine HC.out.mono ?_
  rintro _ w1 ⟨rfl, hb1⟩
  clear HC
  go_wp2_with fail
  go_loopw [3] (fun x wr => ∃ k : Nat, x = .string (zsB k ++ b) ∧ Hid (k = 0 ∨ k + b.size ≤ 8) ∧ Ext w wr) (fun x _ => 16 - szS x)
  case atStart => exact ⟨0, by rw [H0.out], .inl rfl, hb1⟩
  case round =>
    obtain ⟨k, rfl, hk, hbw⟩ := hrel
    have hsz : (zsB k ++ b).size = k + b.size := by rw [ByteArray.size_append, zsB_size]
    have HS : Hid (zsB (k + 1) ++ b = ⟨#[48]⟩ ++ (zsB k ++ b)) := by
      show _ = _
      rw [zsB_succ, ByteArray.append_assoc]
    have HK : Hid (¬ k + b.size < 8 → zsB k ++ b = zsB (8 - b.size) ++ b) := by
      intro h
      have : k = 8 - b.size := by rcases hk.out with h3 | h3 <;> omega
      rw [this]
    obtain ⟨t, ht⟩ : ∃ t, zsB k ++ b = t := ⟨_, rfl⟩
    rw [ht] at hsz HS HK ⊢
    have hk24 : k ≤ 8 := by rcases hk.out with h3 | h3 <;> omega
    have HSZ := Lib.hid hsz
    by_cases hc : k + b.size < 8
    · have hc1 : t.size < 8 := by omega
      have hc2 : (t.size : Int) < 8 := by omega
      clear ht hsz
      go_wp2_with fail
      go_roundw
      case rel => exact ⟨k + 1, by rw [HS.out], .inr (by omega), hbw⟩
      case measure =>
        show 16 - (⟨#[48]⟩ ++ t : ByteArray).size < 16 - t.size
        rw [ByteArray.size_append]
        show 16 - (1 + t.size) < _
        omega
    · have hc2 : ¬ (t.size : Int) < 8 := by omega
      have HF := Lib.hid (HK.out hc)
      clear ht hsz HK
      go_wp2_with fail
      go_ret
      exact ⟨ret_str HF.out, hbw⟩
/-- what Print tells -/
def prV (n : Int) : ByteArray := if vld n = true then hexT n.toNat else ⟨#[]⟩
def prK (n : Int) : Int := if vld n = true then 0 else 1
theorem MText_sum {n : Int} (h : vld n = true) (w : World) (hd : DebG w) :
    Calls Tryz.prog 78 #[.int .i64 n] w fun e w' => e = .returned (.string (hexT n.toNat)) ∧ Ext w w' := by
  obtain ⟨h1, h2⟩ := vld_true h
  obtain ⟨k, rfl⟩ := Int.eq_ofNat_of_zero_le h1
  have := MText_any k w (by omega) hd
  rw [padH_hexT (by omega)] at this
  exact this
set_option maxRecDepth 100000 in
theorem RText_any (n : Nat) (w : World) (hn : n < 9223372036854775808) :
    Calls Tryz.prog 20 #[.int .i64 n] w fun e w' => e = .returned (.string (hexT n)) ∧ Ext w w' := by
  go_enter Tryz.func20, Tryz.ntmps20
  go_wp2_with fail
  go_loopw [0, 3, 4, 5] (fun a b x _ wr => ∃ j : Nat, a = .int .i64 ((n / 16 ^ j : Nat) : Int) ∧ b = .string (lowHex n j) ∧ x = .int .i64 j ∧ j ≤ 8 ∧ Ext w wr) (fun _ _ x _ _ => 8 - (intOf x).toNat)
  case atStart => exact ⟨0, by simp, rfl, rfl, Nat.zero_le _, Ext.refl _⟩
  case round =>
    obtain ⟨j, rfl, rfl, rfl, hj, hbw⟩ := hrel
    by_cases hc : j < 8
    · have hci : (j : Int) < 8 := by omega
      have HST : Hid (lowHex n (j + 1) = hexs.extract (n / 16 ^ j % 16) (n / 16 ^ j % 16 + 1) ++ lowHex n j) := rfl
      have HN : Hid (n / 16 ^ j / 16 = n / 16 ^ (j + 1)) := by show _ = _; rw [Nat.div_div_eq_div_mul, Nat.pow_succ]
      have hle : n / 16 ^ j ≤ n := Nat.div_le_self _ _
      have hsz := lowHex_size n j
      obtain ⟨q, hq⟩ : ∃ q, n / 16 ^ j = q := ⟨_, rfl⟩
      rw [hq] at HST HN hle ⊢
      obtain ⟨k, hk⟩ : ∃ k, q % 16 = k := ⟨_, rfl⟩
      have hk2 : k < 16 := by omega
      have hm1 : (q : Int).tmod 16 = (k : Int) := by rw [← hk]; rfl
      have HD : Hid (((q / 16 : Nat) : Int) = (q : Int) / 16) := by show _ = _; omega
      have htd : Int.tdiv (q : Int) 16 = (q : Int) / 16 := Int.tdiv_eq_ediv_of_nonneg (by omega)
      have htm : (q : Int) % 16 = (k : Int) := by omega
      have hqi : (q : Int) < 9223372036854775808 := by omega
      rw [hk] at HST
      obtain ⟨t, ht⟩ : ∃ t, lowHex n j = t := ⟨_, rfl⟩
      rw [ht] at hsz HST ⊢
      have h1 : (hexs.extract k (k + 1)).size = 1 := hx_size hk2
      have h2 : t.size ≤ 8 := by omega
      clear hq hk ht hsz
      go_wp2_with fail
      go_roundw
      case rel => exact ⟨j + 1, by rw [← HN.out, HD.out], by rw [HST.out]; rfl, by go_num, by omega, hbw⟩
      case measure => simp [intOf]; omega
    · obtain rfl : j = 8 := by omega
      have HT : Hid (lowHex n 8 = hexT n) := rfl
      rw [HT.out]
      go_wp2_with fail
      go_ret
      exact ⟨rfl, hbw⟩
end Go.Proofs.YtnphbkjkeipmmaaGreatDoor

/- The references' Read. -/
namespace Go.Proofs.YtnphbkjkeipmmaaGreatDoor
open Go.RowKit Go.WideShapes
set_option linter.unusedVariables false
attribute [local go_sem ↓] Go.wp_at_zero Go.wp_at_succ

theorem hexGo_cat : ∀ (a b : List UInt8) (acc : Nat), hexGo acc (a ++ b) = (hexGo acc a).bind fun n => hexGo n b
  | [], b, acc => rfl
  | c :: a, b, acc => by
    show (hexD c).bind (fun d => hexGo (acc * 16 + d) (a ++ b)) = ((hexD c).bind fun d => hexGo (acc * 16 + d) a).bind _
    cases hexD c with
    | none => rfl
    | some d => exact hexGo_cat a b _
theorem hexGo_at {l : List UInt8} {j m : Nat} {b : UInt8} (h : l[j]? = some b) (hm : hexGo 0 (l.take j) = some m) :
    (hexD b = none → hexGo 0 l = none) ∧ ∀ d, hexD b = some d → hexGo 0 (l.take (j + 1)) = some (m * 16 + d) := by
  obtain ⟨h1, h2⟩ := List.getElem?_eq_some_iff.1 h
  refine ⟨fun hn => ?_, fun d hd => ?_⟩
  · conv => lhs; rw [← List.take_append_drop j l, hexGo_cat, hm, List.drop_eq_getElem_cons h1, h2]
    show (hexD b).bind _ = none
    rw [hn]; rfl
  · rw [List.take_succ_eq_append_getElem h1, h2, hexGo_snoc, hm, hd]; rfl
theorem hexD_num {b : UInt8} (h : 48 ≤ b.toNat ∧ b.toNat ≤ 57) : hexD b = some (b.toNat - 48) := if_pos h
theorem hexD_let {b : UInt8} (h : 97 ≤ b.toNat ∧ b.toNat ≤ 102) : hexD b = some (b.toNat - 87) := by unfold hexD; rw [if_neg (by omega), if_pos h]
theorem hexD_no {b : UInt8} (h : ¬ (48 ≤ b.toNat ∧ b.toNat ≤ 57)) (h2 : ¬ (97 ≤ b.toNat ∧ b.toNat ≤ 102)) : hexD b = none := by unfold hexD; rw [if_neg h, if_neg h2]
theorem hexGo_lt {l : List UInt8} {j m : Nat} (hl : l.length = 8) (hj : j ≤ 8) (hm : hexGo 0 (l.take j) = some m) : m < 4294967296 := by
  have h1 := (hexGo_text j (l.take j) m (by rw [List.length_take]; omega) hm).1
  exact Nat.lt_of_lt_of_le h1 (Nat.le_trans (Nat.pow_le_pow_right (by decide) hj) (by decide))
theorem read_none {s : ByteArray} (h : readH s = none) : readV s = 0 ∧ readK s = 2 := by unfold readV readK; rw [h]; exact ⟨rfl, rfl⟩
theorem read_some {s : ByteArray} {n : Nat} (h : readH s = some n) : readV s = (if n < 2147483647 then (n : Int) else 0) ∧ readK s = if n < 2147483647 then 0 else 1 := by unfold readV readK; rw [h]; exact ⟨rfl, rfl⟩

end Go.Proofs.YtnphbkjkeipmmaaGreatDoor

/- internal/strconv.ParseUint at base 16. -/
namespace Go.Proofs.YtnphbkjkeipmmaaGreatDoor
open Go.RowKit Go.WideShapes
set_option linter.unusedVariables false
attribute [local go_sem ↓] Go.wp_at_zero Go.wp_at_succ

theorem ba_extQ {s : ByteArray} (h : s.data.toList = []) : s = ⟨#[]⟩ := ba_ext (by rw [h])
theorem str_someQ {s : ByteArray} (h : 0 < s.size) : s.toList.isEmpty = false ∧ ¬ s.toList = [] := by
  have h1 : ¬ s.toList = [] := fun e => by
    rw [Lib.toList_data] at e
    have : s.data.toList.length = 0 := by rw [e]; rfl
    have h2 : s.data.toList.length = s.size := rfl
    omega
  refine ⟨?_, h1⟩
  cases hl : s.toList with
  | nil => exact absurd hl h1
  | cons a l => rfl
theorem str_noneQ {s : ByteArray} (h : s.size = 0) : s = ⟨#[]⟩ := ba_extQ (List.eq_nil_of_length_eq_zero (show s.data.toList.length = 0 from h))
/-- the small letter -/
def lowV (b : UInt8) : Nat := b.toNat ||| 32
theorem or_all : ∀ n : Fin 256, bits .or .u8 ((n.val : Nat) : Int) 32 = ((n.val ||| 32 : Nat) : Int) ∧ n.val ||| 32 < 256 ∧ (97 ≤ n.val → n.val ≤ 102 → n.val ||| 32 = n.val) := by decide +kernel
theorem low_or (b : UInt8) : bits .or .u8 (b.toNat : Int) 32 = (lowV b : Int) := (or_all ⟨b.toNat, b.toNat_lt⟩).1
theorem low_lt (b : UInt8) : lowV b < 256 := (or_all ⟨b.toNat, b.toNat_lt⟩).2.1
theorem low_hex {b : UInt8} (h1 : 97 ≤ b.toNat) (h2 : b.toNat ≤ 102) : lowV b = b.toNat := (or_all ⟨b.toNat, b.toNat_lt⟩).2.2 h1 h2
theorem hexD_low {b : UInt8} {d : Nat} (h : hexD b = some d) (hn : ¬ (48 ≤ b.toNat ∧ b.toNat ≤ 57)) : 97 ≤ lowV b ∧ lowV b ≤ 102 ∧ d = lowV b - 87 := by
  unfold hexD at h
  rw [if_neg hn] at h
  split at h
  · rename_i h2
    have := low_hex h2.1 h2.2
    obtain rfl : b.toNat - 87 = d := by simpa using h
    omega
  · cases h
abbrev synE : Value := .iface 194 (.int .i64 2)
abbrev rngE : Value := .iface 194 (.int .i64 1)
/-- how a number is read -/
def PUr (s : ByteArray) (e : Ending) : Prop :=
  (∃ n : Nat, n < 18446744073709551616 ∧ e = .returned (.tuple #[.int .u64 n, .nilIface]) ∧ ∀ M, readH s = some M → n = M) ∨
  (e = .returned (.tuple #[.int .u64 0, synE]) ∧ readH s = none) ∨ (e = .returned (.tuple #[.int .u64 18446744073709551615, rngE]) ∧ readH s = none)
/-- what was read of the first bytes -/
def PUi (s : ByteArray) (j n : Nat) : Prop := ∀ M, readH s = some M → hexGo 0 (s.data.toList.take j) = some n
theorem PUi.lt {s : ByteArray} {j n : Nat} (h : PUi s j n) (hj : j ≤ s.size) {M : Nat} (hM : readH s = some M) : n < 4294967296 := by
  obtain ⟨h8, _, _, _⟩ := readH_text hM
  exact hexGo_lt (j := j) h8 (by omega) (h M hM)
theorem PUi.step {s : ByteArray} {j n : Nat} (h : PUi s j n) {b : UInt8} (hb : s.data.toList[j]? = some b) {M : Nat} (hM : readH s = some M) : ∃ d, hexD b = some d ∧ hexGo 0 (s.data.toList.take (j + 1)) = some (n * 16 + d) := by
  obtain ⟨h1, h2⟩ := hexGo_at hb (h M hM)
  cases hd : hexD b with
  | none =>
    have := h1 hd
    rw [(readH_text hM).2.1] at this
    cases this
  | some d => exact ⟨d, rfl, h2 d hd⟩
theorem opt_none {α : Type} {o : Option α} (h : ∀ M, o = some M → False) : o = none := by
  cases o with
  | none => rfl
  | some M => exact absurd rfl (fun e => h M e)

set_option maxRecDepth 100000 in
set_option maxHeartbeats 4000000 in
theorem PUint_any (s : ByteArray) (w : World) (hs : s.size ≤ 140737488355328) :
    Calls Tryz.prog 174 #[.string s, .int .i64 16, .int .i64 64] w fun e w' => PUr s e ∧ Ext w w' := by
  by_cases h0 : s.size = 0
  · have hr : readH s = none := by unfold readH; rw [if_neg (by omega)]
    have HR := Lib.hid hr
    obtain rfl := str_noneQ h0
    clear hr h0
    go_enter Tryz.func174, Tryz.ntmps174
    go_wp2_with fail
    go_ret2
    exact ⟨.inr (.inl ⟨rfl, HR.out⟩), Ext.refl _⟩
  have hmax : IntKind.u64.wrap (IntKind.u64.wrap 18446744073709551616 - 1) = 18446744073709551615 := by decide +kernel
  have hconv := run_bytes_of_string (P := Tryz.prog) w 9 47 5 s Tryz.underlying9 Tryz.underlying47 Tryz.underlying5
  obtain ⟨q1, q2⟩ := str_someQ (Nat.pos_of_ne_zero h0)
  go_enter Tryz.func174, Tryz.ntmps174
  go_wp2_with fail
  clear hconv q1 q2
  have hd := fun (j : Nat) (hj : j < s.data.size) => bytesRow_at s (grownCap w s.size 0 5) j hj
  generalize hC : bytesRow s (grownCap w s.size 0 5) = C at *
  generalize hcp : grownCap w s.size 0 5 = cp at *
  clear hC hcp
  have HI : Hid (PUi s 0 0) := Lib.hid fun M _ => rfl
  have HDD := Lib.hid hd
  clear hd
  have e00 : Ext w (w.alloc (.cells C 5 (C.size, C.size + 1))) := by (repeat (with_reducible first | exact Ext.refl _ | assumption | refine Ext.drew ?_ | refine Ext.drewN ?_ _ | refine Ext.alloc ?_ _ | refine Ext.trans ?_ (by with_reducible assumption)))
  have HC : Hid (∀ (wr : World) (j : Nat) (hj : j < s.size), Ext (w.alloc (.cells C 5 (C.size, C.size + 1))) wr → wr.cell? ⟨w.heap.size, j, none⟩ = some (.int .u8 ((s.data[j]'hj).toNat : Int))) := Lib.hid fun wr j hj e => by
    rw [Ext.cell (p := ⟨w.heap.size, j, none⟩) e (by simp)]
    exact (World.cell?_alloc_mark w C 5 (C.size, C.size + 1) j).trans (HDD.out j hj)
  have e01 : Ext (w.alloc (.cells C 5 (C.size, C.size + 1))) (w.alloc (.cells C 5 (C.size, C.size + 1))).drew := by (repeat (with_reducible first | exact Ext.refl _ | assumption | refine Ext.drew ?_ | refine Ext.drewN ?_ _ | refine Ext.alloc ?_ _ | refine Ext.trans ?_ (by with_reducible assumption)))
  generalize w.alloc (.cells C 5 (C.size, C.size + 1)) = W0 at *
  go_loopw [12, 13, 15, 16, 17, 101] (fun un a _ _ _ x wr => ∃ j n : Nat, un = .bool false ∧ a = .int .u64 (n : Nat) ∧ n < 18446744073709551616 ∧ x = .int .i64 (j : Nat) ∧ j ≤ s.size ∧ Ext W0 wr ∧ Hid (PUi s j n)) (fun _ _ _ _ _ x _ => s.size - (intOf x).toNat)
  case atStart => exact ⟨0, 0, rfl, rfl, by omega, rfl, Nat.zero_le _, e01, HI⟩
  case round =>
    obtain ⟨j, n, rfl, rfl, hn, rfl, hj, hbw, hi⟩ := hrel
    have e1 := e00.trans hbw
    by_cases hc : j < s.size
    · have hg : s.data.toList[j]? = some (s.data[j]'hc) := by
        rw [Array.getElem?_toList, Array.getElem?_eq_getElem]
      have c0 := HC.out _ j hc hbw
      have HST := Lib.hid fun M hM => hi.out.step hg (M := M) hM
      have HLT := Lib.hid fun M hM => hi.out.lt hj (M := M) hM
      obtain ⟨b, hb⟩ : ∃ b, (s.data[j]'hc) = b := ⟨_, rfl⟩
      rw [hb] at c0 HST
      have hb256 : b.toNat < 256 := b.toNat_lt
      have hci : (j : Int) < (s.size : Int) := by omega
      clear hg hb HC HDD HI e01
      by_cases p1 : 48 ≤ b.toNat ∧ b.toNat ≤ 57
      · obtain ⟨p2, p3⟩ := p1
        have p4 : (48 : Int) ≤ (b.toNat : Int) := by omega
        have p5 : (b.toNat : Int) ≤ 57 := by omega
        have p6 : ¬ (b.toNat : Int) = 95 := by omega
        by_cases hr : 1152921504606846976 ≤ n
        · have hr1 : (1152921504606846976 : Int) ≤ (n : Int) := by omega
          have HN : Hid (readH s = none) := Lib.hid (opt_none fun M hM => by have := HLT.out M hM; omega)
          go_wp2_with fail
          go_ret2
          exact ⟨.inr (.inr ⟨rfl, HN.out⟩), e1⟩
        · have hr1 : ¬ (1152921504606846976 : Int) ≤ (n : Int) := by omega
          have HN : Hid (PUi s (j + 1) (n * 16 + (b.toNat - 48))) := Lib.hid fun M hM => by
            obtain ⟨d, h1, h2⟩ := HST.out M hM
            rw [hexD_num ⟨p2, p3⟩] at h1
            rw [Option.some.inj h1]; exact h2
          have E1 : Hid ((n : Int) * 16 + ((b.toNat : Int) - 48) = ((n * 16 + (b.toNat - 48) : Nat) : Int)) := by show _ = _; omega
          go_wp2_with fail
          go_roundw
          case rel => exact ⟨j + 1, _, rfl, by rw [E1.out], by omega, by go_num, by omega, hbw, HN.out⟩
          case measure => simp [intOf]; omega
      · have hlow := low_or b
        have hl2 := low_lt b
        have HHL := Lib.hid fun (d : Nat) (h : hexD b = some d) => hexD_low h p1
        obtain ⟨Lb, hL⟩ : ∃ Lb : UInt8, lowV b = Lb.toNat := ⟨UInt8.ofNat (lowV b), by rw [UInt8.toNat_ofNat']; exact (Nat.mod_eq_of_lt (low_lt b)).symm⟩
        rw [hL] at hlow hl2 HHL
        have pd : (48 : Int) ≤ (b.toNat : Int) → ¬ (b.toNat : Int) ≤ 57 := by omega
        have p1c : ¬ (48 : Int) ≤ (b.toNat : Int) ∨ ((48 : Int) ≤ (b.toNat : Int) ∧ ¬ (b.toNat : Int) ≤ 57) := by omega
        have h95 : b.toNat = 95 → Lb.toNat = 127 := fun h => by rw [← hL]; unfold lowV; rw [h]; rfl
        have HNN : Hid (¬ (97 ≤ Lb.toNat ∧ Lb.toNat ≤ 102) → readH s = none) := Lib.hid fun h => opt_none fun M hM => by
          obtain ⟨d, h1, h2⟩ := HST.out M hM
          have := HHL.out d h1
          omega
        have HR : Hid (1152921504606846976 ≤ n → readH s = none) := Lib.hid fun hr => opt_none fun M hM => by have := HLT.out M hM; omega
        have HNX : Hid (PUi s (j + 1) (n * 16 + (Lb.toNat - 87))) := Lib.hid fun M hM => by
          obtain ⟨d, h1, h2⟩ := HST.out M hM
          have := HHL.out d h1
          rw [this.2.2] at h2; exact h2
        clear hL p1 pd
        by_cases p6 : (b.toNat : Int) = 95
        · have HN := Lib.hid (HNN.out (by have := h95 (by omega); omega))
          have h9 : bits .or .u8 95 32 = 127 := by decide +kernel
          clear h95 hlow p1c
          go_wp2_with (go_at_call 185; refine (Tryz.internal_strconv_lower _ _).mono ?_; rintro _ w9 ⟨rfl, hw9⟩; rw [hw9]; clear hw9 w9)
          go_ret2
          exact ⟨.inr (.inl ⟨rfl, HN.out⟩), e1⟩
        clear h95
        have hsplit : ¬ 97 ≤ Lb.toNat ∨ (97 ≤ Lb.toNat ∧ ¬ Lb.toNat ≤ 122) ∨ (97 ≤ Lb.toNat ∧ Lb.toNat ≤ 122 ∧ 103 ≤ Lb.toNat) ∨ (97 ≤ Lb.toNat ∧ Lb.toNat ≤ 102) := by omega
        rcases hsplit with l1 | ⟨l1, l2⟩ | ⟨l1, l2, l3⟩ | ⟨l1, l2⟩
        · have HN := Lib.hid (HNN.out (by omega))
          have l1i : ¬ (97 : Int) ≤ (Lb.toNat : Int) := by omega
          rcases p1c with p7 | ⟨p7, p8⟩
          all_goals first
            | (exfalso; omega)
            | (go_wp2_with (go_at_call 185; refine (Tryz.internal_strconv_lower _ _).mono ?_; rintro _ w9 ⟨rfl, hw9⟩; rw [hw9]; clear hw9 w9)
               go_ret2
               exact ⟨.inr (.inl ⟨rfl, HN.out⟩), e1⟩)
        · have HN := Lib.hid (HNN.out (by omega))
          have l1i : (97 : Int) ≤ (Lb.toNat : Int) := by omega
          have l2i : ¬ (Lb.toNat : Int) ≤ 122 := by omega
          rcases p1c with p7 | ⟨p7, p8⟩
          all_goals first
            | (exfalso; omega)
            | (go_wp2_with (go_at_call 185; refine (Tryz.internal_strconv_lower _ _).mono ?_; rintro _ w9 ⟨rfl, hw9⟩; rw [hw9]; clear hw9 w9)
               go_ret2
               exact ⟨.inr (.inl ⟨rfl, HN.out⟩), e1⟩)
        · have HN := Lib.hid (HNN.out (by omega))
          have l1i : (97 : Int) ≤ (Lb.toNat : Int) := by omega
          have l2i : (Lb.toNat : Int) ≤ 122 := by omega
          have l3i : (103 : Int) ≤ (Lb.toNat : Int) := by omega
          rcases p1c with p7 | ⟨p7, p8⟩
          all_goals first
            | (exfalso; omega)
            | (go_wp2_with (go_at_call 185; refine (Tryz.internal_strconv_lower _ _).mono ?_; rintro _ w9 ⟨rfl, hw9⟩; rw [hw9]; clear hw9 w9)
               go_ret2
               exact ⟨.inr (.inl ⟨rfl, HN.out⟩), e1⟩)
        · have l1i : (97 : Int) ≤ (Lb.toNat : Int) := by omega
          have l2i : (Lb.toNat : Int) ≤ 102 := by omega
          have l3i : (Lb.toNat : Int) ≤ 122 := by omega
          have HN0 := Lib.hid hn
          obtain ⟨Db, hD⟩ : ∃ Db : UInt8, (Lb.toNat : Int) - 97 + 10 = (Db.toNat : Int) := ⟨UInt8.ofNat (Lb.toNat - 87), by rw [UInt8.toNat_ofNat', Nat.mod_eq_of_lt (by omega)]; omega⟩
          have HD2 : Hid (Db.toNat = Lb.toNat - 87 ∧ Db.toNat ≤ 15) := by show _ ∧ _; omega
          clear hn
          rcases p1c with p7 | ⟨p7, p8⟩
          all_goals
            go_upto_region 46 with (go_at_call 185; refine (Tryz.internal_strconv_lower _ _).mono ?_; rintro _ w9 ⟨rfl, hw9⟩; rw [hw9]; clear hw9 w9)
            try rw [hD]
            have hD3 : (Db.toNat : Int) < 16 := by have := HD2.out.2; omega
            clear hD l1 l2 l1i l2i l3i hl2 hlow p6 p7
            go_upto_region 48 with (fail)
            have hn := HN0.out
            by_cases hr : 1152921504606846976 ≤ n
            · have HN := Lib.hid (HR.out hr)
              have hr1 : (1152921504606846976 : Int) ≤ (n : Int) := by omega
              clear hr hD3
              go_wp2_with fail
              go_ret2
              exact ⟨.inr (.inr ⟨rfl, HN.out⟩), e1⟩
            · have hr1 : ¬ (1152921504606846976 : Int) ≤ (n : Int) := by omega
              have E1 : Hid ((n : Int) * 16 + (Db.toNat : Int) = ((n * 16 + (Lb.toNat - 87) : Nat) : Int)) := by show _ = _; have := HD2.out.1; omega
              have E2 : Hid (n * 16 + (Lb.toNat - 87) < 18446744073709551616) := by show _ < _; have := HD2.out; omega
              clear hr
              go_wp2_with fail
              go_roundw
              case rel => exact ⟨j + 1, _, rfl, by rw [E1.out], E2.out, by go_num, by omega, hbw, HNX.out⟩
              case measure => simp [intOf]; omega
    · obtain rfl : j = s.size := by omega
      have HI2 : Hid (∀ M, readH s = some M → n = M) := Lib.hid fun M hM => by
        have h1 := hi.out M hM
        rw [List.take_of_length_le (show s.data.toList.length ≤ s.size from Nat.le_refl _)] at h1
        rw [(readH_text hM).2.1] at h1
        exact (Option.some.inj h1).symm
      clear HC HDD HI hi
      go_wp2_with fail
      go_ret2
      exact ⟨.inl ⟨n, hn, rfl, HI2.out⟩, e1⟩
end Go.Proofs.YtnphbkjkeipmmaaGreatDoor

/- strconv.ParseInt at base 16; mix.Parse. -/
namespace Go.Proofs.YtnphbkjkeipmmaaGreatDoor
open Go.RowKit Go.WideShapes
set_option linter.unusedVariables false
attribute [local go_sem ↓] Go.wp_at_zero Go.wp_at_succ

/-- how a number with a sign is read -/
def PIr (s : ByteArray) (e : Ending) : Prop :=
  ∃ (n : Int) (ev : Value), e = .returned (.tuple #[.int .i64 n, ev]) ∧ (ev = .nilIface ∨ ev = synE ∨ ev = rngE) ∧ (-9223372036854775808 ≤ n ∧ n ≤ 9223372036854775807) ∧ ∀ M, readH s = some M → ev = .nilIface ∧ n = M
theorem head_byte {s : ByteArray} (h : 0 < s.size) : s.data.toList[0]? = some (s.data[0]'h) := by
  rw [Array.getElem?_toList, Array.getElem?_eq_getElem]
theorem sign_none {s : ByteArray} (h : 0 < s.size) (hb : (s.data[0]'h).toNat = 43 ∨ (s.data[0]'h).toNat = 45) : readH s = none := opt_none fun M hM => by
  obtain ⟨d, h1, _⟩ := PUi.step (s := s) (j := 0) (n := 0) (fun M _ => rfl) (head_byte h) hM
  have h2 := hexD_no (b := s.data[0]'h) (by omega) (by omega)
  rw [h2] at h1
  cases h1

theorem neq_syn (W : World) : (binOp .neq 40 synE rngE).run Tryz.prog W = .ok (.bool true) W := by kernel_rfl
theorem neq_rng (W : World) : (binOp .neq 40 rngE rngE).run Tryz.prog W = .ok (.bool false) W := by kernel_rfl
theorem w64_bd (x : Int) : (-9223372036854775808 : Int) ≤ wrap64 x ∧ wrap64 x ≤ 9223372036854775807 := by
  unfold wrap64
  omega
theorem w64_in (M : Nat) (h : M < 4294967296) : wrap64 (M : Int) = M := by
  unfold wrap64
  omega
theorem un_bd (n : Nat) : Hid (¬ 9223372036854775808 ≤ n → (-9223372036854775808 : Int) ≤ (n : Int) ∧ (n : Int) ≤ 9223372036854775807) := Lib.hid fun h => by omega

set_option maxRecDepth 100000 in
set_option maxHeartbeats 4000000 in
theorem PInt_any (s : ByteArray) (w : World) (hs : s.size ≤ 140737488355328) :
    Calls Tryz.prog 155 #[.string s, .int .i64 16, .int .i64 64] w fun e w' => PIr s e ∧ Ext w w' := by
  by_cases h0 : s.size = 0
  · have hr : readH s = none := by unfold readH; rw [if_neg (by omega)]
    have HR := Lib.hid hr
    obtain rfl := str_noneQ h0
    clear hr h0
    go_enter Tryz.func155, Tryz.ntmps155
    go_wp2_with fail
    go_ret2
    exact ⟨⟨_, _, rfl, .inr (.inl rfl), by omega, fun M hM => by rw [HR.out] at hM; cases hM⟩, Ext.refl _⟩
  have hpos : 0 < s.size := Nat.pos_of_ne_zero h0
  obtain ⟨q1, q2⟩ := str_someQ hpos
  have hsl : (1 : Int) ≤ (s.size : Int) := by omega
  have hsx : s.size ≤ maxLen := by unfold maxLen; omega
  have HSG := Lib.hid fun hb => sign_none hpos hb
  have HP0 := Lib.hid (PUint_any s w hs)
  have HP1 := Lib.hid (PUint_any (s.extract 1 s.size) w (by rw [ByteArray.size_extract]; omega))
  obtain ⟨b, hb⟩ : ∃ b, s.data[0]'hpos = b := ⟨_, rfl⟩
  have hb2 : s[0]'hpos = b := hb
  rw [hb] at HSG
  have hb256 : b.toNat < 256 := b.toNat_lt
  have h3 : (b.toNat = 43) ∨ (¬ b.toNat = 43 ∧ b.toNat = 45) ∨ (¬ b.toNat = 43 ∧ ¬ b.toNat = 45) := by omega
  rcases h3 with p1 | ⟨p1, p2⟩ | ⟨p1, p2⟩
  · have hi1 : (b.toNat : Int) = 43 := by omega
    have HN := Lib.hid (HSG.out (.inl p1))
    clear p1 h0 hb HSG HP0
    go_enter Tryz.func155, Tryz.ntmps155
    go_wp2_with fail
    refine HP1.out.mono ?_
    rintro _ w1 ⟨⟨n, hn, rfl, hk⟩ | ⟨rfl, hk⟩ | ⟨rfl, hk⟩, hb1⟩
    · have HN0 := Lib.hid hn
      have HK := Lib.hid hk
      clear hn hk HP1
      by_cases hr : 9223372036854775808 ≤ n
      · have hr1 : (9223372036854775808 : Int) ≤ (n : Int) := by omega
        clear hr
        go_wp2_with fail
        go_ret2
        exact ⟨⟨_, _, rfl, .inr (.inr rfl), by omega, fun M hM => by rw [HN.out] at hM; cases hM⟩, hb1⟩
      · have hr1 : ((9223372036854775808 : Int) ≤ (n : Int)) = False := eq_false (by omega)
        clear hr
        go_upto_region 21 with (fail)
        clear hr1
        go_wp2_with fail
        go_ret2
        exact ⟨⟨_, _, rfl, .inl rfl, w64_bd _, fun M hM => by rw [HN.out] at hM; cases hM⟩, hb1⟩
    · clear HP1
      have hne := neq_syn
      go_wp2_with fail
      go_ret2
      exact ⟨⟨_, _, rfl, .inr (.inl rfl), by omega, fun M hM => by rw [HN.out] at hM; cases hM⟩, hb1⟩
    · clear HP1
      have hne := neq_rng
      go_wp2_with fail
      go_ret2
      exact ⟨⟨_, _, rfl, .inr (.inr rfl), by omega, fun M hM => by rw [HN.out] at hM; cases hM⟩, hb1⟩
  · have hi1 : (b.toNat : Int) = 45 := by omega
    have HN := Lib.hid (HSG.out (.inr p2))
    clear p1 p2 h0 hb HSG HP0
    go_enter Tryz.func155, Tryz.ntmps155
    go_wp2_with fail
    refine HP1.out.mono ?_
    rintro _ w1 ⟨⟨n, hn, rfl, hk⟩ | ⟨rfl, hk⟩ | ⟨rfl, hk⟩, hb1⟩
    · have HN0 := Lib.hid hn
      have HK := Lib.hid hk
      clear hn hk HP1
      by_cases hr : 9223372036854775808 < n
      · have hr1 : (9223372036854775808 : Int) < (n : Int) := by omega
        clear hr
        go_wp2_with fail
        go_ret2
        exact ⟨⟨_, _, rfl, .inr (.inr rfl), w64_bd _, fun M hM => by rw [HN.out] at hM; cases hM⟩, hb1⟩
      · have hr1 : ¬ (9223372036854775808 : Int) < (n : Int) := by omega
        clear hr
        go_upto_region 21 with (fail)
        clear hr1
        go_wp2_with fail
        go_ret2
        exact ⟨⟨_, _, rfl, .inl rfl, w64_bd _, fun M hM => by rw [HN.out] at hM; cases hM⟩, hb1⟩
    · clear HP1
      have hne := neq_syn
      go_wp2_with fail
      go_ret2
      exact ⟨⟨_, _, rfl, .inr (.inl rfl), by omega, fun M hM => by rw [HN.out] at hM; cases hM⟩, hb1⟩
    · clear HP1
      have hne := neq_rng
      go_wp2_with fail
      go_ret2
      exact ⟨⟨_, _, rfl, .inr (.inr rfl), w64_bd _, fun M hM => by rw [HN.out] at hM; cases hM⟩, hb1⟩
  · have hi1 : ¬ (b.toNat : Int) = 43 := by omega
    have hi2 : ¬ (b.toNat : Int) = 45 := by omega
    clear p1 p2 h0 hb HSG HP1
    go_enter Tryz.func155, Tryz.ntmps155
    go_wp2_with fail
    refine HP0.out.mono ?_
    rintro _ w1 ⟨⟨n, hn, rfl, hk⟩ | ⟨rfl, hk⟩ | ⟨rfl, hk⟩, hb1⟩
    · have HN0 := Lib.hid hn
      have HK := Lib.hid hk
      clear hn hk HP0
      by_cases hr : 9223372036854775808 ≤ n
      · have hr1 : (9223372036854775808 : Int) ≤ (n : Int) := by omega
        have HNO : Hid (readH s = none) := Lib.hid (opt_none fun M hM => by have h1 := HK.out M hM; have h2 := (readH_text hM).2.2.1; omega)
        clear hr
        go_wp2_with fail
        go_ret2
        exact ⟨⟨_, _, rfl, .inr (.inr rfl), by omega, fun M hM => by rw [HNO.out] at hM; cases hM⟩, hb1⟩
      · have hr1 : ((9223372036854775808 : Int) ≤ (n : Int)) = False := eq_false (by omega)
        clear hr
        go_upto_region 21 with (fail)
        clear hr1
        go_wp2_with fail
        go_ret2
        exact ⟨⟨_, _, rfl, .inl rfl, w64_bd _, fun M hM => ⟨rfl, by rw [HK.out M hM]; exact w64_in M (readH_text hM).2.2.1⟩⟩, hb1⟩
    · clear HP0
      have HNO := Lib.hid hk
      have hne := neq_syn
      go_wp2_with fail
      go_ret2
      exact ⟨⟨_, _, rfl, .inr (.inl rfl), by omega, fun M hM => by rw [HNO.out] at hM; cases hM⟩, hb1⟩
    · clear HP0
      have HNO := Lib.hid hk
      have hne := neq_rng
      go_wp2_with fail
      go_ret2
      exact ⟨⟨_, _, rfl, .inr (.inr rfl), by omega, fun M hM => by rw [HNO.out] at hM; cases hM⟩, hb1⟩
end Go.Proofs.YtnphbkjkeipmmaaGreatDoor

/- strconv.ParseInt at base 16; mix.Parse. -/
namespace Go.Proofs.YtnphbkjkeipmmaaGreatDoor
open Go.RowKit Go.WideShapes
set_option linter.unusedVariables false
attribute [local go_sem ↓] Go.wp_at_zero Go.wp_at_succ

/-- an error of the library's that is laid -/
def ErrAt (g : Nat) (w : World) : Prop := (∃ tp p, w.cell? ⟨g, 0, none⟩ = some (.iface tp p)) ∧ g < w.heap.size
theorem ErrAt.ext {g : Nat} {w w' : World} (h : ErrAt g w) (e : Ext w w') : ErrAt g w' := by
  obtain ⟨⟨tp, p, hc⟩, hl⟩ := h
  exact ⟨⟨tp, p, (e.cell (p := ⟨g, 0, none⟩) hl).trans hc⟩, Nat.lt_of_lt_of_le hl e.size⟩
/-- what a text's numbers need -/
structure StrG (w : World) : Prop where
  deb : DebG w
  syn : ErrAt 3 w
  rng : ErrAt 4 w
theorem StrG.ext {w w' : World} (h : StrG w) (e : Ext w w') : StrG w' := ⟨h.deb.ext e, h.syn.ext e, h.rng.ext e⟩
def PSr (s : ByteArray) (e : Ending) : Prop :=
  ∃ (n : Int) (ev : Value), e = .returned (.tuple #[.int .i64 n, ev]) ∧ (ev = .nilIface ∨ ∃ p, ev = .iface 197 p) ∧ (-9223372036854775808 ≤ n ∧ n ≤ 9223372036854775807) ∧ ∀ M, readH s = some M → ev = .nilIface ∧ n = M

theorem readK_some {s : ByteArray} {M : Nat} (h : readH s = some M) : (vld (M : Int) = true → readV s = M ∧ readK s = 0) ∧ (vld (M : Int) = false → readV s = 0 ∧ readK s = 1) := by
  obtain ⟨h1, h2⟩ := read_some h
  refine ⟨fun hv => ?_, fun hv => ?_⟩
  · have : M < 2147483647 := by simp [vld] at hv; omega
    rw [if_pos this] at h1 h2; exact ⟨h1, h2⟩
  · have : ¬ M < 2147483647 := by simp [vld] at hv; omega
    rw [if_neg this] at h1 h2; exact ⟨h1, h2⟩

end Go.Proofs.YtnphbkjkeipmmaaGreatDoor

/- What the rows of this seat list of strconv's: tables and errors. -/
namespace Go.Proofs.YtnphbkjkeipmmaaGreatDoor
open Go.ChangeShapes Go.WideShapes Go.RowKit
set_option linter.unusedVariables false

/-- the table of powers -/
def PowG (w : World) : Prop := Lib.TabIs Tryz.prog w "internal/strconv.uint64pow10" .u64 Lib.pow10Tab
theorem pow_named : Tryz.prog.globalNamed "internal/strconv.uint64pow10" = some 2 := by kernel_rfl
theorem deb_named : Tryz.prog.globalNamed "math/bits.deBruijn64tab" = some 6 := by kernel_rfl
theorem PowG.ext {w w' : World} (h : PowG w) (e : Ext w w') : PowG w' := by
  unfold PowG Lib.TabIs World.var? at h ⊢
  rw [pow_named] at h ⊢
  simp only [Option.bind_some] at h ⊢
  have hlt : 2 < w.heap.size := by
    rcases Nat.lt_or_ge 2 w.heap.size with h' | h'
    · exact h'
    · rw [Array.getElem?_eq_none h'] at h; cases h
  rw [e.block _ hlt]
  exact h
def deb64 : List Int := Lib.deBruijn64tab.map (fun (n : Nat) => (n : Int))
theorem cell_lt {w : World} {a : Addr} {v : Value} (h : w.cell? a = some v) : a.block < w.heap.size := by
  rcases Nat.lt_or_ge a.block w.heap.size with h' | h'
  · exact h'
  · simp [World.cell?, Array.getElem?_eq_none h'] at h
theorem deb_of_laid {W : World} {r : List (String × DataW Unit)} (h : laidMet Tryz.prog (("math/bits.deBruijn64tab", Rows.laid_math_bits_deBruijn64tab) :: r) W) : DebG W := by
  have h' : laidMet Tryz.prog (("math/bits.deBruijn64tab", Lib.tabData .u8 deb64) :: r) W := h
  have ht := Lib.tabIs_of_head (g := 6) (t := 221) (e := 5) (n := 64) deb_named (by kernel_rfl) (by kernel_rfl) (by kernel_rfl) (by kernel_rfl) (by kernel_rfl) h'
  have hc := Lib.TabIs.cell ht deb_named 15 (by decide)
  exact ⟨hc, cell_lt (a := ⟨6, 15, none⟩) hc⟩
theorem pow_of_laid {W : World} {r : List (String × DataW Unit)} (h : laidMet Tryz.prog (("internal/strconv.uint64pow10", Rows.laid_internal_strconv_uint64pow10) :: r) W) : PowG W := by
  have h' : laidMet Tryz.prog (("internal/strconv.uint64pow10", Lib.tabData .u64 Lib.pow10Tab) :: r) W := h
  exact Lib.tabIs_of_head (g := 2) (t := 203) (e := 185) (n := 20) pow_named (by kernel_rfl) (by kernel_rfl) (by kernel_rfl) (by kernel_rfl) (by kernel_rfl) h'
theorem star : "*" ++ "errors.errorString" = "*errors.errorString" := by decide
theorem rowErr (u : TypeId) (h : Tryz.prog.typeName? 3 u = some "*errors.errorString") : u = 217 :=
  typeName_ptr_named (nm := "errors.errorString") (by rw [star]; kernel_rfl) (by kernel_rfl) (by decide) u (by rw [star]; exact h)
theorem rng_of_laid {W : World} {r : List (String × DataW Unit)} (h : laidMet Tryz.prog (("strconv.ErrRange", Rows.laid_strconv_ErrRange) :: r) W) : ErrAt 4 W := by
  have hgn : Tryz.prog.globalNamed "strconv.ErrRange" = some 4 := by kernel_rfl
  obtain ⟨a, s, hv, -⟩ := laid_sentinel (g := 4) (ti := 40) (tp := 217) (te := 219) (ts := 9) h hgn (by kernel_rfl) Tryz.underlying40 rowErr (by kernel_rfl) Tryz.underlying219 rfl rfl Tryz.underlying9 (by kernel_rfl) (by kernel_rfl)
  have hc := World.var?_cell hgn hv 0
  exact ⟨⟨_, _, by simpa using hc⟩, cell_lt (a := ⟨4, 0, none⟩) (by simpa using hc)⟩
theorem syn_of_laid {W : World} {r : List (String × DataW Unit)} (h : laidMet Tryz.prog (("strconv.ErrSyntax", Rows.laid_strconv_ErrSyntax) :: r) W) : ErrAt 3 W := by
  have hgn : Tryz.prog.globalNamed "strconv.ErrSyntax" = some 3 := by kernel_rfl
  obtain ⟨a, s, hv, -⟩ := laid_sentinel (g := 3) (ti := 40) (tp := 217) (te := 219) (ts := 9) h hgn (by kernel_rfl) Tryz.underlying40 rowErr (by kernel_rfl) Tryz.underlying219 rfl rfl Tryz.underlying9 (by kernel_rfl) (by kernel_rfl)
  have hc := World.var?_cell hgn hv 0
  exact ⟨⟨_, _, by simpa using hc⟩, cell_lt (a := ⟨3, 0, none⟩) (by simpa using hc)⟩
theorem err_of_handle {W : World} (h : handlesMet Tryz.prog [("errors.errorType", Rows.laid_errors_errorType)] W) : ErrG W :=
  handle_of_laid (W := W) ⟨⟨[], rfl, List.nodup_nil, fun b off h => by cases h⟩, h⟩
noncomputable def low : Nat := (World.holding Tryz.prog default ⟨#[], #[], []⟩).heap.size
/-- a world for the witness -/
noncomputable def laidWorldT (os : Os) : World :=
  let w0 := World.holding Tryz.prog os ⟨#[.cells #[.string ⟨#[118, 97, 108, 117, 101, 32, 111, 117, 116, 32, 111, 102, 32, 114, 97, 110, 103, 101]⟩] 219, .cells #[.string ⟨#[105, 110, 118, 97, 108, 105, 100, 32, 115, 121, 110, 116, 97, 120]⟩] 219], #[], []⟩
  let put := fun (h : Array Obj) (g : Nat) (cs : Array Value) => h.modify g fun
      | .cells _ t frozen => .cells cs t frozen
      | o => o
  let hp := put (put (put (put (put (put w0.heap 0 #[.iface 140 (.agg #[.pointer (some ⟨9, 40, none⟩)])])
      6 (deb64.map fun z => Value.int .u8 z).toArray)
      5 (Lib.deBruijn32tab.map (fun (n : Nat) => Value.int .u8 (n : Int))).toArray)
      2 (Lib.pow10Tab.map fun z => Value.int .u64 z).toArray)
      4 #[.iface 217 (.pointer (some ⟨low, 0, none⟩))])
      3 #[.iface 217 (.pointer (some ⟨low + 1, 0, none⟩))]
  { w0 with heap := hp }
end Go.Proofs.YtnphbkjkeipmmaaGreatDoor
