import Derived.Test.YtgfkalhpefjenaaDoorSums
import Derived.Test.YtgfkalhpefjenaaDoorRootPure
import Derived.Test.YtgfkalhpefjenaaDoorAs
import Derived.BigRegion
namespace Go.Proofs.YtgfkalhpefjenaaDoor.tileMany
open Go.RowKit
set_option linter.unusedVariables false
attribute [local go_sem ↓] Go.wp_at_zero Go.wp_at_succ

/-- how many sums some tiles have of a level -/
def manyT (k : Nat) (ts : List Tl) : Nat := (accT [] k ts).length
theorem manyT_snoc (k k' i m : Nat) (ts : List Tl) : manyT k' (ts ++ [⟨(k : Int), (i : Int), (m : Int)⟩]) = if k' = k then manyT k' ts + m else manyT k' ts := by
  unfold manyT
  rw [accT_append, List.length_append]
  by_cases h : k' = k
  · subst h; rw [accT_same, sumsT_len, if_pos rfl]
  · rw [accT_other _ _ _ h, if_neg h]; rfl
theorem manyT_all (n : Nat) {k : Nat} (h : k < 4) : manyT k (allT n 4) = n / 4 ^ k := by
  unfold manyT; rw [accT_all, if_pos h, rowT_len]
theorem manyT_le (n k : Nat) (hn : n ≤ 200) (j : Nat) : manyT k ((allT n 4).take j) ≤ 200 := accT_bound [] n k hn j
/-- a row of four numbers -/
def Four (w : World) (g : Nat) (f : Nat → Nat) : Prop := Bk w g 28 #[.int .i64 (f 0 : Nat), .int .i64 (f 1 : Nat), .int .i64 (f 2 : Nat), .int .i64 (f 3 : Nat)]
theorem Four.cell {w : World} {g : Nat} {f : Nat → Nat} (h : Four w g f) {k : Nat} (hk : k < 4) : w.cell? ⟨g, k, none⟩ = some (.int .i64 (f k : Nat)) := by
  have hc := Bk.cell h k
  have : k = 0 ∨ k = 1 ∨ k = 2 ∨ k = 3 := by omega
  rcases this with rfl | rfl | rfl | rfl <;> exact hc
theorem Four.lt {w : World} {g : Nat} {f : Nat → Nat} (h : Four w g f) : g < w.heap.size := Bk.lt h
theorem Four.frozen {w : World} {g : Nat} {f : Nat → Nat} (h : Four w g f) (k : Nat) : w.frozen? ⟨g, k, none⟩ = false := Bk.frozen h k
theorem Four.ext {w w' : World} {g : Nat} {f : Nat → Nat} (h : Four w g f) (e : Ext w w') : Four w' g f := Bk.ext h e
theorem Four.set {w : World} {g : Nat} {f f' : Nat → Nat} (h : Four w g f) {k : Nat} (hk : k < 4) (z : Int) (hz : z = (f' k : Nat)) (ho : ∀ j, j ≠ k → f' j = f j) : Four (w.setCell ⟨g, k, none⟩ (.int .i64 z)) g f' := by
  have hs := Bk.set_ h k (.int .i64 z)
  unfold Four
  have : k = 0 ∨ k = 1 ∨ k = 2 ∨ k = 3 := by omega
  rcases this with rfl | rfl | rfl | rfl
  · rw [ho 1 (by omega), ho 2 (by omega), ho 3 (by omega), ← hz]; exact hs
  · rw [ho 0 (by omega), ho 2 (by omega), ho 3 (by omega), ← hz]; exact hs
  · rw [ho 0 (by omega), ho 1 (by omega), ho 3 (by omega), ← hz]; exact hs
  · rw [ho 0 (by omega), ho 1 (by omega), ho 2 (by omega), ← hz]; exact hs

set_option maxRecDepth 100000 in
set_option maxHeartbeats 4000000 in
theorem walk_yes (n : Nat) (w : World) (hn : n ≤ 200) (hg : ErrG w) :
    Calls Tryd.prog 3 #[.int .i64 n] w fun e w' => e = .returned (.bool true) ∧ Ext w w' := by
  obtain ⟨T, hT⟩ : ∃ T, T = allT n 4 := ⟨_, rfl⟩
  have hll := allT_len n hn 4
  have HM := Lib.hid (allT_mem n 4)
  rw [← hT] at hll HM
  have HML := Lib.hid fun (k j : Nat) => manyT_le n k hn j
  have HMA := Lib.hid fun (k : Nat) (h : k < 4) => manyT_all n h
  rw [← hT] at HML HMA
  have HTT := Lib.hid hT
  have i1 : (n : Int) ≤ 200 := by omega
  clear hT
  go_enter Tryd.func3, Tryd.ntmps3
  go_wp2_with fail
  refine (All_ok n _ (by omega) (by omega)).mono ?_
  rintro _ w1 ⟨⟨v1, rfl, hv1⟩, hb1⟩
  rw [Int.toNat_natCast, ← HTT.out] at hv1
  obtain ⟨A1, c1, rfl, hc1, R1, -⟩ := own_rd hv1
  have hlc := R1.2.1
  have hs1 := hb1.size
  clear hv1
  go_wp2_with fail
  go_loopw [6] (fun x wr => ∃ j : Nat, x = .int .i64 j ∧ j ≤ T.length ∧ Hid (Four wr w1.heap.size (fun k => manyT k (T.take j))) ∧ Ext w1 wr) (fun x _ => T.length - (intOf x).toNat)
  case atStart => exact ⟨0, rfl, Nat.zero_le _, Bk.at_ _ _ _ _ rfl, by (repeat (with_reducible first | exact Ext.refl _ | assumption | refine Ext.drew ?_ | refine Ext.drewN ?_ _ | refine Ext.alloc ?_ _ | refine Ext.trans ?_ (by with_reducible assumption)))⟩
  case round =>
    obtain ⟨j, rfl, hj, HF, hbw⟩ := hrel
    by_cases hc : j < T.length
    · have hgj := List.getElem?_eq_getElem (l := T) (i := j) hc
      obtain ⟨k, i, m, k1, k2, k3, k4, k5⟩ := HM.out _ (List.mem_of_getElem? hgj)
      obtain ⟨ad, rfl, hb, d0, d1, d2⟩ := (R1.ext hbw).getT hgj
      rw [k2] at hgj d0 d1 d2
      have HTS : Hid (T.take (j + 1) = T.take j ++ [⟨(k : Int), (i : Int), (m : Int)⟩]) := by
        show _ = _
        obtain ⟨h1, h2⟩ := List.getElem?_eq_some_iff.1 hgj
        rw [List.take_succ_eq_append_getElem h1, h2]
      have F0 := HF.out
      have hlt := F0.lt
      have hck := F0.cell k1
      have hfk := F0.frozen k
      have hml : manyT k (T.take j) ≤ 200 := HML.out k j
      have i2 : (k : Int) < 4 := by omega
      have i3 : (0 : Int) ≤ (k : Int) := by omega
      have i4 : (k : Int) ≤ 3 := by omega
      have i5 : (1 : Int) ≤ (m : Int) := by omega
      have i6 : (m : Int) ≤ 4 := by omega
      obtain ⟨B, hB⟩ : ∃ B, B = w1.heap.size := ⟨_, rfl⟩
      rw [← hB] at hlt hck hfk HF
      have HB := Lib.hid hB
      have HN : Hid (manyT k (T.take (j + 1)) = manyT k (T.take j) + m) := by show _ = _; rw [HTS.out, manyT_snoc, if_pos rfl]
      have HO : Hid (∀ k', k' ≠ k → manyT k' (T.take (j + 1)) = manyT k' (T.take j)) := by intro k' hk'; rw [HTS.out, manyT_snoc, if_neg hk']
      clear hgj k2 k5 F0
      generalize manyT k (T.take j) = q at *
      rw [← hB]
      clear hB
      have e9 : IntKind.i64.wrap ((q : Int) + (m : Int)) = (q : Int) + (m : Int) := IntWalk.i64_in _ (by omega)
      go_wp2_with fail
      go_region
      all_goals
        go_wp2_with fail
        go_roundw
        case rel => exact ⟨j + 1, by go_num, by omega, Bk.alloc (Four.set (f' := fun k => manyT k (T.take (j + 1))) HF.out k1 _ (by rw [HN.out]; push_cast; rfl) (fun k' hk' => HO.out k' hk')) _, Ext.drew (Ext.alloc (hbw.setCell (p := ⟨B, k, none⟩) (by rw [HB.out]; exact Nat.le_refl _) _) _)⟩
        case measure => simp [intOf]; omega
    · obtain rfl : j = T.length := by omega
      have F0 := HF.out
      rw [List.take_length] at F0
      have r0 := F0.cell (k := 0) (by omega)
      have r1 := F0.cell (k := 1) (by omega)
      have r2 := F0.cell (k := 2) (by omega)
      have r3 := F0.cell (k := 3) (by omega)
      have e0 : ((n / 4 ^ 0 : Nat) : Int) = (n : Int) := by simp
      have e1 : ((n / 4 ^ 1 : Nat) : Int) = (n : Int) / 4 := by simp
      have e2 : ((n / 4 ^ 2 : Nat) : Int) = (n : Int) / 16 := by simp
      have e3 : ((n / 4 ^ 3 : Nat) : Int) = (n : Int) / 64 := by simp
      rw [HMA.out 0 (by omega), e0] at r0
      rw [HMA.out 1 (by omega), e1] at r1
      rw [HMA.out 2 (by omega), e2] at r2
      rw [HMA.out 3 (by omega), e3] at r3
      clear e0 e1 e2 e3 F0
      go_wp2_with fail
      go_ret
      exact ⟨rfl, hb1.trans hbw⟩

set_option maxRecDepth 100000 in
theorem walk (n : Int) (w : World) (h0 : igood n) (hg : ErrG w) :
    Calls Tryd.prog 3 #[.int .i64 n] w fun e w' => e = .returned (.bool true) ∧ Ext w w' := by
  by_cases hn : 0 ≤ n ∧ n ≤ 200
  · obtain ⟨n, rfl⟩ := Int.eq_ofNat_of_zero_le hn.1
    exact walk_yes n w (by omega) hg
  · have h' : n < 0 ∨ (0 ≤ n ∧ 200 < n) := by omega
    have H1 : Hid (errV 1 = errR 1) := rfl
    have HN := Lib.hid hn
    clear hn h0
    rcases h' with h | ⟨h, h'⟩
    all_goals
      go_enter Tryd.func3, Tryd.ntmps3
      go_wp2_with fail
      refine (All_bad n _ HN.out).mono ?_
      rw [H1.out]
      rintro _ w1 ⟨rfl, hb1⟩
      go_wp2_with fail
      refine (Error_any 1 1 _ (hg.ext hb1)).mono ?_
      rintro _ w2 ⟨rfl, hb2⟩
      go_wp2_with fail
      go_ret
      exact ⟨rfl, hb1.trans hb2⟩
end Go.Proofs.YtgfkalhpefjenaaDoor.tileMany
