/- slices.Backward at []int: its contract; a range over it. -/
import Derived.RangeFuncNested
import Derived.RangeFuncBox
import Derived.RangeFuncBound
import Derived.RangeFuncCalls
import Derived.RangeFuncLeaves
import Derived.Shelf.Abstract
import Derived.Shelf.RegionOpen
import Derived.WalkKit
import Derived.OwnWalkIn
import Derived.TacticsInMore
import Derived.LoopNIn
import Derived.LoopIn
import Derived.Test.YtcpnhmjibihpkaaPeaks2
namespace Go.Proofs.Ytcpnhmjibihpkaa
open Go.RowKit Go.Shelf
set_option linter.unusedVariables false
attribute [local go_sem] Oper.semAt_some

/-- what has come when k rounds are over -/
def upto {α : Type} (f : Nat → α) (k : Nat) : List α := (List.range k).map f
theorem upto_succ {α : Type} (f : Nat → α) (k : Nat) : upto f (k + 1) = upto f k ++ [f k] := by simp [upto, List.range_succ]
theorem upto_length {α : Type} (f : Nat → α) (k : Nat) : (upto f k).length = k := by simp [upto]
/-- an index and a value that is not negative -/
abbrev IV := { x : Nat × Int // 0 ≤ x.2 }
def ivs (zs : List Int) (hz : ∀ j : Nat, 0 ≤ zs[j]?.getD 0) (k : Nat) : IV := ⟨(zs.length - 1 - k, zs[zs.length - 1 - k]?.getD 0), hz _⟩
theorem ivs_rev (zs : List Int) (hz : ∀ j : Nat, 0 ≤ zs[j]?.getD 0) : (upto (ivs zs hz) zs.length).map (fun x => x.1.2) = zs.reverse := by
  apply List.ext_getElem
  · simp [upto]
  · intro i h1 h2
    simp [upto] at h1
    have : zs.length - 1 - i < zs.length := by omega
    simp [upto, ivs, List.getElem_reverse, this]

/-- two blocks of cells lie as they lay -/
def Kp2 (b B : Nat) (W W' : World) : Prop := ∀ i, (i = b ∨ i = B) → ∀ o : Obj, W.heap[i]? = some o → o.isCells = true → W'.heap[i]? = some o
theorem Kp2.refl (b B : Nat) (W : World) : Kp2 b B W W := fun _ _ _ h _ => h
theorem Kp2.trans {b B : Nat} {X Y Z : World} (h : Kp2 b B X Y) (k : Kp2 b B Y Z) : Kp2 b B X Z := fun i hi o ho hc => k i hi o (h i hi o ho hc) hc
theorem Kp2.putObj {b B : Nat} (N : Nat) (W : World) (l : Nat) (o o' : Obj) (_ : N ≤ l) (h : W.heap[l]? = some o) (hc : o.isCells = false) (_ : o.isWalk = false) : Kp2 b B W (W.putObj l o') := fun i _ ob ho hcb => by
  have hne : i ≠ l := fun e => by subst e; rw [h] at ho; cases ho; rw [hc] at hcb; cases hcb
  exact (World.putObj_heap_other hne).trans ho
theorem Kp2.cell {b B : Nat} {W W' : World} (h : Kp2 b B W W') {i j : Nat} (hi : i = b ∨ i = B) {o : Obj} (ho : W.heap[i]? = some o) (hc : o.isCells = true) : W'.cell? ⟨i, j, none⟩ = W.cell? ⟨i, j, none⟩ :=
  World.cell?_of_block ((h i hi o ho hc).trans ho.symm)
def IsC (W : World) (i : Nat) : Prop := ∃ o : Obj, W.heap[i]? = some o ∧ o.isCells = true

set_option maxRecDepth 100000 in
set_option maxHeartbeats 2000000 in
theorem back1_in (F : Fence) (n : Nat) (h7 : F.fn 102) (hro : F.round = none) (hn : 1 ≤ n) (l Bs b cap : Nat) (zs : List Int) (hz : ∀ j : Nat, 0 ≤ zs[j]?.getD 0) (hreach : zs.length ≤ 4096) (J Jx : List IV → World → Prop)
    (hY : ∀ (pre : List IV) (x : IV) W, J pre W → pre.length < zs.length → YieldAt F (n - 1) Try.prog l #[.int .i64 (x.1.1 : Int), .int .i64 x.1.2] W fun e W' =>
      (e = .returned (.bool true) ∧ J (pre ++ [x]) W' ∧ Kp2 b Bs W W') ∨ (e = .returned (.bool false) ∧ Jx (pre ++ [x]) W'))
    (W : World) (hBs : W.cell? ⟨Bs, 0, none⟩ = some (.slice (some ⟨b, 0, none⟩) zs.length cap)) (hBn : IsC W Bs) (hb : IsC W b) (hc : ∀ j, j < zs.length → W.cell? ⟨b, j, none⟩ = some (.int .i64 (zs[j]?.getD 0))) (h0 : J [] W) :
    CallsIn F n Try.prog 102 #[.func (.yield l) #[] #[], .pointer (some ⟨Bs, 0, none⟩)] W fun e W' => (∃ v, e = .returned v) ∧
      ((∃ ys, ys = upto (ivs zs hz) zs.length ∧ J ys W') ∨ (∃ pre, (∃ k, k ≤ zs.length ∧ pre = upto (ivs zs hz) k) ∧ Jx pre W')) := by
  obtain ⟨len, hlen⟩ : ∃ len, len = zs.length := ⟨_, rfl⟩
  rw [← hlen] at hreach hY hBs hc ⊢
  have HLEN := Lib.hid hlen
  obtain ⟨ob, hb1, hb2⟩ := hb
  obtain ⟨oB, hB1, hB2⟩ := hBn
  clear hlen
  refine callsIn_of_wp Try.func102 rfl h7 ?_ hro
  simp only [Try.ntmps102, List.size_toArray, List.length_cons, List.length_nil, Nat.reduceAdd, Nat.reduceSub, Array.replicate_succ, Array.replicate_zero, List.push_toArray, List.append_toArray, List.nil_append, List.cons_append]
  gi_wp2
  gi_loopw [3] (fun i wr => ∃ k : Nat, k ≤ len ∧ i = .int .i64 ((len : Int) - 1 - k) ∧ J (upto (ivs zs hz) k) wr ∧ Kp2 b Bs W wr)
    (fun i _ => ((intOf i) + 1).toNat)
  case atStart => exact ⟨0, Nat.zero_le _, by simp, h0, Kp2.refl _ _ _⟩
  case round =>
    obtain ⟨k, hk, rfl, hJs, hnx⟩ := hrel
    by_cases hlt : k < len
    · obtain ⟨i, hi⟩ : ∃ i : Nat, i = len - 1 - k := ⟨_, rfl⟩
      have hii : (len : Int) - 1 - (k : Int) = (i : Int) := by omega
      rw [hii]
      have hcx : wr.cell? ⟨b, i, none⟩ = some (.int .i64 (zs[i]?.getD 0)) := (hnx.cell (.inl rfl) hb1 hb2).trans (hc i (by omega))
      have hbx : wr.cell? ⟨Bs, 0, none⟩ = some (.slice (some ⟨b, 0, none⟩) len cap) := (hnx.cell (.inr rfl) hB1 hB2).trans hBs
      obtain ⟨fn, tmps, assign, body, hy, hR⟩ := hY _ (ivs zs hz k) wr hJs (by rw [upto_length]; exact hlt)
      have e1 : (ivs zs hz k).1.1 = i := by show zs.length - 1 - k = i; rw [← HLEN.out, hi]
      have e2 : (ivs zs hz k).1.2 = zs[i]?.getD 0 := by show zs[zs.length - 1 - k]?.getD 0 = _; rw [← HLEN.out, ← hi]
      rw [e1, e2] at hy
      have hil : i < len := by omega
      have HII := Lib.hid hii
      clear hi hii e1 e2
      gi_wp2
      refine hR.mono ?_
      rintro e W3 (⟨rfl, hJ3, hk3⟩ | ⟨rfl, hJx3⟩)
      · gi_wp2
        go_roundw
        case rel => exact ⟨k + 1, by omega, by congr 1; have := HII.out; omega, by rw [upto_succ]; exact hJ3, hnx.trans hk3⟩
        case measure => simp [intOf]
      · gi_wp2
        refine bodyPost_ret (results_none rfl _ _ _) rfl ?_
        exact ⟨⟨_, rfl⟩, .inr ⟨_, ⟨k + 1, by omega, (upto_succ _ _).symm⟩, hJx3⟩⟩
    · obtain rfl : k = len := by omega
      have hii : (k : Int) - 1 - (k : Int) = -1 := by omega
      rw [hii]
      gi_wp2
      go_end0
      exact ⟨⟨_, rfl⟩, .inl ⟨_, rfl, hJs⟩⟩
set_option maxHeartbeats 1000000 in
theorem back_in (F : Fence) (n : Nat) (h5 : F.fn 89) (hro : F.round = none) (a : Option Addr) (len cap : Nat) (w : World) :
    CallsIn F n Try.prog 89 #[.slice a len cap] w fun e w' => e = .returned (.func (.func 102) #[] #[.pointer (some ⟨w.heap.size, 0, none⟩)]) ∧ w' = w.alloc (.cells #[.slice a len cap] 48) := by
  refine callsIn_of_wp Try.func89 rfl h5 ?_ hro
  simp only [Try.ntmps89, List.size_toArray, List.length_cons, List.length_nil, Nat.reduceAdd, Nat.reduceSub, Array.replicate_succ, Array.replicate_zero, List.push_toArray, List.append_toArray, List.nil_append, List.cons_append]
  gi_wp2
  go_ret
  exact ⟨rfl, rfl⟩
theorem back_stops (F : Fence) (n : Nat) (h7 : F.fn 102) (hro : F.round = none) (hn : 1 ≤ n) (Bs b cap : Nat) (zs : List Int) (hz : ∀ j : Nat, 0 ≤ zs[j]?.getD 0) (hreach : zs.length ≤ 4096) (w : World) (hb : IsC w b) (hBs : IsC w Bs)
    (hc : w.cell? ⟨Bs, 0, none⟩ = some (.slice (some ⟨b, 0, none⟩) zs.length cap)) (hI : ∀ j, j < zs.length → w.cell? ⟨b, j, none⟩ = some (.int .i64 (zs[j]?.getD 0))) :
    SeqStopsK F n Try.prog 102 #[.pointer (some ⟨Bs, 0, none⟩)] (fun x : IV => #[Value.int .i64 (x.1.1 : Int), Value.int .i64 x.1.2]) (Kp2 b Bs) (fun ys => ys = upto (ivs zs hz) zs.length)
      (fun pre => ∃ k, k ≤ zs.length ∧ pre = upto (ivs zs hz) k) zs.length w := fun l J Jx W hW _ _ hY h0 => by
  obtain ⟨ob, h1, h2⟩ := hb
  obtain ⟨oB, h3, h4⟩ := hBs
  have l1 : b < w.heap.size := (Array.getElem?_eq_some_iff.1 h1).1
  have l2 : Bs < w.heap.size := (Array.getElem?_eq_some_iff.1 h3).1
  exact back1_in F n h7 hro hn l Bs b cap zs hz hreach J Jx hY W ((hW.cell (p := ⟨Bs, 0, none⟩) l2).trans hc) ⟨oB, (hW.block Bs l2).trans h3, h4⟩ ⟨ob, (hW.block b l1).trans h1, h2⟩ (fun j hj => (hW.cell (p := ⟨b, j, none⟩) l1).trans (hI j hj)) h0
end Go.Proofs.Ytcpnhmjibihpkaa
