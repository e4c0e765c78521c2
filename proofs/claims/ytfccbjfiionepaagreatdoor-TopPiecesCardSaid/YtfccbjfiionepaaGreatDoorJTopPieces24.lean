/- slices.Backward at []int: its contract; a range over it. -/
import Derived.RangeFuncNested
import Derived.RangeFuncBox
import Derived.RangeFuncBound
import Derived.RangeFuncCalls
import Derived.RangeFuncLeaves
import Derived.Shelf.Abstract
import Derived.Shelf.RegionOpen
import Derived.WalkKit
import Derived.OwnWalkIn
import Derived.TacticsInMore
import Derived.LoopNIn
import Derived.LoopIn
import Derived.Test.YtfccbjfiionepaaGreatDoorJTopPieces23
import Derived.Deep.DeepCutAuto
import Derived.Deep.CutBlock
namespace Go.Proofs.YtfccbjfiionepaaGreatDoor
open Go.RowKit Go.Shelf
set_option linter.unusedVariables false
attribute [local go_sem] Oper.semAt_some

/-- what has come when k rounds are over -/
def upto {α : Type} (f : Nat → α) (k : Nat) : List α := (List.range k).map f
theorem upto_succ {α : Type} (f : Nat → α) (k : Nat) : upto f (k + 1) = upto f k ++ [f k] := by simp [upto, List.range_succ]
theorem upto_length {α : Type} (f : Nat → α) (k : Nat) : (upto f k).length = k := by simp [upto]
/-- an index and a value that is not negative -/
abbrev IV := { x : Nat × Int // 0 ≤ x.2 }
def ivs (zs : List Int) (hz : ∀ j : Nat, 0 ≤ zs[j]?.getD 0) (k : Nat) : IV := ⟨(zs.length - 1 - k, zs[zs.length - 1 - k]?.getD 0), hz _⟩
theorem ivs_rev (zs : List Int) (hz : ∀ j : Nat, 0 ≤ zs[j]?.getD 0) : (upto (ivs zs hz) zs.length).map (fun x => x.1.2) = zs.reverse := by
  apply List.ext_getElem
  · simp [upto]
  · intro i h1 h2
    simp [upto] at h1
    have : zs.length - 1 - i < zs.length := by omega
    simp [upto, ivs, List.getElem_reverse, this]

/-- two blocks of cells lie as they lay -/
def Kp2 (b B : Nat) (W W' : World) : Prop := ∀ i, (i = b ∨ i = B) → ∀ o : Obj, W.heap[i]? = some o → o.isCells = true → W'.heap[i]? = some o
theorem Kp2.refl (b B : Nat) (W : World) : Kp2 b B W W := fun _ _ _ h _ => h
theorem Kp2.trans {b B : Nat} {X Y Z : World} (h : Kp2 b B X Y) (k : Kp2 b B Y Z) : Kp2 b B X Z := fun i hi o ho hc => k i hi o (h i hi o ho hc) hc
theorem Kp2.putObj {b B : Nat} (N : Nat) (W : World) (l : Nat) (o o' : Obj) (_ : N ≤ l) (h : W.heap[l]? = some o) (hc : o.isCells = false) (_ : o.isWalk = false) : Kp2 b B W (W.putObj l o') := fun i _ ob ho hcb => by
  have hne : i ≠ l := fun e => by subst e; rw [h] at ho; cases ho; rw [hc] at hcb; cases hcb
  exact (World.putObj_heap_other hne).trans ho
theorem Kp2.cell {b B : Nat} {W W' : World} (h : Kp2 b B W W') {i j : Nat} (hi : i = b ∨ i = B) {o : Obj} (ho : W.heap[i]? = some o) (hc : o.isCells = true) : W'.cell? ⟨i, j, none⟩ = W.cell? ⟨i, j, none⟩ :=
  World.cell?_of_block ((h i hi o ho hc).trans ho.symm)
def IsC (W : World) (i : Nat) : Prop := ∃ o : Obj, W.heap[i]? = some o ∧ o.isCells = true

set_option maxRecDepth 100000 in
set_option maxHeartbeats 2000000 in
theorem back1_in (F : Fence) (n : Nat) (h7 : F.fn 93) (hro : F.round = none) (hn : 1 ≤ n) (l Bs b cap : Nat) (zs : List Int) (hz : ∀ j : Nat, 0 ≤ zs[j]?.getD 0) (hreach : zs.length ≤ 4096) (J Jx : List IV → World → Prop)
    (hY : ∀ (pre : List IV) (x : IV) W, J pre W → pre.length < zs.length → YieldAt F (n - 1) Tryz.prog l #[.int .i64 (x.1.1 : Int), .int .i64 x.1.2] W fun e W' =>
      (e = .returned (.bool true) ∧ J (pre ++ [x]) W' ∧ Kp2 b Bs W W') ∨ (e = .returned (.bool false) ∧ Jx (pre ++ [x]) W'))
    (W : World) (hBs : W.cell? ⟨Bs, 0, none⟩ = some (.slice (some ⟨b, 0, none⟩) zs.length cap)) (hBn : IsC W Bs) (hb : IsC W b) (hc : ∀ j, j < zs.length → W.cell? ⟨b, j, none⟩ = some (.int .i64 (zs[j]?.getD 0))) (h0 : J [] W) :
    CallsIn F n Tryz.prog 93 #[.func (.yield l) #[] #[], .pointer (some ⟨Bs, 0, none⟩)] W fun e W' => (∃ v, e = .returned v) ∧
      ((∃ ys, ys = upto (ivs zs hz) zs.length ∧ J ys W') ∨ (∃ pre, (∃ k, k ≤ zs.length ∧ pre = upto (ivs zs hz) k) ∧ Jx pre W')) := by
  obtain ⟨len, hlen⟩ : ∃ len, len = zs.length := ⟨_, rfl⟩
  rw [← hlen] at hreach hY hBs hc ⊢
  have HLEN := Lib.hid hlen
  obtain ⟨ob, hb1, hb2⟩ := hb
  obtain ⟨oB, hB1, hB2⟩ := hBn
  clear hlen
  refine callsIn_of_wp Tryz.func93 rfl h7 ?_ hro
  simp only [Tryz.ntmps93, List.size_toArray, List.length_cons, List.length_nil, Nat.reduceAdd, Nat.reduceSub, Array.replicate_succ, Array.replicate_zero, List.push_toArray, List.append_toArray, List.nil_append, List.cons_append]
  gi_wp2
  gi_loopw [3] (fun i wr => ∃ k : Nat, k ≤ len ∧ i = .int .i64 ((len : Int) - 1 - k) ∧ J (upto (ivs zs hz) k) wr ∧ Kp2 b Bs W wr)
    (fun i _ => ((intOf i) + 1).toNat)
  case atStart => exact ⟨0, Nat.zero_le _, by simp, h0, Kp2.refl _ _ _⟩
  case round =>
    obtain ⟨k, hk, rfl, hJs, hnx⟩ := hrel
    by_cases hlt : k < len
    · obtain ⟨i, hi⟩ : ∃ i : Nat, i = len - 1 - k := ⟨_, rfl⟩
      have hii : (len : Int) - 1 - (k : Int) = (i : Int) := by omega
      rw [hii]
      have hcx : wr.cell? ⟨b, i, none⟩ = some (.int .i64 (zs[i]?.getD 0)) := (hnx.cell (.inl rfl) hb1 hb2).trans (hc i (by omega))
      have hbx : wr.cell? ⟨Bs, 0, none⟩ = some (.slice (some ⟨b, 0, none⟩) len cap) := (hnx.cell (.inr rfl) hB1 hB2).trans hBs
      obtain ⟨fn, tmps, assign, body, hy, hR⟩ := hY _ (ivs zs hz k) wr hJs (by rw [upto_length]; exact hlt)
      have e1 : (ivs zs hz k).1.1 = i := by show zs.length - 1 - k = i; rw [← HLEN.out, hi]
      have e2 : (ivs zs hz k).1.2 = zs[i]?.getD 0 := by show zs[zs.length - 1 - k]?.getD 0 = _; rw [← HLEN.out, ← hi]
      rw [e1, e2] at hy
      have hil : i < len := by omega
      have HII := Lib.hid hii
      clear hi hii e1 e2
      gi_wp2
      refine hR.mono ?_
      rintro e W3 (⟨rfl, hJ3, hk3⟩ | ⟨rfl, hJx3⟩)
      · gi_wp2
        go_roundw
        case rel => exact ⟨k + 1, by omega, by congr 1; have := HII.out; omega, by rw [upto_succ]; exact hJ3, hnx.trans hk3⟩
        case measure => simp [intOf]
      · gi_wp2
        refine bodyPost_ret (results_none rfl _ _ _) rfl ?_
        exact ⟨⟨_, rfl⟩, .inr ⟨_, ⟨k + 1, by omega, (upto_succ _ _).symm⟩, hJx3⟩⟩
    · obtain rfl : k = len := by omega
      have hii : (k : Int) - 1 - (k : Int) = -1 := by omega
      rw [hii]
      gi_wp2
      go_end0
      exact ⟨⟨_, rfl⟩, .inl ⟨_, rfl, hJs⟩⟩
set_option maxHeartbeats 1000000 in
theorem back_in (F : Fence) (n : Nat) (h5 : F.fn 49) (hro : F.round = none) (a : Option Addr) (len cap : Nat) (w : World) :
    CallsIn F n Tryz.prog 49 #[.slice a len cap] w fun e w' => e = .returned (.func (.func 93) #[] #[.pointer (some ⟨w.heap.size, 0, none⟩)]) ∧ w' = w.alloc (.cells #[.slice a len cap] 24) := by
  refine callsIn_of_wp Tryz.func49 rfl h5 ?_ hro
  simp only [Tryz.ntmps49, List.size_toArray, List.length_cons, List.length_nil, Nat.reduceAdd, Nat.reduceSub, Array.replicate_succ, Array.replicate_zero, List.push_toArray, List.append_toArray, List.nil_append, List.cons_append]
  gi_wp2
  go_ret
  exact ⟨rfl, rfl⟩
theorem back_stops (F : Fence) (n : Nat) (h7 : F.fn 93) (hro : F.round = none) (hn : 1 ≤ n) (Bs b cap : Nat) (zs : List Int) (hz : ∀ j : Nat, 0 ≤ zs[j]?.getD 0) (hreach : zs.length ≤ 4096) (w : World) (hb : IsC w b) (hBs : IsC w Bs)
    (hc : w.cell? ⟨Bs, 0, none⟩ = some (.slice (some ⟨b, 0, none⟩) zs.length cap)) (hI : ∀ j, j < zs.length → w.cell? ⟨b, j, none⟩ = some (.int .i64 (zs[j]?.getD 0))) :
    SeqStopsK F n Tryz.prog 93 #[.pointer (some ⟨Bs, 0, none⟩)] (fun x : IV => #[Value.int .i64 (x.1.1 : Int), Value.int .i64 x.1.2]) (Kp2 b Bs) (fun ys => ys = upto (ivs zs hz) zs.length)
      (fun pre => ∃ k, k ≤ zs.length ∧ pre = upto (ivs zs hz) k) zs.length w := fun l J Jx W hW _ _ hY h0 => by
  obtain ⟨ob, h1, h2⟩ := hb
  obtain ⟨oB, h3, h4⟩ := hBs
  have l1 : b < w.heap.size := (Array.getElem?_eq_some_iff.1 h1).1
  have l2 : Bs < w.heap.size := (Array.getElem?_eq_some_iff.1 h3).1
  exact back1_in F n h7 hro hn l Bs b cap zs hz hreach J Jx hY W ((hW.cell (p := ⟨Bs, 0, none⟩) l2).trans hc) ⟨oB, (hW.block Bs l2).trans h3, h4⟩ ⟨ob, (hW.block b l1).trans h1, h2⟩ (fun j hj => (hW.cell (p := ⟨b, j, none⟩) l1).trans (hI j hj)) h0
end Go.Proofs.YtfccbjfiionepaaGreatDoor

/- Peaks: Root. -/
namespace Go.Proofs.YtfccbjfiionepaaGreatDoor
open Go.RowKit Go.Shelf
set_option linter.unusedVariables false
attribute [local go_sem] Oper.semAt_some

theorem foldN_snoc : ∀ (pre : List Int) (s x : Int), foldN s (pre ++ [x]) = nodeL x (foldN s pre)
  | [], _, _ => rfl
  | _ :: pre, _, x => foldN_snoc pre _ x
theorem foldN_vld : ∀ (pre : List Int) (s : Int), 0 ≤ s → 0 ≤ foldN s pre
  | [], _, h => h
  | p :: pre, s, h => foldN_vld pre _ (vld_true (vld_node p s)).1

set_option maxRecDepth 100000 in
set_option maxHeartbeats 2000000 in
theorem Root_yes {w : World} {base pb n : Nat} {v : Value} {hd : Int} {tl : List Int} (h : PkS w base pb v n (hd :: tl)) (hn : n ≠ 0) (hk : tl.length ≤ 200) (hv : allV (hd :: tl) = true) :
    Calls Tryz.prog 15 #[.pointer (some ⟨pb, 0, none⟩)] w fun e w' => e = .returned (.int .i64 (foldN hd tl)) ∧ Ext w w' := by
  obtain ⟨g, cap, rfl, hgp, hgl, hcl, hkc, hcm, hown⟩ := h.last
  have b0 := h.bk.cell 0
  have b1 := h.bk.cell 1
  have b1' := (h.bk.alloc (.cells #[.int .i64 hd] 3)).cell 1
  have hn0 : ((n : Int) == 0) = false := by simp; omega
  refine (callsIn_wide (n := 3)).1 ?_
  refine callsIn_of_wp_marks Tryz.func15 rfl trivial ?_ rfl
  simp only [Tryz.ntmps15, List.size_toArray, List.length_cons, List.length_nil, Nat.reduceAdd, Nat.reduceSub, Array.replicate_succ, Array.replicate_zero, List.push_toArray, List.append_toArray, List.nil_append, List.cons_append]
  have B1 := Bk.at_ w 3 #[.int .i64 hd] w.heap.size rfl
  have B2 := Bk.at_ (w.alloc (.cells #[.int .i64 hd] 3)) 24 #[.slice (some ⟨g, 0, none⟩) tl.length cap] (w.heap.size + 1) (by simp)
  have X2 : Ext w ((w.alloc (.cells #[.int .i64 hd] 3)).alloc (.cells #[.slice (some ⟨g, 0, none⟩) tl.length cap] 24)) := by (repeat (with_reducible first | exact Ext.refl _ | assumption | refine Ext.drew ?_ | refine Ext.drewN ?_ _ | refine Ext.alloc ?_ _ | refine Ext.trans ?_ (by with_reducible assumption)))
  have hz : ∀ j : Nat, 0 ≤ (tl.reverse)[j]?.getD 0 := by
    intro j
    cases hj : (tl.reverse)[j]? with
    | none => exact Int.le_refl _
    | some z =>
      have hm := List.mem_of_getElem? hj
      unfold allV at hv
      rw [List.all_eq_true] at hv
      exact (vld_true (hv z (by simp at hm; simp [hm]))).1
  have hd0 : 0 ≤ hd := by unfold allV at hv; rw [List.all_eq_true] at hv; exact (vld_true (hv hd (by simp))).1
  have hIC : IsC ((w.alloc (.cells #[.int .i64 hd] 3)).alloc (.cells #[.slice (some ⟨g, 0, none⟩) tl.length cap] 24)) g := by
    rcases hown.2 with ⟨hq, _⟩ | ⟨g', cap', cur, hq, _, hh, _⟩
    · cases hq
    · injection hq with e1
      injection e1 with e1
      injection e1 with e1
      subst e1
      exact ⟨_, (X2.block g hgl).trans hh, rfl⟩
  have hcs := hown.cells (g := g) rfl
  have hrl : tl.reverse.length = tl.length := List.length_reverse
  have hst := back_stops Fence.wide (3 - 1) trivial rfl (by decide) (w.heap.size + 1) g cap tl.reverse hz (by rw [hrl]; omega) _ hIC ⟨_, B2, rfl⟩ (by rw [hrl]; exact B2.cell 0)
    (fun j hj => by
      have := hcs j (.int .i64 ((tl.reverse)[j]?.getD 0)) (by rw [List.getElem?_map, List.getElem?_eq_getElem hj]; rfl)
      rw [add_mk, Nat.zero_add] at this
      exact (X2.cell (p := ⟨g, j, none⟩) hgl).trans this)
  gi_wp2
  refine ⟨trivial, ?_⟩
  refine (back_in Fence.wide _ trivial rfl _ _ _ _).mono ?_
  rintro _ _ ⟨rfl, rfl⟩
  gi_wp2
  refine wpIn_rangeFunc_ownF rfl (by decide) (gf := 93) (lb := #[.pointer (some ⟨w.heap.size + 1, 0, none⟩)]) rfl trivial (enters_of Tryz.func93 (by kernel_rfl) rfl)
    hst (fun h k => h.trans k) (fun W l o o' hl h hc hw => Kp2.putObj _ W l o o' hl h hc hw) (Below.refl _ _) (fun _ => rfl)
    (fun pre W => (W.cell? ⟨w.heap.size, 0, none⟩ = some (.int .i64 (foldN hd (pre.map fun x => x.1.2))) ∧ W.frozen? ⟨w.heap.size, 0, none⟩ = false) ∧ Below w.heap.size w W)
    (fun _ _ _ => False)
    (OwnFrom.and (Own.from (fun s A B row hs hg hr => ⟨cell_kept hs.1 hg hr, (frozen_kept hs.1 hg hr).trans hs.2⟩) _) (ownFrom_below (Nat.le_refl _) (by simp; omega)))
    (fun _ _ _ _ _ hs _ _ => hs)
    ⟨⟨(B1.alloc _).cell 0, (B1.alloc _).frozen 0⟩, X2⟩
    (fun x => { tmps := #[.pointer (some ⟨pb, 0, none⟩), undef, .int .i64 0, .int .i64 (tl.length : Nat), .pointer (some ⟨w.heap.size, 0, none⟩), undef, .int .i64 x.1.2, .pointer (some ⟨pb, 0, none⟩), .pointer (some ⟨pb, 0, none⟩), .pointer (some ⟨pb, 0, none⟩), .int .i64 n, .bool false, undef, .pointer (some ⟨pb, 0, none⟩), .pointer (some ⟨pb, 0, none⟩), .pointer (some ⟨pb, 1, none⟩), .slice (some ⟨g, 0, none⟩) (tl.length + 1) cap, .int .i64 ((tl.length : Int) + 1), .int .i64 (tl.length : Nat), .pointer (some ⟨pb, 0, none⟩), .pointer (some ⟨pb, 0, none⟩), .pointer (some ⟨pb, 1, none⟩), .slice (some ⟨g, 0, none⟩) (tl.length + 1) cap, .int .i64 (tl.length : Nat), .pointer (some ⟨g, tl.length, none⟩), .int .i64 hd, .pointer (some ⟨pb, 0, none⟩), .pointer (some ⟨pb, 0, none⟩), .pointer (some ⟨pb, 1, none⟩), .slice (some ⟨g, 0, none⟩) (tl.length + 1) cap, .int .i64 (tl.length : Nat), .slice (some ⟨g, 0, none⟩) tl.length cap, .func (.func 93) #[] #[.pointer (some ⟨w.heap.size + 1, 0, none⟩)], .int .i64 (x.1.1 : Int), .int .i64 x.1.2, undef, undef, undef, undef], defers := [] }) ?assign ?body ?done ?stop
  case assign =>
    intro l x W K hK
    gi_wp2
    exact hK
  case body =>
    rintro l pre x W ⟨⟨hc, hf⟩, hB⟩ _
    have HSM := Lib.hid (foldN_vld (pre.map fun x => x.1.2) hd hd0)
    have HFS := Lib.hid (foldN_snoc (pre.map fun x => x.1.2) hd x.1.2)
    generalize foldN hd (pre.map fun x => x.1.2) = sm at *
    have hW : w.heap.size < W.heap.size := World.block_lt_of_cell? W _ hc
    gi_wp2
    refine ⟨trivial, ?_⟩
    refine (CallsIn.inRound l (callsIn_wide.2 (NodeOf_any x.1.2 sm W x.2 HSM.out))).mono ?_
    rintro _ W1 ⟨rfl, hb1⟩
    have c1 : W1.cell? ⟨w.heap.size, 0, none⟩ = some (.int .i64 sm) := (hb1.cell hW).trans hc
    have f1 : W1.frozen? ⟨w.heap.size, 0, none⟩ = false := (hb1.frozen hW).trans hf
    have hW1 : w.heap.size < W1.heap.size := Nat.lt_of_lt_of_le hW hb1.size
    gi_wp2
    have hBW : Ext w W1 := Ext.trans hB hb1
    refine ⟨(KeepsOthers.of_grownBy (hb1.gb none) (fun j o e => by cases e)).trans (KeepsOthers.setCell _ _ _), ?_, ⟨?_, by rw [World.frozen?_setCell]; exact f1⟩, hBW.setCell (p := ⟨w.heap.size, 0, none⟩) (Nat.le_refl _) _⟩
    · intro i hi o ho hcb
      have hil : i < W.heap.size := (Array.getElem?_eq_some_iff.1 ho).1
      have hne : i ≠ w.heap.size := by rcases hi with rfl | rfl <;> omega
      exact (Below.heap_setCell W1 ⟨w.heap.size, 0, none⟩ _ i hne).trans ((hb1.block i hil).trans ho)
    · rw [List.map_append, show ([x].map fun x => x.1.2) = [x.1.2] from rfl, HFS.out]
      exact World.cell?_setCell_same' _ _ _ (by rw [c1]; rfl)
  case done =>
    rintro D ys W hD rfl ⟨⟨hc, _⟩, hB⟩ hK
    have hfin : foldN hd ((upto (ivs tl.reverse hz) tl.reverse.length).map fun x => x.1.2) = foldN hd tl := by rw [ivs_rev, List.reverse_reverse]
    rw [hfin] at hc
    gi_wp2
    refine ⟨by simp, .inl ⟨_, _, rfl, run_takeDeferred hK, ?_⟩⟩
    exact ⟨_, results_tmp rfl _ _ _, rfl, hB.trans (belowK_b (w := w) (Nat.le_refl _) W D _ _ (by simp at hD; omega) hK rfl rfl)⟩
  case stop =>
    rintro D c pre W _ _ h _
    exact h.elim

set_option maxRecDepth 100000 in
theorem Root_no {w : World} {base pb : Nat} {v : Value} {L : List Int} (h : PkS w base pb v 0 L) :
    Calls Tryz.prog 15 #[.pointer (some ⟨pb, 0, none⟩)] w fun e w' => e = .returned (.int .i64 (sumL [])) ∧ Ext w w' := by
  have b0 := h.bk.cell 0
  refine (callsIn_wide (n := 3)).1 ?_
  refine callsIn_of_wp_marks Tryz.func15 rfl trivial ?_ rfl
  simp only [Tryz.ntmps15, List.size_toArray, List.length_cons, List.length_nil, Nat.reduceAdd, Nat.reduceSub, Array.replicate_succ, Array.replicate_zero, List.push_toArray, List.append_toArray, List.nil_append, List.cons_append]
  gi_wp2
  refine ⟨trivial, ?_⟩
  refine (callsIn_wide.2 (Sum_any ⟨#[]⟩ w (Nat.zero_le _))).mono ?_
  rintro _ W1 ⟨rfl, hb1⟩
  gi_wp2
  exact ⟨_, results_tmp rfl _ _ _, rfl, hb1⟩

theorem PRoot_any {w : World} {base pb : Nat} {r : Option Nat} {xs : List Int} (h : Pk w base pb r xs) (hl : xs.length ≤ 200) (hv : allV xs = true) :
    Calls Tryz.prog 15 #[.pointer (some ⟨pb, 0, none⟩)] w fun e w' => e = .returned (.int .i64 (ofL xs)) ∧ Ext w w' := by
  obtain ⟨v, rfl, hp⟩ := h
  have hr := rootF_all (xs := xs) (by omega)
  have hpv := allV_parts hv (by omega) xs.length 0 xs.length (Nat.le_refl _) (by rw [Nat.pow_zero]; omega)
  have hpl := partsF_len xs xs.length 0 xs.length (Nat.le_refl _)
  have hol := ones_le xs.length _ (Nat.le_refl _)
  by_cases h0 : xs.length = 0
  · rw [h0] at hp hr
    rw [partsF_zero] at hr
    rw [← hr]
    exact Root_no hp
  · generalize partsF xs 0 xs.length = L at *
    cases L with
    | nil =>
      exfalso
      rw [ones, dif_neg h0] at hpl
      have hne : ones xs.length ≠ 0 := fun h => by
        have : ∀ (M m : Nat), m ≤ M → m ≠ 0 → ones m ≠ 0 := by
          intro M
          induction M with
          | zero => intro m h1 h2; omega
          | succ M ih =>
            intro m h1 h2 h3
            rw [ones, dif_neg h2] at h3
            by_cases hm : m / 2 = 0
            · omega
            · have := ih (m / 2) (by omega) hm; omega
        exact this _ _ (Nat.le_refl _) h0 h
      rw [ones, dif_neg h0] at hne
      exact hne hpl.symm
    | cons hd tl =>
      rw [← hr]
      exact Root_yes hp h0 (by simp at hpl; omega) hpv
end Go.Proofs.YtfccbjfiionepaaGreatDoor

/- Peaks: Of. -/
namespace Go.Proofs.YtfccbjfiionepaaGreatDoor
open Go.RowKit Go.WideShapes
set_option linter.unusedVariables false
attribute [local go_sem ↓] Go.wp_at_zero Go.wp_at_succ

def onesF : Nat → Nat → Nat
  | 0, _ => 0
  | f + 1, m => m % 2 + onesF f (m / 2)
theorem ones_F : ∀ (f m : Nat), m < 2 ^ f → ones m = onesF f m
  | 0, m, h => by
    obtain rfl : m = 0 := by simpa using h
    simp [ones, onesF]
  | f + 1, m, h => by
    by_cases h0 : m = 0
    · subst h0
      rw [ones, dif_pos rfl, onesF, ← ones_F f 0 (Nat.pow_pos (by decide))]
      simp [ones]
    · rw [ones, dif_neg h0, onesF, ones_F f (m / 2) (by rw [Nat.pow_succ] at h; omega)]
def oc1 (x : Int) : Int := IntKind.u64.wrap (bits .and .u64 (x / 2) 6148914691236517205 + bits .and .u64 x 6148914691236517205)
def oc2 (x : Int) : Int := IntKind.u64.wrap (bits .and .u64 (x / 4) 3689348814741910323 + bits .and .u64 x 3689348814741910323)
def oc3 (x : Int) : Int := bits .and .u64 (IntKind.u64.wrap (x / 16 + x)) 1085102592571150095
def oc4 (x : Int) : Int := IntKind.u64.wrap (x + x / 256)
def oc5 (x : Int) : Int := IntKind.u64.wrap (x + x / 65536)
def oc6 (x : Int) : Int := IntKind.u64.wrap (x + x / 4294967296)
theorem oc_all : ∀ k : Fin 201, bits .and .i64 (wrap64 (oc6 (oc5 (oc4 (oc3 (oc2 (oc1 ((k.val : Nat) : Int)))))))) 127 = ((onesF 8 k.val : Nat) : Int) := by decide +kernel
theorem Clone_rd {w : World} {A : Option Addr} {n c : Nat} {xs : List Int} (hr : Rd w 1 A n c (xs.map (Value.int .i64))) (hl : n ≤ 4096) :
    Calls Tryz.prog 54 #[.slice A n c] w fun e w' => (∃ v', e = .returned v' ∧ OwnI w w' v' xs) ∧ Ext w w' := by
  have hx := hr.lenI
  cases A with
  | none =>
    have : n = 0 := by
      rcases Nat.eq_zero_or_pos n with h | h
      · exact h
      · obtain ⟨ad, h1, _⟩ := hr.2.2 h; cases h1
    subst this
    have : xs = [] := List.eq_nil_of_length_eq_zero hx
    subst this
    refine (Tryz.slices_Clone_int_nil 0 c w).mono fun e w' hh => ?_
    obtain ⟨rfl, rfl⟩ := hh
    exact ⟨⟨_, rfl, own_nil _ _ _ _⟩, Ext.refl _⟩
  | some a =>
    rcases Nat.eq_zero_or_pos n with h | h
    · subst h
      have : xs = [] := List.eq_nil_of_length_eq_zero hx
      subst this
      refine (Tryz.slices_Clone_int_zero a c w).mono fun e w' hh => ?_
      obtain ⟨v', rfl, h1, _, h3⟩ := hh
      exact ⟨⟨v', rfl, h1⟩, h3⟩
    · obtain ⟨ad, h1, h2, h3⟩ := hr.2.2 h
      obtain rfl : a = ad := by injection h1
      have hat : ∀ j, j < xs.length → w.cell? (a.add j) = some (.int .i64 (xs.getD j 0)) := fun j hj => h3 j _ (by rw [List.getElem?_map, List.getD_eq_getElem?_getD, List.getElem?_eq_getElem hj]; rfl)
      obtain ⟨b, off, sp⟩ := a
      have h0 := hat 0 (by omega)
      have hs : sp = none := by
        cases sp with
        | none => rfl
        | some q =>
          rw [show (⟨b, off, some q⟩ : Addr).add 0 = ⟨b, off, some q⟩ from rfl] at h0
          unfold World.cell? at h0
          simp at h0
          split at h0 <;> simp at h0
      subst hs
      refine (Tryz.slices_Clone_int b off n c xs w (by omega) (by omega) fun j hj => ?_).mono fun e w' hh => ?_
      · have := hat j hj
        rwa [add_mk] at this
      · obtain ⟨v', rfl, h1, _, h3⟩ := hh
        refine ⟨⟨v', rfl, ?_⟩, h3⟩
        rw [← hx, List.take_of_length_le (Nat.le_refl _)] at h1
        exact h1
/-- what Of tells -/
def ofK (size : Int) (xs : List Int) : Int := if size < 0 ∨ 200 < size then 1 else if xs.length ≠ ones size.toNat then 3 else if allV xs = true then 0 else 1
theorem ofK_range {size : Int} {xs : List Int} (h : size < 0 ∨ 200 < size) : ofK size xs = 1 := if_pos h
theorem ofK_len {size : Int} {xs : List Int} (h : ¬ (size < 0 ∨ 200 < size)) (h2 : xs.length ≠ ones size.toNat) : ofK size xs = 3 := by unfold ofK; rw [if_neg h, if_pos h2]
theorem ofK_val {size : Int} {xs : List Int} (h : ¬ (size < 0 ∨ 200 < size)) (h2 : ¬ xs.length ≠ ones size.toNat) : ofK size xs = if allV xs = true then 0 else 1 := by unfold ofK; rw [if_neg h, if_neg h2]
theorem ofK_zero {size : Int} {xs : List Int} (h : ofK size xs = 0) : 0 ≤ size ∧ size ≤ 200 ∧ xs.length = ones size.toNat := by
  by_cases h1 : size < 0 ∨ 200 < size
  · rw [ofK_range h1] at h; cases h
  · by_cases h2 : xs.length ≠ ones size.toNat
    · rw [ofK_len h1 h2] at h; cases h
    · exact ⟨by omega, by omega, by omega⟩
def OfPost (size : Int) (xs : List Int) (w : World) (e : Ending) (w' : World) : Prop :=
  (ofK size xs ≠ 0 ∧ e = .returned (.tuple #[.pointer none, errR (ofK size xs)])) ∨
  (ofK size xs = 0 ∧ ∃ (qb : Nat) (v : Value), e = .returned (.tuple #[.pointer (some ⟨qb, 0, none⟩), .nilIface]) ∧ PkS w' w.heap.size qb v size.toNat xs.reverse)

theorem own_two {w w' : World} {base n size a : Nat} {e : TypeId} {v : Value} {xs : List Value} {row : Option Nat} (h : w.ownsRow base e size v n xs) (h2 : Two w w' a row) (ha : ∀ g, v.ownBlock = some g → g ≠ a ∧ row ≠ some g) : w'.ownsRow base e size v n xs := by
  refine ⟨h.1, ?_⟩
  rcases h.2 with h3 | ⟨g, cap, cur, rfl, hg, hh, r⟩
  · exact .inl h3
  · obtain ⟨q1, q2⟩ := ha g rfl
    exact .inr ⟨g, cap, cur, rfl, hg, (h2.block g (Array.getElem?_eq_some_iff.1 hh).1 q1 (fun e => q2 e.symm)).trans hh, r⟩
theorem Pk.kept {w w' : World} {base pb : Nat} {r row : Option Nat} {xs : List Int} (h : Pk w base pb r xs) (hg : w.grownBy w' row) (h1 : row ≠ some pb) (h2 : ∀ g, row = some g → r ≠ some g) : Pk w' base pb r xs := by
  obtain ⟨v, rfl, hp⟩ := h
  refine ⟨v, rfl, hp.le, hp.bk.kept hg h1, hp.own.kept hg ?_, hp.ne⟩
  cases hv : v.ownBlock with
  | none => exact .inl rfl
  | some g => exact .inr fun e => h2 g e.symm hv
theorem Pk.below {w : World} {base pb : Nat} {r : Option Nat} {xs : List Int} (h : Pk w base pb r xs) : pb < w.heap.size ∧ ∀ g, r = some g → g < w.heap.size := by
  obtain ⟨v, rfl, hp⟩ := h
  exact ⟨hp.bk.lt, fun g hg => (hp.own.lt g hg).2⟩
end Go.Proofs.YtfccbjfiionepaaGreatDoor
