/- Peaks: Root. -/
import Derived.Test.YtcpnhmjibihpkaaBackward
namespace Go.Proofs.Ytcpnhmjibihpkaa
open Go.RowKit Go.Shelf
set_option linter.unusedVariables false
attribute [local go_sem] Oper.semAt_some

theorem foldN_snoc : ∀ (pre : List Int) (s x : Int), foldN s (pre ++ [x]) = nodeL x (foldN s pre)
  | [], _, _ => rfl
  | _ :: pre, _, x => foldN_snoc pre _ x
theorem foldN_vld : ∀ (pre : List Int) (s : Int), 0 ≤ s → 0 ≤ foldN s pre
  | [], _, h => h
  | p :: pre, s, h => foldN_vld pre _ (vld_true (vld_node p s)).1

set_option maxRecDepth 100000 in
set_option maxHeartbeats 2000000 in
theorem Root_yes {w : World} {base pb n : Nat} {v : Value} {hd : Int} {tl : List Int} (h : PkS w base pb v n (hd :: tl)) (hn : n ≠ 0) (hk : tl.length ≤ 200) (hv : allV (hd :: tl) = true) :
    Calls Try.prog 50 #[.pointer (some ⟨pb, 0, none⟩)] w fun e w' => e = .returned (.int .i64 (foldN hd tl)) ∧ Ext w w' := by
  obtain ⟨g, cap, rfl, hgp, hgl, hcl, hkc, hcm, hown⟩ := h.last
  have b0 := h.bk.cell 0
  have b1 := h.bk.cell 1
  have b1' := (h.bk.alloc (.cells #[.int .i64 hd] 3)).cell 1
  have hn0 : ((n : Int) == 0) = false := by simp; omega
  refine (callsIn_wide (n := 3)).1 ?_
  refine callsIn_of_wp_marks Try.func50 rfl trivial ?_ rfl
  simp only [Try.ntmps50, List.size_toArray, List.length_cons, List.length_nil, Nat.reduceAdd, Nat.reduceSub, Array.replicate_succ, Array.replicate_zero, List.push_toArray, List.append_toArray, List.nil_append, List.cons_append]
  have B1 := Bk.at_ w 3 #[.int .i64 hd] w.heap.size rfl
  have B2 := Bk.at_ (w.alloc (.cells #[.int .i64 hd] 3)) 48 #[.slice (some ⟨g, 0, none⟩) tl.length cap] (w.heap.size + 1) (by simp)
  have X2 : Ext w ((w.alloc (.cells #[.int .i64 hd] 3)).alloc (.cells #[.slice (some ⟨g, 0, none⟩) tl.length cap] 48)) := by (repeat (with_reducible first | exact Ext.refl _ | assumption | refine Ext.drew ?_ | refine Ext.drewN ?_ _ | refine Ext.alloc ?_ _ | refine Ext.trans ?_ (by with_reducible assumption)))
  have hz : ∀ j : Nat, 0 ≤ (tl.reverse)[j]?.getD 0 := by
    intro j
    cases hj : (tl.reverse)[j]? with
    | none => exact Int.le_refl _
    | some z =>
      have hm := List.mem_of_getElem? hj
      unfold allV at hv
      rw [List.all_eq_true] at hv
      exact (vld_true (hv z (by simp at hm; simp [hm]))).1
  have hd0 : 0 ≤ hd := by unfold allV at hv; rw [List.all_eq_true] at hv; exact (vld_true (hv hd (by simp))).1
  have hIC : IsC ((w.alloc (.cells #[.int .i64 hd] 3)).alloc (.cells #[.slice (some ⟨g, 0, none⟩) tl.length cap] 48)) g := by
    rcases hown.2 with ⟨hq, _⟩ | ⟨g', cap', cur, hq, _, hh, _⟩
    · cases hq
    · injection hq with e1
      injection e1 with e1
      injection e1 with e1
      subst e1
      exact ⟨_, (X2.block g hgl).trans hh, rfl⟩
  have hcs := hown.cells (g := g) rfl
  have hrl : tl.reverse.length = tl.length := List.length_reverse
  have hst := back_stops Fence.wide (3 - 1) trivial rfl (by decide) (w.heap.size + 1) g cap tl.reverse hz (by rw [hrl]; omega) _ hIC ⟨_, B2, rfl⟩ (by rw [hrl]; exact B2.cell 0)
    (fun j hj => by
      have := hcs j (.int .i64 ((tl.reverse)[j]?.getD 0)) (by rw [List.getElem?_map, List.getElem?_eq_getElem hj]; rfl)
      rw [add_mk, Nat.zero_add] at this
      exact (X2.cell (p := ⟨g, j, none⟩) hgl).trans this)
  gi_wp2
  refine ⟨trivial, ?_⟩
  refine (back_in Fence.wide _ trivial rfl _ _ _ _).mono ?_
  rintro _ _ ⟨rfl, rfl⟩
  gi_wp2
  refine wpIn_rangeFunc_ownF rfl (by decide) (gf := 102) (lb := #[.pointer (some ⟨w.heap.size + 1, 0, none⟩)]) rfl trivial (enters_of Try.func102 (by kernel_rfl) rfl)
    hst (fun h k => h.trans k) (fun W l o o' hl h hc hw => Kp2.putObj _ W l o o' hl h hc hw) (Below.refl _ _) (fun _ => rfl)
    (fun pre W => (W.cell? ⟨w.heap.size, 0, none⟩ = some (.int .i64 (foldN hd (pre.map fun x => x.1.2))) ∧ W.frozen? ⟨w.heap.size, 0, none⟩ = false) ∧ Below w.heap.size w W)
    (fun _ _ _ => False)
    (OwnFrom.and (Own.from (fun s A B row hs hg hr => ⟨cell_kept hs.1 hg hr, (frozen_kept hs.1 hg hr).trans hs.2⟩) _) (ownFrom_below (Nat.le_refl _) (by simp; omega)))
    (fun _ _ _ _ _ hs _ _ => hs)
    ⟨⟨(B1.alloc _).cell 0, (B1.alloc _).frozen 0⟩, X2⟩
    (fun x => { tmps := #[.pointer (some ⟨pb, 0, none⟩), undef, .int .i64 0, .int .i64 (tl.length : Nat), .pointer (some ⟨w.heap.size, 0, none⟩), undef, .int .i64 x.1.2, .pointer (some ⟨pb, 0, none⟩), .pointer (some ⟨pb, 0, none⟩), .pointer (some ⟨pb, 0, none⟩), .int .i64 n, .bool false, undef, .pointer (some ⟨pb, 0, none⟩), .pointer (some ⟨pb, 0, none⟩), .pointer (some ⟨pb, 1, none⟩), .slice (some ⟨g, 0, none⟩) (tl.length + 1) cap, .int .i64 ((tl.length : Int) + 1), .int .i64 (tl.length : Nat), .pointer (some ⟨pb, 0, none⟩), .pointer (some ⟨pb, 0, none⟩), .pointer (some ⟨pb, 1, none⟩), .slice (some ⟨g, 0, none⟩) (tl.length + 1) cap, .int .i64 (tl.length : Nat), .pointer (some ⟨g, tl.length, none⟩), .int .i64 hd, .pointer (some ⟨pb, 0, none⟩), .pointer (some ⟨pb, 0, none⟩), .pointer (some ⟨pb, 1, none⟩), .slice (some ⟨g, 0, none⟩) (tl.length + 1) cap, .int .i64 (tl.length : Nat), .slice (some ⟨g, 0, none⟩) tl.length cap, .func (.func 102) #[] #[.pointer (some ⟨w.heap.size + 1, 0, none⟩)], .int .i64 (x.1.1 : Int), .int .i64 x.1.2, undef, undef, undef, undef], defers := [] }) ?assign ?body ?done ?stop
  case assign =>
    intro l x W K hK
    gi_wp2
    exact hK
  case body =>
    rintro l pre x W ⟨⟨hc, hf⟩, hB⟩ _
    have HSM := Lib.hid (foldN_vld (pre.map fun x => x.1.2) hd hd0)
    have HFS := Lib.hid (foldN_snoc (pre.map fun x => x.1.2) hd x.1.2)
    generalize foldN hd (pre.map fun x => x.1.2) = sm at *
    have hW : w.heap.size < W.heap.size := World.block_lt_of_cell? W _ hc
    gi_wp2
    refine ⟨trivial, ?_⟩
    refine (CallsIn.inRound l (callsIn_wide.2 (NodeOf_any x.1.2 sm W x.2 HSM.out))).mono ?_
    rintro _ W1 ⟨rfl, hb1⟩
    have c1 : W1.cell? ⟨w.heap.size, 0, none⟩ = some (.int .i64 sm) := (hb1.cell hW).trans hc
    have f1 : W1.frozen? ⟨w.heap.size, 0, none⟩ = false := (hb1.frozen hW).trans hf
    have hW1 : w.heap.size < W1.heap.size := Nat.lt_of_lt_of_le hW hb1.size
    gi_wp2
    have hBW : Ext w W1 := Ext.trans hB hb1
    refine ⟨(KeepsOthers.of_grownBy (hb1.gb none) (fun j o e => by cases e)).trans (KeepsOthers.setCell _ _ _), ?_, ⟨?_, by rw [World.frozen?_setCell]; exact f1⟩, hBW.setCell (p := ⟨w.heap.size, 0, none⟩) (Nat.le_refl _) _⟩
    · intro i hi o ho hcb
      have hil : i < W.heap.size := (Array.getElem?_eq_some_iff.1 ho).1
      have hne : i ≠ w.heap.size := by rcases hi with rfl | rfl <;> omega
      exact (Below.heap_setCell W1 ⟨w.heap.size, 0, none⟩ _ i hne).trans ((hb1.block i hil).trans ho)
    · rw [List.map_append, show ([x].map fun x => x.1.2) = [x.1.2] from rfl, HFS.out]
      exact World.cell?_setCell_same' _ _ _ (by rw [c1]; rfl)
  case done =>
    rintro D ys W hD rfl ⟨⟨hc, _⟩, hB⟩ hK
    have hfin : foldN hd ((upto (ivs tl.reverse hz) tl.reverse.length).map fun x => x.1.2) = foldN hd tl := by rw [ivs_rev, List.reverse_reverse]
    rw [hfin] at hc
    gi_wp2
    refine ⟨by simp, .inl ⟨_, _, rfl, run_takeDeferred hK, ?_⟩⟩
    exact ⟨_, results_tmp rfl _ _ _, rfl, hB.trans (belowK_b (w := w) (Nat.le_refl _) W D _ _ (by simp at hD; omega) hK rfl rfl)⟩
  case stop =>
    rintro D c pre W _ _ h _
    exact h.elim

set_option maxRecDepth 100000 in
theorem Root_no {w : World} {base pb : Nat} {v : Value} {L : List Int} (h : PkS w base pb v 0 L) :
    Calls Try.prog 50 #[.pointer (some ⟨pb, 0, none⟩)] w fun e w' => e = .returned (.int .i64 (sumL [])) ∧ Ext w w' := by
  have b0 := h.bk.cell 0
  refine (callsIn_wide (n := 3)).1 ?_
  refine callsIn_of_wp_marks Try.func50 rfl trivial ?_ rfl
  simp only [Try.ntmps50, List.size_toArray, List.length_cons, List.length_nil, Nat.reduceAdd, Nat.reduceSub, Array.replicate_succ, Array.replicate_zero, List.push_toArray, List.append_toArray, List.nil_append, List.cons_append]
  gi_wp2
  refine ⟨trivial, ?_⟩
  refine (callsIn_wide.2 (Sum_any ⟨#[]⟩ w (Nat.zero_le _))).mono ?_
  rintro _ W1 ⟨rfl, hb1⟩
  gi_wp2
  exact ⟨_, results_tmp rfl _ _ _, rfl, hb1⟩

theorem PRoot_any {w : World} {base pb : Nat} {r : Option Nat} {xs : List Int} (h : Pk w base pb r xs) (hl : xs.length ≤ 200) (hv : allV xs = true) :
    Calls Try.prog 50 #[.pointer (some ⟨pb, 0, none⟩)] w fun e w' => e = .returned (.int .i64 (ofL xs)) ∧ Ext w w' := by
  obtain ⟨v, rfl, hp⟩ := h
  have hr := rootF_all (xs := xs) (by omega)
  have hpv := allV_parts hv (by omega) xs.length 0 xs.length (Nat.le_refl _) (by rw [Nat.pow_zero]; omega)
  have hpl := partsF_len xs xs.length 0 xs.length (Nat.le_refl _)
  have hol := ones_le xs.length _ (Nat.le_refl _)
  by_cases h0 : xs.length = 0
  · rw [h0] at hp hr
    rw [partsF_zero] at hr
    rw [← hr]
    exact Root_no hp
  · generalize partsF xs 0 xs.length = L at *
    cases L with
    | nil =>
      exfalso
      rw [ones, dif_neg h0] at hpl
      have hne : ones xs.length ≠ 0 := fun h => by
        have : ∀ (M m : Nat), m ≤ M → m ≠ 0 → ones m ≠ 0 := by
          intro M
          induction M with
          | zero => intro m h1 h2; omega
          | succ M ih =>
            intro m h1 h2 h3
            rw [ones, dif_neg h2] at h3
            by_cases hm : m / 2 = 0
            · omega
            · have := ih (m / 2) (by omega) hm; omega
        exact this _ _ (Nat.le_refl _) h0 h
      rw [ones, dif_neg h0] at hne
      exact hne hpl.symm
    | cons hd tl =>
      rw [← hr]
      exact Root_yes hp h0 (by simp at hpl; omega) hpv
end Go.Proofs.Ytcpnhmjibihpkaa
