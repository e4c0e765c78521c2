import Derived.Test.YtgfkalhpefjenaaDoorClash3
namespace Go.Proofs.YtgfkalhpefjenaaDoor
open Go.RowKit Go.WideShapes
set_option linter.unusedVariables false
attribute [local go_sem ↓] Go.wp_at_zero Go.wp_at_succ

def okL (xs : List Int) : Prop := allV xs = true ∧ xs.length ≤ 4096
theorem ofL_pos (xs : List Int) (h : okL xs) : 0 ≤ ofL xs := (vld_true (vld_ofL h.1 h.2)).1
theorem okL_take (a : List ByteArray) (k : Nat) (hl : a.length ≤ 4096) : okL ((sumsD a).take k) := ⟨allV_take (allV_sumsD a) k, by rw [List.length_take, sumsD_len]; omega⟩
theorem okL_drop (a : List ByteArray) (k : Nat) (hl : a.length ≤ 4096) : okL ((sumsD a).drop k) := ⟨allV_drop (allV_sumsD a) k, by rw [List.length_drop, sumsD_len]; omega⟩
theorem TTop_any (k : Nat) (a : List ByteArray) (w : World) (hl : a.length ≤ 4096) :
    Calls Tryd.prog 136 #[.int .i64 (ofL ((sumsD a).take k)), .int .i64 (ofL ((sumsD a).drop k))] w fun e w' => e = .returned (.string (topS k a)) ∧ Ext w w' :=
  BytesOf_any _ _ w (vld_true (vld_ofL (allV_take (allV_sumsD a) k) (by rw [List.length_take, sumsD_len]; omega))).1 (vld_true (vld_ofL (allV_drop (allV_sumsD a) k) (by rw [List.length_drop, sumsD_len]; omega))).1

set_option maxRecDepth 100000 in
set_option maxHeartbeats 600000 in
theorem differ_any (N : Nat) : ∀ (A A' B B' : Option Addr) (n c c' d d' : Nat) (a b : List ByteArray) (w : World), n ≤ N → Rd w 1 A n c (a.map Value.string) → Rd w 1 A' n c' (b.map Value.string) → Rd w 1 B n d ((sumsD a).map (Value.int .i64)) → Rd w 1 B' n d' ((sumsD b).map (Value.int .i64)) → c ≤ maxLen → c' ≤ maxLen → d ≤ maxLen → d' ≤ maxLen → 1 ≤ n → n ≤ 4096 → (∀ s ∈ a, s.size ≤ 1000000) → (∀ s ∈ b, s.size ≤ 1000000) →
    Calls Tryd.prog 122 #[.slice A n c, .slice A' n c', .slice B n d, .slice B' n d'] w fun e w' => e = .returned (.agg #[.string (clashL a b).1, .string (clashL a b).2]) ∧ Ext w w' := by
  induction N with
  | zero => intro A A' B B' n c c' d d' a b w hN hr hr' hs hs' hm hm' hd hd' h1; omega
  | succ N ih =>
    intro A A' B B' n c c' d d' a b w hN hr hr' hs hs' hm hm' hd hd' h1 hn hsa hsb
    have hxa := hr.lenS
    have hxb := hr'.lenS
    have IH := Lib.hid ih
    clear ih
    by_cases h2 : 2 ≤ n
    · have hl := hr.2.1
      have hl' := hr'.2.1
      have hl1 := hs.2.1
      have hl2 := hs'.2.1
      have hk := half_lt h2 hn
      have hk0 := half_pos n
      have hk' := half_le h2 hn
      have HXA := Lib.hid hxa
      have HXB := Lib.hid hxb
      have HSA := Lib.hid hsa
      have HSB := Lib.hid hsb
      have HCT := Lib.hid (fun h => clashL_top (a := a) (b := b) (by omega) (by omega) h)
      have HCL := Lib.hid (fun h h' => clashL_left (a := a) (b := b) (by omega) (by omega) h h')
      have HCR := Lib.hid (fun h h' => clashL_right (a := a) (b := b) (by omega) (by omega) h h')
      rw [hxa] at HCT HCL HCR
      unfold maxLen at hm hm' hd hd'
      have e1 : ((n : Int) == 1) = false := by simp; omega
      have q0 : (0 : Int) ≤ (half n : Int) := by omega
      have q1 : (half n : Int) ≤ (n : Int) := by omega
      have q2 : (half n : Int) ≤ (c : Int) := by omega
      have q2' : (half n : Int) ≤ (c' : Int) := by omega
      have q3 : (n : Int) ≤ (c : Int) := by omega
      have q3' : (n : Int) ≤ (c' : Int) := by omega
      have p1 : (half n : Int) ≤ (d : Int) := by omega
      have p2 : (half n : Int) ≤ (d' : Int) := by omega
      have p3 : (n : Int) ≤ (d : Int) := by omega
      have p4 : (n : Int) ≤ (d' : Int) := by omega
      have z0 := zeroClash w
      have E0 : Ext w (w.alloc (.cells #[.string ⟨#[]⟩, .string ⟨#[]⟩] 96)) := by (repeat (with_reducible first | exact Ext.refl _ | assumption | refine Ext.drew ?_ | refine Ext.drewN ?_ _ | refine Ext.alloc ?_ _ | refine Ext.trans ?_ (by with_reducible assumption)))
      have LA := Lib.hid (show a.length ≤ 4096 by rw [hxa]; exact hn)
      have LB := Lib.hid (show b.length ≤ 4096 by rw [hxb]; exact hn)
      have L1 := hs.takeI (k := half n) (by omega)
      have D1 := hs.dropI' (k := half n) (by omega)
      have D1i := hs.dropI (k := half n) (by omega)
      have L2 := hs'.takeI (k := half n) (by omega)
      have D2 := hs'.dropI' (k := half n) (by omega)
      have D2i := hs'.dropI (k := half n) (by omega)
      have V1 := Lib.hid (okL_take a (half n) LA.out)
      have V2 := Lib.hid (okL_drop a (half n) LA.out)
      have V3 := Lib.hid (okL_take b (half n) LB.out)
      have V4 := Lib.hid (okL_drop b (half n) LB.out)
      clear hxa hxb hsa hsb
      go_enter Tryd.func122, Tryd.ntmps122
      go_wp2_with fail
      generalize w.alloc (.cells #[.string ⟨#[]⟩, .string ⟨#[]⟩] 96) = w0 at *
      refine (Half_any _ _ (by omega) (by omega)).mono ?_
      rintro e w' ⟨rfl, rfl⟩
      rw [Int.toNat_natCast]
      go_wp2_with fail
      (refine wp_region_ext (w0 := w0) (by kernel_rfl) (by kernel_rfl) (by (repeat (with_reducible first | exact Ext.refl _ | assumption | refine Ext.drew ?_ | refine Ext.drewN ?_ _ | refine Ext.alloc ?_ _ | refine Ext.trans ?_ (by with_reducible assumption)))) ?_; (repeat (go_big_quiet_step ((first
        | (go_at_call 117; first
            | with_reducible exact quietE (Of_any n _ _ _ _ _ (by omega) (L1.ext (E0.trans (WE.h _))) (by simp only [maxLen]; omega) (by omega) (allV_take (allV_sumsD a) _))
            | with_reducible exact quietE (Of_any n _ _ _ _ _ (by omega) (D1.ext (E0.trans (WE.h _))) (by simp only [maxLen]; omega) (by omega) (allV_drop (allV_sumsD a) _))
            | with_reducible exact quietE (Of_any n _ _ _ _ _ (by omega) (D1i.ext (E0.trans (WE.h _))) (by simp only [maxLen]; omega) (by omega) (allV_drop (allV_sumsD a) _))
            | with_reducible exact quietE (Of_any n _ _ _ _ _ (by omega) (L2.ext (E0.trans (WE.h _))) (by simp only [maxLen]; omega) (by omega) (allV_take (allV_sumsD b) _))
            | with_reducible exact quietE (Of_any n _ _ _ _ _ (by omega) (D2.ext (E0.trans (WE.h _))) (by simp only [maxLen]; omega) (by omega) (allV_drop (allV_sumsD b) _))
            | with_reducible exact quietE (Of_any n _ _ _ _ _ (by omega) (D2i.ext (E0.trans (WE.h _))) (by simp only [maxLen]; omega) (by omega) (allV_drop (allV_sumsD b) _)))
        | (go_at_call 136; exact quietE (BytesOf_any _ _ _ (ofL_pos _ (by first | exact V1.out | exact V2.out | exact V3.out | exact V4.out)) (ofL_pos _ (by first | exact V1.out | exact V2.out | exact V3.out | exact V4.out)))))))); refine wpQuiet_nil ?_)
      intro w4 hb4
      rw [show (⟨(nodeB (ofL ((sumsD a).take (half n))) (ofL ((sumsD a).drop (half n)))).toArray⟩ : ByteArray) = topS (half n) a from rfl, show (⟨(nodeB (ofL ((sumsD b).take (half n))) (ofL ((sumsD b).drop (half n)))).toArray⟩ : ByteArray) = topS (half n) b from rfl]
      have E4 := E0.trans hb4
      have z4 := z0.ext hb4
      clear z0
      by_cases ht : topB (half n) a = topB (half n) b
      · have hts : topS (half n) a = topS (half n) b := congrArg (fun l : List UInt8 => (⟨l.toArray⟩ : ByteArray)) ht
        rw [hts]
        have HT := Lib.hid ht
        have RA := hr.takeS (k := half n) (by omega)
        have RB := hr'.takeS (k := half n) (by omega)
        have TA := hr.dropS' (k := half n) (by omega)
        have TB := hr'.dropS' (k := half n) (by omega)
        have TAi := hr.dropS (k := half n) (by omega)
        have TBi := hr'.dropS (k := half n) (by omega)
        rw [sumsD_take] at L1 L2
        rw [sumsD_drop] at D1 D1i D2 D2i
        clear hts ht
        generalize topS (half n) b = sb at *
        go_wp2_with fail
        (refine wp_region_ext (w0 := w4) (by kernel_rfl) (by kernel_rfl) (by (repeat (with_reducible first | exact Ext.refl _ | assumption | refine Ext.drew ?_ | refine Ext.drewN ?_ _ | refine Ext.alloc ?_ _ | refine Ext.trans ?_ (by with_reducible assumption)))) ?_; (repeat (go_big_quiet_step (((go_at_call 121; exact quietE (SEq_any _ _ _ _ _ _ _ _ _ (RA.ext (E4.trans (WE.h _))) (RB.ext (E4.trans (WE.h _))) (by simp only [maxLen]; omega) (by simp only [maxLen]; omega))))))); refine wpQuiet_nil ?_)
        intro w5 hb5
        have E5 := E4.trans hb5
        have z5 := z4.ext hb5
        have sa : ∀ s ∈ a.take (half n), s.size ≤ 1000000 := fun s hs => HSA.out s (List.mem_of_mem_take hs)
        have sb' : ∀ s ∈ b.take (half n), s.size ≤ 1000000 := fun s hs => HSB.out s (List.mem_of_mem_take hs)
        have ta : ∀ s ∈ a.drop (half n), s.size ≤ 1000000 := fun s hs => HSA.out s (List.mem_of_mem_drop hs)
        have tb : ∀ s ∈ b.drop (half n), s.size ≤ 1000000 := fun s hs => HSB.out s (List.mem_of_mem_drop hs)
        have SA := Lib.hid sa
        have SB := Lib.hid sb'
        have TSA := Lib.hid ta
        have TSB := Lib.hid tb
        clear sa sb' ta tb
        by_cases he : a.take (half n) = b.take (half n)
        · rw [sameB_yes he]
          obtain ⟨cl, hcl⟩ : ∃ cl, cl = clashL (a.drop (half n)) (b.drop (half n)) := ⟨_, rfl⟩
          obtain ⟨x, y⟩ := cl
          have CL : Hid (clashL (a.drop (half n)) (b.drop (half n)) = (x, y)) := hcl.symm
          have CR : Hid (clashL a b = (x, y)) := by show _ = _; rw [HCR.out HT.out he]; exact hcl.symm
          clear he hcl
          go_wp2_with fail
          go_region_held3 (fun _ => True) (exact trivial) (first
            | (go_at_call 122; (with_reducible refine (IH.out _ _ _ _ (n - half n) (c - half n) (c' - half n) (d - half n) (d' - half n) (a.drop (half n)) (b.drop (half n)) _ (by omega) (by first | exact TA.ext (E5.trans (by (repeat (with_reducible first | exact Ext.refl _ | assumption | refine Ext.drew ?_ | refine Ext.drewN ?_ _ | refine Ext.alloc ?_ _ | refine Ext.trans ?_ (by with_reducible assumption))))) | exact TAi.ext (E5.trans (by (repeat (with_reducible first | exact Ext.refl _ | assumption | refine Ext.drew ?_ | refine Ext.drewN ?_ _ | refine Ext.alloc ?_ _ | refine Ext.trans ?_ (by with_reducible assumption)))))) (by first | exact TB.ext (E5.trans (by (repeat (with_reducible first | exact Ext.refl _ | assumption | refine Ext.drew ?_ | refine Ext.drewN ?_ _ | refine Ext.alloc ?_ _ | refine Ext.trans ?_ (by with_reducible assumption))))) | exact TBi.ext (E5.trans (by (repeat (with_reducible first | exact Ext.refl _ | assumption | refine Ext.drew ?_ | refine Ext.drewN ?_ _ | refine Ext.alloc ?_ _ | refine Ext.trans ?_ (by with_reducible assumption)))))) (by first | exact D1.ext (E5.trans (by (repeat (with_reducible first | exact Ext.refl _ | assumption | refine Ext.drew ?_ | refine Ext.drewN ?_ _ | refine Ext.alloc ?_ _ | refine Ext.trans ?_ (by with_reducible assumption))))) | exact D1i.ext (E5.trans (by (repeat (with_reducible first | exact Ext.refl _ | assumption | refine Ext.drew ?_ | refine Ext.drewN ?_ _ | refine Ext.alloc ?_ _ | refine Ext.trans ?_ (by with_reducible assumption)))))) (by first | exact D2.ext (E5.trans (by (repeat (with_reducible first | exact Ext.refl _ | assumption | refine Ext.drew ?_ | refine Ext.drewN ?_ _ | refine Ext.alloc ?_ _ | refine Ext.trans ?_ (by with_reducible assumption))))) | exact D2i.ext (E5.trans (by (repeat (with_reducible first | exact Ext.refl _ | assumption | refine Ext.drew ?_ | refine Ext.drewN ?_ _ | refine Ext.alloc ?_ _ | refine Ext.trans ?_ (by with_reducible assumption)))))) (by simp only [maxLen]; omega) (by simp only [maxLen]; omega) (by simp only [maxLen]; omega) (by simp only [maxLen]; omega) (by omega) (by omega) TSA.out TSB.out).mono ?_); rintro e w6 ⟨rfl, hb6⟩; rw [CL.out]; have B6 : Bk w6 w.heap.size 96 #[.string ⟨#[]⟩, .string ⟨#[]⟩] := (by exact (Bk.drew z5).ext hb6); have E6 : Ext w w6 := (by exact E5.trans (Ext.trans (Ext.drew (Ext.refl _)) hb6)); have p0 := B6.cell 0; have p1 := B6.cell 1; have p2 := B6.frozen 0; have p3 := B6.frozen 1)
            | fail)
          have B7 := (B6.set_ 0 (.string x)).set_ 1 (.string y)
          have g0 := B7.cell 0
          have g1 := B7.cell 1
          simp at g0 g1
          have E7 := (E6.setCell (p := ⟨w.heap.size, 0, none⟩) (Nat.le_refl _) (.string x)).setCell (p := ⟨w.heap.size, 1, none⟩) (Nat.le_refl _) (.string y)
          go_wp2_with fail
          refine bodyPost_ret (by simp [results, Tryd.results122, go_sem, g0, g1]; try rfl) rfl ?_
          exact ⟨by rw [CR.out], E7⟩
        · rw [sameB_no he]
          obtain ⟨cl, hcl⟩ : ∃ cl, cl = clashL (a.take (half n)) (b.take (half n)) := ⟨_, rfl⟩
          obtain ⟨x, y⟩ := cl
          have CL : Hid (clashL (a.take (half n)) (b.take (half n)) = (x, y)) := hcl.symm
          have CR : Hid (clashL a b = (x, y)) := by show _ = _; rw [HCL.out HT.out he]; exact hcl.symm
          clear he hcl
          go_wp2_with fail
          go_region_held3 (fun _ => True) (exact trivial) (first
            | (go_at_call 122; (with_reducible refine (IH.out _ _ _ _ (half n) c c' d d' (a.take (half n)) (b.take (half n)) _ (by omega) (by exact RA.ext (E5.trans (by (repeat (with_reducible first | exact Ext.refl _ | assumption | refine Ext.drew ?_ | refine Ext.drewN ?_ _ | refine Ext.alloc ?_ _ | refine Ext.trans ?_ (by with_reducible assumption)))))) (by exact RB.ext (E5.trans (by (repeat (with_reducible first | exact Ext.refl _ | assumption | refine Ext.drew ?_ | refine Ext.drewN ?_ _ | refine Ext.alloc ?_ _ | refine Ext.trans ?_ (by with_reducible assumption)))))) (by exact L1.ext (E5.trans (by (repeat (with_reducible first | exact Ext.refl _ | assumption | refine Ext.drew ?_ | refine Ext.drewN ?_ _ | refine Ext.alloc ?_ _ | refine Ext.trans ?_ (by with_reducible assumption)))))) (by exact L2.ext (E5.trans (by (repeat (with_reducible first | exact Ext.refl _ | assumption | refine Ext.drew ?_ | refine Ext.drewN ?_ _ | refine Ext.alloc ?_ _ | refine Ext.trans ?_ (by with_reducible assumption)))))) (by simp only [maxLen]; omega) (by simp only [maxLen]; omega) (by simp only [maxLen]; omega) (by simp only [maxLen]; omega) (by omega) (by omega) SA.out SB.out).mono ?_); rintro e w6 ⟨rfl, hb6⟩; rw [CL.out]; have B6 : Bk w6 w.heap.size 96 #[.string ⟨#[]⟩, .string ⟨#[]⟩] := (by exact (Bk.drew z5).ext hb6); have E6 : Ext w w6 := (by exact E5.trans (Ext.trans (Ext.drew (Ext.refl _)) hb6)); have p0 := B6.cell 0; have p1 := B6.cell 1; have p2 := B6.frozen 0; have p3 := B6.frozen 1)
            | fail)
          have B7 := (B6.set_ 0 (.string x)).set_ 1 (.string y)
          have g0 := B7.cell 0
          have g1 := B7.cell 1
          simp at g0 g1
          have E7 := (E6.setCell (p := ⟨w.heap.size, 0, none⟩) (Nat.le_refl _) (.string x)).setCell (p := ⟨w.heap.size, 1, none⟩) (Nat.le_refl _) (.string y)
          go_wp2_with fail
          refine bodyPost_ret (by simp [results, Tryd.results122, go_sem, g0, g1]; try rfl) rfl ?_
          exact ⟨by rw [CR.out], E7⟩
      · have HC := Lib.hid (HCT.out ht)
        have hse : (!(topS (half n) a).toList == (topS (half n) b).toList) = true := by
          rw [(Lib.bytes_beq_false_iff _ _).2 (fun e => topS_ne ht (congrArg ByteArray.toList e))]; rfl
        clear ht
        generalize topS (half n) a = x at *
        generalize topS (half n) b = y at *
        have p0 := z4.cell 0
        have p1' := z4.cell 1
        have p2' := z4.frozen 0
        have p3' := z4.frozen 1
        have B6 := z4
        have E6 := E4
        go_wp2_with fail
        have B7 := (B6.set_ 0 (.string x)).set_ 1 (.string y)
        have g0 := B7.cell 0
        have g1 := B7.cell 1
        simp at g0 g1
        have E7 := (E6.setCell (p := ⟨w.heap.size, 0, none⟩) (Nat.le_refl _) (.string x)).setCell (p := ⟨w.heap.size, 1, none⟩) (Nat.le_refl _) (.string y)
        refine bodyPost_ret (by simp [results, Tryd.results122, go_sem, g0, g1]; try rfl) rfl ?_
        exact ⟨by rw [HC.out], E7⟩
    · obtain rfl : n = 1 := by omega
      obtain ⟨x, rfl⟩ := List.length_eq_one_iff.1 hxa
      obtain ⟨y, rfl⟩ := List.length_eq_one_iff.1 hxb
      obtain ⟨ad, rfl, hb, c0⟩ := hr.getS (j := 0) (z := x) rfl
      obtain ⟨ad', rfl, hb', c0'⟩ := hr'.getS (j := 0) (z := y) rfl
      rw [add_zero'] at c0 c0'
      have HC := Lib.hid (clashL_one x y)
      have hx1 := hsa x (by simp)
      have hy1 := hsb y (by simp)
      have z0 := zeroClash w
      have E0 : Ext w (w.alloc (.cells #[.string ⟨#[]⟩, .string ⟨#[]⟩] 96)) := by (repeat (with_reducible first | exact Ext.refl _ | assumption | refine Ext.drew ?_ | refine Ext.drewN ?_ _ | refine Ext.alloc ?_ _ | refine Ext.trans ?_ (by with_reducible assumption)))
      have d0 := (E0.cell (p := ad) hb).trans c0
      have d0' := (E0.cell (p := ad') hb').trans c0'
      clear hr hr' hs hs' hsa hsb hxa hxb h2
      go_enter Tryd.func122, Tryd.ntmps122
      go_wp2_with fail
      generalize w.alloc (.cells #[.string ⟨#[]⟩, .string ⟨#[]⟩] 96) = w0 at *
      have p0 := z0.cell 0
      have p1 := z0.cell 1
      have p2 := z0.frozen 0
      have p3 := z0.frozen 1
      go_region
      all_goals
        go_wp2_with fail
        have B7 := (z0.set_ 0 (.string (⟨#[0]⟩ ++ x))).set_ 1 (.string (⟨#[0]⟩ ++ y))
        have g0 := (z0.set_ 0 (.string (⟨#[0]⟩ ++ x))).cell 0
        have g1 := B7.cell 1
        simp at g0 g1
        have E7 := ((Ext.drew E0).setCell (p := ⟨w.heap.size, 0, none⟩) (Nat.le_refl _) (.string (⟨#[0]⟩ ++ x))).setCell (p := ⟨w.heap.size, 1, none⟩) (Nat.le_refl _) (.string (⟨#[0]⟩ ++ y))
        refine bodyPost_ret (by simp [results, Tryd.results122, go_sem, g0, g1]; try rfl) rfl ?_
        exact ⟨by rw [HC.out]; rfl, E7⟩

/-! ### tree.Collide -/
def collK (a b : List ByteArray) : Int :=
  if dataK a ≠ 0 then 4 else if dataK b ≠ 0 then 4 else if a.length ≠ b.length then 3 else if a = b then 7 else if ofL (sumsD a) ≠ ofL (sumsD b) then 5 else 0
def collV (a b : List ByteArray) : ByteArray × ByteArray := if collK a b = 0 then clashL a b else (⟨#[]⟩, ⟨#[]⟩)
theorem coll_ways (a b : List ByteArray) : (¬ dataOk a ∧ collK a b = 4) ∨ (dataOk a ∧ ¬ dataOk b ∧ collK a b = 4) ∨ (dataOk a ∧ dataOk b ∧ a.length ≠ b.length ∧ collK a b = 3) ∨ (dataOk a ∧ dataOk b ∧ a.length = b.length ∧ a = b ∧ collK a b = 7) ∨ (dataOk a ∧ dataOk b ∧ a.length = b.length ∧ a ≠ b ∧ ofL (sumsD a) ≠ ofL (sumsD b) ∧ collK a b = 5) ∨ (dataOk a ∧ dataOk b ∧ a.length = b.length ∧ a ≠ b ∧ ofL (sumsD a) = ofL (sumsD b) ∧ collK a b = 0) := by
  unfold collK
  by_cases ha : dataOk a
  · rw [dataK_ok ha, if_neg (by decide)]
    by_cases hb : dataOk b
    · rw [dataK_ok hb, if_neg (by decide)]
      by_cases hl : a.length = b.length
      · rw [if_neg (not_not_intro hl)]
        by_cases he : a = b
        · rw [if_pos he]; exact .inr (.inr (.inr (.inl ⟨ha, hb, hl, he, rfl⟩)))
        · rw [if_neg he]
          by_cases ho : ofL (sumsD a) = ofL (sumsD b)
          · rw [if_neg (not_not_intro ho)]; exact .inr (.inr (.inr (.inr (.inr ⟨ha, hb, hl, he, ho, rfl⟩))))
          · rw [if_pos ho]; exact .inr (.inr (.inr (.inr (.inl ⟨ha, hb, hl, he, ho, rfl⟩))))
      · rw [if_pos hl]; exact .inr (.inr (.inl ⟨ha, hb, hl, rfl⟩))
    · rw [dataK_bad hb, if_pos (by decide)]; exact .inr (.inl ⟨ha, hb, rfl⟩)
  · rw [dataK_bad ha, if_pos (by decide)]; exact .inl ⟨ha, rfl⟩

set_option maxRecDepth 100000 in
set_option maxHeartbeats 600000 in
theorem Collide_any (A A' : Option Addr) (n n' c c' : Nat) (a b : List ByteArray) (w : World) (hr : Rd w 1 A n c (a.map Value.string)) (hr' : Rd w 1 A' n' c' (b.map Value.string)) (hm : c ≤ maxLen) (hm' : c' ≤ maxLen) :
    Calls Tryd.prog 69 #[.slice A n c, .slice A' n' c'] w fun e w' => e = .returned (.tuple #[.agg #[.string (collV a b).1, .string (collV a b).2], errR (collK a b)]) ∧ Ext w w' := by
  have hxa := hr.lenS
  have hxb := hr'.lenS
  have z0 := zeroClash w
  have E0 : Ext w (w.alloc (.cells #[.string ⟨#[]⟩, .string ⟨#[]⟩] 96)) := by (repeat (with_reducible first | exact Ext.refl _ | assumption | refine Ext.drew ?_ | refine Ext.drewN ?_ _ | refine Ext.alloc ?_ _ | refine Ext.trans ?_ (by with_reducible assumption)))
  have HV : Hid (collK a b ≠ 0 → collV a b = (⟨#[]⟩, ⟨#[]⟩)) := fun h => if_neg h
  have HV0 : Hid (collK a b = 0 → collV a b = clashL a b) := fun h => if_pos h
  rcases coll_ways a b with ⟨h1, hk⟩ | ⟨h1, h2, hk⟩ | ⟨h1, h2, h3, hk⟩ | ⟨h1, h2, h3, h4, hk⟩ | ⟨h1, h2, h3, h4, h5, hk⟩ | ⟨h1, h2, h3, h4, h5, hk⟩
  · have DA : Hid (errR (dataK a) = errV 4) := by show _ = _; rw [dataK_bad h1]; rfl
    have HE : Hid (errR (collK a b) = errV 4) := by show _ = _; rw [hk]; rfl
    rw [HE.out, HV.out (by rw [hk]; decide)]
    clear h1 hk hxa hxb
    go_enter Tryd.func69, Tryd.ntmps69
    go_wp2_with fail
    generalize w.alloc (.cells #[.string ⟨#[]⟩, .string ⟨#[]⟩] 96) = w0 at *
    refine (tleafs_any A n c a _ (hr.ext E0) hm).mono ?_
    rw [DA.out]
    rintro _ w1 ⟨⟨v1, rfl, own1⟩, hb1⟩
    obtain ⟨A1, c1, rfl, hc1, R1⟩ := own1.rd
    have z1 := z0.ext hb1
    have E1 := E0.trans hb1
    clear own1
    simp only [errV]
    have B6 := z1
    have E6 := E1
    have p0 := B6.cell 0
    have p1 := B6.cell 1
    have p2 := B6.frozen 0
    have p3 := B6.frozen 1
    have B7 := (B6.set_ 0 (.string (⟨#[]⟩ : ByteArray))).set_ 1 (.string (⟨#[]⟩ : ByteArray))
    have g0 := B7.cell 0
    have g1 := B7.cell 1
    simp at g0 g1
    have E7 := (E6.setCell (p := ⟨w.heap.size, 0, none⟩) (Nat.le_refl _) (.string (⟨#[]⟩ : ByteArray))).setCell (p := ⟨w.heap.size, 1, none⟩) (Nat.le_refl _) (.string (⟨#[]⟩ : ByteArray))
    go_wp2_with fail
    refine bodyPost_ret (by simp [results, Tryd.results69, go_sem, g0, g1]; try rfl) rfl ?_
    exact ⟨rfl, E7⟩
  · have DA : Hid (errR (dataK a) = .nilIface) := by show _ = _; rw [dataK_ok h1]; rfl
    have DB : Hid (errR (dataK b) = errV 4) := by show _ = _; rw [dataK_bad h2]; rfl
    have HE : Hid (errR (collK a b) = errV 4) := by show _ = _; rw [hk]; rfl
    rw [HE.out, HV.out (by rw [hk]; decide)]
    clear h1 h2 hk hxa hxb
    go_enter Tryd.func69, Tryd.ntmps69
    go_wp2_with fail
    generalize w.alloc (.cells #[.string ⟨#[]⟩, .string ⟨#[]⟩] 96) = w0 at *
    refine (tleafs_any A n c a _ (hr.ext E0) hm).mono ?_
    rw [DA.out]
    rintro _ w1 ⟨⟨v1, rfl, own1⟩, hb1⟩
    obtain ⟨A1, c1, rfl, hc1, R1⟩ := own1.rd
    have z1 := z0.ext hb1
    have E1 := E0.trans hb1
    clear own1
    go_wp2_with fail
    refine (tleafs_any A' n' c' b _ (hr'.ext E1) hm').mono ?_
    rw [DB.out]
    rintro _ w2 ⟨⟨v2, rfl, own2⟩, hb2⟩
    obtain ⟨A2, c2, rfl, hc2, R2⟩ := own2.rd
    have z2 := z1.ext hb2
    have E2 := E1.trans hb2
    have R1' := R1.ext hb2
    clear own2
    simp only [errV]
    have B6 := z2
    have E6 := E2
    have p0 := B6.cell 0
    have p1 := B6.cell 1
    have p2 := B6.frozen 0
    have p3 := B6.frozen 1
    have B7 := (B6.set_ 0 (.string (⟨#[]⟩ : ByteArray))).set_ 1 (.string (⟨#[]⟩ : ByteArray))
    have g0 := B7.cell 0
    have g1 := B7.cell 1
    simp at g0 g1
    have E7 := (E6.setCell (p := ⟨w.heap.size, 0, none⟩) (Nat.le_refl _) (.string (⟨#[]⟩ : ByteArray))).setCell (p := ⟨w.heap.size, 1, none⟩) (Nat.le_refl _) (.string (⟨#[]⟩ : ByteArray))
    go_wp2_with fail
    refine bodyPost_ret (by simp [results, Tryd.results69, go_sem, g0, g1]; try rfl) rfl ?_
    exact ⟨rfl, E7⟩
  · have DA : Hid (errR (dataK a) = .nilIface) := by show _ = _; rw [dataK_ok h1]; rfl
    have DB : Hid (errR (dataK b) = .nilIface) := by show _ = _; rw [dataK_ok h2]; rfl
    have HE : Hid (errR (collK a b) = errV 3) := by show _ = _; rw [hk]; rfl
    have e3 : ((n : Int) != (n' : Int)) = true := by simp; omega
    rw [HE.out, HV.out (by rw [hk]; decide)]
    clear h1 h2 h3 hk hxa hxb
    go_enter Tryd.func69, Tryd.ntmps69
    go_wp2_with fail
    generalize w.alloc (.cells #[.string ⟨#[]⟩, .string ⟨#[]⟩] 96) = w0 at *
    refine (tleafs_any A n c a _ (hr.ext E0) hm).mono ?_
    rw [DA.out]
    rintro _ w1 ⟨⟨v1, rfl, own1⟩, hb1⟩
    obtain ⟨A1, c1, rfl, hc1, R1⟩ := own1.rd
    have z1 := z0.ext hb1
    have E1 := E0.trans hb1
    clear own1
    go_wp2_with fail
    refine (tleafs_any A' n' c' b _ (hr'.ext E1) hm').mono ?_
    rw [DB.out]
    rintro _ w2 ⟨⟨v2, rfl, own2⟩, hb2⟩
    obtain ⟨A2, c2, rfl, hc2, R2⟩ := own2.rd
    have z2 := z1.ext hb2
    have E2 := E1.trans hb2
    have R1' := R1.ext hb2
    clear own2
    have B6 := z2
    have E6 := E2
    have p0 := B6.cell 0
    have p1 := B6.cell 1
    have p2 := B6.frozen 0
    have p3 := B6.frozen 1
    have B7 := (B6.set_ 0 (.string (⟨#[]⟩ : ByteArray))).set_ 1 (.string (⟨#[]⟩ : ByteArray))
    have g0 := B7.cell 0
    have g1 := B7.cell 1
    simp at g0 g1
    have E7 := (E6.setCell (p := ⟨w.heap.size, 0, none⟩) (Nat.le_refl _) (.string (⟨#[]⟩ : ByteArray))).setCell (p := ⟨w.heap.size, 1, none⟩) (Nat.le_refl _) (.string (⟨#[]⟩ : ByteArray))
    go_wp2_with fail
    refine bodyPost_ret (by simp [results, Tryd.results69, go_sem, g0, g1]; try rfl) rfl ?_
    exact ⟨rfl, E7⟩
  · have HE : Hid (errR (collK a b) = errV 7) := by show _ = _; rw [hk]; rfl
    rw [HE.out, HV.out (by rw [hk]; decide)]
    have DA : Hid (errR (dataK a) = .nilIface) := by show _ = _; rw [dataK_ok h1]; rfl
    have DB : Hid (errR (dataK b) = .nilIface) := by show _ = _; rw [dataK_ok h2]; rfl
    have SKA : Hid (sumsK a = sumsD a) := if_pos (dataK_ok h1)
    have SKB : Hid (sumsK b = sumsD b) := if_pos (dataK_ok h2)
    obtain rfl : n = n' := by omega
    have HXA := Lib.hid hxa
    have HXB := Lib.hid hxb
    have OKA := Lib.hid h1
    have OKB := Lib.hid h2
    have HQ := Lib.hid (sameB_yes h4)
    clear h1 h2 h3 h4 hk hxa hxb
    go_enter Tryd.func69, Tryd.ntmps69
    go_wp2_with fail
    generalize w.alloc (.cells #[.string ⟨#[]⟩, .string ⟨#[]⟩] 96) = w0 at *
    refine (tleafs_any A n c a _ (hr.ext E0) hm).mono ?_
    rw [DA.out]
    rintro _ w1 ⟨⟨v1, rfl, own1⟩, hb1⟩
    obtain ⟨A1, c1, rfl, hc1, R1⟩ := own1.rd
    have z1 := z0.ext hb1
    have E1 := E0.trans hb1
    clear own1
    go_wp2_with fail
    refine (tleafs_any A' n c' b _ (hr'.ext E1) hm').mono ?_
    rw [DB.out]
    rintro _ w2 ⟨⟨v2, rfl, own2⟩, hb2⟩
    obtain ⟨A2, c2, rfl, hc2, R2⟩ := own2.rd
    have z2 := z1.ext hb2
    have E2 := E1.trans hb2
    have R1' := R1.ext hb2
    clear own2
    rw [SKA.out, sumsD_len a, HXA.out] at R1'
    rw [SKB.out, sumsD_len b, HXB.out] at R2
    rw [SKA.out, SKB.out, sumsD_len a, sumsD_len b, HXA.out, HXB.out]
    go_wp2_with fail
    refine (SEq_any A A' n n c c' a b _ (hr.ext E2) (hr'.ext E2) hm hm').mono ?_
    rw [HQ.out]
    rintro _ w3 ⟨rfl, hb3⟩
    have z3 := z2.ext hb3
    have E3 := E2.trans hb3
    have R1'' := R1'.ext hb3
    have R2' := R2.ext hb3
    clear R1 R1' R2
    have B6 := z3
    have E6 := E3
    have p0 := B6.cell 0
    have p1 := B6.cell 1
    have p2 := B6.frozen 0
    have p3 := B6.frozen 1
    have B7 := (B6.set_ 0 (.string (⟨#[]⟩ : ByteArray))).set_ 1 (.string (⟨#[]⟩ : ByteArray))
    have g0 := B7.cell 0
    have g1 := B7.cell 1
    simp at g0 g1
    have E7 := (E6.setCell (p := ⟨w.heap.size, 0, none⟩) (Nat.le_refl _) (.string (⟨#[]⟩ : ByteArray))).setCell (p := ⟨w.heap.size, 1, none⟩) (Nat.le_refl _) (.string (⟨#[]⟩ : ByteArray))
    go_wp2_with fail
    refine bodyPost_ret (by simp [results, Tryd.results69, go_sem, g0, g1]; try rfl) rfl ?_
    exact ⟨rfl, E7⟩
  · have HE : Hid (errR (collK a b) = errV 5) := by show _ = _; rw [hk]; rfl
    rw [HE.out, HV.out (by rw [hk]; decide)]
    have DA : Hid (errR (dataK a) = .nilIface) := by show _ = _; rw [dataK_ok h1]; rfl
    have DB : Hid (errR (dataK b) = .nilIface) := by show _ = _; rw [dataK_ok h2]; rfl
    have SKA : Hid (sumsK a = sumsD a) := if_pos (dataK_ok h1)
    have SKB : Hid (sumsK b = sumsD b) := if_pos (dataK_ok h2)
    obtain rfl : n = n' := by omega
    have HXA := Lib.hid hxa
    have HXB := Lib.hid hxb
    have OKA := Lib.hid h1
    have OKB := Lib.hid h2
    have HQ := Lib.hid (sameB_no h4)
    have h5' : (ofL (sumsD a) != ofL (sumsD b)) = true := by simp [h5]
    clear h1 h2 h3 h4 h5 hk hxa hxb
    go_enter Tryd.func69, Tryd.ntmps69
    go_wp2_with fail
    generalize w.alloc (.cells #[.string ⟨#[]⟩, .string ⟨#[]⟩] 96) = w0 at *
    refine (tleafs_any A n c a _ (hr.ext E0) hm).mono ?_
    rw [DA.out]
    rintro _ w1 ⟨⟨v1, rfl, own1⟩, hb1⟩
    obtain ⟨A1, c1, rfl, hc1, R1⟩ := own1.rd
    have z1 := z0.ext hb1
    have E1 := E0.trans hb1
    clear own1
    go_wp2_with fail
    refine (tleafs_any A' n c' b _ (hr'.ext E1) hm').mono ?_
    rw [DB.out]
    rintro _ w2 ⟨⟨v2, rfl, own2⟩, hb2⟩
    obtain ⟨A2, c2, rfl, hc2, R2⟩ := own2.rd
    have z2 := z1.ext hb2
    have E2 := E1.trans hb2
    have R1' := R1.ext hb2
    clear own2
    rw [SKA.out, sumsD_len a, HXA.out] at R1'
    rw [SKB.out, sumsD_len b, HXB.out] at R2
    rw [SKA.out, SKB.out, sumsD_len a, sumsD_len b, HXA.out, HXB.out]
    go_wp2_with fail
    refine (SEq_any A A' n n c c' a b _ (hr.ext E2) (hr'.ext E2) hm hm').mono ?_
    rw [HQ.out]
    rintro _ w3 ⟨rfl, hb3⟩
    have z3 := z2.ext hb3
    have E3 := E2.trans hb3
    have R1'' := R1'.ext hb3
    have R2' := R2.ext hb3
    clear R1 R1' R2
    have hn2 : n ≤ 200 := by have := OKA.out.1; rw [HXA.out] at this; exact this
    go_wp2_with fail
    refine (Of_any n A1 n c1 (sumsD a) _ (Nat.le_refl _) R1'' hc1 (by omega) (allV_sumsD a)).mono ?_
    rintro _ w4 ⟨rfl, hb4⟩
    have z4 := z3.ext hb4
    have E4 := E3.trans hb4
    go_wp2_with fail
    refine (Of_any n A2 n c2 (sumsD b) _ (Nat.le_refl _) (R2'.ext hb4) hc2 (by omega) (allV_sumsD b)).mono ?_
    rintro _ w5 ⟨rfl, hb5⟩
    have z5 := z4.ext hb5
    have E5 := E4.trans hb5
    have B6 := z5
    have E6 := E5
    have p0 := B6.cell 0
    have p1 := B6.cell 1
    have p2 := B6.frozen 0
    have p3 := B6.frozen 1
    have B7 := (B6.set_ 0 (.string (⟨#[]⟩ : ByteArray))).set_ 1 (.string (⟨#[]⟩ : ByteArray))
    have g0 := B7.cell 0
    have g1 := B7.cell 1
    simp at g0 g1
    have E7 := (E6.setCell (p := ⟨w.heap.size, 0, none⟩) (Nat.le_refl _) (.string (⟨#[]⟩ : ByteArray))).setCell (p := ⟨w.heap.size, 1, none⟩) (Nat.le_refl _) (.string (⟨#[]⟩ : ByteArray))
    go_wp2_with fail
    refine bodyPost_ret (by simp [results, Tryd.results69, go_sem, g0, g1]; try rfl) rfl ?_
    exact ⟨rfl, E7⟩
  · have HE : Hid (errR (collK a b) = .nilIface) := by show _ = _; rw [hk]; rfl
    rw [HE.out, HV0.out hk]
    have DA : Hid (errR (dataK a) = .nilIface) := by show _ = _; rw [dataK_ok h1]; rfl
    have DB : Hid (errR (dataK b) = .nilIface) := by show _ = _; rw [dataK_ok h2]; rfl
    have SKA : Hid (sumsK a = sumsD a) := if_pos (dataK_ok h1)
    have SKB : Hid (sumsK b = sumsD b) := if_pos (dataK_ok h2)
    obtain rfl : n = n' := by omega
    have HXA := Lib.hid hxa
    have HXB := Lib.hid hxb
    have OKA := Lib.hid h1
    have OKB := Lib.hid h2
    have HQ := Lib.hid (sameB_no h4)
    have hn1 : 1 ≤ n := by
      rcases Nat.eq_zero_or_pos n with h0 | h0
      · exact absurd ((List.eq_nil_of_length_eq_zero (hxa.trans h0)).trans (List.eq_nil_of_length_eq_zero (hxb.trans h0)).symm) h4
      · exact h0
    have H5 := Lib.hid h5
    obtain ⟨cl, hcl⟩ : ∃ cl, cl = clashL a b := ⟨_, rfl⟩
    obtain ⟨x, y⟩ := cl
    rw [← hcl]
    have HCL : Hid (clashL a b = (x, y)) := hcl.symm
    clear h1 h2 h3 h4 h5 hk hxa hxb hcl
    go_enter Tryd.func69, Tryd.ntmps69
    go_wp2_with fail
    generalize w.alloc (.cells #[.string ⟨#[]⟩, .string ⟨#[]⟩] 96) = w0 at *
    refine (tleafs_any A n c a _ (hr.ext E0) hm).mono ?_
    rw [DA.out]
    rintro _ w1 ⟨⟨v1, rfl, own1⟩, hb1⟩
    obtain ⟨A1, c1, rfl, hc1, R1⟩ := own1.rd
    have z1 := z0.ext hb1
    have E1 := E0.trans hb1
    clear own1
    go_wp2_with fail
    refine (tleafs_any A' n c' b _ (hr'.ext E1) hm').mono ?_
    rw [DB.out]
    rintro _ w2 ⟨⟨v2, rfl, own2⟩, hb2⟩
    obtain ⟨A2, c2, rfl, hc2, R2⟩ := own2.rd
    have z2 := z1.ext hb2
    have E2 := E1.trans hb2
    have R1' := R1.ext hb2
    clear own2
    rw [SKA.out, sumsD_len a, HXA.out] at R1'
    rw [SKB.out, sumsD_len b, HXB.out] at R2
    rw [SKA.out, SKB.out, sumsD_len a, sumsD_len b, HXA.out, HXB.out]
    go_wp2_with fail
    refine (SEq_any A A' n n c c' a b _ (hr.ext E2) (hr'.ext E2) hm hm').mono ?_
    rw [HQ.out]
    rintro _ w3 ⟨rfl, hb3⟩
    have z3 := z2.ext hb3
    have E3 := E2.trans hb3
    have R1'' := R1'.ext hb3
    have R2' := R2.ext hb3
    clear R1 R1' R2
    have hn2 : n ≤ 200 := by have := OKA.out.1; rw [HXA.out] at this; exact this
    go_wp2_with fail
    refine (Of_any n A1 n c1 (sumsD a) _ (Nat.le_refl _) R1'' hc1 (by omega) (allV_sumsD a)).mono ?_
    rintro _ w4 ⟨rfl, hb4⟩
    have z4 := z3.ext hb4
    have E4 := E3.trans hb4
    go_wp2_with fail
    refine (Of_any n A2 n c2 (sumsD b) _ (Nat.le_refl _) (R2'.ext hb4) hc2 (by omega) (allV_sumsD b)).mono ?_
    rintro _ w5 ⟨rfl, hb5⟩
    have z5 := z4.ext hb5
    have E5 := E4.trans hb5
    rw [H5.out]
    go_wp2_with fail
    refine (differ_any n A A' A1 A2 n c c' c1 c2 a b _ (Nat.le_refl _) (hr.ext E5) (hr'.ext E5) (R1''.ext (hb4.trans hb5)) ((R2'.ext hb4).ext hb5) hm hm' hc1 hc2 hn1 (by omega) (fun s hs => by have := OKA.out.2 s hs; omega) (fun s hs => by have := OKB.out.2 s hs; omega)).mono ?_
    rw [HCL.out]
    rintro _ w6 ⟨rfl, hb6⟩
    have B6 := (z5.ext hb6)
    have E6 := (E5.trans hb6)
    have p0 := B6.cell 0
    have p1 := B6.cell 1
    have p2 := B6.frozen 0
    have p3 := B6.frozen 1
    have B7 := (B6.set_ 0 (.string x)).set_ 1 (.string y)
    have g0 := B7.cell 0
    have g1 := B7.cell 1
    simp at g0 g1
    have E7 := (E6.setCell (p := ⟨w.heap.size, 0, none⟩) (Nat.le_refl _) (.string x)).setCell (p := ⟨w.heap.size, 1, none⟩) (Nat.le_refl _) (.string y)
    go_wp2_with fail
    refine bodyPost_ret (by simp [results, Tryd.results69, go_sem, g0, g1]; try rfl) rfl ?_
    exact ⟨rfl, E7⟩
end Go.Proofs.YtgfkalhpefjenaaDoor
