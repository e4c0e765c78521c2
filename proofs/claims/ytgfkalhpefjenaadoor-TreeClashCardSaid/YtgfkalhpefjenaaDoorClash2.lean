import Derived.Test.YtgfkalhpefjenaaDoorClash
namespace Go.Proofs.YtgfkalhpefjenaaDoor
open Go.RowKit Go.WideShapes
set_option linter.unusedVariables false
attribute [local go_sem ↓] Go.wp_at_zero Go.wp_at_succ

theorem RTop_any (k : Nat) (a : List ByteArray) (w : World) (hl : a.length ≤ 4096) :
    Calls Tryd.prog 118 #[.int .i64 (ofL ((sumsD a).take k)), .int .i64 (ofL ((sumsD a).drop k))] w fun e w' => e = .returned (.string (topS k a)) ∧ Ext w w' :=
  RNodeBytes_any _ _ w (vld_ofL (allV_take (allV_sumsD a) k) (by rw [List.length_take, sumsD_len]; omega)) (vld_ofL (allV_drop (allV_sumsD a) k) (by rw [List.length_drop, sumsD_len]; omega))
theorem zeroClash (w : World) : Bk (w.alloc (.cells #[.string ⟨#[]⟩, .string ⟨#[]⟩] 96)) w.heap.size 96 #[.string ⟨#[]⟩, .string ⟨#[]⟩] := Bk.at_ _ _ _ _ rfl

set_option maxRecDepth 100000 in
set_option maxHeartbeats 4000000 in
theorem RClash_any (N : Nat) : ∀ (A A' : Option Addr) (n c c' : Nat) (a b : List ByteArray) (w : World), n ≤ N → Rd w 1 A n c (a.map Value.string) → Rd w 1 A' n c' (b.map Value.string) → c ≤ maxLen → c' ≤ maxLen → 1 ≤ n → n ≤ 4096 → (∀ s ∈ a, s.size ≤ 1000000) → (∀ s ∈ b, s.size ≤ 1000000) →
    Calls Tryd.prog 68 #[.slice A n c, .slice A' n c'] w fun e w' => e = .returned (.agg #[.string (clashL a b).1, .string (clashL a b).2]) ∧ Ext w w' := by
  induction N with
  | zero => intro A A' n c c' a b w hN hr hr' hm hm' h1; omega
  | succ N ih =>
    intro A A' n c c' a b w hN hr hr' hm hm' h1 hn hsa hsb
    have hxa := hr.lenS
    have hxb := hr'.lenS
    have IH := Lib.hid ih
    clear ih
    by_cases h2 : 2 ≤ n
    · have hl := hr.2.1
      have hl' := hr'.2.1
      have hk := half_lt h2 hn
      have hk0 := half_pos n
      have hk' := half_le h2 hn
      have HXA := Lib.hid hxa
      have HXB := Lib.hid hxb
      have HSA := Lib.hid hsa
      have HSB := Lib.hid hsb
      have HCT := Lib.hid (fun h => clashL_top (a := a) (b := b) (by omega) (by omega) h)
      have HCL := Lib.hid (fun h h' => clashL_left (a := a) (b := b) (by omega) (by omega) h h')
      have HCR := Lib.hid (fun h h' => clashL_right (a := a) (b := b) (by omega) (by omega) h h')
      rw [hxa] at HCT HCL HCR
      unfold maxLen at hm hm'
      have e1 : ((n : Int) == 1) = false := by simp; omega
      have q0 : (0 : Int) ≤ (half n : Int) := by omega
      have q1 : (half n : Int) ≤ (n : Int) := by omega
      have q2 : (half n : Int) ≤ (c : Int) := by omega
      have q2' : (half n : Int) ≤ (c' : Int) := by omega
      have q3 : (n : Int) ≤ (c : Int) := by omega
      have q3' : (n : Int) ≤ (c' : Int) := by omega
      have z0 := zeroClash w
      have E0 : Ext w (w.alloc (.cells #[.string ⟨#[]⟩, .string ⟨#[]⟩] 96)) := by (repeat (with_reducible first | exact Ext.refl _ | assumption | refine Ext.drew ?_ | refine Ext.drewN ?_ _ | refine Ext.alloc ?_ _ | refine Ext.trans ?_ (by with_reducible assumption)))
      clear hxa hxb hsa hsb
      go_enter Tryd.func68, Tryd.ntmps68
      go_wp2_with fail
      generalize w.alloc (.cells #[.string ⟨#[]⟩, .string ⟨#[]⟩] 96) = w0 at *
      refine (RHalf_any n _ (by omega) hn).mono ?_
      rintro e w' ⟨rfl, rfl⟩
      go_wp2_with fail
      refine (RSums_any A n c a _ (hr.ext E0) (by simp only [maxLen]; omega) hn HSA.out).mono ?_
      rintro _ w1 ⟨⟨v1, rfl, own1⟩, hb1⟩
      obtain ⟨A1, c1, rfl, hc1, R1⟩ := own1.rd
      have E1 := E0.trans hb1
      clear own1
      go_wp2_with fail
      refine (RSums_any A' n c' b _ (hr'.ext E1) (by simp only [maxLen]; omega) hn HSB.out).mono ?_
      rintro _ w2 ⟨⟨v2, rfl, own2⟩, hb2⟩
      obtain ⟨A2, c2, rfl, hc2, R2⟩ := own2.rd
      have E2 := E1.trans hb2
      have z2 := (z0.ext hb1).ext hb2
      have R1' := R1.ext hb2
      clear own2 R1 z0
      rw [sumsD_len a, HXA.out] at R1' ⊢
      rw [sumsD_len b, HXB.out] at R2 ⊢
      have hl1 := R1'.2.1
      have hl2 := R2.2.1
      unfold maxLen at hc1 hc2
      have p1 : (half n : Int) ≤ (c1 : Int) := by omega
      have p2 : (half n : Int) ≤ (c2 : Int) := by omega
      have p3 : (n : Int) ≤ (c1 : Int) := by omega
      have p4 : (n : Int) ≤ (c2 : Int) := by omega
      have L1 := R1'.takeI (k := half n) (by omega)
      have D1 := R1'.dropI' (k := half n) (by omega)
      have D1i := R1'.dropI (k := half n) (by omega)
      have L2 := R2.takeI (k := half n) (by omega)
      have D2 := R2.dropI' (k := half n) (by omega)
      have D2i := R2.dropI (k := half n) (by omega)
      have LA := Lib.hid (show a.length ≤ 4096 by rw [HXA.out]; exact hn)
      have LB := Lib.hid (show b.length ≤ 4096 by rw [HXB.out]; exact hn)
      go_wp2_with fail
      (refine wp_region_ext (w0 := w2) (by kernel_rfl) (by kernel_rfl) (by (repeat (with_reducible first | exact Ext.refl _ | assumption | refine Ext.drew ?_ | refine Ext.drewN ?_ _ | refine Ext.alloc ?_ _ | refine Ext.trans ?_ (by with_reducible assumption)))) ?_; (repeat (go_big_quiet_step ((first
        | (go_at_call 31; first
            | with_reducible exact quietE (RRoot_any n _ _ _ _ _ (by omega) (L1.ext (WE.h _)) (by simp only [maxLen]; omega) (by omega) (allV_take (allV_sumsD a) _))
            | with_reducible exact quietE (RRoot_any n _ _ _ _ _ (by omega) (D1.ext (WE.h _)) (by simp only [maxLen]; omega) (by omega) (allV_drop (allV_sumsD a) _))
            | with_reducible exact quietE (RRoot_any n _ _ _ _ _ (by omega) (D1i.ext (WE.h _)) (by simp only [maxLen]; omega) (by omega) (allV_drop (allV_sumsD a) _)))
        | (go_at_call 118; exact quietE (RTop_any _ _ _ LA.out)))))); refine wpQuiet_nil ?_)
      intro w3 hb3
      have E3 := E2.trans hb3
      have z3 := z2.ext hb3
      have L2' := L2.ext hb3
      have D2' := D2.ext hb3
      have D2i' := D2i.ext hb3
      clear L1 D1 D1i L2 D2 D2i R1' R2 z2
      go_wp2_with fail
      (refine wp_region_ext (w0 := w3) (by kernel_rfl) (by kernel_rfl) (by (repeat (with_reducible first | exact Ext.refl _ | assumption | refine Ext.drew ?_ | refine Ext.drewN ?_ _ | refine Ext.alloc ?_ _ | refine Ext.trans ?_ (by with_reducible assumption)))) ?_; (repeat (go_big_quiet_step ((first
        | (go_at_call 31; first
            | with_reducible exact quietE (RRoot_any n _ _ _ _ _ (by omega) (L2'.ext (WE.h _)) (by simp only [maxLen]; omega) (by omega) (allV_take (allV_sumsD b) _))
            | with_reducible exact quietE (RRoot_any n _ _ _ _ _ (by omega) (D2'.ext (WE.h _)) (by simp only [maxLen]; omega) (by omega) (allV_drop (allV_sumsD b) _))
            | with_reducible exact quietE (RRoot_any n _ _ _ _ _ (by omega) (D2i'.ext (WE.h _)) (by simp only [maxLen]; omega) (by omega) (allV_drop (allV_sumsD b) _)))
        | (go_at_call 118; exact quietE (RTop_any _ _ _ LB.out)))))); refine wpQuiet_nil ?_)
      intro w4 hb4
      have E4 := E3.trans hb4
      have z4 := z3.ext hb4
      clear L2' D2' D2i' z3
      by_cases ht : topB (half n) a = topB (half n) b
      · have hts : topS (half n) a = topS (half n) b := congrArg (fun l : List UInt8 => (⟨l.toArray⟩ : ByteArray)) ht
        rw [hts]
        have HT := Lib.hid ht
        have RA := hr.takeS (k := half n) (by omega)
        have RB := hr'.takeS (k := half n) (by omega)
        have TA := hr.dropS' (k := half n) (by omega)
        have TB := hr'.dropS' (k := half n) (by omega)
        have TAi := hr.dropS (k := half n) (by omega)
        have TBi := hr'.dropS (k := half n) (by omega)
        clear hts ht
        generalize topS (half n) b = sb at *
        go_wp2_with fail
        (refine wp_region_ext (w0 := w4) (by kernel_rfl) (by kernel_rfl) (by (repeat (with_reducible first | exact Ext.refl _ | assumption | refine Ext.drew ?_ | refine Ext.drewN ?_ _ | refine Ext.alloc ?_ _ | refine Ext.trans ?_ (by with_reducible assumption)))) ?_; (repeat (go_big_quiet_step (((go_at_call 119; exact quietE (Rsame_any _ _ _ _ _ _ _ _ (RA.ext (E4.trans (WE.h _))) (RB.ext (E4.trans (WE.h _))) (by simp only [maxLen]; omega) (by simp only [maxLen]; omega))))))); refine wpQuiet_nil ?_)
        intro w5 hb5
        have E5 := E4.trans hb5
        have z5 := z4.ext hb5
        have sa : ∀ s ∈ a.take (half n), s.size ≤ 1000000 := fun s hs => HSA.out s (List.mem_of_mem_take hs)
        have sb' : ∀ s ∈ b.take (half n), s.size ≤ 1000000 := fun s hs => HSB.out s (List.mem_of_mem_take hs)
        have ta : ∀ s ∈ a.drop (half n), s.size ≤ 1000000 := fun s hs => HSA.out s (List.mem_of_mem_drop hs)
        have tb : ∀ s ∈ b.drop (half n), s.size ≤ 1000000 := fun s hs => HSB.out s (List.mem_of_mem_drop hs)
        have SA := Lib.hid sa
        have SB := Lib.hid sb'
        have TSA := Lib.hid ta
        have TSB := Lib.hid tb
        clear sa sb' ta tb
        by_cases he : a.take (half n) = b.take (half n)
        · rw [sameB_yes he]
          obtain ⟨cl, hcl⟩ : ∃ cl, cl = clashL (a.drop (half n)) (b.drop (half n)) := ⟨_, rfl⟩
          obtain ⟨x, y⟩ := cl
          have CL : Hid (clashL (a.drop (half n)) (b.drop (half n)) = (x, y)) := hcl.symm
          have CR : Hid (clashL a b = (x, y)) := by show _ = _; rw [HCR.out HT.out he]; exact hcl.symm
          clear he hcl
          go_wp2_with fail
          go_region_held3 (fun _ => True) (exact trivial) (first
            | (go_at_call 68; (with_reducible refine (IH.out _ _ (n - half n) (c - half n) (c' - half n) (a.drop (half n)) (b.drop (half n)) _ (by omega) (by first | exact TA.ext (E5.trans (by (repeat (with_reducible first | exact Ext.refl _ | assumption | refine Ext.drew ?_ | refine Ext.drewN ?_ _ | refine Ext.alloc ?_ _ | refine Ext.trans ?_ (by with_reducible assumption))))) | exact TAi.ext (E5.trans (by (repeat (with_reducible first | exact Ext.refl _ | assumption | refine Ext.drew ?_ | refine Ext.drewN ?_ _ | refine Ext.alloc ?_ _ | refine Ext.trans ?_ (by with_reducible assumption)))))) (by first | exact TB.ext (E5.trans (by (repeat (with_reducible first | exact Ext.refl _ | assumption | refine Ext.drew ?_ | refine Ext.drewN ?_ _ | refine Ext.alloc ?_ _ | refine Ext.trans ?_ (by with_reducible assumption))))) | exact TBi.ext (E5.trans (by (repeat (with_reducible first | exact Ext.refl _ | assumption | refine Ext.drew ?_ | refine Ext.drewN ?_ _ | refine Ext.alloc ?_ _ | refine Ext.trans ?_ (by with_reducible assumption)))))) (by simp only [maxLen]; omega) (by simp only [maxLen]; omega) (by omega) (by omega) TSA.out TSB.out).mono ?_); rintro e w6 ⟨rfl, hb6⟩; rw [CL.out]; have B6 : Bk w6 w.heap.size 96 #[.string ⟨#[]⟩, .string ⟨#[]⟩] := (by exact (Bk.drew z5).ext hb6); have E6 : Ext w w6 := (by exact E5.trans (Ext.trans (Ext.drew (Ext.refl _)) hb6)); have p0 := B6.cell 0; have p1 := B6.cell 1; have p2 := B6.frozen 0; have p3 := B6.frozen 1)
            | fail)
          have B7 := (B6.set_ 0 (.string x)).set_ 1 (.string y)
          have g0 := B7.cell 0
          have g1 := B7.cell 1
          simp at g0 g1
          have E7 := (E6.setCell (p := ⟨w.heap.size, 0, none⟩) (Nat.le_refl _) (.string x)).setCell (p := ⟨w.heap.size, 1, none⟩) (Nat.le_refl _) (.string y)
          go_wp2_with fail
          refine bodyPost_ret (by simp [results, Tryd.results68, go_sem, g0, g1]; try rfl) rfl ?_
          exact ⟨by rw [CR.out], E7⟩
        · rw [sameB_no he]
          obtain ⟨cl, hcl⟩ : ∃ cl, cl = clashL (a.take (half n)) (b.take (half n)) := ⟨_, rfl⟩
          obtain ⟨x, y⟩ := cl
          have CL : Hid (clashL (a.take (half n)) (b.take (half n)) = (x, y)) := hcl.symm
          have CR : Hid (clashL a b = (x, y)) := by show _ = _; rw [HCL.out HT.out he]; exact hcl.symm
          clear he hcl
          go_wp2_with fail
          go_region_held3 (fun _ => True) (exact trivial) (first
            | (go_at_call 68; (with_reducible refine (IH.out A A' (half n) c c' (a.take (half n)) (b.take (half n)) _ (by omega) (by exact RA.ext (E5.trans (by (repeat (with_reducible first | exact Ext.refl _ | assumption | refine Ext.drew ?_ | refine Ext.drewN ?_ _ | refine Ext.alloc ?_ _ | refine Ext.trans ?_ (by with_reducible assumption)))))) (by exact RB.ext (E5.trans (by (repeat (with_reducible first | exact Ext.refl _ | assumption | refine Ext.drew ?_ | refine Ext.drewN ?_ _ | refine Ext.alloc ?_ _ | refine Ext.trans ?_ (by with_reducible assumption)))))) (by simp only [maxLen]; omega) (by simp only [maxLen]; omega) (by omega) (by omega) SA.out SB.out).mono ?_); rintro e w6 ⟨rfl, hb6⟩; rw [CL.out]; have B6 : Bk w6 w.heap.size 96 #[.string ⟨#[]⟩, .string ⟨#[]⟩] := (by exact (Bk.drew z5).ext hb6); have E6 : Ext w w6 := (by exact E5.trans (Ext.trans (Ext.drew (Ext.refl _)) hb6)); have p0 := B6.cell 0; have p1 := B6.cell 1; have p2 := B6.frozen 0; have p3 := B6.frozen 1)
            | fail)
          have B7 := (B6.set_ 0 (.string x)).set_ 1 (.string y)
          have g0 := B7.cell 0
          have g1 := B7.cell 1
          simp at g0 g1
          have E7 := (E6.setCell (p := ⟨w.heap.size, 0, none⟩) (Nat.le_refl _) (.string x)).setCell (p := ⟨w.heap.size, 1, none⟩) (Nat.le_refl _) (.string y)
          go_wp2_with fail
          refine bodyPost_ret (by simp [results, Tryd.results68, go_sem, g0, g1]; try rfl) rfl ?_
          exact ⟨by rw [CR.out], E7⟩
      · have HC := Lib.hid (HCT.out ht)
        have hse : (!(topS (half n) a).toList == (topS (half n) b).toList) = true := by
          rw [(Lib.bytes_beq_false_iff _ _).2 (fun e => topS_ne ht (congrArg ByteArray.toList e))]; rfl
        clear ht
        generalize topS (half n) a = x at *
        generalize topS (half n) b = y at *
        have p0 := z4.cell 0
        have p1 := z4.cell 1
        have p2 := z4.frozen 0
        have p3 := z4.frozen 1
        have B6 := z4
        have E6 := E4
        go_wp2_with fail
        have B7 := (B6.set_ 0 (.string x)).set_ 1 (.string y)
        have g0 := B7.cell 0
        have g1 := B7.cell 1
        simp at g0 g1
        have E7 := (E6.setCell (p := ⟨w.heap.size, 0, none⟩) (Nat.le_refl _) (.string x)).setCell (p := ⟨w.heap.size, 1, none⟩) (Nat.le_refl _) (.string y)
        refine bodyPost_ret (by simp [results, Tryd.results68, go_sem, g0, g1]; try rfl) rfl ?_
        exact ⟨by rw [HC.out], E7⟩
    · obtain rfl : n = 1 := by omega
      obtain ⟨x, rfl⟩ := List.length_eq_one_iff.1 hxa
      obtain ⟨y, rfl⟩ := List.length_eq_one_iff.1 hxb
      obtain ⟨ad, rfl, hb, c0⟩ := hr.getS (j := 0) (z := x) rfl
      obtain ⟨ad', rfl, hb', c0'⟩ := hr'.getS (j := 0) (z := y) rfl
      rw [add_zero'] at c0 c0'
      have HC := Lib.hid (clashL_one x y)
      have hx1 := hsa x (by simp)
      have hy1 := hsb y (by simp)
      have z0 := zeroClash w
      have E0 : Ext w (w.alloc (.cells #[.string ⟨#[]⟩, .string ⟨#[]⟩] 96)) := by (repeat (with_reducible first | exact Ext.refl _ | assumption | refine Ext.drew ?_ | refine Ext.drewN ?_ _ | refine Ext.alloc ?_ _ | refine Ext.trans ?_ (by with_reducible assumption)))
      have d0 := (E0.cell (p := ad) hb).trans c0
      have d0' := (E0.cell (p := ad') hb').trans c0'
      clear hr hr' hsa hsb hxa hxb h2
      go_enter Tryd.func68, Tryd.ntmps68
      go_wp2_with fail
      generalize w.alloc (.cells #[.string ⟨#[]⟩, .string ⟨#[]⟩] 96) = w0 at *
      have p0 := z0.cell 0
      have p1 := z0.cell 1
      have p2 := z0.frozen 0
      have p3 := z0.frozen 1
      go_region
      all_goals
        go_wp2_with fail
        have B7 := (z0.set_ 0 (.string (⟨#[0]⟩ ++ x))).set_ 1 (.string (⟨#[0]⟩ ++ y))
        have g0 := (z0.set_ 0 (.string (⟨#[0]⟩ ++ x))).cell 0
        have g1 := B7.cell 1
        simp at g0 g1
        have E7 := ((Ext.drew E0).setCell (p := ⟨w.heap.size, 0, none⟩) (Nat.le_refl _) (.string (⟨#[0]⟩ ++ x))).setCell (p := ⟨w.heap.size, 1, none⟩) (Nat.le_refl _) (.string (⟨#[0]⟩ ++ y))
        refine bodyPost_ret (by simp [results, Tryd.results68, go_sem, g0, g1]; try rfl) rfl ?_
        exact ⟨by rw [HC.out]; rfl, E7⟩
end Go.Proofs.YtgfkalhpefjenaaDoor
