import Derived.Test.YtgfkalhpefjenaaDoorR5
import Derived.Test.YtgfkalhpefjenaaDoorTot2
import Derived.Test.YtgfkalhpefjenaaDoorClash4
import Derived.Test.YtgfkalhpefjenaaDoorUp
import Derived.Deep.CutBlock
namespace Go.Proofs.YtgfkalhpefjenaaDoor.treeClash
open Go.RowKit Go.WideShapes
set_option linter.unusedVariables false
attribute [local go_sem ↓] Go.wp_at_zero Go.wp_at_succ

/-! ### plain -/
theorem str0_inj {x y : ByteArray} (h : str0 x = str0 y) : x = y := by
  have h1 := congrArg (fun s : ByteArray => s.data.toList) h
  simp only [str0, toList_cat] at h1
  have h2 := List.append_cancel_left h1
  cases x; cases y
  simp at h2
  rw [h2]
theorem sum_str0 (x : ByteArray) : sumL (str0 x).data.toList = leafL x.data.toList := by unfold str0; rw [toList_cat]; rfl
theorem sum_topS (k : Nat) (a : List ByteArray) : sumL (topS k a).data.toList = nodeL (ofL ((sumsD a).take k)) (ofL ((sumsD a).drop k)) := rfl
theorem topS_size (k : Nat) (a : List ByteArray) : (topS k a).size = 9 := rfl
theorem str0_size (x : ByteArray) : (str0 x).size = 1 + x.size := by unfold str0; rw [size_cat]; rfl
theorem ofL_sums_node {a : List ByteArray} (h2 : 2 ≤ a.length) (hn : a.length ≤ 4096) : ofL (sumsD a) = nodeL (ofL ((sumsD a).take (half a.length))) (ofL ((sumsD a).drop (half a.length))) := by
  have := ofL_node (xs := sumsD a) (by rw [sumsD_len]; exact h2) (by rw [sumsD_len]; exact hn)
  rwa [sumsD_len] at this
theorem clash_law (N : Nat) : ∀ (a b : List ByteArray), a.length ≤ N → 1 ≤ a.length → a.length ≤ 4096 → a.length = b.length → (∀ s ∈ a, s.size ≤ 200) → (∀ s ∈ b, s.size ≤ 200) → a ≠ b → ofL (sumsD a) = ofL (sumsD b) →
    (clashL a b).1 ≠ (clashL a b).2 ∧ sumL (clashL a b).1.data.toList = sumL (clashL a b).2.data.toList ∧ (clashL a b).1.size ≤ 1000 ∧ (clashL a b).2.size ≤ 1000 := by
  induction N with
  | zero => intro a b h h1; omega
  | succ N ih =>
    intro a b h h1 hn hl ha hb hne ho
    by_cases h2 : 2 ≤ a.length
    · have hk := half_lt h2 hn
      have hk0 := half_pos a.length
      have hna := ofL_sums_node h2 hn
      have hnb := ofL_sums_node (a := b) (by omega) (by omega)
      rw [← hl] at hnb
      by_cases ht : topB (half a.length) a = topB (half a.length) b
      · obtain ⟨e1, e2⟩ := nodeB_inj (vld_ofL (allV_take (allV_sumsD a) _) (by rw [List.length_take, sumsD_len]; omega)) (vld_ofL (allV_drop (allV_sumsD a) _) (by rw [List.length_drop, sumsD_len]; omega)) (vld_ofL (allV_take (allV_sumsD b) _) (by rw [List.length_take, sumsD_len]; omega)) (vld_ofL (allV_drop (allV_sumsD b) _) (by rw [List.length_drop, sumsD_len]; omega)) ht
        rw [sumsD_take, sumsD_take] at e1
        rw [sumsD_drop, sumsD_drop] at e2
        by_cases he : a.take (half a.length) = b.take (half a.length)
        · rw [clashL_right h2 hn ht he]
          refine ih _ _ (by rw [List.length_drop]; omega) (by rw [List.length_drop]; omega) (by rw [List.length_drop]; omega) (by rw [List.length_drop, List.length_drop, hl]) (fun s hs => ha s (List.mem_of_mem_drop hs)) (fun s hs => hb s (List.mem_of_mem_drop hs)) ?_ e2
          intro hd
          apply hne
          rw [← List.take_append_drop (half a.length) a, ← List.take_append_drop (half a.length) b, List.take_append_drop, List.take_append_drop] at *
          rw [← List.take_append_drop (half a.length) a, he, hd, List.take_append_drop]
        · rw [clashL_left h2 hn ht he]
          exact ih _ _ (by rw [List.length_take]; omega) (by rw [List.length_take]; omega) (by rw [List.length_take]; omega) (by rw [List.length_take, List.length_take, hl]) (fun s hs => ha s (List.mem_of_mem_take hs)) (fun s hs => hb s (List.mem_of_mem_take hs)) he e1
      · rw [clashL_top h2 hn ht]
        refine ⟨fun e => topS_ne ht (congrArg ByteArray.toList e), ?_, by rw [topS_size]; omega, by rw [topS_size]; omega⟩
        rw [sum_topS, sum_topS, ← hna, ← hnb, ho]
    · have h0 : a.length = 1 := by omega
      obtain ⟨x, rfl⟩ := List.length_eq_one_iff.1 h0
      obtain ⟨y, rfl⟩ := List.length_eq_one_iff.1 (hl ▸ h0 : b.length = 1)
      rw [clashL_one]
      have hx := ha x (by simp)
      have hy := hb y (by simp)
      refine ⟨fun e => hne (by rw [str0_inj e]), ?_, by rw [str0_size]; omega, by rw [str0_size]; omega⟩
      rw [sum_str0, sum_str0]
      have h3 : ofL [leafL x.data.toList] = ofL [leafL y.data.toList] := ho
      rwa [ofL_one, ofL_one] at h3
theorem fact_ok : leafsOk [1, 2, 3] := ⟨by decide, by decide⟩
theorem fact_of : ofL [1, 2, 3] = nodeL (nodeL 1 2) 3 := by
  have h3 : half 3 = 2 := by decide
  have h2 : half 2 = 1 := by decide
  rw [ofL_node (by decide) (by decide)]
  show nodeL (ofL (List.take (half 3) [1, 2, 3])) (ofL (List.drop (half 3) [1, 2, 3])) = _
  rw [h3]
  show nodeL (ofL [1, 2]) (ofL [3]) = _
  rw [ofL_node (by decide) (by decide)]
  show nodeL (nodeL (ofL (List.take (half 2) [1, 2])) (ofL (List.drop (half 2) [1, 2]))) (ofL [3]) = _
  rw [h2]
  show nodeL (nodeL (ofL [1]) (ofL [2])) (ofL [3]) = _
  rw [ofL_one, ofL_one, ofL_one]
theorem three_rd (w : World) : Rd (w.alloc (.cells #[.int .i64 1, .int .i64 2, .int .i64 3] 3)) 1 (some ⟨w.heap.size, 0, none⟩) 3 3 (([1, 2, 3] : List Int).map (Value.int .i64)) :=
  ⟨rfl, Nat.le_refl _, fun _ => ⟨_, rfl, by simp, news_new w 3 _ _ rfl⟩⟩
theorem leafsK_sums (l : List ByteArray) : leafsK (sumsD l) = if 200 < l.length then 4 else 0 := by
  unfold leafsK
  rw [sumsD_len, allV_sumsD, if_pos rfl]
/-- what the last test asks -/
theorem last (a b : List ByteArray) (n : Nat) (ha : a.length = n) (hb : b.length = n) (hn : n ≤ 200) (hk : collK a b ≠ 0) : a = b ∨ (a ≠ b ∧ errIs (collK a b) 5 = false) ∨ (a ≠ b ∧ errIs (collK a b) 5 = true ∧ ofL (sumsD a) ≠ ofL (sumsD b)) := by
  rcases coll_ways a b with ⟨h1, h⟩ | ⟨h1, h2, h⟩ | ⟨h1, h2, h3, h⟩ | ⟨h1, h2, h3, h4, h⟩ | ⟨h1, h2, h3, h4, h5, h⟩ | ⟨h1, h2, h3, h4, h5, h⟩
  · rcases Classical.em (a = b) with e | e
    · exact .inl e
    · exact .inr (.inl ⟨e, by rw [h]; rfl⟩)
  · rcases Classical.em (a = b) with e | e
    · exact .inl e
    · exact .inr (.inl ⟨e, by rw [h]; rfl⟩)
  · omega
  · exact .inl h4
  · exact .inr (.inr ⟨h4, by rw [h]; rfl, h5⟩)
  · exact absurd h hk

set_option maxRecDepth 100000 in
set_option maxHeartbeats 4000000 in
theorem walk_yes (A1 : Option Addr) (n1 c1 : Nat) (a : List ByteArray) (A2 : Option Addr) (n2 c2 : Nat) (b : List ByteArray) (w : World)
    (hl1 : a.length = n1) (hm1 : c1 ≤ maxLen) (hr1 : Rd w 1 A1 n1 c1 (a.map Value.string)) (hl2 : b.length = n2) (hm2 : c2 ≤ maxLen) (hr2 : Rd w 1 A2 n2 c2 (b.map Value.string)) (hk : collK a b = 0) :
    Calls Tryd.prog 13 #[.slice A1 n1 c1, .slice A2 n2 c2] w fun e w' => e = .returned (.bool true) ∧ Ext w w' := by
  have hC := coll_ways a b
  have hC : dataOk a ∧ dataOk b ∧ a.length = b.length ∧ a ≠ b ∧ ofL (sumsD a) = ofL (sumsD b) := by
    rcases hC with ⟨_, h⟩ | ⟨_, _, h⟩ | ⟨_, _, _, h⟩ | ⟨_, _, _, _, h⟩ | ⟨_, _, _, _, _, h⟩ | ⟨h1, h2, h3, h4, h5, h⟩
    all_goals first | exact ⟨h1, h2, h3, h4, h5⟩ | (rw [hk] at h; cases h)
  obtain ⟨h1, h2, h3, h4, h5⟩ := hC
  have hn0 : 1 ≤ a.length := by
    rcases Nat.eq_zero_or_pos a.length with h0 | h0
    · exact absurd ((List.eq_nil_of_length_eq_zero h0).trans (List.eq_nil_of_length_eq_zero (h3.symm.trans h0)).symm) h4
    · exact h0
  obtain ⟨q1, q2, q3, q4⟩ := clash_law a.length a b (Nat.le_refl _) hn0 (by have := h1.1; omega) h3 h1.2 h2.2 h4 h5
  have hv : collV a b = clashL a b := if_pos hk
  have HE : Hid (errR (collK a b) = .nilIface) := by show _ = _; rw [hk]; rfl
  obtain ⟨cl, hcl⟩ : ∃ cl, cl = collV a b := ⟨_, rfl⟩
  have HCL := Lib.hid hcl.symm
  rw [hv] at hcl
  rw [← hcl] at q1 q2 q3 q4
  obtain ⟨x, y⟩ := cl
  have hse := (Lib.bytes_beq_false_iff x y).2 q1
  have HQ := Lib.hid q2
  have HF := Lib.hid fact_of
  have q3' : x.size ≤ 1000 := q3
  have q4' : y.size ≤ 1000 := q4
  clear h1 h2 h3 h4 h5 hn0 hcl hv hk q1 q2 q3 q4 hl1 hl2
  go_enter Tryd.func13, Tryd.ntmps13
  go_wp2_with fail
  refine (Root_ok _ 3 3 [1, 2, 3] _ (three_rd w) (by simp [maxLen]) fact_ok).mono ?_
  rw [HF.out]
  rintro _ w1 ⟨rfl, hb1⟩
  have X1 : Ext w w1 := by (repeat (with_reducible first | exact Ext.refl _ | assumption | refine Ext.drew ?_ | refine Ext.drewN ?_ _ | refine Ext.alloc ?_ _ | refine Ext.trans ?_ (by with_reducible assumption)))
  go_wp2_with fail
  refine (Node_ok 1 2 _ (by decide) (by decide)).mono ?_
  rintro _ w2 ⟨rfl, hb2⟩
  have X2 := X1.trans hb2
  have hv := vld_node 1 2
  have HV := Lib.hid hv
  clear hv
  go_wp2_with fail
  refine (Node_ok (nodeL 1 2) 3 _ HV.out (by decide)).mono ?_
  rintro _ w3 ⟨rfl, hb3⟩
  have X3 := X2.trans hb3
  clear hb1 hb2 hb3 X1 X2
  go_wp2_with fail
  refine (Collide_any A1 A2 n1 n2 c1 c2 a b _ (hr1.ext X3) (hr2.ext X3) hm1 hm2).mono ?_
  rw [HE.out, HCL.out]
  rintro _ w4 ⟨rfl, hb4⟩
  have X4 := X3.trans hb4
  have BN : Bk (w4.alloc (.cells #[.string x, .string y] 96)) w4.heap.size 96 #[.string x, .string y] := Bk.at_ _ _ _ _ rfl
  have X5 : Ext w (w4.alloc (.cells #[.string x, .string y] 96)) := X4.alloc _
  go_wp2_with fail
  generalize w4.alloc (.cells #[.string x, .string y] 96) = w5 at *
  have f0 : ∀ z : WE w5, z.W.cell? ⟨w4.heap.size, 0, none⟩ = some (.string x) := fun z => (BN.ext z.h).cell 0
  have f1 : ∀ z : WE w5, z.W.cell? ⟨w4.heap.size, 1, none⟩ = some (.string y) := fun z => (BN.ext z.h).cell 1
  (refine wp_region_ext (w0 := w5) (by kernel_rfl) (by kernel_rfl) (by (repeat (with_reducible first | exact Ext.refl _ | assumption | refine Ext.drew ?_ | refine Ext.drewN ?_ _ | refine Ext.alloc ?_ _ | refine Ext.trans ?_ (by with_reducible assumption)))) ?_; (repeat (go_big_quiet_step (((go_at_call 71; exact quietE (Sum_any _ _ (by simp only [maxLen]; omega))))))); refine wpQuiet_nil ?_)
  intro w6 hb6
  go_wp2_with fail
  go_ret
  exact ⟨ret_bool (by simp [HQ.out]), X5.trans hb6⟩

set_option maxRecDepth 100000 in
set_option maxHeartbeats 8000000 in
theorem walk_no (A1 : Option Addr) (n1 c1 : Nat) (a : List ByteArray) (A2 : Option Addr) (n2 c2 : Nat) (b : List ByteArray) (w : World)
    (hl1 : a.length = n1) (hm1 : c1 ≤ maxLen) (hr1 : Rd w 1 A1 n1 c1 (a.map Value.string)) (hz1 : ∀ y ∈ a, y.size ≤ 140737488355328) (hl2 : b.length = n2) (hm2 : c2 ≤ maxLen) (hr2 : Rd w 1 A2 n2 c2 (b.map Value.string)) (hz2 : ∀ y ∈ b, y.size ≤ 140737488355328) (hg : ErrG w) (hk : collK a b ≠ 0) :
    Calls Tryd.prog 13 #[.slice A1 n1 c1, .slice A2 n2 c2] w fun e w' => e = .returned (.bool true) ∧ Ext w w' := by
  have HE : Hid (errR (collK a b) = errV (collK a b)) := errR_ne hk
  have HK := Lib.hid hk
  have HF := Lib.hid fact_of
  have HX1 := Lib.hid hl1
  have HX2 := Lib.hid hl2
  have HZ1 := Lib.hid hz1
  have HZ2 := Lib.hid hz2
  have hlc1 := hr1.2.1
  have hlc2 := hr2.2.1
  have hmx1 : c1 ≤ 9223372036854775807 := by have := hm1; unfold maxLen at this; omega
  have hmx2 : c2 ≤ 9223372036854775807 := by have := hm2; unfold maxLen at this; omega
  obtain ⟨i0, hi0, hz0, hz1', hz2'⟩ := info_parts info_int
  obtain ⟨q1, HQ1⟩ : ∃ q, Hid (q = min n1 300) := ⟨_, rfl⟩
  obtain ⟨q2, HQ2⟩ : ∃ q, Hid (q = min n2 300) := ⟨_, rfl⟩
  have hq1 : q1 ≤ n1 ∧ q1 ≤ 300 := by have := HQ1.out; omega
  have hq2 : q2 ≤ n2 ∧ q2 ≤ 300 := by have := HQ2.out; omega
  obtain ⟨hq1a, hq1b⟩ := hq1
  obtain ⟨hq2a, hq2b⟩ := hq2
  clear hl1 hl2 hz1 hz2 hk
  go_enter Tryd.func13, Tryd.ntmps13
  go_wp2_with fail
  refine (Root_ok _ 3 3 [1, 2, 3] _ (three_rd w) (by simp [maxLen]) fact_ok).mono ?_
  rw [HF.out]
  rintro _ w1 ⟨rfl, hb1⟩
  have X1 : Ext w w1 := by (repeat (with_reducible first | exact Ext.refl _ | assumption | refine Ext.drew ?_ | refine Ext.drewN ?_ _ | refine Ext.alloc ?_ _ | refine Ext.trans ?_ (by with_reducible assumption)))
  go_wp2_with fail
  refine (Node_ok 1 2 _ (by decide) (by decide)).mono ?_
  rintro _ w2 ⟨rfl, hb2⟩
  have X2 := X1.trans hb2
  have hv := vld_node 1 2
  have HV := Lib.hid hv
  clear hv
  go_wp2_with fail
  refine (Node_ok (nodeL 1 2) 3 _ HV.out (by decide)).mono ?_
  rintro _ w3 ⟨rfl, hb3⟩
  have X3 := X2.trans hb3
  clear hb1 hb2 hb3 X1 X2
  go_wp2_with fail
  refine (Collide_any A1 A2 n1 n2 c1 c2 a b _ (hr1.ext X3) (hr2.ext X3) hm1 hm2).mono ?_
  rw [HE.out]
  rintro _ w4 ⟨rfl, hb4⟩
  have X4 := X3.trans hb4
  simp only [errV]
  go_upto_block 0 with (fail)
  have X5 : Ext w (w4.alloc (.cells #[.string (collV a b).1, .string (collV a b).2] 96)) := X4.alloc _
  generalize w4.alloc (.cells #[.string (collV a b).1, .string (collV a b).2] 96) = w5 at *
  clear X3 X4 hb4 HF HV
  generalize nodeL (nodeL 1 2) 3 = md at *
  generalize nodeL 1 2 = nd at *
  go_cut [13, 15] (fun v _ wc => OwnI w5 wc v (sumsD (a.take q1)) ∧ Ext w wc)
  case first =>
    as_aux_lemma =>
    go_wp2_with fail
    go_loopw [13, 15] (fun v x wr => ∃ k : Nat, x = .int .i64 k ∧ k ≤ q1 ∧ Ext w5 wr ∧ Hid (OwnI w5 wr v (sumsD (a.take k)))) (fun _ x _ => q1 - (intOf x).toNat)
    case atStart => exact ⟨0, rfl, Nat.zero_le _, by (repeat (with_reducible first | exact Ext.refl _ | assumption | refine Ext.drew ?_ | refine Ext.drewN ?_ _ | refine Ext.alloc ?_ _ | refine Ext.trans ?_ (by with_reducible assumption))), own_nil _ _ _ _⟩
    case round =>
      obtain ⟨k, rfl, hk, hbw, hown⟩ := hrel
      by_cases hc : k < q1
      · have h1 := List.getElem?_eq_getElem (l := a) (i := k) (by rw [HX1.out]; omega)
        obtain ⟨ad, rfl, hb, hcell⟩ := (hr1.ext (X5.trans hbw)).getS h1
        have HT := Lib.hid (sumsD_snoc h1)
        have HSZ := Lib.hid (HZ1.out _ (List.mem_of_getElem? h1))
        have h300 : k < 300 := by omega
        have hkn : k < n1 := by omega
        have hlen := sumsD_len (a.take k)
        rw [List.length_take, HX1.out, Nat.min_eq_left (by omega)] at hlen
        generalize a[k]'(by rw [HX1.out]; omega) = e at *
        generalize sumsD (a.take k) = L at *
        have hlL : L.length ≤ 4096 := by omega
        have hbw0 := hbw.size
        clear h1 hlen
        go_wp2_with fail
        refine (Leaf_any e _ HSZ.out).mono ?_
        rintro _ y1 ⟨rfl, hy1⟩
        have hs1 := hy1.size
        go_wp2_with (at_builtin; refine wpl_app (by rfl) _ _ _ (by rfl) w5.heap.size 3 i0 _ 1 8 Tryd.underlying36 hi0 hz0 hz1' hz2' rfl (by omega) u13 _ _ (by rfl) ((own_ext hown.out hy1).alloc _) y1.heap.size 1 [.int .i64 (leafL e.data.toList)] rfl (by rfl) (news_new y1 _ _ _ rfl) (oneI _) (by omega) (by omega) (by simp; omega) ?_; intro g cap y3 own3 hext3)
        go_roundw
        case rel => exact ⟨k + 1, by go_num, by omega, hext3 _ (Nat.le_refl _) ((hbw.trans hy1).alloc _), OwnI.mk own3 (by rw [HT.out]; simp) (by rw [HT.out]; simp)⟩
        case measure => simp [intOf]; omega
      · obtain rfl : k = q1 := by omega
        have hor : n1 ≤ k ∨ (k < n1 ∧ 300 ≤ k) := by have := HQ1.out; omega
        rcases hor with h | ⟨h, h'⟩
        all_goals
          go_wp2_with fail
          go_meet
          exact ⟨hown.out, X5.trans hbw⟩
  case rest =>
    as_aux_lemma =>
    obtain ⟨hown, X6⟩ := hcut
    obtain ⟨D1, d1, rfl, hd1, RD1⟩ := hown.rd
    clear hown X5
    have HL1 : Hid ((sumsD (a.take q1)).length = q1) := by show _ = _; rw [sumsD_len, List.length_take, HX1.out]; omega
    have HS1 : Hid (sumsD (a.take q1) = (sumsD a).take q1) := by show _ = _; exact (sumsD_take a q1).symm
    go_upto_block 2 with (fail)
    go_cut [14, 16] (fun v _ wc' => OwnI wc wc' v (sumsD (b.take q2)) ∧ Ext wc wc')
    case first =>
      as_aux_lemma =>
      go_wp2_with fail
      go_loopw [14, 16] (fun v x wr => ∃ k : Nat, x = .int .i64 k ∧ k ≤ q2 ∧ Ext wc wr ∧ Hid (OwnI wc wr v (sumsD (b.take k)))) (fun _ x _ => q2 - (intOf x).toNat)
      case atStart => exact ⟨0, rfl, Nat.zero_le _, by (repeat (with_reducible first | exact Ext.refl _ | assumption | refine Ext.drew ?_ | refine Ext.drewN ?_ _ | refine Ext.alloc ?_ _ | refine Ext.trans ?_ (by with_reducible assumption))), own_nil _ _ _ _⟩
      case round =>
        obtain ⟨k, rfl, hk, hbw, hown⟩ := hrel
        by_cases hc : k < q2
        · have h1 := List.getElem?_eq_getElem (l := b) (i := k) (by rw [HX2.out]; omega)
          obtain ⟨ad, rfl, hb, hcell⟩ := (hr2.ext (X6.trans hbw)).getS h1
          have HT := Lib.hid (sumsD_snoc h1)
          have HSZ := Lib.hid (HZ2.out _ (List.mem_of_getElem? h1))
          have h300 : k < 300 := by omega
          have hkn : k < n2 := by omega
          have hlen := sumsD_len (b.take k)
          rw [List.length_take, HX2.out, Nat.min_eq_left (by omega)] at hlen
          generalize b[k]'(by rw [HX2.out]; omega) = e at *
          generalize sumsD (b.take k) = L at *
          have hlL : L.length ≤ 4096 := by omega
          have hbw0 := hbw.size
          clear h1 hlen
          go_wp2_with fail
          refine (Leaf_any e _ HSZ.out).mono ?_
          rintro _ y1 ⟨rfl, hy1⟩
          have hs1 := hy1.size
          go_wp2_with (at_builtin; refine wpl_app (by rfl) _ _ _ (by rfl) wc.heap.size 3 i0 _ 1 8 Tryd.underlying36 hi0 hz0 hz1' hz2' rfl (by omega) u14 _ _ (by rfl) ((own_ext hown.out hy1).alloc _) y1.heap.size 1 [.int .i64 (leafL e.data.toList)] rfl (by rfl) (news_new y1 _ _ _ rfl) (oneI _) (by omega) (by omega) (by simp; omega) ?_; intro g cap y3 own3 hext3)
          go_roundw
          case rel => exact ⟨k + 1, by go_num, by omega, hext3 _ (Nat.le_refl _) ((hbw.trans hy1).alloc _), OwnI.mk own3 (by rw [HT.out]; simp) (by rw [HT.out]; simp)⟩
          case measure => simp [intOf]; omega
        · obtain rfl : k = q2 := by omega
          have hor : n2 ≤ k ∨ (k < n2 ∧ 300 ≤ k) := by have := HQ2.out; omega
          rcases hor with h | ⟨h, h'⟩
          all_goals
            go_wp2_with fail
            go_meet
            exact ⟨hown.out, hbw⟩
    case rest =>
      as_aux_lemma =>
      obtain ⟨hown, hbc⟩ := hcut
      have X7 := X6.trans hbc
      obtain ⟨D2, d2, rfl, hd2, RD2⟩ := hown.rd
      have HL2 : Hid ((sumsD (b.take q2)).length = q2) := by show _ = _; rw [sumsD_len, List.length_take, HX2.out]; omega
      have HS2 : Hid (sumsD (b.take q2) = (sumsD b).take q2) := by show _ = _; exact (sumsD_take b q2).symm
      have RD1' := RD1.ext hbc
      have hA1 := leafsK_sums (a.take q1)
      rw [List.length_take, HX1.out, Nat.min_eq_left (by omega)] at hA1
      have hA2 := leafsK_sums (b.take q2)
      rw [List.length_take, HX2.out, Nat.min_eq_left (by omega)] at hA2
      have HA1 := Lib.hid hA1
      have HA2 := Lib.hid hA2
      clear hA1 hA2
      obtain ⟨k1, HK1⟩ : ∃ k, Hid (k = leafsK (sumsD (a.take q1))) := ⟨_, rfl⟩
      obtain ⟨k2, HK2⟩ : ∃ k, Hid (k = leafsK (sumsD (b.take q2))) := ⟨_, rfl⟩
      obtain ⟨p1, HP1⟩ : ∃ k, Hid (k = rootV (sumsD (a.take q1))) := ⟨_, rfl⟩
      obtain ⟨p2, HP2⟩ : ∃ k, Hid (k = rootV (sumsD (b.take q2))) := ⟨_, rfl⟩
      generalize sumsD (a.take q1) = L1 at *
      generalize sumsD (b.take q2) = L2 at *
      clear hown X6 RD1 hbc
      go_wp2_with fail
      refine (Root_any D1 _ d1 L1 _ RD1' hd1).mono ?_
      rw [← HK1.out, ← HP1.out]
      rintro _ w6 ⟨rfl, hb6⟩
      have X8 := X7.trans hb6
      go_wp2_with fail
      refine (Root_any D2 _ d2 L2 _ (RD2.ext hb6) hd2).mono ?_
      rw [← HK2.out, ← HP2.out]
      rintro _ w7 ⟨rfl, hb7⟩
      have X9 := X8.trans hb7
      clear X7 X8 hb6 hb7
      have hw1 : (k1 = 4) ∨ (k1 = 0 ∧ q1 ≤ 200) := by
        have := HA1.out
        rw [← HK1.out] at this
        split at this
        · exact .inl this
        · exact .inr ⟨this, by omega⟩
      have hw2 : (k2 = 4) ∨ (k2 = 0 ∧ q2 ≤ 200) := by
        have := HA2.out
        rw [← HK2.out] at this
        split at this
        · exact .inl this
        · exact .inr ⟨this, by omega⟩
      obtain ⟨kk, HKK⟩ : ∃ kk, Hid (collK a b = kk) := ⟨_, rfl⟩
      rw [HKK.out]
      go_upto_region 20 with (fail)
      rcases hw1 with rfl | ⟨rfl, h200⟩
      · clear hw2
        simp only [errR, errV]
        go_wp2_with fail
        all_goals
          go_ret
          exact ⟨rfl, X9⟩
      · rcases hw2 with rfl | ⟨rfl, h200'⟩
        · simp only [errR, errV]
          go_wp2_with fail
          go_ret
          exact ⟨rfl, X9⟩
        · simp only [errR, errV]
          by_cases hnn : n1 = n2
          · subst hnn
            have e1 : q1 = n1 := by have := HQ1.out; omega
            have e2 : q2 = n1 := by have := HQ2.out; omega
            have E1 : Hid (p1 = ofL (sumsD a)) := by
              show _ = _
              rw [HP1.out, rootV, if_pos HK1.out.symm, HS1.out, List.take_of_length_le (by rw [sumsD_len, HX1.out]; omega)]
            have E2 : Hid (p2 = ofL (sumsD b)) := by
              show _ = _
              rw [HP2.out, rootV, if_pos HK2.out.symm, HS2.out, List.take_of_length_le (by rw [sumsD_len, HX2.out]; omega)]
            have hlast := last a b n1 HX1.out HX2.out (by omega) HK.out
            rw [HKK.out] at hlast
            obtain ⟨sb, HSB⟩ : ∃ s, Hid (sameB a b = s) := ⟨_, rfl⟩
            obtain ⟨eb, HEB⟩ : ∃ s, Hid (errIs kk 5 = s) := ⟨_, rfl⟩
            have HW : Hid (sb = true ∨ (sb = false ∧ eb = false) ∨ (sb = false ∧ eb = true ∧ p1 ≠ p2)) := by
              show _ ∨ _
              rcases hlast with h | ⟨h, h'⟩ | ⟨h, h', h''⟩
              · exact .inl (HSB.out.symm.trans (sameB_yes h))
              · exact .inr (.inl ⟨HSB.out.symm.trans (sameB_no h), HEB.out.symm.trans h'⟩)
              · exact .inr (.inr ⟨HSB.out.symm.trans (sameB_no h), HEB.out.symm.trans h', by rw [E1.out, E2.out]; exact h''⟩)
            have HKN : Hid (kk ≠ 0) := by show _ ≠ _; rw [← HKK.out]; exact HK.out
            clear hlast
            go_wp2_with fail
            refine (Texts_any A1 A2 n1 n1 c1 c2 a b _ (hr1.ext X9) (hr2.ext X9) hm1 hm2).mono ?_
            rw [HSB.out]
            rintro _ w8 ⟨rfl, hb8⟩
            have X10 := X9.trans hb8
            have hErr := Error_any kk 5 _ (hg.ext X10)
            rw [errR_ne HKN.out] at hErr
            simp only [errV] at hErr
            go_wp2_with fail
            refine hErr.mono ?_
            rw [HEB.out]
            rintro _ w9 ⟨rfl, hb9⟩
            have X11 := X10.trans hb9
            clear hErr
            rcases HW.out with rfl | ⟨rfl, rfl⟩ | ⟨rfl, rfl, hpq⟩
            all_goals
              go_wp2_with fail
              go_ret
              exact ⟨ret_bool (by first | rfl | simp [hpq]), X11⟩
          · have hnn' : (n1 : Int) ≠ n2 := by omega
            go_wp2_with fail
            go_ret
            exact ⟨rfl, X9⟩
theorem walk (A1 : Option Addr) (n1 c1 : Nat) (a : List ByteArray) (A2 : Option Addr) (n2 c2 : Nat) (b : List ByteArray) (w : World)
    (hl1 : a.length = n1) (hm1 : c1 ≤ maxLen) (hr1 : Rd w 1 A1 n1 c1 (a.map Value.string)) (hz1 : ∀ y ∈ a, y.size ≤ 140737488355328) (hl2 : b.length = n2) (hm2 : c2 ≤ maxLen) (hr2 : Rd w 1 A2 n2 c2 (b.map Value.string)) (hz2 : ∀ y ∈ b, y.size ≤ 140737488355328) (hg : ErrG w) :
    Calls Tryd.prog 13 #[.slice A1 n1 c1, .slice A2 n2 c2] w fun e w' => e = .returned (.bool true) ∧ Ext w w' := by
  by_cases hk : collK a b = 0
  · exact walk_yes A1 n1 c1 a A2 n2 c2 b w hl1 hm1 hr1 hl2 hm2 hr2 hk
  · exact walk_no A1 n1 c1 a A2 n2 c2 b w hl1 hm1 hr1 hz1 hl2 hm2 hr2 hz2 hg hk
end Go.Proofs.YtgfkalhpefjenaaDoor.treeClash
