/- The references' nodes and roots. -/
import Derived.Test.YtmknpehjncpekaaDoorR1
import Derived.Test.YtmknpehjncpekaaDoorOwnI
namespace Go.Proofs.YtmknpehjncpekaaDoor
open Go.RowKit Go.WideShapes
set_option linter.unusedVariables false
attribute [local go_sem ↓] Go.wp_at_zero Go.wp_at_succ

def fourI (n : Int) : List Int := [n / 16777216, n / 65536 % 256, n / 256 % 256, n % 256]
theorem fourI_bytes {n : Int} (h0 : 0 ≤ n) (h1 : n < 2147483647) : (fourI n).map byteOf = fourB n := by
  have : n / 16777216 % 256 = n / 16777216 := by omega
  unfold fourI fourB
  rw [this]; rfl
theorem info_u8 : (Tryd.prog.info? 5).map (fun i => (i.zero, i.size, i.bytes)) = some (some (.int .u8 0), 1, 1) := by kernel_rfl
theorem oneU (z : Int) : ∀ u ∈ [Value.int .u8 z], u.oneCell' = true := by intro u hu; simp at hu; subst hu; rfl
theorem Rd.cellsU {w : World} {ad : Addr} {n c : Nat} {l : List Int} (h : Rd w 1 (some ad) n c (l.map (Value.int .u8))) : l.length = n ∧ (0 < n → ∀ j u, (l.map (Value.int .u8))[j]? = some u → w.cell? (ad.add j) = some u) := by
  refine ⟨by simpa using h.1, fun hn => ?_⟩
  obtain ⟨ad', e, _, hc⟩ := h.2.2 hn
  injection e with e; subst e
  exact hc
theorem conv_rd {w : World} {ad : Addr} {n c : Nat} {l : List Int} (h : Rd w 1 (some ad) n c (l.map (Value.int .u8))) (hn : 0 < n) :
    (convert 114 9 (.slice (some ad) n c)).run Tryd.prog w = .ok (.string ⟨(l.map byteOf).toArray⟩) w := by
  have h1 := h.cellsU.1
  have h2 := h.cellsU.2 hn
  subst h1
  exact run_conv_cells w 114 9 5 ad c l Tryd.underlying114 Tryd.underlying5 Tryd.underlying9 h2
theorem map_snoc4 (bs : List Int) (a b c d : Int) : (bs ++ [a, b, c, d]).map (Value.int .u8) = bs.map (Value.int .u8) ++ [.int .u8 a] ++ [.int .u8 b] ++ [.int .u8 c] ++ [.int .u8 d] := by simp

set_option maxRecDepth 100000 in
set_option maxHeartbeats 1000000 in
theorem RFour_any (n : Int) (v : Value) (base m : Nat) (bs : List Int) (w : World) (h0 : 0 ≤ n) (h1 : n < 2147483647) (hb : base ≤ w.heap.size) (hm : m ≤ 1000) (hown : w.ownsRow base 5 1 v m (bs.map (Value.int .u8))) :
    Calls Tryd.prog 87 #[v, .int .i64 n] w fun e w' => (∃ v', e = .returned v' ∧ w'.ownsRow base 5 1 v' (m + 4) ((bs ++ fourI n).map (Value.int .u8))) ∧ ∀ u, u.heap.size ≤ base → Ext u w → Ext u w' := by
  obtain ⟨A, c, rfl, -⟩ := own_rd hown
  obtain ⟨i0, hi0, hz0, hz1, hz2⟩ := info_parts info_u8
  have hO := Lib.hid hown
  have HM := Lib.hid (map_snoc4 bs (n / 16777216) (n / 65536 % 256) (n / 256 % 256) (n % 256))
  clear hown
  go_enter Tryd.func87, Tryd.ntmps87
  go_wp2_with (first
    | (at_builtin; refine wpl_app (by rfl) _ _ _ (by rfl) base 5 i0 _ 1 1 Tryd.underlying114 hi0 hz0 hz1 hz2 rfl (by omega) (.slice (some ⟨g3, 0, none⟩) (m + 1 + 1 + 1) c3) _ _ (by rfl) (own3.alloc _) w3.heap.size 1 [.int .u8 (n % 256)] rfl (by rfl) (news_new w3 _ _ _ rfl) (oneU _) (by omega) (by omega) (by have := own3.lt g3 rfl; simp; omega) ?_; intro g4 c4 w4 own4 hx4)
    | (at_builtin; refine wpl_app (by rfl) _ _ _ (by rfl) base 5 i0 _ 1 1 Tryd.underlying114 hi0 hz0 hz1 hz2 rfl (by omega) (.slice (some ⟨g2, 0, none⟩) (m + 1 + 1) c2) _ _ (by rfl) (own2.alloc _) w2.heap.size 1 [.int .u8 (n / 256 % 256)] rfl (by rfl) (news_new w2 _ _ _ rfl) (oneU _) (by omega) (by omega) (by have := own2.lt g2 rfl; simp; omega) ?_; intro g3 c3 w3 own3 hx3)
    | (at_builtin; refine wpl_app (by rfl) _ _ _ (by rfl) base 5 i0 _ 1 1 Tryd.underlying114 hi0 hz0 hz1 hz2 rfl (by omega) (.slice (some ⟨g1, 0, none⟩) (m + 1) c1) _ _ (by rfl) (own1.alloc _) w1.heap.size 1 [.int .u8 (n / 65536 % 256)] rfl (by rfl) (news_new w1 _ _ _ rfl) (oneU _) (by omega) (by omega) (by have := own1.lt g1 rfl; simp; omega) ?_; intro g2 c2 w2 own2 hx2)
    | (at_builtin; refine wpl_app (by rfl) _ _ _ (by rfl) base 5 i0 _ 1 1 Tryd.underlying114 hi0 hz0 hz1 hz2 rfl (by omega) (.slice A m c) _ _ (by rfl) (hO.out.alloc _) w.heap.size 1 [.int .u8 (n / 16777216)] rfl (by rfl) (news_new w _ _ _ rfl) (oneU _) (by omega) (by omega) (by simp; omega) ?_; intro g1 c1 w1 own1 hx1))
  go_ret
  refine ⟨⟨_, rfl, ?_⟩, fun u hu hb => hx4 u hu (Ext.alloc (hx3 u hu (Ext.alloc (hx2 u hu (Ext.alloc (hx1 u hu (Ext.alloc hb _)) _)) _)) _)⟩
  show World.ownsRow _ _ _ _ _ _ (List.map _ (bs ++ [n / 16777216, n / 65536 % 256, n / 256 % 256, n % 256]))
  rw [HM.out]
  exact own4

theorem nodeI_bytes {a b : Int} (ha : vld a = true) (hb : vld b = true) : ([1] ++ fourI a ++ fourI b).map byteOf = nodeB a b := by
  have ha := vld_true ha
  have hb := vld_true hb
  rw [List.map_append, List.map_append, fourI_bytes ha.1 ha.2, fourI_bytes hb.1 hb.2]
  rfl
set_option maxRecDepth 100000 in
theorem RNodeBytes_any (a b : Int) (w : World) (ha : vld a = true) (hb : vld b = true) :
    Calls Tryd.prog 61 #[.int .i64 a, .int .i64 b] w fun e w' => e = .returned (.string ⟨(nodeB a b).toArray⟩) ∧ Ext w w' := by
  have HB := Lib.hid (nodeI_bytes ha hb)
  obtain ⟨a0, a1⟩ := vld_true ha
  obtain ⟨b0, b1⟩ := vld_true hb
  have own0 : (w.alloc (.cells #[.int .u8 1] 5)).ownsRow w.heap.size 5 1 (.slice (some ⟨w.heap.size, 0, none⟩) 1 1) 1 (([1] : List Int).map (Value.int .u8)) :=
    World.ownsRow_lit w #[.int .u8 1] 1 (Nat.le_refl _) (by simp [maxLen]) rfl
  clear ha hb
  go_enter Tryd.func61, Tryd.ntmps61
  go_wp2_with fail
  refine (RFour_any a _ w.heap.size 1 [1] _ a0 a1 (by simp) (by omega) own0).mono ?_
  rintro _ w1 ⟨⟨v1, rfl, own1⟩, hx1⟩
  have E1 := hx1 w (Nat.le_refl _) (by (repeat (with_reducible first | exact Ext.refl _ | assumption | refine Ext.drew ?_ | refine Ext.drewN ?_ _ | refine Ext.alloc ?_ _ | refine Ext.trans ?_ (by with_reducible assumption))))
  have hs1 := E1.size
  clear own0 hx1
  replace own1 : w1.ownsRow w.heap.size 5 1 v1 5 (([1] ++ fourI a).map (Value.int .u8)) := own1
  obtain ⟨g1, c1, rfl, -⟩ := World.ownsRow.form own1 (by omega)
  go_wp2_with fail
  refine (RFour_any b _ w.heap.size 5 ([1] ++ fourI a) _ b0 b1 hs1 (by omega) own1).mono ?_
  rintro _ w2 ⟨⟨v2, rfl, own2⟩, hx2⟩
  have E2 := hx2 w (Nat.le_refl _) E1
  replace own2 : w2.ownsRow w.heap.size 5 1 v2 9 (([1] ++ fourI a ++ fourI b).map (Value.int .u8)) := own2
  obtain ⟨A2, c2, rfl, hc2, R2, -⟩ := own_rd own2
  obtain ⟨ad, rfl, -, -⟩ := R2.2.2 (by omega)
  have hconv := conv_rd R2 (by omega)
  rw [HB.out] at hconv
  clear own1 own2 hx2 R2
  go_wp2_with fail
  go_ret
  exact ⟨rfl, E2⟩
theorem RNode_any (a b : Int) (w : World) (ha : vld a = true) (hb : vld b = true) :
    Calls Tryd.prog 36 #[.int .i64 a, .int .i64 b] w fun e w' => e = .returned (.int .i64 (nodeL a b)) ∧ Ext w w' := by
  go_enter Tryd.func36, Tryd.ntmps36
  go_wp2_with fail
  refine (RNodeBytes_any _ _ _ ha hb).mono ?_
  rintro e w1 ⟨rfl, hb1⟩
  have hl := size_mk (nodeB a b)
  rw [nodeB_len] at hl
  have HN : Hid (sumL (⟨(nodeB a b).toArray⟩ : ByteArray).data.toList = nodeL a b) := rfl
  generalize (⟨(nodeB a b).toArray⟩ : ByteArray) = x at *
  go_wp2_with fail
  refine (RSum_any _ _ (by simp only [maxLen]; omega)).mono ?_
  rintro e w2 ⟨rfl, rfl⟩
  rw [HN.out]
  go_wp2_with fail
  go_ret
  exact ⟨rfl, by (repeat (with_reducible first | exact Ext.refl _ | assumption | refine Ext.drew ?_ | refine Ext.drewN ?_ _ | refine Ext.alloc ?_ _ | refine Ext.trans ?_ (by with_reducible assumption)))⟩

set_option maxRecDepth 100000 in
set_option maxHeartbeats 1000000 in
theorem RRoot_any (N : Nat) : ∀ (A : Option Addr) (n c : Nat) (xs : List Int) (w : World), n ≤ N → Rd w 1 A n c (xs.map (Value.int .i64)) → c ≤ maxLen → n ≤ 4096 → allV xs = true →
    Calls Tryd.prog 35 #[.slice A n c] w fun e w' => e = .returned (.int .i64 (ofL xs)) ∧ Ext w w' := by
  induction N with
  | zero =>
    intro A n c xs w hN hr hm hn hv
    obtain rfl : n = 0 := by omega
    obtain rfl : xs = [] := List.eq_nil_of_length_eq_zero (by simpa using hr.1)
    clear hr hm hv
    go_enter Tryd.func35, Tryd.ntmps35
    go_wp2_with fail
    refine (RSum_any _ _ (by first | omega | ((try simp only [size_cat]); (try simp only [size_mk]); (try simp only [List.length_append]); (try simp only [List.length_cons]); (try simp only [List.length_nil]); (try unfold maxLen); omega))).mono ?_
    rintro e w1 ⟨rfl, rfl⟩
    go_wp2_with fail
    go_ret
    exact ⟨ret_int ofL_nil.symm, by (repeat (with_reducible first | exact Ext.refl _ | assumption | refine Ext.drew ?_ | refine Ext.drewN ?_ _ | refine Ext.alloc ?_ _ | refine Ext.trans ?_ (by with_reducible assumption)))⟩
  | succ N ih =>
    intro A n c xs w hN hr hm hn hv
    have hx : xs.length = n := by simpa using hr.1
    have IH := Lib.hid ih
    clear ih
    by_cases h2 : 2 ≤ n
    · have hl : n ≤ c := hr.2.1
      have hk := half_lt h2 hn
      have hk' := half_le h2 hn
      have hk0 := half_pos n
      have HO := Lib.hid (ofL_node (xs := xs) (by omega) (by omega))
      have v1 := vld_ofL (allV_take hv (half n)) (by rw [List.length_take]; omega)
      have v2 := vld_ofL (allV_drop hv (half n)) (by rw [List.length_drop]; omega)
      have V1 := Lib.hid v1
      have V2 := Lib.hid v2
      have HX := Lib.hid hx
      have R1 := hr.takeI (k := half n) (by omega)
      have R2 := hr.dropI' (k := half n) (by omega)
      clear hx v1 v2
      unfold maxLen at hm
      have e1 : ((n : Int) == 0) = false := by simp; omega
      have e2 : ((n : Int) == 1) = false := by simp; omega
      have q1 : (half n : Int) ≤ (n : Int) := by omega
      have q2 : (half n : Int) ≤ (c : Int) := by omega
      go_enter Tryd.func35, Tryd.ntmps35
      go_wp2_with fail
      refine (RHalf_any n _ (by omega) hn).mono ?_
      rintro e w' ⟨rfl, rfl⟩
      go_wp2_with fail
      refine (IH.out A (half n) c _ _ (by omega) R1 (by simp only [maxLen]; omega) (by omega) (allV_take hv (half n))).mono ?_
      rintro _ w1 ⟨rfl, hb1⟩
      go_wp2_with fail
      refine (IH.out _ _ _ _ _ (by omega) (R2.ext hb1) (by simp only [maxLen]; omega) (by omega) (allV_drop hv (half n))).mono ?_
      rintro _ w2 ⟨rfl, hb2⟩
      go_wp2_with fail
      refine (RNode_any _ _ _ V1.out V2.out).mono ?_
      rintro _ w3 ⟨rfl, hb3⟩
      go_wp2_with fail
      go_ret
      exact ⟨ret_int (by rw [HO.out, HX.out]), by (repeat (with_reducible first | exact Ext.refl _ | assumption | refine Ext.drew ?_ | refine Ext.drewN ?_ _ | refine Ext.alloc ?_ _ | refine Ext.trans ?_ (by with_reducible assumption)))⟩
    · have h01 : n = 0 ∨ n = 1 := by omega
      clear h2
      rcases h01 with rfl | rfl
      · obtain rfl : xs = [] := List.eq_nil_of_length_eq_zero (by simpa using hr.1)
        clear hr hm hv hx
        go_enter Tryd.func35, Tryd.ntmps35
        go_wp2_with fail
        refine (RSum_any _ _ (by first | omega | ((try simp only [size_cat]); (try simp only [size_mk]); (try simp only [List.length_append]); (try simp only [List.length_cons]); (try simp only [List.length_nil]); (try unfold maxLen); omega))).mono ?_
        rintro e w1 ⟨rfl, rfl⟩
        go_wp2_with fail
        go_ret
        exact ⟨ret_int ofL_nil.symm, by (repeat (with_reducible first | exact Ext.refl _ | assumption | refine Ext.drew ?_ | refine Ext.drewN ?_ _ | refine Ext.alloc ?_ _ | refine Ext.trans ?_ (by with_reducible assumption)))⟩
      · obtain ⟨x, rfl⟩ : ∃ x, xs = [x] := List.length_eq_one_iff.1 hx
        obtain ⟨ad, rfl, hb, hcell⟩ := hr.at_ (j := 0) (u := .int .i64 x) rfl
        have HO := Lib.hid (ofL_one x)
        rw [add_zero'] at hcell
        clear hr hv hx
        go_enter Tryd.func35, Tryd.ntmps35
        go_wp2_with fail
        go_ret
        exact ⟨ret_int HO.out.symm, by (repeat (with_reducible first | exact Ext.refl _ | assumption | refine Ext.drew ?_ | refine Ext.drewN ?_ _ | refine Ext.alloc ?_ _ | refine Ext.trans ?_ (by with_reducible assumption)))⟩
end Go.Proofs.YtmknpehjncpekaaDoor
