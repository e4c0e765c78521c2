/- The references' nodes and roots. -/
import Derived.Test.YtmknpehjncpekaaGreatDoorJMirrorPlays10
import Derived.Test.YtmknpehjncpekaaGreatDoorJMirrorPlays0
import Derived.Deep.QuietTactic
import Derived.BigQuiet
import Derived.StillTail
import Derived.Deep.DeepCutAuto
namespace Go.Proofs.YtmknpehjncpekaaGreatDoor
open Go.RowKit Go.WideShapes
set_option linter.unusedVariables false
attribute [local go_sem ↓] Go.wp_at_zero Go.wp_at_succ

def fourI (n : Int) : List Int := [n / 16777216, n / 65536 % 256, n / 256 % 256, n % 256]
theorem fourI_bytes {n : Int} (h0 : 0 ≤ n) (h1 : n < 2147483647) : (fourI n).map byteOf = fourB n := by
  have : n / 16777216 % 256 = n / 16777216 := by omega
  unfold fourI fourB
  rw [this]; rfl
theorem info_u8 : (Tryz.prog.info? 5).map (fun i => (i.zero, i.size, i.bytes)) = some (some (.int .u8 0), 1, 1) := by kernel_rfl
theorem oneU (z : Int) : ∀ u ∈ [Value.int .u8 z], u.oneCell' = true := by intro u hu; simp at hu; subst hu; rfl
theorem Rd.cellsU {w : World} {ad : Addr} {n c : Nat} {l : List Int} (h : Rd w 1 (some ad) n c (l.map (Value.int .u8))) : l.length = n ∧ (0 < n → ∀ j u, (l.map (Value.int .u8))[j]? = some u → w.cell? (ad.add j) = some u) := by
  refine ⟨by simpa using h.1, fun hn => ?_⟩
  obtain ⟨ad', e, _, hc⟩ := h.2.2 hn
  injection e with e; subst e
  exact hc
theorem conv_rd {w : World} {ad : Addr} {n c : Nat} {l : List Int} (h : Rd w 1 (some ad) n c (l.map (Value.int .u8))) (hn : 0 < n) :
    (convert 105 9 (.slice (some ad) n c)).run Tryz.prog w = .ok (.string ⟨(l.map byteOf).toArray⟩) w := by
  have h1 := h.cellsU.1
  have h2 := h.cellsU.2 hn
  subst h1
  exact run_conv_cells w 105 9 5 ad c l Tryz.underlying105 Tryz.underlying5 Tryz.underlying9 h2
theorem map_snoc4 (bs : List Int) (a b c d : Int) : (bs ++ [a, b, c, d]).map (Value.int .u8) = bs.map (Value.int .u8) ++ [.int .u8 a] ++ [.int .u8 b] ++ [.int .u8 c] ++ [.int .u8 d] := by simp

set_option maxRecDepth 100000 in
set_option maxHeartbeats 1000000 in
theorem RFour_any (n : Int) (v : Value) (base m : Nat) (bs : List Int) (w : World) (h0 : 0 ≤ n) (h1 : n < 2147483647) (hb : base ≤ w.heap.size) (hm : m ≤ 1000) (hown : w.ownsRow base 5 1 v m (bs.map (Value.int .u8))) :
    Calls Tryz.prog 86 #[v, .int .i64 n] w fun e w' => (∃ v', e = .returned v' ∧ w'.ownsRow base 5 1 v' (m + 4) ((bs ++ fourI n).map (Value.int .u8))) ∧ ∀ u, u.heap.size ≤ base → Ext u w → Ext u w' := by
  obtain ⟨A, c, rfl, -⟩ := own_rd hown
  obtain ⟨i0, hi0, hz0, hz1, hz2⟩ := info_parts info_u8
  have hO := Lib.hid hown
  have HM := Lib.hid (map_snoc4 bs (n / 16777216) (n / 65536 % 256) (n / 256 % 256) (n % 256))
  clear hown
  go_enter Tryz.func86, Tryz.ntmps86
  go_wp2_with (first
    | (at_builtin; refine wpl_app (by rfl) _ _ _ (by rfl) base 5 i0 _ 1 1 Tryz.underlying105 hi0 hz0 hz1 hz2 rfl (by omega) (.slice (some ⟨g3, 0, none⟩) (m + 1 + 1 + 1) c3) _ _ (by rfl) (own3.alloc _) w3.heap.size 1 [.int .u8 (n % 256)] rfl (by rfl) (news_new w3 _ _ _ rfl) (oneU _) (by omega) (by omega) (by have := own3.lt g3 rfl; simp; omega) ?_; intro g4 c4 w4 own4 hx4)
    | (at_builtin; refine wpl_app (by rfl) _ _ _ (by rfl) base 5 i0 _ 1 1 Tryz.underlying105 hi0 hz0 hz1 hz2 rfl (by omega) (.slice (some ⟨g2, 0, none⟩) (m + 1 + 1) c2) _ _ (by rfl) (own2.alloc _) w2.heap.size 1 [.int .u8 (n / 256 % 256)] rfl (by rfl) (news_new w2 _ _ _ rfl) (oneU _) (by omega) (by omega) (by have := own2.lt g2 rfl; simp; omega) ?_; intro g3 c3 w3 own3 hx3)
    | (at_builtin; refine wpl_app (by rfl) _ _ _ (by rfl) base 5 i0 _ 1 1 Tryz.underlying105 hi0 hz0 hz1 hz2 rfl (by omega) (.slice (some ⟨g1, 0, none⟩) (m + 1) c1) _ _ (by rfl) (own1.alloc _) w1.heap.size 1 [.int .u8 (n / 65536 % 256)] rfl (by rfl) (news_new w1 _ _ _ rfl) (oneU _) (by omega) (by omega) (by have := own1.lt g1 rfl; simp; omega) ?_; intro g2 c2 w2 own2 hx2)
    | (at_builtin; refine wpl_app (by rfl) _ _ _ (by rfl) base 5 i0 _ 1 1 Tryz.underlying105 hi0 hz0 hz1 hz2 rfl (by omega) (.slice A m c) _ _ (by rfl) (hO.out.alloc _) w.heap.size 1 [.int .u8 (n / 16777216)] rfl (by rfl) (news_new w _ _ _ rfl) (oneU _) (by omega) (by omega) (by simp; omega) ?_; intro g1 c1 w1 own1 hx1))
  go_ret
  refine ⟨⟨_, rfl, ?_⟩, fun u hu hb => hx4 u hu (Ext.alloc (hx3 u hu (Ext.alloc (hx2 u hu (Ext.alloc (hx1 u hu (Ext.alloc hb _)) _)) _)) _)⟩
  show World.ownsRow _ _ _ _ _ _ (List.map _ (bs ++ [n / 16777216, n / 65536 % 256, n / 256 % 256, n % 256]))
  rw [HM.out]
  exact own4

theorem nodeI_bytes {a b : Int} (ha : vld a = true) (hb : vld b = true) : ([1] ++ fourI a ++ fourI b).map byteOf = nodeB a b := by
  have ha := vld_true ha
  have hb := vld_true hb
  rw [List.map_append, List.map_append, fourI_bytes ha.1 ha.2, fourI_bytes hb.1 hb.2]
  rfl
set_option maxRecDepth 100000 in
theorem RNodeBytes_any (a b : Int) (w : World) (ha : vld a = true) (hb : vld b = true) :
    Calls Tryz.prog 76 #[.int .i64 a, .int .i64 b] w fun e w' => e = .returned (.string ⟨(nodeB a b).toArray⟩) ∧ Ext w w' := by
  have HB := Lib.hid (nodeI_bytes ha hb)
  obtain ⟨a0, a1⟩ := vld_true ha
  obtain ⟨b0, b1⟩ := vld_true hb
  have own0 : (w.alloc (.cells #[.int .u8 1] 5)).ownsRow w.heap.size 5 1 (.slice (some ⟨w.heap.size, 0, none⟩) 1 1) 1 (([1] : List Int).map (Value.int .u8)) :=
    World.ownsRow_lit w #[.int .u8 1] 1 (Nat.le_refl _) (by simp [maxLen]) rfl
  clear ha hb
  go_enter Tryz.func76, Tryz.ntmps76
  go_wp2_with fail
  refine (RFour_any a _ w.heap.size 1 [1] _ a0 a1 (by simp) (by omega) own0).mono ?_
  rintro _ w1 ⟨⟨v1, rfl, own1⟩, hx1⟩
  have E1 := hx1 w (Nat.le_refl _) (by (repeat (with_reducible first | exact Ext.refl _ | assumption | refine Ext.drew ?_ | refine Ext.drewN ?_ _ | refine Ext.alloc ?_ _ | refine Ext.trans ?_ (by with_reducible assumption))))
  have hs1 := E1.size
  clear own0 hx1
  replace own1 : w1.ownsRow w.heap.size 5 1 v1 5 (([1] ++ fourI a).map (Value.int .u8)) := own1
  obtain ⟨g1, c1, rfl, -⟩ := World.ownsRow.form own1 (by omega)
  go_wp2_with fail
  refine (RFour_any b _ w.heap.size 5 ([1] ++ fourI a) _ b0 b1 hs1 (by omega) own1).mono ?_
  rintro _ w2 ⟨⟨v2, rfl, own2⟩, hx2⟩
  have E2 := hx2 w (Nat.le_refl _) E1
  replace own2 : w2.ownsRow w.heap.size 5 1 v2 9 (([1] ++ fourI a ++ fourI b).map (Value.int .u8)) := own2
  obtain ⟨A2, c2, rfl, hc2, R2, -⟩ := own_rd own2
  obtain ⟨ad, rfl, -, -⟩ := R2.2.2 (by omega)
  have hconv := conv_rd R2 (by omega)
  rw [HB.out] at hconv
  clear own1 own2 hx2 R2
  go_wp2_with fail
  go_ret
  exact ⟨rfl, E2⟩
theorem RNode_any (a b : Int) (w : World) (ha : vld a = true) (hb : vld b = true) :
    Calls Tryz.prog 59 #[.int .i64 a, .int .i64 b] w fun e w' => e = .returned (.int .i64 (nodeL a b)) ∧ Ext w w' := by
  go_enter Tryz.func59, Tryz.ntmps59
  go_wp2_with fail
  refine (RNodeBytes_any _ _ _ ha hb).mono ?_
  rintro e w1 ⟨rfl, hb1⟩
  have hl := size_mk (nodeB a b)
  rw [nodeB_len] at hl
  have HN : Hid (sumL (⟨(nodeB a b).toArray⟩ : ByteArray).data.toList = nodeL a b) := rfl
  generalize (⟨(nodeB a b).toArray⟩ : ByteArray) = x at *
  go_wp2_with fail
  refine (RSum_any _ _ (by simp only [maxLen]; omega)).mono ?_
  rintro e w2 ⟨rfl, rfl⟩
  rw [HN.out]
  go_wp2_with fail
  go_ret
  exact ⟨rfl, by (repeat (with_reducible first | exact Ext.refl _ | assumption | refine Ext.drew ?_ | refine Ext.drewN ?_ _ | refine Ext.alloc ?_ _ | refine Ext.trans ?_ (by with_reducible assumption)))⟩

set_option maxRecDepth 100000 in
set_option maxHeartbeats 1000000 in
theorem RRoot_any (N : Nat) : ∀ (A : Option Addr) (n c : Nat) (xs : List Int) (w : World), n ≤ N → Rd w 1 A n c (xs.map (Value.int .i64)) → c ≤ maxLen → n ≤ 4096 → allV xs = true →
    Calls Tryz.prog 35 #[.slice A n c] w fun e w' => e = .returned (.int .i64 (ofL xs)) ∧ Ext w w' := by
  induction N with
  | zero =>
    intro A n c xs w hN hr hm hn hv
    obtain rfl : n = 0 := by omega
    obtain rfl : xs = [] := List.eq_nil_of_length_eq_zero (by simpa using hr.1)
    clear hr hm hv
    go_enter Tryz.func35, Tryz.ntmps35
    go_wp2_with fail
    refine (RSum_any _ _ (by first | omega | ((try simp only [size_cat]); (try simp only [size_mk]); (try simp only [List.length_append]); (try simp only [List.length_cons]); (try simp only [List.length_nil]); (try unfold maxLen); omega))).mono ?_
    rintro e w1 ⟨rfl, rfl⟩
    go_wp2_with fail
    go_ret
    exact ⟨ret_int ofL_nil.symm, by (repeat (with_reducible first | exact Ext.refl _ | assumption | refine Ext.drew ?_ | refine Ext.drewN ?_ _ | refine Ext.alloc ?_ _ | refine Ext.trans ?_ (by with_reducible assumption)))⟩
  | succ N ih =>
    intro A n c xs w hN hr hm hn hv
    have hx : xs.length = n := by simpa using hr.1
    have IH := Lib.hid ih
    clear ih
    by_cases h2 : 2 ≤ n
    · have hl : n ≤ c := hr.2.1
      have hk := half_lt h2 hn
      have hk' := half_le h2 hn
      have hk0 := half_pos n
      have HO := Lib.hid (ofL_node (xs := xs) (by omega) (by omega))
      have v1 := vld_ofL (allV_take hv (half n)) (by rw [List.length_take]; omega)
      have v2 := vld_ofL (allV_drop hv (half n)) (by rw [List.length_drop]; omega)
      have V1 := Lib.hid v1
      have V2 := Lib.hid v2
      have HX := Lib.hid hx
      have R1 := hr.takeI (k := half n) (by omega)
      have R2 := hr.dropI' (k := half n) (by omega)
      clear hx v1 v2
      unfold maxLen at hm
      have e1 : ((n : Int) == 0) = false := by simp; omega
      have e2 : ((n : Int) == 1) = false := by simp; omega
      have q1 : (half n : Int) ≤ (n : Int) := by omega
      have q2 : (half n : Int) ≤ (c : Int) := by omega
      go_enter Tryz.func35, Tryz.ntmps35
      go_wp2_with fail
      refine (RHalf_any n _ (by omega) hn).mono ?_
      rintro e w' ⟨rfl, rfl⟩
      go_wp2_with fail
      refine (IH.out A (half n) c _ _ (by omega) R1 (by simp only [maxLen]; omega) (by omega) (allV_take hv (half n))).mono ?_
      rintro _ w1 ⟨rfl, hb1⟩
      go_wp2_with fail
      refine (IH.out _ _ _ _ _ (by omega) (R2.ext hb1) (by simp only [maxLen]; omega) (by omega) (allV_drop hv (half n))).mono ?_
      rintro _ w2 ⟨rfl, hb2⟩
      go_wp2_with fail
      refine (RNode_any _ _ _ V1.out V2.out).mono ?_
      rintro _ w3 ⟨rfl, hb3⟩
      go_wp2_with fail
      go_ret
      exact ⟨ret_int (by rw [HO.out, HX.out]), by (repeat (with_reducible first | exact Ext.refl _ | assumption | refine Ext.drew ?_ | refine Ext.drewN ?_ _ | refine Ext.alloc ?_ _ | refine Ext.trans ?_ (by with_reducible assumption)))⟩
    · have h01 : n = 0 ∨ n = 1 := by omega
      clear h2
      rcases h01 with rfl | rfl
      · obtain rfl : xs = [] := List.eq_nil_of_length_eq_zero (by simpa using hr.1)
        clear hr hm hv hx
        go_enter Tryz.func35, Tryz.ntmps35
        go_wp2_with fail
        refine (RSum_any _ _ (by first | omega | ((try simp only [size_cat]); (try simp only [size_mk]); (try simp only [List.length_append]); (try simp only [List.length_cons]); (try simp only [List.length_nil]); (try unfold maxLen); omega))).mono ?_
        rintro e w1 ⟨rfl, rfl⟩
        go_wp2_with fail
        go_ret
        exact ⟨ret_int ofL_nil.symm, by (repeat (with_reducible first | exact Ext.refl _ | assumption | refine Ext.drew ?_ | refine Ext.drewN ?_ _ | refine Ext.alloc ?_ _ | refine Ext.trans ?_ (by with_reducible assumption)))⟩
      · obtain ⟨x, rfl⟩ : ∃ x, xs = [x] := List.length_eq_one_iff.1 hx
        obtain ⟨ad, rfl, hb, hcell⟩ := hr.at_ (j := 0) (u := .int .i64 x) rfl
        have HO := Lib.hid (ofL_one x)
        rw [add_zero'] at hcell
        clear hr hv hx
        go_enter Tryz.func35, Tryz.ntmps35
        go_wp2_with fail
        go_ret
        exact ⟨ret_int HO.out.symm, by (repeat (with_reducible first | exact Ext.refl _ | assumption | refine Ext.drew ?_ | refine Ext.drewN ?_ _ | refine Ext.alloc ?_ _ | refine Ext.trans ?_ (by with_reducible assumption)))⟩
end Go.Proofs.YtmknpehjncpekaaGreatDoor

/- A region that draws its order and whose calls make memory: walked once, in the text's order, in the class of the worlds beyond one. -/
namespace Go.Proofs.YtmknpehjncpekaaGreatDoor
open Go.RowKit
set_option linter.unusedVariables false

/-- a world beyond w0 -/
structure WE (w0 : World) where
  W : World
  h : Ext w0 W
instance (w0 : World) : Nonempty (WE w0) := ⟨⟨w0, Ext.refl w0⟩⟩
section
variable {P : Program}
theorem wp_region_ext {id : Nat} {Q : Exit → Act → World → Prop} {a : Act} {w0 w : World} {l : List Oper} (hm : P.follows .mixedOrders = true) (hB : Region.lexB .any l.toArray = true) (h0 : Ext w0 w)
    (h : wpQuiet P l.toArray (fun w' => ∃ x : WE w0, w' = x.W) (fun a' => ∀ w', Ext w0 w' → Q .normal a' w') l a) : (Code.region id l.toArray true).wp P Q a w := by
  refine wp_region_quiet (C := fun w' => ∃ x : WE w0, w' = x.W) hm hB ⟨⟨_, Ext.drew h0⟩, rfl⟩ ?_
  have hQ : ∀ (ops : Array Oper) (l : List Oper) (a : Act), wpQuiet P ops (fun w' => ∃ x : WE w0, w' = x.W) (fun a' => ∀ w', Ext w0 w' → Q .normal a' w') l a → wpQuiet P ops (fun w' => ∃ x : WE w0, w' = x.W) (fun a' => ∀ w', (∃ x : WE w0, w' = x.W) → Q .normal a' w') l a := by
    intro ops l
    induction l with
    | nil =>
      intro a h w' hw
      obtain ⟨x, rfl⟩ := hw
      exact h _ x.h
    | cons o l ih =>
      intro a h
      unfold wpQuiet at h ⊢
      split
      · rename_i hw
        rw [if_pos hw] at h
        exact Oper.quiet_mono ih h
      · rename_i hw
        rw [if_neg hw] at h
        exact ih _ h
  exact hQ _ _ _ h
theorem quietE {f : FuncId} {args : Array Value} {w0 : World} {x : WE w0} {v : Value} (h : Calls P f args x.W fun e w' => e = .returned v ∧ Ext x.W w') :
    Calls P f args x.W fun e w'' => e = .returned v ∧ ∃ y : WE w0, w'' = y.W := h.mono fun _ w' ⟨he, hw⟩ => ⟨he, ⟨w', x.h.trans hw⟩, rfl⟩
theorem quietS {f : FuncId} {args : Array Value} {w0 : World} {x : WE w0} {v : Value} (h : Calls P f args x.W fun e w' => e = .returned v ∧ x.W = w') :
    Calls P f args x.W fun e w'' => e = .returned v ∧ ∃ y : WE w0, w'' = y.W := h.mono fun _ _ ⟨he, hw⟩ => ⟨he, x, hw.symm⟩
end
end Go.Proofs.YtmknpehjncpekaaGreatDoor

/- A region that draws its order, whose calls make memory, and whose last operations write: all but the last ones walked once, in the text's order, in the class of the worlds beyond one; then the last ones. -/
namespace Go.Proofs.YtmknpehjncpekaaGreatDoor
open Go.RowKit Go
set_option linter.unusedVariables false

section
variable {P : Program} {ops : Array Oper} {md : Region.Mode} {C : World → Prop}
def wpAnyQL (P : Program) (md : Region.Mode) (ops : Array Oper) (C : World → Prop) (n : Nat) (L : Array Bool → Act → Prop) : Nat → Array Bool → Act → Prop
  | 0, listed, a => L listed a
  | f + 1, listed, a => Region.ready md ops listed ≠ [] ∧ ∀ i ∈ Region.ready md ops listed, i < n ∧ qOp P ops C i (wpAnyQL P md ops C n L f (listed.setIfInBounds i true)) a

theorem wpAny_of_headQ {n g : Nat} {L : Array Bool → Act → Prop} {Q' : Exit → Act → World → Prop} (hL : ∀ listed a w, C w → L listed a → wpAny P md ops Q' g listed a w) :
    ∀ (f : Nat) (listed : Array Bool) (a : Act) (w : World), C w → wpAnyQL P md ops C n L f listed a → wpAny P md ops Q' (f + g) listed a w
  | 0, listed, a, w, hw, h => by rw [Nat.zero_add]; exact hL _ _ _ hw h
  | f + 1, listed, a, w, hw, h => by
    rw [show f + 1 + g = (f + g) + 1 by omega]
    exact ⟨fun h0 => absurd h0 h.1, fun i hi => wpOp_of_qOp hw (fun a' w' hw' h' => wpAny_of_headQ hL f _ a' w' hw' h') (h.2 i hi).2⟩

theorem wpAnyQL_first {n i : Nat} {oi : Oper} {v : Value} {L : Array Bool → Act → Prop} (hi : ops[i]? = some oi) (hsel : ∀ (j : Nat) (o : Oper) cs b, ops[j]? = some o → o.op ≠ .select cs b)
    (hs : Region.sinkB md ops n = true) (hc : Region.chainB md ops n = true) (hn : n < ops.size) (hin : i < n)
    (hdone : ∀ listed a, L listed a → ∀ j ∈ Region.ready md ops listed, n ≤ j) :
    ∀ (f : Nat) (listed : Array Bool) (a : Act), HeadInv md ops n listed →
      (∀ j oj, ops[j]? = some oj → j ≠ i → listed.getD j true = false → (∀ e ∈ oj.after, Region.binds md e = true → e.on ≠ i) → oi.apart ops oj = true) →
      i ∈ Region.ready md ops listed → YieldsIn P ops C oi v a →
      wpAnyQL P md ops C n L f (listed.setIfInBounds i true) (a.put oi.dst v) → wpAnyQL P md ops C n L (f + 1) listed a := by
  intro f
  induction f with
  | zero =>
    intro listed a inv _ hr hy H
    refine ⟨fun h => (by rw [h] at hr; cases hr), fun j hj => ?_⟩
    have hjn : j < n := by
      rcases Nat.lt_or_ge j n with h | h
      · exact h
      · exact absurd hj (tail_waits hs hc hn inv _ i rfl hin (mem_ready.1 hr).1 j h)
    refine ⟨hjn, ?_⟩
    by_cases hji : j = i
    · subst hji; exact hy.qOp hi H
    · have := hdone _ _ H j (ready_mono hj hji)
      omega
  | succ f ih =>
    intro listed a inv hfree hr hy H
    have hun := (mem_ready.1 hr).1
    refine ⟨fun h => (by rw [h] at hr; cases hr), fun j hj => ?_⟩
    have hjn : j < n := by
      rcases Nat.lt_or_ge j n with h | h
      · exact h
      · exact absurd hj (tail_waits hs hc hn inv _ i rfl hin hun j h)
    refine ⟨hjn, ?_⟩
    by_cases hji : j = i
    · subst hji; exact hy.qOp hi H
    · have h1 := (H.2 j (ready_mono hj hji)).2
      obtain ⟨hjun, oj, hoj, hall⟩ := mem_ready.1 hj
      have hnot : ∀ e ∈ oj.after, Region.binds md e = true → e.on ≠ i := fun e he hb heq => by
        have h1 := hall e he hb
        rw [heq, getD_both hun] at h1
        cases h1
      have h2 := qOp_put hoj (hfree j oj hoj hji hjun hnot) (fun cs b => hsel i oi cs b hi) (fun cs b => hsel j oj cs b hoj) hy h1
      have hfree' : ∀ k ok, ops[k]? = some ok → k ≠ i → (listed.setIfInBounds j true).getD k true = false →
          (∀ e ∈ ok.after, Region.binds md e = true → e.on ≠ i) → oi.apart ops ok = true := fun k ok hk hki hun hno => by
        refine hfree k ok hk hki ?_ hno
        by_cases hjk : j = k
        · subst hjk; exact hjun
        · rw [getD_set_ne true hjk] at hun; exact hun
      refine qOp_mono (fun a' h3 => ih (listed.setIfInBounds j true) a' (inv.set hj hjn) hfree' (ready_mono hr (Ne.symm hji)) h3.1 ?_) h2
      rw [Array.setIfInBounds_comm _ _ hji]
      exact h3.2

theorem wpAnyQL_lex {n g : Nat} {Lq : Act → Prop} (hsel : Region.noSelect ops = true) (hs : Region.sinkB md ops n = true) (hc : Region.chainB md ops n = true) (hn : n < ops.size) :
    ∀ (l : List Oper) (k : Nat) (listed : Array Bool) (a : Act), (∀ j, j < l.length → l[j]? = ops[k + j]?) → k + l.length = n → HeadInv md ops n listed →
    Region.lexHead md ops g l.length k listed = true → wpQuiet P ops C Lq l a →
    wpAnyQL P md ops C n (fun listed' a' => Region.seqB md ops g n listed' = true ∧ Lq a') l.length listed a
  | [], k, listed, a, _, hk, _, hB, h => by
    have : k = n := by simpa using hk
    subst this
    exact ⟨by simpa [Region.lexHead] using hB, h⟩
  | o :: l, k, listed, a, hl, hk, inv, hB, h => by
    have h0 : ops[k]? = some o := by simpa using (hl 0 (by simp)).symm
    simp only [List.length_cons, Region.lexHead, Bool.and_eq_true] at hB
    obtain ⟨⟨hr, hf⟩, hB'⟩ := hB
    have hkn : k < n := by simp only [List.length_cons] at hk; omega
    have hr' : k ∈ Region.ready md ops listed := by simpa using hr
    have hst : qOp P ops C k (wpQuiet P ops C Lq l) a := by unfold qOp; simp only [h0]; exact h
    obtain ⟨v, hy, hK⟩ := yieldsIn_of_qOp h0 hst
    exact wpAnyQL_first h0 (Region.noSelect_spec hsel) hs hc hn hkn (fun listed' a' hL => seqB_ready hL.1) l.length listed a inv (Region.free_spec h0 hf) hr' hy
      (wpAnyQL_lex hsel hs hc hn l (k + 1) _ _ (fun j hj => by have := hl (j + 1) (by simp; omega); simpa [Nat.add_assoc, Nat.add_comm 1 j] using this) (by simp only [List.length_cons] at hk; omega) (inv.set hr' hkn) hB' hK)

/-- all but the last operations in a class of worlds, then the last ones from whatever world of the class -/
theorem wp_region_quiet_tail {id : Nat} {Q : Exit → Act → World → Prop} {a : Act} {w : World} {l : List Oper} (n : Nat) (hm : P.follows .mixedOrders = true) (hB : Region.lexTailB .any l.toArray n = true) (hC : C { w with drawn := w.drawn + 1 })
    (h : wpQuiet P l.toArray C (fun a' => ∀ w', C w' → wpList P l.toArray Q (l.drop n) a' w') (l.take n) a) : (Code.region id l.toArray true).wp P Q a w := by
  simp only [Region.lexTailB, Bool.and_eq_true, decide_eq_true_eq] at hB
  obtain ⟨⟨⟨⟨hsel, hn⟩, hs⟩, hc⟩, hlex⟩ := hB
  have hn' : n < l.length := by simpa using hn
  have htl : (l.take n).length = n := by simp; omega
  have hdl : (l.drop n).length = l.toArray.size - n := by simp
  have inv0 : HeadInv .any l.toArray n (Array.replicate l.toArray.size false) :=
    ⟨by simp, fun j oj _ hl => (by rw [getD_replicate_false] at hl; cases hl), fun t _ ht => getD_in (by simpa using ht) (getD_replicate_false _ _)⟩
  have H := wpAnyQL_lex (md := .any) (g := l.toArray.size - n) hsel hs hc hn (l.take n) 0 _ a (fun j hj => by
    have hj' : j < n := by rw [htl] at hj; exact hj
    simp [hj']) (by simpa using htl) inv0 (by rw [htl]; exact hlex) h
  refine wp_region_any hm ?_
  have := wpAny_of_headQ (Q' := Q) (g := l.toArray.size - n) (fun listed a' w' hw' hL => by
    have := wpAny_of_seq (md := .any) (Q' := Q) (l.drop n) n listed a' w' (fun j => by simp [List.getElem?_drop]) (by rw [hdl]; exact hL.1) (hL.2 w' hw')
    rwa [hdl] at this) _ _ _ _ hC H
  rw [htl, show n + (l.toArray.size - n) = l.toArray.size by omega] at this
  exact this

theorem wp_region_ext_tail {id : Nat} {Q : Exit → Act → World → Prop} {a : Act} {w0 w : World} {l : List Oper} (n : Nat) (hm : P.follows .mixedOrders = true) (hB : Region.lexTailB .any l.toArray n = true) (h0 : Ext w0 w)
    (h : wpQuiet P l.toArray (fun w' => ∃ x : WE w0, w' = x.W) (fun a' => ∀ w', (∃ x : WE w0, w' = x.W) → wpList P l.toArray Q (l.drop n) a' w') (l.take n) a) : (Code.region id l.toArray true).wp P Q a w :=
  wp_region_quiet_tail (C := fun w' => ∃ x : WE w0, w' = x.W) n hm hB ⟨⟨_, Ext.drew h0⟩, rfl⟩ h
end
end Go.Proofs.YtmknpehjncpekaaGreatDoor

/- The references' leafs of data. -/
namespace Go.Proofs.YtmknpehjncpekaaGreatDoor
open Go.RowKit Go.WideShapes
set_option linter.unusedVariables false
attribute [local go_sem ↓] Go.wp_at_zero Go.wp_at_succ

def newsS (s : ByteArray) : List Value := s.data.toList.map fun b => Value.int .u8 b.toNat
theorem newsS_len (s : ByteArray) : (newsS s).length = s.size * 1 := by unfold newsS; rw [List.length_map, Nat.mul_one]; rfl
theorem newsS_one (s : ByteArray) : ∀ u ∈ newsS s, u.oneCell' = true := by
  intro u hu
  unfold newsS at hu
  rw [List.mem_map] at hu
  obtain ⟨x, _, rfl⟩ := hu
  rfl
theorem newsS_int (s : ByteArray) : newsS s = (s.data.toList.map fun b => (b.toNat : Int)).map (Value.int .u8) := by unfold newsS; rw [List.map_map]; rfl
theorem conv_cells (w : World) (s : ByteArray) (cap : Nat) (e : TypeId) (m : Nat × Nat) (H : Nat) (hH : w.heap.size = H) : ∀ j u, (newsS s)[j]? = some u → (w.alloc (.cells (bytesRow s cap) e m)).cell? ((⟨H, 0, none⟩ : Addr).add j) = some u := by
  intro j u hu
  subst hH
  unfold newsS at hu
  rw [List.getElem?_map, Option.map_eq_some_iff] at hu
  obtain ⟨b, hb, rfl⟩ := hu
  obtain ⟨h1, h2⟩ := List.getElem?_eq_some_iff.1 hb
  have hj : j < s.data.size := by simpa using h1
  rw [add_mk, Nat.zero_add, World.cell?_alloc_mark]
  rw [bytesRow_at s cap j hj]
  have : s.data[j] = b := by simpa using h2
  rw [this]
/-- 'append' of some cells, none too -/
theorem wpl_appa {P : Program} {w : World} {ops : Array Oper} {rest : List Oper} {o : Oper} {a : Act} {Q : Exit → Act → World → Prop} (hgd : o.guard = none) (s x : Operand) (t : TypeId)
    (ho : o.op = .call { callee := .builtin .append, args := #[s, x], argTypes := #[t, t] })
    (base : Nat) (e : TypeId) (i : TypeInfo) (z : Value) (size bytes : Nat) (ht : P.underlying t = some (.slice e)) (hi : P.info? e = some i) (hz : i.zero = some z)
    (hsize : i.size = size) (hby : i.bytes = bytes) (hzs : z.cells.size = size) (hsz : 0 < size)
    (v : Value) (n : Nat) (xs : List Value) (hs : a.eval s = v) (hown : w.ownsRow base e size v n xs)
    (ad : Addr) (m c : Nat) (news : List Value) (hx : a.eval x = .slice (some ad) m c) (hl : news.length = m * size) (hnews : ∀ j u, news[j]? = some u → w.cell? (ad.add j) = some u) (h1 : ∀ u ∈ news, u.oneCell' = true)
    (h63 : n + m ≤ 1048576) (hbytes : bytes ≤ 1048576) (hbase : base ≤ w.heap.size)
    (h : ∀ v' w', w'.ownsRow base e size v' (n + m) (xs ++ news) → (∀ u, u.heap.size ≤ base → Ext u w → Ext u w') → wpList P ops Q rest (a.put o.dst v') w') : wpList P ops Q (o :: rest) a w :=
  wpList_append_own w hgd s x t ho base e i z size bytes ht hi hz hsize hby hzs hsz v n xs hs hown ad m c news hx hl hnews h1 (by simp only [maxLen]; omega)
    (by have := Nat.mul_le_mul (show n + m ≤ 1048576 by omega) hbytes; omega) hbase fun v' w' h2 h3 _ => h v' w' h2 (own_grown hown h3)

theorem leafI_bytes (s : ByteArray) : (([0] : List Int) ++ s.data.toList.map fun (b : UInt8) => (b.toNat : Int)).map byteOf = 0 :: s.data.toList := by
  rw [List.map_append, List.map_map]
  have : (byteOf ∘ fun (b : UInt8) => (b.toNat : Int)) = id := by funext b; exact byteOf_toNat b
  rw [this, List.map_id]; rfl
theorem str_of_own {w : World} {g : Nat} {v : Value} {n : Nat} {cs : List Value} {l : List Int} {L : List UInt8} (h : w.ownsRow g 5 1 v n cs) (hn : 0 < n) (hc : cs = l.map (Value.int .u8)) (hL : l.map byteOf = L) :
    ∃ ad c, v = .slice (some ad) n c ∧ (convert 105 9 (.slice (some ad) n c)).run Tryz.prog w = .ok (.string ⟨L.toArray⟩) w := by
  subst hc
  subst hL
  obtain ⟨A, c, rfl, -, R, -⟩ := own_rd h
  obtain ⟨ad, rfl, -, -⟩ := R.2.2 hn
  exact ⟨ad, c, rfl, conv_rd R hn⟩
theorem leaf_cells (s : ByteArray) : List.map (Value.int .u8) [0] ++ newsS s = (([0] : List Int) ++ s.data.toList.map fun (b : UInt8) => (b.toNat : Int)).map (Value.int .u8) := by rw [List.map_append, newsS_int]
set_option maxRecDepth 100000 in
theorem RLeaf_any (s : ByteArray) (w : World) (hs : s.size ≤ 1000000) :
    Calls Tryz.prog 40 #[.string s] w fun e w' => e = .returned (.int .i64 (leafL s.data.toList)) ∧ Ext w w' := by
  have own0 : (w.alloc (.cells #[.int .u8 0] 5)).ownsRow w.heap.size 5 1 (.slice (some ⟨w.heap.size, 0, none⟩) 1 1) 1 (([0] : List Int).map (Value.int .u8)) :=
    World.ownsRow_lit w #[.int .u8 0] 1 (Nat.le_refl _) (by simp [maxLen]) rfl
  have E0 : Ext w (w.alloc (.cells #[.int .u8 0] 5)) := by (repeat (with_reducible first | exact Ext.refl _ | assumption | refine Ext.drew ?_ | refine Ext.drewN ?_ _ | refine Ext.alloc ?_ _ | refine Ext.trans ?_ (by with_reducible assumption)))
  have hz0 : w.heap.size < (w.alloc (.cells #[.int .u8 0] 5)).heap.size := by simp
  obtain ⟨i0, hi0, hz0', hz1, hz2⟩ := info_parts info_u8
  obtain ⟨g, hg⟩ : ∃ g, g = w.heap.size := ⟨_, rfl⟩
  have HB := Lib.hid (leafI_bytes s)
  go_enter Tryz.func40, Tryz.ntmps40
  go_upto_region 2 with (fail)
  rw [← hg] at own0 hz0 ⊢
  generalize w.alloc (.cells #[.int .u8 0] 5) = w1 at *
  have hconv := run_bytes_of_string (P := Tryz.prog) w1 9 105 5 s Tryz.underlying9 Tryz.underlying105 Tryz.underlying5
  have hcells := conv_cells w1.drew s (grownCap w1 s.size 0 5) 5 ((bytesRow s (grownCap w1 s.size 0 5)).size, (bytesRow s (grownCap w1 s.size 0 5)).size + 1) w1.heap.size rfl
  have E1 : Ext w (w1.drew.alloc (.cells (bytesRow s (grownCap w1 s.size 0 5)) 5 ((bytesRow s (grownCap w1 s.size 0 5)).size, (bytesRow s (grownCap w1 s.size 0 5)).size + 1))) := by (repeat (with_reducible first | exact Ext.refl _ | assumption | refine Ext.drew ?_ | refine Ext.drewN ?_ _ | refine Ext.alloc ?_ _ | refine Ext.trans ?_ (by with_reducible assumption)))
  have own1 : (w1.drew.alloc (.cells (bytesRow s (grownCap w1 s.size 0 5)) 5 ((bytesRow s (grownCap w1 s.size 0 5)).size, (bytesRow s (grownCap w1 s.size 0 5)).size + 1))).ownsRow g 5 1 (.slice (some ⟨g, 0, none⟩) 1 1) 1 (([0] : List Int).map (Value.int .u8)) := (World.ownsRow.drew own0).alloc _
  generalize w1.drew.alloc (.cells (bytesRow s (grownCap w1 s.size 0 5)) 5 ((bytesRow s (grownCap w1 s.size 0 5)).size, (bytesRow s (grownCap w1 s.size 0 5)).size + 1)) = w2 at *
  generalize grownCap w1 s.size 0 5 = cp at *
  have hs2 := E1.size
  have HC := Lib.hid hcells
  clear hcells
  go_wp2_with (at_builtin; refine wpl_appa (by rfl) _ _ _ (by rfl) g 5 i0 _ 1 1 Tryz.underlying105 hi0 hz0' hz1 hz2 rfl (by omega) (.slice (some ⟨g, 0, none⟩) 1 1) 1 _ (by rfl) own1 ⟨w1.heap.size, 0, none⟩ s.size cp (newsS s) (by rfl) (newsS_len s) HC.out (newsS_one s) (by omega) (by omega) (by omega) ?_; intro v3 w3 own3 hx3; have E3 := hx3 w (by omega) E1; obtain ⟨ad3, c3, rfl, hcv3⟩ := str_of_own own3 (by omega) (leaf_cells s) (leafI_bytes s))
  have hl3 : (0 :: s.data.toList).length = 1 + s.size := by rw [List.length_cons, Nat.add_comm]; rfl
  have HL : Hid (sumL (⟨(0 :: s.data.toList).toArray⟩ : ByteArray).data.toList = leafL s.data.toList) := rfl
  have hz : (⟨(0 :: s.data.toList).toArray⟩ : ByteArray).size ≤ 1000001 := by rw [size_mk, hl3]; omega
  generalize (⟨(0 :: s.data.toList).toArray⟩ : ByteArray) = y at *
  go_wp2_with fail
  refine (RSum_any _ _ (by simp only [maxLen]; omega)).mono ?_
  rintro e w4 ⟨rfl, rfl⟩
  rw [HL.out]
  go_wp2_with fail
  go_ret
  exact ⟨rfl, E3⟩

/-! ### many -/
def dataOk (l : List ByteArray) : Prop := l.length ≤ 200 ∧ ∀ s ∈ l, s.size ≤ 200
instance (l : List ByteArray) : Decidable (dataOk l) := by unfold dataOk; exact inferInstance
def dataK (l : List ByteArray) : Int := if dataOk l then 0 else 4
theorem dataK_ok {l : List ByteArray} (h : dataOk l) : dataK l = 0 := if_pos h
theorem dataK_bad {l : List ByteArray} (h : ¬ dataOk l) : dataK l = 4 := if_neg h
theorem dataK_zero {l : List ByteArray} (h : dataK l = 0) : dataOk l := by
  by_cases hk : dataOk l
  · exact hk
  · rw [dataK_bad hk] at h; cases h
def sumsD (l : List ByteArray) : List Int := l.map fun s => leafL s.data.toList
theorem sumsD_len (l : List ByteArray) : (sumsD l).length = l.length := by simp [sumsD]
theorem sumsD_take (l : List ByteArray) (k : Nat) : (sumsD l).take k = sumsD (l.take k) := by simp [sumsD]
theorem sumsD_drop (l : List ByteArray) (k : Nat) : (sumsD l).drop k = sumsD (l.drop k) := by simp [sumsD]
theorem sumsD_snoc {l : List ByteArray} {k : Nat} {s : ByteArray} (h : l[k]? = some s) : sumsD (l.take (k + 1)) = sumsD (l.take k) ++ [leafL s.data.toList] := by
  obtain ⟨h1, rfl⟩ := List.getElem?_eq_some_iff.1 h
  rw [List.take_succ_eq_append_getElem h1]; unfold sumsD; rw [List.map_append]; rfl
theorem allV_sumsD (l : List ByteArray) : allV (sumsD l) = true := by
  unfold allV sumsD
  rw [List.all_eq_true]
  intro x hx
  rw [List.mem_map] at hx
  obtain ⟨s, _, rfl⟩ := hx
  exact vld_sum _

end Go.Proofs.YtmknpehjncpekaaGreatDoor
