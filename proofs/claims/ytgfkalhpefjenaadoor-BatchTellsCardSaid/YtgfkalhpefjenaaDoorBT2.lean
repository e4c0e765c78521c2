/- The references' batch: Long, Several. -/
import Derived.Test.YtgfkalhpefjenaaDoorBT1
import Derived.Test.YtgfkalhpefjenaaDoorR6
namespace Go.Proofs.YtgfkalhpefjenaaDoor
open Go.RowKit Go.WideShapes
set_option linter.unusedVariables false
attribute [local go_sem ↓] Go.wp_at_zero Go.wp_at_succ

theorem anyB_no {l : List Int} {f s : Nat} (h : partL l f s = []) : anyB l f s = false := decide_eq_false (not_not_intro h)
theorem anyB_yes {l : List Int} {f s : Nat} (h : partL l f s ≠ []) : anyB l f s = true := decide_eq_true h
theorem prov_halves (xs : List Int) {at_ : List Int} (hr : at_.Pairwise (· < ·)) {f s : Nat} (h : partL at_ f s ≠ []) (h2 : 2 ≤ s) (hs : s ≤ 4096) :
    provL xs f s (partL at_ f s) = provL xs f (half s) (partL at_ f (half s)) ++ provL xs (f + half s) (s - half s) (partL at_ (f + half s) (s - half s)) := by
  have hk := half_lt h2 hs
  rw [provL_two xs h h2 hs, partL_left hr (by omega), partL_right hr (by omega)]

set_option maxRecDepth 100000 in
theorem SLong_any (xs : List Int) (A : Option Addr) (n c : Nat) (l : List Int) (hm : c ≤ maxLen) (hasc : l.Pairwise (· < ·)) (N : Nat) : ∀ (f s : Nat) (w : World), s ≤ N → 1 ≤ s → f + s ≤ 4096 → Rd w 1 A n c (l.map (Value.int .i64)) →
    Calls Tryd.prog 84 #[.slice A n c, .int .i64 f, .int .i64 s] w fun e w' => e = .returned (.int .i64 ((provL xs f s (partL l f s)).length : Nat)) ∧ w = w' := by
  induction N with
  | zero => intro f s w h h1; omega
  | succ N ih =>
    intro f s w h h1 hf hr
    have IH := Lib.hid ih
    have hpl := prov_len xs s f s (partL l f s) (Nat.le_refl _) h1 (by omega)
    clear ih
    by_cases hp : partL l f s = []
    · have HA := Lib.hid (anyB_no hp)
      have HL : Hid ((provL xs f s (partL l f s)).length = 1) := by show _ = _; rw [hp, provL_none]; rfl
      rw [HL.out]
      clear hp hpl
      go_enter Tryd.func84, Tryd.ntmps84
      go_wp2_with fail
      refine (Sany_any A n c l f s _ hr hm (by omega) (by omega)).mono ?_
      rw [HA.out]
      rintro _ _ ⟨rfl, rfl⟩
      go_wp2_with fail
      go_ret
      exact ⟨rfl, rfl⟩
    · have HA := Lib.hid (anyB_yes hp)
      by_cases hs1 : s = 1
      · subst hs1
        have HL : Hid ((provL xs f 1 (partL l f 1)).length = 0) := by show _ = _; rw [provL_leaf xs f hp]; rfl
        rw [HL.out]
        clear hp hpl
        go_enter Tryd.func84, Tryd.ntmps84
        go_wp2_with fail
        refine (Sany_any A n c l f 1 _ hr hm (by omega) (by omega)).mono ?_
        rw [HA.out]
        rintro _ _ ⟨rfl, rfl⟩
        go_wp2_with fail
        go_ret
        exact ⟨rfl, rfl⟩
      · have h2 : 2 ≤ s := by omega
        have hk := half_lt h2 (by omega)
        have hk0 := half_pos s
        have hh := prov_halves xs hasc hp h2 (by omega)
        have e1 : ((s : Int) == 1) = false := by simp; omega
        obtain ⟨a, HAA⟩ : ∃ q, Hid ((provL xs f (half s) (partL l f (half s))).length = q) := ⟨_, rfl⟩
        obtain ⟨b, HBB⟩ : ∃ q, Hid ((provL xs (f + half s) (s - half s) (partL l (f + half s) (s - half s))).length = q) := ⟨_, rfl⟩
        have HL : Hid ((provL xs f s (partL l f s)).length = a + b) := by show _ = _; rw [hh, List.length_append, HAA.out, HBB.out]
        rw [HL.out] at hpl ⊢
        have HK : Hid ((s : Int) - (half s : Int) = ((s - half s : Nat) : Int)) := by show _ = _; omega
        have HK2 : Hid ((f : Int) + (half s : Int) = ((f + half s : Nat) : Int)) := by show _ = _; omega
        clear hp hh
        go_enter Tryd.func84, Tryd.ntmps84
        go_wp2_with fail
        refine (Sany_any A n c l f s _ hr hm (by omega) (by omega)).mono ?_
        rw [HA.out]
        rintro _ _ ⟨rfl, rfl⟩
        go_wp2_with fail
        refine (RHalf_any s _ h1 (by omega)).mono ?_
        rintro _ _ ⟨rfl, rfl⟩
        go_wp2_with fail
        refine (IH.out f (half s) _ (by omega) hk0 (by omega) hr).mono ?_
        rw [HAA.out]
        rintro _ _ ⟨rfl, rfl⟩
        go_wp2_with fail
        rw [HK.out, HK2.out]
        refine (IH.out (f + half s) (s - half s) _ (by omega) (by omega) (by omega) hr).mono ?_
        rw [HBB.out]
        rintro _ _ ⟨rfl, rfl⟩
        go_wp2_with fail
        go_ret
        exact ⟨by simp, rfl⟩

set_option maxRecDepth 100000 in
set_option maxHeartbeats 2000000 in
theorem Several_any (A1 : Option Addr) (n1 c1 : Nat) (xs : List Int) (hm1 : c1 ≤ maxLen) (hv : allV xs = true) (A : Option Addr) (n c : Nat) (l : List Int) (hm : c ≤ maxLen) (hasc : l.Pairwise (· < ·)) (N : Nat) : ∀ (f s : Nat) (w : World), s ≤ N → 1 ≤ s → f + s ≤ n1 → n1 ≤ 4096 → Rd w 1 A1 n1 c1 (xs.map (Value.int .i64)) → Rd w 1 A n c (l.map (Value.int .i64)) →
    Calls Tryd.prog 82 #[.slice A1 n1 c1, .slice A n c, .int .i64 f, .int .i64 s] w fun e w' => (∃ v, e = .returned v ∧ OwnI w w' v (provL xs f s (partL l f s))) ∧ Ext w w' := by
  induction N with
  | zero => intro f s w h h1; omega
  | succ N ih =>
    intro f s w h h1 hf hn1 hr1 hr
    have IH := Lib.hid ih
    have hx1 := hr1.lenI
    have hl1 := hr1.2.1
    have hms1 : c1 ≤ 9223372036854775807 := by unfold maxLen at hm1; omega
    have hpl := prov_len xs s f s (partL l f s) (Nat.le_refl _) h1 (by omega)
    clear ih
    by_cases hp : partL l f s = []
    · have HA := Lib.hid (anyB_no hp)
      obtain ⟨z, HZ⟩ : ∃ q, Hid (ofL (seg xs f s) = q) := ⟨_, rfl⟩
      have HL : Hid (provL xs f s (partL l f s) = [z]) := by show _ = _; rw [hp, provL_none, HZ.out]
      rw [HL.out]
      have hcf : ¬ c1 = f := by omega
      have hR := Rd_part hr1 (i := f) (j := f + s) (by omega) (by omega)
      rw [if_neg hcf, Nat.add_sub_cancel_left] at hR
      have hHR : Rd w 1 (A1.map (fun x => x.add f)) s (c1 - f) ((seg xs f s).map (Value.int .i64)) := hR
      have hva := allV_seg hv f s
      have f1 : (f : Int) + (s : Int) ≤ (c1 : Int) := by omega
      have f2 : (f : Int) ≤ (c1 : Int) := by omega
      have f3 : (f : Int) ≤ (f : Int) + (s : Int) := by omega
      have f4 : (f : Int) + (s : Int) - (f : Int) = (s : Int) := by omega
      have f5 : (f : Int) + (s : Int) ≤ 4096 := by omega
      clear hp hpl hR hx1
      go_enter Tryd.func82, Tryd.ntmps82
      go_wp2_with fail
      refine (Sany_any A n c l f s _ hr hm (by omega) (by omega)).mono ?_
      rw [HA.out]
      rintro _ _ ⟨rfl, rfl⟩
      go_wp2_with fail
      refine (RRoot_any s _ s (c1 - f) _ _ (Nat.le_refl _) hHR (by simp only [maxLen]; omega) (by omega) hva).mono ?_
      rw [HZ.out]
      rintro _ w1 ⟨rfl, hb1⟩
      go_wp2_with fail
      go_ret
      refine ⟨⟨_, rfl, ?_⟩, by (repeat (with_reducible first | exact Ext.refl _ | assumption | refine Ext.drew ?_ | refine Ext.drewN ?_ _ | refine Ext.alloc ?_ _ | refine Ext.trans ?_ (by with_reducible assumption)))⟩
      have hlit : (w1.alloc (.cells #[.int .i64 z] 3)).ownsRow w1.heap.size 3 1 (.slice (some ⟨w1.heap.size, 0, none⟩) 1 1) 1 (([z] : List Int).map (Value.int .i64)) := World.ownsRow_lit w1 #[.int .i64 z] 1 (Nat.le_refl _) (by simp [maxLen]) rfl
      exact own_lower hlit hb1.size
    · have HA := Lib.hid (anyB_yes hp)
      by_cases hs1 : s = 1
      · subst hs1
        have HL : Hid (provL xs f 1 (partL l f 1) = []) := by show _ = _; rw [provL_leaf xs f hp]
        rw [HL.out]
        clear hp hpl hx1
        go_enter Tryd.func82, Tryd.ntmps82
        go_wp2_with fail
        refine (Sany_any A n c l f 1 _ hr hm (by omega) (by omega)).mono ?_
        rw [HA.out]
        rintro _ _ ⟨rfl, rfl⟩
        go_wp2_with fail
        go_ret
        exact ⟨⟨_, rfl, own_nil _ _ _ _⟩, by (repeat (with_reducible first | exact Ext.refl _ | assumption | refine Ext.drew ?_ | refine Ext.drewN ?_ _ | refine Ext.alloc ?_ _ | refine Ext.trans ?_ (by with_reducible assumption)))⟩
      · have h2 : 2 ≤ s := by omega
        have hk := half_lt h2 (by omega)
        have hk0 := half_pos s
        have hh := prov_halves xs hasc hp h2 (by omega)
        have e1 : ((s : Int) == 1) = false := by simp; omega
        have hbs := prov_len xs (s - half s) (f + half s) (s - half s) (partL l (f + half s) (s - half s)) (Nat.le_refl _) (by omega) (by omega)
        have has := prov_len xs (half s) f (half s) (partL l f (half s)) (Nat.le_refl _) hk0 (by omega)
        obtain ⟨a, HAA⟩ : ∃ q, Hid (provL xs f (half s) (partL l f (half s)) = q) := ⟨_, rfl⟩
        obtain ⟨b, HBB⟩ : ∃ q, Hid (provL xs (f + half s) (s - half s) (partL l (f + half s) (s - half s)) = q) := ⟨_, rfl⟩
        have HL : Hid (provL xs f s (partL l f s) = a ++ b) := by show _ = _; rw [hh, HAA.out, HBB.out]
        rw [HL.out] at hpl ⊢
        rw [HAA.out] at has
        rw [HBB.out] at hbs
        have HK : Hid ((s : Int) - (half s : Int) = ((s - half s : Nat) : Int)) := by show _ = _; omega
        have HK2 : Hid ((f : Int) + (half s : Int) = ((f + half s : Nat) : Int)) := by show _ = _; omega
        obtain ⟨i0, hi0, hz0, hz1, hz2⟩ := info_parts info_int
        clear hp hh hx1
        go_enter Tryd.func82, Tryd.ntmps82
        go_wp2_with fail
        refine (Sany_any A n c l f s _ hr hm (by omega) (by omega)).mono ?_
        rw [HA.out]
        rintro _ _ ⟨rfl, rfl⟩
        go_wp2_with fail
        refine (RHalf_any s _ h1 (by omega)).mono ?_
        rintro _ _ ⟨rfl, rfl⟩
        go_wp2_with fail
        refine (IH.out f (half s) _ (by omega) hk0 (by omega) hn1 hr1 hr).mono ?_
        rw [HAA.out]
        rintro _ w1 ⟨⟨v1, rfl, o1⟩, hb1⟩
        obtain ⟨A5, c5, rfl, hc5, R5, -⟩ := own_rd o1
        have hl5 := R5.2.1
        have hms5 : c5 ≤ 9223372036854775807 := by unfold maxLen at hc5; omega
        clear R5
        go_wp2_with fail
        rw [HK.out, HK2.out]
        refine (IH.out (f + half s) (s - half s) _ (by omega) (by omega) (by omega) hn1 (hr1.ext hb1) (hr.ext hb1)).mono ?_
        rw [HBB.out]
        rintro _ w2 ⟨⟨v2, rfl, o2⟩, hb2⟩
        have X2 := hb1.trans hb2
        have HO1 := Lib.hid (own_ext o1 hb2)
        have hs2 := X2.size
        rcases o2.2 with ⟨rfl, h0⟩ | ⟨g2, cap2, cur2, rfl, _, _, hnc2, _, _⟩
        · have hb0 : b = [] := List.eq_nil_of_length_eq_zero h0
          have HAB : Hid (a ++ b = a) := by show _ = _; rw [hb0, List.append_nil]
          clear h0 hb0 o2
          cases A5
          all_goals
            go_wp2_with fail
            go_ret
            rw [HAB.out]
            exact ⟨⟨_, rfl, HO1.out⟩, X2⟩
        · have hcs := Lib.hid (o2.cells (g := g2) rfl)
          go_wp2_with (at_builtin; refine wpl_appa (by rfl) _ _ _ (by rfl) w.heap.size 3 i0 _ 1 8 Tryd.underlying36 hi0 hz0 hz1 hz2 rfl (by omega) (.slice A5 a.length c5) a.length _ (by rfl) HO1.out ⟨g2, 0, none⟩ b.length cap2 (b.map (Value.int .i64)) (by rfl) (by simp) hcs.out (by intro u hu; simp at hu; obtain ⟨y, _, rfl⟩ := hu; rfl) (by omega) (by omega) hs2 ?_; intro v3 w3 own3 hx3)
          go_ret
          refine ⟨⟨_, rfl, OwnI.mk own3 (by simp) (by simp)⟩, hx3 _ (Nat.le_refl _) X2⟩
end Go.Proofs.YtgfkalhpefjenaaDoor
