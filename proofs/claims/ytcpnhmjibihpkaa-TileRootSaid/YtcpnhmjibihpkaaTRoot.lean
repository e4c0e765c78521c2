import Derived.Test.YtcpnhmjibihpkaaSums
import Derived.Test.YtcpnhmjibihpkaaRootPure
import Derived.Test.YtcpnhmjibihpkaaGrown
namespace Go.Proofs.Ytcpnhmjibihpkaa
open Go.RowKit Go.WideShapes
set_option linter.unusedVariables false
attribute [local go_sem ↓] Go.wp_at_zero Go.wp_at_succ

/-- all sums of all levels, as they lie -/
def RowsAt (w : World) (gs : Nat) (n : Nat) (xs : List Int) : Prop := gs < w.heap.size ∧ ∀ k, k < 4 → ∃ A c, w.cell? ⟨gs, k, none⟩ = some (.slice A (n / 4 ^ k) c) ∧ c ≤ maxLen ∧ Rd w 1 A (n / 4 ^ k) c ((rowT xs (n / 4 ^ k) k).map (Value.int .i64))
theorem RowsAt.ext {w w' : World} {gs n : Nat} {xs : List Int} (h : RowsAt w gs n xs) (e : Ext w w') : RowsAt w' gs n xs :=
  ⟨e.lt h.1, fun k hk => by
    obtain ⟨A, c, h1, h2, h3⟩ := h.2 k hk
    exact ⟨A, c, (e.cell (p := ⟨gs, k, none⟩) h.1).trans h1, h2, h3.ext e⟩⟩
/-- one sum -/
theorem RowsAt.get {w : World} {gs n : Nat} {xs : List Int} (h : RowsAt w gs n xs) {k p : Nat} (hk : k < 4) (hp : p < n / 4 ^ k) :
    ∃ ad c, w.cell? ⟨gs, k, none⟩ = some (.slice (some ad) (n / 4 ^ k) c) ∧ c ≤ maxLen ∧ n / 4 ^ k ≤ c ∧ w.cell? (ad.add p) = some (.int .i64 (ofL (seg xs (p * 4 ^ k) (4 ^ k)))) := by
  obtain ⟨A, c, h1, h2, h3⟩ := h.2 k hk
  obtain ⟨ad, rfl, _, h4⟩ := h3.getI (rowT_get xs hp)
  exact ⟨ad, c, h1, h2, h3.2.1, h4⟩

theorem RowsAt.at_ {w : World} {gs n : Nat} {xs : List Int} (h : RowsAt w gs n xs) {k u f : Nat} (hk : k < 4) (hu : 4 ^ k = u) (hf : f % u = 0) (hfu : f + u ≤ n) :
    ∃ ad c q, w.cell? ⟨gs, k, none⟩ = some (.slice (some ad) q c) ∧ c ≤ maxLen ∧ q ≤ c ∧ f / u < q ∧ w.cell? (ad.add (f / u)) = some (.int .i64 (ofL (seg xs f u))) := by
  have h1 : 1 ≤ u := by rw [← hu]; exact Nat.one_le_pow _ _ (by omega)
  have hd : f / u * u = f := Nat.div_mul_cancel (Nat.dvd_of_mod_eq_zero hf)
  have hp : f / u < n / u := by
    rw [Nat.div_lt_iff_lt_mul h1, Nat.mul_comm]
    have := Nat.div_add_mod n u
    have := Nat.mod_lt n h1
    have h3 : f / u + 1 ≤ n / u := by
      rw [Nat.le_div_iff_mul_le h1, Nat.add_mul, hd]; omega
    have h4 := Nat.mul_le_mul_left u h3
    rw [Nat.mul_add, Nat.mul_comm u (f / u), hd] at h4
    omega
  subst hu
  obtain ⟨ad, c, h2, h3, h4, h5⟩ := h.get hk hp
  rw [hd] at h5
  exact ⟨ad, c, _, h2, h3, h4, hp, h5⟩

set_option maxRecDepth 100000 in
set_option maxHeartbeats 4000000 in
theorem troot_any (gs n : Nat) (xs : List Int) (hn : n ≤ 200) (hx : xs.length = n) (hv : allV xs = true) (N : Nat) : ∀ (f s : Nat) (w : World), s ≤ N → 1 ≤ s → f + s ≤ n → RowsAt w gs n xs →
    Calls Try.prog 77 #[.slice (some ⟨gs, 0, none⟩) 4 4, .int .i64 f, .int .i64 s] w fun e w' => e = .returned (.int .i64 (ofL (seg xs f s))) ∧ Ext w w' := by
  induction N with
  | zero => intro f s w h h1; omega
  | succ N ih =>
    intro f s w hN h1 hf hR
    have IH := Lib.hid ih
    have HR := Lib.hid hR
    have HX := Lib.hid hx
    clear ih hR hx
    have i1 : (s : Int) ≤ 200 := by omega
    have i2 : (f : Int) ≤ 200 := by omega
    have i3 : 1 ≤ (s : Int) := by omega
    have i4 : ((s : Int) == 0) = false := by simp; omega
    go_enter Try.func77, Try.ntmps77
    go_wp2_with fail
    go_loop [7, 8] (fun l u => (l = .int .i64 0 ∧ u = .int .i64 1 ∧ 1 ≤ s ∧ Hid (f % 1 = 0)) ∨ (l = .int .i64 1 ∧ u = .int .i64 4 ∧ 4 ≤ s ∧ Hid (f % 4 = 0)) ∨ (l = .int .i64 2 ∧ u = .int .i64 16 ∧ 16 ≤ s ∧ Hid (f % 16 = 0)) ∨ (l = .int .i64 3 ∧ u = .int .i64 64 ∧ 64 ≤ s ∧ Hid (f % 64 = 0))) (fun l _ => 3 - (intOf l).toNat)
    case atStart => exact .inl ⟨rfl, rfl, h1, by show _ = _; omega⟩
    case round =>
      rcases hrel with ⟨rfl, rfl, hu, HF⟩ | ⟨rfl, rfl, hu, HF⟩ | ⟨rfl, rfl, hu, HF⟩ | ⟨rfl, rfl, hu, HF⟩
      · by_cases hb : 4 ≤ s
        · by_cases hd : f % 4 = 0
          ·
            have d1 : ((f : Int) % 4 == 0) = true := by simp; omega
            have d2 : 4 ≤ (s : Int) := by omega
            have HD := Lib.hid hd
            clear hd
            go_wp2_with fail
            go_round
            case rel => exact .inr (.inl ⟨rfl, rfl, hb, HD⟩)
            case measure => simp [intOf]
          · have d1 : ((f : Int) % 4 == 0) = false := by simp; omega
            have d2 : 4 ≤ (s : Int) := by omega
            clear hd
            by_cases he : s = 1
            · subst he
              obtain ⟨ad, c, q, c1, c2, c3, c4, c5⟩ := HR.out.at_ (k := 0) (u := 1) (f := f) (by omega) (by rfl) HF.out hf
              simp only [Nat.div_one] at c4 c5
              have k1 : (f : Int) < (q : Int) := by omega
              have k4 : IntKind.i64.wrap (f : Int) = (f : Int) := IntWalk.i64_in _ (by omega)
              unfold maxLen at c2
              go_wp2_with fail
              go_quiet (fail)
              go_wp2_with fail
              go_ret
              exact ⟨rfl, by (repeat (with_reducible first | exact Ext.refl _ | assumption | refine Ext.drew ?_ | refine Ext.drewN ?_ _ | refine Ext.alloc ?_ _ | refine Ext.trans ?_ (by with_reducible assumption)))⟩
            · have he1 : ((s : Int) == 1) = false := by simp; omega
              have hh := half_lt (n := s) (by omega) (by omega)
              have hp := half_pos s
              have HS := Lib.hid (seg_split (xs := xs) (f := f) (s := s) (by rw [HX.out]; omega) (by omega) (by omega))
              have v1 := (vld_true (vld_ofL (allV_seg hv f (half s)) (by rw [seg_len (by rw [HX.out]; omega)]; omega))).1
              have v2 := (vld_true (vld_ofL (allV_seg hv (f + half s) (s - half s)) (by rw [seg_len (by rw [HX.out]; omega)]; omega))).1
              have N1 : Hid ((f : Int) + ((half s : Nat) : Int) = ((f + half s : Nat) : Int)) := by show _ = _; omega
              have N2 : Hid ((s : Int) - ((half s : Nat) : Int) = ((s - half s : Nat) : Int)) := by show _ = _; omega
              clear he
              go_wp2_with fail
              refine (Half_any _ _ (by omega) (by omega)).mono ?_
              rintro e w' ⟨rfl, rfl⟩
              rw [Int.toNat_natCast]
              go_wp2_with fail
              refine (IH.out f (half s) _ (by omega) (by omega) (by omega) HR.out).mono ?_
              rintro e w1 ⟨rfl, hb1⟩
              go_wp2_with fail
              rw [N1.out, N2.out]
              refine (IH.out (f + half s) (s - half s) _ (by omega) (by omega) (by omega) (HR.out.ext hb1)).mono ?_
              rintro e w2 ⟨rfl, hb2⟩
              go_wp2_with fail
              refine (NodeOf_any _ _ _ v1 v2).mono ?_
              rintro e w3 ⟨rfl, hb3⟩
              go_wp2_with fail
              go_ret
              exact ⟨ret_int HS.out.symm, by (repeat (with_reducible first | exact Ext.refl _ | assumption | refine Ext.drew ?_ | refine Ext.drewN ?_ _ | refine Ext.alloc ?_ _ | refine Ext.trans ?_ (by with_reducible assumption)))⟩
        · have d2 : (s : Int) < 4 := by omega
          clear hb
          by_cases he : s = 1
          · subst he
            obtain ⟨ad, c, q, c1, c2, c3, c4, c5⟩ := HR.out.at_ (k := 0) (u := 1) (f := f) (by omega) (by rfl) HF.out hf
            simp only [Nat.div_one] at c4 c5
            have k1 : (f : Int) < (q : Int) := by omega
            have k4 : IntKind.i64.wrap (f : Int) = (f : Int) := IntWalk.i64_in _ (by omega)
            unfold maxLen at c2
            go_wp2_with fail
            go_quiet (fail)
            go_wp2_with fail
            go_ret
            exact ⟨rfl, by (repeat (with_reducible first | exact Ext.refl _ | assumption | refine Ext.drew ?_ | refine Ext.drewN ?_ _ | refine Ext.alloc ?_ _ | refine Ext.trans ?_ (by with_reducible assumption)))⟩
          · have he1 : ((s : Int) == 1) = false := by simp; omega
            have hh := half_lt (n := s) (by omega) (by omega)
            have hp := half_pos s
            have HS := Lib.hid (seg_split (xs := xs) (f := f) (s := s) (by rw [HX.out]; omega) (by omega) (by omega))
            have v1 := (vld_true (vld_ofL (allV_seg hv f (half s)) (by rw [seg_len (by rw [HX.out]; omega)]; omega))).1
            have v2 := (vld_true (vld_ofL (allV_seg hv (f + half s) (s - half s)) (by rw [seg_len (by rw [HX.out]; omega)]; omega))).1
            have N1 : Hid ((f : Int) + ((half s : Nat) : Int) = ((f + half s : Nat) : Int)) := by show _ = _; omega
            have N2 : Hid ((s : Int) - ((half s : Nat) : Int) = ((s - half s : Nat) : Int)) := by show _ = _; omega
            clear he
            go_wp2_with fail
            refine (Half_any _ _ (by omega) (by omega)).mono ?_
            rintro e w' ⟨rfl, rfl⟩
            rw [Int.toNat_natCast]
            go_wp2_with fail
            refine (IH.out f (half s) _ (by omega) (by omega) (by omega) HR.out).mono ?_
            rintro e w1 ⟨rfl, hb1⟩
            go_wp2_with fail
            rw [N1.out, N2.out]
            refine (IH.out (f + half s) (s - half s) _ (by omega) (by omega) (by omega) (HR.out.ext hb1)).mono ?_
            rintro e w2 ⟨rfl, hb2⟩
            go_wp2_with fail
            refine (NodeOf_any _ _ _ v1 v2).mono ?_
            rintro e w3 ⟨rfl, hb3⟩
            go_wp2_with fail
            go_ret
            exact ⟨ret_int HS.out.symm, by (repeat (with_reducible first | exact Ext.refl _ | assumption | refine Ext.drew ?_ | refine Ext.drewN ?_ _ | refine Ext.alloc ?_ _ | refine Ext.trans ?_ (by with_reducible assumption)))⟩
      · by_cases hb : 16 ≤ s
        · by_cases hd : f % 16 = 0
          ·
            have d1 : ((f : Int) % 16 == 0) = true := by simp; omega
            have d2 : 16 ≤ (s : Int) := by omega
            have HD := Lib.hid hd
            clear hd
            go_wp2_with fail
            go_round
            case rel => exact .inr (.inr (.inl ⟨rfl, rfl, hb, HD⟩))
            case measure => simp [intOf]
          · have d1 : ((f : Int) % 16 == 0) = false := by simp; omega
            have d2 : 16 ≤ (s : Int) := by omega
            clear hd
            by_cases he : s = 4
            · subst he
              obtain ⟨ad, c, q, c1, c2, c3, c4, c5⟩ := HR.out.at_ (k := 1) (u := 4) (f := f) (by omega) (by rfl) HF.out hf
              have k1 : (f : Int) / 4 < (q : Int) := by omega
              have k2 : 0 ≤ (f : Int) / 4 := by omega
              have k3 : ((f : Int) / 4).toNat = f / 4 := by omega
              have k4 : IntKind.i64.wrap ((f : Int) / 4) = (f : Int) / 4 := IntWalk.i64_in _ (by omega)
              unfold maxLen at c2
              go_wp2_with fail
              go_quiet (fail)
              go_wp2_with fail
              go_ret
              exact ⟨rfl, by (repeat (with_reducible first | exact Ext.refl _ | assumption | refine Ext.drew ?_ | refine Ext.drewN ?_ _ | refine Ext.alloc ?_ _ | refine Ext.trans ?_ (by with_reducible assumption)))⟩
            · have he1 : ((s : Int) == 4) = false := by simp; omega
              have hh := half_lt (n := s) (by omega) (by omega)
              have hp := half_pos s
              have HS := Lib.hid (seg_split (xs := xs) (f := f) (s := s) (by rw [HX.out]; omega) (by omega) (by omega))
              have v1 := (vld_true (vld_ofL (allV_seg hv f (half s)) (by rw [seg_len (by rw [HX.out]; omega)]; omega))).1
              have v2 := (vld_true (vld_ofL (allV_seg hv (f + half s) (s - half s)) (by rw [seg_len (by rw [HX.out]; omega)]; omega))).1
              have N1 : Hid ((f : Int) + ((half s : Nat) : Int) = ((f + half s : Nat) : Int)) := by show _ = _; omega
              have N2 : Hid ((s : Int) - ((half s : Nat) : Int) = ((s - half s : Nat) : Int)) := by show _ = _; omega
              clear he
              go_wp2_with fail
              refine (Half_any _ _ (by omega) (by omega)).mono ?_
              rintro e w' ⟨rfl, rfl⟩
              rw [Int.toNat_natCast]
              go_wp2_with fail
              refine (IH.out f (half s) _ (by omega) (by omega) (by omega) HR.out).mono ?_
              rintro e w1 ⟨rfl, hb1⟩
              go_wp2_with fail
              rw [N1.out, N2.out]
              refine (IH.out (f + half s) (s - half s) _ (by omega) (by omega) (by omega) (HR.out.ext hb1)).mono ?_
              rintro e w2 ⟨rfl, hb2⟩
              go_wp2_with fail
              refine (NodeOf_any _ _ _ v1 v2).mono ?_
              rintro e w3 ⟨rfl, hb3⟩
              go_wp2_with fail
              go_ret
              exact ⟨ret_int HS.out.symm, by (repeat (with_reducible first | exact Ext.refl _ | assumption | refine Ext.drew ?_ | refine Ext.drewN ?_ _ | refine Ext.alloc ?_ _ | refine Ext.trans ?_ (by with_reducible assumption)))⟩
        · have d2 : (s : Int) < 16 := by omega
          clear hb
          by_cases he : s = 4
          · subst he
            obtain ⟨ad, c, q, c1, c2, c3, c4, c5⟩ := HR.out.at_ (k := 1) (u := 4) (f := f) (by omega) (by rfl) HF.out hf
            have k1 : (f : Int) / 4 < (q : Int) := by omega
            have k2 : 0 ≤ (f : Int) / 4 := by omega
            have k3 : ((f : Int) / 4).toNat = f / 4 := by omega
            have k4 : IntKind.i64.wrap ((f : Int) / 4) = (f : Int) / 4 := IntWalk.i64_in _ (by omega)
            unfold maxLen at c2
            go_wp2_with fail
            go_quiet (fail)
            go_wp2_with fail
            go_ret
            exact ⟨rfl, by (repeat (with_reducible first | exact Ext.refl _ | assumption | refine Ext.drew ?_ | refine Ext.drewN ?_ _ | refine Ext.alloc ?_ _ | refine Ext.trans ?_ (by with_reducible assumption)))⟩
          · have he1 : ((s : Int) == 4) = false := by simp; omega
            have hh := half_lt (n := s) (by omega) (by omega)
            have hp := half_pos s
            have HS := Lib.hid (seg_split (xs := xs) (f := f) (s := s) (by rw [HX.out]; omega) (by omega) (by omega))
            have v1 := (vld_true (vld_ofL (allV_seg hv f (half s)) (by rw [seg_len (by rw [HX.out]; omega)]; omega))).1
            have v2 := (vld_true (vld_ofL (allV_seg hv (f + half s) (s - half s)) (by rw [seg_len (by rw [HX.out]; omega)]; omega))).1
            have N1 : Hid ((f : Int) + ((half s : Nat) : Int) = ((f + half s : Nat) : Int)) := by show _ = _; omega
            have N2 : Hid ((s : Int) - ((half s : Nat) : Int) = ((s - half s : Nat) : Int)) := by show _ = _; omega
            clear he
            go_wp2_with fail
            refine (Half_any _ _ (by omega) (by omega)).mono ?_
            rintro e w' ⟨rfl, rfl⟩
            rw [Int.toNat_natCast]
            go_wp2_with fail
            refine (IH.out f (half s) _ (by omega) (by omega) (by omega) HR.out).mono ?_
            rintro e w1 ⟨rfl, hb1⟩
            go_wp2_with fail
            rw [N1.out, N2.out]
            refine (IH.out (f + half s) (s - half s) _ (by omega) (by omega) (by omega) (HR.out.ext hb1)).mono ?_
            rintro e w2 ⟨rfl, hb2⟩
            go_wp2_with fail
            refine (NodeOf_any _ _ _ v1 v2).mono ?_
            rintro e w3 ⟨rfl, hb3⟩
            go_wp2_with fail
            go_ret
            exact ⟨ret_int HS.out.symm, by (repeat (with_reducible first | exact Ext.refl _ | assumption | refine Ext.drew ?_ | refine Ext.drewN ?_ _ | refine Ext.alloc ?_ _ | refine Ext.trans ?_ (by with_reducible assumption)))⟩
      · by_cases hb : 64 ≤ s
        · by_cases hd : f % 64 = 0
          ·
            have d1 : ((f : Int) % 64 == 0) = true := by simp; omega
            have d2 : 64 ≤ (s : Int) := by omega
            have HD := Lib.hid hd
            clear hd
            go_wp2_with fail
            go_round
            case rel => exact .inr (.inr (.inr ⟨rfl, rfl, hb, HD⟩))
            case measure => simp [intOf]
          · have d1 : ((f : Int) % 64 == 0) = false := by simp; omega
            have d2 : 64 ≤ (s : Int) := by omega
            clear hd
            by_cases he : s = 16
            · subst he
              obtain ⟨ad, c, q, c1, c2, c3, c4, c5⟩ := HR.out.at_ (k := 2) (u := 16) (f := f) (by omega) (by rfl) HF.out hf
              have k1 : (f : Int) / 16 < (q : Int) := by omega
              have k2 : 0 ≤ (f : Int) / 16 := by omega
              have k3 : ((f : Int) / 16).toNat = f / 16 := by omega
              have k4 : IntKind.i64.wrap ((f : Int) / 16) = (f : Int) / 16 := IntWalk.i64_in _ (by omega)
              unfold maxLen at c2
              go_wp2_with fail
              go_quiet (fail)
              go_wp2_with fail
              go_ret
              exact ⟨rfl, by (repeat (with_reducible first | exact Ext.refl _ | assumption | refine Ext.drew ?_ | refine Ext.drewN ?_ _ | refine Ext.alloc ?_ _ | refine Ext.trans ?_ (by with_reducible assumption)))⟩
            · have he1 : ((s : Int) == 16) = false := by simp; omega
              have hh := half_lt (n := s) (by omega) (by omega)
              have hp := half_pos s
              have HS := Lib.hid (seg_split (xs := xs) (f := f) (s := s) (by rw [HX.out]; omega) (by omega) (by omega))
              have v1 := (vld_true (vld_ofL (allV_seg hv f (half s)) (by rw [seg_len (by rw [HX.out]; omega)]; omega))).1
              have v2 := (vld_true (vld_ofL (allV_seg hv (f + half s) (s - half s)) (by rw [seg_len (by rw [HX.out]; omega)]; omega))).1
              have N1 : Hid ((f : Int) + ((half s : Nat) : Int) = ((f + half s : Nat) : Int)) := by show _ = _; omega
              have N2 : Hid ((s : Int) - ((half s : Nat) : Int) = ((s - half s : Nat) : Int)) := by show _ = _; omega
              clear he
              go_wp2_with fail
              refine (Half_any _ _ (by omega) (by omega)).mono ?_
              rintro e w' ⟨rfl, rfl⟩
              rw [Int.toNat_natCast]
              go_wp2_with fail
              refine (IH.out f (half s) _ (by omega) (by omega) (by omega) HR.out).mono ?_
              rintro e w1 ⟨rfl, hb1⟩
              go_wp2_with fail
              rw [N1.out, N2.out]
              refine (IH.out (f + half s) (s - half s) _ (by omega) (by omega) (by omega) (HR.out.ext hb1)).mono ?_
              rintro e w2 ⟨rfl, hb2⟩
              go_wp2_with fail
              refine (NodeOf_any _ _ _ v1 v2).mono ?_
              rintro e w3 ⟨rfl, hb3⟩
              go_wp2_with fail
              go_ret
              exact ⟨ret_int HS.out.symm, by (repeat (with_reducible first | exact Ext.refl _ | assumption | refine Ext.drew ?_ | refine Ext.drewN ?_ _ | refine Ext.alloc ?_ _ | refine Ext.trans ?_ (by with_reducible assumption)))⟩
        · have d2 : (s : Int) < 64 := by omega
          clear hb
          by_cases he : s = 16
          · subst he
            obtain ⟨ad, c, q, c1, c2, c3, c4, c5⟩ := HR.out.at_ (k := 2) (u := 16) (f := f) (by omega) (by rfl) HF.out hf
            have k1 : (f : Int) / 16 < (q : Int) := by omega
            have k2 : 0 ≤ (f : Int) / 16 := by omega
            have k3 : ((f : Int) / 16).toNat = f / 16 := by omega
            have k4 : IntKind.i64.wrap ((f : Int) / 16) = (f : Int) / 16 := IntWalk.i64_in _ (by omega)
            unfold maxLen at c2
            go_wp2_with fail
            go_quiet (fail)
            go_wp2_with fail
            go_ret
            exact ⟨rfl, by (repeat (with_reducible first | exact Ext.refl _ | assumption | refine Ext.drew ?_ | refine Ext.drewN ?_ _ | refine Ext.alloc ?_ _ | refine Ext.trans ?_ (by with_reducible assumption)))⟩
          · have he1 : ((s : Int) == 16) = false := by simp; omega
            have hh := half_lt (n := s) (by omega) (by omega)
            have hp := half_pos s
            have HS := Lib.hid (seg_split (xs := xs) (f := f) (s := s) (by rw [HX.out]; omega) (by omega) (by omega))
            have v1 := (vld_true (vld_ofL (allV_seg hv f (half s)) (by rw [seg_len (by rw [HX.out]; omega)]; omega))).1
            have v2 := (vld_true (vld_ofL (allV_seg hv (f + half s) (s - half s)) (by rw [seg_len (by rw [HX.out]; omega)]; omega))).1
            have N1 : Hid ((f : Int) + ((half s : Nat) : Int) = ((f + half s : Nat) : Int)) := by show _ = _; omega
            have N2 : Hid ((s : Int) - ((half s : Nat) : Int) = ((s - half s : Nat) : Int)) := by show _ = _; omega
            clear he
            go_wp2_with fail
            refine (Half_any _ _ (by omega) (by omega)).mono ?_
            rintro e w' ⟨rfl, rfl⟩
            rw [Int.toNat_natCast]
            go_wp2_with fail
            refine (IH.out f (half s) _ (by omega) (by omega) (by omega) HR.out).mono ?_
            rintro e w1 ⟨rfl, hb1⟩
            go_wp2_with fail
            rw [N1.out, N2.out]
            refine (IH.out (f + half s) (s - half s) _ (by omega) (by omega) (by omega) (HR.out.ext hb1)).mono ?_
            rintro e w2 ⟨rfl, hb2⟩
            go_wp2_with fail
            refine (NodeOf_any _ _ _ v1 v2).mono ?_
            rintro e w3 ⟨rfl, hb3⟩
            go_wp2_with fail
            go_ret
            exact ⟨ret_int HS.out.symm, by (repeat (with_reducible first | exact Ext.refl _ | assumption | refine Ext.drew ?_ | refine Ext.drewN ?_ _ | refine Ext.alloc ?_ _ | refine Ext.trans ?_ (by with_reducible assumption)))⟩
      · by_cases hb : 256 ≤ s
        · have d2 : 256 ≤ (s : Int) := by omega
          by_cases hd : f % 256 = 0
          · have d1 : ((f : Int) % 256 == 0) = true := by simp; omega
            clear hd
            by_cases he : s = 64
            · subst he
              obtain ⟨ad, c, q, c1, c2, c3, c4, c5⟩ := HR.out.at_ (k := 3) (u := 64) (f := f) (by omega) (by rfl) HF.out hf
              have k1 : (f : Int) / 64 < (q : Int) := by omega
              have k2 : 0 ≤ (f : Int) / 64 := by omega
              have k3 : ((f : Int) / 64).toNat = f / 64 := by omega
              have k4 : IntKind.i64.wrap ((f : Int) / 64) = (f : Int) / 64 := IntWalk.i64_in _ (by omega)
              unfold maxLen at c2
              go_wp2_with fail
              go_quiet (fail)
              go_wp2_with fail
              go_ret
              exact ⟨rfl, by (repeat (with_reducible first | exact Ext.refl _ | assumption | refine Ext.drew ?_ | refine Ext.drewN ?_ _ | refine Ext.alloc ?_ _ | refine Ext.trans ?_ (by with_reducible assumption)))⟩
            · have he1 : ((s : Int) == 64) = false := by simp; omega
              have hh := half_lt (n := s) (by omega) (by omega)
              have hp := half_pos s
              have HS := Lib.hid (seg_split (xs := xs) (f := f) (s := s) (by rw [HX.out]; omega) (by omega) (by omega))
              have v1 := (vld_true (vld_ofL (allV_seg hv f (half s)) (by rw [seg_len (by rw [HX.out]; omega)]; omega))).1
              have v2 := (vld_true (vld_ofL (allV_seg hv (f + half s) (s - half s)) (by rw [seg_len (by rw [HX.out]; omega)]; omega))).1
              have N1 : Hid ((f : Int) + ((half s : Nat) : Int) = ((f + half s : Nat) : Int)) := by show _ = _; omega
              have N2 : Hid ((s : Int) - ((half s : Nat) : Int) = ((s - half s : Nat) : Int)) := by show _ = _; omega
              clear he
              go_wp2_with fail
              refine (Half_any _ _ (by omega) (by omega)).mono ?_
              rintro e w' ⟨rfl, rfl⟩
              rw [Int.toNat_natCast]
              go_wp2_with fail
              refine (IH.out f (half s) _ (by omega) (by omega) (by omega) HR.out).mono ?_
              rintro e w1 ⟨rfl, hb1⟩
              go_wp2_with fail
              rw [N1.out, N2.out]
              refine (IH.out (f + half s) (s - half s) _ (by omega) (by omega) (by omega) (HR.out.ext hb1)).mono ?_
              rintro e w2 ⟨rfl, hb2⟩
              go_wp2_with fail
              refine (NodeOf_any _ _ _ v1 v2).mono ?_
              rintro e w3 ⟨rfl, hb3⟩
              go_wp2_with fail
              go_ret
              exact ⟨ret_int HS.out.symm, by (repeat (with_reducible first | exact Ext.refl _ | assumption | refine Ext.drew ?_ | refine Ext.drewN ?_ _ | refine Ext.alloc ?_ _ | refine Ext.trans ?_ (by with_reducible assumption)))⟩
          · have d1 : ((f : Int) % 256 == 0) = false := by simp; omega
            clear hd
            by_cases he : s = 64
            · subst he
              obtain ⟨ad, c, q, c1, c2, c3, c4, c5⟩ := HR.out.at_ (k := 3) (u := 64) (f := f) (by omega) (by rfl) HF.out hf
              have k1 : (f : Int) / 64 < (q : Int) := by omega
              have k2 : 0 ≤ (f : Int) / 64 := by omega
              have k3 : ((f : Int) / 64).toNat = f / 64 := by omega
              have k4 : IntKind.i64.wrap ((f : Int) / 64) = (f : Int) / 64 := IntWalk.i64_in _ (by omega)
              unfold maxLen at c2
              go_wp2_with fail
              go_quiet (fail)
              go_wp2_with fail
              go_ret
              exact ⟨rfl, by (repeat (with_reducible first | exact Ext.refl _ | assumption | refine Ext.drew ?_ | refine Ext.drewN ?_ _ | refine Ext.alloc ?_ _ | refine Ext.trans ?_ (by with_reducible assumption)))⟩
            · have he1 : ((s : Int) == 64) = false := by simp; omega
              have hh := half_lt (n := s) (by omega) (by omega)
              have hp := half_pos s
              have HS := Lib.hid (seg_split (xs := xs) (f := f) (s := s) (by rw [HX.out]; omega) (by omega) (by omega))
              have v1 := (vld_true (vld_ofL (allV_seg hv f (half s)) (by rw [seg_len (by rw [HX.out]; omega)]; omega))).1
              have v2 := (vld_true (vld_ofL (allV_seg hv (f + half s) (s - half s)) (by rw [seg_len (by rw [HX.out]; omega)]; omega))).1
              have N1 : Hid ((f : Int) + ((half s : Nat) : Int) = ((f + half s : Nat) : Int)) := by show _ = _; omega
              have N2 : Hid ((s : Int) - ((half s : Nat) : Int) = ((s - half s : Nat) : Int)) := by show _ = _; omega
              clear he
              go_wp2_with fail
              refine (Half_any _ _ (by omega) (by omega)).mono ?_
              rintro e w' ⟨rfl, rfl⟩
              rw [Int.toNat_natCast]
              go_wp2_with fail
              refine (IH.out f (half s) _ (by omega) (by omega) (by omega) HR.out).mono ?_
              rintro e w1 ⟨rfl, hb1⟩
              go_wp2_with fail
              rw [N1.out, N2.out]
              refine (IH.out (f + half s) (s - half s) _ (by omega) (by omega) (by omega) (HR.out.ext hb1)).mono ?_
              rintro e w2 ⟨rfl, hb2⟩
              go_wp2_with fail
              refine (NodeOf_any _ _ _ v1 v2).mono ?_
              rintro e w3 ⟨rfl, hb3⟩
              go_wp2_with fail
              go_ret
              exact ⟨ret_int HS.out.symm, by (repeat (with_reducible first | exact Ext.refl _ | assumption | refine Ext.drew ?_ | refine Ext.drewN ?_ _ | refine Ext.alloc ?_ _ | refine Ext.trans ?_ (by with_reducible assumption)))⟩
        · have d2 : (s : Int) < 256 := by omega
          clear hb
          by_cases he : s = 64
          · subst he
            obtain ⟨ad, c, q, c1, c2, c3, c4, c5⟩ := HR.out.at_ (k := 3) (u := 64) (f := f) (by omega) (by rfl) HF.out hf
            have k1 : (f : Int) / 64 < (q : Int) := by omega
            have k2 : 0 ≤ (f : Int) / 64 := by omega
            have k3 : ((f : Int) / 64).toNat = f / 64 := by omega
            have k4 : IntKind.i64.wrap ((f : Int) / 64) = (f : Int) / 64 := IntWalk.i64_in _ (by omega)
            unfold maxLen at c2
            go_wp2_with fail
            go_quiet (fail)
            go_wp2_with fail
            go_ret
            exact ⟨rfl, by (repeat (with_reducible first | exact Ext.refl _ | assumption | refine Ext.drew ?_ | refine Ext.drewN ?_ _ | refine Ext.alloc ?_ _ | refine Ext.trans ?_ (by with_reducible assumption)))⟩
          · have he1 : ((s : Int) == 64) = false := by simp; omega
            have hh := half_lt (n := s) (by omega) (by omega)
            have hp := half_pos s
            have HS := Lib.hid (seg_split (xs := xs) (f := f) (s := s) (by rw [HX.out]; omega) (by omega) (by omega))
            have v1 := (vld_true (vld_ofL (allV_seg hv f (half s)) (by rw [seg_len (by rw [HX.out]; omega)]; omega))).1
            have v2 := (vld_true (vld_ofL (allV_seg hv (f + half s) (s - half s)) (by rw [seg_len (by rw [HX.out]; omega)]; omega))).1
            have N1 : Hid ((f : Int) + ((half s : Nat) : Int) = ((f + half s : Nat) : Int)) := by show _ = _; omega
            have N2 : Hid ((s : Int) - ((half s : Nat) : Int) = ((s - half s : Nat) : Int)) := by show _ = _; omega
            clear he
            go_wp2_with fail
            refine (Half_any _ _ (by omega) (by omega)).mono ?_
            rintro e w' ⟨rfl, rfl⟩
            rw [Int.toNat_natCast]
            go_wp2_with fail
            refine (IH.out f (half s) _ (by omega) (by omega) (by omega) HR.out).mono ?_
            rintro e w1 ⟨rfl, hb1⟩
            go_wp2_with fail
            rw [N1.out, N2.out]
            refine (IH.out (f + half s) (s - half s) _ (by omega) (by omega) (by omega) (HR.out.ext hb1)).mono ?_
            rintro e w2 ⟨rfl, hb2⟩
            go_wp2_with fail
            refine (NodeOf_any _ _ _ v1 v2).mono ?_
            rintro e w3 ⟨rfl, hb3⟩
            go_wp2_with fail
            go_ret
            exact ⟨ret_int HS.out.symm, by (repeat (with_reducible first | exact Ext.refl _ | assumption | refine Ext.drew ?_ | refine Ext.drewN ?_ _ | refine Ext.alloc ?_ _ | refine Ext.trans ?_ (by with_reducible assumption)))⟩
end Go.Proofs.Ytcpnhmjibihpkaa
