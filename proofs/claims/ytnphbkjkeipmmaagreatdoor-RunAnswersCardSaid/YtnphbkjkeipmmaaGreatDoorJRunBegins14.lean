/- Contracts for every input: the fault by its number. -/
import Derived.Test.YtnphbkjkeipmmaaGreatDoorJRunBegins7
import Derived.Test.YtnphbkjkeipmmaaGreatDoorJRunBegins13
import Derived.Test.YtnphbkjkeipmmaaGreatDoorJRunBegins11
import Derived.Test.YtnphbkjkeipmmaaGreatDoorJRunBegins1
namespace Go.Proofs.YtnphbkjkeipmmaaGreatDoor
open Go.RowKit Go.WideShapes
set_option linter.unusedVariables false

/-- what is wrong with leafs -/
def leafsK (xs : List Int) : Int := if 200 < xs.length then 4 else if allV xs = true then 0 else 1
theorem leafsK_ok {xs : List Int} (h : leafsOk xs) : leafsK xs = 0 := by unfold leafsK; rw [if_neg (by have := h.1; omega), if_pos h.2]
theorem leafsK_bad {xs : List Int} (h : ¬ leafsOk xs) : leafsK xs ≠ 0 := by
  unfold leafsK
  by_cases h2 : 200 < xs.length
  · rw [if_pos h2]; decide
  · rw [if_neg h2]
    cases hv : allV xs
    · rw [if_neg (by decide)]; decide
    · exact absurd ⟨by omega, hv⟩ h
theorem leafsK_zero {xs : List Int} (h : leafsK xs = 0) : leafsOk xs := by
  by_cases hk : leafsOk xs
  · exact hk
  · exact absurd h (leafsK_bad hk)
theorem leafsK_err {xs : List Int} (h : ¬ leafsOk xs) : leafsK xs = leafsErr xs := by
  unfold leafsK leafsErr
  by_cases h2 : 200 < xs.length
  · rw [if_pos h2, if_pos h2]
  · rw [if_neg h2, if_neg h2]
    cases hv : allV xs
    · rw [if_neg (by decide)]
    · exact absurd ⟨by omega, hv⟩ h
theorem TCheck_any (A : Option Addr) (n c : Nat) (xs : List Int) (w : World) (hr : Rd w 1 A n c (xs.map (Value.int .i64))) (hm : c ≤ maxLen) :
    Calls Tryz.prog 117 #[.slice A n c] w fun e w' => e = .returned (errR (leafsK xs)) ∧ w = w' := by
  have hx := hr.lenI
  by_cases hk : leafsOk xs
  · refine (TCheck_ok A n c xs w hr hm (by have := hk.1; omega) hk.2).mono fun e w' hh => ⟨hh.1.trans ?_, hh.2⟩
    rw [leafsK_ok hk]; rfl
  · refine (TCheck_bad A n c xs w hr hm hk).mono fun e w' hh => ⟨hh.1.trans ?_, hh.2⟩
    rw [← leafsK_err hk, errR_ne (leafsK_bad hk)]

/-- proof.Make: the fault, the proof -/
def pmK (xs : List Int) (i m : Int) : Int := if leafsK xs ≠ 0 then leafsK xs else if 0 ≤ i ∧ i < m ∧ m ≤ xs.length then 0 else 1
def pmV (xs : List Int) (i m : Int) : List Int := if pmK xs i m = 0 then wayL (xs.take m.toNat) i.toNat else []
theorem pmK_ok {xs : List Int} {i m : Int} (h : leafsOk xs) (h2 : 0 ≤ i ∧ i < m ∧ m ≤ xs.length) : pmK xs i m = 0 := by unfold pmK; rw [leafsK_ok h, if_neg (by decide), if_pos h2]
theorem pmK_range {xs : List Int} {i m : Int} (h : leafsOk xs) (h2 : ¬ (0 ≤ i ∧ i < m ∧ m ≤ xs.length)) : pmK xs i m = 1 := by unfold pmK; rw [leafsK_ok h, if_neg (by decide), if_neg h2]
theorem pmK_bad {xs : List Int} {i m : Int} (h : leafsK xs ≠ 0) : pmK xs i m = leafsK xs := by unfold pmK; rw [if_pos h]
theorem pmK_zero {xs : List Int} {i m : Int} (h : pmK xs i m = 0) : leafsOk xs ∧ 0 ≤ i ∧ i < m ∧ m ≤ xs.length := by
  by_cases hk : leafsOk xs
  · by_cases h2 : 0 ≤ i ∧ i < m ∧ m ≤ xs.length
    · exact ⟨hk, h2⟩
    · rw [pmK_range hk h2] at h; cases h
  · rw [pmK_bad (leafsK_bad hk)] at h; exact absurd h (leafsK_bad hk)
theorem PMake_any (A : Option Addr) (n c : Nat) (xs : List Int) (i m : Int) (w : World) (hr : Rd w 1 A n c (xs.map (Value.int .i64))) (hm : c ≤ maxLen) :
    Calls Tryz.prog 87 #[.slice A n c, .int .i64 i, .int .i64 m] w fun e w' => (∃ v, e = .returned (.tuple #[v, errR (pmK xs i m)]) ∧ OwnI w w' v (pmV xs i m)) ∧ Ext w w' := by
  have hx := hr.lenI
  by_cases hk : leafsOk xs
  · by_cases h : 0 ≤ i ∧ i < m ∧ m ≤ xs.length
    · refine (PMake_ok A n c xs i m w hr hm hk h.1 h.2.1 (by omega)).mono fun e w' hh => ?_
      obtain ⟨⟨v, h1, h2⟩, h3⟩ := hh
      refine ⟨⟨v, ?_, ?_⟩, h3⟩
      · rw [pmK_ok hk h]; exact h1
      · unfold pmV; rw [if_pos (pmK_ok hk h)]; exact h2
    · refine (PMake_range A n c xs i m w hr hm hk (by rw [← hx]; exact h)).mono fun e w' hh => ?_
      refine ⟨⟨.slice none 0 0, ?_, ?_⟩, hh.2⟩
      · rw [pmK_range hk h]; exact hh.1
      · unfold pmV; rw [if_neg (by rw [pmK_range hk h]; decide)]; exact own_nil _ _ _ _
  · refine (PMake_bad A n c xs i m w hr hm hk).mono fun e w' hh => ?_
    refine ⟨⟨.slice none 0 0, ?_, ?_⟩, hh.2⟩
    · rw [pmK_bad (leafsK_bad hk), errR_ne (leafsK_bad hk), leafsK_err hk]; exact hh.1
    · unfold pmV; rw [if_neg (by rw [pmK_bad (leafsK_bad hk)]; exact leafsK_bad hk)]; exact own_nil _ _ _ _

/-- proof.Steps -/
def stepsK (i m : Int) : Int := if 0 ≤ i ∧ i < m ∧ m ≤ 200 then 0 else 1
def stepsV (i m : Int) : Int := if 0 ≤ i ∧ i < m ∧ m ≤ 200 then (stepsN i.toNat m.toNat : Nat) else 0
end Go.Proofs.YtnphbkjkeipmmaaGreatDoor

namespace Go.Proofs.YtnphbkjkeipmmaaGreatDoor
open Go.RowKit Go.WideShapes
set_option linter.unusedVariables false
attribute [local go_sem ↓] Go.wp_at_zero Go.wp_at_succ

set_option maxRecDepth 100000 in
set_option maxHeartbeats 2000000 in
theorem GCheck_any (r1 o r n : Int) (A : Option Addr) (m c : Nat) (ps : List Int) (w : World) (hr : Rd w 1 A m c (ps.map (Value.int .i64))) (hm : c ≤ maxLen) :
    Calls Tryz.prog 130 #[.int .i64 r1, .int .i64 o, .int .i64 r, .int .i64 n, .slice A m c] w fun e w' => e = .returned (errR (gcheck r1 o r n ps)) ∧ Ext w w' := by
  have hx := hr.lenI
  have hml : m ≤ c := hr.2.1
  by_cases ha : 1 ≤ o ∧ o ≤ n ∧ n ≤ 200
  · obtain ⟨a0, a1, a2⟩ := id ha
    obtain ⟨o, rfl⟩ := Int.eq_ofNat_of_zero_le (show 0 ≤ o by omega)
    obtain ⟨n, rfl⟩ := Int.eq_ofNat_of_zero_le (show 0 ≤ n by omega)
    by_cases hb : vld r1 = true ∧ vld r = true ∧ allV ps = true
    · obtain ⟨b0, b1, b2⟩ := id hb
      have hG : gcheck r1 o r n ps = if ps.length ≠ gsteps o n true then 3 else if groots r1 o n ps true ≠ (r1, r) then 8 else 0 := by
        unfold gcheck; rw [if_neg (not_not_intro ha), if_neg (not_not_intro hb), Int.toNat_natCast, Int.toNat_natCast]
      by_cases hc : m = gsteps o n true
      · rw [if_neg (by rw [hx]; exact not_not_intro hc)] at hG
        have hbc : ((m : Int) != ((gsteps o n true : Nat) : Int)) = false := by rw [← hc]; simp
        have HC := Lib.hid hc
        have HR := Lib.hid fun (W : World) (e : Ext w W) => groots_any n r1 o n A m c ps true W (Nat.le_refl _) (by omega) (by omega) (by omega) hc (hr.ext e) hm b0 b2
        generalize groots r1 o n ps true = g at *
        obtain ⟨ga, gb⟩ := g
        have H3 : (ga = r1 ∧ gb = r ∧ Hid (errR (gcheck r1 o r n ps) = .nilIface)) ∨ (ga ≠ r1 ∧ Hid (errR (gcheck r1 o r n ps) = errV 8)) ∨ (ga = r1 ∧ gb ≠ r ∧ Hid (errR (gcheck r1 o r n ps) = errV 8)) := by
          by_cases e1 : ga = r1
          · by_cases e2 : gb = r
            · exact .inl ⟨e1, e2, by show _ = _; rw [hG, if_neg (by rw [e1, e2]; simp)]; rfl⟩
            · exact .inr (.inr ⟨e1, e2, by show _ = _; rw [hG, if_pos (by simp [e2])]; rfl⟩)
          · exact .inr (.inl ⟨e1, by show _ = _; rw [hG, if_pos (by simp [e1])]; rfl⟩)
        clear hx ha hb hG hc
        rcases H3 with ⟨rfl, rfl, HE⟩ | ⟨h1, HE⟩ | ⟨rfl, h2, HE⟩
        · go_enter Tryz.func130, Tryz.ntmps130
          go_wp2_with (first | (go_at_call 139; refine (Valid_any _ _).mono ?_; rintro e w' ⟨rfl, rfl⟩) | (go_at_call 151; refine (Sums_any A m c ps _ hr hm).mono ?_; rintro e w' ⟨rfl, rfl⟩) | (go_at_call 152; refine (gsteps_any n o n true _ (Nat.le_refl _) (by omega) (by omega) (by omega)).mono ?_; rintro e w' ⟨rfl, rfl⟩))
          refine (HR.out _ (Ext.refl _)).mono ?_
          rintro _ w1 ⟨rfl, hb1⟩
          go_wp2_with fail
          go_ret
          exact ⟨by rw [HE.out]; rfl, by (repeat (with_reducible first | exact Ext.refl _ | assumption | refine Ext.drew ?_ | refine Ext.drewN ?_ _ | refine Ext.alloc ?_ _ | refine Ext.trans ?_ (by with_reducible assumption)))⟩
        · have h1' : (ga != r1) = true := by simpa using h1
          clear h1
          go_enter Tryz.func130, Tryz.ntmps130
          go_wp2_with (first | (go_at_call 139; refine (Valid_any _ _).mono ?_; rintro e w' ⟨rfl, rfl⟩) | (go_at_call 151; refine (Sums_any A m c ps _ hr hm).mono ?_; rintro e w' ⟨rfl, rfl⟩) | (go_at_call 152; refine (gsteps_any n o n true _ (Nat.le_refl _) (by omega) (by omega) (by omega)).mono ?_; rintro e w' ⟨rfl, rfl⟩))
          refine (HR.out _ (Ext.refl _)).mono ?_
          rintro _ w1 ⟨rfl, hb1⟩
          go_wp2_with fail
          go_ret
          exact ⟨by rw [HE.out]; rfl, by (repeat (with_reducible first | exact Ext.refl _ | assumption | refine Ext.drew ?_ | refine Ext.drewN ?_ _ | refine Ext.alloc ?_ _ | refine Ext.trans ?_ (by with_reducible assumption)))⟩
        · have h2' : (gb != r) = true := by simpa using h2
          clear h2
          go_enter Tryz.func130, Tryz.ntmps130
          go_wp2_with (first | (go_at_call 139; refine (Valid_any _ _).mono ?_; rintro e w' ⟨rfl, rfl⟩) | (go_at_call 151; refine (Sums_any A m c ps _ hr hm).mono ?_; rintro e w' ⟨rfl, rfl⟩) | (go_at_call 152; refine (gsteps_any n o n true _ (Nat.le_refl _) (by omega) (by omega) (by omega)).mono ?_; rintro e w' ⟨rfl, rfl⟩))
          refine (HR.out _ (Ext.refl _)).mono ?_
          rintro _ w1 ⟨rfl, hb1⟩
          go_wp2_with fail
          go_ret
          exact ⟨by rw [HE.out]; rfl, by (repeat (with_reducible first | exact Ext.refl _ | assumption | refine Ext.drew ?_ | refine Ext.drewN ?_ _ | refine Ext.alloc ?_ _ | refine Ext.trans ?_ (by with_reducible assumption)))⟩
      · rw [if_pos (by rw [hx]; exact hc)] at hG
        have HE : Hid (errR (gcheck r1 o r n ps) = errV 3) := by show _ = _; rw [hG]; rfl
        have hbc : ((m : Int) != ((gsteps o n true : Nat) : Int)) = true := by simp; omega
        clear hx ha hb hG hc
        go_enter Tryz.func130, Tryz.ntmps130
        go_wp2_with (first | (go_at_call 139; refine (Valid_any _ _).mono ?_; rintro e w' ⟨rfl, rfl⟩) | (go_at_call 151; refine (Sums_any A m c ps _ hr hm).mono ?_; rintro e w' ⟨rfl, rfl⟩) | (go_at_call 152; refine (gsteps_any n o n true _ (Nat.le_refl _) (by omega) (by omega) (by omega)).mono ?_; rintro e w' ⟨rfl, rfl⟩))
        go_ret
        exact ⟨by rw [HE.out]; rfl, by (repeat (with_reducible first | exact Ext.refl _ | assumption | refine Ext.drew ?_ | refine Ext.drewN ?_ _ | refine Ext.alloc ?_ _ | refine Ext.trans ?_ (by with_reducible assumption)))⟩
    · have HE : Hid (errR (gcheck r1 o r n ps) = errV 1) := by show _ = _; unfold gcheck; rw [if_neg (not_not_intro ha), if_pos hb]; rfl
      have hb' : vld r1 = false ∨ (vld r1 = true ∧ vld r = false) ∨ (vld r1 = true ∧ vld r = true ∧ allV ps = false) := by
        cases x1 : vld r1
        · exact .inl rfl
        cases x2 : vld r
        · exact .inr (.inl ⟨rfl, rfl⟩)
        cases x3 : allV ps
        · exact .inr (.inr ⟨rfl, rfl, rfl⟩)
        exact absurd ⟨x1, x2, x3⟩ hb
      clear hb ha hx
      rcases hb' with b0 | ⟨b0, b1⟩ | ⟨b0, b1, b2⟩
      all_goals
        go_enter Tryz.func130, Tryz.ntmps130
        go_wp2_with (first | (go_at_call 139; refine (Valid_any _ _).mono ?_; rintro e w' ⟨rfl, rfl⟩) | (go_at_call 151; refine (Sums_any A m c ps _ hr hm).mono ?_; rintro e w' ⟨rfl, rfl⟩))
        go_ret
        exact ⟨by rw [HE.out]; rfl, by (repeat (with_reducible first | exact Ext.refl _ | assumption | refine Ext.drew ?_ | refine Ext.drewN ?_ _ | refine Ext.alloc ?_ _ | refine Ext.trans ?_ (by with_reducible assumption)))⟩
  · have HE : Hid (errR (gcheck r1 o r n ps) = errV 1) := by show _ = _; unfold gcheck; rw [if_pos ha]; rfl
    have ha' : o < 1 ∨ (1 ≤ o ∧ n < o) ∨ (1 ≤ o ∧ o ≤ n ∧ 200 < n) := by omega
    clear ha hx
    rcases ha' with h | ⟨h, h1⟩ | ⟨h, h1, h2⟩
    all_goals
      go_enter Tryz.func130, Tryz.ntmps130
      go_wp2_with fail
      go_ret
      exact ⟨by rw [HE.out]; rfl, by (repeat (with_reducible first | exact Ext.refl _ | assumption | refine Ext.drew ?_ | refine Ext.drewN ?_ _ | refine Ext.alloc ?_ _ | refine Ext.trans ?_ (by with_reducible assumption)))⟩
end Go.Proofs.YtnphbkjkeipmmaaGreatDoor

namespace Go.Proofs.YtnphbkjkeipmmaaGreatDoor
open Go.RowKit Go.WideShapes
set_option linter.unusedVariables false
attribute [local go_sem ↓] Go.wp_at_zero Go.wp_at_succ

set_option maxRecDepth 100000 in
set_option maxHeartbeats 4000000 in
theorem gof_any (N : Nat) : ∀ (A : Option Addr) (n c : Nat) (xs : List Int) (o : Nat) (b : Bool) (w : World), n ≤ N → Rd w 1 A n c (xs.map (Value.int .i64)) → c ≤ maxLen → 1 ≤ o → o ≤ n → n ≤ 4096 → allV xs = true →
    Calls Tryz.prog 119 #[.slice A n c, .int .i64 o, .bool b] w fun e w' => (∃ v, e = .returned v ∧ OwnI w w' v (growL xs o b)) ∧ Ext w w' := by
  induction N with
  | zero => intro A n c xs o b w hN hr hm h1 h2; omega
  | succ N ih =>
    intro A n c xs o b w hN hr hm h1 hon hn hv
    have hx := hr.lenI
    have hl : n ≤ c := hr.2.1
    have IH := Lib.hid ih
    clear ih
    by_cases ho : o = n
    · subst ho
      cases b
      · have HG := Lib.hid (growL_part hx.symm)
        clear hx
        go_enter Tryz.func119, Tryz.ntmps119
        go_wp2_with fail
        refine (Of_any o A o c xs _ (Nat.le_refl _) hr hm hn hv).mono ?_
        rintro _ w1 ⟨rfl, hb1⟩
        go_wp2_with fail
        go_ret
        exact ⟨⟨_, rfl, by rw [HG.out]; exact own_lower (World.ownsRow_lit w1 #[.int .i64 _] 1 (Nat.le_refl _) (by simp [maxLen]) rfl) hb1.size⟩, by (repeat (with_reducible first | exact Ext.refl _ | assumption | refine Ext.drew ?_ | refine Ext.drewN ?_ _ | refine Ext.alloc ?_ _ | refine Ext.trans ?_ (by with_reducible assumption)))⟩
      · have HG := Lib.hid (growL_whole hx.symm)
        clear hx
        go_enter Tryz.func119, Tryz.ntmps119
        go_wp2_with fail
        go_ret
        exact ⟨⟨_, rfl, by rw [HG.out]; exact own_nil _ _ _ _⟩, by (repeat (with_reducible first | exact Ext.refl _ | assumption | refine Ext.drew ?_ | refine Ext.drewN ?_ _ | refine Ext.alloc ?_ _ | refine Ext.trans ?_ (by with_reducible assumption)))⟩
    · have h2 : 2 ≤ n := by omega
      have hk := half_lt h2 hn
      have hk0 := half_pos n
      have ho' : ((o : Int) == (n : Int)) = false := by simp; omega
      unfold maxLen at hm
      have q0 : (0 : Int) ≤ (half n : Int) := by omega
      have q1 : (half n : Int) ≤ (n : Int) := by omega
      have q2 : (half n : Int) ≤ (c : Int) := by omega
      have q3 : (n : Int) ≤ (c : Int) := by omega
      have R1 := hr.takeI (k := half n) (by omega)
      have R2 := hr.dropI' (k := half n) (by omega)
      have R2i := hr.dropI (k := half n) (by omega)
      have HX := Lib.hid hx
      obtain ⟨i0, hi0, hz0, hz1, hz2⟩ := info_parts info_int
      by_cases hok : o ≤ half n
      · have hlen := growL_len n (xs.take (half n)) o b (by rw [List.length_take]; omega) h1 (by rw [List.length_take]; omega) (by rw [List.length_take]; omega)
        rw [List.length_take, Nat.min_eq_left (by omega)] at hlen
        have hsl := gsteps_le (half n) o (half n) b (Nat.le_refl _) hk0 (by omega)
        have HG := Lib.hid (growL_left (xs := xs) (o := o) b (by omega) (by omega) (by omega) (by rw [hx]; exact hok))
        have HL : (growL (xs.take (half n)) o b).length ≤ 4096 := by omega
        have i1 : (o : Int) ≤ ((half n : Nat) : Int) := by omega
        clear hx hlen hsl ho
        go_enter Tryz.func119, Tryz.ntmps119
        go_wp2_with fail
        refine (Half_any _ _ (by omega) (by omega)).mono ?_
        rintro e w' ⟨rfl, rfl⟩
        rw [Int.toNat_natCast]
        go_wp2_with fail
        go_region_held3 (fun _ => True) (exact trivial) (first
          | (go_at_call 119; (with_reducible refine (IH.out A (half n) c (xs.take (half n)) o b _ (by omega) (by exact R1.ext (by (repeat (with_reducible first | exact Ext.refl _ | assumption | refine Ext.drew ?_ | refine Ext.drewN ?_ _ | refine Ext.alloc ?_ _ | refine Ext.trans ?_ (by with_reducible assumption))))) (by simp only [maxLen]; omega) h1 hok (by omega) (allV_take hv (half n))).mono ?_); rintro e w1 ⟨⟨v1, rfl, own1⟩, hb1⟩; have hb1' : Ext w w1 := (by (repeat (with_reducible first | exact Ext.refl _ | assumption | refine Ext.drew ?_ | refine Ext.drewN ?_ _ | refine Ext.alloc ?_ _ | refine Ext.trans ?_ (by with_reducible assumption)))); have own1' : OwnI w w1 v1 (growL (xs.take (half n)) o b) := own1)
          | (go_at_call 111; (with_reducible refine (Of_any N _ _ _ (xs.drop (half n)) _ (by omega) (by first | exact R2.ext (by (repeat (with_reducible first | exact Ext.refl _ | assumption | refine Ext.drew ?_ | refine Ext.drewN ?_ _ | refine Ext.alloc ?_ _ | refine Ext.trans ?_ (by with_reducible assumption)))) | exact R2i.ext (by (repeat (with_reducible first | exact Ext.refl _ | assumption | refine Ext.drew ?_ | refine Ext.drewN ?_ _ | refine Ext.alloc ?_ _ | refine Ext.trans ?_ (by with_reducible assumption))))) (by simp only [maxLen]; omega) (by omega) (allV_drop hv (half n))).mono ?_); rintro e w2 ⟨rfl, hb2⟩)
          | (refine step_app (by rfl) _ _ _ (by rfl) w.heap.size 3 i0 _ 1 8 Tryz.underlying85 hi0 hz0 hz1 hz2 rfl (by omega) v1 _ _ (by rfl) ((own1'.ext hb2).alloc _) w2.heap.size 1 [.int .i64 (ofL (xs.drop (half n)))] rfl (by rfl) (news_new w2 _ _ _ rfl) (oneI _) (by omega) (by omega) (by have := hb1'.size; have := hb2.size; simp; omega) ?_; intro g cap w3 own3 hext3)
          | fail)
        go_wp2_with fail
        go_ret
        refine ⟨⟨_, rfl, OwnI.mk own3 (by rw [HG.out, HX.out]; simp) (by rw [HG.out, HX.out]; simp)⟩, hext3 _ (Nat.le_refl _) (by (repeat (with_reducible first | exact Ext.refl _ | assumption | refine Ext.drew ?_ | refine Ext.drewN ?_ _ | refine Ext.alloc ?_ _ | refine Ext.trans ?_ (by with_reducible assumption))))⟩
      · have hlen := growL_len n (xs.drop (half n)) (o - half n) false (by rw [List.length_drop]; omega) (by omega) (by rw [List.length_drop]; omega) (by rw [List.length_drop]; omega)
        rw [List.length_drop, hx] at hlen
        have hsl := gsteps_le (n - half n) (o - half n) (n - half n) false (Nat.le_refl _) (by omega) (by omega)
        have HG := Lib.hid (growL_right (xs := xs) (o := o) b (by omega) (by omega) (by omega) (by rw [hx]; exact hok))
        have HL : (growL (xs.drop (half n)) (o - half n) false).length ≤ 4096 := by omega
        have i1 : ((half n : Nat) : Int) < (o : Int) := by omega
        have N1 : (o : Int) - ((half n : Nat) : Int) = ((o - half n : Nat) : Int) := by omega
        have e1 : IntKind.i64.wrap ((o : Int) - (half n : Int)) = ((o - half n : Nat) : Int) := (IntWalk.i64_in _ (by omega)).trans N1
        clear hx hlen hsl ho hok N1
        go_enter Tryz.func119, Tryz.ntmps119
        go_wp2_with fail
        refine (Half_any _ _ (by omega) (by omega)).mono ?_
        rintro e w' ⟨rfl, rfl⟩
        rw [Int.toNat_natCast]
        go_wp2_with fail
        go_region_held3 (fun _ => True) (exact trivial) (first
          | (go_at_call 119; (with_reducible refine (IH.out _ (n - half n) _ (xs.drop (half n)) (o - half n) false _ (by omega) (by first | exact R2.ext (by (repeat (with_reducible first | exact Ext.refl _ | assumption | refine Ext.drew ?_ | refine Ext.drewN ?_ _ | refine Ext.alloc ?_ _ | refine Ext.trans ?_ (by with_reducible assumption)))) | exact R2i.ext (by (repeat (with_reducible first | exact Ext.refl _ | assumption | refine Ext.drew ?_ | refine Ext.drewN ?_ _ | refine Ext.alloc ?_ _ | refine Ext.trans ?_ (by with_reducible assumption))))) (by simp only [maxLen]; omega) (by omega) (by omega) (by omega) (allV_drop hv (half n))).mono ?_); rintro e w1 ⟨⟨v1, rfl, own1⟩, hb1⟩; have hb1' : Ext w w1 := (by (repeat (with_reducible first | exact Ext.refl _ | assumption | refine Ext.drew ?_ | refine Ext.drewN ?_ _ | refine Ext.alloc ?_ _ | refine Ext.trans ?_ (by with_reducible assumption)))); have own1' : OwnI w w1 v1 (growL (xs.drop (half n)) (o - half n) false) := own1)
          | (go_at_call 111; (with_reducible refine (Of_any N _ _ _ (xs.take (half n)) _ (by omega) (by exact R1.ext (by (repeat (with_reducible first | exact Ext.refl _ | assumption | refine Ext.drew ?_ | refine Ext.drewN ?_ _ | refine Ext.alloc ?_ _ | refine Ext.trans ?_ (by with_reducible assumption))))) (by simp only [maxLen]; omega) (by omega) (allV_take hv (half n))).mono ?_); rintro e w2 ⟨rfl, hb2⟩)
          | (refine step_app (by rfl) _ _ _ (by rfl) w.heap.size 3 i0 _ 1 8 Tryz.underlying85 hi0 hz0 hz1 hz2 rfl (by omega) v1 _ _ (by rfl) ((own1'.ext hb2).alloc _) w2.heap.size 1 [.int .i64 (ofL (xs.take (half n)))] rfl (by rfl) (news_new w2 _ _ _ rfl) (oneI _) (by omega) (by omega) (by have := hb1'.size; have := hb2.size; simp; omega) ?_; intro g cap w3 own3 hext3)
          | fail)
        go_wp2_with fail
        go_ret
        refine ⟨⟨_, rfl, OwnI.mk own3 (by rw [HG.out, HX.out]; simp) (by rw [HG.out, HX.out]; simp)⟩, hext3 _ (Nat.le_refl _) (by (repeat (with_reducible first | exact Ext.refl _ | assumption | refine Ext.drew ?_ | refine Ext.drewN ?_ _ | refine Ext.alloc ?_ _ | refine Ext.trans ?_ (by with_reducible assumption))))⟩

/-! ### grow.Make: the fault, the proof -/
def gmK (xs : List Int) (o n : Int) : Int := if leafsK xs ≠ 0 then leafsK xs else if 1 ≤ o ∧ o ≤ n ∧ n ≤ xs.length then 0 else 1
def gmV (xs : List Int) (o n : Int) : List Int := if gmK xs o n = 0 then growL (xs.take n.toNat) o.toNat true else []
theorem gmK_ok {xs : List Int} {o n : Int} (h : leafsOk xs) (h2 : 1 ≤ o ∧ o ≤ n ∧ n ≤ xs.length) : gmK xs o n = 0 := by unfold gmK; rw [leafsK_ok h, if_neg (by decide), if_pos h2]
theorem gmK_range {xs : List Int} {o n : Int} (h : leafsOk xs) (h2 : ¬ (1 ≤ o ∧ o ≤ n ∧ n ≤ xs.length)) : gmK xs o n = 1 := by unfold gmK; rw [leafsK_ok h, if_neg (by decide), if_neg h2]
theorem gmK_bad {xs : List Int} {o n : Int} (h : leafsK xs ≠ 0) : gmK xs o n = leafsK xs := by unfold gmK; rw [if_pos h]

set_option maxRecDepth 100000 in
theorem GMake_any (A : Option Addr) (n c : Nat) (xs : List Int) (o m : Int) (w : World) (hr : Rd w 1 A n c (xs.map (Value.int .i64))) (hm : c ≤ maxLen) :
    Calls Tryz.prog 88 #[.slice A n c, .int .i64 o, .int .i64 m] w fun e w' => (∃ v, e = .returned (.tuple #[v, errR (gmK xs o m)]) ∧ OwnI w w' v (gmV xs o m)) ∧ Ext w w' := by
  have hx := hr.lenI
  have hl := hr.2.1
  by_cases hk : leafsOk xs
  · have hn : n ≤ 200 := by have := hk.1; omega
    by_cases h : 1 ≤ o ∧ o ≤ m ∧ m ≤ xs.length
    · have hK := gmK_ok hk h
      obtain ⟨a0, a1, a2⟩ := h
      obtain ⟨o, rfl⟩ := Int.eq_ofNat_of_zero_le (show 0 ≤ o by omega)
      obtain ⟨m, rfl⟩ := Int.eq_ofNat_of_zero_le (show 0 ≤ m by omega)
      have HV : Hid (gmV xs o m = growL (xs.take m) o true) := by show _ = _; unfold gmV; rw [if_pos hK, Int.toNat_natCast, Int.toNat_natCast]
      have HE : Hid (errR (gmK xs o m) = .nilIface) := by show _ = _; rw [hK]; rfl
      have q3 : (n : Int) ≤ (c : Int) := by omega
      have q4 : (m : Int) ≤ (c : Int) := by omega
      have q6 : (m : Int) ≤ (n : Int) := by omega
      have q5 : (0 : Int) ≤ (m : Int) := by omega
      have R := hr.takeI (k := m) (by omega)
      have hva := allV_take hk.2 m
      have HX := Lib.hid hx
      have HK := Lib.hid hk
      rw [HV.out, HE.out]
      clear hx hK hk a2
      go_enter Tryz.func88, Tryz.ntmps88
      go_wp2_with fail
      refine (TCheck_ok A n c xs _ hr hm hn HK.out.2).mono ?_
      rintro e w' ⟨rfl, rfl⟩
      go_wp2_with fail
      refine (gof_any m A m c (xs.take m) o true _ (Nat.le_refl _) R hm (by omega) (by omega) (by omega) hva).mono ?_
      rintro e w1 ⟨⟨v, rfl, hv⟩, hb1⟩
      go_wp2_with fail
      go_ret2
      exact ⟨⟨_, rfl, hv⟩, by (repeat (with_reducible first | exact Ext.refl _ | assumption | refine Ext.drew ?_ | refine Ext.drewN ?_ _ | refine Ext.alloc ?_ _ | refine Ext.trans ?_ (by with_reducible assumption)))⟩
    · have hK := gmK_range hk h
      have HV : Hid (gmV xs o m = []) := by show _ = _; unfold gmV; rw [if_neg (by rw [hK]; decide)]
      have HE : Hid (errR (gmK xs o m) = errV 1) := by show _ = _; rw [hK]; rfl
      have h' : o < 1 ∨ (1 ≤ o ∧ m < o) ∨ (1 ≤ o ∧ o ≤ m ∧ (n : Int) < m) := by omega
      have HK := Lib.hid hk
      rw [HV.out, HE.out]
      clear hx hK hk h
      rcases h' with h1 | ⟨h1, h2⟩ | ⟨h1, h2, h3⟩
      all_goals
        go_enter Tryz.func88, Tryz.ntmps88
        go_wp2_with fail
        refine (TCheck_ok A n c xs _ hr hm hn HK.out.2).mono ?_
        rintro e w' ⟨rfl, rfl⟩
        go_wp2_with fail
        go_ret2
        exact ⟨⟨_, rfl, own_nil _ _ _ _⟩, by (repeat (with_reducible first | exact Ext.refl _ | assumption | refine Ext.drew ?_ | refine Ext.drewN ?_ _ | refine Ext.alloc ?_ _ | refine Ext.trans ?_ (by with_reducible assumption)))⟩
  · have hK0 := leafsK_bad hk
    have hK := gmK_bad (o := o) (n := m) hK0
    have HV : Hid (gmV xs o m = []) := by show _ = _; unfold gmV; rw [if_neg (by rw [hK]; exact hK0)]
    have HE : Hid (errR (gmK xs o m) = errV (leafsErr xs)) := by show _ = _; rw [hK, ← leafsK_err hk]; exact errR_ne hK0
    rw [HV.out, HE.out]
    have HK := Lib.hid hk
    clear hx hK hK0 hk
    go_enter Tryz.func88, Tryz.ntmps88
    go_wp2_with fail
    refine (TCheck_bad A n c xs _ hr hm HK.out).mono ?_
    rintro e w' ⟨rfl, rfl⟩
    simp only [errV]
    go_wp2_with fail
    go_ret2
    exact ⟨⟨_, rfl, own_nil _ _ _ _⟩, by (repeat (with_reducible first | exact Ext.refl _ | assumption | refine Ext.drew ?_ | refine Ext.drewN ?_ _ | refine Ext.alloc ?_ _ | refine Ext.trans ?_ (by with_reducible assumption)))⟩
end Go.Proofs.YtnphbkjkeipmmaaGreatDoor

/- fork: both, split, Proves. -/
namespace Go.Proofs.YtnphbkjkeipmmaaGreatDoor
open Go.RowKit Go.WideShapes
set_option linter.unusedVariables false
attribute [local go_sem ↓] Go.wp_at_zero Go.wp_at_succ

def bothK (a b : Hd) (key : Int) : Int := if verK a key ≠ 0 then verK a key else verK b key
def splB (a b : Hd) : Bool := decide (a.size = b.size) && !decide (a.root = b.root)

def prvB (a b : Hd) (key : Int) : Bool := isOk (bothK a b key) && splB a b
end Go.Proofs.YtnphbkjkeipmmaaGreatDoor

/- fork.Check. -/
namespace Go.Proofs.YtnphbkjkeipmmaaGreatDoor
open Go.RowKit Go.WideShapes
set_option linter.unusedVariables false
attribute [local go_sem ↓] Go.wp_at_zero Go.wp_at_succ

def chkX (a b : Hd) (bk gk : Int) (n : Nat) : Bool × Int :=
  if bk ≠ 0 then (false, bk)
  else if b.size < a.size then (false, 3)
  else if a.size = b.size then (if 0 < n then (false, 3) else (decide (a.root = b.root), 0))
  else if a.size = 0 ∧ 0 < b.size then (true, 0)
  else if gk = 8 then (false, 0) else (isOk gk, gk)
def chk (a b : Hd) (key : Int) (ps : List Int) : Bool × Int := chkX a b (bothK a b key) (gcheck a.root a.size b.root b.size ps) ps.length

set_option maxRecDepth 100000 in
theorem as_nil (v : Value) (w : World) :
    Calls Tryz.prog 32 #[.nilIface, v] w fun ev w' => ev = .returned (.bool false) ∧ Ext w w' := by
  go_enter Tryz.func32, Tryz.ntmps32
  go_wp2_with fail
  go_ret
  exact ⟨rfl, by (repeat (with_reducible first | exact Ext.refl _ | assumption | refine Ext.drew ?_ | refine Ext.drewN ?_ _ | refine Ext.alloc ?_ _ | refine Ext.trans ?_ (by with_reducible assumption)))⟩

end Go.Proofs.YtnphbkjkeipmmaaGreatDoor
