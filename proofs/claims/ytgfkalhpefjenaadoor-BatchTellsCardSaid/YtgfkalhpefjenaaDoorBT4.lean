/- batch, all ways. -/
import Derived.Test.YtgfkalhpefjenaaDoorBT3
namespace Go.Proofs.YtgfkalhpefjenaaDoor
open Go.RowKit Go.WideShapes
set_option linter.unusedVariables false
attribute [local go_sem ↓] Go.wp_at_zero Go.wp_at_succ

def makeV (xs l : List Int) : List Int := if makeK xs l = 0 then provL xs 0 xs.length l else []
theorem BMake_any (A A' : Option Addr) (n c n' c' : Nat) (xs l : List Int) (w : World) (hr : Rd w 1 A n c (xs.map (Value.int .i64))) (hm : c ≤ maxLen) (hr' : Rd w 1 A' n' c' (l.map (Value.int .i64))) (hm' : c' ≤ maxLen) :
    Calls Tryd.prog 83 #[.slice A n c, .slice A' n' c'] w fun e w' => (∃ v, e = .returned (.tuple #[v, errR (makeK xs l)]) ∧ OwnI w w' v (makeV xs l)) ∧ Ext w w' := by
  have hx := hr.lenI
  by_cases h : makeK xs l = 0
  · obtain ⟨h1, h2, h3⟩ := makeK_zero h
    subst hx
    refine (BMake_ok A A' _ c n' c' xs l w hr hm hr' hm' h1 h2 h3).mono fun e w' hh => ⟨?_, hh.2⟩
    obtain ⟨⟨v, he, ho⟩, _⟩ := hh
    refine ⟨v, by rw [h]; exact he, ?_⟩
    unfold makeV
    rw [if_pos h]
    exact ho
  · refine (BMake_bad A A' n c n' c' xs l w hr hm hr' hm' h).mono fun e w' hh => ⟨?_, hh.2⟩
    refine ⟨.slice none 0 0, by rw [errR_ne h]; exact hh.1, ?_⟩
    unfold makeV
    rw [if_neg h]
    exact own_nil _ _ _ _
def longV (size : Int) (l : List Int) : Nat := if longK size l = 0 then (provL [] 0 size.toNat l).length else 0
theorem BLong_any (size : Int) (A : Option Addr) (n c : Nat) (l : List Int) (w : World) (hr : Rd w 1 A n c (l.map (Value.int .i64))) (hm : c ≤ maxLen) :
    Calls Tryd.prog 85 #[.int .i64 size, .slice A n c] w fun e w' => e = .returned (.tuple #[.int .i64 (longV size l : Nat), errR (longK size l)]) ∧ Ext w w' := by
  by_cases h : longK size l = 0
  · obtain ⟨h1, h2, h3⟩ := longK_zero h
    obtain ⟨s, rfl⟩ := Int.eq_ofNat_of_zero_le (show 0 ≤ size by omega)
    refine (Long_ok [] s A n c l w hr hm (by omega) (by omega) h3).mono fun e w' hh => ⟨hh.1.trans ?_, hh.2⟩
    unfold longV
    rw [h, if_pos rfl, Int.toNat_natCast]; rfl
  · refine (Long_bad size A n c l w hr hm h).mono fun e w' hh => ⟨hh.1.trans ?_, hh.2⟩
    unfold longV
    rw [if_neg h, errR_ne h]; rfl

/-- what Check tells -/
def upV (s : Nat) (l q p : List Int) : Int := ((walkP toldC leafC 0 s l (p, q)).map fun x => x.1).getD 0
def bchK (root size : Int) (l q p : List Int) : Int :=
  if longK size l ≠ 0 then longK size l else if ¬ (vld root = true ∧ allV q = true ∧ allV p = true) then 1
  else if ¬ (q.length = l.length ∧ p.length = longV size l) then 3 else rootK (upV size.toNat l q p) root
theorem bchK_long {root size : Int} {l q p : List Int} (h : longK size l ≠ 0) : bchK root size l q p = longK size l := if_pos h
theorem bchK_vld {root size : Int} {l q p : List Int} (h : longK size l = 0) (h2 : ¬ (vld root = true ∧ allV q = true ∧ allV p = true)) : bchK root size l q p = 1 := by unfold bchK; rw [if_neg (not_not_intro h), if_pos h2]
theorem bchK_len {root size : Int} {l q p : List Int} (h : longK size l = 0) (h2 : vld root = true ∧ allV q = true ∧ allV p = true) (h3 : ¬ (q.length = l.length ∧ p.length = longV size l)) : bchK root size l q p = 3 := by
  unfold bchK; rw [if_neg (not_not_intro h), if_neg (not_not_intro h2), if_pos h3]
theorem bchK_ok {root size : Int} {l q p : List Int} (h : longK size l = 0) (h2 : vld root = true ∧ allV q = true ∧ allV p = true) (h3 : q.length = l.length ∧ p.length = longV size l) : bchK root size l q p = rootK (upV size.toNat l q p) root := by
  unfold bchK; rw [if_neg (not_not_intro h), if_neg (not_not_intro h2), if_neg (not_not_intro h3)]

set_option maxRecDepth 100000 in
set_option maxHeartbeats 2000000 in
theorem BCheck_any (root size : Int) (A A2 A3 : Option Addr) (n c n2 c2 n3 c3 : Nat) (l q p : List Int) (w : World) (hr : Rd w 1 A n c (l.map (Value.int .i64))) (hm : c ≤ maxLen) (hr2 : Rd w 1 A2 n2 c2 (q.map (Value.int .i64))) (hm2 : c2 ≤ maxLen) (hr3 : Rd w 1 A3 n3 c3 (p.map (Value.int .i64))) (hm3 : c3 ≤ maxLen) :
    Calls Tryd.prog 87 #[.int .i64 root, .int .i64 size, .slice A n c, .slice A2 n2 c2, .slice A3 n3 c3] w fun e w' => e = .returned (errR (bchK root size l q p)) ∧ Ext w w' := by
  have hx := hr.lenI
  have hx2 := hr2.lenI
  have hx3 := hr3.lenI
  have hl3 := hr3.2.1
  have hl2 := hr2.2.1
  have hl := hr.2.1
  have B3 : Bk ((w.alloc (.cells #[.slice A2 n2 c2] 36)).alloc (.cells #[.slice A3 n3 c3] 36)) w.heap.size 36 #[.slice A2 n2 c2] := (Bk.at_ _ _ _ _ rfl).alloc _
  have B2 : Bk ((w.alloc (.cells #[.slice A2 n2 c2] 36)).alloc (.cells #[.slice A3 n3 c3] 36)) (w.heap.size + 1) 36 #[.slice A3 n3 c3] := Bk.at_ _ _ _ _ (by simp)
  have E0 : Ext w ((w.alloc (.cells #[.slice A2 n2 c2] 36)).alloc (.cells #[.slice A3 n3 c3] 36)) := by (repeat (with_reducible first | exact Ext.refl _ | assumption | refine Ext.drew ?_ | refine Ext.drewN ?_ _ | refine Ext.alloc ?_ _ | refine Ext.trans ?_ (by with_reducible assumption)))
  by_cases h0 : longK size l = 0
  · by_cases h1 : vld root = true ∧ allV q = true ∧ allV p = true
    · by_cases h2 : q.length = l.length ∧ p.length = longV size l
      · obtain ⟨a1, a2, a3⟩ := longK_zero h0
        rw [bchK_ok h0 h1 h2]
        obtain ⟨s, rfl⟩ := Int.eq_ofNat_of_zero_le (show 0 ≤ size by omega)
        rw [Int.toNat_natCast]
        have hlv : longV (s : Int) l = (provL [] 0 s l).length := by unfold longV; rw [if_pos h0, Int.toNat_natCast]
        obtain ⟨v, hv⟩ := walkC_some [] s 0 s l p q (Nat.le_refl _) (by omega) (by omega) (placesK_part a3) h1.2.2 h1.2.1 (by omega) (by omega)
        have hu : upV s l q p = v := by unfold upV; rw [hv]; rfl
        rw [hu]
        exact BCheck_walk root s A A2 A3 n c n2 c2 n3 c3 l q p v _ [] w hr hm hr2 hm2 hr3 hm3 (by omega) (by omega) a3 h1.1 h1.2.1 h1.2.2 (by omega) (by omega) hv
      · have HK := Lib.hid (bchK_len h0 h1 h2)
        have HL0 := Lib.hid h0
        obtain ⟨lv, HLV⟩ : ∃ k, Hid (longV size l = k) := ⟨_, rfl⟩
        rw [HLV.out] at h2
        have hh : (n2 ≠ n) ∨ (n2 = n ∧ n3 ≠ lv) := by omega
        obtain ⟨b1, b2, b3⟩ := h1
        clear h0 h2 hx hx2 hx3
        rcases hh with hh | ⟨rfl, hh⟩
        · have e1 : ((n2 : Int) == (n : Int)) = false := by simp; omega
          clear hh
          go_enter Tryd.func87, Tryd.ntmps87
          go_wp2_with fail
          generalize ((w.alloc (.cells #[.slice A2 n2 c2] 36)).alloc (.cells #[.slice A3 n3 c3] 36)) = w0 at *
          refine (BLong_any size A n c l _ (hr.ext E0) hm).mono ?_
          rw [HL0.out, HLV.out]
          rintro _ w1 ⟨rfl, hb1⟩
          have E1 := E0.trans hb1
          have R12 := hr2.ext E1
          have R13 := hr3.ext E1
          have x3 := (B3.ext hb1).cell 0
          have x2 := (B2.ext hb1).cell 0
          simp only [errR_0]
          go_wp2_with (first
            | (go_at_call 90; refine (Valid_any _ _).mono ?_; rintro e w' ⟨rfl, rfl⟩)
            | (go_at_call 94; (with_reducible refine (Sums_any A2 _ _ q _ R12 hm2).mono ?_); rintro e w' ⟨rfl, rfl⟩)
            | (go_at_call 94; (with_reducible refine (Sums_any A3 _ _ p _ R13 hm3).mono ?_); rintro e w' ⟨rfl, rfl⟩))
          go_ret
          exact ⟨by rw [HK.out]; rfl, E1⟩
        · have e1 : ((n3 : Int) == (lv : Int)) = false := by simp; omega
          clear hh
          go_enter Tryd.func87, Tryd.ntmps87
          go_wp2_with fail
          generalize ((w.alloc (.cells #[.slice A2 n2 c2] 36)).alloc (.cells #[.slice A3 n3 c3] 36)) = w0 at *
          refine (BLong_any size A n2 c l _ (hr.ext E0) hm).mono ?_
          rw [HL0.out, HLV.out]
          rintro _ w1 ⟨rfl, hb1⟩
          have E1 := E0.trans hb1
          have R12 := hr2.ext E1
          have R13 := hr3.ext E1
          have x3 := (B3.ext hb1).cell 0
          have x2 := (B2.ext hb1).cell 0
          simp only [errR_0]
          go_wp2_with (first
            | (go_at_call 90; refine (Valid_any _ _).mono ?_; rintro e w' ⟨rfl, rfl⟩)
            | (go_at_call 94; (with_reducible refine (Sums_any A2 _ _ q _ R12 hm2).mono ?_); rintro e w' ⟨rfl, rfl⟩)
            | (go_at_call 94; (with_reducible refine (Sums_any A3 _ _ p _ R13 hm3).mono ?_); rintro e w' ⟨rfl, rfl⟩))
          go_ret
          exact ⟨by rw [HK.out]; rfl, E1⟩
    · have HK := Lib.hid (bchK_vld h0 h1)
      have HL0 := Lib.hid h0
      obtain ⟨lv, HLV⟩ : ∃ k, Hid (longV size l = k) := ⟨_, rfl⟩
      have hh : (vld root = false) ∨ (vld root = true ∧ allV q = false) ∨ (vld root = true ∧ allV q = true ∧ allV p = false) := by
        cases h3 : vld root
        · exact .inl rfl
        · cases h4 : allV q
          · exact .inr (.inl ⟨rfl, rfl⟩)
          · cases h5 : allV p
            · exact .inr (.inr ⟨rfl, rfl, rfl⟩)
            · exact absurd ⟨h3, h4, h5⟩ h1
      clear h0 h1 hx hx2 hx3
      rcases hh with h3 | ⟨h3, h4⟩ | ⟨h3, h4, h5⟩
      all_goals
        go_enter Tryd.func87, Tryd.ntmps87
        go_wp2_with fail
        generalize ((w.alloc (.cells #[.slice A2 n2 c2] 36)).alloc (.cells #[.slice A3 n3 c3] 36)) = w0 at *
        refine (BLong_any size A n c l _ (hr.ext E0) hm).mono ?_
        rw [HL0.out, HLV.out]
        rintro _ w1 ⟨rfl, hb1⟩
        have E1 := E0.trans hb1
        have R12 := hr2.ext E1
        have R13 := hr3.ext E1
        have x3 := (B3.ext hb1).cell 0
        have x2 := (B2.ext hb1).cell 0
        simp only [errR_0]
        go_wp2_with (first
          | (go_at_call 90; refine (Valid_any _ _).mono ?_; rintro e w' ⟨rfl, rfl⟩)
          | (go_at_call 94; (with_reducible refine (Sums_any A2 _ _ q _ R12 hm2).mono ?_); rintro e w' ⟨rfl, rfl⟩)
          | (go_at_call 94; (with_reducible refine (Sums_any A3 _ _ p _ R13 hm3).mono ?_); rintro e w' ⟨rfl, rfl⟩))
        go_ret
        exact ⟨by rw [HK.out]; rfl, E1⟩
  · have HK := Lib.hid (bchK_long (root := root) (q := q) (p := p) h0)
    have HE := Lib.hid (errR_ne h0)
    obtain ⟨lk, HLK⟩ : ∃ k, Hid (longK size l = k) := ⟨_, rfl⟩
    obtain ⟨lv, HLV⟩ : ∃ k, Hid (longV size l = k) := ⟨_, rfl⟩
    rw [HLK.out] at HE HK
    clear h0 hx hx2 hx3
    go_enter Tryd.func87, Tryd.ntmps87
    go_wp2_with fail
    generalize ((w.alloc (.cells #[.slice A2 n2 c2] 36)).alloc (.cells #[.slice A3 n3 c3] 36)) = w0 at *
    refine (BLong_any size A n c l _ (hr.ext E0) hm).mono ?_
    rw [HLK.out, HLV.out, HE.out]
    rintro _ w1 ⟨rfl, hb1⟩
    have E1 := E0.trans hb1
    simp only [errV]
    go_wp2_with fail
    go_ret
    exact ⟨by rw [HK.out, HE.out]; rfl, E1⟩
end Go.Proofs.YtgfkalhpefjenaaDoor
