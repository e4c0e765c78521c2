import Derived.Test.YtgfkalhpefjenaaDoorPlaces
namespace Go.Proofs.YtgfkalhpefjenaaDoor
open Go.RowKit Go.WideShapes
set_option linter.unusedVariables false
attribute [local go_sem ↓] Go.wp_at_zero Go.wp_at_succ

theorem info_intB : (Tryd.prog.info? 3).map (fun i => (i.zero, i.size, i.bytes)) = some (some (.int .i64 0), 1, 8) := by kernel_rfl
/-- what batch.Make keeps: the leafs, and what is out -/
def StM (g1 g2 : Nat) (A : Option Addr) (n c : Nat) (xs : List Int) (out : List Int) (w : World) : Prop :=
  Bk w g1 36 #[.slice A n c] ∧ Rd w 1 A n c (xs.map (Value.int .i64)) ∧ out.length ≤ 1000 ∧ ∃ v, Bk w g2 36 #[v] ∧ w.ownsRow (g2 + 1) 3 1 v out.length (out.map (Value.int .i64))
theorem StM.ext {g1 g2 n c : Nat} {A : Option Addr} {xs out : List Int} {w w' : World} (h : StM g1 g2 A n c xs out w) (e : Ext w w') : StM g1 g2 A n c xs out w' := by
  obtain ⟨h1, h2, h3, v, h4, h5⟩ := h
  exact ⟨h1.ext e, h2.ext e, h3, v, h4.ext e, own_ext h5 e⟩

set_option maxRecDepth 100000 in
set_option maxHeartbeats 1000000 in
theorem make1_any (B g1 g2 : Nat) (A : Option Addr) (n c : Nat) (xs out : List Int) (f s : Nat) (w : World) (hm : c ≤ maxLen) (hk : leafsOk xs) (hg : g1 < g2) (hBg : B ≤ g1) (hA : 0 < n → ∀ ad, A = some ad → ad.block < B) (hs : StM g1 g2 A n c xs out w) (h1 : 1 ≤ s) (hf : f + s ≤ xs.length) (ho : out.length ≤ 900) :
    Calls Tryd.prog 128 #[.int .i64 f, .int .i64 s, .pointer (some ⟨g1, 0, none⟩), .pointer (some ⟨g2, 0, none⟩)] w fun e w' => e = .returned (.int .i64 (ofL (seg xs f s))) ∧ StM g1 g2 A n c xs (out ++ [ofL (seg xs f s)]) w' ∧ Below B w w' := by
  obtain ⟨B1, hr, _, v, B2, hown⟩ := hs
  have hx := hr.lenI
  have hnc := hr.2.1
  have hn : n ≤ 200 := by have := hk.1; omega
  have hcf : ¬ c = f := by omega
  have hR := Rd_part hr (i := f) (j := f + s) (by omega) (by omega)
  rw [if_neg hcf, Nat.add_sub_cancel_left] at hR
  have hva := allV_seg hk.2 f s
  have hHR : Rd w 1 (A.map (fun x => x.add f)) s (c - f) ((seg xs f s).map (Value.int .i64)) := hR
  have hsl := seg_len (xs := xs) (f := f) (s := s) hf
  have b1 := B1.cell 0
  have l1 := B1.lt
  have l2 := B2.lt
  have f1 : (f : Int) + (s : Int) ≤ (c : Int) := by omega
  have f2 : (f : Int) ≤ (c : Int) := by omega
  have f3 : (f : Int) ≤ (f : Int) + (s : Int) := by omega
  have f4 : (f : Int) + (s : Int) - (f : Int) = (s : Int) := by omega
  have f5 : (f : Int) + (s : Int) ≤ 200 := by omega
  have HX := Lib.hid hx
  obtain ⟨i0, hi0, hz0, hz1, hz2⟩ := info_parts info_intB
  clear hx hR
  go_enter Tryd.func128, Tryd.ntmps128
  go_wp2_with fail
  refine (Of_any s _ s (c - f) _ _ (Nat.le_refl _) hHR (by omega) (by omega) hva).mono ?_
  rintro _ w1 ⟨rfl, hb1⟩
  have B11 := B1.ext hb1
  have B21 := B2.ext hb1
  have r1 := hr.ext hb1
  have own1 := own_ext hown hb1
  have b2 := B21.cell 0
  have l3 := B21.lt
  have hob : ∀ b, v.ownBlock = some b → g2 + 1 ≤ b := fun b hb => (own1.lt b hb).1
  generalize hzz : ofL (seg xs f s) = z at *
  have HZ := Lib.hid hzz
  clear hzz
  clear B1 B2 hr hown b1 l1 hHR hva hsl
  go_wp2_with (at_builtin; refine wpl_apps (by rfl) _ _ _ (by rfl) (g2 + 1) 3 i0 _ 1 8 Tryd.underlying36 hi0 hz0 hz1 hz2 rfl (by omega) v _ _ (by rfl) (own1.alloc _) ⟨w1.heap.size, 0, none⟩ 1 1 [.int .i64 z] (by rfl) (by rfl) (news_new w1 _ _ _ rfl) (fun u hu => by simp at hu; subst hu; rfl) (by omega) (by omega) (by omega) (by simp; omega) ?_; intro g cap w3 own3 hg3 hH3 hlt3; have B23 : Bk w3 g2 36 #[v] := Bk.kept (B21.alloc _) hg3 (fun e => by have := hob _ e; omega); have p0 := B23.cell 0; have p1 := B23.frozen 0)
  have E1 := (Ext.alloc (Ext.refl w1) (.cells #[.int .i64 z] 3))
  have hsz1 := hb1.size
  have l4 := B23.lt
  have hB1 : Below B w w1 := Below.mono hb1 (by omega)
  have hB2 : Below B w1 w3 := below_trans (Below.mono E1 (by omega)) (below_gb hg3 (by simp; omega) (fun b hb => by have := hob b hb; omega))
  have hB3 : Below B w3 (w3.setCell ⟨g2, 0, none⟩ (.slice (some ⟨g, 0, none⟩) (out.length + 1) cap)) := below_gb (gb_set w3 g2 0 _) (by omega) (fun b hb => by injection hb with hb; omega)
  have hBn : Below g2 w1 (w3.setCell ⟨g2, 0, none⟩ (.slice (some ⟨g, 0, none⟩) (out.length + 1) cap)) := below_trans (below_trans (Below.mono E1 (by omega)) (below_gb hg3 (by simp; omega) (fun b hb => by have := hob b hb; omega))) (below_gb (gb_set w3 g2 0 _) (by omega) (fun b hb => by injection hb with hb; omega))
  have own4 := own3.kept (gb_set w3 g2 0 (.slice (some ⟨g, 0, none⟩) (out.length + 1) cap)) (.inr (by have := (own3.lt g rfl).1; simp [Value.ownBlock]; omega))
  go_wp2_with fail
  go_ret
  rw [HZ.out]
  refine ⟨rfl, ⟨B11.below hBn hg, r1.below hBn (fun h0 ad had => by have := hA h0 ad had; omega), by rw [List.length_append, List.length_singleton]; omega, _, B23.set_ 0 _, ?_⟩, below_trans (below_trans hB1 hB2) hB3⟩
  rw [List.length_append, List.length_singleton, List.map_append]
  exact own4

theorem make2_any (w : World) : Calls Tryd.prog 129 #[] w fun e w' => e = .returned (.int .i64 0) ∧ w = w' := by
  go_enter Tryd.func129, Tryd.ntmps129
  go_wp2_with fail
  go_ret
  exact ⟨rfl, rfl⟩

set_option maxRecDepth 100000 in
set_option maxHeartbeats 1000000 in
theorem BMake_ok (A A' : Option Addr) (n c n' c' : Nat) (xs l : List Int) (w : World) (hr : Rd w 1 A n c (xs.map (Value.int .i64))) (hm : c ≤ maxLen) (hr' : Rd w 1 A' n' c' (l.map (Value.int .i64))) (hm' : c' ≤ maxLen) (hk : leafsOk xs) (hp : placesK (n : Int) l = 0) (h1 : 1 ≤ n) :
    Calls Tryd.prog 83 #[.slice A n c, .slice A' n' c'] w fun e w' => (∃ v, e = .returned (.tuple #[v, .nilIface]) ∧ w'.ownsRow w.heap.size 3 1 v (provL xs 0 n l).length ((provL xs 0 n l).map (Value.int .i64))) ∧ Ext w w' := by
  have hx := hr.lenI
  have hn : n ≤ 200 := by have := hk.1; omega
  have hpl := prov_len xs n 0 n l (Nat.le_refl _) h1 (by omega)
  obtain ⟨v, hv⟩ := make_walk xs n 0 n l [] (Nat.le_refl _) h1 (by omega) (by omega) (by simp; omega)
  rw [List.nil_append] at hv
  have HV := Lib.hid hv
  have HK := Lib.hid hk
  have HP := Lib.hid hp
  have hb := hr.blk
  have hb' := hr'.blk
  have hn0 : ((n : Int) == 0) = false := by simp; omega
  have B0 : Bk (w.alloc (.cells #[.slice A n c] 36)) w.heap.size 36 #[.slice A n c] := Bk.at_ _ _ _ _ rfl
  have E0 : Ext w (w.alloc (.cells #[.slice A n c] 36)) := by (repeat (with_reducible first | exact Ext.refl _ | assumption | refine Ext.drew ?_ | refine Ext.drewN ?_ _ | refine Ext.alloc ?_ _ | refine Ext.trans ?_ (by with_reducible assumption)))
  clear hx hv hk hp
  go_enter Tryd.func83, Tryd.ntmps83
  go_wp2_with fail
  refine (TCheck_ok A n c xs _ (hr.ext E0) hm hn HK.out.2).mono ?_
  rintro _ w' ⟨rfl, rfl⟩
  go_wp2_with fail
  refine (places_any n A' n' c' l _ (hr'.ext E0) hm').mono ?_
  rintro _ w1 ⟨rfl, hb1⟩
  rw [HP.out, errR_0]
  have E1 := E0.trans hb1
  have B1 := B0.ext hb1
  have q1 := B1.cell 0
  have l1 := B1.lt
  have R1 := hr.ext E1
  have R1' := hr'.ext E1
  clear B0 E0 hb1 hr hr'
  go_wp2_with fail
  have S0 : StM w.heap.size w1.heap.size A n c xs [] (w1.alloc (.cells #[.slice none 0 0] 36)) := ⟨B1.alloc _, R1.ext (by (repeat (with_reducible first | exact Ext.refl _ | assumption | refine Ext.drew ?_ | refine Ext.drewN ?_ _ | refine Ext.alloc ?_ _ | refine Ext.trans ?_ (by with_reducible assumption)))), by simp, _, Bk.at_ _ _ _ _ rfl, own_nil _ _ _ _⟩
  have HW := (walk_M w.heap.size w.heap.size w1.heap.size (toldM xs) leafM (StM w.heap.size w1.heap.size A n c xs) (fun _ _ _ h e => h.ext e)
    (fun x f s v y w hs hB h1 hf ht => by
      unfold toldM at ht
      by_cases hc : f + s ≤ xs.length ∧ x.length < 900
      · rw [if_pos hc] at ht
        simp only [Option.some.injEq, Prod.mk.injEq] at ht
        obtain ⟨rfl, rfl⟩ := ht
        exact ⟨(vld_true (vld_ofL (allV_seg HK.out.2 f s) (by rw [seg_len hc.1]; omega))).1, make1_any _ _ _ A n c xs x f s w hm HK.out l1 (Nat.le_refl _) hb hs h1 hc.1 (by omega)⟩
      · rw [if_neg hc] at ht; cases ht)
    (fun x v y w hs hB ht => by
      unfold leafM at ht
      simp only [Option.some.injEq, Prod.mk.injEq] at ht
      obtain ⟨rfl, rfl⟩ := ht
      exact ⟨Int.le_refl _, (make2_any w).mono fun e w' hh => ⟨hh.1, by rw [← hh.2]; exact hs, by rw [← hh.2]; exact Below.refl _ _⟩⟩)
    n 0 n A' n' c' l [] v (provL xs 0 n l) _ (Nat.le_refl _) h1 (by omega) (R1'.ext (by (repeat (with_reducible first | exact Ext.refl _ | assumption | refine Ext.drew ?_ | refine Ext.drewN ?_ _ | refine Ext.alloc ?_ _ | refine Ext.trans ?_ (by with_reducible assumption))))) hb' hm' (by have := E1.size; simp; omega) S0 HV.out).2
  have HW' := Lib.hid HW
  clear HW S0
  refine HW'.out.mono ?_
  rintro _ w2 ⟨rfl, ⟨_, _, _, v2, B2, own2⟩, hb2⟩
  have q2 := B2.cell 0
  have E2 : Ext w w2 := below_trans E1 (below_trans (Below.mono (Ext.alloc (Ext.refl w1) _) (by have := E1.size; omega)) hb2)
  go_wp2_with fail
  go_ret2
  exact ⟨⟨_, rfl, own_lower own2 (by have := E1.size; omega)⟩, E2⟩

instance (xs : List Int) : Decidable (leafsOk xs) := by unfold leafsOk; infer_instance
/-- which fault batch.Make finds -/
def makeK (xs l : List Int) : Int := if ¬ leafsOk xs then leafsErr xs else if placesK (xs.length : Int) l ≠ 0 then placesK (xs.length : Int) l else if xs.length = 0 then 3 else 0
theorem leafsErr_ne (xs : List Int) : leafsErr xs ≠ 0 := by unfold leafsErr; split <;> decide
theorem makeK_zero {xs l : List Int} (h : makeK xs l = 0) : leafsOk xs ∧ placesK (xs.length : Int) l = 0 ∧ 1 ≤ xs.length := by
  unfold makeK at h
  by_cases h1 : leafsOk xs
  · rw [if_neg (not_not_intro h1)] at h
    by_cases h2 : placesK (xs.length : Int) l = 0
    · rw [if_neg (not_not_intro h2)] at h
      by_cases h3 : xs.length = 0
      · rw [if_pos h3] at h; cases h
      · exact ⟨h1, h2, by omega⟩
    · rw [if_pos h2] at h; exact absurd h h2
  · rw [if_pos h1] at h; exact absurd h (leafsErr_ne xs)
set_option maxRecDepth 100000 in
theorem BMake_bad (A A' : Option Addr) (n c n' c' : Nat) (xs l : List Int) (w : World) (hr : Rd w 1 A n c (xs.map (Value.int .i64))) (hm : c ≤ maxLen) (hr' : Rd w 1 A' n' c' (l.map (Value.int .i64))) (hm' : c' ≤ maxLen) (h : makeK xs l ≠ 0) :
    Calls Tryd.prog 83 #[.slice A n c, .slice A' n' c'] w fun e w' => e = .returned (.tuple #[.slice none 0 0, errV (makeK xs l)]) ∧ Ext w w' := by
  have hx := hr.lenI
  have B0 : Bk (w.alloc (.cells #[.slice A n c] 36)) w.heap.size 36 #[.slice A n c] := Bk.at_ _ _ _ _ rfl
  have E0 : Ext w (w.alloc (.cells #[.slice A n c] 36)) := by (repeat (with_reducible first | exact Ext.refl _ | assumption | refine Ext.drew ?_ | refine Ext.drewN ?_ _ | refine Ext.alloc ?_ _ | refine Ext.trans ?_ (by with_reducible assumption)))
  by_cases hk : leafsOk xs
  · have hn : n ≤ 200 := by have := hk.1; omega
    by_cases hp : placesK (n : Int) l = 0
    · have h0 : n = 0 := by
        rcases Nat.eq_zero_or_pos n with h0 | h0
        · exact h0
        · exact absurd (by unfold makeK; rw [if_neg (not_not_intro hk), hx, if_neg (not_not_intro hp), if_neg (by omega)]) h
      have HK : Hid (errV (makeK xs l) = errV 3) := by show _ = _; unfold makeK; rw [if_neg (not_not_intro hk), hx, if_neg (not_not_intro hp), if_pos h0]
      have HKK := Lib.hid hk
      have HP := Lib.hid hp
      subst h0
      clear hk hp h hx
      go_enter Tryd.func83, Tryd.ntmps83
      go_wp2_with fail
      refine (TCheck_ok A 0 c xs _ (hr.ext E0) hm hn HKK.out.2).mono ?_
      rintro _ w' ⟨rfl, rfl⟩
      go_wp2_with fail
      refine (places_any _ A' n' c' l _ (hr'.ext E0) hm').mono ?_
      rintro _ w1 ⟨rfl, hb1⟩
      rw [show errR (placesK 0 l) = .nilIface by have := HP.out; rw [show placesK 0 l = 0 from this]; rfl]
      have B1 := B0.ext hb1
      have q1 := B1.cell 0
      go_wp2_with fail
      go_ret2
      exact ⟨by rw [HK.out]; rfl, E0.trans hb1⟩
    · have HK : Hid (errV (makeK xs l) = errV (placesK (n : Int) l)) := by show _ = _; unfold makeK; rw [if_neg (not_not_intro hk), hx, if_pos hp]
      have HR : Hid (errR (placesK (n : Int) l) = errV (placesK (n : Int) l)) := errR_ne hp
      have HKK := Lib.hid hk
      clear hk hp h hx
      go_enter Tryd.func83, Tryd.ntmps83
      go_wp2_with fail
      refine (TCheck_ok A n c xs _ (hr.ext E0) hm hn HKK.out.2).mono ?_
      rintro _ w' ⟨rfl, rfl⟩
      go_wp2_with fail
      refine (places_any _ A' n' c' l _ (hr'.ext E0) hm').mono ?_
      rintro _ w1 ⟨rfl, hb1⟩
      rw [HR.out]
      simp only [errV]
      go_wp2_with fail
      go_ret2
      exact ⟨by rw [HK.out]; rfl, E0.trans hb1⟩
  · have HK : Hid (errV (makeK xs l) = errV (leafsErr xs)) := by show _ = _; unfold makeK; rw [if_pos hk]
    clear h hx
    go_enter Tryd.func83, Tryd.ntmps83
    go_wp2_with fail
    refine (TCheck_bad A n c xs _ (hr.ext E0) hm hk).mono ?_
    rintro _ w' ⟨rfl, rfl⟩
    simp only [errV]
    go_wp2_with fail
    go_ret2
    exact ⟨by rw [HK.out]; rfl, E0⟩

/-! ### batch.Long -/
def StN (g1 : Nat) (k : Nat) (w : World) : Prop := Bk w g1 3 #[.int .i64 k] ∧ k ≤ 1000
set_option maxRecDepth 100000 in
theorem long1_any (B g1 k f s : Nat) (w : World) (hB : B ≤ g1) (h : StN g1 k w) (hk : k < 1000) :
    Calls Tryd.prog 130 #[.int .i64 f, .int .i64 s, .pointer (some ⟨g1, 0, none⟩)] w fun e w' => e = .returned (.int .i64 0) ∧ StN g1 (k + 1) w' ∧ Below B w w' := by
  obtain ⟨h1, _⟩ := h
  have q0 := h1.cell 0
  have q1 := h1.frozen 0
  have l1 := h1.lt
  go_enter Tryd.func130, Tryd.ntmps130
  go_wp2_with fail
  go_ret
  refine ⟨rfl, ⟨?_, by omega⟩, below_gb (gb_set w g1 0 _) (by omega) (fun b hb => by injection hb with hb; omega)⟩
  have := h1.set_ 0 (.int .i64 ((k : Int) + 1))
  rw [show ((k + 1 : Nat) : Int) = (k : Int) + 1 by omega]
  exact this
theorem long2_any (w : World) : Calls Tryd.prog 131 #[] w fun e w' => e = .returned (.int .i64 0) ∧ w = w' := by
  go_enter Tryd.func131, Tryd.ntmps131
  go_wp2_with fail
  go_ret
  exact ⟨rfl, rfl⟩
set_option maxRecDepth 100000 in
set_option maxHeartbeats 1000000 in
theorem Long_ok (xs : List Int) (s : Nat) (A : Option Addr) (n c : Nat) (l : List Int) (w : World) (hr : Rd w 1 A n c (l.map (Value.int .i64))) (hm : c ≤ maxLen) (h1 : 1 ≤ s) (h2 : s ≤ 200) (hp : placesK (s : Int) l = 0) :
    Calls Tryd.prog 85 #[.int .i64 s, .slice A n c] w fun e w' => e = .returned (.tuple #[.int .i64 ((provL xs 0 s l).length : Int), .nilIface]) ∧ Ext w w' := by
  have hpl := prov_len xs s 0 s l (Nat.le_refl _) h1 (by omega)
  obtain ⟨v, hv⟩ := long_walk xs s 0 s l 0 (Nat.le_refl _) h1 (by omega) (by omega)
  rw [Nat.zero_add] at hv
  have HV := Lib.hid hv
  have HP := Lib.hid hp
  have hb := hr.blk
  clear hv hp
  go_enter Tryd.func85, Tryd.ntmps85
  go_wp2_with fail
  refine (places_any _ A n c l _ hr hm).mono ?_
  rintro _ w1 ⟨rfl, hb1⟩
  rw [HP.out, errR_0]
  have R1 := hr.ext hb1
  have hsz := hb1.size
  go_wp2_with fail
  have S0 : StN w1.heap.size 0 (w1.alloc (.cells #[.int .i64 0] 3)) := ⟨Bk.at_ _ _ _ _ rfl, by omega⟩
  have HW := Lib.hid (walk_N w.heap.size w1.heap.size toldN leafN (StN w1.heap.size) (fun _ _ _ h e => ⟨h.1.ext e, h.2⟩)
    (fun x f s v y w hs hB h1 hf ht => by
      unfold toldN at ht
      by_cases hc : x < 1000
      · rw [if_pos hc] at ht
        simp only [Option.some.injEq, Prod.mk.injEq] at ht
        obtain ⟨rfl, rfl⟩ := ht
        exact ⟨Int.le_refl _, long1_any _ _ x f s w hsz hs hc⟩
      · rw [if_neg hc] at ht; cases ht)
    (fun x v y w hs hB ht => by
      unfold leafN at ht
      simp only [Option.some.injEq, Prod.mk.injEq] at ht
      obtain ⟨rfl, rfl⟩ := ht
      exact ⟨Int.le_refl _, (long2_any w).mono fun e w' hh => ⟨hh.1, by rw [← hh.2]; exact hs, by rw [← hh.2]; exact Below.refl _ _⟩⟩)
    s 0 s A n c l 0 v (provL xs 0 s l).length _ (Nat.le_refl _) h1 (by omega) (R1.ext (by (repeat (with_reducible first | exact Ext.refl _ | assumption | refine Ext.drew ?_ | refine Ext.drewN ?_ _ | refine Ext.alloc ?_ _ | refine Ext.trans ?_ (by with_reducible assumption))))) hb hm (by simp; omega) S0 HV.out).2
  clear S0
  refine HW.out.mono ?_
  rintro _ w2 ⟨rfl, ⟨B2, _⟩, hb2⟩
  have q2 := B2.cell 0
  have E2 : Ext w w2 := below_trans hb1 (below_trans (Below.mono (Ext.alloc (Ext.refl w1) _) hsz) hb2)
  go_wp2_with fail
  go_ret2
  exact ⟨rfl, E2⟩
/-- which fault batch.Long finds -/
def longK (size : Int) (l : List Int) : Int := if size < 1 ∨ 200 < size then 1 else placesK size l
theorem longK_zero {size : Int} {l : List Int} (h : longK size l = 0) : 1 ≤ size ∧ size ≤ 200 ∧ placesK size l = 0 := by
  unfold longK at h
  by_cases h1 : size < 1 ∨ 200 < size
  · rw [if_pos h1] at h; cases h
  · rw [if_neg h1] at h; exact ⟨by omega, by omega, h⟩
set_option maxRecDepth 100000 in
theorem Long_bad (size : Int) (A : Option Addr) (n c : Nat) (l : List Int) (w : World) (hr : Rd w 1 A n c (l.map (Value.int .i64))) (hm : c ≤ maxLen) (h : longK size l ≠ 0) :
    Calls Tryd.prog 85 #[.int .i64 size, .slice A n c] w fun e w' => e = .returned (.tuple #[.int .i64 0, errV (longK size l)]) ∧ Ext w w' := by
  by_cases h1 : size < 1 ∨ 200 < size
  · have HK : Hid (errV (longK size l) = errV 1) := by show _ = _; unfold longK; rw [if_pos h1]
    have h1' : size < 1 ∨ (1 ≤ size ∧ 200 < size) := by omega
    clear h1 h
    rcases h1' with h1 | ⟨h0, h1⟩
    all_goals
      go_enter Tryd.func85, Tryd.ntmps85
      go_wp2_with fail
      go_ret2
      exact ⟨by rw [HK.out]; rfl, by (repeat (with_reducible first | exact Ext.refl _ | assumption | refine Ext.drew ?_ | refine Ext.drewN ?_ _ | refine Ext.alloc ?_ _ | refine Ext.trans ?_ (by with_reducible assumption)))⟩
  · have HK : Hid (errV (longK size l) = errV (placesK size l)) := by show _ = _; unfold longK; rw [if_neg h1]
    have h' : placesK size l ≠ 0 := by unfold longK at h; rwa [if_neg h1] at h
    have HR : Hid (errR (placesK size l) = errV (placesK size l)) := errR_ne h'
    have i1 : 1 ≤ size := by omega
    have i2 : size ≤ 200 := by omega
    clear h1 h h'
    go_enter Tryd.func85, Tryd.ntmps85
    go_wp2_with fail
    refine (places_any _ A n c l _ hr hm).mono ?_
    rintro _ w1 ⟨rfl, hb1⟩
    rw [HR.out]
    simp only [errV]
    go_wp2_with fail
    go_ret2
    exact ⟨by rw [HK.out]; rfl, by (repeat (with_reducible first | exact Ext.refl _ | assumption | refine Ext.drew ?_ | refine Ext.drewN ?_ _ | refine Ext.alloc ?_ _ | refine Ext.trans ?_ (by with_reducible assumption)))⟩
end Go.Proofs.YtgfkalhpefjenaaDoor
