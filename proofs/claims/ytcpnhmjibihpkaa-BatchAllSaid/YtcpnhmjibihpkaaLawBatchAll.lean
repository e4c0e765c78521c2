import Derived.Test.YtcpnhmjibihpkaaCheckB
namespace Go.Proofs.Ytcpnhmjibihpkaa.batchAll
open Go.RowKit Go.WideShapes
set_option linter.unusedVariables false
attribute [local go_sem ↓] Go.wp_at_zero Go.wp_at_succ

/-- all places -/
def idx (n : Nat) : List Int := (List.range n).map fun i : Nat => (i : Int)
theorem idx_len (n : Nat) : (idx n).length = n := by simp [idx]
theorem idx_snoc (n : Nat) : idx (n + 1) = idx n ++ [(n : Int)] := by simp [idx, List.range_succ]
theorem idx_get {n j : Nat} (h : j < n) : (idx n)[j]? = some (j : Int) := by simp [idx, h]
theorem rises_of : ∀ {l : List Int}, (∀ (j : Nat) (x y : Int), l[j]? = some x → l[j + 1]? = some y → x < y) → rises l = true
  | [], _ => rfl
  | [a], _ => rfl
  | a :: b :: l, h => by
    rw [rises, Bool.and_eq_true]
    exact ⟨decide_eq_true (h 0 a b rfl rfl), rises_of fun j x y hx hy => h (j + 1) x y (by simpa using hx) (by simpa using hy)⟩
theorem idx_places {n : Nat} (hn : n ≤ 200) : placesK (n : Int) (idx n) = 0 := by
  have h1 : allIn (n : Int) (idx n) = true := by
    unfold allIn
    rw [List.all_eq_true]
    intro x hx
    unfold idx at hx
    rw [List.mem_map] at hx
    obtain ⟨j, hj, rfl⟩ := hx
    rw [List.mem_range] at hj
    exact decide_eq_true ⟨by omega, by omega⟩
  have h2 : rises (idx n) = true := rises_of fun j x y hx hy => by
    have hl := (List.getElem?_eq_some_iff.1 hy).1
    rw [idx_len] at hl
    rw [idx_get (by omega)] at hx
    rw [idx_get hl] at hy
    injection hx with hx
    injection hy with hy
    omega
  unfold placesK
  rw [idx_len, if_neg (by omega), h1, if_neg (by decide), h2, if_neg (by decide)]
theorem idx_sums (xs : List Int) : sumsAt xs (idx xs.length) = xs := by
  apply List.ext_getElem?
  intro j
  unfold sumsAt
  rw [List.getElem?_map]
  by_cases hj : j < xs.length
  · rw [idx_get hj]
    simp [List.getD_eq_getElem?_getD, List.getElem?_eq_getElem hj]
  · rw [List.getElem?_eq_none (by rw [idx_len]; omega), List.getElem?_eq_none (by omega)]
    rfl

theorem half3 : half 3 = 2 := by decide
theorem half2 : half 2 = 1 := by decide
theorem fact_prov : provL [5, 6, 7] 0 3 [0] = [6, 7] := by
  rw [provL_two _ (by decide) (by decide) (by decide), half3]
  show provL [5, 6, 7] 0 2 [0] ++ provL [5, 6, 7] 2 1 [] = [6, 7]
  rw [provL_none, provL_two _ (by decide) (by decide) (by decide), half2]
  show provL [5, 6, 7] 0 1 [0] ++ provL [5, 6, 7] 1 1 [] ++ [ofL [7]] = [6, 7]
  rw [provL_none, provL_leaf _ _ (by decide)]
  show [] ++ [ofL [6]] ++ [ofL [7]] = [6, 7]
  rw [ofL_one, ofL_one]
  rfl
theorem fact_ok : leafsOk [5, 6, 7] := ⟨by decide, by decide⟩
theorem fact_pl : placesK ((3 : Nat) : Int) [0] = 0 := by decide
theorem lists_rd (w : World) : Rd ((w.alloc (.cells #[.int .i64 5, .int .i64 6, .int .i64 7] 3)).alloc (.cells #[.int .i64 0] 3)) 1 (some ⟨w.heap.size, 0, none⟩) 3 3 (([5, 6, 7] : List Int).map (Value.int .i64)) ∧ Rd ((w.alloc (.cells #[.int .i64 5, .int .i64 6, .int .i64 7] 3)).alloc (.cells #[.int .i64 0] 3)) 1 (some ⟨w.heap.size + 1, 0, none⟩) 1 1 (([0] : List Int).map (Value.int .i64)) :=
  ⟨Rd.ext ⟨rfl, Nat.le_refl _, fun _ => ⟨_, rfl, by simp, news_new w 3 _ _ rfl⟩⟩ (Ext.alloc (Ext.refl _) _), ⟨rfl, Nat.le_refl _, fun _ => ⟨_, rfl, by simp, news_new (w.alloc _) 3 _ _ (by simp)⟩⟩⟩

set_option maxRecDepth 100000 in
set_option maxHeartbeats 4000000 in
theorem walk (A : Option Addr) (n c : Nat) (xs : List Int) (w : World) (hl : xs.length = n) (hm : c ≤ maxLen) (hr : Rd w 1 A n c (xs.map (Value.int .i64))) (hg : ∀ y ∈ xs, igood y) :
    Calls Try.prog 12 #[.slice A n c] w fun e w' => e = .returned (.bool true) ∧ Ext w w' := by
  have hlc := hr.2.1
  have HX := Lib.hid hl
  have HF : Hid (provL [5, 6, 7] 0 3 [0] = [6, 7]) := fact_prov
  obtain ⟨r1, r2⟩ := lists_rd w
  obtain ⟨i0, hi0, hz0, hz1, hz2⟩ := info_parts info_intB
  clear hg hl
  go_enter Try.func12, Try.ntmps12
  go_wp2_with fail
  refine (BMake_ok _ _ 3 3 1 1 [5, 6, 7] [0] _ r1 (by simp [maxLen]) r2 (by simp [maxLen]) fact_ok fact_pl (by omega)).mono ?_
  rintro _ w1 ⟨⟨v, rfl, hv⟩, hb1⟩
  rw [HF.out] at hv
  obtain ⟨A1, c1, rfl, hc1, R1, _⟩ := own_rd hv
  obtain ⟨ad1, rfl, _, d0⟩ := R1.getI (j := 0) (z := 6) rfl
  obtain ⟨ad1', e, _, d1⟩ := R1.getI (j := 1) (z := 7) rfl
  obtain rfl : ad1 = ad1' := by injection e
  rw [add_zero'] at d0
  have d1' : w1.cell? ⟨ad1.block, ad1.off + 1, none⟩ = some (.int .i64 7) := d1
  rw [show ([6, 7] : List Int).length = 2 from rfl]
  have E1 : Ext w w1 := by (repeat (with_reducible first | exact Ext.refl _ | assumption | refine Ext.drew ?_ | refine Ext.drewN ?_ _ | refine Ext.alloc ?_ _ | refine Ext.trans ?_ (by with_reducible assumption)))
  clear hv R1 hb1 r1 r2 e
  go_wp2_with fail
  by_cases hk : leafsOk xs
  · have hn : n ≤ 200 := by have := hk.1; rw [HX.out] at this; exact this
    have HK := Lib.hid hk
    clear hk
    refine (Root_ok A n c xs _ (hr.ext E1) hm HK.out).mono ?_
    rintro _ w2 ⟨rfl, hb2⟩
    have E2 := E1.trans hb2
    clear d0 d1 d1'
    by_cases h0 : n = 0
    · subst h0
      go_wp2_with fail
      go_ret
      exact ⟨rfl, E2⟩
    · have hn0 : ((n : Int) == 0) = false := by simp; omega
      clear h0
      go_wp2_with fail
      go_loopw [7, 8] (fun v x wr => ∃ j : Nat, x = .int .i64 j ∧ j ≤ n ∧ Ext w2 wr ∧ Hid (wr.ownsRow w2.heap.size 3 1 v j ((idx j).map (Value.int .i64)))) (fun _ x _ => n - (intOf x).toNat)
      case atStart => exact ⟨0, rfl, Nat.zero_le _, Ext.refl _, own_nil _ _ _ _⟩
      case round =>
        obtain ⟨j, rfl, hj, hbw, hown⟩ := hrel
        by_cases hc : j < n
        · have hbs := hbw.size
          go_wp2_with (at_builtin; refine wpl_app (by rfl) _ _ _ (by rfl) w2.heap.size 3 i0 _ 1 8 Try.underlying48 hi0 hz0 hz1 hz2 rfl (by omega) u7 _ _ (by rfl) ((hown.out).alloc _) wr.heap.size 1 [.int .i64 j] rfl (by rfl) (news_new wr _ _ _ rfl) (oneI _) (by omega) (by omega) (by simp; omega) ?_; intro g cap w3 own3 hext3)
          go_roundw
          case rel => exact ⟨j + 1, by go_num, by omega, hext3 _ (Nat.le_refl _) (by (repeat (with_reducible first | exact Ext.refl _ | assumption | refine Ext.drew ?_ | refine Ext.drewN ?_ _ | refine Ext.alloc ?_ _ | refine Ext.trans ?_ (by with_reducible assumption)))), by rw [idx_snoc, List.map_append]; exact own3⟩
          case measure => simp [intOf]; omega
        · obtain rfl : j = n := by omega
          have E3 : Ext w wr := E2.trans hbw
          obtain ⟨A3, c3, rfl, hc3, R3, _⟩ := own_rd hown.out
          have hpl := idx_places hn
          have hpt := placesK_part hpl
          have hnil : Hid (provL xs 0 j (idx j) = []) := prov_all xs j 0 j (idx j) (Nat.le_refl _) (by simp at hn0; omega) (by omega) hpt (by rw [idx_len]; exact Nat.le_refl _)
          have hwk : Hid (walkP toldC leafC 0 j (idx j) ([], xs) = some (ofL xs, ([], []))) := by
            have h := check_walk xs HK.out.2 j 0 j (idx j) [] [] (Nat.le_refl _) (by simp at hn0; omega) (by omega) (by rw [HX.out]; omega) hpt
            rw [hnil.out, List.nil_append, List.append_nil] at h
            have hs := idx_sums xs
            have ha := seg_all xs
            rw [HX.out] at hs ha
            rw [hs, ha] at h
            exact h
          have HPL := Lib.hid hpl
          have h1 : 1 ≤ j := by simp at hn0; omega
          clear hpl hpt hown
          go_wp2_with fail
          refine (BMake_ok A A3 j c j c3 xs (idx j) _ (hr.ext E3) hm R3 hc3 HK.out HPL.out h1).mono ?_
          rintro _ w4 ⟨⟨v4, rfl, hv4⟩, hb4⟩
          rw [hnil.out] at hv4
          obtain ⟨A4, c4, rfl, hc4, R4, _⟩ := own_rd hv4
          rw [show ([] : List Int).length = 0 from rfl] at *
          have R34 := R3.ext hb4
          have E4 := E3.trans hb4
          have vr := vld_ofL HK.out.2 (by rw [HX.out]; omega)
          have HRK : Hid (errR (rootK (ofL xs) (ofL xs)) = .nilIface) := by show _ = _; unfold rootK; rw [if_pos rfl]; rfl
          clear hv4 R3 hb4
          go_wp2_with fail
          refine (BCheck_walk (ofL xs) j A3 A A4 j c3 j c 0 c4 (idx j) xs [] (ofL xs) ([], []) xs _ R34 hc3 (hr.ext E4) hm R4 hc4 h1 hn HPL.out vr HK.out.2 rfl rfl (by rw [hnil.out]; rfl) hwk.out).mono ?_
          rw [HRK.out]
          rintro _ w5 ⟨rfl, hb5⟩
          go_wp2_with fail
          go_ret
          exact ⟨rfl, E4.trans hb5⟩
  · refine (Root_bad A n c xs _ (hr.ext E1) hm hk).mono ?_
    rintro _ w2 ⟨rfl, hb2⟩
    simp only [errV]
    go_wp2_with fail
    go_ret
    exact ⟨rfl, E1.trans hb2⟩
end Go.Proofs.Ytcpnhmjibihpkaa.batchAll
