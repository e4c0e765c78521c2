import Derived.Test.YtcgfdhgceokcnaaDoorJWalWhole21
import Derived.Test.YtcgfdhgceokcnaaDoorJWalWhole22
import Derived.Test.YtcgfdhgceokcnaaDoorJWalWhole11
namespace Go.Proofs.YtcgfdhgceokcnaaDoor.walWhole
open Go.RowKit Go.WideShapes
set_option linter.unusedVariables false
attribute [local go_sem ↓] Go.wp_at_zero Go.wp_at_succ

def vV : ByteArray := ⟨#[118]⟩
theorem lett_key (i : Nat) : keyK (lett i) = 0 := keyK_ok (by rw [lett_size]; omega) (by rw [lett_size]; omega)
theorem put_zero {Y : List Pr} {lim i : Nat} {v : ByteArray} {g : Bool} (hy : Y.length < lim) (hl : lim ≤ 60) (hv : v.size ≤ 200) : putK Y ⟨lett i, v, g⟩ = 0 := by
  unfold putK
  rw [if_neg (not_not_intro (lett_key i)), if_neg]
  rintro (h1 | ⟨_, h1⟩)
  · simp only at h1; omega
  · omega
/-- i keys were put -/
structure I1 (lim i : Nat) (Y : List Pr) (T : List (List Pr)) : Prop where
  young : Y.length < lim
  ok : LsOk (Y :: T)
  see : ∀ key, seeL Y T key = vis (getE (lettP vV i) key)
theorem i1_step {lim i : Nat} {Y : List Pr} {T : List (List Pr)} (h : I1 lim i Y T) (hl : lim ≤ 60) (hi : i ≤ 99) : I1 lim (i + 1) (doY lim Y ⟨lett i, vV, false⟩) (doT lim Y T ⟨lett i, vV, false⟩) := by
  have hk : putK Y ⟨lett i, vV, false⟩ = 0 := put_zero h.young hl (by decide)
  refine ⟨do_young h.young, do_ok h.ok (fun e => by cases e), fun key => ?_⟩
  rw [see_do h.ok (fun e => by cases e) hk, ← lettP_put vV hi, get_put (lettP_asc vV (by omega)), h.see]
  split <;> rfl
theorem lett_live {n : Nat} : ∀ p ∈ lettP vV n, p.gone = false := fun p hp => by
  obtain ⟨i, hi⟩ := List.getElem?_of_mem hp
  obtain ⟨_, rfl⟩ := lettP_some hi
  rfl
theorem I1.live {lim n : Nat} {Y : List Pr} {T : List (List Pr)} (h : I1 lim n Y T) (hn : n ≤ 100) : (liveL (Y :: T)).length = n := by
  have hl : liveL (Y :: T) = lettP vV n := live_ext (live_asc _) (lettP_asc vV hn) live_gone lett_live fun key => by
    rw [live_see h.ok, h.see]
  rw [hl, lettP_len]

/-! ### the batch -/
def lk (bad : Int) (i : Nat) : ByteArray := if (i : Int) = bad then ⟨#[]⟩ else lett i
def lb (bad : Int) (n : Nat) : List Pr := (List.range n).map fun i => ⟨lk bad i, vV, false⟩
theorem lb_len (bad : Int) (n : Nat) : (lb bad n).length = n := by simp [lb]
theorem lb_get (bad : Int) {n i : Nat} (h : i < n) : (lb bad n)[i]? = some ⟨lk bad i, vV, false⟩ := by
  unfold lb
  rw [List.getElem?_map, List.getElem?_range h]
  rfl
theorem lb_snoc (bad : Int) (n : Nat) : lb bad (n + 1) = lb bad n ++ [⟨lk bad n, vV, false⟩] := by
  unfold lb
  rw [List.range_succ, List.map_append]
  rfl
theorem lb_ok (bad : Int) (n : Nat) : ∀ p ∈ lb bad n, badP p = false := fun p hp => by
  unfold lb at hp
  obtain ⟨i, _, rfl⟩ := List.mem_map.1 hp
  rfl
theorem lb_run (bad : Int) (n : Nat) : ∀ j, j ≤ n → n ≤ 99 → (∀ i : Nat, i < j → (i : Int) ≠ bad) → ∃ Yj Tj, RunI 50 (lb bad n) [] [] j Yj Tj ∧ I1 50 j Yj Tj
  | 0, _, _, _ => ⟨[], [], ⟨rfl, rfl, by decide⟩, ⟨by decide, LsOk.cons ⟨Asc.nil, by simp⟩ LsOk.nil, fun key => rfl⟩⟩
  | j + 1, hj, hn, hb => by
    obtain ⟨Yj, Tj, h1, h2⟩ := lb_run bad n j (by omega) hn fun i hi => hb i (by omega)
    have hg := lb_get bad (n := n) (i := j) (by omega)
    have hlk : lk bad j = lett j := if_neg (hb j (by omega))
    rw [hlk] at hg
    exact ⟨_, _, h1.next hg (put_zero h2.young (by decide) (by decide)), i1_step h2 (by decide) (by omega)⟩
/-- how it ends: the fault, and what there is -/
def endK (n : Nat) (bad : Int) : Int := if 20 < n then 4 else if 0 ≤ bad ∧ bad < (n : Int) then 2 else 0
theorem lb_do {n : Nat} {bad : Int} (hn : n ≤ 25) : doK 50 [] [] (lb bad n) = endK n bad ∧ (endK n bad = 0 → I1 50 n (runB 50 (lb bad n) [] []).1 (runB 50 (lb bad n) [] []).2) := by
  by_cases h20 : 20 < n
  · have e : endK n bad = 4 := if_pos h20
    rw [e]
    exact ⟨if_pos (by rw [lb_len]; exact h20), fun h => by cases h⟩
  · rw [doK_run (by rw [lb_len]; omega) (lb_ok bad n)]
    by_cases hb : 0 ≤ bad ∧ bad < (n : Int)
    · have e : endK n bad = 2 := by unfold endK; rw [if_neg h20, if_pos hb]
      rw [e]
      obtain ⟨j, rfl⟩ := Int.eq_ofNat_of_zero_le hb.1
      obtain ⟨Yj, Tj, h1, h2⟩ := lb_run (j : Int) n j (by omega) (by omega) fun i hi => by omega
      have hg := lb_get (j : Int) (n := n) (i := j) (by omega)
      have hlk : lk (j : Int) j = ⟨#[]⟩ := if_pos rfl
      rw [hlk] at hg
      exact ⟨h1.bad hg (k := 2) (by unfold putK keyK; rfl) (by decide), fun h => by cases h⟩
    · have e : endK n bad = 0 := by unfold endK; rw [if_neg h20, if_neg hb]
      rw [e]
      obtain ⟨Yj, Tj, h1, h2⟩ := lb_run bad n n (Nat.le_refl _) (by omega) fun i hi => by omega
      obtain ⟨k1, k2⟩ := h1.end_ (by rw [lb_len]; exact Nat.le_refl _)
      rw [k1, k2]
      exact ⟨rfl, fun _ => h2⟩
/-- what is there behind the Put -/
structure EndZ (n : Nat) (bad : Int) (z : WS) : Prop where
  many : (liveL ((stZ 50 z.bs).1 :: (stZ 50 z.bs).2)).length = if endK n bad = 0 then n else 0
  tot : totL ((stZ 50 z.bs).1 :: (stZ 50 z.bs).2) ≤ 1000
  none : endK n bad ≠ 0 → z.bytes.length = 0
theorem end_put {n : Nat} {bad : Int} (hn : n ≤ 25) : (WS.new.put 50 (lb bad n)).1 = endK n bad ∧ EndZ n bad (WS.new.put 50 (lb bad n)).2 := by
  obtain ⟨h1, h2⟩ := lb_do (bad := bad) hn
  have hs : stZ 50 WS.new.bs = ([], []) := rfl
  by_cases hk : endK n bad = 0
  · have hk0 : doK 50 (stZ 50 WS.new.bs).1 (stZ 50 WS.new.bs).2 (lb bad n) = 0 := by rw [hs]; exact h1.trans hk
    rw [WS.put_ok rfl hk0 (by decide)]
    refine ⟨hk.symm, ?_, ?_, fun h => absurd hk h⟩
    · show (liveL ((stZ 50 (WS.new.bs ++ [lb bad n])).1 :: (stZ 50 (WS.new.bs ++ [lb bad n])).2)).length = _
      rw [stZ_put hk0, hs, if_pos hk]
      exact (h2 hk).live (by omega)
    · have := stZ_tot 50 (WS.new.bs ++ [lb bad n])
      have h3 : (WS.new.bs ++ [lb bad n]).length = 1 := rfl
      rw [h3] at this
      show totL ((stZ 50 (WS.new.bs ++ [lb bad n])).1 :: (stZ 50 (WS.new.bs ++ [lb bad n])).2) ≤ _
      omega
  · have hk1 : doK 50 (stZ 50 WS.new.bs).1 (stZ 50 WS.new.bs).2 (lb bad n) = endK n bad := by rw [hs]; exact h1
    rw [WS.put_bad rfl hk1 hk]
    refine ⟨rfl, ?_, ?_, fun _ => rfl⟩
    · rw [if_neg hk]; rfl
    · show totL ([] :: []) ≤ 1000; decide

set_option maxRecDepth 100000 in
set_option maxHeartbeats 4000000 in
theorem walk_yes (n : Nat) (bad : Int) (w : World) (hn : n ≤ 25) (hG : ErrG w) (hP : PowG w) :
    Calls Tryd.prog 3 #[.int .i64 n, .int .i64 bad] w fun e w' => e = .returned (.bool true) ∧ Ext w w' := by
  obtain ⟨hE, hN, hG0⟩ := errR_rules
  obtain ⟨he1, he2⟩ := end_put (bad := bad) hn
  have HPUT := Lib.hid fun A c W (h : Ext w W) b (hw : WG W b 50 WS.new) (hr : Rd W 3 A n c ((lb bad n).flatMap Pr.cells)) (hc : c ≤ maxLen) => WPut_any b 50 WS.new A n c (lb bad n) W hw hr (lb_len bad n) hc (by decide) (hP.ext h)
  rw [he1] at HPUT
  obtain ⟨z, hz⟩ : ∃ z, (WS.new.put 50 (lb bad n)).2 = z := ⟨_, rfl⟩
  rw [hz] at HPUT he2
  have HZ := Lib.hid he2
  have HE := Lib.hid hG
  obtain ⟨ek, hek⟩ : ∃ k, endK n bad = k := ⟨_, rfl⟩
  rw [hek] at HPUT
  have HEK := Lib.hid hek
  have HNEW := Lib.hid (WNew_any 50 w)
  have hb0 : lb bad 0 = [] := rfl
  have h25 : ¬ (25 : Int) < (n : Int) := by omega
  have h0 : ¬ (n : Int) < 0 := by omega
  obtain ⟨i0, hi0, hz0, hzs, hzb⟩ := info_parts info_pair
  clear he1 he2 hz hG hP hek
  go_enter Tryd.func3, Tryd.ntmps3
  go_wp2_with fail
  refine HNEW.out.mono ?_
  rintro _ w1 (⟨h, -⟩ | ⟨-, b, rfl, hwg, hbs, hb1⟩)
  · exact absurd h (by decide)
  have HW1 : Hid (WG w1 b 50 WS.new) := Lib.hid hwg
  have H0 : Hid (w1.ownsRow w1.heap.size 30 3 (.slice none 0 0) 0 ((lb bad 0).flatMap Pr.cells)) := Lib.hid (own_nil _ _ _ _)
  clear hwg hb0
  go_wp2_with fail
  go_loopw [7, 8, 9] (fun v iv _ wr => ∃ j : Nat, iv = .int .i64 j ∧ j ≤ n ∧ Ext w1 wr ∧ Hid (wr.ownsRow w1.heap.size 30 3 v j ((lb bad j).flatMap Pr.cells))) (fun _ iv _ _ => n - (intOf iv).toNat)
  case atStart => exact ⟨0, rfl, Nat.zero_le _, Ext.refl _, H0⟩
  case round =>
    obtain ⟨j, rfl, hj, hbw, hrow⟩ := hrel
    by_cases hcj : j < n
    · have HLT := Lib.hid (Lett_any j wr (by omega))
      obtain ⟨lt, hlt⟩ : ∃ x, lett j = x := ⟨_, rfl⟩
      rw [hlt] at HLT
      have HLE := Lib.hid hlt
      have HSN := Lib.hid (lb_snoc bad j)
      clear hlt
      go_wp2_with fail
      refine HLT.out.mono ?_
      rintro _ w2 ⟨rfl, hb2⟩
      obtain ⟨kb, hkb⟩ : ∃ g, w2.heap.size = g := ⟨_, rfl⟩
      have B3 := Bk.at_ w2 30 #[.string lt, .string ⟨#[118]⟩, .bool false] w2.heap.size rfl
      have e3 : Ext wr (w2.alloc (.cells #[.string lt, .string ⟨#[118]⟩, .bool false] 30)) := hb2.alloc _
      have hks : wr.heap.size ≤ kb := by rw [← hkb]; exact hb2.size
      have o3 := own_ext hrow.out e3
      have OWN : ∀ W, Ext wr W → Hid (W.ownsRow w1.heap.size 30 3 u7 j ((lb bad j).flatMap Pr.cells)) := fun W e => Lib.hid (own_ext hrow.out e)
      clear hrow o3
      go_upto_region 9 with (fail)
      generalize w2.alloc (.cells #[.string lt, .string ⟨#[118]⟩, .bool false] 30) = W3 at *
      rw [hkb] at B3
      have hend : ∀ (W4 : World) (K : ByteArray), K = lk bad j → Ext wr W4 → Bk W4 kb 30 #[.string K, .string ⟨#[118]⟩, .bool false] → ∀ (v' : Value) (w6 : World), w6.ownsRow w1.heap.size 30 3 v' (j + 1) ((lb bad j).flatMap Pr.cells ++ [.string K, .string ⟨#[118]⟩, .bool false]) → w6.ownsRow w1.heap.size 30 3 v' (j + 1) ((lb bad (j + 1)).flatMap Pr.cells) := fun W4 K hK e4 B4 v' w6 o => by
        rw [HSN.out, List.flatMap_append, ← hK]
        exact o
      have HEND := Lib.hid hend
      clear hend
      by_cases hjb : (j : Int) = bad
      · have hq : ((j : Int) == bad) = true := beq_iff_eq.2 hjb
        have hlk : (⟨#[]⟩ : ByteArray) = lk bad j := (if_pos hjb).symm
        have HK := Lib.hid hlk
        have f0 : W3.frozen? ⟨kb, 0, none⟩ = false := B3.frozen 0
        have d0 : W3.cell? ⟨kb, 0, none⟩ = some (.string lt) := B3.cell 0
        have B4 := B3.set_ 0 (.string ⟨#[]⟩)
        have e4 : Ext wr (W3.setCell ⟨kb, 0, none⟩ (.string ⟨#[]⟩)) := ((e3.chg _).trans (set_chg1 W3 kb 0 (.string ⟨#[]⟩)) fun g _ hg => hg).ext fun g hg hS => by
          have h1 : g = kb := hS
          omega
        clear B3 hlk hjb
        go_upto_region 11 with (fail)
        generalize W3.setCell ⟨kb, 0, none⟩ (.string ⟨#[]⟩) = W4 at *
        have q0 : W4.cell? ⟨kb, 0, none⟩ = some (.string ⟨#[]⟩) := B4.cell 0
        have q1 : W4.cell? ⟨kb, 1, none⟩ = some (.string ⟨#[118]⟩) := B4.cell 1
        have q2 : W4.cell? ⟨kb, 2, none⟩ = some (.bool false) := B4.cell 2
        have e5 : Ext W4 (W4.alloc (.cells #[.string ⟨#[]⟩, .string ⟨#[118]⟩, .bool false] 30)) := (Ext.refl _).alloc _
        have O5 := OWN _ (e4.trans e5)
        have e5w := hbw.trans (e4.trans e5)
        have hb5 := e5w.size
        clear OWN f0 d0
        go_wp2_with (at_builtin; go_loud (refine wpList_append_own _ rfl _ _ 27 rfl w1.heap.size 30 i0 _ 3 40 Tryd.underlying27 hi0 hz0 hzs hzb rfl (by omega) u7 j _ rfl O5.out ⟨W4.heap.size, 0, none⟩ 1 1 [.string ⟨#[]⟩, .string ⟨#[118]⟩, .bool false] (by rfl) rfl (news_new W4 _ _ _ rfl) (by intro u hu; simp at hu; rcases hu with rfl | rfl | rfl <;> rfl) (by unfold maxLen; omega) (by omega) hb5 ?_); intro v6 w6 own6 hg6 hH6; clear hH6; have e6 := own_grown O5.out hg6 w1 (Nat.le_refl _) e5w)
        have R6 := Lib.hid (HEND.out W4 _ HK.out e4 B4 _ _ own6)
        clear own6
        go_roundw
        case rel => exact ⟨j + 1, by go_num, by omega, e6, R6⟩
        case measure => simp [intOf]; omega
      · have hq : ((j : Int) == bad) = false := beq_eq_false_iff_ne.2 hjb
        have hlk : lt = lk bad j := by rw [← HLE.out]; exact (if_neg hjb).symm
        have HK := Lib.hid hlk
        clear hlk hjb
        go_upto_region 11 with (fail)
        have q0 : W3.cell? ⟨kb, 0, none⟩ = some (.string lt) := B3.cell 0
        have q1 : W3.cell? ⟨kb, 1, none⟩ = some (.string ⟨#[118]⟩) := B3.cell 1
        have q2 : W3.cell? ⟨kb, 2, none⟩ = some (.bool false) := B3.cell 2
        have e5 : Ext W3 (W3.alloc (.cells #[.string lt, .string ⟨#[118]⟩, .bool false] 30)) := (Ext.refl _).alloc _
        have O5 := OWN _ (e3.trans e5)
        have e5w := hbw.trans (e3.trans e5)
        have hb5 := e5w.size
        clear OWN
        go_wp2_with (at_builtin; go_loud (refine wpList_append_own _ rfl _ _ 27 rfl w1.heap.size 30 i0 _ 3 40 Tryd.underlying27 hi0 hz0 hzs hzb rfl (by omega) u7 j _ rfl O5.out ⟨W3.heap.size, 0, none⟩ 1 1 [.string lt, .string ⟨#[118]⟩, .bool false] (by rfl) rfl (news_new W3 _ _ _ rfl) (by intro u hu; simp at hu; rcases hu with rfl | rfl | rfl <;> rfl) (by unfold maxLen; omega) (by omega) hb5 ?_); intro v6 w6 own6 hg6 hH6; clear hH6; have e6 := own_grown O5.out hg6 w1 (Nat.le_refl _) e5w)
        have R6 := Lib.hid (HEND.out W3 _ HK.out e3 B3 _ _ own6)
        clear own6
        go_roundw
        case rel => exact ⟨j + 1, by go_num, by omega, e6, R6⟩
        case measure => simp [intOf]; omega
    · obtain rfl : j = n := by omega
      obtain ⟨A, c, rfl, hc, hr, -⟩ := own_rd hrow.out
      have e1 := hb1.trans hbw
      have HC := Lib.hid (HPUT.out A c wr e1 b (HW1.out.ext hbw) hr hc)
      clear hrow hr hc HPUT
      go_wp2_with fail
      refine HC.out.mono ?_
      rintro _ w2 ⟨rfl, hw2, k2⟩
      have e2 : Ext w w2 := ((e1.chg _).trans k2 fun g _ hg => hg).ext fun g hg hS => by
        have h1 : g = b := hS
        omega
      have HW2 := Lib.hid hw2
      have HLS := Lib.hid (WLsm_any hw2)
      clear hw2 k2 HC
      go_wp2_with fail
      refine HLS.out.mono ?_
      rintro _ w3 ⟨⟨x, rfl, hlm⟩, rfl⟩
      have HAL := Lib.hid (LAll_any aF x _ _ _ _ hlm HZ.out.tot)
      rw [HZ.out.many] at HAL
      clear hlm HLS
      go_wp2_with fail
      refine HAL.out.mono ?_
      rintro _ w3 ⟨⟨v3, rfl, o3⟩, hb3⟩
      obtain ⟨A3, c3, rfl, -, -, -⟩ := own_rd o3
      have e3 := e2.trans hb3
      have HWB := Lib.hid (WBytes_any (HW2.out.ext hb3))
      clear o3 HAL
      by_cases h20 : 20 < j
      · have hke : ek = 4 := by rw [← HEK.out]; exact if_pos h20
        subst hke
        have h20i : (20 : Int) < (j : Int) := by omega
        have hnz : ¬ endK j bad = 0 := by rw [HEK.out]; decide
        rw [if_neg hnz]
        have HER := Lib.hid (Error_is 4 w3 (HE.out.ext e3))
        clear hnz h20 HWB
        go_wp2_with fail
        refine HER.out.mono ?_
        rintro _ w4 ⟨rfl, hb4⟩
        have e4 := e3.trans hb4
        go_wp2_with fail
        go_ret
        exact ⟨rfl, e4⟩
      · have h20i : ¬ (20 : Int) < (j : Int) := by omega
        by_cases hbd : 0 ≤ bad ∧ bad < (j : Int)
        · have hke : ek = 2 := by rw [← HEK.out]; unfold endK; rw [if_neg h20, if_pos hbd]
          subst hke
          obtain ⟨hbd1, hbd2⟩ := hbd
          have hnz : ¬ endK j bad = 0 := by rw [HEK.out]; decide
          rw [if_neg hnz]
          have hbz := HZ.out.none hnz
          rw [hbz] at HWB
          have HER := Lib.hid (Error_is 2 w3 (HE.out.ext e3))
          have HWB2 := Lib.hid fun W (e : Ext w3 W) => WBytes_any ((HW2.out.ext hb3).ext e)
          rw [hbz] at HWB2
          clear hnz h20 HWB hbz
          go_wp2_with fail
          refine HER.out.mono ?_
          rintro _ w4 ⟨rfl, hb4⟩
          have e4 := e3.trans hb4
          go_wp2_with fail
          refine (HWB2.out w4 hb4).mono ?_
          rintro _ w5 ⟨rfl, rfl⟩
          go_wp2_with fail
          go_ret
          exact ⟨rfl, e4⟩
        · have hke : ek = 0 := by rw [← HEK.out]; unfold endK; rw [if_neg h20, if_neg hbd]
          subst hke
          rw [if_pos HEK.out, errR_0]
          have hbd' : bad < 0 ∨ (0 ≤ bad ∧ ¬ bad < (j : Int)) := by omega
          clear hbd h20 HWB
          rcases hbd' with h | ⟨h, h'⟩
          all_goals
            go_wp2_with fail
            go_ret
            exact ⟨rfl, e3⟩
set_option maxRecDepth 100000 in
theorem walk (n bad : Int) (w : World) (gn : igood n) (gb : igood bad) (hG : ErrG w) (hP : PowG w) :
    Calls Tryd.prog 3 #[.int .i64 n, .int .i64 bad] w fun e w' => e = .returned (.bool true) ∧ Ext w w' := by
  obtain ⟨hE, hN, hG0⟩ := errR_rules
  by_cases h : 0 ≤ n ∧ n ≤ 25
  · obtain ⟨h1, h2⟩ := h
    obtain ⟨m, rfl⟩ := Int.eq_ofNat_of_zero_le h1
    exact walk_yes m bad w (by omega) hG hP
  · have HNEW := Lib.hid (WNew_any 50 w)
    have h' : n < 0 ∨ (0 ≤ n ∧ 25 < n) := by omega
    clear h
    rcases h' with h | ⟨h, h2⟩
    all_goals
      go_enter Tryd.func3, Tryd.ntmps3
      go_wp2_with fail
      refine HNEW.out.mono ?_
      rintro _ w1 (⟨h3, -⟩ | ⟨-, b, rfl, -, -, hb1⟩)
      · exact absurd h3 (by decide)
      go_wp2_with fail
      go_ret
      exact ⟨rfl, hb1⟩
end Go.Proofs.YtcgfdhgceokcnaaDoor.walWhole
