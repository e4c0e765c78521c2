import Derived.Test.YtcgfdhgceokcnaaGreatDoorJWalKeeps25
import Derived.Test.YtcgfdhgceokcnaaGreatDoorJWalKeeps26
import Derived.Test.YtcgfdhgceokcnaaGreatDoorJWalKeeps15
import Derived.Test.YtcgfdhgceokcnaaGreatDoorJWalKeeps0
import Derived.Deep.DeepCutAuto
import Derived.Deep.CutRange
import Derived.BigQuiet
import Derived.Deep.RegionHeld3
namespace Go.Proofs.YtcgfdhgceokcnaaGreatDoor.walKeeps
open Go.RowKit Go.WideShapes
set_option linter.unusedVariables false
attribute [local go_sem ↓] Go.wp_at_zero Go.wp_at_succ

/-! ### plain: the fact -/
def pA : Pr := ⟨⟨#[97]⟩, ⟨#[120]⟩, false⟩
def pB : Pr := ⟨⟨#[98]⟩, ⟨#[121]⟩, false⟩
theorem do5 {p : Pr} (bs : List (List Pr)) (hk : keyK p.key = 0) (hv : p.value.size ≤ 200) (hg : p.gone = false) : doK 5 (stZ 5 bs).1 (stZ 5 bs).2 [p] = 0 := by
  rw [doK_one _ _ _ _ hg, put_freeZ (by have := stZ_young (lim := 5) (by decide) bs; omega) hk hv]
theorem fact_z : ∃ z1 z2 z3, WS.new.put 5 [pA] = (0, z1) ∧ z1.sync = (0, z2) ∧ z2.put 5 [pB] = (0, z3) ∧ z1.few ∧ z2.few ∧ z3.few ∧ (z3.crash 0).bs = [[pA]] ∧ (z3.crash 0).bytes.length = (z3.crash 0).safe := by
  have k1 : doK 5 (stZ 5 WS.new.bs).1 (stZ 5 WS.new.bs).2 [pA] = 0 := do5 _ (by decide) (by decide) rfl
  have k2 : doK 5 (stZ 5 [[pA]]).1 (stZ 5 [[pA]]).2 [pB] = 0 := do5 _ (by decide) (by decide) rfl
  refine ⟨⟨[[pA]], [], 0, -1, false⟩, ⟨[[pA]], [], (recsL [[pA]]).length, -1, false⟩, ⟨[[pA], [pB]], [], (recsL [[pA]]).length, -1, false⟩, WS.put_ok rfl k1 (by decide), ?_, WS.put_ok rfl k2 (by decide), ⟨by decide, by decide⟩, ⟨by decide, by decide⟩, ⟨by decide, by decide⟩, ?_⟩
  · refine (WS.sync_ok rfl (by decide)).trans ?_
    unfold WS.bytes
    simp
    rfl
  · have hm : WS.many ⟨[[pA], [pB]], [], (recsL [[pA]]).length, -1, false⟩ 0 = 1 := by
      unfold WS.many
      have hh : WS.high ⟨[[pA], [pB]], [], (recsL [[pA]]).length, -1, false⟩ 0 = markN [[pA], [pB]] 1 := by
        unfold WS.high
        show (recsL [[pA]]).length + _ = _
        have h1 : (max 0 (min 0 (((WS.bytes ⟨[[pA], [pB]], [], (recsL [[pA]]).length, -1, false⟩).length : Int) - ((recsL [[pA]]).length : Int)))).toNat = 0 := by omega
        rw [h1]
        rfl
      rw [hh]
      exact wholeN_uniq (by decide) (Nat.le_refl _) (.inr (mark_lt (by decide) (by decide)))
    refine ⟨?_, ?_⟩
    · show List.take (WS.many _ 0) [[pA], [pB]] = _
      rw [hm]; rfl
    · show (WS.bytes ⟨List.take (WS.many _ 0) [[pA], [pB]], [], _, -1, false⟩).length = markN [[pA], [pB]] (WS.many _ 0)
      rw [hm]
      unfold WS.bytes
      show (recsL [[pA]] ++ []).length = _
      rw [List.append_nil]
      rfl
theorem fact_live : (liveL ((stZ 5 [[pA]]).1 :: (stZ 5 [[pA]]).2)).length = 1 := by decide +kernel
theorem fact_tot : totL ((stZ 5 [[pA]]).1 :: (stZ 5 [[pA]]).2) ≤ 1000 := by have := stZ_flat 5 [[pA]]; simp at this; omega

theorem sync_cases (z : WS) : z.sync.2.bs = z.bs ∧ (z.sync.1 ≠ 0 ∨ (z.sync.1 = 0 ∧ z.sync.2.safe = z.sync.2.bytes.length)) := by
  unfold WS.sync
  split
  · exact ⟨rfl, .inl (by show (6 : Int) ≠ 0; decide)⟩
  · split
    · exact ⟨rfl, .inl (by show (6 : Int) ≠ 0; decide)⟩
    · exact ⟨rfl, .inr ⟨rfl, rfl⟩⟩

/-! ### the walk -/
theorem rd_row {rs : List (RowG Pr)} {w : World} {A : Option Addr} {n c : Nat} (h : Rd w 1 A n c (rs.flatMap RowG.cells)) {i : Nat} {r : RowG Pr} (hr : rs[i]? = some r) : ∃ ad, A = some ad ∧ ad.block < w.heap.size ∧ w.cell? (ad.add i) = some (.slice r.A r.n r.c) := by
  rw [flat_rows] at h
  exact h.at_ (by rw [List.getElem?_map, hr]; rfl)
theorem own_ptr1 (w : World) (B d : Nat) (hB : B ≤ w.heap.size) : (w.alloc (.cells #[.pointer (some ⟨d, 0, none⟩)] 39)).ownsRow B 39 1 (.slice (some ⟨w.heap.size, 0, none⟩) 1 1) 1 [.pointer (some ⟨d, 0, none⟩)] :=
  ⟨rfl, .inr ⟨w.heap.size, 1, #[.pointer (some ⟨d, 0, none⟩)], rfl, hB, Bk.at_ w _ _ w.heap.size rfl, Nat.le_refl _, by unfold maxLen; omega, rfl, rfl⟩⟩
theorem own_int1 (w : World) (B : Nat) (k : Int) (hB : B ≤ w.heap.size) : (w.alloc (.cells #[.int .i64 k] 3)).ownsRow B 3 1 (.slice (some ⟨w.heap.size, 0, none⟩) 1 1) 1 [.int .i64 k] :=
  ⟨rfl, .inr ⟨w.heap.size, 1, #[.int .i64 k], rfl, hB, Bk.at_ w _ _ w.heap.size rfl, Nat.le_refl _, by unfold maxLen; omega, rfl, rfl⟩⟩
theorem own_shape {w : World} {B k n : Nat} {e : TypeId} {v : Value} {xs : List Value} (h : w.ownsRow B e k v n xs) (hn : 0 < n) : ∃ g c, v = .slice (some ⟨g, 0, none⟩) n c := by
  rcases h.2 with ⟨_, h1⟩ | ⟨g, c, cur, h1, _⟩
  · omega
  · exact ⟨g, c, h1⟩
theorem rd_shape {w : World} {B k n c g : Nat} {e : TypeId} {xs : List Value} (h : w.ownsRow B e k (.slice (some ⟨g, 0, none⟩) n c) n xs) : Rd w k (some ⟨g, 0, none⟩) n c xs := by
  obtain ⟨A, c', h1, -, h2, -⟩ := own_rd h
  injection h1 with a1 a2 a3
  subst a1 a3
  exact h2
theorem addr_off (g i : Nat) : ((⟨g, 0, none⟩ : Addr).add i) = ⟨g, i, none⟩ := by
  unfold Addr.add
  split
  · rename_i h; subst h; rfl
  · simp
/-- the last mark that is low enough, among the first i -/
def lfN (bs : List (List Pr)) (H : Nat) (i : Nat) : Nat := if i = 0 then 0 else wholeN bs H (i - 1)
theorem lfN_step (bs : List (List Pr)) (H i : Nat) : lfN bs H (i + 1) = if markN bs i ≤ H then i else lfN bs H i := by
  show (if i + 1 = 0 then 0 else wholeN bs H (i + 1 - 1)) = _
  rw [if_neg (by omega), Nat.add_sub_cancel]
  cases i with
  | zero =>
    show (0 : Nat) = if markN bs 0 ≤ H then 0 else lfN bs H 0
    rw [mark_zero, if_pos (Nat.zero_le _)]
  | succ i =>
    have h : lfN bs H (i + 1) = wholeN bs H i := by unfold lfN; rw [if_neg (by omega), Nat.add_sub_cancel]
    rw [h]
    rfl
theorem info_ptr : (Tryz.prog.info? 39).map (fun i => (i.zero, i.size, i.bytes)) = some (some (.pointer none), 1, 8) := by kernel_rfl
theorem info_int' : (Tryz.prog.info? 3).map (fun i => (i.zero, i.size, i.bytes)) = some (some (.int .i64 0), 1, 8) := by kernel_rfl

set_option maxRecDepth 100000 in
set_option maxHeartbeats 100000000 in
theorem walk_yes (lim : Nat) (A1 : Option Addr) (n1 c1 : Nat) (rs : List (RowG Pr)) (A2 : Option Addr) (n2 c2 : Nat) (ss : List Int) (A3 : Option Addr) (n3 c3 : Nat) (fs : List Int) (A4 : Option Addr) (n4 c4 : Nat) (ks : List Int) (w : World) (hlim : 1 ≤ lim ∧ lim ≤ 60)
    (hl1 : rs.length = n1) (hm1 : c1 ≤ maxLen) (hr1 : Rd w 1 A1 n1 c1 (rs.flatMap RowG.cells)) (hg1 : ∀ y ∈ rs, y.good w 3 Pr.cells Pr.good)
    (hl2 : ss.length = n2) (hm2 : c2 ≤ maxLen) (hr2 : Rd w 1 A2 n2 c2 (ss.map (Value.int .i64)))
    (hl3 : fs.length = n3) (hm3 : c3 ≤ maxLen) (hr3 : Rd w 1 A3 n3 c3 (fs.map (Value.int .i64))) (hg3 : ∀ y ∈ fs, igood y)
    (hl4 : ks.length = n4) (hm4 : c4 ≤ maxLen) (hr4 : Rd w 1 A4 n4 c4 (ks.map (Value.int .i64))) (hg4 : ∀ y ∈ ks, igood y)
    (hS : StrG w) (hM : MaxG w) (hG : ErrG w) (hP : PowG w) :
    Calls Tryz.prog 3 #[.int .i64 lim, .slice A1 n1 c1, .slice A2 n2 c2, .slice A3 n3 c3, .slice A4 n4 c4] w fun e w' => e = .returned (.bool true) ∧ Ext w w' := by
  obtain ⟨hE, hN, hG0⟩ := errR_rules
  obtain ⟨z1, z2, z3, hz1, hz2, hz3, hf1, hf2, hf3, hcb, hcs⟩ := fact_z
  have HZ1 := Lib.hid hz1
  have HZ2 := Lib.hid hz2
  have HZ3 := Lib.hid hz3
  have HF1 := Lib.hid hf1
  have HF2 := Lib.hid hf2
  have HF3 := Lib.hid hf3
  have HCB := Lib.hid hcb
  have HCS := Lib.hid hcs
  have HE := Lib.hid hG
  have HP := Lib.hid hP
  have HSG := Lib.hid hS
  have HMG := Lib.hid hM
  have HR1 := Lib.hid hr1
  have HR2 := Lib.hid hr2
  have HR3 := Lib.hid hr3
  have HR4 := Lib.hid hr4
  have HL1 := Lib.hid hl1
  have HL2 := Lib.hid hl2
  have HL3 := Lib.hid hl3
  have HL4 := Lib.hid hl4
  have HG1 := Lib.hid hg1
  have HG3 := Lib.hid hg3
  have HG4 := Lib.hid hg4
  have b1 := hr1.2.1
  have b2 := hr2.2.1
  have b3 := hr3.2.1
  have b4 := hr4.2.1
  have i0g : igood 0 := by unfold igood; decide
  have HI0 := Lib.hid i0g
  clear hS hM hG hP hz1 hz2 hz3 hf1 hf2 hf3 hcb hcs hr1 hr2 hr3 hr4 hl1 hl2 hl3 hl4 hg1 hg3 hg4 i0g
  unfold maxLen at hm1 hm2 hm3 hm4
  go_enter Tryz.func3, Tryz.ntmps3
  go_wp2_with fail
  refine (WNew_any 5 w).mono ?_
  rintro _ w1 (⟨h, -⟩ | ⟨-, b0, rfl, hwg, hbs, hb1⟩)
  · exact absurd h (by decide)
  have HW1 : Hid (WG w1 b0 5 WS.new) := Lib.hid hwg
  clear hwg
  go_wp2_with fail
  refine (put_one w w1 b0 5 WS.new z1 ⟨#[97]⟩ ⟨#[120]⟩ false 0 HW1.out hb1 hbs ⟨by decide, by decide⟩ HP.out HZ1.out).mono ?_
  rintro _ w2 ⟨rfl, hw2, e2⟩
  rw [errR_0]
  have HW2 := Lib.hid hw2
  clear hw2
  go_wp2_with fail
  refine (sync_one w w2 b0 5 z1 z2 0 HW2.out e2 hbs HZ2.out).mono ?_
  rintro _ w3 ⟨rfl, hw3, e3⟩
  rw [errR_0]
  have HW3 := Lib.hid hw3
  clear hw3
  go_wp2_with fail
  refine (put_one w w3 b0 5 z2 z3 ⟨#[98]⟩ ⟨#[121]⟩ false 0 HW3.out e3 hbs HF2.out HP.out HZ3.out).mono ?_
  rintro _ w4 ⟨rfl, hw4, e4⟩
  rw [errR_0]
  have HW4 := Lib.hid hw4
  clear hw4
  go_wp2_with fail
  refine (crash_one w w4 b0 5 z3 0 HW4.out e4 hbs HF3.out HI0.out HSG.out HMG.out).mono ?_
  rintro _ w5 ⟨⟨v5, rfl⟩, hw5, e5⟩
  have HW5 := Lib.hid hw5
  have HLS := Lib.hid (WLsm_any hw5)
  clear hw5
  go_wp2_with fail
  refine HLS.out.mono ?_
  rintro _ w6 ⟨⟨x6, rfl, hlm⟩, rfl⟩
  rw [HCB.out] at hlm
  have HAL := Lib.hid (LAll_any aF x6 _ _ _ _ hlm fact_tot)
  rw [fact_live] at HAL
  clear hlm HLS
  go_wp2_with fail
  refine HAL.out.mono ?_
  rintro _ w6 ⟨⟨v6, rfl, o6⟩, hb6⟩
  obtain ⟨A6, c6, rfl, -, -, -⟩ := own_rd o6
  have e6 := e5.trans hb6
  have HWB := Lib.hid (WBytes_any (HW5.out.ext hb6))
  have HWS := Lib.hid (WSafe_any (HW5.out.ext hb6))
  rw [HCS.out] at HWB
  clear o6 HAL HZ1 HZ2 HZ3 HF1 HF2 HF3 HCB HCS HW1 HW2 HW3 HW4 HW5
  go_wp2_with fail
  refine HWB.out.mono ?_
  rintro _ _ ⟨rfl, rfl⟩
  go_wp2_with fail
  refine HWS.out.mono ?_
  rintro _ _ ⟨rfl, rfl⟩
  clear HWB HWS
  go_wp2_with fail
  refine (WNew_any (lim : Int) w6).mono ?_
  rintro _ w7 (⟨h, -⟩ | ⟨-, b, rfl, hwg, hbs7, hb7⟩)
  · exact absurd h (by omega)
  rw [Int.toNat_natCast] at hwg
  have HW7 := Lib.hid hwg
  clear hwg
  obtain ⟨g7, hg7⟩ : ∃ g, w7.heap.size = g := ⟨_, rfl⟩
  have hb67 := hb7.size
  have B8 := Bk.at_ w7 41 #[.int .i64 lim, .slice none 0 0, .slice none 0 0] w7.heap.size rfl
  have e8 : Ext w7 (w7.alloc (.cells #[.int .i64 lim, .slice none 0 0, .slice none 0 0] 41)) := (Ext.refl _).alloc _
  have s8 : (w7.alloc (.cells #[.int .i64 lim, .slice none 0 0, .slice none 0 0] 41)).heap.size = g7 + 1 := by rw [← hg7]; simp
  have o9 := own_ptr1 (w7.alloc (.cells #[.int .i64 lim, .slice none 0 0, .slice none 0 0] 41)) w6.heap.size g7 (by omega)
  rw [s8] at o9
  rw [hg7] at B8
  go_upto_region 15 with (fail)
  generalize w7.alloc (.cells #[.int .i64 lim, .slice none 0 0, .slice none 0 0] 41) = W8 at *
  have e9 : Ext W8 (W8.alloc (.cells #[.pointer (some ⟨g7, 0, none⟩)] 39)) := (Ext.refl _).alloc _
  have s9 : (W8.alloc (.cells #[.pointer (some ⟨g7, 0, none⟩)] 39)).heap.size = g7 + 1 + 1 := by simp [s8]
  generalize W8.alloc (.cells #[.pointer (some ⟨g7, 0, none⟩)] 39) = W9 at *
  have o10 := own_int1 W9 w6.heap.size 0 (by omega)
  rw [s9] at o10
  have e10 : Ext W9 (W9.alloc (.cells #[.int .i64 0] 3)) := (Ext.refl _).alloc _
  go_upto_region 16 with (fail)
  generalize W9.alloc (.cells #[.int .i64 0] 3) = W10 at *
  have hki : KI w6 W10 b lim WS.new [] [] (.slice (some ⟨g7 + 1, 0, none⟩) 1 1) (.slice (some ⟨g7 + 1 + 1, 0, none⟩) 1 1) [g7] :=
    ⟨((hb7.trans e8).trans e9).trans e10, ((HW7.out.ext e8).ext e9).ext e10, own_ext o9 e10, o10, fun i d hd => by
      cases i with
      | zero =>
        obtain rfl : g7 = d := by simpa using hd
        exact ⟨.slice none 0 0, .slice none 0 0, [], ⟨(B8.ext e9).ext e10, own_nil _ _ _ _, own_nil _ _ _ _, OwLs.nil _⟩, fun _ _ => trivial⟩
      | succ i => simp at hd⟩
  have HKI : Hid (KI w6 W10 b lim WS.new WS.new.bs WS.new.bs (.slice (some ⟨g7 + 1, 0, none⟩) 1 1) (.slice (some ⟨g7 + 1 + 1, 0, none⟩) 1 1) [g7]) := Lib.hid hki
  clear hki o9 o10 B8 s8 s9 e8 e9 e10 hb7 HW7
  generalize g7 + 1 + 1 = g9 at *
  generalize g7 + 1 = g8 at *
  obtain ⟨i0, hi0, hz0, hzs0, hzb0⟩ := info_parts info_ptr
  obtain ⟨j0, hj0, jz0, jzs, jzb⟩ := info_parts info_int'
  go_wp2_with fail
  go_loopw [19, 20, 21, 22, 23, 24, 25, 26, 27, 28, 29, 30, 31, 32, 33, 34, 35, 36, 37, 38, 39, 40] (fun vD vM va vr _ _ _ _ _ _ _ _ _ _ _ _ _ _ _ _ _ _ wr => ∃ (rd a : Nat) (z : WS) (ds : List Nat), vr = .int .i64 rd ∧ va = .int .i64 a ∧ rd ≤ 4 ∧ rd ≤ n3 + 1 ∧ a ≤ n1 ∧ a ≤ 8 * rd ∧ z.bs.length ≤ a ∧ Hid (KI w6 wr b lim z z.bs z.bs vD vM ds)) (fun _ _ _ vr _ _ _ _ _ _ _ _ _ _ _ _ _ _ _ _ _ _ _ => 5 - (intOf vr).toNat)
  case atStart => exact ⟨0, 0, WS.new, [g7], rfl, rfl, by omega, by omega, by omega, by omega, Nat.zero_le _, HKI⟩
  case round =>
    obtain ⟨rd, a0, z0, ds0, rfl, rfl, hr4, hrn, ha0, ha8, hzl, hki⟩ := hrel
    by_cases hcr : rd ≤ n3 ∧ rd < 4
    · obtain ⟨hc1, hc2⟩ := hcr
      have hc1i : (rd : Int) ≤ (n3 : Int) := by omega
      have hc2i : (rd : Int) < 4 := by omega
      go_upto_if 115 with (fail)
      go_cut [] (fun wc => ∃ z1 : WS, z1.bs = z0.bs ∧ Hid (KI w6 wc b lim z1 z0.bs z0.bs u19 u20 ds0))
      case first =>
        as_aux_lemma =>
        --DONE<
        by_cases hrf : rd < n3
        · have hrfi : (rd : Int) < (n3 : Int) := by omega
          obtain ⟨f, hf⟩ : ∃ f, fs[rd]? = some f := ⟨_, List.getElem?_eq_getElem (by rw [HL3.out]; exact hrf)⟩
          obtain ⟨ad, rfl, hbl, y0⟩ := (HR3.out.ext (e6.trans hki.out.ext)).getI hf
          have HFL := Lib.hid (WFail_any hki.out.wg f (igood_bd (HG3.out f (List.mem_of_getElem? hf))).2)
          clear hf
          go_wp2_with fail
          refine HFL.out.mono ?_
          rintro _ w8 ⟨⟨v8, rfl⟩, hw8, k8⟩
          have HK8 : Hid (KI w6 w8 b lim (z0.fail f) z0.bs z0.bs u19 u20 ds0) := Lib.hid (hki.out.wal hbs7 hw8 k8)
          clear hw8 k8
          go_wp2_with fail
          go_meet
          exact ⟨z0.fail f, rfl, HK8⟩
        · have hrfi : ¬ (rd : Int) < (n3 : Int) := by omega
          go_wp2_with fail
          go_meet
          exact ⟨z0, rfl, hki⟩
        --DONE>
      case rest =>
      as_aux_lemma =>
      obtain ⟨z1, hz1, hki1⟩ := hcut
      rw [← hz1] at hki1 hzl
      clear hki hz1
      go_wp2_with fail
      go_loopw [19, 20, 21, 23, 24, 25, 26, 27, 28, 29, 30, 31, 32] (fun vD vM va vk _ _ _ _ _ _ _ _ _ wr => ∃ (k a : Nat) (z : WS) (ds : List Nat), vk = .int .i64 k ∧ va = .int .i64 a ∧ k ≤ 8 ∧ a ≤ n1 ∧ a ≤ 8 * rd + k ∧ z.bs.length ≤ a ∧ Hid (KI w6 wr b lim z z.bs z.bs vD vM ds)) (fun _ _ _ vk _ _ _ _ _ _ _ _ _ _ => 8 - (intOf vk).toNat)
      case atStart => exact ⟨0, a0, z1, ds0, rfl, rfl, by omega, ha0, by omega, hzl, hki1⟩
      case round =>
        obtain ⟨k, a, z, ds, rfl, rfl, hk8, han, hak, hzl2, hki2⟩ := hrel
        by_cases hck : k < 8 ∧ a < n1
        · --DONE2<
          obtain ⟨hk1, hk2⟩ := hck
          have hk1i : (k : Int) < 8 := by omega
          have hk2i : (a : Int) < (n1 : Int) := by omega
          obtain ⟨r, hr⟩ : ∃ r, rs[a]? = some r := ⟨_, List.getElem?_eq_getElem (by rw [HL1.out]; exact hk2)⟩
          obtain ⟨hrl, hrc, hrr, -⟩ := HG1.out r (List.mem_of_getElem? hr)
          have HRR := Lib.hid hrr
          have HRC := Lib.hid hrc
          have HRLN := Lib.hid hrl
          have HRI := Lib.hid hr
          have hzs : z.bs.length ≤ 31 := by omega
          clear hrr hrc hrl hr
          go_upto_region 25 with (fail)
          go_cut [154] (fun v wd => v = .bool false ∧ ∃ z2 : WS, z2.bs = z.bs ∧ Hid (KI w6 wd b lim z2 z.bs z.bs u19 u20 ds))
          case first =>
            as_aux_lemma =>
            --DONE<
            by_cases hs1 : a < n2
            · have hs1i : (a : Int) < (n2 : Int) := by omega
              obtain ⟨sv, hsv⟩ : ∃ f, ss[a]? = some f := ⟨_, List.getElem?_eq_getElem (by rw [HL2.out]; exact hs1)⟩
              obtain ⟨ad, rfl, hbl, y0⟩ := (HR2.out.ext (e6.trans hki2.out.ext)).getI hsv
              by_cases hs2 : sv = 1
              · subst hs2
                have HSY := Lib.hid (WSync_any hki2.out.wg)
                obtain ⟨hsb, hsc⟩ := sync_cases z
                obtain ⟨q, hq⟩ : ∃ q, z.sync.1 = q := ⟨_, rfl⟩
                obtain ⟨zs, hzs'⟩ : ∃ q, z.sync.2 = q := ⟨_, rfl⟩
                rw [hq, hzs'] at HSY hsc
                rw [hzs'] at hsb
                have HSB := Lib.hid hsb
                clear hsv hq hzs' hsb
                rcases hsc with hq0 | ⟨rfl, hsf⟩
                · have hok := isOk_no hq0
                  clear hq0
                  go_wp2_with fail
                  refine HSY.out.mono ?_
                  rintro _ w8 ⟨rfl, hw8, k8⟩
                  have HK8 := Lib.hid (hki2.out.wal hbs7 hw8 k8)
                  clear hw8 k8
                  go_wp2_with fail
                  go_meet
                  exact ⟨rfl, zs, HSB.out, HK8⟩
                · rw [errR_0] at HSY
                  have HSF := Lib.hid hsf
                  clear hsf
                  go_wp2_with fail
                  refine HSY.out.mono ?_
                  rintro _ w8 ⟨rfl, hw8, k8⟩
                  have HK8 := Lib.hid (hki2.out.wal hbs7 hw8 k8)
                  have HC1 := Lib.hid (WSafe_any hw8)
                  have HC2 := Lib.hid (WBytes_any hw8)
                  rw [HSF.out] at HC1
                  clear hw8 k8
                  go_wp2_with fail
                  refine HC1.out.mono ?_
                  rintro _ _ ⟨rfl, rfl⟩
                  go_wp2_with fail
                  refine HC2.out.mono ?_
                  rintro _ _ ⟨rfl, rfl⟩
                  go_wp2_with fail
                  go_meet
                  exact ⟨rfl, zs, HSB.out, HK8⟩
              · have hs2i : (sv == 1) = false := beq_eq_false_iff_ne.2 hs2
                clear hsv hs2
                go_wp2_with fail
                go_meet
                exact ⟨rfl, z, rfl, hki2⟩
            · have hs1i : ¬ (a : Int) < (n2 : Int) := by omega
              go_wp2_with fail
              go_meet
              exact ⟨rfl, z, rfl, hki2⟩
            --DONE>
          case rest =>
          as_aux_lemma =>
          obtain ⟨rfl, z2, hz2, hki3⟩ := hcut
          rw [← hz2] at hki3 hzl2 hzs
          clear hki2 hz2
          obtain ⟨m, hm⟩ : ∃ m, z2.bs.length = m := ⟨_, rfl⟩
          have hdn := hki3.out.dn
          have hmr := hki3.out.mr
          have hdl := hki3.out.len
          rw [hm] at hdn hmr hdl hzs hzl2
          obtain ⟨AD, cD, rfl, hcD, hrD, -⟩ := own_rd hdn
          obtain ⟨d, hd⟩ : ∃ d, ds[m]? = some d := ⟨_, List.getElem?_eq_getElem (by omega)⟩
          have hdcell : (ds.map ptrV)[m]? = some (.pointer (some ⟨d, 0, none⟩)) := by rw [List.getElem?_map, hd]; rfl
          obtain ⟨adD, rfl, hbD, -⟩ := hrD.at_ hdcell
          have r1 : ∀ x_1 : WE wc, x_1.W.cell? (adD.add m) = some (.pointer (some ⟨d, 0, none⟩)) := fun x_1 => by
            obtain ⟨ad', h1, h2, h3⟩ := (hrD.ext x_1.h).at_ hdcell
            obtain rfl : adD = ad' := by injection h1
            exact h3
          obtain ⟨ad1, rfl, hb1r, -⟩ := rd_row (HR1.out.ext (e6.trans hki3.out.ext)) HRI.out
          have r2 : ∀ x_1 : WE wc, x_1.W.cell? (ad1.add a) = some (.slice r.A r.n r.c) := fun x_1 => by
            obtain ⟨ad', h1, h2, h3⟩ := rd_row (HR1.out.ext ((e6.trans hki3.out.ext).trans x_1.h)) HRI.out
            obtain rfl : ad1 = ad' := by injection h1
            exact h3
          have hrmm := hki3.out.rf m d hd
          rw [List.take_of_length_le (by omega)] at hrmm
          have hmany : (stZ lim z2.bs).2.length ≤ 8 := by
            obtain ⟨-, -, x, sx, -, -, hlx⟩ := hki3.out.wg
            exact hlx.many.2.1
          have HBT := Lib.hid fun W (e : Ext wc W) => RBatch_any d lim (stZ lim z2.bs).1 (stZ lim z2.bs).2 r.A r.n r.c r.xs W (hrmm.ext e) (HRR.out.ext ((e6.trans hki3.out.ext).trans e)) HRLN.out HRC.out (by have h1 := stZ_tot lim z2.bs; omega) hlim (stZ_ok lim _) (stZ_young hlim.1 _) hmany
          have hm1 : IntKind.i64.wrap (((m + 1 : Nat) : Int) - 1) = (m : Int) := by rw [show ((m + 1 : Nat) : Int) - 1 = (m : Int) by omega]; exact IntWalk.i64_in _ (by omega)
          have hmc : m + 1 ≤ cD := hrD.2.1
          obtain ⟨m1, hmm1⟩ : ∃ m1, m + 1 = m1 := ⟨_, rfl⟩
          rw [hmm1] at hm1 hmc hdn hmr hrD hki3 ⊢
          have hmi : (m : Int) < (m1 : Int) := by omega
          have hm0 : (0 : Int) ≤ (m : Int) := by omega
          have HM := Lib.hid hm
          have HMM := Lib.hid hmm1
          have HD := Lib.hid hd
          clear hdn hmr hdl hrD hdcell hrmm hm hd hbD hb1r hmany
          go_upto_region 27 with (fail)
          go_cut [24, 25] (fun v24 v25 wd => ∃ (kk : Int) (mb' : Nat), v24 = .pointer (some ⟨mb', 0, none⟩) ∧ v25 = .int .i64 kk ∧ Hid (doK lim (stZ lim z2.bs).1 (stZ lim z2.bs).2 r.xs = kk) ∧ Ext wc wd ∧ Hid (kk = 0 → RM wd aF mb' lim (runB lim r.xs (stZ lim z2.bs).1 (stZ lim z2.bs).2).1 (runB lim r.xs (stZ lim z2.bs).1 (stZ lim z2.bs).2).2))
          case first =>
            as_aux_lemma =>
            --DONE<
            have r1' : wc.cell? (adD.add m) = some (.pointer (some ⟨d, 0, none⟩)) := r1 ⟨wc, Ext.refl _⟩
            have r2' : wc.cell? (ad1.add a) = some (.slice r.A r.n r.c) := r2 ⟨wc, Ext.refl _⟩
            go_region_held3 (fun W => W.cell? (adD.add m) = some (.pointer (some ⟨d, 0, none⟩)) ∧ W.cell? (ad1.add a) = some (.slice r.A r.n r.c)) (first | exact ⟨r1', r2'⟩ | (refine ⟨r1 ⟨_, ?_⟩, r2 ⟨_, ?_⟩⟩; (all_goals ((repeat (with_reducible first | exact Ext.refl _ | assumption | refine Ext.drew ?_ | refine Ext.drewN ?_ _ | refine Ext.alloc ?_ _ | refine Ext.trans ?_ (by with_reducible assumption))))))) (first
              | (go_at_call 15; (with_reducible refine (HBT.out _ ?_).mono ?_); (focus ((repeat (with_reducible first | exact Ext.refl _ | assumption | refine Ext.drew ?_ | refine Ext.drewN ?_ _ | refine Ext.alloc ?_ _ | refine Ext.trans ?_ (by with_reducible assumption))); done)); rintro _ w9 ⟨kk, hkk, hb9, mb', rfl, hrm⟩; have HKK := Lib.hid hkk; have HRM := Lib.hid hrm; clear hkk hrm)
              | fail)
            all_goals
              go_wp2_with fail
              go_meet
              exact ⟨kk, mb', rfl, rfl, HKK, by (repeat (with_reducible first | exact Ext.refl _ | assumption | refine Ext.drew ?_ | refine Ext.drewN ?_ _ | refine Ext.alloc ?_ _ | refine Ext.trans ?_ (by with_reducible assumption))), HRM⟩
            --DONE>
          case rest =>
          as_aux_lemma =>
          obtain ⟨kk, mb', rfl, rfl, HKK, hb9, HRM⟩ := hcut
          have hki5 := Lib.hid (hki3.out.ext' hb9)
          clear HBT hki3 r1 r2
          have HBY := Lib.hid (WBytes_any hki5.out.wg)
          obtain ⟨Lz, hLz⟩ : ∃ l, z2.bytes.length = l := ⟨_, rfl⟩
          rw [hLz] at HBY
          have HLZ := Lib.hid hLz
          clear hLz
          go_wp2_with fail
          refine HBY.out.mono ?_
          rintro _ _ ⟨rfl, rfl⟩
          clear HBY
          have r2 : wc.cell? (ad1.add a) = some (.slice r.A r.n r.c) := by
            obtain ⟨ad', h1, h2, h3⟩ := rd_row (HR1.out.ext (e6.trans hki5.out.ext)) HRI.out
            obtain rfl : ad1 = ad' := by injection h1
            exact h3
          have HPT := Lib.hid (WPut_any b lim z2 r.A r.n r.c r.xs wc hki5.out.wg (HRR.out.ext (e6.trans hki5.out.ext)) HRLN.out HRC.out (by have := HM.out; omega) (HP.out.ext (e6.trans hki5.out.ext)))
          have HPC := Lib.hid (put_cases hki5.out.wg.ok r.xs)
          obtain ⟨q, hq⟩ : ∃ q, (z2.put lim r.xs).1 = q := ⟨_, rfl⟩
          obtain ⟨zp, hzp⟩ : ∃ q, (z2.put lim r.xs).2 = q := ⟨_, rfl⟩
          rw [hq, hzp] at HPT HPC
          rw [HKK.out] at HPC
          clear hq hzp
          go_wp2_with fail
          refine HPT.out.mono ?_
          rintro _ w10 ⟨rfl, hw10, k10⟩
          have hki6 := Lib.hid (hki5.out.wal hbs7 hw10 k10)
          have HRM6 : Hid (kk = 0 → RM w10 aF mb' lim (runB lim r.xs (stZ lim z2.bs).1 (stZ lim z2.bs).2).1 (runB lim r.xs (stZ lim z2.bs).1 (stZ lim z2.bs).2).2) := Lib.hid fun h => by
            obtain ⟨-, -, xb, sb, hbk, -, -⟩ := hki5.out.wg
            exact (HRM.out h).blk hbk k10
          have HE1 := Lib.hid fun W (e : Ext w10 W) => Error_any q 6 W (HE.out.ext ((e6.trans hki6.out.ext).trans e))
          have HE2 := Lib.hid fun W (e : Ext w10 W) => Error_any q kk W (HE.out.ext ((e6.trans hki6.out.ext).trans e))
          have hv : errIs q 6 = true ∨ errIs q kk = true := by
            rcases HPC.out with ⟨h1, h2, -⟩ | ⟨-, -, h1 | h1⟩
            · exact .inr (by rw [h1, h2]; rfl)
            · exact .inl (by rw [h1]; rfl)
            · exact .inr (by rw [h1]; exact errIs_eq kk)
          obtain ⟨v1, hv1⟩ : ∃ v, errIs q 6 = v := ⟨_, rfl⟩
          obtain ⟨v2, hv2⟩ : ∃ v, errIs q kk = v := ⟨_, rfl⟩
          rw [hv1, hv2] at hv
          rw [hv1] at HE1
          rw [hv2] at HE2
          have HV := Lib.hid hv
          clear hw10 k10 HPT hki5 HRM hv hv1 hv2 r2
          go_wp2_with fail
          refine (HE1.out w10 (Ext.refl _)).mono ?_
          rintro _ w11 ⟨rfl, hb11⟩
          go_wp2_with fail
          refine (HE2.out w11 hb11).mono ?_
          rintro _ w12 ⟨rfl, hb12⟩
          have hb13 := hb11.trans hb12
          clear HE1 HE2
          go_upto_region 33 with (fail)
          go_cut [189] (fun v wd => v = .bool false ∧ Ext w10 wd)
          case first =>
            as_aux_lemma =>
            --DONE<
            have hv := HV.out
            cases v1 <;> cases v2
            · rcases hv with h | h <;> cases h
            all_goals
              clear hv HV
              go_wp2_with fail
              go_meet
              exact ⟨rfl, hb13⟩
            --DONE>
          case rest =>
          as_aux_lemma =>
          obtain ⟨rfl, hbc⟩ := hcut
          have hki7 := Lib.hid (hki6.out.ext' hbc)
          have HRM7 : Hid (kk = 0 → RM wc aF mb' lim (runB lim r.xs (stZ lim z2.bs).1 (stZ lim z2.bs).2).1 (runB lim r.xs (stZ lim z2.bs).1 (stZ lim z2.bs).2).2) := Lib.hid fun h => (HRM6.out h).ext hbc
          clear hki6 HRM6 hb11 hb12 hb13 hbc
          go_upto_if 191 with (fail)
          go_cut [19, 20] (fun vD vM wd => ∃ ds' : List Nat, Hid (KI w6 wd b lim zp zp.bs zp.bs vD vM ds'))
          case first =>
            as_aux_lemma =>
            --DONE1<
            rcases HPC.out with ⟨hq0, hk0, hbs', hlen, hge⟩ | ⟨hq0, hbs', -⟩
            · subst hq0
              have hok0 : isOk 0 = true := rfl
              have hzl := hki7.out.wg.ok.len
              have hzpl : zp.bs.length = m + 1 := by rw [hbs', List.length_append, HM.out]; rfl
              obtain ⟨Lp, hLp⟩ : ∃ l, zp.bytes.length = l := ⟨_, rfl⟩
              have HBY1 := Lib.hid (WBytes_any hki7.out.wg)
              rw [hLp] at HBY1 hlen hge hzl
              rw [HLZ.out] at hge
              have hLb : Lp ≤ 1700000 := by
                have h3 : (zp.bs.length + 1) * 40700 ≤ 34 * 40700 := Nat.mul_le_mul_right _ (by omega)
                omega
              have hw2 : IntKind.i64.wrap ((Lz : Int) + 2) = (Lz : Int) + 2 := IntWalk.i64_in _ (by omega)
              have hlt : ¬ (Lp : Int) < (Lz : Int) + 2 := by omega
              have HB := Lib.hid hbs'
              have HLN := Lib.hid hlen
              have HRN := Lib.hid (HRM7.out hk0)
              rw [hk0] at HKK
              have HLP := Lib.hid hLp
              clear hbs' hlen hzl hzpl hLp hk0 HRM7
              go_wp2_with fail
              refine HBY1.out.mono ?_
              rintro _ _ ⟨rfl, rfl⟩
              clear HBY1
              go_upto_region 38 with (fail)
              have e9 : Ext wc (wc.alloc (.cells #[.pointer (some ⟨mb', 0, none⟩)] 39)) := (Ext.refl _).alloc _
              have hki9 := Lib.hid (hki7.out.ext' e9)
              have HR9 := Lib.hid (HRN.out.ext e9)
              have HDN : Hid ((wc.alloc (.cells #[.pointer (some ⟨mb', 0, none⟩)] 39)).ownsRow w6.heap.size 39 1 (.slice (some adD) m1 cD) m1 (ds.map ptrV)) := by
                have h := hki9.out.dn
                rw [HM.out, HMM.out] at h
                exact h
              have hb9' := hki9.out.ext.size
              go_wp2_with (at_builtin; go_loud (refine wpList_append_own _ rfl _ _ 42 rfl w6.heap.size 39 i0 _ 1 8 Tryz.underlying42 hi0 hz0 hzs0 hzb0 rfl (by omega) (.slice (some adD) m1 cD) m1 (ds.map ptrV) rfl HDN.out ⟨wc.heap.size, 0, none⟩ 1 1 [.pointer (some ⟨mb', 0, none⟩)] (by rfl) rfl (news_new wc _ _ _ rfl) (by intro u hu; simp at hu; subst hu; rfl) (by unfold maxLen; omega) (by omega) hb9' ?_); intro v11 w11 own11 hg11 hH11; clear hH11)
              have hki10 : Hid (KI w6 w11 b lim zp (z2.bs ++ [r.xs]) z2.bs v11 u20 (ds ++ [mb'])) := Lib.hid (hki9.out.appD (by rw [stZ_put HKK.out]; exact HR9.out) (by rw [HM.out, HMM.out]; exact own11) hg11)
              have HBY2 := Lib.hid (WBytes_any hki10.out.wg)
              rw [HLP.out] at HBY2
              clear own11 hg11 hki9 HR9 HDN
              go_wp2_with fail
              refine HBY2.out.mono ?_
              rintro _ _ ⟨rfl, rfl⟩
              clear HBY2
              have e12 : Ext w11 (w11.alloc (.cells #[.int .i64 (Lp : Int)] 3)) := (Ext.refl _).alloc _
              have hki12 := Lib.hid (hki10.out.ext' e12)
              have HMR : Hid ((w11.alloc (.cells #[.int .i64 (Lp : Int)] 3)).ownsRow w6.heap.size 3 1 u20 m1 (marksV z2.bs (z2.bs.length + 1))) := Lib.hid (by
                have h := hki12.out.mr
                rw [HM.out, HMM.out] at h ⊢
                exact h)
              have hb12' := hki12.out.ext.size
              go_wp2_with (at_builtin; go_loud (refine wpList_append_own _ rfl _ _ 23 rfl w6.heap.size 3 j0 _ 1 8 Tryz.underlying23 hj0 jz0 jzs jzb rfl (by omega) u20 m1 (marksV z2.bs (z2.bs.length + 1)) rfl HMR.out ⟨w11.heap.size, 0, none⟩ 1 1 [.int .i64 (Lp : Int)] (by rfl) rfl (news_new w11 _ _ _ rfl) (by intro u hu; simp at hu; subst hu; rfl) (by unfold maxLen; omega) (by omega) hb12' ?_); intro v13 w13 own13 hg13 hH13; clear hH13)
              have hki13 : Hid (KI w6 w13 b lim zp (z2.bs ++ [r.xs]) (z2.bs ++ [r.xs]) v11 v13 (ds ++ [mb'])) := Lib.hid (hki12.out.appM (by rw [← HLN.out, HM.out, HMM.out]; rw [HM.out, HMM.out] at own13; exact own13) hg13)
              clear own13 hg13 hki12 HMR
              go_meet
              exact ⟨ds ++ [mb'], Lib.hid (by rw [HB.out]; exact hki13.out)⟩
            · have hok := isOk_no hq0
              have hkz : Hid (KI w6 wc b lim zp zp.bs zp.bs (.slice (some adD) m1 cD) u20 ds) := Lib.hid (by rw [hbs']; exact hki7.out)
              clear hq0 hbs' HRM7
              go_wp2_with fail
              · exact absurd (by assumption : isOk q = true) (by rw [hok]; decide)
              · go_meet
                exact ⟨ds, hkz⟩
            --DONE1>
          case rest =>
          as_aux_lemma =>
          obtain ⟨ds', hki8⟩ := hcut
          have hzpm : zp.bs.length ≤ a + 1 := by
            rcases HPC.out with ⟨-, -, h, -⟩ | ⟨-, h, -⟩
            · rw [h, List.length_append, HM.out]; simp; omega
            · rw [h, HM.out]; omega
          clear HPC hki7 HRM7 HD HKK
          obtain ⟨m2, hm2⟩ : ∃ m, zp.bs.length = m := ⟨_, rfl⟩
          have hdn2 := hki8.out.dn
          have hdl2 := hki8.out.len
          rw [hm2] at hdn2 hdl2
          obtain ⟨AD2, cD2, rfl, hcD2, hrD2, -⟩ := own_rd hdn2
          obtain ⟨d2, hd2⟩ : ∃ d, ds'[m2]? = some d := ⟨_, List.getElem?_eq_getElem (by omega)⟩
          have hdcell2 : (ds'.map ptrV)[m2]? = some (.pointer (some ⟨d2, 0, none⟩)) := by rw [List.getElem?_map, hd2]; rfl
          obtain ⟨adD2, rfl, hbD2, y9⟩ := hrD2.at_ hdcell2
          have hwm : IntKind.i64.wrap (((m2 + 1 : Nat) : Int) - 1) = (m2 : Int) := by rw [show ((m2 + 1 : Nat) : Int) - 1 = (m2 : Int) by omega]; exact IntWalk.i64_in _ (by omega)
          have hmc2 : m2 + 1 ≤ cD2 := hrD2.2.1
          have hrm2 := hki8.out.rf m2 d2 hd2
          rw [List.take_of_length_le (by omega)] at hrm2
          have HRM2 := Lib.hid hrm2
          have htot : totL ((stZ lim zp.bs).1 :: (stZ lim zp.bs).2) ≤ 1000 := by
            have h1 := stZ_tot lim zp.bs
            omega
          have htot2 : totL (stZ lim zp.bs).2 ≤ 1000 := by rw [totL_cons] at htot; omega
          obtain ⟨m3, hm3⟩ : ∃ m, m2 + 1 = m := ⟨_, rfl⟩
          rw [hm3] at hwm hmc2 hdn2 hrD2 hki8 ⊢
          have hmi2 : (m2 : Int) < (m3 : Int) := by omega
          have hm02 : (0 : Int) ≤ (m2 : Int) := by omega
          have HLS := Lib.hid (WLsm_any hki8.out.wg)
          clear hdn2 hdl2 hrD2 hdcell2 hrm2 hd2 hbD2
          go_wp2_with fail
          refine HLS.out.mono ?_
          rintro _ w12 ⟨⟨x, rfl, hlm⟩, rfl⟩
          have hmany2 := hlm.many.2.1
          have HAL := Lib.hid (LAll_any aF x _ _ _ _ hlm htot)
          clear hlm HLS
          go_wp2_with fail
          refine HAL.out.mono ?_
          rintro _ w13 ⟨⟨v13, rfl, o13⟩, hb13⟩
          obtain ⟨A13, c13, rfl, hc13, hr13, -⟩ := own_rd o13
          have HR13 := Lib.hid hr13
          have HRA := Lib.hid (RLAll_any aF d2 _ _ _ w13 (HRM2.out.ext hb13) htot (by omega))
          clear o13 hr13 hc13 HAL
          go_wp2_with fail
          refine HRA.out.mono ?_
          rintro _ w14 ⟨⟨v14, rfl, o14⟩, hb14⟩
          obtain ⟨A14, c14, rfl, hc14, hr14, -⟩ := own_rd o14
          have e14 := hb13.trans hb14
          have HPS := Lib.hid (Pairs_same A13 A14 _ c13 c14 _ w14 (HR13.out.ext hb14) hr14 (by have h1 := live_len ((stZ lim zp.bs).1 :: (stZ lim zp.bs).2); omega))
          clear o14 hr14 hc14 HRA HR13
          go_wp2_with fail
          refine HPS.out.mono ?_
          rintro _ w15 ⟨rfl, hb15⟩
          have e15 := e14.trans hb15
          have HLS2 := Lib.hid (WLsm_any (hki8.out.ext' e15).wg)
          clear HPS
          go_wp2_with fail
          refine HLS2.out.mono ?_
          rintro _ w16 ⟨⟨x', rfl, hlm⟩, rfl⟩
          have HLT := Lib.hid (LTables_any aF x' _ _ _ _ hlm)
          clear hlm HLS2
          go_wp2_with fail
          refine HLT.out.mono ?_
          rintro _ w17 ⟨⟨v17, rfl, o17⟩, hb17⟩
          obtain ⟨A17, c17, rfl, hc17, hr17, -⟩ := own_rd o17
          have HR17 := Lib.hid hr17
          have e17 := e15.trans hb17
          have HRT := Lib.hid (RTables_any aF d2 _ _ _ w17 (HRM2.out.ext e17) (by omega) (stZ_ok lim zp.bs).tl htot2)
          clear o17 hr17 hc17 HLT
          go_wp2_with fail
          refine HRT.out.mono ?_
          rintro _ w18 ⟨⟨v18, rfl, o18⟩, hb18⟩
          obtain ⟨A18, c18, rfl, hc18, hr18, -⟩ := own_rd o18
          have e18 := e17.trans hb18
          have HTS := Lib.hid (Texts_same A17 A18 _ c17 c18 _ w18 rfl (HR17.out.ext hb18) hr18 (by omega))
          clear o18 hr18 hc18 HRT HR17
          go_wp2_with fail
          refine HTS.out.mono ?_
          rintro _ w19 ⟨rfl, hb19⟩
          have hki19 := Lib.hid (hki8.out.ext' (e18.trans hb19))
          clear HTS hki8 HRM2
          go_wp2_with fail
          go_roundw
          case rel => exact ⟨k + 1, a + 1, zp, ds', by go_num, by go_num, by omega, by omega, by omega, by omega, hki19⟩
          case measure => simp [intOf]; omega
          --DONE2>
        · go_upto_region 23 with (fail)
          go_cut [129] (fun v wd => v = .bool false ∧ Ext wr wd)
          case first =>
            as_aux_lemma =>
            by_cases hk1 : k < 8
            · have hk1i : (k : Int) < 8 := by omega
              have hk2i : ¬ (a : Int) < (n1 : Int) := by omega
              go_wp2_with fail
              go_meet
              exact ⟨rfl, Ext.refl _⟩
            · have hk1i : ¬ (k : Int) < 8 := by omega
              go_wp2_with fail
              go_meet
              exact ⟨rfl, Ext.refl _⟩
          case rest =>
          as_aux_lemma =>
          obtain ⟨rfl, hbc0⟩ := hcut
          have hki3 := Lib.hid (hki2.out.ext' hbc0)
          have hzs : z.bs.length ≤ 32 := by omega
          clear hki2 hbc0 hck
          go_upto_if 233 with (fail)
          go_cut [33] (fun v wd => ∃ kp : Int, v = .int .i64 kp ∧ Hid (igood kp) ∧ Hid (KI w6 wd b lim z z.bs z.bs u19 u20 ds))
          case first =>
            as_aux_lemma =>
            by_cases hrk : rd < n4
            · have hrki : (rd : Int) < (n4 : Int) := by omega
              obtain ⟨kp, hkp⟩ : ∃ f, ks[rd]? = some f := ⟨_, List.getElem?_eq_getElem (by rw [HL4.out]; exact hrk)⟩
              obtain ⟨ad, rfl, hbl, y0⟩ := (HR4.out.ext (e6.trans hki3.out.ext)).getI hkp
              have HGK := Lib.hid (HG4.out kp (List.mem_of_getElem? hkp))
              clear hkp
              go_wp2_with fail
              go_meet
              exact ⟨kp, rfl, HGK, hki3⟩
            · have hrki : ¬ (rd : Int) < (n4 : Int) := by omega
              go_wp2_with fail
              go_meet
              exact ⟨0, rfl, HI0, hki3⟩
          case rest =>
          as_aux_lemma =>
          obtain ⟨kp, rfl, HGK, hki4⟩ := hcut
          clear hki3
          have HBY := Lib.hid (WBytes_any hki4.out.wg)
          have HSF := Lib.hid (WSafe_any hki4.out.wg)
          have hsl := hki4.out.wg.ok.safe
          have hbl := hki4.out.wg.ok.len
          have HCR := Lib.hid (WCrash_any w6 b lim z kp wc hki4.out.wg hki4.out.ext hbs7 (by omega) (igood_bd HGK.out).1 (igood_bd HGK.out).2 (HSG.out.ext e6) (HMG.out.ext e6))
          obtain ⟨Lz, hLz⟩ : ∃ l, z.bytes.length = l := ⟨_, rfl⟩
          obtain ⟨Sz, hSz⟩ : ∃ l, z.safe = l := ⟨_, rfl⟩
          obtain ⟨H, hH⟩ : ∃ l, z.high kp = l := ⟨_, rfl⟩
          have hHv : H = Sz + (max 0 (min kp ((Lz : Int) - (Sz : Int)))).toNat := by rw [← hH, ← hLz, ← hSz]; rfl
          rw [hLz] at HBY hsl hbl
          rw [hSz] at HSF hsl
          have hLb : Lz ≤ 1700000 := by
            have h3 : (z.bs.length + 1) * 40700 ≤ 34 * 40700 := Nat.mul_le_mul_right _ (by omega)
            omega
          have hkb := igood_bd HGK.out
          have HH := Lib.hid hH
          clear hLz hSz hH hbl
          go_wp2_with fail
          refine HBY.out.mono ?_
          rintro _ _ ⟨rfl, rfl⟩
          go_wp2_with fail
          refine HSF.out.mono ?_
          rintro _ _ ⟨rfl, rfl⟩
          go_wp2_with fail
          refine HCR.out.mono ?_
          rintro _ w9 ⟨⟨v9, rfl⟩, hw9, k9⟩
          have hki9 := Lib.hid (hki4.out.wal hbs7 hw9 k9)
          clear HBY HSF HCR hw9 k9 hki4
          have hw1 : IntKind.i64.wrap ((Lz : Int) - (Sz : Int)) = (Lz : Int) - (Sz : Int) := IntWalk.i64_in _ (by omega)
          have HKB := Lib.hid hkb
          clear hkb
          obtain ⟨bq, hbq⟩ : ∃ x, decide ((0 : Int) < kp ∧ kp < (Lz : Int) - (Sz : Int)) = x := ⟨_, rfl⟩
          have HBQ := Lib.hid hbq
          have HHV := Lib.hid hHv
          have HLB := Lib.hid hLb
          have HSL := Lib.hid hsl
          clear hbq hHv hLb hsl
          go_upto_region 52 with (fail)
          go_cut [254] (fun v wd => v = .bool bq ∧ Ext w9 wd)
          case first =>
            as_aux_lemma =>
            by_cases h : (0 : Int) < kp
            · by_cases h' : kp < (Lz : Int) - (Sz : Int)
              · have hb : bq = true := by rw [← HBQ.out]; exact decide_eq_true ⟨h, h'⟩
                subst hb
                go_wp2_with fail
                go_meet
                exact ⟨rfl, Ext.refl _⟩
              · have hb : bq = false := by rw [← HBQ.out]; exact decide_eq_false fun q => h' q.2
                subst hb
                go_wp2_with fail
                go_meet
                exact ⟨rfl, Ext.refl _⟩
            · have hb : bq = false := by rw [← HBQ.out]; exact decide_eq_false fun q => h q.1
              subst hb
              go_wp2_with fail
              go_meet
              exact ⟨rfl, Ext.refl _⟩
          case rest =>
          as_aux_lemma =>
          obtain ⟨rfl, hbc8⟩ := hcut
          go_upto_if 254 with (fail)
          go_cut [36] (fun v wd => v = .int .i64 (H : Int) ∧ Ext w9 wd)
          case first =>
            as_aux_lemma =>
            have hHv := HHV.out
            have hLb := HLB.out
            have hsl := HSL.out
            have hkb := HKB.out
            cases hb : bq with
            | true =>
              have h := of_decide_eq_true (HBQ.out.trans hb)
              obtain ⟨h, h'⟩ := h
              have he : (H : Int) = (Sz : Int) + kp := by omega
              have hw2 : IntKind.i64.wrap ((Sz : Int) + kp) = (Sz : Int) + kp := IntWalk.i64_in _ (by omega)
              have HEq := Lib.hid he
              clear he hHv hkb hsl hLb
              go_wp2_with fail
              go_meet
              exact ⟨by rw [HEq.out], hbc8⟩
            | false =>
              have hn := of_decide_eq_false (HBQ.out.trans hb)
              by_cases h : (0 : Int) < kp
              · have h' : ¬ kp < (Lz : Int) - (Sz : Int) := fun q => hn ⟨h, q⟩
                have he : H = Lz := by omega
                have HEq := Lib.hid he
                clear he hHv hkb hsl hLb hn h'
                go_wp2_with fail
                go_meet
                exact ⟨by rw [HEq.out], hbc8⟩
              · have he : H = Sz := by omega
                have HEq := Lib.hid he
                clear he hHv hkb hsl hLb hn
                go_wp2_with fail
                go_meet
                exact ⟨by rw [HEq.out], hbc8⟩
          case rest =>
          as_aux_lemma =>
          obtain ⟨rfl, hbc9⟩ := hcut
          have hki10 := Lib.hid (hki9.out.ext' hbc9)
          clear hki9 hbc8 hbc9 hw1
          obtain ⟨m, hm⟩ : ∃ m, z.bs.length = m := ⟨_, rfl⟩
          have hmr := hki10.out.mr
          have hdn := hki10.out.dn
          have hdl := hki10.out.len
          rw [hm] at hmr hdn hdl hzs
          obtain ⟨gM, cM, rfl⟩ := own_shape hmr (by omega)
          obtain ⟨gD, cD, rfl⟩ := own_shape hdn (by omega)
          have hrM := rd_shape hmr
          have hrD := rd_shape hdn
          obtain ⟨m1, hm1⟩ : ∃ x, m + 1 = x := ⟨_, rfl⟩
          rw [hm1] at hmr hdn hdl hrM hrD hki10 ⊢
          have hmcM := hrM.2.1
          have hmcD := hrD.2.1
          have HRM := Lib.hid hrM
          have HRD := Lib.hid hrD
          have HM := Lib.hid hm
          have HDL := Lib.hid hdl
          have HMR := Lib.hid hmr
          have HDN := Lib.hid hdn
          have HMM := Lib.hid hm1
          clear hmr hdn hrM hrD hm
          go_wp2_with fail
          go_loopw [37, 38] (fun lv iv wr => ∃ i : Nat, iv = .int .i64 i ∧ i ≤ m1 ∧ lv = .int .i64 (lfN z.bs H i : Nat) ∧ Ext wc wr) (fun _ iv _ => m1 - (intOf iv).toNat)
          case atStart => exact ⟨0, rfl, Nat.zero_le _, rfl, Ext.refl _⟩
          case round =>
            obtain ⟨i, rfl, hi, rfl, hbw⟩ := hrel
            by_cases hci : i < m1
            · have hcii : (i : Int) < (m1 : Int) := by omega
              obtain ⟨adM, hadM, -, y0⟩ := (HRM.out.ext hbw).at_ (marks_get z.bs (k := m1) (i := i) hci)
              injection hadM with hadM
              subst hadM
              have hls := lfN_step z.bs H i
              obtain ⟨mk, hmk⟩ : ∃ k, markN z.bs i = k := ⟨_, rfl⟩
              have y0' : wr.cell? ⟨gM, i, none⟩ = some (.int .i64 (mk : Int)) := by rw [← hmk, ← addr_off gM i]; exact y0
              rw [hmk] at hls
              clear y0 hmk
              by_cases hle : mk ≤ H
              · have hlei : (mk : Int) ≤ (H : Int) := by omega
                rw [if_pos hle] at hls
                have HLS := Lib.hid hls
                clear hls hle
                go_wp2_with fail
                go_roundw
                case rel => exact ⟨i + 1, by go_num, by omega, by rw [HLS.out], hbw⟩
                case measure => simp [intOf]; omega
              · have hlei : ¬ (mk : Int) ≤ (H : Int) := by omega
                rw [if_neg hle] at hls
                have HLS := Lib.hid hls
                clear hls hle
                go_wp2_with fail
                go_roundw
                case rel => exact ⟨i + 1, by go_num, by omega, by rw [HLS.out], hbw⟩
                case measure => simp [intOf]; omega
            · obtain rfl : i = m1 := by omega
              have hki11 := Lib.hid (hki10.out.ext' hbw)
              obtain ⟨lf, hlf⟩ : ∃ l, lfN z.bs H i = l := ⟨_, rfl⟩
              rw [hlf]
              have hlw : z.many kp = lf := by
                unfold WS.many
                rw [HH.out, HM.out, ← hlf, ← HMM.out]
                rfl
              obtain ⟨hl1, hl2, -⟩ := wholeN_spec z.bs H m
              have hlm : lf ≤ m := by
                have : wholeN z.bs H m = lf := by rw [← hlf, ← HMM.out]; rfl
                omega
              have hzc : z.crash kp = ⟨z.bs.take lf, [], markN z.bs lf, -1, false⟩ := by unfold WS.crash; rw [hlw]
              obtain ⟨zc, hzc'⟩ : ∃ x, z.crash kp = x := ⟨_, rfl⟩
              rw [hzc'] at hzc hki11
              have hzb : zc.bs = z.bs.take lf := by rw [hzc]
              obtain ⟨Lc, hLc⟩ : ∃ l, markN z.bs lf = l := ⟨_, rfl⟩
              have hzbl : zc.bytes.length = Lc := by rw [hzc, ← hLc]; unfold WS.bytes; rw [List.append_nil]; rfl
              have hzs' : zc.safe = Lc := by rw [hzc, ← hLc]
              obtain ⟨d, hd⟩ : ∃ d, ds[lf]? = some d := ⟨_, List.getElem?_eq_getElem (by have := HDL.out; omega)⟩
              have hdcell : (ds.map ptrV)[lf]? = some (.pointer (some ⟨d, 0, none⟩)) := by rw [List.getElem?_map, hd]; rfl
              have r1 : ∀ x_1 : WE wr, x_1.W.cell? ⟨gD, lf, none⟩ = some (.pointer (some ⟨d, 0, none⟩)) := fun x_1 => by
                rw [← addr_off gD lf]
                obtain ⟨ad', h1, h2, h3⟩ := (HRD.out.ext (hbw.trans x_1.h)).at_ hdcell
                injection h1 with h1
                subst h1
                exact h3
              have r2 : ∀ x_1 : WE wr, x_1.W.cell? ⟨gM, lf, none⟩ = some (.int .i64 (Lc : Int)) := fun x_1 => by
                rw [← addr_off gM lf]
                obtain ⟨ad', h1, h2, h3⟩ := (HRM.out.ext (hbw.trans x_1.h)).at_ (marks_get z.bs (k := i) (i := lf) (by have := HMM.out; omega))
                injection h1 with h1
                subst h1
                rw [← hLc]
                exact h3
              have hrm := hki11.out.rf lf d hd
              rw [← hzb] at hrm
              have HRMd := Lib.hid hrm
              have htot : totL ((stZ lim zc.bs).1 :: (stZ lim zc.bs).2) ≤ 1000 := by
                have h1 := stZ_tot lim zc.bs
                rw [hzb, List.length_take] at h1
                rw [hzb]
                omega
              have htot2 : totL (stZ lim zc.bs).2 ≤ 1000 := by rw [totL_cons] at htot; omega
              have hmany : (stZ lim zc.bs).2.length ≤ 8 := by
                obtain ⟨-, -, x, sx, -, -, hlx⟩ := hki11.out.wg
                exact hlx.many.2.1
              have hlfi : (lf : Int) < (i : Int) := by have := HMM.out; omega
              have hlf0 : (0 : Int) ≤ (lf : Int) := by omega
              have hlf1 : IntKind.i64.wrap ((lf : Int) + 1) = (lf : Int) + 1 := IntWalk.i64_in _ (by omega)
              have hlf2 : (lf : Int) + 1 ≤ (cD : Int) := by have := HMM.out; omega
              have hlf3 : (lf : Int) + 1 ≤ (cM : Int) := by have := HMM.out; omega
              have hlf4 : (0 : Int) ≤ (lf : Int) + 1 := by omega
              have HZB := Lib.hid hzb
              have HLC := Lib.hid hLc
              have HZL := Lib.hid hzbl
              have HZS := Lib.hid hzs'
              have HD := Lib.hid hd
              have HLV := Lib.hid (by have h1 := live_len ((stZ lim zc.bs).1 :: (stZ lim zc.bs).2); omega : (liveL ((stZ lim zc.bs).1 :: (stZ lim zc.bs).2)).length ≤ 9223372036854775807)
              clear hlf hlw hl1 hl2 hzc hzc' hzb hLc hzbl hzs' hd hdcell hrm hki10
              have hdc : wr.cell? ⟨gD, lf, none⟩ = some (.pointer (some ⟨d, 0, none⟩)) := r1 ⟨wr, Ext.refl _⟩
              go_upto_region 62 with (fail)
              go_cut [39] (fun v wd => v = .bool true ∧ Ext wr wd)
              case first =>
                as_aux_lemma =>
                go_region_held3 (fun W => W.cell? ⟨gD, lf, none⟩ = some (.pointer (some ⟨d, 0, none⟩))) (first | exact hdc | (refine r1 ⟨_, ?_⟩; ((repeat (with_reducible first | exact Ext.refl _ | assumption | refine Ext.drew ?_ | refine Ext.drewN ?_ _ | refine Ext.alloc ?_ _ | refine Ext.trans ?_ (by with_reducible assumption)))))) (first
                  | (go_at_call 10; (with_reducible refine (WLsm_any (hki11.out.wg.ext (by (repeat (with_reducible first | exact Ext.refl _ | assumption | refine Ext.drew ?_ | refine Ext.drewN ?_ _ | refine Ext.alloc ?_ _ | refine Ext.trans ?_ (by with_reducible assumption)))))).mono ?_); rintro _ _ ⟨⟨x, rfl, hlm13⟩, rfl⟩; have HLM13 := Lib.hid hlm13; clear hlm13)
                  | (go_at_call 11; (with_reducible refine (LAll_any aF x _ _ _ _ (HLM13.out.ext (by (repeat (with_reducible first | exact Ext.refl _ | assumption | refine Ext.drew ?_ | refine Ext.drewN ?_ _ | refine Ext.alloc ?_ _ | refine Ext.trans ?_ (by with_reducible assumption))))) htot).mono ?_); rintro _ w13 ⟨⟨v13, rfl, o13⟩, hb13⟩; obtain ⟨A13, c13, rfl, hc13, hr13, -⟩ := own_rd o13; have HR13 := Lib.hid hr13; clear o13 hr13)
                  | (go_at_call 18; (with_reducible refine (RLAll_any aF d _ _ _ _ (HRMd.out.ext (by (repeat (with_reducible first | exact Ext.refl _ | assumption | refine Ext.drew ?_ | refine Ext.drewN ?_ _ | refine Ext.alloc ?_ _ | refine Ext.trans ?_ (by with_reducible assumption))))) htot (by omega)).mono ?_); rintro _ w14 ⟨⟨v14, rfl, o14⟩, hb14⟩; obtain ⟨A14, c14, rfl, hc14, hr14, -⟩ := own_rd o14; have HR14 := Lib.hid hr14; clear o14 hr14)
                  | (go_at_call 17; (with_reducible refine (Pairs_same A13 A14 _ c13 c14 _ _ (HR13.out.ext (by (repeat (with_reducible first | exact Ext.refl _ | assumption | refine Ext.drew ?_ | refine Ext.drewN ?_ _ | refine Ext.alloc ?_ _ | refine Ext.trans ?_ (by with_reducible assumption))))) (HR14.out.ext (by (repeat (with_reducible first | exact Ext.refl _ | assumption | refine Ext.drew ?_ | refine Ext.drewN ?_ _ | refine Ext.alloc ?_ _ | refine Ext.trans ?_ (by with_reducible assumption))))) HLV.out).mono ?_); rintro _ w15 ⟨rfl, hb15⟩)
                  | fail)
                all_goals
                  go_wp2_with fail
                  go_meet
                  exact ⟨rfl, by (repeat (with_reducible first | exact Ext.refl _ | assumption | refine Ext.drew ?_ | refine Ext.drewN ?_ _ | refine Ext.alloc ?_ _ | refine Ext.trans ?_ (by with_reducible assumption)))⟩
              case rest =>
              as_aux_lemma =>
              obtain ⟨rfl, hbc62⟩ := hcut
              have hdc2 : wc.cell? ⟨gD, lf, none⟩ = some (.pointer (some ⟨d, 0, none⟩)) := r1 ⟨wc, hbc62⟩
              clear hdc
              go_upto_region 63 with (fail)
              go_cut [40] (fun v wd => v = .bool true ∧ Ext wr wd)
              case first =>
                as_aux_lemma =>
                go_region_held3 (fun W => W.cell? ⟨gD, lf, none⟩ = some (.pointer (some ⟨d, 0, none⟩))) (first | exact hdc2 | (refine r1 ⟨_, ?_⟩; ((repeat (with_reducible first | exact Ext.refl _ | assumption | refine Ext.drew ?_ | refine Ext.drewN ?_ _ | refine Ext.alloc ?_ _ | refine Ext.trans ?_ (by with_reducible assumption)))))) (first
                  | (go_at_call 10; (with_reducible refine (WLsm_any (hki11.out.wg.ext (by (repeat (with_reducible first | exact Ext.refl _ | assumption | refine Ext.drew ?_ | refine Ext.drewN ?_ _ | refine Ext.alloc ?_ _ | refine Ext.trans ?_ (by with_reducible assumption)))))).mono ?_); rintro _ _ ⟨⟨x, rfl, hlm13⟩, rfl⟩; have HLM13 := Lib.hid hlm13; clear hlm13)
                  | (go_at_call 20; (with_reducible refine (LTables_any aF x _ _ _ _ (HLM13.out.ext (by (repeat (with_reducible first | exact Ext.refl _ | assumption | refine Ext.drew ?_ | refine Ext.drewN ?_ _ | refine Ext.alloc ?_ _ | refine Ext.trans ?_ (by with_reducible assumption)))))).mono ?_); rintro _ w13 ⟨⟨v13, rfl, o13⟩, hb13⟩; obtain ⟨A13, c13, rfl, hc13, hr13, -⟩ := own_rd o13; have HR13 := Lib.hid hr13; clear o13 hr13)
                  | (go_at_call 21; (with_reducible refine (RTables_any aF d _ _ _ _ (HRMd.out.ext (by (repeat (with_reducible first | exact Ext.refl _ | assumption | refine Ext.drew ?_ | refine Ext.drewN ?_ _ | refine Ext.alloc ?_ _ | refine Ext.trans ?_ (by with_reducible assumption))))) (by omega) (stZ_ok lim zc.bs).tl htot2).mono ?_); rintro _ w14 ⟨⟨v14, rfl, o14⟩, hb14⟩; obtain ⟨A14, c14, rfl, hc14, hr14, -⟩ := own_rd o14; have HR14 := Lib.hid hr14; clear o14 hr14)
                  | (go_at_call 19; (with_reducible refine (Texts_same A13 A14 _ c13 c14 _ _ rfl (HR13.out.ext (by (repeat (with_reducible first | exact Ext.refl _ | assumption | refine Ext.drew ?_ | refine Ext.drewN ?_ _ | refine Ext.alloc ?_ _ | refine Ext.trans ?_ (by with_reducible assumption))))) (HR14.out.ext (by (repeat (with_reducible first | exact Ext.refl _ | assumption | refine Ext.drew ?_ | refine Ext.drewN ?_ _ | refine Ext.alloc ?_ _ | refine Ext.trans ?_ (by with_reducible assumption))))) (by omega)).mono ?_); rintro _ w15 ⟨rfl, hb15⟩)
                  | fail)
                all_goals
                  go_wp2_with fail
                  go_meet
                  exact ⟨rfl, by (repeat (with_reducible first | exact Ext.refl _ | assumption | refine Ext.drew ?_ | refine Ext.drewN ?_ _ | refine Ext.alloc ?_ _ | refine Ext.trans ?_ (by with_reducible assumption)))⟩
              case rest =>
              as_aux_lemma =>
              obtain ⟨rfl, hbc63⟩ := hcut
              have p1 : ∀ x_1 : WE wc, x_1.W.cell? ⟨gM, lf, none⟩ = some (.int .i64 (Lc : Int)) := fun x_1 => r2 ⟨x_1.W, hbc63.trans x_1.h⟩
              have HWB : Hid (∀ x_1 : WE wc, Calls Tryz.prog 12 #[.pointer (some ⟨b, 0, none⟩)] x_1.W fun e w' => e = .returned (.int .i64 (Lc : Nat)) ∧ x_1.W = w') := Lib.hid fun x_1 => by
                have h := WBytes_any (hki11.out.wg.ext (hbc63.trans x_1.h))
                rw [HZL.out] at h
                exact h
              have HWS : Hid (∀ x_1 : WE wc, Calls Tryz.prog 13 #[.pointer (some ⟨b, 0, none⟩)] x_1.W fun e w' => e = .returned (.int .i64 (Lc : Nat)) ∧ x_1.W = w') := Lib.hid fun x_1 => by
                have h := WSafe_any (hki11.out.wg.ext (hbc63.trans x_1.h))
                rw [HZS.out] at h
                exact h
              clear hdc2 r1 r2 hbc62
              go_upto_region 64 with (fail)
              go_cut [315] (fun v wd => v = .bool false ∧ Ext wr wd)
              case first =>
                as_aux_lemma =>
                (refine wp_region_ext (w0 := wc) (by kernel_rfl) (by kernel_rfl) (by (repeat (with_reducible first | exact Ext.refl _ | assumption | refine Ext.drew ?_ | refine Ext.drewN ?_ _ | refine Ext.alloc ?_ _ | refine Ext.trans ?_ (by with_reducible assumption)))) ?_; (repeat (go_big_quiet_step ((first | (go_at_call 12; exact quietS (HWB.out _)) | (go_at_call 13; exact quietS (HWS.out _)))))); refine wpQuiet_nil ?_)
                intro w20 hb20
                go_wp2_with fail
                go_meet
                exact ⟨rfl, hbc63.trans hb20⟩
              case rest =>
              as_aux_lemma =>
              obtain ⟨rfl, hbc64⟩ := hcut
              have hkif : Hid (KI w6 wc b lim zc zc.bs zc.bs (.slice (some ⟨gD, 0, none⟩) (lf + 1) cD) (.slice (some ⟨gM, 0, none⟩) (lf + 1) cM) (ds.take (lf + 1))) := Lib.hid (by
                have h := hki11.out.ext' hbc64
                have hmm := HMM.out
                have hlen : zc.bs.length = lf := by rw [HZB.out, List.length_take, HM.out]; omega
                refine ⟨h.ext, h.wg, ?_, ?_, fun j d' hd' => ?_⟩
                · rw [hlen]
                  exact own_part (own_ext HDN.out (hbw.trans hbc64)) (by omega) (by rw [Nat.mul_one, List.map_take])
                · rw [hlen]
                  exact own_part (own_ext HMR.out (hbw.trans hbc64)) (by omega) (by rw [Nat.mul_one, marks_take z.bs (by omega), ← HZB.out])
                · have hjl : j < lf + 1 := by
                    have h1 := (List.getElem?_eq_some_iff.1 hd').1
                    rw [List.length_take] at h1
                    omega
                  rw [List.getElem?_take_of_lt hjl] at hd'
                  have h1 := h.rf j d' hd'
                  rw [HZB.out, List.take_take, Nat.min_eq_left (by omega)]
                  exact h1)
              have hzcl : zc.bs.length ≤ a := by
                rw [HZB.out, List.length_take]
                have := HM.out
                omega
              clear HWB HWS p1 hbc63
              go_wp2_with fail
              go_roundw
              case rel => exact ⟨rd + 1, a, zc, ds.take (lf + 1), by go_num, rfl, by omega, by omega, han, by omega, hzcl, hkif⟩
              case measure => simp [intOf]; omega
    · have hcr' : (rd : Int) ≤ (n3 : Int) → ¬ (rd : Int) < 4 := by omega
      have hw := e6.trans hki.out.ext
      clear hki
      by_cases h1 : rd ≤ n3
      · have h1i : (rd : Int) ≤ (n3 : Int) := by omega
        have h2i : ¬ (rd : Int) < 4 := by omega
        clear hcr' hcr
        go_wp2_with fail
        go_ret
        exact ⟨rfl, hw⟩
      · have h1i : ¬ (rd : Int) ≤ (n3 : Int) := by omega
        clear hcr' hcr
        go_wp2_with fail
        go_ret
        exact ⟨rfl, hw⟩
set_option maxRecDepth 100000 in
set_option maxHeartbeats 8000000 in
theorem walk_no (limit : Int) (A1 : Option Addr) (n1 c1 : Nat) (A2 : Option Addr) (n2 c2 : Nat) (A3 : Option Addr) (n3 c3 : Nat) (A4 : Option Addr) (n4 c4 : Nat) (w : World) (hno : ¬ (1 ≤ limit ∧ limit ≤ 60)) (hS : StrG w) (hM : MaxG w) (hG : ErrG w) (hP : PowG w) :
    Calls Tryz.prog 3 #[.int .i64 limit, .slice A1 n1 c1, .slice A2 n2 c2, .slice A3 n3 c3, .slice A4 n4 c4] w fun e w' => e = .returned (.bool true) ∧ Ext w w' := by
  have HNO := Lib.hid hno
  clear hno
  obtain ⟨hE, hN, hG0⟩ := errR_rules
  obtain ⟨z1, z2, z3, hz1, hz2, hz3, hf1, hf2, hf3, hcb, hcs⟩ := fact_z
  have HZ1 := Lib.hid hz1
  have HZ2 := Lib.hid hz2
  have HZ3 := Lib.hid hz3
  have HF1 := Lib.hid hf1
  have HF2 := Lib.hid hf2
  have HF3 := Lib.hid hf3
  have HCB := Lib.hid hcb
  have HCS := Lib.hid hcs
  have HE := Lib.hid hG
  have HP := Lib.hid hP
  have HSG := Lib.hid hS
  have HMG := Lib.hid hM
  have i0g : igood 0 := by unfold igood; decide
  have HI0 := Lib.hid i0g
  clear hS hM hG hP hz1 hz2 hz3 hf1 hf2 hf3 hcb hcs i0g
  go_enter Tryz.func3, Tryz.ntmps3
  go_wp2_with fail
  refine (WNew_any 5 w).mono ?_
  rintro _ w1 (⟨h, -⟩ | ⟨-, b0, rfl, hwg, hbs, hb1⟩)
  · exact absurd h (by decide)
  have HW1 : Hid (WG w1 b0 5 WS.new) := Lib.hid hwg
  clear hwg
  go_wp2_with fail
  refine (put_one w w1 b0 5 WS.new z1 ⟨#[97]⟩ ⟨#[120]⟩ false 0 HW1.out hb1 hbs ⟨by decide, by decide⟩ HP.out HZ1.out).mono ?_
  rintro _ w2 ⟨rfl, hw2, e2⟩
  rw [errR_0]
  have HW2 := Lib.hid hw2
  clear hw2
  go_wp2_with fail
  refine (sync_one w w2 b0 5 z1 z2 0 HW2.out e2 hbs HZ2.out).mono ?_
  rintro _ w3 ⟨rfl, hw3, e3⟩
  rw [errR_0]
  have HW3 := Lib.hid hw3
  clear hw3
  go_wp2_with fail
  refine (put_one w w3 b0 5 z2 z3 ⟨#[98]⟩ ⟨#[121]⟩ false 0 HW3.out e3 hbs HF2.out HP.out HZ3.out).mono ?_
  rintro _ w4 ⟨rfl, hw4, e4⟩
  rw [errR_0]
  have HW4 := Lib.hid hw4
  clear hw4
  go_wp2_with fail
  refine (crash_one w w4 b0 5 z3 0 HW4.out e4 hbs HF3.out HI0.out HSG.out HMG.out).mono ?_
  rintro _ w5 ⟨⟨v5, rfl⟩, hw5, e5⟩
  have HW5 := Lib.hid hw5
  have HLS := Lib.hid (WLsm_any hw5)
  clear hw5
  go_wp2_with fail
  refine HLS.out.mono ?_
  rintro _ w6 ⟨⟨x6, rfl, hlm⟩, rfl⟩
  rw [HCB.out] at hlm
  have HAL := Lib.hid (LAll_any aF x6 _ _ _ _ hlm fact_tot)
  rw [fact_live] at HAL
  clear hlm HLS
  go_wp2_with fail
  refine HAL.out.mono ?_
  rintro _ w6 ⟨⟨v6, rfl, o6⟩, hb6⟩
  obtain ⟨A6, c6, rfl, -, -, -⟩ := own_rd o6
  have e6 := e5.trans hb6
  have HWB := Lib.hid (WBytes_any (HW5.out.ext hb6))
  have HWS := Lib.hid (WSafe_any (HW5.out.ext hb6))
  rw [HCS.out] at HWB
  clear o6 HAL HZ1 HZ2 HZ3 HF1 HF2 HF3 HCB HCS HW1 HW2 HW3 HW4 HW5
  go_wp2_with fail
  refine HWB.out.mono ?_
  rintro _ _ ⟨rfl, rfl⟩
  go_wp2_with fail
  refine HWS.out.mono ?_
  rintro _ _ ⟨rfl, rfl⟩
  clear HWB HWS
  go_wp2_with fail
  refine (WNew_any limit w6).mono ?_
  rintro _ w7 (⟨-, rfl, rfl⟩ | ⟨h, -⟩)
  · have hok : isOk 1 = false := rfl
    have h2 : limit < 1 ∨ (¬ limit < 1 ∧ 60 < limit) := by have := HNO.out; omega
    rcases h2 with h | ⟨h, h'⟩
    all_goals
      go_wp2_with fail
      go_ret
      exact ⟨rfl, e6⟩
  · exact absurd h HNO.out
set_option maxRecDepth 100000 in
theorem walk (limit : Int) (A1 : Option Addr) (n1 c1 : Nat) (rs : List (RowG Pr)) (A2 : Option Addr) (n2 c2 : Nat) (ss : List Int) (A3 : Option Addr) (n3 c3 : Nat) (fs : List Int) (A4 : Option Addr) (n4 c4 : Nat) (ks : List Int) (w : World) (gl : igood limit)
    (hl1 : rs.length = n1) (hm1 : c1 ≤ maxLen) (hr1 : Rd w 1 A1 n1 c1 (rs.flatMap RowG.cells)) (hg1 : ∀ y ∈ rs, y.good w 3 Pr.cells Pr.good)
    (hl2 : ss.length = n2) (hm2 : c2 ≤ maxLen) (hr2 : Rd w 1 A2 n2 c2 (ss.map (Value.int .i64))) (hg2 : ∀ y ∈ ss, igood y)
    (hl3 : fs.length = n3) (hm3 : c3 ≤ maxLen) (hr3 : Rd w 1 A3 n3 c3 (fs.map (Value.int .i64))) (hg3 : ∀ y ∈ fs, igood y)
    (hl4 : ks.length = n4) (hm4 : c4 ≤ maxLen) (hr4 : Rd w 1 A4 n4 c4 (ks.map (Value.int .i64))) (hg4 : ∀ y ∈ ks, igood y)
    (hS : StrG w) (hM : MaxG w) (hG : ErrG w) (hP : PowG w) :
    Calls Tryz.prog 3 #[.int .i64 limit, .slice A1 n1 c1, .slice A2 n2 c2, .slice A3 n3 c3, .slice A4 n4 c4] w fun e w' => e = .returned (.bool true) ∧ Ext w w' := by
  by_cases h : 1 ≤ limit ∧ limit ≤ 60
  · obtain ⟨h1, h2⟩ := h
    obtain ⟨l, rfl⟩ := Int.eq_ofNat_of_zero_le (show 0 ≤ limit by omega)
    exact walk_yes l A1 n1 c1 rs A2 n2 c2 ss A3 n3 c3 fs A4 n4 c4 ks w (by omega) hl1 hm1 hr1 hg1 hl2 hm2 hr2 hl3 hm3 hr3 hg3 hl4 hm4 hr4 hg4 hS hM hG hP
  · exact walk_no limit A1 n1 c1 A2 n2 c2 A3 n3 c3 A4 n4 c4 w h hS hM hG hP
end Go.Proofs.YtcgfdhgceokcnaaGreatDoor.walKeeps
