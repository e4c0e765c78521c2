/- witsame.Error at its own number. -/
import Derived.Test.YtcgfdhgceokcnaaGreatDoorJWalStops1
import Derived.Test.YtcgfdhgceokcnaaGreatDoorJWalStops23
namespace Go.Proofs.YtcgfdhgceokcnaaGreatDoor
open Go.RowKit
theorem errIs_eq (k : Int) : errIs k k = true := by unfold errIs; simp
theorem Error_is (k : Int) (w : World) (hg : ErrG w) : Calls Tryz.prog 16 #[errR k, .int .i64 k] w fun e w' => e = .returned (.bool true) ∧ Ext w w' :=
  (Error_any k k w hg).mono fun e w' hh => ⟨hh.1.trans (by rw [errIs_eq]), hh.2⟩
end Go.Proofs.YtcgfdhgceokcnaaGreatDoor

namespace Go.Proofs.YtcgfdhgceokcnaaGreatDoor.walStops
open Go.RowKit Go.WideShapes
set_option linter.unusedVariables false
attribute [local go_sem ↓] Go.wp_at_zero Go.wp_at_succ

/-! ### plain -/
theorem fold_young (lim : Nat) : ∀ (bs : List (List Pr)) (z : List Pr × List (List Pr)), z.1.length < lim → (bs.foldl (fun z b => doZ lim z.1 z.2 b) z).1.length < lim
  | [], z, h => h
  | b :: bs, z, h => by
    rw [List.foldl_cons]
    refine fold_young lim bs _ ?_
    unfold doZ
    split
    · exact runB_young lim b _ _ h
    · exact h
theorem stZ_young {lim : Nat} (h : 1 ≤ lim) (bs : List (List Pr)) : (stZ lim bs).1.length < lim := fold_young lim bs ([], []) h
theorem fold_ok (lim : Nat) : ∀ (bs : List (List Pr)) (z : List Pr × List (List Pr)), LsOk (z.1 :: z.2) → LsOk ((bs.foldl (fun z b => doZ lim z.1 z.2 b) z).1 :: (bs.foldl (fun z b => doZ lim z.1 z.2 b) z).2)
  | [], z, h => h
  | b :: bs, z, h => by
    rw [List.foldl_cons]
    refine fold_ok lim bs _ ?_
    unfold doZ
    split
    · rename_i hk
      exact runB_ok lim b _ _ (doK_len hk).2.1 h
    · exact h
theorem stZ_ok (lim : Nat) (bs : List (List Pr)) : LsOk ((stZ lim bs).1 :: (stZ lim bs).2) := fold_ok lim bs ([], []) (LsOk.cons ⟨Asc.nil, by simp⟩ LsOk.nil)
def pX : Pr := ⟨⟨#[]⟩, ⟨#[120]⟩, false⟩
def pA : Pr := ⟨⟨#[97]⟩, ⟨#[120]⟩, false⟩
def pB : Pr := ⟨⟨#[98]⟩, ⟨#[121]⟩, false⟩
theorem doK_one (lim : Nat) (Y : List Pr) (T : List (List Pr)) (p : Pr) (h : p.gone = false) : doK lim Y T [p] = putK Y p := by
  rw [doK_run (by simp) (by intro q hq; rw [List.mem_singleton] at hq; subst hq; unfold badP; rw [h]; rfl)]
  unfold runK
  split
  · rename_i hk; rw [hk]; rfl
  · rfl
theorem putX (Y : List Pr) : putK Y pX = 2 := by unfold putK keyK; rfl
theorem put_free {Y : List Pr} {p : Pr} (hY : Y.length < 9) (hk : keyK p.key = 0) (hv : p.value.size ≤ 200) : putK Y p = 0 := by
  unfold putK
  rw [if_neg (not_not_intro hk), if_neg]
  rintro (h1 | ⟨_, h1⟩)
  · omega
  · omega
theorem keyA : keyK pA.key = 0 := by decide
theorem keyB : keyK pB.key = 0 := by decide
theorem doX (bs : List (List Pr)) : doK 9 (stZ 9 bs).1 (stZ 9 bs).2 [pX] = 2 := by rw [doK_one _ _ _ _ rfl, putX]
theorem doA (bs : List (List Pr)) : doK 9 (stZ 9 bs).1 (stZ 9 bs).2 [pA] = 0 := by rw [doK_one _ _ _ _ rfl, put_free (stZ_young (by decide) bs) keyA (by decide)]
theorem doB (bs : List (List Pr)) : doK 9 (stZ 9 bs).1 (stZ 9 bs).2 [pB] = 0 := by rw [doK_one _ _ _ _ rfl, put_free (stZ_young (by decide) bs) keyB (by decide)]
/-- s steps were taken of so many -/
structure Run (after s : Nat) (z : WS) : Prop where
  on : s ≤ after → z.stop = false ∧ z.left = (after : Int) - (s : Int)
  off : after < s → z.stop = true
  many : z.bs.length ≤ s
/-- what is told at step s -/
def k1 (after s : Nat) : Int := if after < s then 6 else 2
def k2 (after s : Nat) : Int := if after ≤ s then 6 else 0
theorem Run.putX {after s : Nat} {z : WS} (h : Run after s z) : z.put 9 [pX] = (k1 after s, z) := by
  unfold k1
  by_cases hs : after < s
  · rw [if_pos hs, WS.put_stop (h.off hs)]
  · rw [if_neg hs]
    exact WS.put_bad (h.on (by omega)).1 (doX z.bs) (by decide)
theorem Run.putA {after s : Nat} {z : WS} (h : Run after s z) : ∃ z', z.put 9 [pA] = (k2 after s, z') ∧ Run after (s + 1) z' := by
  unfold k2
  rcases Nat.lt_trichotomy s after with hs | hs | hs
  · obtain ⟨h1, h2⟩ := h.on (by omega)
    rw [if_neg (by omega), WS.put_ok h1 (doA z.bs) (by omega)]
    refine ⟨_, rfl, fun h3 => ⟨rfl, by show max (-1) (z.left - 1) = _; omega⟩, fun h3 => by omega, ?_⟩
    have := h.many
    show (z.bs ++ [[pA]]).length ≤ _
    rw [List.length_append, List.length_singleton]; omega
  · obtain ⟨h1, h2⟩ := h.on (by omega)
    rw [if_pos (by omega), WS.put_half h1 (doA z.bs) (by omega)]
    exact ⟨_, rfl, fun h3 => by omega, fun h3 => rfl, Nat.le_succ_of_le h.many⟩
  · rw [if_pos (by omega), WS.put_stop (h.off hs)]
    exact ⟨_, rfl, fun h3 => by omega, fun h3 => h.off hs, Nat.le_succ_of_le h.many⟩
theorem Run.sync {after s : Nat} {z : WS} (h : Run after s z) (hs : s ≤ after) : ∃ z', z.sync = (if s = after then 6 else 0, z') ∧ Run after (s + 1) z' := by
  obtain ⟨h1, h2⟩ := h.on hs
  by_cases he : s = after
  · rw [if_pos he, WS.sync_at h1 (by omega)]
    exact ⟨_, rfl, fun h3 => by omega, fun h3 => rfl, Nat.le_succ_of_le h.many⟩
  · rw [if_neg he, WS.sync_ok h1 (by omega)]
    exact ⟨_, rfl, fun h3 => ⟨rfl, by show max (-1) (z.left - 1) = _; omega⟩, fun h3 => by omega, Nat.le_succ_of_le h.many⟩
/-- behind the crash -/
theorem behind (z : WS) (keep : Int) : ∃ z2 z3, (z.crash keep).put 9 [pB] = (0, z2) ∧ z2.sync = (0, z3) ∧ seeL (stZ 9 z3.bs).1 (stZ 9 z3.bs).2 pB.key = some pB.value ∧ z2.bs.length ≤ z.bs.length + 1 ∧ z3.bs.length ≤ z.bs.length + 1 := by
  have hst : (z.crash keep).stop = false := rfl
  have hk := doB (z.crash keep).bs
  have hlen : ((z.crash keep).bs ++ [[pB]]).length ≤ z.bs.length + 1 := by
    show (z.bs.take (z.many keep) ++ [[pB]]).length ≤ _
    rw [List.length_append, List.length_take, List.length_singleton]; omega
  have hput := WS.put_ok hst hk (by show (-1 : Int) ≠ 0; decide)
  refine ⟨_, _, hput, WS.sync_ok rfl (by show max (-1) ((-1 : Int) - 1) ≠ 0; decide), ?_, hlen, hlen⟩
  show seeL (stZ 9 ((z.crash keep).bs ++ [[pB]])).1 (stZ 9 ((z.crash keep).bs ++ [[pB]])).2 _ = _
  rw [stZ_put hk]
  have hp : putK (stZ 9 (z.crash keep).bs).1 pB = 0 := put_free (stZ_young (by decide) _) keyB (by decide)
  have hr : runB 9 [pB] (stZ 9 (z.crash keep).bs).1 (stZ 9 (z.crash keep).bs).2 = (doY 9 (stZ 9 (z.crash keep).bs).1 pB, doT 9 (stZ 9 (z.crash keep).bs).1 (stZ 9 (z.crash keep).bs).2 pB) := if_pos hp
  rw [hr]
  show seeL (doY 9 _ pB) (doT 9 _ _ pB) _ = _
  rw [see_do (stZ_ok 9 _) (fun e => by cases e) hp, if_pos rfl]
  rfl

/-! ### the walk -/
theorem rd_one (w : World) (k v : ByteArray) (g : Bool) : Rd (w.alloc (.cells #[.string k, .string v, .bool g] 31)) 3 (some ⟨w.heap.size, 0, none⟩) 1 1 ([(⟨k, v, g⟩ : Pr)].flatMap Pr.cells) :=
  ⟨rfl, Nat.le_refl _, fun _ => ⟨_, rfl, by simp, fun j u hu => news_new w 31 _ _ rfl j u hu⟩⟩
theorem put_one (w0 w : World) (b : Nat) (z z' : WS) (k v : ByteArray) (g : Bool) (c : Int) (h : WG w b 9 z) (e : Ext w0 w) (hb0 : w0.heap.size ≤ b) (hm : z.bs.length ≤ 40) (hP : PowG w0) (hz : z.put 9 [⟨k, v, g⟩] = (c, z')) :
    Calls Tryz.prog 7 #[.pointer (some ⟨b, 0, none⟩), .slice (some ⟨w.heap.size, 0, none⟩) 1 1] (w.alloc (.cells #[.string k, .string v, .bool g] 31)) fun e w' => e = .returned (errR c) ∧ WG w' b 9 z' ∧ Ext w0 w' := by
  have ea : Ext w (w.alloc (.cells #[.string k, .string v, .bool g] 31)) := (Ext.refl _).alloc _
  refine (WPut_any b 9 z _ 1 1 [⟨k, v, g⟩] _ (h.ext ea) (rd_one w k v g) rfl (by decide) hm (hP.ext (e.trans ea))).mono ?_
  rintro _ w' ⟨rfl, hw, k⟩
  rw [hz] at hw ⊢
  refine ⟨rfl, hw, (((e.trans ea).chg _).trans k fun g _ hg => hg).ext fun g hg hS => ?_⟩
  have h1 : g = b := hS
  omega
theorem sync_one (w0 w : World) (b : Nat) (z z' : WS) (c : Int) (h : WG w b 9 z) (e : Ext w0 w) (hb0 : w0.heap.size ≤ b) (hz : z.sync = (c, z')) :
    Calls Tryz.prog 8 #[.pointer (some ⟨b, 0, none⟩)] w fun e w' => e = .returned (errR c) ∧ WG w' b 9 z' ∧ Ext w0 w' := by
  refine (WSync_any h).mono ?_
  rintro _ w' ⟨rfl, hw, k⟩
  rw [hz] at hw ⊢
  refine ⟨rfl, hw, ((e.chg _).trans k fun g _ hg => hg).ext fun g hg hS => ?_⟩
  have h1 : g = b := hS
  omega

set_option maxRecDepth 100000 in
set_option maxHeartbeats 8000000 in
theorem walk_yes (after many : Nat) (keep : Int) (w : World) (ha : after ≤ 20) (hm : many ≤ 20) (gk : igood keep) (hS : StrG w) (hM : MaxG w) (hG : ErrG w) (hP : PowG w) :
    Calls Tryz.prog 4 #[.int .i64 after, .int .i64 many, .int .i64 keep] w fun e w' => e = .returned (.bool true) ∧ Ext w w' := by
  obtain ⟨hE, hN, hG0⟩ := errR_rules
  have HNEW := Lib.hid (WNew_any 9 w)
  have HE := Lib.hid hG
  have HP := Lib.hid hP
  have HSG := Lib.hid hS
  have HMG := Lib.hid hM
  have GK := Lib.hid gk
  have i1 : ¬ (20 : Int) < (after : Int) := by omega
  have i2 : ¬ (20 : Int) < (many : Int) := by omega
  have i3 : ¬ (after : Int) < 0 := by omega
  have i4 : ¬ (many : Int) < 0 := by omega
  clear hS hM hG hP gk
  go_enter Tryz.func4, Tryz.ntmps4
  go_wp2_with fail
  refine HNEW.out.mono ?_
  rintro _ w1 (⟨h, -⟩ | ⟨-, b, rfl, hwg, hbs, hb1⟩)
  · exact absurd h (by decide)
  have HF : Hid (Calls Tryz.prog 14 #[.pointer (some ⟨b, 0, none⟩), .int .i64 after] w1 fun e w' => (∃ v, e = .returned v) ∧ WG w' b 9 (WS.new.fail after) ∧ Ext w w') := Lib.hid ((WFail_any hwg after (by omega)).mono fun e w' ⟨he, hw, k⟩ => ⟨he, hw, ((hb1.chg _).trans k fun g _ hg => hg).ext fun g hg hS => by
    have h1 : g = b := hS
    omega⟩)
  have HR0 : Hid (Run after 0 (WS.new.fail after)) := Lib.hid ⟨fun _ => ⟨rfl, by show max (-1) (after : Int) = _; omega⟩, fun h => by omega, Nat.zero_le _⟩
  clear hwg HNEW
  go_wp2_with fail
  refine HF.out.mono ?_
  rintro _ w2 ⟨⟨v2, rfl⟩, hw2, e2⟩
  have HW2 := Lib.hid hw2
  clear hw2 HF
  go_wp2_with fail
  go_loopw [9, 10, 11, 12, 13, 14, 15] (fun sv iv _ _ _ _ _ wr => ∃ (i : Nat) (z : WS), sv = .int .i64 i ∧ iv = .int .i64 i ∧ i ≤ many ∧ Ext w wr ∧ Hid (WG wr b 9 z) ∧ Hid (Run after i z)) (fun _ iv _ _ _ _ _ _ => many - (intOf iv).toNat)
  case atStart => exact ⟨0, _, rfl, rfl, Nat.zero_le _, e2, HW2, HR0⟩
  case round =>
    obtain ⟨i, z, rfl, rfl, hi, hbw, hwg, hrun⟩ := hrel
    by_cases hci : i < many
    · have HX := Lib.hid hrun.out.putX
      obtain ⟨z', hz', hrun'⟩ := hrun.out.putA
      have HA := Lib.hid hz'
      have HRN := Lib.hid hrun'
      have hml := hrun.out.many
      have HC1 := Lib.hid (put_one w wr b z z _ _ _ _ hwg.out hbw hbs (by omega) HP.out HX.out)
      have HC2 := Lib.hid fun W (e : Ext w W) (hw : WG W b 9 z) => put_one w W b z z' _ _ _ _ hw e hbs (by omega) HP.out HA.out
      have hks : (after < i ∧ k1 after i = 6 ∧ k2 after i = 6) ∨ (after = i ∧ k1 after i = 2 ∧ k2 after i = 6) ∨ (i < after ∧ k1 after i = 2 ∧ k2 after i = 0) := by
        unfold k1 k2
        rcases Nat.lt_trichotomy i after with h | h | h
        · exact .inr (.inr ⟨h, if_neg (by omega), if_neg (by omega)⟩)
        · exact .inr (.inl ⟨h.symm, if_neg (by omega), if_pos (by omega)⟩)
        · exact .inl ⟨h, if_pos h, if_pos (by omega)⟩
      clear hz' hrun'
      generalize k1 after i = q1 at *
      generalize k2 after i = q2 at *
      have HER : ∀ (k e : Int) (v : Bool), errIs k e = v → Hid (∀ W, Ext w W → Calls Tryz.prog 16 #[errR k, .int .i64 e] W fun x w' => x = .returned (.bool v) ∧ Ext W w') := fun k e v hv => Lib.hid fun W eW => by
        have h := Error_any k e W (HE.out.ext eW)
        rw [hv] at h
        exact h
      rcases hks with ⟨h, rfl, rfl⟩ | ⟨h, rfl, rfl⟩ | ⟨h, rfl, rfl⟩
      · have HR1 := HER 6 6 true rfl
        have HR2 := HER 6 2 false rfl
        have j1 : (after : Int) < (i : Int) := by omega
        have j2 : ¬ (i : Int) ≤ (after : Int) := by omega
        have j3 : ¬ (i : Int) < (after : Int) := by omega
        have j4 : ((i : Int) == (after : Int)) = false := beq_eq_false_iff_ne.2 (by omega)
        clear HER h
        go_wp2_with fail
        refine HC1.out.mono ?_
        rintro _ w3 ⟨rfl, hw3, e3⟩
        have HW3 := Lib.hid hw3
        clear hw3
        go_wp2_with fail
        refine (HC2.out w3 e3 HW3.out).mono ?_
        rintro _ w4 ⟨rfl, hw4, e4⟩
        have HW4 := Lib.hid hw4
        clear hw4
        go_wp2_with fail
        refine (HR1.out w4 e4).mono ?_
        rintro _ w5 ⟨rfl, hb5⟩
        have e5 := e4.trans hb5
        go_wp2_with fail
        refine (HR2.out w5 e5).mono ?_
        rintro _ w6 ⟨rfl, hb6⟩
        have e6 := e5.trans hb6
        go_wp2_with fail
        refine (HR1.out w6 e6).mono ?_
        rintro _ w7 ⟨rfl, hb7⟩
        have e7 := e6.trans hb7
        have HW7 := Lib.hid (((HW4.out.ext hb5).ext hb6).ext hb7)
        clear HC1 HC2 HR1 HR2 HW3 HW4
        go_wp2_with fail
        go_roundw
        case rel => exact ⟨i + 1, z', by go_num, by go_num, by omega, e7, HW7, HRN⟩
        case measure => simp [intOf]; omega
      · have HR1 := HER 2 6 false rfl
        have HR2 := HER 2 2 true rfl
        have HR3 := HER 6 6 true rfl
        have j1 : ¬ (after : Int) < (i : Int) := by omega
        have j2 : (i : Int) ≤ (after : Int) := by omega
        have j3 : ¬ (i : Int) < (after : Int) := by omega
        have j4 : ((i : Int) == (after : Int)) = true := beq_iff_eq.2 (by omega)
        clear HER h
        go_wp2_with fail
        refine HC1.out.mono ?_
        rintro _ w3 ⟨rfl, hw3, e3⟩
        have HW3 := Lib.hid hw3
        clear hw3
        go_wp2_with fail
        refine (HC2.out w3 e3 HW3.out).mono ?_
        rintro _ w4 ⟨rfl, hw4, e4⟩
        have HW4 := Lib.hid hw4
        clear hw4
        go_wp2_with fail
        refine (HR1.out w4 e4).mono ?_
        rintro _ w5 ⟨rfl, hb5⟩
        have e5 := e4.trans hb5
        go_wp2_with fail
        refine (HR2.out w5 e5).mono ?_
        rintro _ w6 ⟨rfl, hb6⟩
        have e6 := e5.trans hb6
        go_wp2_with fail
        refine (HR3.out w6 e6).mono ?_
        rintro _ w7 ⟨rfl, hb7⟩
        have e7 := e6.trans hb7
        have HW7 := Lib.hid (((HW4.out.ext hb5).ext hb6).ext hb7)
        clear HC1 HC2 HR1 HR2 HR3 HW3 HW4
        go_wp2_with fail
        go_roundw
        case rel => exact ⟨i + 1, z', by go_num, by go_num, by omega, e7, HW7, HRN⟩
        case measure => simp [intOf]; omega
      · have HR1 := HER 2 6 false rfl
        have HR2 := HER 2 2 true rfl
        have HR3 := HER 0 6 false rfl
        have j1 : ¬ (after : Int) < (i : Int) := by omega
        have j2 : (i : Int) ≤ (after : Int) := by omega
        have j3 : (i : Int) < (after : Int) := by omega
        have j4 : ((i : Int) == (after : Int)) = false := beq_eq_false_iff_ne.2 (by omega)
        rw [errR_0] at HR3
        clear HER h
        go_wp2_with fail
        refine HC1.out.mono ?_
        rintro _ w3 ⟨rfl, hw3, e3⟩
        have HW3 := Lib.hid hw3
        clear hw3
        go_wp2_with fail
        refine (HC2.out w3 e3 HW3.out).mono ?_
        rintro _ w4 ⟨rfl, hw4, e4⟩
        rw [errR_0]
        have HW4 := Lib.hid hw4
        clear hw4
        go_wp2_with fail
        refine (HR1.out w4 e4).mono ?_
        rintro _ w5 ⟨rfl, hb5⟩
        have e5 := e4.trans hb5
        go_wp2_with fail
        refine (HR2.out w5 e5).mono ?_
        rintro _ w6 ⟨rfl, hb6⟩
        have e6 := e5.trans hb6
        go_wp2_with fail
        refine (HR3.out w6 e6).mono ?_
        rintro _ w7 ⟨rfl, hb7⟩
        have e7 := e6.trans hb7
        have HW7 := Lib.hid (((HW4.out.ext hb5).ext hb6).ext hb7)
        clear HC1 HC2 HR1 HR2 HR3 HW3 HW4
        go_wp2_with fail
        go_roundw
        case rel => exact ⟨i + 1, z', by go_num, by go_num, by omega, e7, HW7, HRN⟩
        case measure => simp [intOf]; omega
    · obtain rfl : i = many := by omega
      have HWZ := Lib.hid hwg.out
      have HRZ := Lib.hid hrun.out
      clear hwg hrun
      go_wp2_with fail
      go_loopw [9, 16] (fun sv _ wr => ∃ (s : Nat) (z : WS), sv = .int .i64 s ∧ s ≤ 21 ∧ Ext w wr ∧ Hid (WG wr b 9 z) ∧ Hid (Run after s z)) (fun sv _ _ => 22 - (intOf sv).toNat)
      case atStart => exact ⟨i, z, rfl, by omega, hbw, HWZ, HRZ⟩
      case round =>
        obtain ⟨s, y, rfl, hs21, hbq, hwg, hrun⟩ := hrel
        have hml := hrun.out.many
        by_cases hcs : s ≤ after
        · obtain ⟨y', hy', hrun'⟩ := hrun.out.sync hcs
          have HRN := Lib.hid hrun'
          have hcsi : (s : Int) ≤ (after : Int) := by omega
          by_cases hse : s = after
          · rw [if_pos hse] at hy'
            have HC := Lib.hid (sync_one w wr b y y' 6 hwg.out hbq hbs hy')
            have j4 : ((s : Int) == (after : Int)) = true := beq_iff_eq.2 (by omega)
            clear hwg hrun hy' hrun' hse
            go_wp2_with fail
            refine HC.out.mono ?_
            rintro _ w3 ⟨rfl, hw3, e3⟩
            have HW3 := Lib.hid hw3
            have hok : isOk 6 = false := rfl
            clear hw3
            go_wp2_with fail
            go_roundw
            case rel => exact ⟨s + 1, y', by go_num, by omega, e3, HW3, HRN⟩
            case measure => simp [intOf]; omega
          · rw [if_neg hse] at hy'
            have HC := Lib.hid (sync_one w wr b y y' 0 hwg.out hbq hbs hy')
            have j4 : ((s : Int) == (after : Int)) = false := beq_eq_false_iff_ne.2 (by omega)
            rw [errR_0] at HC
            clear hwg hrun hy' hrun' hse
            go_wp2_with fail
            refine HC.out.mono ?_
            rintro _ w3 ⟨rfl, hw3, e3⟩
            have HW3 := Lib.hid hw3
            clear hw3
            go_wp2_with fail
            go_roundw
            case rel => exact ⟨s + 1, y', by go_num, by omega, e3, HW3, HRN⟩
            case measure => simp [intOf]; omega
        · have hcsi : ¬ (s : Int) ≤ (after : Int) := by omega
          have hst := hrun.out.off (by omega)
          have HS1 := Lib.hid (sync_one w wr b y y 6 hwg.out hbq hbs (WS.sync_stop hst))
          have HP2 := Lib.hid fun W (e : Ext w W) (hw : WG W b 9 y) => put_one w W b y y ⟨#[98]⟩ ⟨#[121]⟩ false 6 hw e hbs (by omega) HP.out (WS.put_stop hst)
          obtain ⟨z2, z3, hq1, hq2, hsee, hl2, hl3⟩ := behind y keep
          have HCR := Lib.hid fun W (e : Ext w W) (hw : WG W b 9 y) => (WCrash_any w b 9 y keep W hw e hbs (by omega) (igood_bd GK.out).1 (igood_bd GK.out).2 HSG.out HMG.out).mono fun e' w' ⟨he, hw', k⟩ => (⟨he, hw', ((e.chg _).trans k fun g _ hg => hg).ext fun g hg hS => by
            have h1 : g = b := hS
            omega⟩ : (∃ v, e' = Ending.returned v) ∧ WG w' b 9 (y.crash keep) ∧ Ext w w')
          have hcl : (y.crash keep).bs.length ≤ 40 := by
            show (y.bs.take _).length ≤ 40
            rw [List.length_take]; omega
          have HP4 := Lib.hid fun W (e : Ext w W) (hw : WG W b 9 (y.crash keep)) => put_one w W b (y.crash keep) z2 ⟨#[98]⟩ ⟨#[121]⟩ false 0 hw e hbs hcl HP.out hq1
          have HS5 := Lib.hid fun W (e : Ext w W) (hw : WG W b 9 z2) => sync_one w W b z2 z3 0 hw e hbs hq2
          have HR6 := Lib.hid fun W (e : Ext w W) => Error_is 6 W (HE.out.ext e)
          have HSEE := Lib.hid hsee
          rw [errR_0] at HP4 HS5
          clear hwg hrun hst hq1 hq2 hsee hcl
          go_wp2_with fail
          refine HS1.out.mono ?_
          rintro _ w3 ⟨rfl, hw3, e3⟩
          have HW3 := Lib.hid hw3
          clear hw3
          go_wp2_with fail
          refine (HP2.out w3 e3 HW3.out).mono ?_
          rintro _ w4 ⟨rfl, hw4, e4⟩
          have HW4 := Lib.hid hw4
          clear hw4
          go_wp2_with fail
          refine (HR6.out w4 e4).mono ?_
          rintro _ w5 ⟨rfl, hb5⟩
          have e5 := e4.trans hb5
          go_wp2_with fail
          refine (HR6.out w5 e5).mono ?_
          rintro _ w6 ⟨rfl, hb6⟩
          have e6 := e5.trans hb6
          have HW6 := Lib.hid ((HW4.out.ext hb5).ext hb6)
          clear HS1 HP2 HR6 HW3 HW4
          go_wp2_with fail
          refine (HCR.out w6 e6 HW6.out).mono ?_
          rintro _ w7 ⟨⟨v7, rfl⟩, hw7, e7⟩
          have HW7 := Lib.hid hw7
          clear hw7 HCR HW6
          go_wp2_with fail
          refine (HP4.out w7 e7 HW7.out).mono ?_
          rintro _ w8 ⟨rfl, hw8, e8⟩
          have HW8 := Lib.hid hw8
          clear hw8 HP4 HW7
          go_wp2_with fail
          refine (HS5.out w8 e8 HW8.out).mono ?_
          rintro _ w9 ⟨rfl, hw9, e9⟩
          have HLS := Lib.hid (WLsm_any hw9)
          clear hw9 HS5 HW8
          go_wp2_with fail
          refine HLS.out.mono ?_
          rintro _ w10 ⟨⟨x, rfl, hlm⟩, rfl⟩
          have HGT := LGet_any aF x _ _ _ pB.key _ hlm
          rw [HSEE.out, show oV (some pB.value) = ⟨#[121]⟩ from rfl, show oK (some pB.value) = 0 from rfl, errR_0] at HGT
          have hq : ((⟨#[121]⟩ : ByteArray).toList == [121]) = true := by kernel_rfl
          have HGT2 := Lib.hid HGT
          clear hlm HGT HLS
          go_wp2_with fail
          refine HGT2.out.mono ?_
          rintro _ w11 ⟨rfl, hb11⟩
          have e11 := e9.trans hb11
          go_wp2_with fail
          go_ret
          exact ⟨rfl, e11⟩
set_option maxRecDepth 100000 in
theorem walk (after many keep : Int) (w : World) (ga : igood after) (gm : igood many) (gk : igood keep) (hS : StrG w) (hM : MaxG w) (hG : ErrG w) (hP : PowG w) :
    Calls Tryz.prog 4 #[.int .i64 after, .int .i64 many, .int .i64 keep] w fun e w' => e = .returned (.bool true) ∧ Ext w w' := by
  obtain ⟨hE, hN, hG0⟩ := errR_rules
  by_cases h : (0 ≤ after ∧ after ≤ 20) ∧ (0 ≤ many ∧ many ≤ 20)
  · obtain ⟨⟨h1, h2⟩, h3, h4⟩ := h
    obtain ⟨a, rfl⟩ := Int.eq_ofNat_of_zero_le h1
    obtain ⟨m, rfl⟩ := Int.eq_ofNat_of_zero_le h3
    exact walk_yes a m keep w (by omega) (by omega) gk hS hM hG hP
  · have HNEW := Lib.hid (WNew_any 9 w)
    have h' : after < 0 ∨ (0 ≤ after ∧ 20 < after) ∨ (0 ≤ after ∧ ¬ 20 < after ∧ many < 0) ∨ (0 ≤ after ∧ ¬ 20 < after ∧ 0 ≤ many ∧ 20 < many) := by omega
    clear h
    rcases h' with h | ⟨h, h2⟩ | ⟨h, h2, h3⟩ | ⟨h, h2, h3, h4⟩
    all_goals
      go_enter Tryz.func4, Tryz.ntmps4
      go_wp2_with fail
      refine HNEW.out.mono ?_
      rintro _ w1 (⟨h3, -⟩ | ⟨-, b, rfl, -, -, hb1⟩)
      · exact absurd h3 (by decide)
      go_wp2_with fail
      go_ret
      exact ⟨rfl, hb1⟩
end Go.Proofs.YtcgfdhgceokcnaaGreatDoor.walStops
