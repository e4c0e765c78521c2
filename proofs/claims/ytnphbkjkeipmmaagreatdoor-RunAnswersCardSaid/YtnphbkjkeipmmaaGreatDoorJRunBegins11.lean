/- The references' Digits. -/
import Derived.Test.YtnphbkjkeipmmaaGreatDoorJRunBegins2
import Derived.Test.YtnphbkjkeipmmaaGreatDoorJRunBegins1
import Derived.Deep.LoopGhost
import Derived.Deep.DrawnRows
import Derived.Test.YtnphbkjkeipmmaaGreatDoorJRunBegins10
import Derived.Test.YtnphbkjkeipmmaaGreatDoorJRunBegins9
import Derived.Lib.QuietBelow
namespace Go.Proofs.YtnphbkjkeipmmaaGreatDoor
open Go.RowKit
set_option linter.unusedVariables false
attribute [local go_sem ↓] Go.wp_at_zero Go.wp_at_succ

set_option maxRecDepth 100000 in
theorem RDigits_any (N : Nat) : ∀ (n : Nat) (w : World), n ≤ N → n ≤ 1000000000 →
    Calls Tryz.prog 9 #[.int .i64 n] w fun e w' => e = .returned (.string (digB n)) ∧ Ext w w' := by
  induction N with
  | zero =>
    intro n w h _
    obtain rfl : n = 0 := by omega
    have HD : Hid (digB 0 = digs.extract 0 (0 + 1)) := digB_one (by omega)
    go_enter Tryz.func9, Tryz.ntmps9
    go_wp2_with fail
    go_ret
    exact ⟨ret_str (by rw [HD.out]; rfl), by (repeat (with_reducible first | exact Ext.refl _ | assumption | refine Ext.drew ?_ | refine Ext.drewN ?_ _ | refine Ext.alloc ?_ _ | refine Ext.trans ?_ (by with_reducible assumption)))⟩
  | succ N ih =>
    intro n w h hn
    have IH := Lib.hid ih
    clear ih
    by_cases h1 : n < 10
    · have HD : Hid (digB n = digs.extract n (n + 1)) := digB_one h1
      go_enter Tryz.func9, Tryz.ntmps9
      go_wp2_with fail
      go_ret
      exact ⟨ret_str (by rw [HD.out]; rfl), by (repeat (with_reducible first | exact Ext.refl _ | assumption | refine Ext.drew ?_ | refine Ext.drewN ?_ _ | refine Ext.alloc ?_ _ | refine Ext.trans ?_ (by with_reducible assumption)))⟩
    · have HD : Hid (digB n = digB (n / 10) ++ digs.extract (n % 10) (n % 10 + 1)) := digB_more h1
      have hsz := digB_size n (n / 10) (by omega)
      have hs1 := digs_size (n := n % 10) (by omega)
      have e1 : Hid ((n : Int) / 10 = ((n / 10 : Nat) : Int)) := by show _ = _; omega
      go_enter Tryz.func9, Tryz.ntmps9
      go_wp2_with fail
      rw [e1.out]
      refine (IH.out (n / 10) _ (by omega) (by omega)).mono ?_
      rintro _ w1 ⟨rfl, hb1⟩
      have e2 : (n : Int) % 10 = ((n % 10 : Nat) : Int) := by omega
      rw [e2]
      have hr10 : n % 10 < 10 := by omega
      have HD' := HD.out
      generalize n % 10 = r at *
      have HD2 := Lib.hid HD'
      clear HD HD' e2 e1
      have hs2 : (digs.extract r (r + 1)).size ≤ 1 := by omega
      go_wp2_with fail
      go_ret
      exact ⟨ret_str (by rw [HD2.out]; rfl), by (repeat (with_reducible first | exact Ext.refl _ | assumption | refine Ext.drew ?_ | refine Ext.drewN ?_ _ | refine Ext.alloc ?_ _ | refine Ext.trans ?_ (by with_reducible assumption)))⟩

end Go.Proofs.YtnphbkjkeipmmaaGreatDoor

/- head.sign: four texts joined. -/
namespace Go.Proofs.YtnphbkjkeipmmaaGreatDoor
open Go.RowKit Go.WideShapes
set_option linter.unusedVariables false
attribute [local go_sem ↓] Go.wp_at_zero Go.wp_at_succ

theorem Itoa_any (n : Nat) (w : World) (hn : n < 1000000000000) (hp : PowG w) :
    Calls Tryz.prog 75 #[.int .i64 n] w fun e w' => e = .returned (.string (digB n)) ∧ Ext w w' :=
  (Tryz.strconv_Itoa (n : Int) (by omega) (by omega) w hp).mono fun e w' ⟨he, k, os, hw⟩ => ⟨by rw [he, digB_itoa], by rw [hw]; exact ext_grow w k os⟩
theorem Join4 (g c : Nat) (a b d e : ByteArray) (w : World) (h0 : w.cell? ⟨g, 0, none⟩ = some (.string a)) (h1 : w.cell? ⟨g, 1, none⟩ = some (.string b)) (h2 : w.cell? ⟨g, 2, none⟩ = some (.string d)) (h3 : w.cell? ⟨g, 3, none⟩ = some (.string e)) (hg : g < w.heap.size) (hc : 4 ≤ c) (hs : a.size + b.size + d.size + e.size ≤ 1000) :
    Calls Tryz.prog 116 #[.slice (some ⟨g, 0, none⟩) 4 c, .string ⟨#[32]⟩] w fun x w' => x = .returned (.string (four4 a b d e)) ∧ Ext w w' := by
  have hj := four4_join a b d e
  refine (Tryz.strings_Join g 0 c [a, b, d, e] ⟨#[32]⟩ w ?_ hg (by simp) hc ?_).mono ?_
  · intro j x hx
    match j, hx with
    | 0, hx => obtain rfl : a = x := by simpa using hx
               simpa using h0
    | 1, hx => obtain rfl : b = x := by simpa using hx
               simpa using h1
    | 2, hx => obtain rfl : d = x := by simpa using hx
               simpa using h2
    | 3, hx => obtain rfl : e = x := by simpa using hx
               simpa using h3
    | k + 4, hx => simp at hx
  · have h4 := four4_size a b d e
    have h5 : (Lib.join [a.data.toList, b.data.toList, d.data.toList, e.data.toList] sp.data.toList).length = (four4 a b d e).size := by
      rw [← hj]; show _ = (Lib.join _ _).toArray.size; simp
    show (Lib.join [a.data.toList, b.data.toList, d.data.toList, e.data.toList] sp.data.toList).length ≤ _
    rw [h5, h4]; omega
  · rintro x w' ⟨hx, hb⟩
    exact ⟨hx.trans (by rw [← hj]; rfl), hb⟩

set_option maxRecDepth 100000 in
set_option maxHeartbeats 2000000 in
theorem sign_any (h : Hd) (key : Int) (w : World) (k : 0 ≤ h.size ∧ h.size ≤ 200 ∧ 0 ≤ h.time ∧ h.time ≤ 1000000) (hv : vld h.root = true) (hk : keyI key = true) (hD : DebG w) (hP : PowG w) :
    Calls Tryz.prog 136 #[h.val, .int .i64 key] w fun e w' => e = .returned (.int .i64 (signI h key)) ∧ Ext w w' := by
  obtain ⟨s1, s2, s3⟩ := signB_sizes k hk
  have s4 := hexT_size h.root.toNat
  have HSG : Hid (signI h key = sumL (four4 (digB h.size.toNat) (hexT h.root.toNat) (digB h.time.toNat) (digB key.toNat)).data.toList) := rfl
  obtain ⟨k1, k2, k3, k4⟩ := k
  obtain ⟨k5, k6⟩ := keyI_true hk
  obtain ⟨k7, k8⟩ := vld_true hv
  obtain ⟨a, b, c, d⟩ := h
  simp only at k1 k2 k3 k4 k7 k8 s1 s2 s4 hv
  obtain ⟨a, rfl⟩ := Int.eq_ofNat_of_zero_le k1
  obtain ⟨c, rfl⟩ := Int.eq_ofNat_of_zero_le k3
  obtain ⟨ky, rfl⟩ := Int.eq_ofNat_of_zero_le (show 0 ≤ key by omega)
  simp only [Int.toNat_natCast] at s1 s2 s3 HSG
  have HI1 := Lib.hid fun W (e : Ext w W) => Itoa_any a W (by omega) (hP.ext e)
  have HI2 := Lib.hid fun W (e : Ext w W) => Itoa_any c W (by omega) (hP.ext e)
  have HI3 := Lib.hid fun W (e : Ext w W) => Itoa_any ky W (by omega) (hP.ext e)
  have HT := Lib.hid fun W (e : Ext w W) => MText_sum hv W (hD.ext e)
  obtain ⟨t1, ht1⟩ : ∃ t, digB a = t := ⟨_, rfl⟩
  obtain ⟨t2, ht2⟩ : ∃ t, hexT b.toNat = t := ⟨_, rfl⟩
  obtain ⟨t3, ht3⟩ : ∃ t, digB c = t := ⟨_, rfl⟩
  obtain ⟨t4, ht4⟩ : ∃ t, digB ky = t := ⟨_, rfl⟩
  rw [ht1] at HI1 HSG s1
  rw [ht2] at HT HSG s4
  rw [ht3] at HI2 HSG s2
  rw [ht4] at HI3 HSG s3
  have hz : (four4 t1 t2 t3 t4).size ≤ maxLen := by rw [four4_size]; unfold maxLen; omega
  have HSM := Lib.hid fun W => Sum_any (four4 t1 t2 t3 t4) W hz
  rw [← HSG.out] at HSM
  have HJ := Lib.hid fun (g : Nat) (W : World) h0 h1 h2 h3 hg => Join4 g 4 t1 t2 t3 t4 W h0 h1 h2 h3 hg (by omega) (by omega)
  obtain ⟨sg, hsg⟩ : ∃ s, signI ⟨(a : Int), b, (c : Int), d⟩ (ky : Int) = s := ⟨_, rfl⟩
  rw [hsg] at HSM
  rw [hsg]
  have B0 := Bk.at_ w 29 #[.int .i64 a, .int .i64 b, .int .i64 c, .int .i64 d] w.heap.size rfl
  have e0 : Ext w (w.alloc (.cells #[.int .i64 a, .int .i64 b, .int .i64 c, .int .i64 d] 29)) := by (repeat (with_reducible first | exact Ext.refl _ | assumption | refine Ext.drew ?_ | refine Ext.drewN ?_ _ | refine Ext.alloc ?_ _ | refine Ext.trans ?_ (by with_reducible assumption)))
  clear s1 s2 s3 s4 hz ht1 ht2 ht3 ht4 hsg k1 k2 k3 k4 k5 k6 k7 k8 hv hk hD hP HSG
  go_enter Tryz.func136, Tryz.ntmps136
  go_upto_region 1 with (fail)
  obtain ⟨g0, hg0⟩ : ∃ g, w.heap.size = g := ⟨_, rfl⟩
  have HLT : Hid (g0 < (w.alloc (.cells #[.int .i64 a, .int .i64 b, .int .i64 c, .int .i64 d] 29)).heap.size) := by rw [← hg0]; simp [Hid]
  rw [hg0] at B0 ⊢
  generalize w.alloc (.cells #[.int .i64 a, .int .i64 b, .int .i64 c, .int .i64 d] 29) = W0 at *
  have x0 : ∀ x : WE W0, x.W.cell? ⟨g0, 0, none⟩ = some (.int .i64 a) := fun x => (B0.ext x.h).cell 0
  have x1 : ∀ x : WE W0, x.W.cell? ⟨g0, 1, none⟩ = some (.int .i64 b) := fun x => (B0.ext x.h).cell 1
  have x2 : ∀ x : WE W0, x.W.cell? ⟨g0, 2, none⟩ = some (.int .i64 c) := fun x => (B0.ext x.h).cell 2
  have HE0 := Lib.hid e0
  clear e0 hg0
  (refine wp_region_ext_tail (w0 := W0) 11 (by kernel_rfl) (by kernel_rfl) (by (repeat (with_reducible first | exact Ext.refl _ | assumption | refine Ext.drew ?_ | refine Ext.drewN ?_ _ | refine Ext.alloc ?_ _ | refine Ext.trans ?_ (by with_reducible assumption)))) ?_; simp only [List.take_succ_cons, List.take_zero, List.drop_succ_cons, List.drop_zero]; (repeat (go_big_quiet_step ((first
    | (go_at_call 75; first | exact quietE (HI1.out _ (HE0.out.trans (WE.h _))) | exact quietE (HI2.out _ (HE0.out.trans (WE.h _))) | exact quietE (HI3.out _ (HE0.out.trans (WE.h _))))
    | (go_at_call 78; exact quietE (HT.out _ (HE0.out.trans (WE.h _)))))))); refine wpQuiet_nil ?_)
  rintro _ ⟨xq, rfl⟩
  obtain ⟨w6, hw6⟩ : ∃ w, xq.W = w := ⟨_, rfl⟩
  have hb6 : Ext W0 w6 := by rw [← hw6]; exact xq.h
  rw [hw6]
  clear hw6 x0 x1 x2
  have B7 := Bk.at_ w6 9 #[.string t1, .string t2, .string t3, .string t4] w6.heap.size rfl
  have e7 : Ext W0 (w6.alloc (.cells #[.string t1, .string t2, .string t3, .string t4] 9)) := hb6.alloc _
  have HJ7 := Lib.hid (HJ.out w6.heap.size _ (B7.cell 0) (B7.cell 1) (B7.cell 2) (B7.cell 3) (by simp))
  go_wp2_with fail
  refine HJ7.out.mono ?_
  rintro _ w8 ⟨rfl, hb8⟩
  go_wp2_with fail
  refine (HSM.out _).mono ?_
  rintro _ w9 ⟨rfl, hb9⟩
  go_wp2_with fail
  go_ret
  exact ⟨rfl, HE0.out.trans ((e7.trans hb8).trans hb9)⟩
end Go.Proofs.YtnphbkjkeipmmaaGreatDoor

/- head.Check, Key, Verify; the references' Key, Head, Signed, Verify. -/
namespace Go.Proofs.YtnphbkjkeipmmaaGreatDoor
open Go.RowKit Go.WideShapes
set_option linter.unusedVariables false
attribute [local go_sem ↓] Go.wp_at_zero Go.wp_at_succ

set_option maxRecDepth 100000 in
set_option maxHeartbeats 1000000 in
theorem headCheck_ok (a b c d : Int) (w : World) (h0 : 0 ≤ a) (h1 : a ≤ 200) (h2 : 0 ≤ c) (h3 : c ≤ 1000000) (h4 : vld b = true) (h5 : vld d = true) :
    Calls Tryz.prog 115 #[.agg #[.int .i64 a, .int .i64 b, .int .i64 c, .int .i64 d]] w fun e w' => e = .returned .nilIface ∧ Ext w w' := by
  go_enter Tryz.func115, Tryz.ntmps115
  go_wp2_with (go_at_call 139; refine (Valid_any _ _).mono ?_; rintro e w' ⟨rfl, rfl⟩)
  go_ret
  exact ⟨rfl, by (repeat (with_reducible first | exact Ext.refl _ | assumption | refine Ext.drew ?_ | refine Ext.drewN ?_ _ | refine Ext.alloc ?_ _ | refine Ext.trans ?_ (by with_reducible assumption)))⟩

set_option maxRecDepth 100000 in
set_option maxHeartbeats 1000000 in
theorem headCheck_bad (a b c d : Int) (w : World) (hb : ¬ (0 ≤ a ∧ a ≤ 200 ∧ 0 ≤ c ∧ c ≤ 1000000 ∧ vld b = true ∧ vld d = true)) :
    Calls Tryz.prog 115 #[.agg #[.int .i64 a, .int .i64 b, .int .i64 c, .int .i64 d]] w fun e w' => e = .returned (errV 1) ∧ Ext w w' := by
  have cases6 : a < 0 ∨ (0 ≤ a ∧ 200 < a) ∨ (0 ≤ a ∧ a ≤ 200 ∧ c < 0) ∨ (0 ≤ a ∧ a ≤ 200 ∧ 0 ≤ c ∧ 1000000 < c) ∨ (0 ≤ a ∧ a ≤ 200 ∧ 0 ≤ c ∧ c ≤ 1000000 ∧ vld b = false) ∨ (0 ≤ a ∧ a ≤ 200 ∧ 0 ≤ c ∧ c ≤ 1000000 ∧ vld b = true ∧ vld d = false) := by
    by_cases x1 : a < 0
    · exact .inl x1
    by_cases x2 : 200 < a
    · exact .inr (.inl ⟨by omega, x2⟩)
    by_cases x3 : c < 0
    · exact .inr (.inr (.inl ⟨by omega, by omega, x3⟩))
    by_cases x4 : 1000000 < c
    · exact .inr (.inr (.inr (.inl ⟨by omega, by omega, by omega, x4⟩)))
    cases x5 : vld b
    · exact .inr (.inr (.inr (.inr (.inl ⟨by omega, by omega, by omega, by omega, rfl⟩))))
    cases x6 : vld d
    · exact .inr (.inr (.inr (.inr (.inr ⟨by omega, by omega, by omega, by omega, rfl, rfl⟩))))
    exact absurd ⟨by omega, by omega, by omega, by omega, x5, x6⟩ hb
  clear hb
  rcases cases6 with x1 | ⟨x1, x2⟩ | ⟨x1, x2, x3⟩ | ⟨x1, x2, x3, x4⟩ | ⟨x1, x2, x3, x4, x5⟩ | ⟨x1, x2, x3, x4, x5, x6⟩
  all_goals
    go_enter Tryz.func115, Tryz.ntmps115
    go_wp2_with (go_at_call 139; refine (Valid_any _ _).mono ?_; rintro e w' ⟨rfl, rfl⟩)
    go_ret
    exact ⟨rfl, by (repeat (with_reducible first | exact Ext.refl _ | assumption | refine Ext.drew ?_ | refine Ext.drewN ?_ _ | refine Ext.alloc ?_ _ | refine Ext.trans ?_ (by with_reducible assumption)))⟩
theorem HCheck_any (h : Hd) (w : World) : Calls Tryz.prog 115 #[h.val] w fun e w' => e = .returned (errR (hdK h)) ∧ Ext w w' := by
  cases hk : h.ok with
  | true =>
    obtain ⟨h0, h1, h2, h3, h4, h5⟩ := Hd.ok_parts hk
    rw [show hdK h = 0 from if_pos hk, errR_0]
    exact headCheck_ok _ _ _ _ w h0 h1 h2 h3 h4 h5
  | false =>
    rw [show hdK h = 1 from if_neg (by rw [hk]; decide)]
    exact headCheck_bad _ _ _ _ w (Hd.not_ok hk)
theorem HKey_any (k : Int) (w : World) : Calls Tryz.prog 27 #[.int .i64 k] w fun e w' => e = .returned (.bool (keyI k)) ∧ w = w' := by
  have h3 : (keyI k = false ∧ ¬ 1 ≤ k) ∨ (keyI k = false ∧ 1 ≤ k ∧ ¬ k ≤ 1000000) ∨ (keyI k = true ∧ 1 ≤ k ∧ k ≤ 1000000) := by
    cases hk : keyI k with
    | true => have := keyI_true hk; exact .inr (.inr ⟨rfl, this.1, this.2⟩)
    | false =>
      have := keyI_false hk
      by_cases h1 : 1 ≤ k
      · exact .inr (.inl ⟨rfl, h1, fun h => this ⟨h1, h⟩⟩)
      · exact .inl ⟨rfl, h1⟩
  rcases h3 with ⟨h, h1⟩ | ⟨h, h1, h2⟩ | ⟨h, h1, h2⟩
  all_goals
    rw [h]
    clear h
    go_enter Tryz.func27, Tryz.ntmps27
    go_wp2_with fail
    go_ret
    exact ⟨rfl, rfl⟩
theorem RKeyB_any (k : Int) (w : World) : Calls Tryz.prog 59 #[.int .i64 k] w fun e w' => e = .returned (.bool (keyI k)) ∧ w = w' := by
  have h3 : (keyI k = false ∧ ¬ 1 ≤ k) ∨ (keyI k = false ∧ 1 ≤ k ∧ ¬ k ≤ 1000000) ∨ (keyI k = true ∧ 1 ≤ k ∧ k ≤ 1000000) := by
    cases hk : keyI k with
    | true => have := keyI_true hk; exact .inr (.inr ⟨rfl, this.1, this.2⟩)
    | false =>
      have := keyI_false hk
      by_cases h1 : 1 ≤ k
      · exact .inr (.inl ⟨rfl, h1, fun h => this ⟨h1, h⟩⟩)
      · exact .inl ⟨rfl, h1⟩
  rcases h3 with ⟨h, h1⟩ | ⟨h, h1, h2⟩ | ⟨h, h1, h2⟩
  all_goals
    rw [h]
    clear h
    go_enter Tryz.func59, Tryz.ntmps59
    go_wp2_with fail
    go_ret
    exact ⟨rfl, rfl⟩

set_option maxRecDepth 100000 in
set_option maxHeartbeats 1000000 in
theorem Verify_any (h : Hd) (key : Int) (w : World) (hD : DebG w) (hP : PowG w) :
    Calls Tryz.prog 149 #[h.val, .int .i64 key] w fun e w' => e = .returned (errR (verK h key)) ∧ Ext w w' := by
  obtain ⟨hE, hN, hG0⟩ := errR_rules
  have HK := Lib.hid fun W => HKey_any key W
  have HC := Lib.hid fun W => HCheck_any h W
  have HSG : Hid (keyI key = true → h.ok = true → ∀ W, Ext w W → Calls Tryz.prog 136 #[h.val, .int .i64 key] W fun e w' => e = .returned (.int .i64 (signI h key)) ∧ Ext W w') := Lib.hid fun hk ho W e => by
    obtain ⟨a1, a2, a3, a4, a5, a6⟩ := Hd.ok_parts ho
    exact sign_any h key W ⟨a1, a2, a3, a4⟩ a5 hk (hD.ext e) (hP.ext e)
  have HV1 : Hid (keyI key = false → verK h key = 1) := Lib.hid fun hk => by unfold verK; rw [if_neg (by rw [hk]; simp)]
  have HV2 : Hid (h.ok = false → verK h key = 1) := Lib.hid fun ho => by unfold verK; rw [if_neg (by rw [ho]; simp)]
  have HV3 : Hid (keyI key = true → h.ok = true → verK h key = if h.sign = signI h key then 0 else 9) := Lib.hid fun hk ho => by unfold verK; rw [if_pos (by rw [hk, ho]; rfl)]
  have HC1 : Hid (h.ok = true → hdK h = 0) := Lib.hid fun ho => if_pos ho
  have HC2 : Hid (h.ok = false → hdK h = 1) := Lib.hid fun ho => if_neg (by rw [ho]; decide)
  obtain ⟨v, hv⟩ : ∃ v, verK h key = v := ⟨_, rfl⟩
  rw [hv] at HV1 HV2 HV3
  rw [hv]
  obtain ⟨sg, hsg⟩ : ∃ v, signI h key = v := ⟨_, rfl⟩
  rw [hsg] at HV3 HSG
  obtain ⟨kb, hkb⟩ : ∃ v, keyI key = v := ⟨_, rfl⟩
  obtain ⟨ob, hob⟩ : ∃ v, h.ok = v := ⟨_, rfl⟩
  obtain ⟨hk, hhk⟩ : ∃ v, hdK h = v := ⟨_, rfl⟩
  rw [hkb] at HK HSG HV1 HV3
  rw [hob] at HSG HV2 HV3 HC1 HC2
  rw [hhk] at HC HC1 HC2
  obtain ⟨a, b, c, d⟩ := h
  simp only [Hd.val] at *
  have B0 := Bk.at_ w 29 #[.int .i64 a, .int .i64 b, .int .i64 c, .int .i64 d] w.heap.size rfl
  have e0 : Ext w (w.alloc (.cells #[.int .i64 a, .int .i64 b, .int .i64 c, .int .i64 d] 29)) := by (repeat (with_reducible first | exact Ext.refl _ | assumption | refine Ext.drew ?_ | refine Ext.drewN ?_ _ | refine Ext.alloc ?_ _ | refine Ext.trans ?_ (by with_reducible assumption)))
  clear hv hsg hkb hob hhk hD hP
  obtain ⟨g0, hg0⟩ : ∃ g, w.heap.size = g := ⟨_, rfl⟩
  rw [hg0] at B0
  have y0 := B0.cell 0
  have y1 := B0.cell 1
  have y2 := B0.cell 2
  have y3 := B0.cell 3
  go_enter Tryz.func149, Tryz.ntmps149
  go_upto_region 1 with (fail)
  try rw [hg0]
  generalize w.alloc (.cells #[.int .i64 a, .int .i64 b, .int .i64 c, .int .i64 d] 29) = W0 at *
  have HE0 := Lib.hid e0
  clear e0 hg0
  cases kb with
  | false =>
    obtain rfl := HV1.out rfl
    go_wp2_with fail
    refine (HK.out _).mono ?_
    rintro _ _ ⟨rfl, rfl⟩
    go_wp2_with fail
    go_ret
    exact ⟨rfl, HE0.out⟩
  | true =>
    cases ob with
    | false =>
      obtain rfl := HV2.out rfl
      obtain rfl := HC2.out rfl
      go_wp2_with fail
      refine (HK.out _).mono ?_
      rintro _ _ ⟨rfl, rfl⟩
      go_wp2_with fail
      refine (HC.out _).mono ?_
      rintro _ w2 ⟨rfl, hb2⟩
      go_wp2_with fail
      go_ret
      exact ⟨rfl, HE0.out.trans hb2⟩
    | true =>
      have hv3 := HV3.out rfl rfl
      obtain rfl := HC1.out rfl
      rw [errR_0] at HC
      have HS := Lib.hid (HSG.out rfl rfl)
      go_wp2_with fail
      refine (HK.out _).mono ?_
      rintro _ _ ⟨rfl, rfl⟩
      go_wp2_with fail
      refine (HC.out _).mono ?_
      rintro _ w2 ⟨rfl, hb2⟩
      have e2 := HE0.out.trans hb2
      have B2 := B0.ext hb2
      have x0 : ∀ x : WE w2, x.W.cell? ⟨g0, 0, none⟩ = some (.int .i64 a) := fun x => (B2.ext x.h).cell 0
      have x1 : ∀ x : WE w2, x.W.cell? ⟨g0, 1, none⟩ = some (.int .i64 b) := fun x => (B2.ext x.h).cell 1
      have x2 : ∀ x : WE w2, x.W.cell? ⟨g0, 2, none⟩ = some (.int .i64 c) := fun x => (B2.ext x.h).cell 2
      have x3 : ∀ x : WE w2, x.W.cell? ⟨g0, 3, none⟩ = some (.int .i64 d) := fun x => (B2.ext x.h).cell 3
      have HV := Lib.hid hv3
      clear hv3 y0 y1 y2 y3
      go_upto_region 3 with (fail)
      (refine wp_region_ext (w0 := w2) (by kernel_rfl) (by kernel_rfl) (by (repeat (with_reducible first | exact Ext.refl _ | assumption | refine Ext.drew ?_ | refine Ext.drewN ?_ _ | refine Ext.alloc ?_ _ | refine Ext.trans ?_ (by with_reducible assumption)))) ?_; (repeat (go_big_quiet_step ((go_at_call 136; exact quietE (HS.out _ (e2.trans (WE.h _))))))); refine wpQuiet_nil ?_)
      intro w3 hb3
      clear x0 x1 x2 x3
      by_cases hs : d = sg
      · obtain rfl : v = 0 := HV.out.trans (if_pos hs)
        subst hs
        go_wp2_with fail
        go_ret
        exact ⟨rfl, e2.trans hb3⟩
      · obtain rfl : v = 9 := HV.out.trans (if_neg hs)
        have hs2 : (d == sg) = false := by simp [hs]
        go_wp2_with fail
        go_ret
        exact ⟨rfl, e2.trans hb3⟩
end Go.Proofs.YtnphbkjkeipmmaaGreatDoor

/- Heads in a row in memory. -/
namespace Go.Proofs.YtnphbkjkeipmmaaGreatDoor
open Go.RowKit Go.WideShapes
set_option linter.unusedVariables false

theorem flatH_nth : ∀ (l : List Hd) (j : Nat) (x : Hd) (i : Nat), l[j]? = some x → i < 4 → (l.flatMap Hd.cells)[j * 4 + i]? = x.cells[i]?
  | [], j, x, i, h, _ => by simp at h
  | y :: l, 0, x, i, h, hi => by
    obtain rfl : y = x := by simpa using h
    rw [List.flatMap_cons, Nat.zero_mul, Nat.zero_add, List.getElem?_append_left (by simpa [Hd.cells] using hi)]
  | y :: l, j + 1, x, i, h, hi => by
    rw [List.flatMap_cons, List.getElem?_append_right (by simp [Hd.cells]; omega), show (j + 1) * 4 + i - y.cells.length = j * 4 + i by simp [Hd.cells]; omega]
    exact flatH_nth l j x i (by simpa using h) hi
theorem Rd.getH {w : World} {A : Option Addr} {n c : Nat} {es : List Hd} (h : Rd w 4 A n c (es.flatMap Hd.cells)) {j : Nat} {e : Hd} (he : es[j]? = some e) :
    ∃ ad, A = some ad ∧ ad.block < w.heap.size ∧ w.cell? (ad.add (j * 4)) = some (.int .i64 e.size) ∧ w.cell? ⟨(ad.add (j * 4)).block, (ad.add (j * 4)).off + 1, none⟩ = some (.int .i64 e.root) ∧ w.cell? ⟨(ad.add (j * 4)).block, (ad.add (j * 4)).off + 2, none⟩ = some (.int .i64 e.time) ∧ w.cell? ⟨(ad.add (j * 4)).block, (ad.add (j * 4)).off + 3, none⟩ = some (.int .i64 e.sign) := by
  have h0 := flatH_nth es j e 0 he (by omega)
  have h1 := flatH_nth es j e 1 he (by omega)
  have h2 := flatH_nth es j e 2 he (by omega)
  have h3 := flatH_nth es j e 3 he (by omega)
  obtain ⟨ad, e1, hb, hc0⟩ := h.at_ h0
  obtain ⟨a1, e2, _, hc1⟩ := h.at_ h1
  obtain ⟨a2, e3, _, hc2⟩ := h.at_ h2
  obtain ⟨a3, e4, _, hc3⟩ := h.at_ h3
  rw [e1] at e2 e3 e4
  obtain rfl : ad = a1 := by injection e2
  obtain rfl : ad = a2 := by injection e3
  obtain rfl : ad = a3 := by injection e4
  rw [← add_add'] at hc1 hc2 hc3
  exact ⟨ad, e1, hb, hc0, hc1, hc2, hc3⟩
theorem flatH_len (l : List Hd) : (l.flatMap Hd.cells).length = l.length * 4 := by
  induction l with
  | nil => rfl
  | cons x l ih => rw [List.flatMap_cons, List.length_append, ih, List.length_cons]; simp [Hd.cells]; omega
theorem Rd.lenH {w : World} {A : Option Addr} {n c : Nat} {es : List Hd} (h : Rd w 4 A n c (es.flatMap Hd.cells)) : es.length = n := by
  have := h.1
  rw [flatH_len] at this
  omega
end Go.Proofs.YtnphbkjkeipmmaaGreatDoor

/- head.Sign. -/
namespace Go.Proofs.YtnphbkjkeipmmaaGreatDoor
open Go.RowKit Go.WideShapes
set_option linter.unusedVariables false
attribute [local go_sem ↓] Go.wp_at_zero Go.wp_at_succ

theorem Bk.put4 {w : World} {g : Nat} {t : TypeId} {a b c d : Value} (h : Bk w g t #[a, b, c, d]) (a' b' c' d' : Value) : Bk ((((w.setCell ⟨g, 0, none⟩ a').setCell ⟨g, 1, none⟩ b').setCell ⟨g, 2, none⟩ c').setCell ⟨g, 3, none⟩ d') g t #[a', b', c', d'] :=
  (((h.set_ 0 a').set_ 1 b').set_ 2 c').set_ 3 d'
theorem Ext.put4 {w0 w : World} {g : Nat} (h : Ext w0 w) (hg : w0.heap.size ≤ g) (a' b' c' d' : Value) : Ext w0 ((((w.setCell ⟨g, 0, none⟩ a').setCell ⟨g, 1, none⟩ b').setCell ⟨g, 2, none⟩ c').setCell ⟨g, 3, none⟩ d') :=
  (((h.setCell hg _).setCell hg _).setCell hg _).setCell hg _

set_option maxRecDepth 100000 in
set_option maxHeartbeats 1000000 in
theorem Sign_any (h : Hd) (key : Int) (w : World) (hD : DebG w) (hP : PowG w) :
    Calls Tryz.prog 110 #[h.val, .int .i64 key] w fun e w' => e = .returned (.tuple #[(sgnH h key).val, errR (sgnK h key)]) ∧ Ext w w' := by
  obtain ⟨hE, hN, hG0⟩ := errR_rules
  have HK := Lib.hid fun W => HKey_any key W
  have HC := Lib.hid fun W => HCheck_any (blank h) W
  have HSG : Hid (keyI key = true → (blank h).ok = true → ∀ W, Ext w W → Calls Tryz.prog 136 #[(blank h).val, .int .i64 key] W fun e w' => e = .returned (.int .i64 (signI h key)) ∧ Ext W w') := Lib.hid fun hk ho W e => by
    obtain ⟨a1, a2, a3, a4, a5, a6⟩ := Hd.ok_parts ho
    exact sign_any (blank h) key W ⟨a1, a2, a3, a4⟩ a5 hk (hD.ext e) (hP.ext e)
  have HV1 : Hid (keyI key = false → sgnK h key = 1 ∧ sgnH h key = ⟨0, 0, 0, 0⟩) := Lib.hid fun hk => by unfold sgnK sgnH; rw [if_neg (by rw [hk]; simp), if_neg (by rw [hk]; simp)]; exact ⟨rfl, rfl⟩
  have HV2 : Hid ((blank h).ok = false → sgnK h key = 1 ∧ sgnH h key = ⟨0, 0, 0, 0⟩) := Lib.hid fun ho => by unfold sgnK sgnH; rw [if_neg (by rw [ho]; simp), if_neg (by rw [ho]; simp)]; exact ⟨rfl, rfl⟩
  have HV3 : Hid (keyI key = true → (blank h).ok = true → sgnK h key = 0 ∧ sgnH h key = ⟨h.size, h.root, h.time, signI h key⟩) := Lib.hid fun hk ho => by unfold sgnK sgnH; rw [if_pos (by rw [hk, ho]; rfl), if_pos (by rw [hk, ho]; rfl)]; exact ⟨rfl, rfl⟩
  have HC1 : Hid ((blank h).ok = true → hdK (blank h) = 0) := Lib.hid fun ho => if_pos ho
  have HC2 : Hid ((blank h).ok = false → hdK (blank h) = 1) := Lib.hid fun ho => if_neg (by rw [ho]; decide)
  obtain ⟨v, hv⟩ : ∃ v, sgnK h key = v := ⟨_, rfl⟩
  obtain ⟨z, hz⟩ : ∃ v, sgnH h key = v := ⟨_, rfl⟩
  rw [hv, hz] at HV1 HV2 HV3
  rw [hv, hz]
  obtain ⟨sg, hsg⟩ : ∃ v, signI h key = v := ⟨_, rfl⟩
  rw [hsg] at HV3 HSG
  obtain ⟨kb, hkb⟩ : ∃ v, keyI key = v := ⟨_, rfl⟩
  obtain ⟨ob, hob⟩ : ∃ v, (blank h).ok = v := ⟨_, rfl⟩
  obtain ⟨hk, hhk⟩ : ∃ v, hdK (blank h) = v := ⟨_, rfl⟩
  rw [hkb] at HK HSG HV1 HV3
  rw [hob] at HSG HV2 HV3 HC1 HC2
  rw [hhk] at HC HC1 HC2
  obtain ⟨a, b, c, d⟩ := h
  simp only [Hd.val, blank] at *
  clear hv hz hsg hkb hob hhk hD hP
  have A0 := Bk.at_ w 29 #[.int .i64 a, .int .i64 b, .int .i64 c, .int .i64 d] w.heap.size rfl
  have A1 := A0.alloc (.cells #[.int .i64 0, .int .i64 0, .int .i64 0, .int .i64 0] 29)
  have B1 := Bk.at_ (w.alloc (.cells #[.int .i64 a, .int .i64 b, .int .i64 c, .int .i64 d] 29)) 29 #[.int .i64 0, .int .i64 0, .int .i64 0, .int .i64 0] (w.heap.size + 1) (by simp)
  have e0 : Ext w ((w.alloc (.cells #[.int .i64 a, .int .i64 b, .int .i64 c, .int .i64 d] 29)).alloc (.cells #[.int .i64 0, .int .i64 0, .int .i64 0, .int .i64 0] 29)) := by (repeat (with_reducible first | exact Ext.refl _ | assumption | refine Ext.drew ?_ | refine Ext.drewN ?_ _ | refine Ext.alloc ?_ _ | refine Ext.trans ?_ (by with_reducible assumption)))
  clear A0
  go_enter Tryz.func110, Tryz.ntmps110
  go_upto_region 1 with (fail)
  generalize ((w.alloc (.cells #[.int .i64 a, .int .i64 b, .int .i64 c, .int .i64 d] 29)).alloc (.cells #[.int .i64 0, .int .i64 0, .int .i64 0, .int .i64 0] 29)) = W0 at *
  obtain ⟨g0, hg0⟩ : ∃ g, w.heap.size = g := ⟨_, rfl⟩
  rw [hg0] at A1 B1
  try rw [hg0]
  have f3 := A1.frozen 3
  have y3 := A1.cell 3
  go_upto_region 2 with (fail)
  have A2 : Bk (W0.setCell ⟨g0, 3, none⟩ (.int .i64 0)) g0 29 #[.int .i64 a, .int .i64 b, .int .i64 c, .int .i64 0] := A1.set_ 3 _
  have B2 := B1.far (p := ⟨g0, 3, none⟩) (by simp) (.int .i64 0)
  have e2 : Ext w (W0.setCell ⟨g0, 3, none⟩ (.int .i64 0)) := e0.setCell (by rw [hg0]; exact Nat.le_refl _) _
  generalize W0.setCell ⟨g0, 3, none⟩ (.int .i64 0) = W2 at *
  have HE2 := Lib.hid e2
  have hgg := Lib.hid hg0
  have HB2 := Lib.hid B2
  clear A1 B1 e0 e2 f3 y3 hg0
  have hE4 : ∀ W, Ext W2 W → Ext w ((((W.setCell ⟨g0 + 1, 0, none⟩ (.int .i64 0)).setCell ⟨g0 + 1, 1, none⟩ (.int .i64 0)).setCell ⟨g0 + 1, 2, none⟩ (.int .i64 0)).setCell ⟨g0 + 1, 3, none⟩ (.int .i64 0)) := fun W e => (HE2.out.trans e).put4 (by rw [hgg.out]; omega) _ _ _ _
  have HE4 := Lib.hid hE4
  clear hE4
  cases kb with
  | false =>
    obtain ⟨rfl, rfl⟩ := HV1.out rfl
    clear HV1 HV2 HV3 HC1 HC2 HC HSG
    have q0 := HB2.out.frozen 0
    have q1 := HB2.out.frozen 1
    have q2 := HB2.out.frozen 2
    have q3 := HB2.out.frozen 3
    have z0 := HB2.out.cell 0
    have z1 := HB2.out.cell 1
    have z2 := HB2.out.cell 2
    have z3 := HB2.out.cell 3
    go_wp2_with fail
    refine (HK.out _).mono ?_
    rintro _ _ ⟨rfl, rfl⟩
    go_wp2_with fail
    have P := HB2.out.put4 (.int .i64 0) (.int .i64 0) (.int .i64 0) (.int .i64 0)
    have p0 := P.cell 0
    have p1 := P.cell 1
    have p2 := P.cell 2
    have p3 := P.cell 3
    refine bodyPost_ret (by simp [results, Tryz.results110, go_sem, p0, p1, p2, p3]; try rfl) rfl ?_
    exact ⟨rfl, HE4.out _ (Ext.refl _)⟩
  | true =>
    have y0 := A2.cell 0
    have y1 := A2.cell 1
    have y2 := A2.cell 2
    have y3 := A2.cell 3
    cases ob with
    | false =>
      obtain ⟨rfl, rfl⟩ := HV2.out rfl
      obtain rfl := HC2.out rfl
      clear HV1 HV2 HV3 HC1 HC2 HSG
      go_wp2_with fail
      refine (HK.out _).mono ?_
      rintro _ _ ⟨rfl, rfl⟩
      go_wp2_with fail
      refine (HC.out _).mono ?_
      rintro _ w2 ⟨rfl, hb2⟩
      have B3 := HB2.out.ext hb2
      have q0 := B3.frozen 0
      have q1 := B3.frozen 1
      have q2 := B3.frozen 2
      have q3 := B3.frozen 3
      have z0 := B3.cell 0
      have z1 := B3.cell 1
      have z2 := B3.cell 2
      have z3 := B3.cell 3
      go_wp2_with fail
      have P := B3.put4 (.int .i64 0) (.int .i64 0) (.int .i64 0) (.int .i64 0)
      have p0 := P.cell 0
      have p1 := P.cell 1
      have p2 := P.cell 2
      have p3 := P.cell 3
      refine bodyPost_ret (by simp [results, Tryz.results110, go_sem, p0, p1, p2, p3]; try rfl) rfl ?_
      exact ⟨rfl, HE4.out _ hb2⟩
    | true =>
      obtain ⟨rfl, rfl⟩ := HV3.out rfl rfl
      obtain rfl := HC1.out rfl
      have HS := Lib.hid (HSG.out rfl rfl)
      rw [errR_0] at HC
      clear HV1 HV2 HV3 HC1 HC2 HSG HE4
      go_wp2_with fail
      refine (HK.out _).mono ?_
      rintro _ _ ⟨rfl, rfl⟩
      go_wp2_with fail
      refine (HC.out _).mono ?_
      rintro _ w2 ⟨rfl, hb2⟩
      have A3 := A2.ext hb2
      clear y0 y1 y2 y3
      have y0 := A3.cell 0
      have y1 := A3.cell 1
      have y2 := A3.cell 2
      have y3 := A3.cell 3
      have HE3 := Lib.hid (HE2.out.trans hb2)
      go_wp2_with fail
      refine (HS.out _ HE3.out).mono ?_
      rintro _ w3 ⟨rfl, hb3⟩
      have A4 := A3.ext hb3
      have B4 := (HB2.out.ext hb2).ext hb3
      have f4 := A4.frozen 3
      have u4 := A4.cell 3
      have e3 := HE3.out.trans hb3
      clear y0 y1 y2 y3
      go_upto_region 5 with (fail)
      have A5 : Bk (w3.setCell ⟨g0, 3, none⟩ (.int .i64 sg)) g0 29 #[.int .i64 a, .int .i64 b, .int .i64 c, .int .i64 sg] := A4.set_ 3 _
      have B5 := B4.far (p := ⟨g0, 3, none⟩) (by simp) (.int .i64 sg)
      have e5 : Ext w (w3.setCell ⟨g0, 3, none⟩ (.int .i64 sg)) := e3.setCell (by rw [hgg.out]; exact Nat.le_refl _) _
      generalize w3.setCell ⟨g0, 3, none⟩ (.int .i64 sg) = W5 at *
      have HE5 := Lib.hid e5
      clear A2 A3 A4 B4 f4 u4 e3 e5 hb2 hb3
      have y0 := A5.cell 0
      have y1 := A5.cell 1
      have y2 := A5.cell 2
      have y3 := A5.cell 3
      have q0 := B5.frozen 0
      have q1 := B5.frozen 1
      have q2 := B5.frozen 2
      have q3 := B5.frozen 3
      have z0 := B5.cell 0
      have z1 := B5.cell 1
      have z2 := B5.cell 2
      have z3 := B5.cell 3
      go_wp2_with fail
      have P := B5.put4 (.int .i64 a) (.int .i64 b) (.int .i64 c) (.int .i64 sg)
      have p0 := P.cell 0
      have p1 := P.cell 1
      have p2 := P.cell 2
      have p3 := P.cell 3
      refine bodyPost_ret (by simp [results, Tryz.results110, go_sem, p0, p1, p2, p3]; try rfl) rfl ?_
      exact ⟨rfl, HE5.out.put4 (by rw [hgg.out]; omega) _ _ _ _⟩
end Go.Proofs.YtnphbkjkeipmmaaGreatDoor
