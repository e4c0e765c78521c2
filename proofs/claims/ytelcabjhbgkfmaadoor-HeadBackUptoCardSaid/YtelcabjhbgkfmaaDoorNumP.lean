/- head.Print, Number, Parse. -/
import Derived.Test.YtelcabjhbgkfmaaDoorSgn
import Derived.Test.YtelcabjhbgkfmaaDoorSplitP
import Derived.Test.YtelcabjhbgkfmaaDoorParse2
import Derived.Lib.AtoiErrMem
namespace Go.Proofs.YtelcabjhbgkfmaaDoor
open Go.RowKit Go.WideShapes
set_option linter.unusedVariables false
attribute [local go_sem ↓] Go.wp_at_zero Go.wp_at_succ

def hprT (h : Hd) : ByteArray := if h.ok then headB h else ⟨#[]⟩
set_option maxRecDepth 100000 in
set_option maxHeartbeats 2000000 in
theorem HPrint_any (h : Hd) (w : World) (hD : DebG w) (hP : PowG w) :
    Calls Tryd.prog 26 #[h.val] w fun e w' => e = .returned (.tuple #[.string (hprT h), errR (hdK h)]) ∧ Ext w w' := by
  obtain ⟨hE, hN, hG0⟩ := errR_rules
  have HC := Lib.hid fun W => HCheck_any h W
  cases hok : h.ok with
  | false =>
    have h1 : hdK h = 1 := if_neg (by rw [hok]; decide)
    have h2 : hprT h = ⟨#[]⟩ := if_neg (by rw [hok]; decide)
    rw [h1] at HC ⊢
    rw [h2]
    clear hok h1 h2 hD hP
    obtain ⟨a, b, c, d⟩ := h
    simp only [Hd.val] at *
    have B0 := Bk.at_ w 40 #[.int .i64 a, .int .i64 b, .int .i64 c, .int .i64 d] w.heap.size rfl
    have e0 : Ext w (w.alloc (.cells #[.int .i64 a, .int .i64 b, .int .i64 c, .int .i64 d] 40)) := by (repeat (with_reducible first | exact Ext.refl _ | assumption | refine Ext.drew ?_ | refine Ext.drewN ?_ _ | refine Ext.alloc ?_ _ | refine Ext.trans ?_ (by with_reducible assumption)))
    go_enter Tryd.func26, Tryd.ntmps26
    go_upto_region 1 with (fail)
    obtain ⟨g0, hg0⟩ : ∃ g, w.heap.size = g := ⟨_, rfl⟩
    rw [hg0] at B0
    try rw [hg0]
    generalize w.alloc (.cells #[.int .i64 a, .int .i64 b, .int .i64 c, .int .i64 d] 40) = W0 at *
    have y0 := B0.cell 0
    have y1 := B0.cell 1
    have y2 := B0.cell 2
    have y3 := B0.cell 3
    have HE0 := Lib.hid e0
    clear e0 hg0
    go_wp2_with fail
    refine (HC.out _).mono ?_
    rintro _ w1 ⟨rfl, hb1⟩
    go_wp2_with fail
    go_ret2
    exact ⟨rfl, HE0.out.trans hb1⟩
  | true =>
    have h1 : hdK h = 0 := if_pos hok
    have h2 : hprT h = headB h := if_pos hok
    obtain ⟨k1, k2, k3, k4, k5, k6⟩ := Hd.ok_parts hok
    rw [h1] at HC ⊢
    rw [h2]
    have HHB : Hid (headB h = four4 (digB h.size.toNat) (hexT h.root.toNat) (digB h.time.toNat) (hexT h.sign.toNat)) := rfl
    have s1 : (digB h.size.toNat).size ≤ 7 := digB_small 6 _ (by show _ < 10000000; omega)
    have s3 : (digB h.time.toNat).size ≤ 7 := digB_small 6 _ (by show _ < 10000000; omega)
    have s2 := hexT_size h.root.toNat
    have s4 := hexT_size h.sign.toNat
    clear hok h1 h2
    obtain ⟨a, b, c, d⟩ := h
    simp only at k1 k2 k3 k4 k5 k6 s1 s2 s3 s4
    obtain ⟨a, rfl⟩ := Int.eq_ofNat_of_zero_le k1
    obtain ⟨c, rfl⟩ := Int.eq_ofNat_of_zero_le k3
    simp only [Int.toNat_natCast] at s1 s3 HHB
    have HI1 := Lib.hid fun W (e : Ext w W) => Itoa_any a W (by omega) (hP.ext e)
    have HI2 := Lib.hid fun W (e : Ext w W) => Itoa_any c W (by omega) (hP.ext e)
    obtain ⟨tx, htx⟩ : ∃ f : Int → ByteArray, ∀ z : Int, hexT z.toNat = f z := ⟨_, fun _ => rfl⟩
    have HT : Hid (∀ z, z = b ∨ z = d → ∀ W, Ext w W → Calls Tryd.prog 49 #[.int .i64 z] W fun e w' => e = .returned (.string (tx z)) ∧ Ext W w') := Lib.hid fun z hz W e => by
      rw [← htx z]
      rcases hz with rfl | rfl
      · exact MText_sum k5 W (hD.ext e)
      · exact MText_sum k6 W (hD.ext e)
    rw [htx b, htx d] at HHB
    rw [htx b] at s2
    rw [htx d] at s4
    obtain ⟨t1, ht1⟩ : ∃ t, digB a = t := ⟨_, rfl⟩
    obtain ⟨t3, ht3⟩ : ∃ t, digB c = t := ⟨_, rfl⟩
    rw [ht1] at HI1 HHB s1
    rw [ht3] at HI2 HHB s3
    have HJ := Lib.hid fun (g : Nat) (W : World) h0 h1 h2 h3 hg => Join4 g 4 t1 (tx b) t3 (tx d) W h0 h1 h2 h3 hg (by omega) (by omega)
    rw [← HHB.out] at HJ
    obtain ⟨hb, hhb⟩ : ∃ t, headB ⟨(a : Int), b, (c : Int), d⟩ = t := ⟨_, rfl⟩
    rw [hhb] at HJ ⊢
    clear hhb HHB ht1 ht3 htx s1 s2 s3 s4 k1 k2 k3 k4 k5 k6 hD hP
    simp only [Hd.val] at *
    have B0 := Bk.at_ w 40 #[.int .i64 a, .int .i64 b, .int .i64 c, .int .i64 d] w.heap.size rfl
    have e0 : Ext w (w.alloc (.cells #[.int .i64 a, .int .i64 b, .int .i64 c, .int .i64 d] 40)) := by (repeat (with_reducible first | exact Ext.refl _ | assumption | refine Ext.drew ?_ | refine Ext.drewN ?_ _ | refine Ext.alloc ?_ _ | refine Ext.trans ?_ (by with_reducible assumption)))
    go_enter Tryd.func26, Tryd.ntmps26
    go_upto_region 1 with (fail)
    obtain ⟨g0, hg0⟩ : ∃ g, w.heap.size = g := ⟨_, rfl⟩
    rw [hg0] at B0
    try rw [hg0]
    generalize w.alloc (.cells #[.int .i64 a, .int .i64 b, .int .i64 c, .int .i64 d] 40) = W0 at *
    have y0 := B0.cell 0
    have y1 := B0.cell 1
    have y2 := B0.cell 2
    have y3 := B0.cell 3
    have HE0 := Lib.hid e0
    clear e0 hg0
    go_wp2_with fail
    refine (HC.out _).mono ?_
    rintro _ w1 ⟨rfl, hb1⟩
    rw [errR_0]
    have HE1 := Lib.hid (HE0.out.trans hb1)
    have B1 := B0.ext hb1
    clear y0 y1 y2 y3 HE0 hb1 B0
    have x0 : ∀ x : WE w1, x.W.cell? ⟨g0, 0, none⟩ = some (.int .i64 a) := fun x => (B1.ext x.h).cell 0
    have x1 : ∀ x : WE w1, x.W.cell? ⟨g0, 1, none⟩ = some (.int .i64 b) := fun x => (B1.ext x.h).cell 1
    have x2 : ∀ x : WE w1, x.W.cell? ⟨g0, 2, none⟩ = some (.int .i64 c) := fun x => (B1.ext x.h).cell 2
    have x3 : ∀ x : WE w1, x.W.cell? ⟨g0, 3, none⟩ = some (.int .i64 d) := fun x => (B1.ext x.h).cell 3
    go_upto_region 4 with (fail)
    (refine wp_region_ext_tail (w0 := w1) 12 (by kernel_rfl) (by kernel_rfl) (by (repeat (with_reducible first | exact Ext.refl _ | assumption | refine Ext.drew ?_ | refine Ext.drewN ?_ _ | refine Ext.alloc ?_ _ | refine Ext.trans ?_ (by with_reducible assumption)))) ?_; simp only [List.take_succ_cons, List.take_zero, List.drop_succ_cons, List.drop_zero]; (repeat (go_big_quiet_step ((first
      | (go_at_call 58; first | exact quietE (HI1.out _ (HE1.out.trans (WE.h _))) | exact quietE (HI2.out _ (HE1.out.trans (WE.h _))))
      | (go_at_call 49; exact quietE (HT.out _ (by first | exact .inl rfl | exact .inr rfl) _ (HE1.out.trans (WE.h _)))))))); refine wpQuiet_nil ?_)
    rintro _ ⟨xq, rfl⟩
    obtain ⟨w6, hw6⟩ : ∃ w, xq.W = w := ⟨_, rfl⟩
    have hb6 : Ext w1 w6 := by rw [← hw6]; exact xq.h
    rw [hw6]
    clear hw6 x0 x1 x2 x3
    have B7 := Bk.at_ w6 9 #[.string t1, .string (tx b), .string t3, .string (tx d)] w6.heap.size rfl
    have e7 : Ext w1 (w6.alloc (.cells #[.string t1, .string (tx b), .string t3, .string (tx d)] 9)) := hb6.alloc _
    have HJ7 := Lib.hid (HJ.out w6.heap.size _ (B7.cell 0) (B7.cell 1) (B7.cell 2) (B7.cell 3) (by simp))
    go_wp2_with fail
    refine HJ7.out.mono ?_
    rintro _ w8 ⟨rfl, hb8⟩
    go_wp2_with fail
    go_ret2
    exact ⟨rfl, HE1.out.trans (e7.trans hb8)⟩

/-! ### Number -/
theorem atoi_bd {l : List UInt8} {v : Int} (h : Lib.atoiAll l = .ok v) : -9223372036854775808 ≤ v ∧ v ≤ 9223372036854775807 := by
  cases l with
  | nil => cases h
  | cons c r =>
    unfold Lib.atoiAll at h
    simp only at h
    generalize Lib.parseMag _ = pm at h
    cases pm
    case ok u =>
      simp only at h
      split at h
      · cases h
      · split at h
        · cases h
        · injection h with h
          subst h
          split <;> omega
    all_goals cases h
def NumR (s : ByteArray) (m : Nat) (e : Ending) : Prop := ∃ n : Int, e = .returned (.tuple #[.int .i64 n, .bool (numR s m).isSome]) ∧ ∀ v, numR s m = some v → n = (v : Int)
theorem numR_same {s : ByteArray} {m u : Nat} {v : Int} (hm : m ≤ 9) (h : numR s m = some u) (ha : Lib.atoiAll s.data.toList = .ok v) : v = u := by
  rw [numR_atoi h hm] at ha
  injection ha with ha
  exact ha.symm
theorem numR_not {s : ByteArray} {m : Nat} (hm : m ≤ 9) (ha : ∀ v, Lib.atoiAll s.data.toList ≠ .ok v) : numR s m = none := by
  cases h : numR s m with
  | none => rfl
  | some u => exact absurd (numR_atoi h hm) (ha _)
theorem NumR.no {s : ByteArray} {m : Nat} {n : Int} (h : numR s m = none) : NumR s m (.returned (.tuple #[.int .i64 n, .bool false])) := ⟨n, by rw [h]; rfl, fun v hv => by rw [h] at hv; cases hv⟩
theorem ItoaI_any (v : Int) (w : World) (h0 : -9223372036854775808 ≤ v) (h1 : v ≤ 9223372036854775807) (hp : PowG w) :
    Calls Tryd.prog 58 #[.int .i64 v] w fun e w' => e = .returned (.string ⟨(Lib.itoa v).toArray⟩) ∧ Ext w w' :=
  (Tryd.strconv_Itoa v h0 h1 w hp).mono fun e w' ⟨he, k, os, hw⟩ => ⟨he, by rw [hw]; exact ext_grow w k os⟩

set_option maxRecDepth 100000 in
set_option maxHeartbeats 1000000 in
theorem HNumber_any (s : ByteArray) (m : Nat) (w : World) (hs : s.size ≤ 140737488355328) (hm : m ≤ 9) (hG : StrG w) (hP : PowG w) :
    Calls Tryd.prog 60 #[.string s, .int .i64 m] w fun e w' => NumR s m e ∧ Ext w w' := by
  obtain ⟨hE, hN, hG0⟩ := errR_rules
  cases ha : Lib.atoiAll s.data.toList
  case ok v =>
    have HA := Lib.hid (Tryd.strconv_Atoi_ok s (by omega) v ha w)
    obtain ⟨b1, b2⟩ := atoi_bd ha
    have HI := Lib.hid fun W (e : Ext w W) => ItoaI_any v W b1 b2 (hP.ext e)
    have HSM := Lib.hid fun u (h : numR s m = some u) => numR_same hm h ha
    clear ha b1 b2 hP hG
    by_cases h0 : 0 ≤ v
    case neg =>
      have hno : numR s m = none := by
        cases h : numR s m with
        | none => rfl
        | some u => have := HSM.out u h; omega
      have HNO := Lib.hid (fun n : Int => NumR.no (n := n) hno)
      clear hno HSM HI
      go_enter Tryd.func60, Tryd.ntmps60
      go_wp2_with fail
      refine HA.out.mono ?_
      rintro _ w1 ⟨rfl, hw1⟩
      have hb1 : Ext w w1 := by rcases hw1 with rfl | ⟨t, rfl⟩; exact Ext.refl _; exact Lib.bytesWorld_below _ _ _
      clear hw1
      go_wp2_with fail
      go_ret2
      exact ⟨HNO.out _, hb1⟩
    by_cases h1 : s.size ≤ m
    case neg =>
      have hno : numR s m = none := by
        cases h : numR s m with
        | none => rfl
        | some u => exact absurd (numR_some h).1 h1
      have h1i : ¬ (s.size : Int) ≤ (m : Int) := by omega
      have HNO := Lib.hid (fun n : Int => NumR.no (n := n) hno)
      clear hno HSM HI h1
      go_enter Tryd.func60, Tryd.ntmps60
      go_wp2_with fail
      refine HA.out.mono ?_
      rintro _ w1 ⟨rfl, hw1⟩
      have hb1 : Ext w w1 := by rcases hw1 with rfl | ⟨t, rfl⟩; exact Ext.refl _; exact Lib.bytesWorld_below _ _ _
      clear hw1
      go_wp2_with fail
      go_ret2
      exact ⟨HNO.out _, hb1⟩
    obtain ⟨k, rfl⟩ := Int.eq_ofNat_of_zero_le h0
    have h1i : (s.size : Int) ≤ (m : Int) := by omega
    rw [digB_itoa] at HI
    have HY : Hid (digB k = s → numR s m = some k) := Lib.hid fun h => numR_of h1 h
    have HZ : Hid (∀ u, numR s m = some u → digB k = s) := Lib.hid fun u h => by
      have := HSM.out u h
      obtain rfl : k = u := by omega
      exact (numR_some h).2.2.2
    obtain ⟨t, ht⟩ : ∃ t, digB k = t := ⟨_, rfl⟩
    rw [ht] at HI HY HZ
    clear ht h1
    by_cases he : t = s
    · have hyes := HY.out he
      have HRS : Hid (NumR s m (.returned (.tuple #[.int .i64 (k : Int), .bool true]))) := Lib.hid ⟨_, by rw [hyes]; rfl, fun v hv => by rw [hyes] at hv; injection hv with hv; rw [hv]⟩
      subst he
      clear hyes HY HZ HSM
      go_enter Tryd.func60, Tryd.ntmps60
      go_wp2_with fail
      refine HA.out.mono ?_
      rintro _ w1 ⟨rfl, hw1⟩
      have hb1 : Ext w w1 := by rcases hw1 with rfl | ⟨t, rfl⟩; exact Ext.refl _; exact Lib.bytesWorld_below _ _ _
      clear hw1
      go_wp2_with fail
      refine (HI.out _ hb1).mono ?_
      rintro _ w2 ⟨rfl, hb2⟩
      go_wp2_with fail
      go_ret2
      exact ⟨HRS.out, hb1.trans hb2⟩
    · have hno : numR s m = none := by
        cases h : numR s m with
        | none => rfl
        | some u => exact absurd (HZ.out u h) he
      have HNO := Lib.hid (fun n : Int => NumR.no (n := n) hno)
      have q1 := (Lib.bytes_beq_false_iff t s).2 he
      clear hno HY HZ HSM
      go_enter Tryd.func60, Tryd.ntmps60
      go_wp2_with fail
      refine HA.out.mono ?_
      rintro _ w1 ⟨rfl, hw1⟩
      have hb1 : Ext w w1 := by rcases hw1 with rfl | ⟨t, rfl⟩; exact Ext.refl _; exact Lib.bytesWorld_below _ _ _
      clear hw1
      go_wp2_with fail
      refine (HI.out _ hb1).mono ?_
      rintro _ w2 ⟨rfl, hb2⟩
      have e2 := hb1.trans hb2
      go_wp2_with fail
      go_ret2
      exact ⟨HNO.out _, e2⟩
  case range =>
    obtain ⟨tp, p, hc⟩ := hG.rng.1
    have HA := Lib.hid (Tryd.strconv_Atoi_range s (by omega) ha (.iface tp p) w hc (.inr ⟨tp, p, rfl⟩))
    have HNO := Lib.hid (fun n : Int => NumR.no (n := n) (numR_not (s := s) hm (by rw [ha]; intro v h; cases h)))
    generalize Lib.atoiSat s.data.toList = sat at *
    clear ha hc hG hP
    go_enter Tryd.func60, Tryd.ntmps60
    go_wp2_with fail
    refine HA.out.mono ?_
    rintro _ w1 ⟨N, rfl, -, -, hb1⟩
    have hb1' : Ext w w1 := hb1
    clear hb1
    go_wp2_with fail
    go_ret2
    exact ⟨HNO.out _, hb1'⟩
  · obtain ⟨tp, p, hc⟩ := hG.syn.1
    have HA := Lib.hid (Tryd.strconv_Atoi_syntax s (by omega) ha (.iface tp p) w hc (.inr ⟨tp, p, rfl⟩))
    have HNO := Lib.hid (fun n : Int => NumR.no (n := n) (numR_not (s := s) hm (by rw [ha]; intro v h; cases h)))
    clear ha hc hG hP
    go_enter Tryd.func60, Tryd.ntmps60
    go_wp2_with fail
    refine HA.out.mono ?_
    rintro _ w1 ⟨N, rfl, -, -, hb1⟩
    have hb1' : Ext w w1 := hb1
    clear hb1
    go_wp2_with fail
    go_ret2
    exact ⟨HNO.out _, hb1'⟩
end Go.Proofs.YtelcabjhbgkfmaaDoor
