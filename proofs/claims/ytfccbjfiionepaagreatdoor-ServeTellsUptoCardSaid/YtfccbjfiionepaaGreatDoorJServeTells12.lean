/- head.Print, Number, Parse. -/
import Derived.Test.YtfccbjfiionepaaGreatDoorJServeTells11
import Derived.Test.YtfccbjfiionepaaGreatDoorJServeTells9
import Derived.Lib.AtoiErrMem
import Derived.Lib.IfaceEq
import Derived.LaidEql
import Derived.Maps.OwnSet
import Derived.StringKeys
import Derived.Test.YtfccbjfiionepaaGreatDoorJServeTells4
import Derived.Test.YtfccbjfiionepaaGreatDoorJServeTells8
import Derived.Deep.RegionWith
namespace Go.Proofs.YtfccbjfiionepaaGreatDoor
open Go.RowKit Go.WideShapes
set_option linter.unusedVariables false
attribute [local go_sem ↓] Go.wp_at_zero Go.wp_at_succ

def hprT (h : Hd) : ByteArray := if h.ok then headB h else ⟨#[]⟩
set_option maxRecDepth 100000 in
set_option maxHeartbeats 2000000 in
theorem HPrint_any (h : Hd) (w : World) (hD : DebG w) (hP : PowG w) :
    Calls Tryz.prog 57 #[h.val] w fun e w' => e = .returned (.tuple #[.string (hprT h), errR (hdK h)]) ∧ Ext w w' := by
  obtain ⟨hE, hN, hG0⟩ := errR_rules
  have HC := Lib.hid fun W => HCheck_any h W
  cases hok : h.ok with
  | false =>
    have h1 : hdK h = 1 := if_neg (by rw [hok]; decide)
    have h2 : hprT h = ⟨#[]⟩ := if_neg (by rw [hok]; decide)
    rw [h1] at HC ⊢
    rw [h2]
    clear hok h1 h2 hD hP
    obtain ⟨a, b, c, d⟩ := h
    simp only [Hd.val] at *
    have B0 := Bk.at_ w 40 #[.int .i64 a, .int .i64 b, .int .i64 c, .int .i64 d] w.heap.size rfl
    have e0 : Ext w (w.alloc (.cells #[.int .i64 a, .int .i64 b, .int .i64 c, .int .i64 d] 40)) := by (repeat (with_reducible first | exact Ext.refl _ | assumption | refine Ext.drew ?_ | refine Ext.drewN ?_ _ | refine Ext.alloc ?_ _ | refine Ext.trans ?_ (by with_reducible assumption)))
    go_enter Tryz.func57, Tryz.ntmps57
    go_upto_region 1 with (fail)
    obtain ⟨g0, hg0⟩ : ∃ g, w.heap.size = g := ⟨_, rfl⟩
    rw [hg0] at B0
    try rw [hg0]
    generalize w.alloc (.cells #[.int .i64 a, .int .i64 b, .int .i64 c, .int .i64 d] 40) = W0 at *
    have y0 := B0.cell 0
    have y1 := B0.cell 1
    have y2 := B0.cell 2
    have y3 := B0.cell 3
    have HE0 := Lib.hid e0
    clear e0 hg0
    go_wp2_with fail
    refine (HC.out _).mono ?_
    rintro _ w1 ⟨rfl, hb1⟩
    go_wp2_with fail
    go_ret2
    exact ⟨rfl, HE0.out.trans hb1⟩
  | true =>
    have h1 : hdK h = 0 := if_pos hok
    have h2 : hprT h = headB h := if_pos hok
    obtain ⟨k1, k2, k3, k4, k5, k6⟩ := Hd.ok_parts hok
    rw [h1] at HC ⊢
    rw [h2]
    have HHB : Hid (headB h = four4 (digB h.size.toNat) (hexT h.root.toNat) (digB h.time.toNat) (hexT h.sign.toNat)) := rfl
    have s1 : (digB h.size.toNat).size ≤ 7 := digB_small 6 _ (by show _ < 10000000; omega)
    have s3 : (digB h.time.toNat).size ≤ 7 := digB_small 6 _ (by show _ < 10000000; omega)
    have s2 := hexT_size h.root.toNat
    have s4 := hexT_size h.sign.toNat
    clear hok h1 h2
    obtain ⟨a, b, c, d⟩ := h
    simp only at k1 k2 k3 k4 k5 k6 s1 s2 s3 s4
    obtain ⟨a, rfl⟩ := Int.eq_ofNat_of_zero_le k1
    obtain ⟨c, rfl⟩ := Int.eq_ofNat_of_zero_le k3
    simp only [Int.toNat_natCast] at s1 s3 HHB
    have HI1 := Lib.hid fun W (e : Ext w W) => Itoa_any a W (by omega) (hP.ext e)
    have HI2 := Lib.hid fun W (e : Ext w W) => Itoa_any c W (by omega) (hP.ext e)
    obtain ⟨tx, htx⟩ : ∃ f : Int → ByteArray, ∀ z : Int, hexT z.toNat = f z := ⟨_, fun _ => rfl⟩
    have HT : Hid (∀ z, z = b ∨ z = d → ∀ W, Ext w W → Calls Tryz.prog 61 #[.int .i64 z] W fun e w' => e = .returned (.string (tx z)) ∧ Ext W w') := Lib.hid fun z hz W e => by
      rw [← htx z]
      rcases hz with rfl | rfl
      · exact MText_sum k5 W (hD.ext e)
      · exact MText_sum k6 W (hD.ext e)
    rw [htx b, htx d] at HHB
    rw [htx b] at s2
    rw [htx d] at s4
    obtain ⟨t1, ht1⟩ : ∃ t, digB a = t := ⟨_, rfl⟩
    obtain ⟨t3, ht3⟩ : ∃ t, digB c = t := ⟨_, rfl⟩
    rw [ht1] at HI1 HHB s1
    rw [ht3] at HI2 HHB s3
    have HJ := Lib.hid fun (g : Nat) (W : World) h0 h1 h2 h3 hg => Join4 g 4 t1 (tx b) t3 (tx d) W h0 h1 h2 h3 hg (by omega) (by omega)
    rw [← HHB.out] at HJ
    obtain ⟨hb, hhb⟩ : ∃ t, headB ⟨(a : Int), b, (c : Int), d⟩ = t := ⟨_, rfl⟩
    rw [hhb] at HJ ⊢
    clear hhb HHB ht1 ht3 htx s1 s2 s3 s4 k1 k2 k3 k4 k5 k6 hD hP
    simp only [Hd.val] at *
    have B0 := Bk.at_ w 40 #[.int .i64 a, .int .i64 b, .int .i64 c, .int .i64 d] w.heap.size rfl
    have e0 : Ext w (w.alloc (.cells #[.int .i64 a, .int .i64 b, .int .i64 c, .int .i64 d] 40)) := by (repeat (with_reducible first | exact Ext.refl _ | assumption | refine Ext.drew ?_ | refine Ext.drewN ?_ _ | refine Ext.alloc ?_ _ | refine Ext.trans ?_ (by with_reducible assumption)))
    go_enter Tryz.func57, Tryz.ntmps57
    go_upto_region 1 with (fail)
    obtain ⟨g0, hg0⟩ : ∃ g, w.heap.size = g := ⟨_, rfl⟩
    rw [hg0] at B0
    try rw [hg0]
    generalize w.alloc (.cells #[.int .i64 a, .int .i64 b, .int .i64 c, .int .i64 d] 40) = W0 at *
    have y0 := B0.cell 0
    have y1 := B0.cell 1
    have y2 := B0.cell 2
    have y3 := B0.cell 3
    have HE0 := Lib.hid e0
    clear e0 hg0
    go_wp2_with fail
    refine (HC.out _).mono ?_
    rintro _ w1 ⟨rfl, hb1⟩
    rw [errR_0]
    have HE1 := Lib.hid (HE0.out.trans hb1)
    have B1 := B0.ext hb1
    clear y0 y1 y2 y3 HE0 hb1 B0
    have x0 : ∀ x : WE w1, x.W.cell? ⟨g0, 0, none⟩ = some (.int .i64 a) := fun x => (B1.ext x.h).cell 0
    have x1 : ∀ x : WE w1, x.W.cell? ⟨g0, 1, none⟩ = some (.int .i64 b) := fun x => (B1.ext x.h).cell 1
    have x2 : ∀ x : WE w1, x.W.cell? ⟨g0, 2, none⟩ = some (.int .i64 c) := fun x => (B1.ext x.h).cell 2
    have x3 : ∀ x : WE w1, x.W.cell? ⟨g0, 3, none⟩ = some (.int .i64 d) := fun x => (B1.ext x.h).cell 3
    go_upto_region 4 with (fail)
    (refine wp_region_ext_tail (w0 := w1) 12 (by kernel_rfl) (by kernel_rfl) (by (repeat (with_reducible first | exact Ext.refl _ | assumption | refine Ext.drew ?_ | refine Ext.drewN ?_ _ | refine Ext.alloc ?_ _ | refine Ext.trans ?_ (by with_reducible assumption)))) ?_; simp only [List.take_succ_cons, List.take_zero, List.drop_succ_cons, List.drop_zero]; (repeat (go_big_quiet_step ((first
      | (go_at_call 62; first | exact quietE (HI1.out _ (HE1.out.trans (WE.h _))) | exact quietE (HI2.out _ (HE1.out.trans (WE.h _))))
      | (go_at_call 61; exact quietE (HT.out _ (by first | exact .inl rfl | exact .inr rfl) _ (HE1.out.trans (WE.h _)))))))); refine wpQuiet_nil ?_)
    rintro _ ⟨xq, rfl⟩
    obtain ⟨w6, hw6⟩ : ∃ w, xq.W = w := ⟨_, rfl⟩
    have hb6 : Ext w1 w6 := by rw [← hw6]; exact xq.h
    rw [hw6]
    clear hw6 x0 x1 x2 x3
    have B7 := Bk.at_ w6 9 #[.string t1, .string (tx b), .string t3, .string (tx d)] w6.heap.size rfl
    have e7 : Ext w1 (w6.alloc (.cells #[.string t1, .string (tx b), .string t3, .string (tx d)] 9)) := hb6.alloc _
    have HJ7 := Lib.hid (HJ.out w6.heap.size _ (B7.cell 0) (B7.cell 1) (B7.cell 2) (B7.cell 3) (by simp))
    go_wp2_with fail
    refine HJ7.out.mono ?_
    rintro _ w8 ⟨rfl, hb8⟩
    go_wp2_with fail
    go_ret2
    exact ⟨rfl, HE1.out.trans (e7.trans hb8)⟩

/-! ### Number -/
theorem atoi_bd {l : List UInt8} {v : Int} (h : Lib.atoiAll l = .ok v) : -9223372036854775808 ≤ v ∧ v ≤ 9223372036854775807 := by
  cases l with
  | nil => cases h
  | cons c r =>
    unfold Lib.atoiAll at h
    simp only at h
    generalize Lib.parseMag _ = pm at h
    cases pm
    case ok u =>
      simp only at h
      split at h
      · cases h
      · split at h
        · cases h
        · injection h with h
          subst h
          split <;> omega
    all_goals cases h
def NumR (s : ByteArray) (m : Nat) (e : Ending) : Prop := ∃ n : Int, e = .returned (.tuple #[.int .i64 n, .bool (numR s m).isSome]) ∧ ∀ v, numR s m = some v → n = (v : Int)
theorem numR_same {s : ByteArray} {m u : Nat} {v : Int} (hm : m ≤ 9) (h : numR s m = some u) (ha : Lib.atoiAll s.data.toList = .ok v) : v = u := by
  rw [numR_atoi h hm] at ha
  injection ha with ha
  exact ha.symm
theorem numR_not {s : ByteArray} {m : Nat} (hm : m ≤ 9) (ha : ∀ v, Lib.atoiAll s.data.toList ≠ .ok v) : numR s m = none := by
  cases h : numR s m with
  | none => rfl
  | some u => exact absurd (numR_atoi h hm) (ha _)
theorem NumR.no {s : ByteArray} {m : Nat} {n : Int} (h : numR s m = none) : NumR s m (.returned (.tuple #[.int .i64 n, .bool false])) := ⟨n, by rw [h]; rfl, fun v hv => by rw [h] at hv; cases hv⟩
theorem ItoaI_any (v : Int) (w : World) (h0 : -9223372036854775808 ≤ v) (h1 : v ≤ 9223372036854775807) (hp : PowG w) :
    Calls Tryz.prog 62 #[.int .i64 v] w fun e w' => e = .returned (.string ⟨(Lib.itoa v).toArray⟩) ∧ Ext w w' :=
  (Tryz.strconv_Itoa v h0 h1 w hp).mono fun e w' ⟨he, k, os, hw⟩ => ⟨he, by rw [hw]; exact ext_grow w k os⟩

set_option maxRecDepth 100000 in
set_option maxHeartbeats 1000000 in
theorem HNumber_any (s : ByteArray) (m : Nat) (w : World) (hs : s.size ≤ 140737488355328) (hm : m ≤ 9) (hG : StrG w) (hP : PowG w) :
    Calls Tryz.prog 97 #[.string s, .int .i64 m] w fun e w' => NumR s m e ∧ Ext w w' := by
  obtain ⟨hE, hN, hG0⟩ := errR_rules
  cases ha : Lib.atoiAll s.data.toList
  case ok v =>
    have HA := Lib.hid (Tryz.strconv_Atoi_ok s (by omega) v ha w)
    obtain ⟨b1, b2⟩ := atoi_bd ha
    have HI := Lib.hid fun W (e : Ext w W) => ItoaI_any v W b1 b2 (hP.ext e)
    have HSM := Lib.hid fun u (h : numR s m = some u) => numR_same hm h ha
    clear ha b1 b2 hP hG
    by_cases h0 : 0 ≤ v
    case neg =>
      have hno : numR s m = none := by
        cases h : numR s m with
        | none => rfl
        | some u => have := HSM.out u h; omega
      have HNO := Lib.hid (fun n : Int => NumR.no (n := n) hno)
      clear hno HSM HI
      go_enter Tryz.func97, Tryz.ntmps97
      go_wp2_with fail
      refine HA.out.mono ?_
      rintro _ w1 ⟨rfl, hw1⟩
      have hb1 : Ext w w1 := by rcases hw1 with rfl | ⟨t, rfl⟩; exact Ext.refl _; exact Lib.bytesWorld_below _ _ _
      clear hw1
      go_wp2_with fail
      go_ret2
      exact ⟨HNO.out _, hb1⟩
    by_cases h1 : s.size ≤ m
    case neg =>
      have hno : numR s m = none := by
        cases h : numR s m with
        | none => rfl
        | some u => exact absurd (numR_some h).1 h1
      have h1i : ¬ (s.size : Int) ≤ (m : Int) := by omega
      have HNO := Lib.hid (fun n : Int => NumR.no (n := n) hno)
      clear hno HSM HI h1
      go_enter Tryz.func97, Tryz.ntmps97
      go_wp2_with fail
      refine HA.out.mono ?_
      rintro _ w1 ⟨rfl, hw1⟩
      have hb1 : Ext w w1 := by rcases hw1 with rfl | ⟨t, rfl⟩; exact Ext.refl _; exact Lib.bytesWorld_below _ _ _
      clear hw1
      go_wp2_with fail
      go_ret2
      exact ⟨HNO.out _, hb1⟩
    obtain ⟨k, rfl⟩ := Int.eq_ofNat_of_zero_le h0
    have h1i : (s.size : Int) ≤ (m : Int) := by omega
    rw [digB_itoa] at HI
    have HY : Hid (digB k = s → numR s m = some k) := Lib.hid fun h => numR_of h1 h
    have HZ : Hid (∀ u, numR s m = some u → digB k = s) := Lib.hid fun u h => by
      have := HSM.out u h
      obtain rfl : k = u := by omega
      exact (numR_some h).2.2.2
    obtain ⟨t, ht⟩ : ∃ t, digB k = t := ⟨_, rfl⟩
    rw [ht] at HI HY HZ
    clear ht h1
    by_cases he : t = s
    · have hyes := HY.out he
      have HRS : Hid (NumR s m (.returned (.tuple #[.int .i64 (k : Int), .bool true]))) := Lib.hid ⟨_, by rw [hyes]; rfl, fun v hv => by rw [hyes] at hv; injection hv with hv; rw [hv]⟩
      subst he
      clear hyes HY HZ HSM
      go_enter Tryz.func97, Tryz.ntmps97
      go_wp2_with fail
      refine HA.out.mono ?_
      rintro _ w1 ⟨rfl, hw1⟩
      have hb1 : Ext w w1 := by rcases hw1 with rfl | ⟨t, rfl⟩; exact Ext.refl _; exact Lib.bytesWorld_below _ _ _
      clear hw1
      go_wp2_with fail
      refine (HI.out _ hb1).mono ?_
      rintro _ w2 ⟨rfl, hb2⟩
      go_wp2_with fail
      go_ret2
      exact ⟨HRS.out, hb1.trans hb2⟩
    · have hno : numR s m = none := by
        cases h : numR s m with
        | none => rfl
        | some u => exact absurd (HZ.out u h) he
      have HNO := Lib.hid (fun n : Int => NumR.no (n := n) hno)
      have q1 := (Lib.bytes_beq_false_iff t s).2 he
      clear hno HY HZ HSM
      go_enter Tryz.func97, Tryz.ntmps97
      go_wp2_with fail
      refine HA.out.mono ?_
      rintro _ w1 ⟨rfl, hw1⟩
      have hb1 : Ext w w1 := by rcases hw1 with rfl | ⟨t, rfl⟩; exact Ext.refl _; exact Lib.bytesWorld_below _ _ _
      clear hw1
      go_wp2_with fail
      refine (HI.out _ hb1).mono ?_
      rintro _ w2 ⟨rfl, hb2⟩
      have e2 := hb1.trans hb2
      go_wp2_with fail
      go_ret2
      exact ⟨HNO.out _, e2⟩
  case range =>
    obtain ⟨tp, p, hc⟩ := hG.rng.1
    have HA := Lib.hid (Tryz.strconv_Atoi_range s (by omega) ha (.iface tp p) w hc (.inr ⟨tp, p, rfl⟩))
    have HNO := Lib.hid (fun n : Int => NumR.no (n := n) (numR_not (s := s) hm (by rw [ha]; intro v h; cases h)))
    generalize Lib.atoiSat s.data.toList = sat at *
    clear ha hc hG hP
    go_enter Tryz.func97, Tryz.ntmps97
    go_wp2_with fail
    refine HA.out.mono ?_
    rintro _ w1 ⟨N, rfl, -, -, hb1⟩
    have hb1' : Ext w w1 := hb1
    clear hb1
    go_wp2_with fail
    go_ret2
    exact ⟨HNO.out _, hb1'⟩
  · obtain ⟨tp, p, hc⟩ := hG.syn.1
    have HA := Lib.hid (Tryz.strconv_Atoi_syntax s (by omega) ha (.iface tp p) w hc (.inr ⟨tp, p, rfl⟩))
    have HNO := Lib.hid (fun n : Int => NumR.no (n := n) (numR_not (s := s) hm (by rw [ha]; intro v h; cases h)))
    clear ha hc hG hP
    go_enter Tryz.func97, Tryz.ntmps97
    go_wp2_with fail
    refine HA.out.mono ?_
    rintro _ w1 ⟨N, rfl, -, -, hb1⟩
    have hb1' : Ext w w1 := hb1
    clear hb1
    go_wp2_with fail
    go_ret2
    exact ⟨HNO.out _, hb1'⟩
end Go.Proofs.YtfccbjfiionepaaGreatDoor

/- head.Parse. -/
namespace Go.Proofs.YtfccbjfiionepaaGreatDoor
open Go.RowKit Go.WideShapes
set_option linter.unusedVariables false
attribute [local go_sem ↓] Go.wp_at_zero Go.wp_at_succ

/-- a number of the library's that a search asks for -/
def MaxG (w : World) : Prop := ∃ m : Int, w.cell? ⟨2, 0, none⟩ = some (.int .i64 m)
theorem MaxG.ext {w w' : World} (h : MaxG w) (e : Ext w w') : MaxG w' := by
  obtain ⟨m, h⟩ := h
  exact ⟨m, (e.cell (p := ⟨2, 0, none⟩) (cell_lt h)).trans h⟩
theorem MaxG.of_shape {w : World} (h : w.ShapedOpen Tryz.prog) : MaxG w :=
  Go.Proofs.cell_of_shapedOpen_int (zero := #[.int .i64 0]) (t := 3) h (of_decide_eq_true (by kernel_rfl)) (by kernel_rfl) rfl (by kernel_rfl) (by kernel_rfl) Tryz.underlying3
def SplR (s : ByteArray) (w : World) (e : Ending) (w' : World) : Prop :=
  ∃ g, e = .returned (.slice (some ⟨g, 0, none⟩) (partsB 32 s).length (partsB 32 s).length) ∧ Rd w' 1 (some ⟨g, 0, none⟩) (partsB 32 s).length (partsB 32 s).length ((partsB 32 s).map Value.string) ∧ Ext w w'
theorem Split_any' (s : ByteArray) (w : World) (hs : s.size < 4294967281) (hM : MaxG w) :
    Calls Tryz.prog 95 #[.string s, .string ⟨#[32]⟩] w fun e w' => SplR s w e w' := by
  obtain ⟨m, hm⟩ := hM
  refine (Tryz.strings_Split s ⟨#[32]⟩ m w hs hm (by decide)).mono ?_
  rintro e w' ⟨rfl, rfl⟩
  rw [splitB_parts, partsB_len]
  refine ⟨w.heap.size, rfl, ⟨by rw [List.length_map, Nat.mul_one], Nat.le_refl _, fun _ => ⟨_, rfl, by simp, fun j u hu => ?_⟩⟩, (Ext.refl _).alloc _⟩
  exact news_new w 9 _ _ rfl j u hu
theorem readK_vals (s : ByteArray) : readK s = 0 ∨ readK s = 1 ∨ readK s = 2 := by
  unfold readK
  split
  · split
    · exact .inl rfl
    · exact .inr (.inl rfl)
  · exact .inr (.inr rfl)
theorem four_list {α : Type} {l : List α} (h : l.length = 4) : ∃ a b c d, l = [a, b, c, d] := by
  match l, h with
  | [a, b, c, d], _ => exact ⟨a, b, c, d, rfl⟩
theorem errR_1 : errR 1 = .iface 82 (.int .i64 1) := rfl
theorem errR_2 : errR 2 = .iface 82 (.int .i64 2) := rfl
theorem eql_two (a b : Int) (w : World) : (binOp .eql 26 (.iface 82 (.int .i64 a)) (.iface 82 (.int .i64 b))).run Tryz.prog w = .ok (.bool (a == b)) w :=
  Lib.run_eql_iface_int w a b Tryz.underlying26 (by kernel_rfl) Tryz.underlying82
theorem eql_nil_two (b : Int) (w : World) : (binOp .eql 26 .nilIface (.iface 82 (.int .i64 b))).run Tryz.prog w = .ok (.bool false) w :=
  run_eql_iface_nil_left _ _ _ Tryz.underlying26
def HPR (s : ByteArray) (e : Ending) : Prop := e = .returned (.tuple #[(headR s).1.val, errR (headR s).2])
theorem HPR.of {s : ByteArray} {z : Hd × Int} (h : headR s = z) {e : Ending} (he : e = .returned (.tuple #[z.1.val, errR z.2])) : HPR s e := by unfold HPR; rw [h]; exact he

end Go.Proofs.YtfccbjfiionepaaGreatDoor

/- serve.wants: the map of the words that can be asked, each with the numbers that it wants; serve.read. -/
namespace Go.Proofs.YtfccbjfiionepaaGreatDoor
open Go.RowKit Go.WideShapes
open Go.Maps (string_keyed)
open Go.WideMaps (keyOf_string_mk)
set_option linter.unusedVariables false
attribute [local go_sem ↓] Go.wp_at_zero Go.wp_at_succ

abbrev ksL (s : ByteArray) : Lit := .string s.data.toList
theorem ksL_ne {s k : ByteArray} (h : s ≠ k) : ksL s ≠ ksL k := fun e => by injection e with e; exact h (ba_ext e)
/-- a map from words to numbers -/
def MapIs (w : World) (mb N : Nat) (f : ByteArray → Option Nat) : Prop :=
  ∃ D : DataW Value, w.ownsMap Tryz.prog 9 (plainElem Tryz.prog 3) mb N D ∧ ∀ s : ByteArray, (match f s with | none => Maps.has D (ksL s) = false | some n => Maps.has D (ksL s) = true ∧ ∀ z, D.atKey (ksL s) z = .lit (.int .i64 (n : Int)))
theorem MapIs.new (w : World) : MapIs (w.alloc (.map #[] 0)) w.heap.size 0 (fun _ => none) :=
  ⟨.map [], World.ownsMap_made w _ _ _, fun s => rfl⟩
theorem MapIs.put {w : World} {mb N : Nat} {f : ByteArray → Option Nat} (h : MapIs w mb N f) (hN : N < 1000) (k : ByteArray) (hk : k.size ≤ 1000) (n : Nat) (hn : n ≤ 1000) (v : Int) (hv : v = (n : Int)) :
    ∃ w', (Instr.mapUpdate 145 (.map (some mb)) (.string k) (.int .i64 v)).run Tryz.prog w = .ok () w' ∧ MapIs w' mb (N + 1) (fun s => if s = k then some n else f s) ∧ w.grownBy w' (some mb) := by
  subst hv
  obtain ⟨D, h1, h2⟩ := h
  have hK := string_keyed (P := Tryz.prog) Tryz.underlying9
  have hkey := keyOf_string_mk (P := Tryz.prog) Tryz.underlying9 (s := k) (by simp only [maxLen]; omega)
  have hw : (Lit.int .i64 (n : Int)).wf = true := by simp [Lit.wf, IntKind.min, IntKind.max, IntKind.signed, IntKind.bits]; omega
  obtain ⟨w', hrun, hown, ht⟩ := h1.store (t := 145) (e := 3) hK Tryz.underlying145 (by simp only [maxLen]; omega) hkey (plainElem_int (a := (n : Int)) Tryz.underlying3 hw)
  refine ⟨w', hrun, ⟨_, hown, fun s => ?_⟩, ht.grown⟩
  by_cases e : s = k
  · subst e
    show (match (if s = s then some n else f s) with | none => _ | some n => _)
    rw [if_pos rfl]
    exact ⟨Maps.has_put_same h1.isMap (hK.key hkey) _, fun z => Maps.atKey_put_same h1.isMap (hK.key hkey) _ z⟩
  · show (match (if s = k then some n else f s) with | none => _ | some n => _)
    rw [if_neg e]
    have h3 := h2 s
    cases hf : f s with
    | none =>
      rw [hf] at h3
      exact (Maps.has_put_other (ksL_ne e) _).trans h3
    | some m =>
      rw [hf] at h3
      exact ⟨(Maps.has_put_other (ksL_ne e) _).trans h3.1, fun z => (Maps.atKey_put_other (ksL_ne e) _ z).trans (h3.2 z)⟩
theorem MapIs.ext {w w' : World} {mb N : Nat} {f : ByteArray → Option Nat} (h : MapIs w mb N f) (e : Ext w w') : MapIs w' mb N f := by
  obtain ⟨D, h1, h2⟩ := h
  exact ⟨D, h1.kept (e.gb none) (by simp), h2⟩
def optV (x : Option Nat) : Int := match x with | some n => (n : Int) | none => 0
theorem MapIs.look {w : World} {mb N : Nat} {f : ByteArray → Option Nat} (h : MapIs w mb N f) (s : ByteArray) (hs : s.size ≤ maxLen) :
    (Instr.lookup 145 (.map (some mb)) (.string s) true).run Tryz.prog w = .ok (.tuple #[.int .i64 (optV (f s)), .bool (f s).isSome]) w := by
  obtain ⟨D, h1, h2⟩ := h
  obtain ⟨v, ps, hrun, hv⟩ := h1.look_ok (t := 145) (e := 3) (string_keyed Tryz.underlying9) Tryz.underlying145 (z := .int .i64 0) (Tryz.zeroValue3 w) (plainElem_int Tryz.underlying3 (by decide)) (keyOf_string_mk Tryz.underlying9 (s := s) hs)
  rw [hrun]
  obtain ⟨c, rfl, hc, -⟩ := plainElem_int_inv Tryz.underlying3 hv
  simp only [Prod.mk.injEq] at hc
  have h3 := h2 s
  cases hf : f s with
  | none =>
    rw [hf] at h3
    have h4 := hc.1
    rw [Maps.atKey_of_not_has h3] at h4
    simp only [DataW.lit.injEq, Lit.int.injEq, true_and] at h4
    rw [show Maps.has D (.string s.data.toList) = false from h3, ← h4]
    rfl
  | some n =>
    rw [hf] at h3
    have h4 := hc.1
    rw [h3.2] at h4
    simp only [DataW.lit.injEq, Lit.int.injEq, true_and] at h4
    rw [show Maps.has D (.string s.data.toList) = true from h3.1, ← h4]
    rfl

def wHead : ByteArray := ⟨#[104, 101, 97, 100]⟩
def wEntry : ByteArray := ⟨#[101, 110, 116, 114, 121]⟩
def wLeaf : ByteArray := ⟨#[108, 101, 97, 102]⟩
def wProof : ByteArray := ⟨#[112, 114, 111, 111, 102]⟩
def wGrow : ByteArray := ⟨#[103, 114, 111, 119]⟩
def wTile : ByteArray := ⟨#[116, 105, 108, 101]⟩
def wantN (s : ByteArray) : Option Nat := if s = wTile then some 2 else (if s = wGrow then some 2 else (if s = wProof then some 2 else (if s = wLeaf then some 1 else (if s = wEntry then some 1 else (if s = wHead then some 0 else none)))))

set_option maxRecDepth 100000 in
set_option maxHeartbeats 2000000 in
theorem wants_any (w : World) : Calls Tryz.prog 96 #[] w fun e w' => (∃ mb, e = .returned (.map (some mb)) ∧ MapIs w' mb 6 wantN) ∧ Ext w w' := by
  have hmm := @run_makeMap Tryz.prog
  have m0 := MapIs.new w
  have e0 : Ext w (w.alloc (.map #[] 0)) := (Ext.refl _).alloc _
  obtain ⟨w1, r1, m1, g1⟩ := m0.put (by omega) wHead (by decide) 0 (by omega) 0 rfl
  have e1 := e0.gbn g1 (Nat.le_refl _)
  obtain ⟨w2, r2, m2, g2⟩ := m1.put (by omega) wEntry (by decide) 1 (by omega) 1 rfl
  have e2 := e1.gbn g2 (Nat.le_refl _)
  obtain ⟨w3, r3, m3, g3⟩ := m2.put (by omega) wLeaf (by decide) 1 (by omega) 1 rfl
  have e3 := e2.gbn g3 (Nat.le_refl _)
  obtain ⟨w4, r4, m4, g4⟩ := m3.put (by omega) wProof (by decide) 2 (by omega) 2 rfl
  have e4 := e3.gbn g4 (Nat.le_refl _)
  obtain ⟨w5, r5, m5, g5⟩ := m4.put (by omega) wGrow (by decide) 2 (by omega) 2 rfl
  have e5 := e4.gbn g5 (Nat.le_refl _)
  obtain ⟨w6, r6, m6, g6⟩ := m5.put (by omega) wTile (by decide) 2 (by omega) 2 rfl
  have e6 := e5.gbn g6 (Nat.le_refl _)
  simp only [wHead, wEntry, wLeaf, wProof, wGrow, wTile] at r1 r2 r3 r4 r5 r6
  have HM := Lib.hid m6
  have HE := Lib.hid e6
  clear m0 m1 m2 m3 m4 m5 m6 e0 e1 e2 e3 e4 e5 e6 g1 g2 g3 g4 g5 g6
  go_enter Tryz.func96, Tryz.ntmps96
  go_wp2_with fail
  go_ret
  exact ⟨⟨_, rfl, HM.out⟩, HE.out⟩

/-- the numbers behind the word -/
def numsR : List ByteArray → Option (List Nat)
  | [] => some []
  | s :: r => match numR s 4 with
    | none => none
    | some v => (numsR r).map (v :: ·)
theorem numsR_snoc {l : List ByteArray} {x : ByteArray} {ns : List Nat} {v : Nat} (h : numsR l = some ns) (hx : numR x 4 = some v) : numsR (l ++ [x]) = some (ns ++ [v]) := by
  induction l generalizing ns with
  | nil =>
    injection h with h
    subst h
    show (match numR x 4 with | none => none | some v => (numsR []).map (v :: ·)) = _
    rw [hx]; rfl
  | cons a l ih =>
    show (match numR a 4 with | none => none | some v => (numsR (l ++ [x])).map (v :: ·)) = _
    have h' : (match numR a 4 with | none => none | some v => (numsR l).map (v :: ·)) = some ns := h
    cases ha : numR a 4 with
    | none => rw [ha] at h'; cases h'
    | some u =>
      rw [ha] at h'
      cases hl : numsR l with
      | none => rw [hl] at h'; cases h'
      | some ms =>
        rw [hl] at h'
        injection h' with h'
        subst h'
        simp only
        rw [ih hl]; rfl
theorem numsR_bad : ∀ {l : List ByteArray} {i : Nat} {x : ByteArray}, l[i]? = some x → numR x 4 = none → numsR l = none
  | a :: l, 0, x, h, hx => by
    obtain rfl : a = x := by simpa using h
    show (match numR a 4 with | none => none | some v => (numsR l).map (v :: ·)) = none
    rw [hx]
  | a :: l, i + 1, x, h, hx => by
    show (match numR a 4 with | none => none | some v => (numsR l).map (v :: ·)) = none
    rw [numsR_bad (l := l) (i := i) (by simpa using h) hx]
    cases numR a 4 <;> rfl
theorem numsR_len : ∀ {l : List ByteArray} {ns : List Nat}, numsR l = some ns → ns.length = l.length
  | [], ns, h => by injection h with h; subst h; rfl
  | a :: l, ns, h => by
    have h' : (match numR a 4 with | none => none | some v => (numsR l).map (v :: ·)) = some ns := h
    cases ha : numR a 4 with
    | none => rw [ha] at h'; cases h'
    | some u =>
      rw [ha] at h'
      cases hl : numsR l with
      | none => rw [hl] at h'; cases h'
      | some ms =>
        rw [hl] at h'
        injection h' with h'
        subst h'
        simp [numsR_len hl]
/-- what is asked -/
def askR (s : ByteArray) : Option (ByteArray × List Nat) := match partsB 32 s with
  | [] => none
  | w :: r => match wantN w with
    | none => none
    | some n => if r.length = n then (numsR r).map fun x => (w, x) else none
section
variable {s w : ByteArray} {r : List ByteArray} {n : Nat} (h : partsB 32 s = w :: r)
include h
theorem askR_want (k : wantN w = none) : askR s = none := by unfold askR; rw [h]; simp only [k]
theorem askR_len (k : wantN w = some n) (l : r.length ≠ n) : askR s = none := by unfold askR; rw [h]; simp only [k]; rw [if_neg l]
theorem askR_bad (hn : numsR r = none) : askR s = none := by
  unfold askR; rw [h]; simp only [hn]
  cases wantN w <;> simp
theorem askR_ok (k : wantN w = some n) (l : r.length = n) {ns : List Nat} (hn : numsR r = some ns) : askR s = some (w, ns) := by
  unfold askR; rw [h]; simp only [k]; rw [if_pos l, hn]; rfl
end
theorem wantN_le {s : ByteArray} {n : Nat} (h : wantN s = some n) : n ≤ 2 := by
  unfold wantN at h
  repeat' split at h
  all_goals first | (injection h with h; omega) | cases h
def RdP (s : ByteArray) (w w' : World) (e : Ending) : Prop := match askR s with
  | none => e = .returned (.tuple #[.string ⟨#[]⟩, .slice none 0 0, .bool false])
  | some (x, ns) => ∃ v, e = .returned (.tuple #[.string x, v, .bool true]) ∧ w'.ownsRow w.heap.size 3 1 v ns.length ((ns.map fun n : Nat => (n : Int)).map (Value.int .i64))
theorem RdP.no {s : ByteArray} {w w' : World} {e : Ending} (h : askR s = none) (he : e = .returned (.tuple #[.string ⟨#[]⟩, .slice none 0 0, .bool false])) : RdP s w w' e := by unfold RdP; rw [h]; exact he
theorem RdP.yes {s x : ByteArray} {ns : List Nat} {w w' : World} {e : Ending} (h : askR s = some (x, ns)) (he : ∃ v, e = .returned (.tuple #[.string x, v, .bool true]) ∧ w'.ownsRow w.heap.size 3 1 v ns.length ((ns.map fun n : Nat => (n : Int)).map (Value.int .i64))) : RdP s w w' e := by unfold RdP; rw [h]; exact he
theorem Rd.tail1 {w : World} {g q c : Nat} {x : Value} {xs : List Value} (h : Rd w 1 (some ⟨g, 0, none⟩) (q + 1) (c + 1) (x :: xs)) : Rd w 1 (some ⟨g, 1, none⟩) q c xs := by
  obtain ⟨h1, h2, h3⟩ := h
  refine ⟨by simpa using h1, by omega, fun hq => ?_⟩
  obtain ⟨ad, e, hl, hc⟩ := h3 (by omega)
  injection e with e
  subst e
  refine ⟨_, rfl, hl, fun j u hu => ?_⟩
  have h4 := hc (j + 1) u (by simpa using hu)
  have e2 : ((⟨g, 1, none⟩ : Addr).add j) = ((⟨g, 0, none⟩ : Addr).add (j + 1)) := by
    unfold Addr.add
    by_cases hj : j = 0
    · subst hj; simp
    · simp [hj]; omega
  rw [e2]; exact h4
theorem oneW (z : Int) : ∀ u ∈ [Value.int .i64 z], u.oneCell' = true := by intro u hu; simp at hu; subst hu; rfl

set_option maxRecDepth 100000 in
set_option maxHeartbeats 4000000 in
theorem SRead_any (s : ByteArray) (w : World) (hs : s.size ≤ 1048576) (hG : StrG w) (hP : PowG w) (hM : MaxG w) :
    Calls Tryz.prog 56 #[.string s] w fun e w' => RdP s w w' e ∧ Ext w w' := by
  obtain ⟨x0, r, hp⟩ : ∃ x r, partsB 32 s = x :: r := by
    cases h : partsB 32 s with
    | nil => exact absurd h (partsB_ne 32 s)
    | cons x r => exact ⟨x, r, rfl⟩
  have hx0 : x0.size ≤ s.size := parts_size (c := 32) (by rw [hp]; simp)
  have hrs : ∀ y ∈ r, y.size ≤ s.size := fun y hy => parts_size (c := 32) (by rw [hp]; simp [hy])
  obtain ⟨q, hq⟩ : ∃ q, r.length = q := ⟨_, rfl⟩
  have HSP : Hid (∀ W, Ext w W → Calls Tryz.prog 95 #[.string s, .string ⟨#[32]⟩] W fun e w' => ∃ g, e = .returned (.slice (some ⟨g, 0, none⟩) (q + 1) (q + 1)) ∧ Rd w' 1 (some ⟨g, 0, none⟩) (q + 1) (q + 1) (Value.string x0 :: r.map Value.string) ∧ Ext W w') := Lib.hid fun W e => by
    have h := Split_any' s W (by omega) (hM.ext e)
    unfold SplR at h
    rw [hp, List.length_cons, hq, List.map_cons] at h
    exact h
  have HNU : Hid (∀ x ∈ r, ∀ W, Ext w W → Calls Tryz.prog 97 #[.string x, .int .i64 4] W fun e w' => (∃ n : Int, e = .returned (.tuple #[.int .i64 n, .bool (numR x 4).isSome]) ∧ ∀ v, numR x 4 = some v → n = (v : Int)) ∧ Ext W w') := Lib.hid fun x hx W e => HNumber_any x 4 W (by have := hrs x hx; omega) (by omega) (hG.ext e) (hP.ext e)
  have HA1 := Lib.hid (askR_want hp)
  have HA2 := Lib.hid fun n => askR_len (n := n) hp
  have HA3 := Lib.hid (askR_bad hp)
  have HA4 := Lib.hid fun n (k : wantN x0 = some n) l ns (hn : numsR r = some ns) => askR_ok (n := n) (ns := ns) hp k l hn
  have HQ := Lib.hid hq
  have hx0m : x0.size ≤ maxLen := by simp only [maxLen]; omega
  have HW := Lib.hid fun W mb (h : MapIs W mb 6 wantN) => h.look x0 hx0m
  have hWL := fun n (h : wantN x0 = some n) => wantN_le h
  have HWL := Lib.hid hWL
  obtain ⟨wn, hwn⟩ : ∃ y, wantN x0 = y := ⟨_, rfl⟩
  rw [hwn] at HA1 HW HWL
  have HWN := Lib.hid hwn
  clear hp hq hG hP hM hx0 hx0m hrs hWL hwn
  go_enter Tryz.func56, Tryz.ntmps56
  go_wp2_with fail
  refine (HSP.out _ (Ext.refl _)).mono ?_
  rintro _ w1 ⟨g, rfl, R1, hb1⟩
  have HR1 := Lib.hid R1
  have HE1 := Lib.hid hb1
  obtain ⟨ad, had, hlt, cz⟩ := R1.at_ (j := 0) (u := .string x0) rfl
  injection had with had
  subst had
  rw [add_zero'] at cz
  clear R1 hb1 HSP
  go_upto_region 2 with (fail)
  go_cut [6, 7] (fun n b wc => n = .int .i64 (optV wn) ∧ b = .bool wn.isSome ∧ Ext w1 wc)
  case first =>
    as_aux_lemma =>
    go_region_with (go_at_call 96; (with_reducible refine (wants_any _).mono ?_); rintro _ w2 ⟨⟨mb, rfl, hm⟩, hb2⟩; have hl := HW.out _ _ hm; have n2 := (hb2.cell (p := ⟨g, 0, none⟩) hlt).trans cz)
    all_goals
      go_wp2_with fail
      go_meet
      exact ⟨rfl, rfl, by (repeat (with_reducible first | exact Ext.refl _ | assumption | refine Ext.drew ?_ | refine Ext.drewN ?_ _ | refine Ext.alloc ?_ _ | refine Ext.trans ?_ (by with_reducible assumption)))⟩
  case rest =>
  as_aux_lemma =>
  obtain ⟨rfl, rfl, hb2⟩ := hcut
  obtain ⟨w2, rfl⟩ : ∃ W, W = wc := ⟨_, rfl⟩
  have c2 := (hb2.cell (p := ⟨g, 0, none⟩) hlt).trans cz
  have hlt2 := hb2.lt hlt
  have HR2 := Lib.hid (HR1.out.ext hb2)
  have HE2 := Lib.hid (HE1.out.trans hb2)
  clear hb2 cz hlt HR1 HE1 HW
  cases wn with
  | none =>
    have HH := Lib.hid (HA1.out rfl)
    clear HA1 HA2 HA3 HA4
    simp only [optV, Option.isSome]
    go_wp2_with fail
    go_ret3
    exact ⟨RdP.no HH.out rfl, HE2.out⟩
  | some n =>
  have hn2 := HWL.out n rfl
  simp only [optV, Option.isSome]
  clear HA1 HWL
  by_cases hqn : q = n
  case neg =>
    have HH := Lib.hid (HA2.out n HWN.out (by rw [HQ.out]; exact hqn))
    have q1 : (((q + 1 : Nat) : Int) != (n : Int) + 1) = true := by simp; omega
    have q2 : (((q : Nat) : Int) + 1 != (n : Int) + 1) = true := by simp; omega
    clear HA2 HA3 HA4 hqn
    go_wp2_with fail
    go_ret3
    exact ⟨RdP.no HH.out rfl, HE2.out⟩
  subst hqn
  have q1 : (((q + 1 : Nat) : Int) != (q : Int) + 1) = false := by simp
  have q2 : (((q : Nat) : Int) + 1 != (q : Int) + 1) = false := by simp
  obtain ⟨i0, hi0, hz0, hz1, hz2⟩ := info_parts info_int'
  clear HA2
  have HT := Lib.hid HR2.out.tail1
  rcases Nat.eq_zero_or_pos q with h0 | h0
  · subst h0
    have hr0 : r = [] := List.eq_nil_of_length_eq_zero HQ.out
    have HH := Lib.hid (HA4.out 0 HWN.out HQ.out [] (by rw [hr0]; rfl))
    clear hr0 HT
    go_wp2_with fail
    refine wp_loop_rounds 1 ?_
    rw [rounds_succ]
    go_wp2_with fail
    go_ret3
    exact ⟨RdP.yes HH.out ⟨_, rfl, own_nil _ _ _ _⟩, HE2.out⟩
  go_wp2_with fail
  obtain ⟨A, hA⟩ : ∃ A, (some ⟨g, 1, none⟩ : Option Addr) = A := ⟨_, rfl⟩
  rw [hA] at HT
  rw [hA]
  clear hA
  go_loopw [8, 35] (fun v x wr => ∃ (i : Nat) (ns : List Nat), x = .int .i64 i ∧ i ≤ q ∧ Ext w2 wr ∧ Hid (numsR (r.take i) = some ns ∧ ns.length = i) ∧ Hid (wr.ownsRow w2.heap.size 3 1 v i ((ns.map fun n : Nat => (n : Int)).map (Value.int .i64)))) (fun _ x _ => q - (intOf x).toNat)
  case atStart => exact ⟨0, [], rfl, Nat.zero_le _, Ext.refl _, Lib.hid ⟨rfl, rfl⟩, own_nil _ _ _ _⟩
  case round =>
    obtain ⟨i, ns, rfl, hi, hbw, HNS, HOW⟩ := hrel
    by_cases hc : i < q
    · have hgy := List.getElem?_eq_getElem (l := r) (i := i) (by rw [HQ.out]; exact hc)
      generalize r[i]'(by rw [HQ.out]; exact hc) = y at *
      have HGY := Lib.hid hgy
      obtain ⟨ady, rfl, hby, cy⟩ := (HT.out.ext hbw).getS hgy
      have HN := Lib.hid (HNU.out y (List.mem_of_getElem? hgy) _ (HE2.out.trans hbw))
      clear hgy
      go_wp2_with fail
      refine HN.out.mono ?_
      rintro _ w3 ⟨⟨z, rfl, hz⟩, hb3⟩
      cases hy : numR y 4 with
      | none =>
        have HH := Lib.hid (HA3.out (numsR_bad HGY.out hy))
        simp only [Option.isSome]
        go_wp2_with fail
        go_ret3
        exact ⟨RdP.no HH.out rfl, (HE2.out.trans hbw).trans hb3⟩
      | some v =>
        obtain rfl := hz v hy
        have HY := Lib.hid hy
        have hbs := (hbw.trans hb3).size
        simp only [Option.isSome]
        clear hz hy
        go_wp2_with (at_builtin; refine wpl_app (by rfl) _ _ _ (by rfl) w2.heap.size 3 i0 _ 1 8 Tryz.underlying24 hi0 hz0 hz1 hz2 rfl (by omega) u8 _ _ (by rfl) ((own_ext HOW.out hb3).alloc _) w3.heap.size 1 [.int .i64 (v : Int)] rfl (by rfl) (news_new w3 _ _ _ rfl) (oneW _) (by omega) (by omega) (by simp; omega) ?_; intro g4 cap w4 own4 hext4)
        go_roundw
        case rel => exact ⟨i + 1, ns ++ [v], by go_num, by omega, hext4 _ (Nat.le_refl _) (by (repeat (with_reducible first | exact Ext.refl _ | assumption | refine Ext.drew ?_ | refine Ext.drewN ?_ _ | refine Ext.alloc ?_ _ | refine Ext.trans ?_ (by with_reducible assumption)))), Lib.hid ⟨by
          rw [List.take_add_one, HGY.out]
          exact numsR_snoc HNS.out.1 HY.out, by rw [List.length_append, HNS.out.2]; rfl⟩, Lib.hid (by
          rw [List.map_append, List.map_append]
          exact own4)⟩
        case measure => simp [intOf]; omega
    · obtain rfl : i = q := by omega
      have hns := HNS.out.1
      rw [List.take_of_length_le (by rw [HQ.out]; exact Nat.le_refl _)] at hns
      have HH := Lib.hid (HA4.out i HWN.out HQ.out ns hns)
      have c5 := (hbw.cell (p := ⟨g, 0, none⟩) hlt2).trans c2
      clear hns
      go_wp2_with fail
      go_ret3
      refine ⟨RdP.yes HH.out ⟨_, rfl, ?_⟩, HE2.out.trans hbw⟩
      rw [HNS.out.2]
      exact own_lower HOW.out HE2.out.size
end Go.Proofs.YtfccbjfiionepaaGreatDoor
