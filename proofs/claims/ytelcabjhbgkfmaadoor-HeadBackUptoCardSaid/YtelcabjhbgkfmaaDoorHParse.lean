/- head.Parse. -/
import Derived.Test.YtelcabjhbgkfmaaDoorNumP
import Derived.Lib.IfaceEq
import Derived.LaidEql
namespace Go.Proofs.YtelcabjhbgkfmaaDoor
open Go.RowKit Go.WideShapes
set_option linter.unusedVariables false
attribute [local go_sem ↓] Go.wp_at_zero Go.wp_at_succ

/-- a number of the library's that a search asks for -/
def MaxG (w : World) : Prop := ∃ m : Int, w.cell? ⟨4, 0, none⟩ = some (.int .i64 m)
theorem MaxG.ext {w w' : World} (h : MaxG w) (e : Ext w w') : MaxG w' := by
  obtain ⟨m, h⟩ := h
  exact ⟨m, (e.cell (p := ⟨4, 0, none⟩) (cell_lt h)).trans h⟩
theorem MaxG.of_shape {w : World} (h : w.ShapedOpen Tryd.prog) : MaxG w :=
  Go.Proofs.cell_of_shapedOpen_int (zero := #[.int .i64 0]) (t := 3) h (of_decide_eq_true (by kernel_rfl)) (by kernel_rfl) rfl (by kernel_rfl) (by kernel_rfl) Tryd.underlying3
def SplR (s : ByteArray) (w : World) (e : Ending) (w' : World) : Prop :=
  ∃ g, e = .returned (.slice (some ⟨g, 0, none⟩) (partsB 32 s).length (partsB 32 s).length) ∧ Rd w' 1 (some ⟨g, 0, none⟩) (partsB 32 s).length (partsB 32 s).length ((partsB 32 s).map Value.string) ∧ Ext w w'
theorem Split_any' (s : ByteArray) (w : World) (hs : s.size < 4294967281) (hM : MaxG w) :
    Calls Tryd.prog 59 #[.string s, .string ⟨#[32]⟩] w fun e w' => SplR s w e w' := by
  obtain ⟨m, hm⟩ := hM
  refine (Tryd.strings_Split s ⟨#[32]⟩ m w hs hm (by decide)).mono ?_
  rintro e w' ⟨rfl, rfl⟩
  rw [splitB_parts, partsB_len]
  refine ⟨w.heap.size, rfl, ⟨by rw [List.length_map, Nat.mul_one], Nat.le_refl _, fun _ => ⟨_, rfl, by simp, fun j u hu => ?_⟩⟩, (Ext.refl _).alloc _⟩
  exact news_new w 9 _ _ rfl j u hu
theorem readK_vals (s : ByteArray) : readK s = 0 ∨ readK s = 1 ∨ readK s = 2 := by
  unfold readK
  split
  · split
    · exact .inl rfl
    · exact .inr (.inl rfl)
  · exact .inr (.inr rfl)
theorem four_list {α : Type} {l : List α} (h : l.length = 4) : ∃ a b c d, l = [a, b, c, d] := by
  match l, h with
  | [a, b, c, d], _ => exact ⟨a, b, c, d, rfl⟩
theorem errR_1 : errR 1 = .iface 92 (.int .i64 1) := rfl
theorem errR_2 : errR 2 = .iface 92 (.int .i64 2) := rfl
theorem eql_two (a b : Int) (w : World) : (binOp .eql 23 (.iface 92 (.int .i64 a)) (.iface 92 (.int .i64 b))).run Tryd.prog w = .ok (.bool (a == b)) w :=
  Lib.run_eql_iface_int w a b Tryd.underlying23 (by kernel_rfl) Tryd.underlying92
theorem eql_nil_two (b : Int) (w : World) : (binOp .eql 23 .nilIface (.iface 92 (.int .i64 b))).run Tryd.prog w = .ok (.bool false) w :=
  run_eql_iface_nil_left _ _ _ Tryd.underlying23
def HPR (s : ByteArray) (e : Ending) : Prop := e = .returned (.tuple #[(headR s).1.val, errR (headR s).2])
theorem HPR.of {s : ByteArray} {z : Hd × Int} (h : headR s = z) {e : Ending} (he : e = .returned (.tuple #[z.1.val, errR z.2])) : HPR s e := by unfold HPR; rw [h]; exact he

set_option maxRecDepth 100000 in
set_option maxHeartbeats 4000000 in
theorem HParse_any (s : ByteArray) (w : World) (hs : s.size ≤ 1048576) (hG : StrG w) (hP : PowG w) (hM : MaxG w) :
    Calls Tryd.prog 27 #[.string s] w fun e w' => HPR s e ∧ Ext w w' := by
  obtain ⟨hE, hN, hG0⟩ := errR_rules
  have B0 := Bk.at_ w 40 #[.int .i64 0, .int .i64 0, .int .i64 0, .int .i64 0] w.heap.size rfl
  have e0 : Ext w (w.alloc (.cells #[.int .i64 0, .int .i64 0, .int .i64 0, .int .i64 0] 40)) := by (repeat (with_reducible first | exact Ext.refl _ | assumption | refine Ext.drew ?_ | refine Ext.drewN ?_ _ | refine Ext.alloc ?_ _ | refine Ext.trans ?_ (by with_reducible assumption)))
  have HSP := Lib.hid fun W (e : Ext w W) => Split_any' s W (by omega) (hM.ext e)
  have HNU := Lib.hid fun (x : ByteArray) (hx : x.size ≤ s.size) W (e : Ext w W) => HNumber_any x 9 W (by omega) (by omega) (hG.ext e) (hP.ext e)
  have HMP := Lib.hid fun (x : ByteArray) (hx : x.size ≤ s.size) W (e : Ext w W) => MParse_any x W (by omega) (hG.ext e)
  have HHC := Lib.hid fun h W => HCheck_any h W
  obtain ⟨g0, hg0⟩ : ∃ g, w.heap.size = g := ⟨_, rfl⟩
  rw [hg0] at B0
  have HB0 := Lib.hid B0
  have HE0 := Lib.hid e0
  have HG := Lib.hid hg0
  clear hG hP hM B0 e0
  by_cases h4 : (partsB 32 s).length = 4
  case neg =>
    have HH := Lib.hid (headR_not h4)
    obtain ⟨q, hq⟩ : ∃ q, (partsB 32 s).length = q := ⟨_, rfl⟩
    have HQ := Lib.hid hq
    rw [hq] at h4
    have q1 : ((q : Int) != 4) = true := by simp; omega
    clear hq h4 HNU HMP HHC
    go_enter Tryd.func27, Tryd.ntmps27
    go_upto_region 1 with (fail)
    try rw [hg0]
    generalize (w.alloc (.cells #[.int .i64 0, .int .i64 0, .int .i64 0, .int .i64 0] 40)) = W0 at *
    clear hg0
    go_wp2_with fail
    refine (HSP.out _ HE0.out).mono ?_
    rintro _ w1 ⟨g, rfl, -, hb1⟩
    rw [HQ.out]
    have B1 := HB0.out.ext hb1
    have z0 := B1.cell 0
    have z1 := B1.cell 1
    have z2 := B1.cell 2
    have z3 := B1.cell 3
    have f0 := B1.frozen 0
    have f1 := B1.frozen 1
    have f2 := B1.frozen 2
    have f3 := B1.frozen 3
    go_wp2_with fail
    have P := B1.put4 (.int .i64 0) (.int .i64 0) (.int .i64 0) (.int .i64 0)
    have p0 := P.cell 0
    have p1 := P.cell 1
    have p2 := P.cell 2
    have p3 := P.cell 3
    refine bodyPost_ret (by simp [results, Tryd.results27, go_sem, p0, p1, p2, p3]; try rfl) rfl ?_
    exact ⟨HPR.of HH.out rfl, (HE0.out.trans hb1).put4 (by rw [HG.out]; exact Nat.le_refl _) _ _ _ _⟩
  obtain ⟨a, b, c, d, hp⟩ := four_list h4
  have ha : a.size ≤ s.size := parts_size (c := 32) (by rw [hp]; simp)
  have hb : b.size ≤ s.size := parts_size (c := 32) (by rw [hp]; simp)
  have hc : c.size ≤ s.size := parts_size (c := 32) (by rw [hp]; simp)
  have hd : d.size ≤ s.size := parts_size (c := 32) (by rw [hp]; simp)
  have HQ := Lib.hid (headR_four hp)
  have HSP2 : Hid (∀ W, Ext w W → Calls Tryd.prog 59 #[.string s, .string ⟨#[32]⟩] W fun e w' => ∃ g, e = .returned (.slice (some ⟨g, 0, none⟩) 4 4) ∧ Rd w' 1 (some ⟨g, 0, none⟩) 4 4 ([a, b, c, d].map Value.string) ∧ Ext W w') := Lib.hid fun W e => by
    have h := HSP.out W e
    unfold SplR at h
    rw [hp] at h
    exact h
  have HN1 := Lib.hid (HNU.out a ha)
  have HN3 := Lib.hid (HNU.out c hc)
  have HM2 := Lib.hid (HMP.out b hb)
  have HM4 := Lib.hid (HMP.out d hd)
  have HQ1 := Lib.hid (headR_none1 (a := a) (b := b) (c := c) (d := d))
  have HQ2 := Lib.hid fun n t h1 h2 => headQ_some (a := a) (b := b) (c := c) (d := d) (n := n) (t := t) h1 h2
  have hkb := readK_vals b
  have hkd := readK_vals d
  obtain ⟨kb, hkb'⟩ : ∃ x, readK b = x := ⟨_, rfl⟩
  obtain ⟨kd, hkd'⟩ : ∃ x, readK d = x := ⟨_, rfl⟩
  obtain ⟨vb, hvb⟩ : ∃ x, readV b = x := ⟨_, rfl⟩
  obtain ⟨vd, hvd⟩ : ∃ x, readV d = x := ⟨_, rfl⟩
  rw [hkb'] at hkb HM2 HQ2
  rw [hkd'] at hkd HM4 HQ2
  rw [hvb] at HM2 HQ2
  rw [hvd] at HM4 HQ2
  obtain ⟨na, hna⟩ : ∃ x, numR a 9 = x := ⟨_, rfl⟩
  obtain ⟨nc, hnc⟩ : ∃ x, numR c 9 = x := ⟨_, rfl⟩
  have HNA : Hid (∀ W, Ext w W → Calls Tryd.prog 60 #[.string a, .int .i64 9] W fun e w' => ∃ n : Int, e = .returned (.tuple #[.int .i64 n, .bool na.isSome]) ∧ (∀ v, na = some v → n = (v : Int)) ∧ Ext W w') := Lib.hid fun W e => (HN1.out W e).mono fun e' w' h => by
    obtain ⟨⟨n, h1, h2⟩, h3⟩ := h
    rw [hna] at h1 h2
    exact ⟨n, h1, h2, h3⟩
  have HNC : Hid (∀ W, Ext w W → Calls Tryd.prog 60 #[.string c, .int .i64 9] W fun e w' => ∃ n : Int, e = .returned (.tuple #[.int .i64 n, .bool nc.isSome]) ∧ (∀ v, nc = some v → n = (v : Int)) ∧ Ext W w') := Lib.hid fun W e => (HN3.out W e).mono fun e' w' h => by
    obtain ⟨⟨n, h1, h2⟩, h3⟩ := h
    rw [hnc] at h1 h2
    exact ⟨n, h1, h2, h3⟩
  rw [hna, hnc] at HQ1
  have HQ3 : Hid (∀ n t, na = some n → nc = some t → headQ a b c d = if kb = 2 ∨ kd = 2 then (hd0, 2) else if kb ≠ 0 ∨ kd ≠ 0 ∨ Hd.ok ⟨(n : Int), vb, (t : Int), vd⟩ = false then (hd0, 1) else (⟨(n : Int), vb, (t : Int), vd⟩, 0)) := Lib.hid fun n t h1 h2 => HQ2.out n t (hna.trans h1) (hnc.trans h2)
  clear hkb' hkd' hvb hvd hna hnc hp h4 ha hb hc hd HSP HNU HMP HN1 HN3 HQ2
  go_enter Tryd.func27, Tryd.ntmps27
  go_upto_region 1 with (fail)
  try rw [hg0]
  generalize (w.alloc (.cells #[.int .i64 0, .int .i64 0, .int .i64 0, .int .i64 0] 40)) = W0 at *
  clear hg0
  go_wp2_with fail
  refine (HSP2.out _ HE0.out).mono ?_
  rintro _ w1 ⟨g, rfl, R1, hb1⟩
  have HR1 := Lib.hid R1
  have HE1 := Lib.hid (HE0.out.trans hb1)
  have HB1 := Lib.hid (HB0.out.ext hb1)
  have hcell : ∀ W, Ext w1 W → W.cell? ⟨g, 0, none⟩ = some (.string a) ∧ W.cell? ⟨g, 1, none⟩ = some (.string b) ∧ W.cell? ⟨g, 2, none⟩ = some (.string c) ∧ W.cell? ⟨g, 3, none⟩ = some (.string d) := fun W e => by
    obtain ⟨ad, h1, hl, hh⟩ := (HR1.out.ext e).2.2 (by omega)
    obtain rfl : (⟨g, 0, none⟩ : Addr) = ad := by injection h1
    have h0 := hh 0 _ rfl
    have h1 := hh 1 _ rfl
    have h2 := hh 2 _ rfl
    have h3 := hh 3 _ rfl
    rw [add_mk] at h0 h1 h2 h3
    exact ⟨h0, h1, h2, h3⟩
  have HCL := Lib.hid hcell
  clear R1 hcell hb1 HSP2 HB0 HE0 HR1
  have c0 := (HCL.out w1 (Ext.refl _)).1
  go_wp2_with fail
  refine (HNA.out _ HE1.out).mono ?_
  rintro _ w2 ⟨n1, rfl, hn1, hb2⟩
  have HV1 := Lib.hid hn1
  have c2 := (HCL.out w2 hb2).2.2.1
  have HE2 := Lib.hid (HE1.out.trans hb2)
  clear hn1 c0
  go_wp2_with fail
  refine (HNC.out _ HE2.out).mono ?_
  rintro _ w3 ⟨n3, rfl, hn3, hb3⟩
  have HV3 := Lib.hid hn3
  have e13 : Ext w1 w3 := hb2.trans hb3
  have HB3 := Lib.hid (Bk.at_ w3 40 #[.int .i64 n1, .int .i64 0, .int .i64 n3, .int .i64 0] w3.heap.size rfl)
  have e14 : Ext w1 (w3.alloc (.cells #[.int .i64 n1, .int .i64 0, .int .i64 n3, .int .i64 0] 40)) := e13.alloc _
  have HE14 := Lib.hid e14
  have hne : g0 < w3.heap.size := Nat.lt_of_lt_of_le HB1.out.lt e13.size
  have HGE : Hid (w.heap.size ≤ w3.heap.size) := (HE1.out.trans e13).size
  clear hn3 c2 hb2 hb3 e13 e14 HE2 HNA HNC
  go_upto_region 7 with (fail)
  generalize w3.alloc (.cells #[.int .i64 n1, .int .i64 0, .int .i64 n3, .int .i64 0] 40) = W4 at *
  generalize w3.heap.size = g4 at *
  have HE4 := Lib.hid (HE1.out.trans HE14.out)
  have HB4 := Lib.hid (HB1.out.ext HE14.out)
  have hn34 : na = none ∨ (∃ n, na = some n ∧ nc = none) ∨ (∃ n t, na = some n ∧ nc = some t) := by
    cases na with
    | none => exact .inl rfl
    | some n =>
      cases nc with
      | none => exact .inr (.inl ⟨n, rfl, rfl⟩)
      | some t => exact .inr (.inr ⟨n, t, rfl, rfl⟩)
  rcases hn34 with rfl | ⟨n, rfl, rfl⟩ | ⟨n, t, rfl, rfl⟩
  · have HH := Lib.hid (HQ.out.trans (HQ1.out (.inl rfl)))
    have z0 := HB4.out.cell 0
    have z1 := HB4.out.cell 1
    have z2 := HB4.out.cell 2
    have z3 := HB4.out.cell 3
    have y0 := HB4.out.frozen 0
    have y1 := HB4.out.frozen 1
    have y2 := HB4.out.frozen 2
    have y3 := HB4.out.frozen 3
    go_wp2_with fail
    have P := HB4.out.put4 (.int .i64 0) (.int .i64 0) (.int .i64 0) (.int .i64 0)
    have p0 := P.cell 0
    have p1 := P.cell 1
    have p2 := P.cell 2
    have p3 := P.cell 3
    refine bodyPost_ret (by simp [results, Tryd.results27, go_sem, p0, p1, p2, p3]; try rfl) rfl ?_
    exact ⟨HPR.of HH.out rfl, HE4.out.put4 (by rw [HG.out]; exact Nat.le_refl _) _ _ _ _⟩
  · have HH := Lib.hid (HQ.out.trans (HQ1.out (.inr rfl)))
    simp only [Option.isSome]
    have z0 := HB4.out.cell 0
    have z1 := HB4.out.cell 1
    have z2 := HB4.out.cell 2
    have z3 := HB4.out.cell 3
    have y0 := HB4.out.frozen 0
    have y1 := HB4.out.frozen 1
    have y2 := HB4.out.frozen 2
    have y3 := HB4.out.frozen 3
    go_wp2_with fail
    have P := HB4.out.put4 (.int .i64 0) (.int .i64 0) (.int .i64 0) (.int .i64 0)
    have p0 := P.cell 0
    have p1 := P.cell 1
    have p2 := P.cell 2
    have p3 := P.cell 3
    refine bodyPost_ret (by simp [results, Tryd.results27, go_sem, p0, p1, p2, p3]; try rfl) rfl ?_
    exact ⟨HPR.of HH.out rfl, HE4.out.put4 (by rw [HG.out]; exact Nat.le_refl _) _ _ _ _⟩
  obtain rfl := HV1.out n rfl
  obtain rfl := HV3.out t rfl
  have HQ4 := Lib.hid (HQ.out.trans (HQ3.out n t rfl rfl))
  simp only [Option.isSome]
  clear HQ HQ1 HQ3 HV1 HV3
  have c1 := (HCL.out W4 HE14.out).2.1
  go_wp2_with fail
  refine (HM2.out _ HE4.out).mono ?_
  rintro _ w5 ⟨rfl, hb5⟩
  have c3 := (HCL.out w5 (HE14.out.trans hb5)).2.2.2
  have HE5 := Lib.hid (HE4.out.trans hb5)
  clear c1
  go_wp2_with fail
  refine (HM4.out _ HE5.out).mono ?_
  rintro _ w6 ⟨rfl, hb6⟩
  have HE6 := Lib.hid (HE5.out.trans hb6)
  have HB6 := Lib.hid ((HB4.out.ext hb5).ext hb6)
  have HA6 := Lib.hid ((HB3.out.ext hb5).ext hb6)
  clear c3 hb5 hb6 HE5 HB4 HB3 HCL HM2 HM4 HE14 HE1 HB1
  have hCI := eql_two
  have hCN := eql_nil_two
  by_cases h2 : kb = 2
  · subst h2
    rw [errR_2]
    have HH := Lib.hid (HQ4.out.trans (if_pos (.inl rfl)))
    have z0 := HB6.out.cell 0
    have z1 := HB6.out.cell 1
    have z2 := HB6.out.cell 2
    have z3 := HB6.out.cell 3
    have y0 := HB6.out.frozen 0
    have y1 := HB6.out.frozen 1
    have y2 := HB6.out.frozen 2
    have y3 := HB6.out.frozen 3
    go_wp2_with fail
    have P := HB6.out.put4 (.int .i64 0) (.int .i64 0) (.int .i64 0) (.int .i64 0)
    have p0 := P.cell 0
    have p1 := P.cell 1
    have p2 := P.cell 2
    have p3 := P.cell 3
    refine bodyPost_ret (by simp [results, Tryd.results27, go_sem, p0, p1, p2, p3]; try rfl) rfl ?_
    exact ⟨HPR.of HH.out rfl, HE6.out.put4 (by rw [HG.out]; exact Nat.le_refl _) _ _ _ _⟩
  by_cases h2' : kd = 2
  · subst h2'
    have HH := Lib.hid (HQ4.out.trans (if_pos (.inr rfl)))
    have hkb2 : kb = 0 ∨ kb = 1 := by omega
    rw [errR_2]
    rcases hkb2 with rfl | rfl
    · rw [errR_0]
      clear hkb hkd h2
      have z0 := HB6.out.cell 0
      have z1 := HB6.out.cell 1
      have z2 := HB6.out.cell 2
      have z3 := HB6.out.cell 3
      have y0 := HB6.out.frozen 0
      have y1 := HB6.out.frozen 1
      have y2 := HB6.out.frozen 2
      have y3 := HB6.out.frozen 3
      go_wp2_with fail
      have P := HB6.out.put4 (.int .i64 0) (.int .i64 0) (.int .i64 0) (.int .i64 0)
      have p0 := P.cell 0
      have p1 := P.cell 1
      have p2 := P.cell 2
      have p3 := P.cell 3
      refine bodyPost_ret (by simp [results, Tryd.results27, go_sem, p0, p1, p2, p3]; try rfl) rfl ?_
      exact ⟨HPR.of HH.out rfl, HE6.out.put4 (by rw [HG.out]; exact Nat.le_refl _) _ _ _ _⟩
    · rw [errR_1]
      clear hkb hkd h2
      have z0 := HB6.out.cell 0
      have z1 := HB6.out.cell 1
      have z2 := HB6.out.cell 2
      have z3 := HB6.out.cell 3
      have y0 := HB6.out.frozen 0
      have y1 := HB6.out.frozen 1
      have y2 := HB6.out.frozen 2
      have y3 := HB6.out.frozen 3
      go_wp2_with fail
      have P := HB6.out.put4 (.int .i64 0) (.int .i64 0) (.int .i64 0) (.int .i64 0)
      have p0 := P.cell 0
      have p1 := P.cell 1
      have p2 := P.cell 2
      have p3 := P.cell 3
      refine bodyPost_ret (by simp [results, Tryd.results27, go_sem, p0, p1, p2, p3]; try rfl) rfl ?_
      exact ⟨HPR.of HH.out rfl, HE6.out.put4 (by rw [HG.out]; exact Nat.le_refl _) _ _ _ _⟩
  have HQ5 := Lib.hid (HQ4.out.trans (if_neg (by omega)))
  have f1 := HA6.out.frozen 1
  have f3 := HA6.out.frozen 3
  have u1 := HA6.out.cell 1
  have u3 := HA6.out.cell 3
  have A7 : Bk ((w6.setCell ⟨g4, 1, none⟩ (.int .i64 vb)).setCell ⟨g4, 3, none⟩ (.int .i64 vd)) g4 40 #[.int .i64 n, .int .i64 vb, .int .i64 t, .int .i64 vd] := (HA6.out.set_ 1 _).set_ 3 _
  have B7 : Bk ((w6.setCell ⟨g4, 1, none⟩ (.int .i64 vb)).setCell ⟨g4, 3, none⟩ (.int .i64 vd)) g0 40 #[.int .i64 0, .int .i64 0, .int .i64 0, .int .i64 0] := (HB6.out.far (p := ⟨g4, 1, none⟩) (by show g0 ≠ g4; omega) _).far (p := ⟨g4, 3, none⟩) (by show g0 ≠ g4; omega) _
  have E7 : Ext w ((w6.setCell ⟨g4, 1, none⟩ (.int .i64 vb)).setCell ⟨g4, 3, none⟩ (.int .i64 vd)) := (HE6.out.setCell (p := ⟨g4, 1, none⟩) HGE.out _).setCell (p := ⟨g4, 3, none⟩) HGE.out _
  have HA7 := Lib.hid A7
  have HB7 := Lib.hid B7
  have HE7 := Lib.hid E7
  have hk2 : (kb = 0 ∨ kb = 1) ∧ (kd = 0 ∨ kd = 1) := ⟨by omega, by omega⟩
  clear A7 B7 E7 hkb hkd h2 h2' HQ4 HGE hne
  obtain ⟨hkb, hkd⟩ := hk2
  rcases hkb with rfl | rfl
  · rw [errR_0]
    rcases hkd with rfl | rfl
    · try rw [errR_0]
      cases hok : Hd.ok ⟨(n : Int), vb, (t : Int), vd⟩ with
      | false =>
        have HH := Lib.hid (HQ5.out.trans (if_pos (.inr (.inr hok))))
        have HC := Lib.hid fun W => HHC.out ⟨(n : Int), vb, (t : Int), vd⟩ W
        have hk : hdK ⟨(n : Int), vb, (t : Int), vd⟩ = 1 := if_neg (by rw [hok]; decide)
        rw [hk] at HC
        simp only [Hd.val] at HC
        clear hok hk
        go_upto_region 14 with (fail)
        generalize (w6.setCell ⟨g4, 1, none⟩ (.int .i64 vb)).setCell ⟨g4, 3, none⟩ (.int .i64 vd) = W7 at *
        have s0 := HA7.out.cell 0
        have s1 := HA7.out.cell 1
        have s2 := HA7.out.cell 2
        have s3 := HA7.out.cell 3
        go_wp2_with fail
        refine (HC.out _).mono ?_
        rintro _ w8 ⟨rfl, hb8⟩
        have HB8 := Lib.hid (HB7.out.ext hb8)
        have HE8 := Lib.hid (HE7.out.trans hb8)
        clear s0 s1 s2 s3 f1 f3 u1 u3
        have z0 := HB8.out.cell 0
        have z1 := HB8.out.cell 1
        have z2 := HB8.out.cell 2
        have z3 := HB8.out.cell 3
        have y0 := HB8.out.frozen 0
        have y1 := HB8.out.frozen 1
        have y2 := HB8.out.frozen 2
        have y3 := HB8.out.frozen 3
        go_wp2_with fail
        have P := HB8.out.put4 (.int .i64 0) (.int .i64 0) (.int .i64 0) (.int .i64 0)
        have p0 := P.cell 0
        have p1 := P.cell 1
        have p2 := P.cell 2
        have p3 := P.cell 3
        refine bodyPost_ret (by simp [results, Tryd.results27, go_sem, p0, p1, p2, p3]; try rfl) rfl ?_
        exact ⟨HPR.of HH.out rfl, HE8.out.put4 (by rw [HG.out]; exact Nat.le_refl _) _ _ _ _⟩
      | true =>
        have HH : Hid (headR s = (⟨(n : Int), vb, (t : Int), vd⟩, 0)) := Lib.hid (HQ5.out.trans (if_neg (by rw [hok]; simp)))
        have HC := Lib.hid fun W => HHC.out ⟨(n : Int), vb, (t : Int), vd⟩ W
        have hk : hdK ⟨(n : Int), vb, (t : Int), vd⟩ = 0 := if_pos hok
        rw [hk, errR_0] at HC
        simp only [Hd.val] at HC
        clear hok hk
        go_upto_region 14 with (fail)
        generalize (w6.setCell ⟨g4, 1, none⟩ (.int .i64 vb)).setCell ⟨g4, 3, none⟩ (.int .i64 vd) = W7 at *
        have s0 := HA7.out.cell 0
        have s1 := HA7.out.cell 1
        have s2 := HA7.out.cell 2
        have s3 := HA7.out.cell 3
        go_wp2_with fail
        refine (HC.out _).mono ?_
        rintro _ w8 ⟨rfl, hb8⟩
        have HB8 := Lib.hid (HB7.out.ext hb8)
        have HE8 := Lib.hid (HE7.out.trans hb8)
        have A8 := HA7.out.ext hb8
        clear s0 s1 s2 s3 f1 f3 u1 u3
        have s0 := A8.cell 0
        have s1 := A8.cell 1
        have s2 := A8.cell 2
        have s3 := A8.cell 3
        have z0 := HB8.out.cell 0
        have z1 := HB8.out.cell 1
        have z2 := HB8.out.cell 2
        have z3 := HB8.out.cell 3
        have y0 := HB8.out.frozen 0
        have y1 := HB8.out.frozen 1
        have y2 := HB8.out.frozen 2
        have y3 := HB8.out.frozen 3
        go_wp2_with fail
        have P := HB8.out.put4 (.int .i64 n) (.int .i64 vb) (.int .i64 t) (.int .i64 vd)
        have p0 := P.cell 0
        have p1 := P.cell 1
        have p2 := P.cell 2
        have p3 := P.cell 3
        refine bodyPost_ret (by simp [results, Tryd.results27, go_sem, p0, p1, p2, p3]; try rfl) rfl ?_
        exact ⟨HPR.of HH.out rfl, HE8.out.put4 (by rw [HG.out]; exact Nat.le_refl _) _ _ _ _⟩
    · rw [errR_1]
      have HH := Lib.hid (HQ5.out.trans (if_pos (.inr (.inl (by decide)))))
      go_upto_region 14 with (fail)
      generalize (w6.setCell ⟨g4, 1, none⟩ (.int .i64 vb)).setCell ⟨g4, 3, none⟩ (.int .i64 vd) = W7 at *
      clear f1 f3 u1 u3
      have z0 := HB7.out.cell 0
      have z1 := HB7.out.cell 1
      have z2 := HB7.out.cell 2
      have z3 := HB7.out.cell 3
      have y0 := HB7.out.frozen 0
      have y1 := HB7.out.frozen 1
      have y2 := HB7.out.frozen 2
      have y3 := HB7.out.frozen 3
      go_wp2_with fail
      have P := HB7.out.put4 (.int .i64 0) (.int .i64 0) (.int .i64 0) (.int .i64 0)
      have p0 := P.cell 0
      have p1 := P.cell 1
      have p2 := P.cell 2
      have p3 := P.cell 3
      refine bodyPost_ret (by simp [results, Tryd.results27, go_sem, p0, p1, p2, p3]; try rfl) rfl ?_
      exact ⟨HPR.of HH.out rfl, HE7.out.put4 (by rw [HG.out]; exact Nat.le_refl _) _ _ _ _⟩
  · rw [errR_1]
    have HH := Lib.hid (HQ5.out.trans (if_pos (.inl (by decide))))
    rcases hkd with rfl | rfl
    · rw [errR_0]
      go_upto_region 14 with (fail)
      generalize (w6.setCell ⟨g4, 1, none⟩ (.int .i64 vb)).setCell ⟨g4, 3, none⟩ (.int .i64 vd) = W7 at *
      clear f1 f3 u1 u3
      have z0 := HB7.out.cell 0
      have z1 := HB7.out.cell 1
      have z2 := HB7.out.cell 2
      have z3 := HB7.out.cell 3
      have y0 := HB7.out.frozen 0
      have y1 := HB7.out.frozen 1
      have y2 := HB7.out.frozen 2
      have y3 := HB7.out.frozen 3
      go_wp2_with fail
      have P := HB7.out.put4 (.int .i64 0) (.int .i64 0) (.int .i64 0) (.int .i64 0)
      have p0 := P.cell 0
      have p1 := P.cell 1
      have p2 := P.cell 2
      have p3 := P.cell 3
      refine bodyPost_ret (by simp [results, Tryd.results27, go_sem, p0, p1, p2, p3]; try rfl) rfl ?_
      exact ⟨HPR.of HH.out rfl, HE7.out.put4 (by rw [HG.out]; exact Nat.le_refl _) _ _ _ _⟩
    · try rw [errR_1]
      go_upto_region 14 with (fail)
      generalize (w6.setCell ⟨g4, 1, none⟩ (.int .i64 vb)).setCell ⟨g4, 3, none⟩ (.int .i64 vd) = W7 at *
      clear f1 f3 u1 u3
      have z0 := HB7.out.cell 0
      have z1 := HB7.out.cell 1
      have z2 := HB7.out.cell 2
      have z3 := HB7.out.cell 3
      have y0 := HB7.out.frozen 0
      have y1 := HB7.out.frozen 1
      have y2 := HB7.out.frozen 2
      have y3 := HB7.out.frozen 3
      go_wp2_with fail
      have P := HB7.out.put4 (.int .i64 0) (.int .i64 0) (.int .i64 0) (.int .i64 0)
      have p0 := P.cell 0
      have p1 := P.cell 1
      have p2 := P.cell 2
      have p3 := P.cell 3
      refine bodyPost_ret (by simp [results, Tryd.results27, go_sem, p0, p1, p2, p3]; try rfl) rfl ?_
      exact ⟨HPR.of HH.out rfl, HE7.out.put4 (by rw [HG.out]; exact Nat.le_refl _) _ _ _ _⟩
end Go.Proofs.YtelcabjhbgkfmaaDoor
