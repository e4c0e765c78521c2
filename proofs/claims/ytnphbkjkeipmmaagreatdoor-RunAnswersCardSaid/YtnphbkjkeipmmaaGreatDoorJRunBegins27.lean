/- the references' Head, Signed, Verify. -/
import Derived.Test.YtnphbkjkeipmmaaGreatDoorJRunBegins11
import Derived.Test.YtnphbkjkeipmmaaGreatDoorJRunBegins8
import Derived.Test.YtnphbkjkeipmmaaGreatDoorJRunBegins17
import Derived.Test.YtnphbkjkeipmmaaGreatDoorJRunBegins10
import Derived.Deep.DeepCutAuto
import Derived.Test.YtnphbkjkeipmmaaGreatDoorJRunBegins15
import Derived.Lib.IndexBytes
import Derived.Lib.SlicesS
import Derived.BigRegion
import Derived.Handy
namespace Go.Proofs.YtnphbkjkeipmmaaGreatDoor
open Go.RowKit Go.WideShapes
set_option linter.unusedVariables false
attribute [local go_sem ↓] Go.wp_at_zero Go.wp_at_succ

set_option maxRecDepth 100000 in
set_option maxHeartbeats 1000000 in
theorem RHead_any (h : Hd) (w : World) : Calls Tryz.prog 60 #[h.val] w fun e w' => e = .returned (.int .i64 (hdK h)) ∧ Ext w w' := by
  obtain ⟨hk, hhk⟩ : ∃ v, hdK h = v := ⟨_, rfl⟩
  have H1 : Hid (h.ok = true → hk = 0) := Lib.hid fun ho => by rw [← hhk]; exact if_pos ho
  have H2 : Hid (h.ok = false → hk = 1) := Lib.hid fun ho => by rw [← hhk]; exact if_neg (by rw [ho]; decide)
  rw [hhk]
  clear hhk
  have cs : (h.ok = false ∧ ((h.size < 0) ∨ (0 ≤ h.size ∧ 200 < h.size) ∨ (0 ≤ h.size ∧ h.size ≤ 200 ∧ h.time < 0) ∨ (0 ≤ h.size ∧ h.size ≤ 200 ∧ 0 ≤ h.time ∧ 1000000 < h.time) ∨ (0 ≤ h.size ∧ h.size ≤ 200 ∧ 0 ≤ h.time ∧ h.time ≤ 1000000 ∧ (vld h.root = false ∨ vld h.root = true ∧ vld h.sign = false)))) ∨ (h.ok = true ∧ 0 ≤ h.size ∧ h.size ≤ 200 ∧ 0 ≤ h.time ∧ h.time ≤ 1000000 ∧ vld h.root = true ∧ vld h.sign = true) := by
    cases ho : h.ok with
    | true => obtain ⟨a, b, c, d, e, f⟩ := Hd.ok_parts ho; exact .inr ⟨rfl, a, b, c, d, e, f⟩
    | false =>
      have hn := Hd.not_ok ho
      refine .inl ⟨rfl, ?_⟩
      by_cases q1 : h.size < 0
      · exact .inl q1
      by_cases q2 : 200 < h.size
      · exact .inr (.inl ⟨by omega, q2⟩)
      by_cases q3 : h.time < 0
      · exact .inr (.inr (.inl ⟨by omega, by omega, q3⟩))
      by_cases q4 : 1000000 < h.time
      · exact .inr (.inr (.inr (.inl ⟨by omega, by omega, by omega, q4⟩)))
      refine .inr (.inr (.inr (.inr ⟨by omega, by omega, by omega, by omega, ?_⟩)))
      cases hr : vld h.root with
      | false => exact .inl rfl
      | true =>
        cases hs : vld h.sign with
        | false => exact .inr ⟨rfl, rfl⟩
        | true => exact absurd ⟨by omega, by omega, by omega, by omega, hr, hs⟩ hn
  have HV1 := Lib.hid fun W => RValid_any h.root W
  have HV2 := Lib.hid fun W => RValid_any h.sign W
  obtain ⟨vr, hvr⟩ : ∃ v, vld h.root = v := ⟨_, rfl⟩
  obtain ⟨vs, hvs⟩ : ∃ v, vld h.sign = v := ⟨_, rfl⟩
  rw [hvr] at HV1 cs
  rw [hvs] at HV2 cs
  clear hvr hvs
  obtain ⟨ob, hob⟩ : ∃ v, h.ok = v := ⟨_, rfl⟩
  rw [hob] at H1 H2 cs
  clear hob
  obtain ⟨a, b, c, d⟩ := h
  simp only at cs HV1 HV2
  simp only [Hd.val]
  have B0 := Bk.at_ w 29 #[.int .i64 a, .int .i64 b, .int .i64 c, .int .i64 d] w.heap.size rfl
  have e0 : Ext w (w.alloc (.cells #[.int .i64 a, .int .i64 b, .int .i64 c, .int .i64 d] 29)) := by (repeat (with_reducible first | exact Ext.refl _ | assumption | refine Ext.drew ?_ | refine Ext.drewN ?_ _ | refine Ext.alloc ?_ _ | refine Ext.trans ?_ (by with_reducible assumption)))
  obtain ⟨g0, hg0⟩ : ∃ g, w.heap.size = g := ⟨_, rfl⟩
  rw [hg0] at B0
  have y0 := B0.cell 0
  have y1 := B0.cell 1
  have y2 := B0.cell 2
  have y3 := B0.cell 3
  go_enter Tryz.func60, Tryz.ntmps60
  go_upto_region 1 with (fail)
  try rw [hg0]
  generalize w.alloc (.cells #[.int .i64 a, .int .i64 b, .int .i64 c, .int .i64 d] 29) = W0 at *
  have HE0 := Lib.hid e0
  clear e0 hg0 B0
  go_wp2_with fail
  refine (HV1.out _).mono ?_
  rintro _ _ ⟨rfl, rfl⟩
  go_wp2_with fail
  refine (HV2.out _).mono ?_
  rintro _ _ ⟨rfl, rfl⟩
  clear HV1 HV2
  rcases cs with ⟨rfl, q⟩ | ⟨rfl, q1, q2, q3, q4, rfl, rfl⟩
  · obtain rfl := H2.out rfl
    rcases q with q1 | ⟨q1, q2⟩ | ⟨q1, q2, q3⟩ | ⟨q1, q2, q3, q4⟩ | ⟨q1, q2, q3, q4, rfl | ⟨rfl, rfl⟩⟩
    all_goals
      go_wp2_with fail
      go_ret
      exact ⟨rfl, HE0.out⟩
  · obtain rfl := H1.out rfl
    go_wp2_with fail
    go_ret
    exact ⟨rfl, HE0.out⟩

set_option maxRecDepth 100000 in
set_option maxHeartbeats 1000000 in
theorem RSigned_any (h : Hd) (key : Int) (w : World) (k : 0 ≤ h.size ∧ h.size ≤ 200 ∧ 0 ≤ h.time ∧ h.time ≤ 1000000) (hv : vld h.root = true) (hk : keyI key = true) :
    Calls Tryz.prog 61 #[h.val, .int .i64 key] w fun e w' => e = .returned (.int .i64 (signI h key)) ∧ Ext w w' := by
  obtain ⟨s1, s2, s3⟩ := signB_sizes k hk
  have s4 := hexT_size h.root.toNat
  have HSG : Hid (signI h key = sumL (four4 (digB h.size.toNat) (hexT h.root.toNat) (digB h.time.toNat) (digB key.toNat)).data.toList) := rfl
  obtain ⟨k1, k2, k3, k4⟩ := k
  obtain ⟨k5, k6⟩ := keyI_true hk
  obtain ⟨k7, k8⟩ := vld_true hv
  obtain ⟨a, b, c, d⟩ := h
  simp only at k1 k2 k3 k4 k7 k8 s1 s2 s4 hv
  obtain ⟨a, rfl⟩ := Int.eq_ofNat_of_zero_le k1
  obtain ⟨b, rfl⟩ := Int.eq_ofNat_of_zero_le k7
  obtain ⟨c, rfl⟩ := Int.eq_ofNat_of_zero_le k3
  obtain ⟨ky, rfl⟩ := Int.eq_ofNat_of_zero_le (show 0 ≤ key by omega)
  simp only [Int.toNat_natCast] at s1 s2 s3 s4 HSG
  have HI1 := Lib.hid fun W => RDigits_any a a W (Nat.le_refl _) (by omega)
  have HI2 := Lib.hid fun W => RDigits_any c c W (Nat.le_refl _) (by omega)
  have HI3 := Lib.hid fun W => RDigits_any ky ky W (Nat.le_refl _) (by omega)
  have HT := Lib.hid fun W => RText_any b W (by omega)
  obtain ⟨t1, ht1⟩ : ∃ t, digB a = t := ⟨_, rfl⟩
  obtain ⟨t2, ht2⟩ : ∃ t, hexT b = t := ⟨_, rfl⟩
  obtain ⟨t3, ht3⟩ : ∃ t, digB c = t := ⟨_, rfl⟩
  obtain ⟨t4, ht4⟩ : ∃ t, digB ky = t := ⟨_, rfl⟩
  rw [ht1] at HI1 HSG s1
  rw [ht2] at HT HSG s4
  rw [ht3] at HI2 HSG s2
  rw [ht4] at HI3 HSG s3
  have hz : (four4 t1 t2 t3 t4).size ≤ maxLen := by rw [four4_size]; unfold maxLen; omega
  have HSM := Lib.hid fun W => RSum_any (four4 t1 t2 t3 t4) W hz
  rw [← HSG.out] at HSM
  have HF : Hid (four4 t1 t2 t3 t4 = t1 ++ ⟨#[32]⟩ ++ t2 ++ ⟨#[32]⟩ ++ t3 ++ ⟨#[32]⟩ ++ t4) := rfl
  rw [HF.out] at HSM
  obtain ⟨sg, hsg⟩ : ∃ s, signI ⟨(a : Int), (b : Int), (c : Int), d⟩ (ky : Int) = s := ⟨_, rfl⟩
  rw [hsg] at HSM
  rw [hsg]
  have B0 := Bk.at_ w 29 #[.int .i64 a, .int .i64 b, .int .i64 c, .int .i64 d] w.heap.size rfl
  have e0 : Ext w (w.alloc (.cells #[.int .i64 a, .int .i64 b, .int .i64 c, .int .i64 d] 29)) := by (repeat (with_reducible first | exact Ext.refl _ | assumption | refine Ext.drew ?_ | refine Ext.drewN ?_ _ | refine Ext.alloc ?_ _ | refine Ext.trans ?_ (by with_reducible assumption)))
  clear hz ht1 ht2 ht3 ht4 hsg k1 k2 k3 k4 k5 k6 k7 k8 hv hk HSG
  obtain ⟨g0, hg0⟩ : ∃ g, w.heap.size = g := ⟨_, rfl⟩
  rw [hg0] at B0
  have y0 := B0.cell 0
  go_enter Tryz.func61, Tryz.ntmps61
  go_upto_region 1 with (fail)
  try rw [hg0]
  generalize w.alloc (.cells #[.int .i64 a, .int .i64 b, .int .i64 c, .int .i64 d] 29) = W0 at *
  have HE0 := Lib.hid e0
  clear e0 hg0
  go_wp2_with fail
  refine (HI1.out _).mono ?_
  rintro _ w1 ⟨rfl, hb1⟩
  have y1 := (B0.ext hb1).cell 1
  go_wp2_with fail
  refine (HT.out _).mono ?_
  rintro _ w2 ⟨rfl, hb2⟩
  have hb12 := hb1.trans hb2
  have y2 := (B0.ext hb12).cell 2
  go_wp2_with fail
  refine (HI2.out _).mono ?_
  rintro _ w3 ⟨rfl, hb3⟩
  go_wp2_with fail
  refine (HI3.out _).mono ?_
  rintro _ w4 ⟨rfl, hb4⟩
  go_wp2_with fail
  refine (HSM.out _).mono ?_
  rintro _ _ ⟨rfl, rfl⟩
  go_wp2_with fail
  go_ret
  exact ⟨rfl, HE0.out.trans ((hb12.trans hb3).trans hb4)⟩

set_option maxRecDepth 100000 in
set_option maxHeartbeats 1000000 in
theorem RVerify_any (h : Hd) (key : Int) (w : World) :
    Calls Tryz.prog 65 #[h.val, .int .i64 key] w fun e w' => e = .returned (.int .i64 (verK h key)) ∧ Ext w w' := by
  have HK := Lib.hid fun W => RKeyB_any key W
  have HC := Lib.hid fun W => RHead_any h W
  have HSG : Hid (keyI key = true → h.ok = true → ∀ W, Calls Tryz.prog 61 #[h.val, .int .i64 key] W fun e w' => e = .returned (.int .i64 (signI h key)) ∧ Ext W w') := Lib.hid fun hk ho W => by
    obtain ⟨a1, a2, a3, a4, a5, a6⟩ := Hd.ok_parts ho
    exact RSigned_any h key W ⟨a1, a2, a3, a4⟩ a5 hk
  have HV1 : Hid (keyI key = false → verK h key = 1) := Lib.hid fun hk => by unfold verK; rw [if_neg (by rw [hk]; simp)]
  have HV2 : Hid (h.ok = false → verK h key = 1) := Lib.hid fun ho => by unfold verK; rw [if_neg (by rw [ho]; simp)]
  have HV3 : Hid (keyI key = true → h.ok = true → verK h key = if h.sign = signI h key then 0 else 9) := Lib.hid fun hk ho => by unfold verK; rw [if_pos (by rw [hk, ho]; rfl)]
  have HC1 : Hid (h.ok = true → hdK h = 0) := Lib.hid fun ho => if_pos ho
  have HC2 : Hid (h.ok = false → hdK h = 1) := Lib.hid fun ho => if_neg (by rw [ho]; decide)
  obtain ⟨v, hv⟩ : ∃ v, verK h key = v := ⟨_, rfl⟩
  rw [hv] at HV1 HV2 HV3
  rw [hv]
  obtain ⟨sg, hsg⟩ : ∃ v, signI h key = v := ⟨_, rfl⟩
  rw [hsg] at HV3 HSG
  obtain ⟨kb, hkb⟩ : ∃ v, keyI key = v := ⟨_, rfl⟩
  obtain ⟨ob, hob⟩ : ∃ v, h.ok = v := ⟨_, rfl⟩
  obtain ⟨hk, hhk⟩ : ∃ v, hdK h = v := ⟨_, rfl⟩
  rw [hkb] at HK HSG HV1 HV3
  rw [hob] at HSG HV2 HV3 HC1 HC2
  rw [hhk] at HC HC1 HC2
  obtain ⟨a, b, c, d⟩ := h
  simp only [Hd.val] at *
  have B0 := Bk.at_ w 29 #[.int .i64 a, .int .i64 b, .int .i64 c, .int .i64 d] w.heap.size rfl
  have e0 : Ext w (w.alloc (.cells #[.int .i64 a, .int .i64 b, .int .i64 c, .int .i64 d] 29)) := by (repeat (with_reducible first | exact Ext.refl _ | assumption | refine Ext.drew ?_ | refine Ext.drewN ?_ _ | refine Ext.alloc ?_ _ | refine Ext.trans ?_ (by with_reducible assumption)))
  clear hv hsg hkb hob hhk
  obtain ⟨g0, hg0⟩ : ∃ g, w.heap.size = g := ⟨_, rfl⟩
  rw [hg0] at B0
  have y0 := B0.cell 0
  have y1 := B0.cell 1
  have y2 := B0.cell 2
  have y3 := B0.cell 3
  go_enter Tryz.func65, Tryz.ntmps65
  go_upto_region 1 with (fail)
  try rw [hg0]
  generalize w.alloc (.cells #[.int .i64 a, .int .i64 b, .int .i64 c, .int .i64 d] 29) = W0 at *
  have HE0 := Lib.hid e0
  clear e0 hg0
  cases kb with
  | false =>
    obtain rfl := HV1.out rfl
    go_wp2_with fail
    refine (HK.out _).mono ?_
    rintro _ _ ⟨rfl, rfl⟩
    go_wp2_with fail
    go_ret
    exact ⟨rfl, HE0.out⟩
  | true =>
    cases ob with
    | false =>
      obtain rfl := HV2.out rfl
      obtain rfl := HC2.out rfl
      go_wp2_with fail
      refine (HK.out _).mono ?_
      rintro _ _ ⟨rfl, rfl⟩
      go_wp2_with fail
      refine (HC.out _).mono ?_
      rintro _ w2 ⟨rfl, hb2⟩
      go_wp2_with fail
      go_ret
      exact ⟨rfl, HE0.out.trans hb2⟩
    | true =>
      have hv3 := HV3.out rfl rfl
      obtain rfl := HC1.out rfl
      have HS := Lib.hid (HSG.out rfl rfl)
      go_wp2_with fail
      refine (HK.out _).mono ?_
      rintro _ _ ⟨rfl, rfl⟩
      go_wp2_with fail
      refine (HC.out _).mono ?_
      rintro _ w2 ⟨rfl, hb2⟩
      have e2 := HE0.out.trans hb2
      have B2 := B0.ext hb2
      have x0 : ∀ x : WE w2, x.W.cell? ⟨g0, 0, none⟩ = some (.int .i64 a) := fun x => (B2.ext x.h).cell 0
      have x1 : ∀ x : WE w2, x.W.cell? ⟨g0, 1, none⟩ = some (.int .i64 b) := fun x => (B2.ext x.h).cell 1
      have x2 : ∀ x : WE w2, x.W.cell? ⟨g0, 2, none⟩ = some (.int .i64 c) := fun x => (B2.ext x.h).cell 2
      have x3 : ∀ x : WE w2, x.W.cell? ⟨g0, 3, none⟩ = some (.int .i64 d) := fun x => (B2.ext x.h).cell 3
      have HV := Lib.hid hv3
      clear hv3 y0 y1 y2 y3
      go_upto_region 4 with (fail)
      (refine wp_region_ext (w0 := w2) (by kernel_rfl) (by kernel_rfl) (by (repeat (with_reducible first | exact Ext.refl _ | assumption | refine Ext.drew ?_ | refine Ext.drewN ?_ _ | refine Ext.alloc ?_ _ | refine Ext.trans ?_ (by with_reducible assumption)))) ?_; (repeat (go_big_quiet_step ((go_at_call 61; exact quietE (HS.out _))))); refine wpQuiet_nil ?_)
      intro w3 hb3
      clear x0 x1 x2 x3
      by_cases hs : d = sg
      · obtain rfl : v = 0 := HV.out.trans (if_pos hs)
        subst hs
        go_wp2_with fail
        go_ret
        exact ⟨rfl, e2.trans hb3⟩
      · obtain rfl : v = 9 := HV.out.trans (if_neg hs)
        have hs2 : (d == sg) = false := by simp [hs]
        go_wp2_with fail
        go_ret
        exact ⟨rfl, e2.trans hb3⟩
end Go.Proofs.YtnphbkjkeipmmaaGreatDoor

/- The references' leafs of data. -/
namespace Go.Proofs.YtnphbkjkeipmmaaGreatDoor
open Go.RowKit Go.WideShapes
set_option linter.unusedVariables false
attribute [local go_sem ↓] Go.wp_at_zero Go.wp_at_succ

def newsS (s : ByteArray) : List Value := s.data.toList.map fun b => Value.int .u8 b.toNat
theorem newsS_len (s : ByteArray) : (newsS s).length = s.size * 1 := by unfold newsS; rw [List.length_map, Nat.mul_one]; rfl
theorem newsS_one (s : ByteArray) : ∀ u ∈ newsS s, u.oneCell' = true := by
  intro u hu
  unfold newsS at hu
  rw [List.mem_map] at hu
  obtain ⟨x, _, rfl⟩ := hu
  rfl
theorem newsS_int (s : ByteArray) : newsS s = (s.data.toList.map fun b => (b.toNat : Int)).map (Value.int .u8) := by unfold newsS; rw [List.map_map]; rfl
theorem conv_cells (w : World) (s : ByteArray) (cap : Nat) (e : TypeId) (m : Nat × Nat) (H : Nat) (hH : w.heap.size = H) : ∀ j u, (newsS s)[j]? = some u → (w.alloc (.cells (bytesRow s cap) e m)).cell? ((⟨H, 0, none⟩ : Addr).add j) = some u := by
  intro j u hu
  subst hH
  unfold newsS at hu
  rw [List.getElem?_map, Option.map_eq_some_iff] at hu
  obtain ⟨b, hb, rfl⟩ := hu
  obtain ⟨h1, h2⟩ := List.getElem?_eq_some_iff.1 hb
  have hj : j < s.data.size := by simpa using h1
  rw [add_mk, Nat.zero_add, World.cell?_alloc_mark]
  rw [bytesRow_at s cap j hj]
  have : s.data[j] = b := by simpa using h2
  rw [this]
/-- 'append' of some cells, none too -/
theorem wpl_appa {P : Program} {w : World} {ops : Array Oper} {rest : List Oper} {o : Oper} {a : Act} {Q : Exit → Act → World → Prop} (hgd : o.guard = none) (s x : Operand) (t : TypeId)
    (ho : o.op = .call { callee := .builtin .append, args := #[s, x], argTypes := #[t, t] })
    (base : Nat) (e : TypeId) (i : TypeInfo) (z : Value) (size bytes : Nat) (ht : P.underlying t = some (.slice e)) (hi : P.info? e = some i) (hz : i.zero = some z)
    (hsize : i.size = size) (hby : i.bytes = bytes) (hzs : z.cells.size = size) (hsz : 0 < size)
    (v : Value) (n : Nat) (xs : List Value) (hs : a.eval s = v) (hown : w.ownsRow base e size v n xs)
    (ad : Addr) (m c : Nat) (news : List Value) (hx : a.eval x = .slice (some ad) m c) (hl : news.length = m * size) (hnews : ∀ j u, news[j]? = some u → w.cell? (ad.add j) = some u) (h1 : ∀ u ∈ news, u.oneCell' = true)
    (h63 : n + m ≤ 1048576) (hbytes : bytes ≤ 1048576) (hbase : base ≤ w.heap.size)
    (h : ∀ v' w', w'.ownsRow base e size v' (n + m) (xs ++ news) → (∀ u, u.heap.size ≤ base → Ext u w → Ext u w') → wpList P ops Q rest (a.put o.dst v') w') : wpList P ops Q (o :: rest) a w :=
  wpList_append_own w hgd s x t ho base e i z size bytes ht hi hz hsize hby hzs hsz v n xs hs hown ad m c news hx hl hnews h1 (by simp only [maxLen]; omega)
    (by have := Nat.mul_le_mul (show n + m ≤ 1048576 by omega) hbytes; omega) hbase fun v' w' h2 h3 _ => h v' w' h2 (own_grown hown h3)

theorem leafI_bytes (s : ByteArray) : (([0] : List Int) ++ s.data.toList.map fun (b : UInt8) => (b.toNat : Int)).map byteOf = 0 :: s.data.toList := by
  rw [List.map_append, List.map_map]
  have : (byteOf ∘ fun (b : UInt8) => (b.toNat : Int)) = id := by funext b; exact byteOf_toNat b
  rw [this, List.map_id]; rfl
theorem str_of_own {w : World} {g : Nat} {v : Value} {n : Nat} {cs : List Value} {l : List Int} {L : List UInt8} (h : w.ownsRow g 5 1 v n cs) (hn : 0 < n) (hc : cs = l.map (Value.int .u8)) (hL : l.map byteOf = L) :
    ∃ ad c, v = .slice (some ad) n c ∧ (convert 47 9 (.slice (some ad) n c)).run Tryz.prog w = .ok (.string ⟨L.toArray⟩) w := by
  subst hc
  subst hL
  obtain ⟨A, c, rfl, -, R, -⟩ := own_rd h
  obtain ⟨ad, rfl, -, -⟩ := R.2.2 hn
  exact ⟨ad, c, rfl, conv_rd R hn⟩
theorem leaf_cells (s : ByteArray) : List.map (Value.int .u8) [0] ++ newsS s = (([0] : List Int) ++ s.data.toList.map fun (b : UInt8) => (b.toNat : Int)).map (Value.int .u8) := by rw [List.map_append, newsS_int]
set_option maxRecDepth 100000 in
theorem RLeaf_any (s : ByteArray) (w : World) (hs : s.size ≤ 1000000) :
    Calls Tryz.prog 63 #[.string s] w fun e w' => e = .returned (.int .i64 (leafL s.data.toList)) ∧ Ext w w' := by
  have own0 : (w.alloc (.cells #[.int .u8 0] 5)).ownsRow w.heap.size 5 1 (.slice (some ⟨w.heap.size, 0, none⟩) 1 1) 1 (([0] : List Int).map (Value.int .u8)) :=
    World.ownsRow_lit w #[.int .u8 0] 1 (Nat.le_refl _) (by simp [maxLen]) rfl
  have E0 : Ext w (w.alloc (.cells #[.int .u8 0] 5)) := by (repeat (with_reducible first | exact Ext.refl _ | assumption | refine Ext.drew ?_ | refine Ext.drewN ?_ _ | refine Ext.alloc ?_ _ | refine Ext.trans ?_ (by with_reducible assumption)))
  have hz0 : w.heap.size < (w.alloc (.cells #[.int .u8 0] 5)).heap.size := by simp
  obtain ⟨i0, hi0, hz0', hz1, hz2⟩ := info_parts info_u8
  obtain ⟨g, hg⟩ : ∃ g, g = w.heap.size := ⟨_, rfl⟩
  have HB := Lib.hid (leafI_bytes s)
  go_enter Tryz.func63, Tryz.ntmps63
  go_upto_region 2 with (fail)
  rw [← hg] at own0 hz0 ⊢
  generalize w.alloc (.cells #[.int .u8 0] 5) = w1 at *
  have hconv := run_bytes_of_string (P := Tryz.prog) w1 9 47 5 s Tryz.underlying9 Tryz.underlying47 Tryz.underlying5
  have hcells := conv_cells w1.drew s (grownCap w1 s.size 0 5) 5 ((bytesRow s (grownCap w1 s.size 0 5)).size, (bytesRow s (grownCap w1 s.size 0 5)).size + 1) w1.heap.size rfl
  have E1 : Ext w (w1.drew.alloc (.cells (bytesRow s (grownCap w1 s.size 0 5)) 5 ((bytesRow s (grownCap w1 s.size 0 5)).size, (bytesRow s (grownCap w1 s.size 0 5)).size + 1))) := by (repeat (with_reducible first | exact Ext.refl _ | assumption | refine Ext.drew ?_ | refine Ext.drewN ?_ _ | refine Ext.alloc ?_ _ | refine Ext.trans ?_ (by with_reducible assumption)))
  have own1 : (w1.drew.alloc (.cells (bytesRow s (grownCap w1 s.size 0 5)) 5 ((bytesRow s (grownCap w1 s.size 0 5)).size, (bytesRow s (grownCap w1 s.size 0 5)).size + 1))).ownsRow g 5 1 (.slice (some ⟨g, 0, none⟩) 1 1) 1 (([0] : List Int).map (Value.int .u8)) := (World.ownsRow.drew own0).alloc _
  generalize w1.drew.alloc (.cells (bytesRow s (grownCap w1 s.size 0 5)) 5 ((bytesRow s (grownCap w1 s.size 0 5)).size, (bytesRow s (grownCap w1 s.size 0 5)).size + 1)) = w2 at *
  generalize grownCap w1 s.size 0 5 = cp at *
  have hs2 := E1.size
  have HC := Lib.hid hcells
  clear hcells
  go_wp2_with (at_builtin; refine wpl_appa (by rfl) _ _ _ (by rfl) g 5 i0 _ 1 1 Tryz.underlying47 hi0 hz0' hz1 hz2 rfl (by omega) (.slice (some ⟨g, 0, none⟩) 1 1) 1 _ (by rfl) own1 ⟨w1.heap.size, 0, none⟩ s.size cp (newsS s) (by rfl) (newsS_len s) HC.out (newsS_one s) (by omega) (by omega) (by omega) ?_; intro v3 w3 own3 hx3; have E3 := hx3 w (by omega) E1; obtain ⟨ad3, c3, rfl, hcv3⟩ := str_of_own own3 (by omega) (leaf_cells s) (leafI_bytes s))
  have hl3 : (0 :: s.data.toList).length = 1 + s.size := by rw [List.length_cons, Nat.add_comm]; rfl
  have HL : Hid (sumL (⟨(0 :: s.data.toList).toArray⟩ : ByteArray).data.toList = leafL s.data.toList) := rfl
  have hz : (⟨(0 :: s.data.toList).toArray⟩ : ByteArray).size ≤ 1000001 := by rw [size_mk, hl3]; omega
  generalize (⟨(0 :: s.data.toList).toArray⟩ : ByteArray) = y at *
  go_wp2_with fail
  refine (RSum_any _ _ (by simp only [maxLen]; omega)).mono ?_
  rintro e w4 ⟨rfl, rfl⟩
  rw [HL.out]
  go_wp2_with fail
  go_ret
  exact ⟨rfl, E3⟩

/-! ### many -/
def dataOk (l : List ByteArray) : Prop := l.length ≤ 200 ∧ ∀ s ∈ l, s.size ≤ 200
instance (l : List ByteArray) : Decidable (dataOk l) := by unfold dataOk; exact inferInstance
def dataK (l : List ByteArray) : Int := if dataOk l then 0 else 4
theorem dataK_ok {l : List ByteArray} (h : dataOk l) : dataK l = 0 := if_pos h
theorem dataK_bad {l : List ByteArray} (h : ¬ dataOk l) : dataK l = 4 := if_neg h
theorem dataK_zero {l : List ByteArray} (h : dataK l = 0) : dataOk l := by
  by_cases hk : dataOk l
  · exact hk
  · rw [dataK_bad hk] at h; cases h
def sumsD (l : List ByteArray) : List Int := l.map fun s => leafL s.data.toList
theorem sumsD_len (l : List ByteArray) : (sumsD l).length = l.length := by simp [sumsD]
theorem sumsD_take (l : List ByteArray) (k : Nat) : (sumsD l).take k = sumsD (l.take k) := by simp [sumsD]
theorem sumsD_drop (l : List ByteArray) (k : Nat) : (sumsD l).drop k = sumsD (l.drop k) := by simp [sumsD]
theorem sumsD_snoc {l : List ByteArray} {k : Nat} {s : ByteArray} (h : l[k]? = some s) : sumsD (l.take (k + 1)) = sumsD (l.take k) ++ [leafL s.data.toList] := by
  obtain ⟨h1, rfl⟩ := List.getElem?_eq_some_iff.1 h
  rw [List.take_succ_eq_append_getElem h1]; unfold sumsD; rw [List.map_append]; rfl
theorem allV_sumsD (l : List ByteArray) : allV (sumsD l) = true := by
  unfold allV sumsD
  rw [List.all_eq_true]
  intro x hx
  rw [List.mem_map] at hx
  obtain ⟨s, _, rfl⟩ := hx
  exact vld_sum _

end Go.Proofs.YtnphbkjkeipmmaaGreatDoor

/- Plain laws: entries read off bytes, no program in sight. -/
namespace Go.Proofs.YtnphbkjkeipmmaaGreatDoor
open Go.RowKit
set_option linter.unusedVariables false

theorem list_size (s : ByteArray) : s.data.toList.length = s.size := rfl
theorem ex_list (s : ByteArray) (a b : Nat) : (s.extract a b).data.toList = (s.data.toList.drop a).take (b - a) := Lib.extract_data s a b
theorem ex_end (s : ByteArray) (a : Nat) : (s.extract a s.size).data.toList = s.data.toList.drop a := Lib.extract_to_end s a

/-- byte k -/
def byB (s : ByteArray) (k : Nat) : UInt8 := s.data.toList.getD k 0
theorem byB_get (s : ByteArray) (k : Nat) (h : k < s.size) : s[k] = byB s k := by
  unfold byB
  rw [List.getD_eq_getElem?_getD, List.getElem?_eq_getElem (by rw [list_size]; exact h)]
  rfl
/-- the entry at the start of bytes -/
def entOf (s : ByteArray) : Ent := ⟨((byB s 0).toNat : Int) * 65536 + ((byB s 1).toNat : Int) * 256 + ((byB s 2).toNat : Int), s.extract 4 (4 + (byB s 3).toNat)⟩
def takeE (s : ByteArray) : Option (Ent × ByteArray) :=
  if 4 ≤ s.size ∧ 4 + (byB s 3).toNat ≤ s.size ∧ (entOf s).ok then some (entOf s, s.extract (4 + (byB s 3).toNat) s.size) else none
theorem takeE_none {s : ByteArray} (h : ¬ (4 ≤ s.size ∧ 4 + (byB s 3).toNat ≤ s.size ∧ (entOf s).ok)) : takeE s = none := if_neg h
theorem takeE_bytes (e : Ent) (r : ByteArray) (h : e.ok) : takeE (e.bytes ++ r) = some (e, r) := by
  obtain ⟨t, d⟩ := e
  obtain ⟨h0, h1, h2⟩ := h
  dsimp only at h0 h1 h2
  have hl : ((⟨t, d⟩ : Ent).bytes ++ r).data.toList = byteOf (t / 65536 % 256) :: byteOf (t / 256 % 256) :: byteOf (t % 256) :: byteOf ((d.size : Int) % 256) :: (d.data.toList ++ r.data.toList) := by
    rw [toList_cat, Ent.bytes_list]; rfl
  have hz : ((⟨t, d⟩ : Ent).bytes ++ r).size = 4 + d.size + r.size := by rw [size_cat, Ent.bytes_size]
  generalize (⟨t, d⟩ : Ent).bytes ++ r = s at *
  have b0 : byB s 0 = byteOf (t / 65536 % 256) := by unfold byB; rw [hl]; rfl
  have b1 : byB s 1 = byteOf (t / 256 % 256) := by unfold byB; rw [hl]; rfl
  have b2 : byB s 2 = byteOf (t % 256) := by unfold byB; rw [hl]; rfl
  have b3 : byB s 3 = byteOf ((d.size : Int) % 256) := by unfold byB; rw [hl]; rfl
  have n0 := toNat_byteOf (t / 65536 % 256) (by omega) (by omega)
  have n1 := toNat_byteOf (t / 256 % 256) (by omega) (by omega)
  have n2 := toNat_byteOf (t % 256) (by omega) (by omega)
  have n3 := toNat_byteOf ((d.size : Int) % 256) (by omega) (by omega)
  rw [← b0] at n0
  rw [← b1] at n1
  rw [← b2] at n2
  rw [← b3] at n3
  have n3' : (byB s 3).toNat = d.size := by omega
  have hd : s.extract 4 (4 + (byB s 3).toNat) = d := by
    apply ba_ext
    rw [ex_list, hl, n3']
    show (d.data.toList ++ r.data.toList).take (4 + d.size - 4) = _
    rw [Nat.add_sub_cancel_left, ← list_size, List.take_left]
  have hr : s.extract (4 + (byB s 3).toNat) s.size = r := by
    apply ba_ext
    rw [ex_end, hl, n3', Nat.add_comm]
    show (d.data.toList ++ r.data.toList).drop d.size = _
    rw [← list_size, List.drop_left]
  have he : entOf s = ⟨t, d⟩ := by
    unfold entOf
    rw [hd, n0, n1, n2]
    congr 1
    omega
  unfold takeE
  rw [if_pos ⟨by omega, by omega, by rw [he]; exact ⟨h0, h1, h2⟩⟩, he, hr]
theorem takeE_some {s : ByteArray} {e : Ent} {r : ByteArray} (h : takeE s = some (e, r)) : e.ok ∧ s = e.bytes ++ r := by
  unfold takeE at h
  by_cases hc : 4 ≤ s.size ∧ 4 + (byB s 3).toNat ≤ s.size ∧ (entOf s).ok
  · rw [if_pos hc] at h
    obtain ⟨h1, h2, h3⟩ := hc
    simp only [Option.some.injEq, Prod.mk.injEq] at h
    obtain ⟨rfl, rfl⟩ := h
    refine ⟨h3, ?_⟩
    apply ba_ext
    rw [toList_cat, Ent.bytes_list, ex_end]
    have hsz : (entOf s).data.size = (byB s 3).toNat := by
      show (s.extract 4 (4 + (byB s 3).toNat)).size = _
      rw [ByteArray.size_extract]
      omega
    have hdl : (entOf s).data.data.toList = (s.data.toList.drop 4).take (byB s 3).toNat := by
      show (s.extract 4 (4 + (byB s 3).toNat)).data.toList = _
      rw [ex_list, Nat.add_sub_cancel_left]
    have q0 := (byB s 0).toNat_lt
    have q1 := (byB s 1).toNat_lt
    have q2 := (byB s 2).toNat_lt
    have q3 := (byB s 3).toNat_lt
    have ht : (entOf s).time = ((byB s 0).toNat : Int) * 65536 + ((byB s 1).toNat : Int) * 256 + ((byB s 2).toNat : Int) := rfl
    unfold entB entH
    rw [list_size, hsz, hdl, ht]
    rw [show (((byB s 0).toNat : Int) * 65536 + ((byB s 1).toNat : Int) * 256 + ((byB s 2).toNat : Int)) / 65536 % 256 = ((byB s 0).toNat : Int) by omega,
      show (((byB s 0).toNat : Int) * 65536 + ((byB s 1).toNat : Int) * 256 + ((byB s 2).toNat : Int)) / 256 % 256 = ((byB s 1).toNat : Int) by omega,
      show (((byB s 0).toNat : Int) * 65536 + ((byB s 1).toNat : Int) * 256 + ((byB s 2).toNat : Int)) % 256 = ((byB s 2).toNat : Int) by omega,
      show ((byB s 3).toNat : Int) % 256 = ((byB s 3).toNat : Int) by omega, byteOf_toNat, byteOf_toNat, byteOf_toNat, byteOf_toNat]
    have hlen : 4 ≤ s.data.toList.length := by rw [list_size]; exact h1
    unfold byB
    generalize s.data.toList = l at *
    match l, hlen with
    | a :: b :: c :: d :: l, _ =>
      show a :: b :: c :: d :: l = [a, b, c, d] ++ l.take d.toNat ++ List.drop (4 + d.toNat) (a :: b :: c :: d :: l)
      rw [Nat.add_comm]
      show a :: b :: c :: d :: l = a :: b :: c :: d :: (l.take d.toNat ++ l.drop d.toNat)
      rw [List.take_append_drop]
  · rw [if_neg hc] at h; cases h

/-- the bytes of entries, one behind the other -/
def catL (es : List Ent) : List UInt8 := es.flatMap fun e => e.bytes.data.toList
theorem catL_append (a b : List Ent) : catL (a ++ b) = catL a ++ catL b := by simp [catL]
theorem catL_cons (e : Ent) (b : List Ent) : catL (e :: b) = e.bytes.data.toList ++ catL b := rfl
theorem catL_len {es : List Ent} (h : ∀ e ∈ es, e.ok) : (catL es).length ≤ 204 * es.length := by
  induction es with
  | nil => simp [catL]
  | cons e es ih =>
    have h1 := (h e (by simp)).2.2
    have h2 := ih fun x hx => h x (by simp [hx])
    rw [catL_cons, List.length_append, list_size, Ent.bytes_size, List.length_cons]
    omega
/-- some entries off bytes -/
def unpN : Nat → ByteArray → Option (List Ent × ByteArray)
  | 0, s => some ([], s)
  | n + 1, s => match unpN n s with
    | none => none
    | some (es, q) => match takeE q with
      | none => none
      | some (e, r) => some (es ++ [e], r)
theorem unpN_zero (s : ByteArray) : unpN 0 s = some ([], s) := rfl
theorem unpN_next {n : Nat} {s q r : ByteArray} {es : List Ent} {e : Ent} (h : unpN n s = some (es, q)) (k : takeE q = some (e, r)) : unpN (n + 1) s = some (es ++ [e], r) := by
  rw [unpN, h]; simp only [k]
theorem unpN_stop {n : Nat} {s q : ByteArray} {es : List Ent} (h : unpN n s = some (es, q)) (k : takeE q = none) : unpN (n + 1) s = none := by
  rw [unpN, h]; simp only [k]
theorem unpN_none {n : Nat} {s : ByteArray} (h : unpN n s = none) : unpN (n + 1) s = none := by rw [unpN, h]
theorem unpN_later {n : Nat} {s : ByteArray} (h : unpN n s = none) : ∀ k, unpN (n + k) s = none
  | 0 => h
  | k + 1 => unpN_none (unpN_later h k)
theorem unpN_some : ∀ (n : Nat) (s : ByteArray) (es : List Ent) (q : ByteArray), unpN n s = some (es, q) → es.length = n ∧ (∀ e ∈ es, e.ok) ∧ s.data.toList = catL es ++ q.data.toList
  | 0, s, es, q, h => by
    rw [unpN_zero] at h
    simp only [Option.some.injEq, Prod.mk.injEq] at h
    obtain ⟨rfl, rfl⟩ := h
    exact ⟨rfl, by simp, by simp [catL]⟩
  | n + 1, s, es, q, h => by
    cases hu : unpN n s with
    | none => rw [unpN_none hu] at h; cases h
    | some p =>
      obtain ⟨es', q'⟩ := p
      obtain ⟨h1, h2, h3⟩ := unpN_some n s es' q' hu
      cases ht : takeE q' with
      | none => rw [unpN_stop hu ht] at h; cases h
      | some p =>
        obtain ⟨e, r⟩ := p
        rw [unpN_next hu ht] at h
        simp only [Option.some.injEq, Prod.mk.injEq] at h
        obtain ⟨rfl, rfl⟩ := h
        obtain ⟨k1, k2⟩ := takeE_some ht
        refine ⟨by simp [h1], ?_, ?_⟩
        · intro x hx
          rcases List.mem_append.1 hx with hx | hx
          · exact h2 x hx
          · rw [List.mem_singleton] at hx; subst hx; exact k1
        · rw [h3, k2, toList_cat, catL_append]
          simp [catL]
theorem unpN_cat (es : List Ent) (h : ∀ e ∈ es, e.ok) (r : List UInt8) : ∀ n, n ≤ es.length → unpN n ⟨(catL es ++ r).toArray⟩ = some (es.take n, ⟨(catL (es.drop n) ++ r).toArray⟩)
  | 0, _ => rfl
  | n + 1, hn => by
    have hn' : n < es.length := by omega
    have hd : es.drop n = es[n] :: es.drop (n + 1) := List.drop_eq_getElem_cons hn'
    have ht : takeE ⟨(catL (es.drop n) ++ r).toArray⟩ = some (es[n], ⟨(catL (es.drop (n + 1)) ++ r).toArray⟩) := by
      rw [← takeE_bytes es[n] _ (h _ (List.getElem_mem hn'))]
      congr 1
      apply ba_ext
      rw [toList_cat, toList_mk, toList_mk, hd, catL_cons, List.append_assoc]
    rw [unpN_next (unpN_cat es h r n (by omega)) ht, List.take_succ_eq_append_getElem hn']

/-- the bytes of many: while they are made -/
def packB (es : List Ent) (j : Nat) : ByteArray := ⟨(byteOf (es.length : Int) :: catL (es.take j)).toArray⟩
theorem packB_list (es : List Ent) (j : Nat) : (packB es j).data.toList = byteOf (es.length : Int) :: catL (es.take j) := by unfold packB; rw [toList_mk]
theorem packB_zero (es : List Ent) : packB es 0 = ⟨#[byteOf (es.length : Int)]⟩ := rfl
theorem packB_next {es : List Ent} {j : Nat} {e : Ent} (h : es[j]? = some e) : packB es (j + 1) = packB es j ++ e.bytes := by
  apply ba_ext
  obtain ⟨hl, rfl⟩ := List.getElem?_eq_some_iff.1 h
  rw [toList_cat, packB_list, packB_list, List.take_succ_eq_append_getElem hl, catL_append]
  simp [catL]
theorem packB_size {es : List Ent} (h : ∀ e ∈ es, e.ok) (j : Nat) (hl : es.length ≤ 200) : (packB es j).size ≤ 40801 := by
  rw [← list_size, packB_list, List.length_cons]
  have := catL_len (es := es.take j) fun e he => h e (List.mem_of_mem_take he)
  have : (es.take j).length ≤ es.length := by rw [List.length_take]; omega
  omega
/-- entries off bytes -/
def unpEnd : Option (List Ent × ByteArray) → Option (List Ent)
  | none => none
  | some (es, q) => if q.size = 0 then some es else none
def unpackE (s : ByteArray) : Option (List Ent) :=
  if s.size = 0 ∨ 200 < (byB s 0).toNat then none else unpEnd (unpN (byB s 0).toNat (s.extract 1 s.size))
theorem unpackE_pack {es : List Ent} (h : ∀ e ∈ es, e.ok) (hl : es.length ≤ 200) : unpackE (packB es es.length) = some es := by
  have hp := packB_list es es.length
  rw [List.take_length] at hp
  have hb : byB (packB es es.length) 0 = byteOf (es.length : Int) := by unfold byB; rw [hp]; rfl
  have hn := toNat_byteOf (es.length : Int) (by omega) (by omega)
  rw [← hb] at hn
  have hn' : (byB (packB es es.length) 0).toNat = es.length := by omega
  have he : (packB es es.length).extract 1 (packB es es.length).size = ⟨(catL es ++ []).toArray⟩ := by
    apply ba_ext
    rw [ex_end, hp, toList_mk, List.append_nil]
    rfl
  have hs : ¬ ((packB es es.length).size = 0 ∨ 200 < (byB (packB es es.length) 0).toNat) := by
    rw [← list_size, hp, hn', List.length_cons]
    omega
  unfold unpackE
  rw [if_neg hs, he, hn', unpN_cat es h [] es.length (Nat.le_refl _), List.take_length, List.drop_length]
  rfl
theorem unpackE_some {s : ByteArray} {es : List Ent} (h : unpackE s = some es) : (∀ e ∈ es, e.ok) ∧ es.length ≤ 200 ∧ s = packB es es.length := by
  unfold unpackE at h
  by_cases hs : s.size = 0 ∨ 200 < (byB s 0).toNat
  · rw [if_pos hs] at h; cases h
  · rw [if_neg hs] at h
    cases hu : unpN (byB s 0).toNat (s.extract 1 s.size) with
    | none => rw [hu] at h; cases h
    | some p =>
      obtain ⟨es', q⟩ := p
      rw [hu] at h
      unfold unpEnd at h
      simp only at h
      by_cases hq : q.size = 0
      · rw [if_pos hq] at h
        obtain rfl : es' = es := by simpa using h
        obtain ⟨h1, h2, h3⟩ := unpN_some _ _ _ _ hu
        refine ⟨h2, by omega, ?_⟩
        apply ba_ext
        rw [packB_list, List.take_length, h1]
        have hq0 : q.data.toList = [] := List.eq_nil_of_length_eq_zero (by rw [list_size]; exact hq)
        rw [ex_end, hq0, List.append_nil] at h3
        rw [← h3, byteOf_toNat]
        unfold byB
        have hlen : 0 < s.data.toList.length := by rw [list_size]; omega
        generalize s.data.toList = l at *
        match l, hlen with
        | a :: l, _ => rfl
      · rw [if_neg hq] at h; cases h
end Go.Proofs.YtnphbkjkeipmmaaGreatDoor

namespace Go.Proofs.YtnphbkjkeipmmaaGreatDoor
open Go.RowKit
set_option linter.unusedVariables false
attribute [local go_sem ↓] Go.wp_at_zero Go.wp_at_succ

theorem ofInt_u (n : Nat) (h : n < 18446744073709551616) : (BitVec.ofInt 64 (n : Int)).toNat = n := by
  rw [BitVec.toNat_ofInt]; omega
theorem or_add (a b i : Nat) (hb : b < 2 ^ i) (h : a * 2 ^ i + b < 9223372036854775807) : bits .or .i64 ((a * 2 ^ i : Nat) : Int) (b : Int) = ((a * 2 ^ i + b : Nat) : Int) := by
  show IntKind.i64.wrap ((BitVec.ofInt 64 ((a * 2 ^ i : Nat) : Int) ||| BitVec.ofInt 64 (b : Int)).toNat : Int) = _
  rw [BitVec.toNat_or, ofInt_u _ (by omega), ofInt_u b (by omega), Nat.mul_comm a, ← Nat.two_pow_add_eq_or_of_lt hb, Nat.mul_comm]
  exact IntWalk.i64_in _ (by omega)
theorem or_hi (a b : Nat) (ha : a < 256) (hb : b < 256) : bits .or .i64 ((a : Int) * 65536) ((b : Int) * 256) = (a : Int) * 65536 + (b : Int) * 256 := by
  have h := or_add a (b * 256) 16 (by omega) (by omega)
  rw [show ((a * 2 ^ 16 : Nat) : Int) = (a : Int) * 65536 by omega, show ((b * 256 : Nat) : Int) = (b : Int) * 256 by omega] at h
  rw [h]
  omega
theorem or_lo (a b c : Nat) (ha : a < 256) (hb : b < 256) (hc : c < 256) : bits .or .i64 ((a : Int) * 65536 + (b : Int) * 256) (c : Int) = (a : Int) * 65536 + (b : Int) * 256 + (c : Int) := by
  have h := or_add (a * 256 + b) c 8 (by omega) (by omega)
  rw [show (((a * 256 + b) * 2 ^ 8 : Nat) : Int) = (a : Int) * 65536 + (b : Int) * 256 by omega] at h
  rw [h]
  omega

theorem w_small {n : Int} (h0 : 0 ≤ n) (h : n < 256) : wrap64 n = n := by unfold wrap64; omega
theorem w_four {n : Int} (h0 : 0 ≤ n) (h : n < 256) : wrap64 (4 + n) = 4 + n := by unfold wrap64; omega
theorem i_four {n : Int} (h0 : 0 ≤ n) (h : n < 256) : IntKind.i64.wrap (4 + n) = 4 + n := IntWalk.i64_in _ (by omega)
theorem i_small {n : Int} (h0 : 0 ≤ n) (h : n < 256) : IntKind.i64.wrap n = n := IntWalk.i64_in _ (by omega)
theorem u8_lt (b : UInt8) : 0 ≤ (b.toNat : Int) ∧ (b.toNat : Int) < 256 := by have := b.toNat_lt; omega
theorem u8_ltN (b : UInt8) : b.toNat < 256 := b.toNat_lt
theorem four_le {n : Int} (h0 : 0 ≤ n) : (4 : Int) ≤ 4 + n := by omega
theorem four_le' {n m : Nat} (h : 4 + n ≤ m) : 4 + (n : Int) ≤ (m : Int) := by omega
theorem four_0 {n : Int} (h0 : 0 ≤ n) : (0 : Int) ≤ 4 + n := by omega
theorem lt_int {n m : Nat} (h : n < m) : (n : Int) < (m : Int) := by omega
theorem w_hi {a : Nat} (h : a < 256) : wrap64 ((a : Int) * 65536) = (a : Int) * 65536 := by unfold wrap64; omega
theorem w_mid {a : Nat} (h : a < 256) : wrap64 ((a : Int) * 256) = (a : Int) * 256 := by unfold wrap64; omega
theorem four_m {n m : Nat} (h : 4 + n ≤ m) : (4 : Int) ≤ (m : Int) := by omega

theorem lt_four {n m : Nat} (h : m < 4 + n) : (m : Int) < 4 + (n : Int) := by omega
end Go.Proofs.YtnphbkjkeipmmaaGreatDoor

namespace Go.Proofs.YtnphbkjkeipmmaaGreatDoor
open Go.RowKit
set_option linter.unusedVariables false
attribute [local go_sem ↓] Go.wp_at_zero Go.wp_at_succ

theorem takeE_size {s : ByteArray} {e : Ent} {r : ByteArray} (h : takeE s = some (e, r)) : r.size ≤ s.size := by
  obtain ⟨_, h2⟩ := takeE_some h
  rw [h2, size_cat]; omega

/-- bytes of one entry alone -/
theorem takeE_one (e : Ent) (h : e.ok) : takeE e.bytes = some (e, ⟨#[]⟩) := by
  have := takeE_bytes e ⟨#[]⟩ h
  rwa [show e.bytes ++ ⟨#[]⟩ = e.bytes from ba_ext (by rw [toList_cat]; simp)] at this
theorem flat_snoc (es : List Ent) (e : Ent) : (es ++ [e]).flatMap Ent.cells = es.flatMap Ent.cells ++ e.cells := by simp
theorem unpN_size {n : Nat} {s q : ByteArray} {es : List Ent} (h : unpN n s = some (es, q)) : q.size ≤ s.size := by
  have := (unpN_some _ _ _ _ h).2.2
  have h2 := congrArg List.length this
  rw [List.length_append, list_size, list_size] at h2
  omega

theorem str_some {s : ByteArray} (h : 0 < s.size) : s.toList.isEmpty = false ∧ ¬ s.toList = [] := by
  have : ¬ s.toList = [] := by
    rw [Lib.toList_data]
    intro h'
    rw [← list_size, h'] at h
    exact absurd h (by simp)
  refine ⟨?_, this⟩
  cases hs : s.toList with
  | nil => exact absurd hs this
  | cons a l => rfl
theorem str_none {s : ByteArray} (h : s.size = 0) : s = ⟨#[]⟩ := ba_ext (List.eq_nil_of_length_eq_zero (by rw [list_size]; exact h))
/-- what Unpack answers -/
def UnpPost (s : ByteArray) (w : World) (e : Ending) (w' : World) : Prop :=
  match unpackE s with
  | some es => ∃ v, e = .returned (.tuple #[v, .nilIface]) ∧ w'.ownsRow w.heap.size 67 2 v es.length (es.flatMap Ent.cells)
  | none => e = .returned (.tuple #[.slice none 0 0, errV 2])
theorem UnpPost.none {s : ByteArray} {w w' : World} {e : Ending} (h : unpackE s = none) (k : e = .returned (.tuple #[.slice none 0 0, errV 2])) : UnpPost s w e w' := by
  unfold UnpPost; rw [h]; exact k
theorem UnpPost.some {s : ByteArray} {w w' : World} {v : Value} {es : List Ent} (h : unpackE s = some es) (k : w'.ownsRow w.heap.size 67 2 v es.length (es.flatMap Ent.cells)) : UnpPost s w (.returned (.tuple #[v, .nilIface])) w' := by
  unfold UnpPost; rw [h]; exact ⟨_, rfl, k⟩

def encK (e : Ent) : Int := if e.ok then 0 else e.err
def encB (e : Ent) : ByteArray := if e.ok then e.bytes else ⟨#[]⟩
theorem encK_zero {e : Ent} : encK e = 0 ↔ e.ok := by
  unfold encK
  by_cases h : e.ok
  · simp [h]
  · simp [h, e.err_ne]
def packR (es : List Ent) : ByteArray := if entsErr es = 0 then packB es es.length else ⟨#[]⟩
theorem entsErr_zero {es : List Ent} : entsErr es = 0 ↔ entsOk es :=
  ⟨fun h => Classical.byContradiction fun hk => entsErr_bad hk h, entsErr_ok⟩
end Go.Proofs.YtnphbkjkeipmmaaGreatDoor
