/- lsm: Get. -/
import Derived.Test.YtblojobgchkipaaLsm9
namespace Go.Proofs.Ytblojobgchkipaa
open Go.RowKit Go.WideShapes
set_option linter.unusedVariables false
attribute [local go_sem ↓] Go.wp_at_zero Go.wp_at_succ

def oV (o : Option ByteArray) : ByteArray := match o with | some v => v | none => ⟨#[]⟩
def oK (o : Option ByteArray) : Int := match o with | some _ => 0 | none => 5
theorem look_cat (a b : List (List Pr)) (key : ByteArray) : lookLs (a ++ b) key = (lookLs a key).or (lookLs b key) := by
  induction a with
  | nil => rfl
  | cons l a ih =>
    show (getE l key).or (lookLs (a ++ b) key) = ((getE l key).or (lookLs a key)).or (lookLs b key)
    rw [ih, Option.or_assoc]
/-- what the loop knows: found in what is young, or in the first i levels, or in none -/
def LookI (Y : List Pr) (T : List (List Pr)) (key : ByteArray) (i : Nat) (hb : Bool) (q : Pr) : Prop := lookLs (Y :: T.take i) key = if hb = true then some q else none
theorem look_first (Y : List Pr) (T : List (List Pr)) (key : ByteArray) : LookI Y T key 0 (hasB Y key) (pairV Y key) := by
  show (getE Y key).or none = _
  rw [Option.or_none]
  unfold pairV
  cases hb : hasB Y key with
  | true =>
    obtain ⟨q, hq, hk⟩ := has_get hb
    have hg : getE Y key = some q := by unfold getE; rw [if_pos hb, hq]
    rw [hg]; rfl
  | false =>
    unfold getE
    rw [if_neg (by rw [hb]; decide)]; rfl
theorem look_next {Y : List Pr} {T : List (List Pr)} {key : ByteArray} {i : Nat} {q : Pr} {es : List Pr} (h : LookI Y T key i false q) (ht : T[i]? = some es) : LookI Y T key (i + 1) (hasB es key) (pairV es key) := by
  obtain ⟨h1, h2⟩ := List.getElem?_eq_some_iff.1 ht
  unfold LookI at h ⊢
  rw [List.take_succ_eq_append_getElem h1, h2, ← List.cons_append, look_cat, h]
  have := look_first es [] key
  unfold LookI at this
  rw [List.take_nil] at this
  rw [← this]
  rfl
theorem look_found {Y : List Pr} {T : List (List Pr)} {key : ByteArray} {i : Nat} {q : Pr} (h : LookI Y T key i true q) : seeL Y T key = vis (some q) := by
  unfold seeL
  rw [← List.take_append_drop i T, ← List.cons_append, look_cat, show lookLs (Y :: T.take i) key = some q from h]
  rfl
theorem look_none {Y : List Pr} {T : List (List Pr)} {key : ByteArray} {i : Nat} {q : Pr} (h : LookI Y T key i false q) (hi : T.length ≤ i) : seeL Y T key = none := by
  unfold LookI at h
  rw [List.take_of_length_le hi] at h
  unfold seeL
  rw [h]
  rfl
theorem tgk_ok (es : List Pr) (key : ByteArray) : isOk (tgK es key) = hasB es key := by
  unfold tgK
  cases hasB es key <;> rfl

set_option maxRecDepth 100000 in
set_option maxHeartbeats 2000000 in
theorem LGet_any (F : Nat → Prop) (x : Nat) (lim : Int) (Y : List Pr) (T : List (List Pr)) (key : ByteArray) (w : World) (h : LM w F x lim Y T) :
    Calls Try.prog 29 #[.pointer (some ⟨x, 0, none⟩), .string key] w fun e w' => e = .returned (.tuple #[.string (oV (seeL Y T key)), errR (oK (seeL Y T key))]) ∧ Ext w w' := by
  obtain ⟨hE, hN, hG⟩ := errR_rules
  obtain ⟨sb, sv, lv, ts, hL, hT, -⟩ := h
  obtain ⟨n, hn⟩ : ∃ n, ts.length = n := ⟨_, rfl⟩
  have hn8 : n ≤ 8 := by rw [← hn]; exact hL.len
  have ow := hL.own
  rw [hn] at ow
  obtain ⟨A, c, rfl, hc, hr, -⟩ := own_rd ow
  have hnc := hr.2.1
  have hxl := hL.bk.lt
  have c1 : w.cell? ⟨x, 1, none⟩ = some (.pointer (some ⟨sb, 0, none⟩)) := hL.bk.cell 1
  have HN := Lib.hid hn
  have HL := Lib.hid hL
  have HT := Lib.hid hT
  have HC := Lib.hid (SPair_any 0 sb sv Y key w hL.st)
  obtain ⟨o, ho⟩ : ∃ o, seeL Y T key = o := ⟨_, rfl⟩
  have HO := Lib.hid ho
  have HF := Lib.hid (look_first Y T key)
  rw [ho]
  obtain ⟨ov, hov⟩ : ∃ v, oV o = v := ⟨_, rfl⟩
  obtain ⟨ok, hok⟩ : ∃ v, oK o = v := ⟨_, rfl⟩
  rw [hov, hok]
  have HOV := Lib.hid hov
  have HOK := Lib.hid hok
  clear ow hn hL hT ho hov hok
  unfold maxLen at hc
  generalize hasB Y key = hb0 at *
  generalize pairV Y key = p0 at *
  obtain ⟨pk, pv, pg⟩ := p0
  go_enter Try.func29, Try.ntmps29
  go_wp2_with fail
  refine HC.out.mono ?_
  rintro _ w1 ⟨rfl, hb1⟩
  have B2 := Bk.at_ w1 28 #[.string pk, .string pv, .bool pg] w1.heap.size rfl
  have e2 : Ext w (w1.alloc (.cells #[.string pk, .string pv, .bool pg] 28)) := hb1.alloc _
  clear c1 HC
  go_upto_region 2 with (fail)
  generalize w1.alloc (.cells #[.string pk, .string pv, .bool pg] 28) = W2 at *
  obtain ⟨pb, hpb⟩ : ∃ pb, w1.heap.size = pb := ⟨_, rfl⟩
  have hpw : w.heap.size ≤ pb := by rw [← hpb]; exact hb1.size
  rw [hpb] at B2 ⊢
  have HB2 := Lib.hid B2
  clear hpb B2 hb1
  go_wp2_with fail
  go_loopw [7, 8, 9, 10] (fun hv y _ _ wr => ∃ (i : Nat) (hb : Bool) (q : Pr), hv = .bool hb ∧ y = .int .i64 i ∧ i ≤ n ∧ Ext w wr ∧ Hid (Bk wr pb 28 #[.string q.key, .string q.value, .bool q.gone]) ∧ Hid (LookI Y T key i hb q)) (fun _ y _ _ _ => n - (intOf y).toNat)
  case atStart => exact ⟨0, hb0, ⟨pk, pv, pg⟩, rfl, rfl, Nat.zero_le _, e2, HB2, HF⟩
  case round =>
    obtain ⟨i, hb, q, rfl, rfl, hi, hbw, hbk, hlk⟩ := hrel
    have x2 : wr.cell? ⟨x, 2, none⟩ = some (.slice A n c) := (HL.out.bk.ext hbw).cell 2
    obtain ⟨qk, qv, qg⟩ := q
    cases hb with
    | true =>
      have hq2 : wr.cell? ⟨pb, 2, none⟩ = some (.bool qg) := hbk.out.cell 2
      have hq1 : wr.cell? ⟨pb, 1, none⟩ = some (.string qv) := hbk.out.cell 1
      have hs := look_found hlk.out
      rw [HO.out] at hs
      cases qg with
      | true =>
        have hv1 : ov = ⟨#[]⟩ := by rw [← HOV.out, hs]; rfl
        have hv2 : ok = 5 := by rw [← HOK.out, hs]; rfl
        subst hv1 hv2
        clear hs
        by_cases hci : (i : Int) < (n : Int)
        all_goals
          go_wp2_with fail
          go_ret2
          exact ⟨rfl, hbw⟩
      | false =>
        have hv1 : ov = qv := by rw [← HOV.out, hs]; rfl
        have hv2 : ok = 0 := by rw [← HOK.out, hs]; rfl
        subst hv1 hv2
        clear hs
        by_cases hci : (i : Int) < (n : Int)
        all_goals
          go_wp2_with fail
          go_ret2
          exact ⟨by rw [errR_0]; rfl, hbw⟩
    | false =>
      by_cases hci : i < n
      · have hcI : (i : Int) < (n : Int) := by omega
        obtain ⟨t, ht⟩ : ∃ t, ts[i]? = some t := ⟨_, List.getElem?_eq_getElem (by rw [HN.out]; exact hci)⟩
        obtain ⟨ad, rfl, hb, y0, y1⟩ := (hr.ext hbw).getT ht
        have hTT : T[i]? = some t.es := by rw [← HT.out, List.getElem?_map, ht]; rfl
        have HLN := Lib.hid (look_next hlk.out hTT)
        have HTC := Lib.hid (TGet_any 0 t.blk t.row t.es key wr ((HL.out.tab t (List.mem_of_getElem? ht)).ext hbw))
        have hto := tgk_ok t.es key
        obtain ⟨tb, tv, te⟩ := t
        simp only at y0 y1 HLN HTC hto
        generalize pairV te key = q1 at *
        generalize tgK te key = k1 at *
        generalize hasB te key = hb1 at *
        obtain ⟨rk, rv, rg⟩ := q1
        clear ht hTT hlk y0
        go_wp2_with fail
        refine HTC.out.mono ?_
        rintro _ w5 ⟨rfl, hb5⟩
        have B6 := Bk.at_ w5 28 #[.string rk, .string rv, .bool rg] w5.heap.size rfl
        have e6 : Ext w5 (w5.alloc (.cells #[.string rk, .string rv, .bool rg] 28)) := (Ext.refl _).alloc _
        have P6 := (hbk.out.ext hb5).ext e6
        have e6w := (hbw.trans hb5).trans e6
        go_upto_region 6 with (fail)
        generalize w5.alloc (.cells #[.string rk, .string rv, .bool rg] 28) = W6 at *
        have r0 : W6.cell? ⟨w5.heap.size, 0, none⟩ = some (.string rk) := B6.cell 0
        have r1 : W6.cell? ⟨w5.heap.size, 1, none⟩ = some (.string rv) := B6.cell 1
        have r2 : W6.cell? ⟨w5.heap.size, 2, none⟩ = some (.bool rg) := B6.cell 2
        have p0 : W6.cell? ⟨pb, 0, none⟩ = some (.string qk) := P6.cell 0
        have p1 : W6.cell? ⟨pb, 1, none⟩ = some (.string qv) := P6.cell 1
        have p2 : W6.cell? ⟨pb, 2, none⟩ = some (.bool qg) := P6.cell 2
        have f0 := P6.frozen 0
        have f1 := P6.frozen 1
        have f2 := P6.frozen 2
        have hne : pb ≠ w5.heap.size := by have := (hbk.out.ext hb5).lt; omega
        have HP6 := Lib.hid P6
        clear P6 B6 y1 x2
        go_region
        all_goals
          go_wp2_with fail
          go_roundw
          case rel => exact ⟨i + 1, hb1, ⟨rk, rv, rg⟩, by rw [← hto], by go_num, by omega, by
            exact ((e6w.setCell (p := ⟨pb, 0, none⟩) hpw (.string rk)).setCell (p := ⟨pb, 1, none⟩) hpw (.string rv)).setCell (p := ⟨pb, 2, none⟩) hpw (.bool rg) |>.drew, ((((HP6.out.set_ 0 (.string rk)).set_ 1 (.string rv)).set_ 2 (.bool rg)).drew), HLN⟩
          case measure => simp [intOf]; omega
      · have hcI : ¬ (i : Int) < (n : Int) := by omega
        have hs := look_none hlk.out (by rw [← HT.out, List.length_map, HN.out]; omega)
        rw [HO.out] at hs
        have hv1 : ov = ⟨#[]⟩ := by rw [← HOV.out, hs]; rfl
        have hv2 : ok = 5 := by rw [← HOK.out, hs]; rfl
        subst hv1 hv2
        clear hs
        go_wp2_with fail
        go_ret2
        exact ⟨rfl, hbw⟩
end Go.Proofs.Ytblojobgchkipaa
