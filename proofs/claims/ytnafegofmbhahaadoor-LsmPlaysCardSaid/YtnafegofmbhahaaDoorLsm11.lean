/- lsm: do, Put, Drop. -/
import Derived.Test.YtnafegofmbhahaaDoorLsm8
import Derived.Laws.AppendOwnNone
namespace Go.Proofs.YtnafegofmbhahaaDoor
open Go.RowKit Go.WideShapes
set_option linter.unusedVariables false
attribute [local go_sem ↓] Go.wp_at_zero Go.wp_at_succ

set_option maxRecDepth 100000 in
set_option maxHeartbeats 2000000 in
theorem ldo_any (F : Nat → Prop) (x lim : Nat) (Y : List Pr) (T : List (List Pr)) (p : Pr) (w : World) (h : LM w F x lim Y T) (htot : totL T ≤ 1000) (hlim : 1 ≤ lim) (hp : p.gone = true → p.value.size = 0) :
    Calls Tryd.prog 88 #[.pointer (some ⟨x, 0, none⟩), p.val] w fun e w' => e = .returned (errR (putK Y p)) ∧ ∃ F', LOp w w' F x lim (doY lim Y p) (doT lim Y T p) F' := by
  obtain ⟨hE, hN, hG⟩ := errR_rules
  obtain ⟨pk, pv, pg⟩ := p
  have B1 := Bk.at_ w 25 #[.string pk, .string pv, .bool pg] w.heap.size rfl
  have e1 : Ext w (w.alloc (.cells #[.string pk, .string pv, .bool pg] 25)) := (Ext.refl _).alloc _
  have h1 := h.ext e1
  have HPC := Lib.hid (lput_any F x lim Y T ⟨pk, pv, pg⟩ _ h1 hp)
  have HOP0 := Lib.hid (h.op e1)
  obtain ⟨k, hk⟩ : ∃ k, putK Y ⟨pk, pv, pg⟩ = k := ⟨_, rfl⟩
  have HK := Lib.hid hk
  rw [hk] at HPC ⊢
  have HTOT := Lib.hid htot
  clear hk h h1 hp htot
  go_enter Tryd.func88, Tryd.ntmps88
  go_wp2_with fail
  refine HPC.out.mono ?_
  rintro _ w1 ⟨rfl, F1, hop⟩
  have HOP := Lib.hid (HOP0.out.trans hop)
  clear hop HPC B1
  by_cases hk0 : k = 0
  · subst hk0
    rw [errR_0]
    obtain ⟨S, hS⟩ : ∃ S, storeL Y ⟨pk, pv, pg⟩ = S := ⟨_, rfl⟩
    have HS := Lib.hid hS
    have hop := HOP.out
    rw [hS] at hop
    have HOP := Lib.hid hop
    obtain ⟨sb, sv, lv, ts, hL, -, -⟩ := hop.at_
    have c0 : ∀ x_1 : WE w1, x_1.W.cell? ⟨x, 0, none⟩ = some (.int .i64 (lim : Int)) := fun x_1 => (hL.ext x_1.h).bk.cell 0
    have c1 : ∀ x_1 : WE w1, x_1.W.cell? ⟨x, 1, none⟩ = some (.pointer (some ⟨sb, 0, none⟩)) := fun x_1 => (hL.ext x_1.h).bk.cell 1
    have HSL := Lib.hid fun x_1 : WE w1 => SLen_any 0 sb sv S x_1.W (hL.ext x_1.h).st
    have HFL := Lib.hid fun W (e : Ext w1 W) => LFlush_any F1 x lim S T W (hop.at_.ext e) HTOT.out
    clear hS hop hL
    obtain ⟨n, hn⟩ : ∃ n, S.length = n := ⟨_, rfl⟩
    rw [hn] at HSL
    have HN := Lib.hid hn
    clear hn
    go_upto_region 4 with (fail)
    (refine wp_region_ext (w0 := w1) (by kernel_rfl) (by kernel_rfl) (by (repeat (with_reducible first | exact Ext.refl _ | assumption | refine Ext.drew ?_ | refine Ext.drewN ?_ _ | refine Ext.alloc ?_ _ | refine Ext.trans ?_ (by with_reducible assumption)))) ?_; (repeat (go_big_quiet_step ((go_at_call 40; exact quietS (HSL.out _))))); refine wpQuiet_nil ?_)
    intro w2 hb2
    clear c0 c1
    by_cases hc : lim ≤ n
    · have hci : (lim : Int) ≤ (n : Int) := by omega
      have hfk : flK S = 0 := if_neg (by rw [HN.out]; omega)
      have hY : doY lim Y ⟨pk, pv, pg⟩ = flY S := by unfold doY flY; rw [if_pos ⟨HK.out, by rw [HS.out, HN.out]; exact hc⟩]
      have hT : doT lim Y T ⟨pk, pv, pg⟩ = flT S T := by
        rw [flT_cons (by rw [HN.out]; omega)]
        unfold doT
        rw [if_pos ⟨HK.out, by rw [HS.out, HN.out]; exact hc⟩, HS.out]
      have HY := Lib.hid hY
      have HT := Lib.hid hT
      have HC := Lib.hid (HFL.out w2 hb2)
      rw [hfk, errR_0] at HC
      clear hY hT hfk hc
      go_wp2_with fail
      refine HC.out.mono ?_
      rintro _ w3 ⟨rfl, F3, hop3⟩
      have HO3 := Lib.hid hop3
      clear hop3
      go_wp2_with fail
      go_ret
      exact ⟨rfl, F3, by rw [HY.out, HT.out]; exact (HOP.out.trans (HOP.out.at_.op hb2)).trans HO3.out⟩
    · have hci : ¬ (lim : Int) ≤ (n : Int) := by omega
      have hY : doY lim Y ⟨pk, pv, pg⟩ = S := by unfold doY; rw [if_neg (fun h => hc (by rw [← HN.out, ← HS.out]; exact h.2)), HS.out]
      have hT : doT lim Y T ⟨pk, pv, pg⟩ = T := by unfold doT; rw [if_neg (fun h => hc (by rw [← HN.out, ← HS.out]; exact h.2))]
      have HY := Lib.hid hY
      have HT := Lib.hid hT
      clear hY hT hc
      go_wp2_with fail
      go_ret
      exact ⟨rfl, F1, by rw [HY.out, HT.out]; exact HOP.out.trans (HOP.out.at_.op hb2)⟩
  · have hok := isOk_no hk0
    have hb := do_bad (lim := lim) (T := T) (p := ⟨pk, pv, pg⟩) (by rw [HK.out]; exact hk0)
    have hs : storeL Y ⟨pk, pv, pg⟩ = Y := store_bad (by rw [HK.out]; exact hk0)
    have HB := Lib.hid hb
    have HS := Lib.hid hs
    clear hb hs hk0
    go_wp2_with fail
    go_ret
    refine ⟨rfl, F1, ?_⟩
    rw [HB.out.1, HB.out.2]
    have h1 := HOP.out
    rw [HS.out] at h1
    exact h1

set_option maxRecDepth 100000 in
theorem LPut_any (F : Nat → Prop) (x lim : Nat) (Y : List Pr) (T : List (List Pr)) (key value : ByteArray) (w : World) (h : LM w F x lim Y T) (htot : totL T ≤ 1000) (hlim : 1 ≤ lim) :
    Calls Tryd.prog 48 #[.pointer (some ⟨x, 0, none⟩), .string key, .string value] w fun e w' => e = .returned (errR (putK Y ⟨key, value, false⟩)) ∧ ∃ F', LOp w w' F x lim (doY lim Y ⟨key, value, false⟩) (doT lim Y T ⟨key, value, false⟩) F' := by
  have HC := Lib.hid (ldo_any F x lim Y T ⟨key, value, false⟩ w h htot hlim (fun e => by cases e))
  clear h
  go_enter Tryd.func48, Tryd.ntmps48
  go_wp2_with fail
  refine HC.out.mono ?_
  rintro _ w1 ⟨rfl, hh⟩
  have HH := Lib.hid hh
  clear hh
  go_wp2_with fail
  go_ret
  exact ⟨rfl, HH.out⟩
set_option maxRecDepth 100000 in
theorem LDrop_any (F : Nat → Prop) (x lim : Nat) (Y : List Pr) (T : List (List Pr)) (key : ByteArray) (w : World) (h : LM w F x lim Y T) (htot : totL T ≤ 1000) (hlim : 1 ≤ lim) :
    Calls Tryd.prog 54 #[.pointer (some ⟨x, 0, none⟩), .string key] w fun e w' => e = .returned (errR (putK Y ⟨key, ⟨#[]⟩, true⟩)) ∧ ∃ F', LOp w w' F x lim (doY lim Y ⟨key, ⟨#[]⟩, true⟩) (doT lim Y T ⟨key, ⟨#[]⟩, true⟩) F' := by
  have HC := Lib.hid (ldo_any F x lim Y T ⟨key, ⟨#[]⟩, true⟩ w h htot hlim (fun e => rfl))
  clear h
  go_enter Tryd.func54, Tryd.ntmps54
  go_wp2_with fail
  refine HC.out.mono ?_
  rintro _ w1 ⟨rfl, hh⟩
  have HH := Lib.hid hh
  clear hh
  go_wp2_with fail
  go_ret
  exact ⟨rfl, HH.out⟩
end Go.Proofs.YtnafegofmbhahaaDoor

/- lsm: Get. -/
namespace Go.Proofs.YtnafegofmbhahaaDoor
open Go.RowKit Go.WideShapes
set_option linter.unusedVariables false
attribute [local go_sem ↓] Go.wp_at_zero Go.wp_at_succ

def oV (o : Option ByteArray) : ByteArray := match o with | some v => v | none => ⟨#[]⟩
def oK (o : Option ByteArray) : Int := match o with | some _ => 0 | none => 5
theorem look_cat (a b : List (List Pr)) (key : ByteArray) : lookLs (a ++ b) key = (lookLs a key).or (lookLs b key) := by
  induction a with
  | nil => rfl
  | cons l a ih =>
    show (getE l key).or (lookLs (a ++ b) key) = ((getE l key).or (lookLs a key)).or (lookLs b key)
    rw [ih, Option.or_assoc]
/-- what the loop knows: found in what is young, or in the first i levels, or in none -/
def LookI (Y : List Pr) (T : List (List Pr)) (key : ByteArray) (i : Nat) (hb : Bool) (q : Pr) : Prop := lookLs (Y :: T.take i) key = if hb = true then some q else none
theorem look_first (Y : List Pr) (T : List (List Pr)) (key : ByteArray) : LookI Y T key 0 (hasB Y key) (pairV Y key) := by
  show (getE Y key).or none = _
  rw [Option.or_none]
  unfold pairV
  cases hb : hasB Y key with
  | true =>
    obtain ⟨q, hq, hk⟩ := has_get hb
    have hg : getE Y key = some q := by unfold getE; rw [if_pos hb, hq]
    rw [hg]; rfl
  | false =>
    unfold getE
    rw [if_neg (by rw [hb]; decide)]; rfl
theorem look_next {Y : List Pr} {T : List (List Pr)} {key : ByteArray} {i : Nat} {q : Pr} {es : List Pr} (h : LookI Y T key i false q) (ht : T[i]? = some es) : LookI Y T key (i + 1) (hasB es key) (pairV es key) := by
  obtain ⟨h1, h2⟩ := List.getElem?_eq_some_iff.1 ht
  unfold LookI at h ⊢
  rw [List.take_succ_eq_append_getElem h1, h2, ← List.cons_append, look_cat, h]
  have := look_first es [] key
  unfold LookI at this
  rw [List.take_nil] at this
  rw [← this]
  rfl
theorem look_found {Y : List Pr} {T : List (List Pr)} {key : ByteArray} {i : Nat} {q : Pr} (h : LookI Y T key i true q) : seeL Y T key = vis (some q) := by
  unfold seeL
  rw [← List.take_append_drop i T, ← List.cons_append, look_cat, show lookLs (Y :: T.take i) key = some q from h]
  rfl
theorem look_none {Y : List Pr} {T : List (List Pr)} {key : ByteArray} {i : Nat} {q : Pr} (h : LookI Y T key i false q) (hi : T.length ≤ i) : seeL Y T key = none := by
  unfold LookI at h
  rw [List.take_of_length_le hi] at h
  unfold seeL
  rw [h]
  rfl
theorem tgk_ok (es : List Pr) (key : ByteArray) : isOk (tgK es key) = hasB es key := by
  unfold tgK
  cases hasB es key <;> rfl

set_option maxRecDepth 100000 in
set_option maxHeartbeats 2000000 in
theorem LGet_any (F : Nat → Prop) (x : Nat) (lim : Int) (Y : List Pr) (T : List (List Pr)) (key : ByteArray) (w : World) (h : LM w F x lim Y T) :
    Calls Tryd.prog 59 #[.pointer (some ⟨x, 0, none⟩), .string key] w fun e w' => e = .returned (.tuple #[.string (oV (seeL Y T key)), errR (oK (seeL Y T key))]) ∧ Ext w w' := by
  obtain ⟨hE, hN, hG⟩ := errR_rules
  obtain ⟨sb, sv, lv, ts, hL, hT, -⟩ := h
  obtain ⟨n, hn⟩ : ∃ n, ts.length = n := ⟨_, rfl⟩
  have hn8 : n ≤ 8 := by rw [← hn]; exact hL.len
  have ow := hL.own
  rw [hn] at ow
  obtain ⟨A, c, rfl, hc, hr, -⟩ := own_rd ow
  have hnc := hr.2.1
  have hxl := hL.bk.lt
  have c1 : w.cell? ⟨x, 1, none⟩ = some (.pointer (some ⟨sb, 0, none⟩)) := hL.bk.cell 1
  have HN := Lib.hid hn
  have HL := Lib.hid hL
  have HT := Lib.hid hT
  have HC := Lib.hid (SPair_any 0 sb sv Y key w hL.st)
  obtain ⟨o, ho⟩ : ∃ o, seeL Y T key = o := ⟨_, rfl⟩
  have HO := Lib.hid ho
  have HF := Lib.hid (look_first Y T key)
  rw [ho]
  obtain ⟨ov, hov⟩ : ∃ v, oV o = v := ⟨_, rfl⟩
  obtain ⟨ok, hok⟩ : ∃ v, oK o = v := ⟨_, rfl⟩
  rw [hov, hok]
  have HOV := Lib.hid hov
  have HOK := Lib.hid hok
  clear ow hn hL hT ho hov hok
  unfold maxLen at hc
  generalize hasB Y key = hb0 at *
  generalize pairV Y key = p0 at *
  obtain ⟨pk, pv, pg⟩ := p0
  go_enter Tryd.func59, Tryd.ntmps59
  go_wp2_with fail
  refine HC.out.mono ?_
  rintro _ w1 ⟨rfl, hb1⟩
  have B2 := Bk.at_ w1 25 #[.string pk, .string pv, .bool pg] w1.heap.size rfl
  have e2 : Ext w (w1.alloc (.cells #[.string pk, .string pv, .bool pg] 25)) := hb1.alloc _
  clear c1 HC
  go_upto_region 2 with (fail)
  generalize w1.alloc (.cells #[.string pk, .string pv, .bool pg] 25) = W2 at *
  obtain ⟨pb, hpb⟩ : ∃ pb, w1.heap.size = pb := ⟨_, rfl⟩
  have hpw : w.heap.size ≤ pb := by rw [← hpb]; exact hb1.size
  rw [hpb] at B2 ⊢
  have HB2 := Lib.hid B2
  clear hpb B2 hb1
  go_wp2_with fail
  go_loopw [7, 8, 9, 10] (fun hv y _ _ wr => ∃ (i : Nat) (hb : Bool) (q : Pr), hv = .bool hb ∧ y = .int .i64 i ∧ i ≤ n ∧ Ext w wr ∧ Hid (Bk wr pb 25 #[.string q.key, .string q.value, .bool q.gone]) ∧ Hid (LookI Y T key i hb q)) (fun _ y _ _ _ => n - (intOf y).toNat)
  case atStart => exact ⟨0, hb0, ⟨pk, pv, pg⟩, rfl, rfl, Nat.zero_le _, e2, HB2, HF⟩
  case round =>
    obtain ⟨i, hb, q, rfl, rfl, hi, hbw, hbk, hlk⟩ := hrel
    have x2 : wr.cell? ⟨x, 2, none⟩ = some (.slice A n c) := (HL.out.bk.ext hbw).cell 2
    obtain ⟨qk, qv, qg⟩ := q
    cases hb with
    | true =>
      have hq2 : wr.cell? ⟨pb, 2, none⟩ = some (.bool qg) := hbk.out.cell 2
      have hq1 : wr.cell? ⟨pb, 1, none⟩ = some (.string qv) := hbk.out.cell 1
      have hs := look_found hlk.out
      rw [HO.out] at hs
      cases qg with
      | true =>
        have hv1 : ov = ⟨#[]⟩ := by rw [← HOV.out, hs]; rfl
        have hv2 : ok = 5 := by rw [← HOK.out, hs]; rfl
        subst hv1 hv2
        clear hs
        by_cases hci : (i : Int) < (n : Int)
        all_goals
          go_wp2_with fail
          go_ret2
          exact ⟨rfl, hbw⟩
      | false =>
        have hv1 : ov = qv := by rw [← HOV.out, hs]; rfl
        have hv2 : ok = 0 := by rw [← HOK.out, hs]; rfl
        subst hv1 hv2
        clear hs
        by_cases hci : (i : Int) < (n : Int)
        all_goals
          go_wp2_with fail
          go_ret2
          exact ⟨by rw [errR_0]; rfl, hbw⟩
    | false =>
      by_cases hci : i < n
      · have hcI : (i : Int) < (n : Int) := by omega
        obtain ⟨t, ht⟩ : ∃ t, ts[i]? = some t := ⟨_, List.getElem?_eq_getElem (by rw [HN.out]; exact hci)⟩
        obtain ⟨ad, rfl, hb, y0, y1⟩ := (hr.ext hbw).getT ht
        have hTT : T[i]? = some t.es := by rw [← HT.out, List.getElem?_map, ht]; rfl
        have HLN := Lib.hid (look_next hlk.out hTT)
        have HTC := Lib.hid (TGet_any 0 t.blk t.row t.es key wr ((HL.out.tab t (List.mem_of_getElem? ht)).ext hbw))
        have hto := tgk_ok t.es key
        obtain ⟨tb, tv, te⟩ := t
        simp only at y0 y1 HLN HTC hto
        generalize pairV te key = q1 at *
        generalize tgK te key = k1 at *
        generalize hasB te key = hb1 at *
        obtain ⟨rk, rv, rg⟩ := q1
        clear ht hTT hlk y0
        go_wp2_with fail
        refine HTC.out.mono ?_
        rintro _ w5 ⟨rfl, hb5⟩
        have B6 := Bk.at_ w5 25 #[.string rk, .string rv, .bool rg] w5.heap.size rfl
        have e6 : Ext w5 (w5.alloc (.cells #[.string rk, .string rv, .bool rg] 25)) := (Ext.refl _).alloc _
        have P6 := (hbk.out.ext hb5).ext e6
        have e6w := (hbw.trans hb5).trans e6
        go_upto_region 6 with (fail)
        generalize w5.alloc (.cells #[.string rk, .string rv, .bool rg] 25) = W6 at *
        have r0 : W6.cell? ⟨w5.heap.size, 0, none⟩ = some (.string rk) := B6.cell 0
        have r1 : W6.cell? ⟨w5.heap.size, 1, none⟩ = some (.string rv) := B6.cell 1
        have r2 : W6.cell? ⟨w5.heap.size, 2, none⟩ = some (.bool rg) := B6.cell 2
        have p0 : W6.cell? ⟨pb, 0, none⟩ = some (.string qk) := P6.cell 0
        have p1 : W6.cell? ⟨pb, 1, none⟩ = some (.string qv) := P6.cell 1
        have p2 : W6.cell? ⟨pb, 2, none⟩ = some (.bool qg) := P6.cell 2
        have f0 := P6.frozen 0
        have f1 := P6.frozen 1
        have f2 := P6.frozen 2
        have hne : pb ≠ w5.heap.size := by have := (hbk.out.ext hb5).lt; omega
        have HP6 := Lib.hid P6
        clear P6 B6 y1 x2
        go_region
        all_goals
          go_wp2_with fail
          go_roundw
          case rel => exact ⟨i + 1, hb1, ⟨rk, rv, rg⟩, by rw [← hto], by go_num, by omega, by
            exact ((e6w.setCell (p := ⟨pb, 0, none⟩) hpw (.string rk)).setCell (p := ⟨pb, 1, none⟩) hpw (.string rv)).setCell (p := ⟨pb, 2, none⟩) hpw (.bool rg) |>.drew, ((((HP6.out.set_ 0 (.string rk)).set_ 1 (.string rv)).set_ 2 (.bool rg)).drew), HLN⟩
          case measure => simp [intOf]; omega
      · have hcI : ¬ (i : Int) < (n : Int) := by omega
        have hs := look_none hlk.out (by rw [← HT.out, List.length_map, HN.out]; omega)
        rw [HO.out] at hs
        have hv1 : ov = ⟨#[]⟩ := by rw [← HOV.out, hs]; rfl
        have hv2 : ok = 5 := by rw [← HOK.out, hs]; rfl
        subst hv1 hv2
        clear hs
        go_wp2_with fail
        go_ret2
        exact ⟨rfl, hbw⟩
end Go.Proofs.YtnafegofmbhahaaDoor

/- lsm: All, Tables. -/
namespace Go.Proofs.YtnafegofmbhahaaDoor
open Go.RowKit Go.WideShapes
set_option linter.unusedVariables false
attribute [local go_sem ↓] Go.wp_at_zero Go.wp_at_succ

theorem info_strT : (Tryd.prog.info? 9).map (fun i => (i.zero, i.size, i.bytes)) = some (some (.string ⟨#[]⟩), 1, 16) := by kernel_rfl
theorem own_row1 (w : World) (v : Value) (hv : v.oneCell' = true) : (w.alloc (.cells #[v] 22)).ownsRow w.heap.size 22 1 (.slice (some ⟨w.heap.size, 0, none⟩) 1 1) 1 [v] :=
  ⟨rfl, .inr ⟨w.heap.size, 1, #[v], rfl, Nat.le_refl _, Bk.at_ w _ _ w.heap.size rfl, Nat.le_refl _, by unfold maxLen; omega, rfl, rfl⟩⟩
theorem OwLs.cons {w : World} {vs : List Value} {T : List (List Pr)} (h : OwLs w vs T) {v : Value} {es : List Pr} {n : Nat} (hr : w.ownsRow 0 25 3 v n (es.flatMap Pr.cells)) (hn : es.length = n) : OwLs w (v :: vs) (es :: T) := by
  subst hn
  refine ⟨by rw [List.length_cons, List.length_cons, h.1], fun i u fs hv hT => ?_⟩
  cases i with
  | zero =>
    obtain rfl : v = u := by simpa using hv
    obtain rfl : es = fs := by simpa using hT
    exact hr
  | succ i => exact h.2 i u fs (by simpa using hv) (by simpa using hT)

set_option maxRecDepth 100000 in
set_option maxHeartbeats 2000000 in
theorem LAll_any (F : Nat → Prop) (x : Nat) (lim : Int) (Y : List Pr) (T : List (List Pr)) (w : World) (h : LM w F x lim Y T) (htot : totL (Y :: T) ≤ 1000) :
    Calls Tryd.prog 53 #[.pointer (some ⟨x, 0, none⟩)] w fun e w' => (∃ v', e = .returned v' ∧ w'.ownsRow w.heap.size 25 3 v' (liveL (Y :: T)).length ((liveL (Y :: T)).flatMap Pr.cells)) ∧ Ext w w' := by
  have HM := Lib.hid h
  have HTOT := Lib.hid htot
  have hT8 := h.many.2.1
  obtain ⟨sb, sv, lv, ts, hL, -, -⟩ := h
  have c1 : w.cell? ⟨x, 1, none⟩ = some (.pointer (some ⟨sb, 0, none⟩)) := hL.bk.cell 1
  have hc := SAll_any 0 sb sv Y w hL.st
  obtain ⟨yl, hyl⟩ : ∃ n, Y.length = n := ⟨_, rfl⟩
  rw [hyl] at hc
  have HYL := Lib.hid hyl
  have HC := Lib.hid hc
  clear hL htot hyl hc
  go_enter Tryd.func53, Tryd.ntmps53
  go_wp2_with fail
  refine HC.out.mono ?_
  rintro _ w1 ⟨⟨v1, rfl, o1⟩, hb1⟩
  obtain ⟨A1, c1', rfl, -, -, -⟩ := own_rd o1
  have e2 : Ext w1 (w1.alloc (.cells #[.slice A1 yl c1'] 22)) := (Ext.refl _).alloc _
  have O2 := Lib.hid (own_row1 w1 (.slice A1 yl c1') rfl)
  have HO1 := Lib.hid (own_ext (own_lower o1 (Nat.zero_le _)) e2)
  have e2w := hb1.trans e2
  have HLC := Lib.hid (lists_any F x lim Y T _ (HM.out.ext e2w))
  have hw1 := hb1.size
  clear o1 c1 HC
  go_wp2_with fail
  refine HLC.out.mono ?_
  rintro _ w3 ⟨⟨v3, vs, rfl, o3, R3⟩, hb3⟩
  have e3w := e2w.trans hb3
  have O3 := Lib.hid (own_ext O2.out hb3)
  have HO3 := Lib.hid (own_ext HO1.out hb3)
  have HR3 := Lib.hid R3
  obtain ⟨n, hn⟩ : ∃ n, T.length = n := ⟨_, rfl⟩
  rw [hn] at o3 hT8
  have HN := Lib.hid hn
  have HO33 := Lib.hid o3
  obtain ⟨A3, c3, hv3', hc3, hr3, hnil⟩ := own_rd o3
  have hlen : vs.length = n := by have := hr3.1; omega
  have hfin : ∀ (v9 : Value) (w9 : World), w9.ownsRow w1.heap.size 22 1 v9 (1 + n) ([.slice A1 yl c1'] ++ vs) → w3.grownBy w9 (Value.slice (some ⟨w1.heap.size, 0, none⟩) 1 1).ownBlock →
      ∃ A9 c9, v9 = .slice A9 (1 + n) c9 ∧ Ext w w9 ∧ Calls Tryd.prog 91 #[.slice A9 (1 + n) c9] w9 fun e w' => (∃ v', e = .returned v' ∧ w'.ownsRow w.heap.size 25 3 v' (liveL (Y :: T)).length ((liveL (Y :: T)).flatMap Pr.cells)) ∧ Ext w9 w' := fun v9 w9 h9 hg9 => by
    obtain ⟨A9, c9, rfl, hc9, hr9, -⟩ := own_rd h9
    have e9 := own_grown O3.out hg9 w hw1 e3w
    have R9 := (HR3.out.cons HO3.out HYL.out).grown O3.out hg9
    refine ⟨A9, c9, rfl, e9, (live_any A9 (1 + n) c9 _ (Y :: T) w9 hr9 hc9 R9.rd HTOT.out).mono ?_⟩
    rintro e w' ⟨⟨v', he, ho⟩, hb⟩
    exact ⟨⟨v', he, own_lower ho e9.size⟩, hb⟩
  have HFIN := Lib.hid hfin
  obtain ⟨i0, hi0, hz0, hzs, hzb⟩ := info_parts info_rowP
  have hb3s : w1.heap.size ≤ w3.heap.size := (e2.trans hb3).size
  have HV3 := Lib.hid hv3'
  clear hfin hn R3 HO1 O2 HLC o3 hv3'
  cases A3 with
  | none =>
    have h0 : n = 0 := by
      rcases Nat.eq_zero_or_pos n with h | h
      · exact h
      · obtain ⟨ad', h1, _⟩ := hr3.2.2 h
        cases h1
    subst h0
    obtain rfl : c3 = 0 := by
      rcases hnil rfl with h | h
      · exact h.2
      · exact absurd rfl h
    have hx0 : vs = [] := List.eq_nil_of_length_eq_zero hlen
    obtain ⟨A9, c9, h9, E9, HC9⟩ := HFIN.out _ w3 (by rw [hx0]; exact O3.out) ((Ext.refl w3).gb _)
    injection h9 with h9a h9b h9c
    subst h9a h9c
    have HC9' := Lib.hid HC9
    clear HC9 h9b hnil hr3 hx0
    go_wp2_with (at_builtin; go_loud (refine wpList_append_own_none rfl _ _ 82 rfl w1.heap.size 22 i0 1 Tryd.underlying82 hi0 _ _ _ rfl O3.out HV3.out ?_))
    refine HC9'.out.mono ?_
    rintro _ w10 ⟨⟨v10, rfl, ho⟩, hb10⟩
    have HO := Lib.hid ho
    clear ho
    go_wp2_with fail
    go_ret
    exact ⟨⟨_, rfl, HO.out⟩, E9.trans hb10⟩
  | some ad =>
    have hcl : ∀ (j : Nat) u, vs[j]? = some u → w3.cell? (ad.add j) = some u := fun j u hj => by
      obtain ⟨ad', he, -, h3⟩ := hr3.at_ hj
      obtain rfl : ad = ad' := by injection he
      exact h3
    have h1c : ∀ u ∈ vs, u.oneCell' = true := fun u hu => by
      obtain ⟨i, hi⟩ := List.getElem?_of_mem hu
      obtain ⟨es, hes⟩ : ∃ es, T[i]? = some es := ⟨_, List.getElem?_eq_getElem (by rw [← HR3.out.1]; exact (List.getElem?_eq_some_iff.1 hi).1)⟩
      obtain ⟨A, c, rfl, _, _⟩ := HR3.out.rd.2 i u es hi hes
      rfl
    have HCL := Lib.hid hcl
    have H1C := Lib.hid h1c
    have hl1 : vs.length = n * 1 := by omega
    clear hcl h1c hnil hr3 hlen
    go_wp2_with (at_builtin; go_loud (refine wpList_append_own _ rfl _ _ 82 rfl w1.heap.size 22 i0 _ 1 24 Tryd.underlying82 hi0 hz0 hzs hzb rfl (by omega) _ _ _ rfl O3.out ad n _ vs HV3.out hl1 HCL.out H1C.out (by unfold maxLen; omega) (by omega) hb3s ?_); intro v9 w9 own9 hg9 hH9; clear hH9; obtain ⟨A9, c9, rfl, E9, HC9⟩ := HFIN.out v9 w9 own9 hg9)
    refine HC9.mono ?_
    rintro _ w10 ⟨⟨v10, rfl, ho⟩, hb10⟩
    have HO := Lib.hid ho
    clear ho
    go_wp2_with fail
    go_ret
    exact ⟨⟨_, rfl, HO.out⟩, E9.trans hb10⟩

def tabV (es : List Pr) : Value := .string (tabB es)
set_option maxRecDepth 100000 in
set_option maxHeartbeats 2000000 in
theorem LTables_any (F : Nat → Prop) (x : Nat) (lim : Int) (Y : List Pr) (T : List (List Pr)) (w : World) (h : LM w F x lim Y T) :
    Calls Tryd.prog 52 #[.pointer (some ⟨x, 0, none⟩)] w fun e w' => (∃ v, e = .returned v ∧ w'.ownsRow w.heap.size 9 1 v T.length (T.map tabV)) ∧ Ext w w' := by
  obtain ⟨sb, sv, lv, ts, hL, rfl, -⟩ := h
  obtain ⟨n, hn⟩ : ∃ n, ts.length = n := ⟨_, rfl⟩
  have hn8 : n ≤ 8 := by rw [← hn]; exact hL.len
  have ow := hL.own
  rw [hn] at ow
  obtain ⟨A, c, rfl, hc, hr, -⟩ := own_rd ow
  have hnc := hr.2.1
  have c2 : w.cell? ⟨x, 2, none⟩ = some (.slice A n c) := hL.bk.cell 2
  have HN := Lib.hid hn
  have H0 : Hid (w.ownsRow w.heap.size 9 1 (.slice none 0 0) 0 (((ts.map Tb.es).take 0).map tabV)) := own_nil _ _ _ _
  clear ow hn hL
  rw [List.length_map, HN.out]
  unfold maxLen at hc
  go_enter Tryd.func52, Tryd.ntmps52
  go_wp2_with fail
  go_loopw [2, 4, 10] (fun o _ y wr => ∃ (i : Nat), y = .int .i64 i ∧ i ≤ n ∧ Ext w wr ∧ Hid (wr.ownsRow w.heap.size 9 1 o i (((ts.map Tb.es).take i).map tabV))) (fun _ _ y _ => n - (intOf y).toNat)
  case atStart => exact ⟨0, rfl, Nat.zero_le _, Ext.refl _, H0⟩
  case round =>
    obtain ⟨i, rfl, hi, hbw, hown⟩ := hrel
    by_cases hc3 : i < n
    · obtain ⟨t, ht⟩ : ∃ t, ts[i]? = some t := ⟨_, List.getElem?_eq_getElem (by rw [HN.out]; exact hc3)⟩
      obtain ⟨ad, rfl, hb, y0, y1⟩ := (hr.ext hbw).getT ht
      have HTT : Hid (((ts.map Tb.es).take (i + 1)).map tabV = ((ts.map Tb.es).take i).map tabV ++ [.string (tabB t.es)]) := by
        show _ = _
        have h1 : (ts.map Tb.es)[i]? = some t.es := by rw [List.getElem?_map, ht]; rfl
        obtain ⟨h2, h3⟩ := List.getElem?_eq_some_iff.1 h1
        rw [List.take_succ_eq_append_getElem h2, h3, List.map_append]; rfl
      obtain ⟨tb, tv, te⟩ := t
      simp only at y0 y1 HTT
      obtain ⟨bs, HBS⟩ : ∃ b, Hid (tabB te = b) := ⟨_, rfl⟩
      rw [HBS.out] at y0 HTT
      have B3 := Bk.at_ wr 118 #[.string bs, .pointer (some ⟨tb, 0, none⟩)] wr.heap.size rfl
      have e3 : Ext wr (wr.alloc (.cells #[.string bs, .pointer (some ⟨tb, 0, none⟩)] 118)) := (Ext.refl _).alloc _
      have z0 : (wr.alloc (.cells #[.string bs, .pointer (some ⟨tb, 0, none⟩)] 118)).cell? ⟨wr.heap.size, 0, none⟩ = some (.string bs) := B3.cell 0
      have O3 := Lib.hid (own_ext hown.out e3)
      have e3w := hbw.trans e3
      clear ht hown B3
      go_upto_region 4 with (fail)
      generalize wr.alloc (.cells #[.string bs, .pointer (some ⟨tb, 0, none⟩)] 118) = W3 at *
      have e5 : Ext W3 (W3.alloc (.cells #[.string bs] 9)) := (Ext.refl _).alloc _
      have O5 := Lib.hid (own_ext O3.out e5)
      have e5w := e3w.trans e5
      have hb5 := e5w.size
      obtain ⟨i0, hi0, hz0, hzs, hzb⟩ := info_parts info_strT
      clear O3
      go_wp2_with (at_builtin; go_loud (refine wpList_append_own _ rfl _ _ 79 rfl w.heap.size 9 i0 _ 1 16 Tryd.underlying79 hi0 hz0 hzs hzb rfl (by omega) u2 i _ rfl O5.out ⟨W3.heap.size, 0, none⟩ 1 1 [.string bs] (by rfl) rfl (news_new W3 _ _ _ rfl) (by intro u hu; simp at hu; subst hu; rfl) (by unfold maxLen; omega) (by omega) hb5 ?_); intro v6 w6 own6 hg6 hH6; clear hH6; have e6 := own_grown O5.out hg6 w (Nat.le_refl _) e5w)
      have R6 : Hid (w6.ownsRow w.heap.size 9 1 v6 (i + 1) (((ts.map Tb.es).take (i + 1)).map tabV)) := by
        show World.ownsRow _ _ _ _ _ _ _
        rw [HTT.out]; exact own6
      clear own6
      go_roundw
      case rel => exact ⟨i + 1, by go_num, by omega, e6, R6⟩
      case measure => simp [intOf]; omega
    · obtain rfl : i = n := by omega
      have HO := Lib.hid hown.out
      rw [List.take_of_length_le (by rw [List.length_map, HN.out]; exact Nat.le_refl _)] at HO
      clear hown
      go_wp2_with fail
      go_ret
      exact ⟨⟨_, rfl, HO.out⟩, hbw⟩
end Go.Proofs.YtnafegofmbhahaaDoor
