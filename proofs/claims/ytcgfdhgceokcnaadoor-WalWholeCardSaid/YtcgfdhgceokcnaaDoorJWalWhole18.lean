/- lsm: do, Put, Drop. -/
import Derived.Test.YtcgfdhgceokcnaaDoorJWalWhole17
import Derived.Laws.AppendOwnNone
import Derived.Test.YtcgfdhgceokcnaaDoorJWalWhole2
import Derived.Lib.SplitLaws
namespace Go.Proofs.YtcgfdhgceokcnaaDoor
open Go.RowKit Go.WideShapes
set_option linter.unusedVariables false
attribute [local go_sem ↓] Go.wp_at_zero Go.wp_at_succ

set_option maxRecDepth 100000 in
set_option maxHeartbeats 2000000 in
theorem ldoH_any (F H : Nat → Prop) (x lim : Nat) (Y : List Pr) (T : List (List Pr)) (p : Pr) (w : World) (h : LMH w F H x lim Y T) (hHl : ∀ g, H g → g < w.heap.size) (htot : totL T ≤ 1000) (hlim : 1 ≤ lim) (hp : p.gone = true → p.value.size = 0) :
    Calls Tryd.prog 33 #[.pointer (some ⟨x, 0, none⟩), p.val] w fun e w' => e = .returned (errR (putK Y p)) ∧ ∃ F', LOH w w' F H x lim (doY lim Y p) (doT lim Y T p) F' := by
  obtain ⟨hE, hN, hG⟩ := errR_rules
  obtain ⟨pk, pv, pg⟩ := p
  have B1 := Bk.at_ w 30 #[.string pk, .string pv, .bool pg] w.heap.size rfl
  have e1 : Ext w (w.alloc (.cells #[.string pk, .string pv, .bool pg] 30)) := (Ext.refl _).alloc _
  have h1 := h.ext e1
  have HPC := Lib.hid (lputH_any F H x lim Y T ⟨pk, pv, pg⟩ _ h1 (fun g hg => Nat.lt_of_lt_of_le (hHl g hg) e1.size) hp)
  have HOP0 := Lib.hid (h.op e1)
  obtain ⟨k, hk⟩ : ∃ k, putK Y ⟨pk, pv, pg⟩ = k := ⟨_, rfl⟩
  have HK := Lib.hid hk
  rw [hk] at HPC ⊢
  have HTOT := Lib.hid htot
  have HHL := Lib.hid hHl
  have hze := e1.size
  have HZE := Lib.hid hze
  clear hk h h1 hp htot hHl hze
  go_enter Tryd.func33, Tryd.ntmps33
  go_wp2_with fail
  refine HPC.out.mono ?_
  rintro _ w1 ⟨rfl, F1, hop⟩
  have HOP := Lib.hid (HOP0.out.trans hop)
  clear hop HPC B1
  by_cases hk0 : k = 0
  · subst hk0
    rw [errR_0]
    obtain ⟨S, hS⟩ : ∃ S, storeL Y ⟨pk, pv, pg⟩ = S := ⟨_, rfl⟩
    have HS := Lib.hid hS
    have hop := HOP.out
    rw [hS] at hop
    have HOP := Lib.hid hop
    obtain ⟨sb, sv, lv, ts, hL, -, -, -⟩ := hop.at_
    have c0 : ∀ x_1 : WE w1, x_1.W.cell? ⟨x, 0, none⟩ = some (.int .i64 (lim : Int)) := fun x_1 => (hL.ext x_1.h).bk.cell 0
    have c1 : ∀ x_1 : WE w1, x_1.W.cell? ⟨x, 1, none⟩ = some (.pointer (some ⟨sb, 0, none⟩)) := fun x_1 => (hL.ext x_1.h).bk.cell 1
    have HSL := Lib.hid fun x_1 : WE w1 => SLen_any 0 sb sv S x_1.W (hL.ext x_1.h).st
    have HFL := Lib.hid fun W (e : Ext w1 W) => LFlushH_any F1 H x lim S T W (hop.at_.ext e) (fun g hg => Nat.lt_of_lt_of_le (HHL.out g hg) (Nat.le_trans hop.chg.size e.size)) HTOT.out
    clear hS hop hL
    obtain ⟨n, hn⟩ : ∃ n, S.length = n := ⟨_, rfl⟩
    rw [hn] at HSL
    have HN := Lib.hid hn
    clear hn
    go_upto_region 4 with (fail)
    (refine wp_region_ext (w0 := w1) (by kernel_rfl) (by kernel_rfl) (by (repeat (with_reducible first | exact Ext.refl _ | assumption | refine Ext.drew ?_ | refine Ext.drewN ?_ _ | refine Ext.alloc ?_ _ | refine Ext.trans ?_ (by with_reducible assumption)))) ?_; (repeat (go_big_quiet_step ((go_at_call 47; exact quietS (HSL.out _))))); refine wpQuiet_nil ?_)
    intro w2 hb2
    clear c0 c1
    by_cases hc : lim ≤ n
    · have hci : (lim : Int) ≤ (n : Int) := by omega
      have hfk : flK S = 0 := if_neg (by rw [HN.out]; omega)
      have hY : doY lim Y ⟨pk, pv, pg⟩ = flY S := by unfold doY flY; rw [if_pos ⟨HK.out, by rw [HS.out, HN.out]; exact hc⟩]
      have hT : doT lim Y T ⟨pk, pv, pg⟩ = flT S T := by
        rw [flT_cons (by rw [HN.out]; omega)]
        unfold doT
        rw [if_pos ⟨HK.out, by rw [HS.out, HN.out]; exact hc⟩, HS.out]
      have HY := Lib.hid hY
      have HT := Lib.hid hT
      have HC := Lib.hid (HFL.out w2 hb2)
      rw [hfk, errR_0] at HC
      clear hY hT hfk hc
      go_wp2_with fail
      refine HC.out.mono ?_
      rintro _ w3 ⟨rfl, F3, hop3⟩
      have HO3 := Lib.hid hop3
      clear hop3
      go_wp2_with fail
      go_ret
      exact ⟨rfl, F3, by rw [HY.out, HT.out]; exact (HOP.out.trans (HOP.out.at_.op hb2)).trans HO3.out⟩
    · have hci : ¬ (lim : Int) ≤ (n : Int) := by omega
      have hY : doY lim Y ⟨pk, pv, pg⟩ = S := by unfold doY; rw [if_neg (fun h => hc (by rw [← HN.out, ← HS.out]; exact h.2)), HS.out]
      have hT : doT lim Y T ⟨pk, pv, pg⟩ = T := by unfold doT; rw [if_neg (fun h => hc (by rw [← HN.out, ← HS.out]; exact h.2))]
      have HY := Lib.hid hY
      have HT := Lib.hid hT
      clear hY hT hc
      go_wp2_with fail
      go_ret
      exact ⟨rfl, F1, by rw [HY.out, HT.out]; exact HOP.out.trans (HOP.out.at_.op hb2)⟩
  · have hok := isOk_no hk0
    have hb := do_bad (lim := lim) (T := T) (p := ⟨pk, pv, pg⟩) (by rw [HK.out]; exact hk0)
    have hs : storeL Y ⟨pk, pv, pg⟩ = Y := store_bad (by rw [HK.out]; exact hk0)
    have HB := Lib.hid hb
    have HS := Lib.hid hs
    clear hb hs hk0
    go_wp2_with fail
    go_ret
    refine ⟨rfl, F1, ?_⟩
    rw [HB.out.1, HB.out.2]
    have h1 := HOP.out
    rw [HS.out] at h1
    exact h1

set_option maxRecDepth 100000 in
theorem LPutH_any (F H : Nat → Prop) (x lim : Nat) (Y : List Pr) (T : List (List Pr)) (key value : ByteArray) (w : World) (h : LMH w F H x lim Y T) (hHl : ∀ g, H g → g < w.heap.size) (htot : totL T ≤ 1000) (hlim : 1 ≤ lim) :
    Calls Tryd.prog 22 #[.pointer (some ⟨x, 0, none⟩), .string key, .string value] w fun e w' => e = .returned (errR (putK Y ⟨key, value, false⟩)) ∧ ∃ F', LOH w w' F H x lim (doY lim Y ⟨key, value, false⟩) (doT lim Y T ⟨key, value, false⟩) F' := by
  have HC := Lib.hid (ldoH_any F H x lim Y T ⟨key, value, false⟩ w h hHl htot hlim (fun e => by cases e))
  clear h hHl
  go_enter Tryd.func22, Tryd.ntmps22
  go_wp2_with fail
  refine HC.out.mono ?_
  rintro _ w1 ⟨rfl, hh⟩
  have HH := Lib.hid hh
  clear hh
  go_wp2_with fail
  go_ret
  exact ⟨rfl, HH.out⟩
set_option maxRecDepth 100000 in
theorem LDropH_any (F H : Nat → Prop) (x lim : Nat) (Y : List Pr) (T : List (List Pr)) (key : ByteArray) (w : World) (h : LMH w F H x lim Y T) (hHl : ∀ g, H g → g < w.heap.size) (htot : totL T ≤ 1000) (hlim : 1 ≤ lim) :
    Calls Tryd.prog 21 #[.pointer (some ⟨x, 0, none⟩), .string key] w fun e w' => e = .returned (errR (putK Y ⟨key, ⟨#[]⟩, true⟩)) ∧ ∃ F', LOH w w' F H x lim (doY lim Y ⟨key, ⟨#[]⟩, true⟩) (doT lim Y T ⟨key, ⟨#[]⟩, true⟩) F' := by
  have HC := Lib.hid (ldoH_any F H x lim Y T ⟨key, ⟨#[]⟩, true⟩ w h hHl htot hlim (fun e => rfl))
  clear h hHl
  go_enter Tryd.func21, Tryd.ntmps21
  go_wp2_with fail
  refine HC.out.mono ?_
  rintro _ w1 ⟨rfl, hh⟩
  have HH := Lib.hid hh
  clear hh
  go_wp2_with fail
  go_ret
  exact ⟨rfl, HH.out⟩
theorem LPut_any (F : Nat → Prop) (x lim : Nat) (Y : List Pr) (T : List (List Pr)) (key value : ByteArray) (w : World) (h : LM w F x lim Y T) (htot : totL T ≤ 1000) (hlim : 1 ≤ lim) :
    Calls Tryd.prog 22 #[.pointer (some ⟨x, 0, none⟩), .string key, .string value] w fun e w' => e = .returned (errR (putK Y ⟨key, value, false⟩)) ∧ ∃ F', LOp w w' F x lim (doY lim Y ⟨key, value, false⟩) (doT lim Y T ⟨key, value, false⟩) F' :=
  (LPutH_any F nH x lim Y T key value w h (fun _ h => absurd h id) htot hlim).mono fun _ _ ⟨he, F', ho⟩ => ⟨he, F', ho.free⟩
theorem LDrop_any (F : Nat → Prop) (x lim : Nat) (Y : List Pr) (T : List (List Pr)) (key : ByteArray) (w : World) (h : LM w F x lim Y T) (htot : totL T ≤ 1000) (hlim : 1 ≤ lim) :
    Calls Tryd.prog 21 #[.pointer (some ⟨x, 0, none⟩), .string key] w fun e w' => e = .returned (errR (putK Y ⟨key, ⟨#[]⟩, true⟩)) ∧ ∃ F', LOp w w' F x lim (doY lim Y ⟨key, ⟨#[]⟩, true⟩) (doT lim Y T ⟨key, ⟨#[]⟩, true⟩) F' :=
  (LDropH_any F nH x lim Y T key w h (fun _ h => absurd h id) htot hlim).mono fun _ _ ⟨he, F', ho⟩ => ⟨he, F', ho.free⟩
end Go.Proofs.YtcgfdhgceokcnaaDoor

/- lsm: Get. -/
namespace Go.Proofs.YtcgfdhgceokcnaaDoor
open Go.RowKit Go.WideShapes
set_option linter.unusedVariables false
attribute [local go_sem ↓] Go.wp_at_zero Go.wp_at_succ

def oV (o : Option ByteArray) : ByteArray := match o with | some v => v | none => ⟨#[]⟩
def oK (o : Option ByteArray) : Int := match o with | some _ => 0 | none => 5
theorem look_cat (a b : List (List Pr)) (key : ByteArray) : lookLs (a ++ b) key = (lookLs a key).or (lookLs b key) := by
  induction a with
  | nil => rfl
  | cons l a ih =>
    show (getE l key).or (lookLs (a ++ b) key) = ((getE l key).or (lookLs a key)).or (lookLs b key)
    rw [ih, Option.or_assoc]
/-- what the loop knows: found in what is young, or in the first i levels, or in none -/
def LookI (Y : List Pr) (T : List (List Pr)) (key : ByteArray) (i : Nat) (hb : Bool) (q : Pr) : Prop := lookLs (Y :: T.take i) key = if hb = true then some q else none
theorem look_first (Y : List Pr) (T : List (List Pr)) (key : ByteArray) : LookI Y T key 0 (hasB Y key) (pairV Y key) := by
  show (getE Y key).or none = _
  rw [Option.or_none]
  unfold pairV
  cases hb : hasB Y key with
  | true =>
    obtain ⟨q, hq, hk⟩ := has_get hb
    have hg : getE Y key = some q := by unfold getE; rw [if_pos hb, hq]
    rw [hg]; rfl
  | false =>
    unfold getE
    rw [if_neg (by rw [hb]; decide)]; rfl
theorem look_next {Y : List Pr} {T : List (List Pr)} {key : ByteArray} {i : Nat} {q : Pr} {es : List Pr} (h : LookI Y T key i false q) (ht : T[i]? = some es) : LookI Y T key (i + 1) (hasB es key) (pairV es key) := by
  obtain ⟨h1, h2⟩ := List.getElem?_eq_some_iff.1 ht
  unfold LookI at h ⊢
  rw [List.take_succ_eq_append_getElem h1, h2, ← List.cons_append, look_cat, h]
  have := look_first es [] key
  unfold LookI at this
  rw [List.take_nil] at this
  rw [← this]
  rfl
theorem look_found {Y : List Pr} {T : List (List Pr)} {key : ByteArray} {i : Nat} {q : Pr} (h : LookI Y T key i true q) : seeL Y T key = vis (some q) := by
  unfold seeL
  rw [← List.take_append_drop i T, ← List.cons_append, look_cat, show lookLs (Y :: T.take i) key = some q from h]
  rfl
theorem look_none {Y : List Pr} {T : List (List Pr)} {key : ByteArray} {i : Nat} {q : Pr} (h : LookI Y T key i false q) (hi : T.length ≤ i) : seeL Y T key = none := by
  unfold LookI at h
  rw [List.take_of_length_le hi] at h
  unfold seeL
  rw [h]
  rfl
theorem tgk_ok (es : List Pr) (key : ByteArray) : isOk (tgK es key) = hasB es key := by
  unfold tgK
  cases hasB es key <;> rfl

end Go.Proofs.YtcgfdhgceokcnaaDoor

/- lsm: All, Tables. -/
namespace Go.Proofs.YtcgfdhgceokcnaaDoor
open Go.RowKit Go.WideShapes
set_option linter.unusedVariables false
attribute [local go_sem ↓] Go.wp_at_zero Go.wp_at_succ

theorem info_strT : (Tryd.prog.info? 9).map (fun i => (i.zero, i.size, i.bytes)) = some (some (.string ⟨#[]⟩), 1, 16) := by kernel_rfl
theorem own_row1 (w : World) (v : Value) (hv : v.oneCell' = true) : (w.alloc (.cells #[v] 27)).ownsRow w.heap.size 27 1 (.slice (some ⟨w.heap.size, 0, none⟩) 1 1) 1 [v] :=
  ⟨rfl, .inr ⟨w.heap.size, 1, #[v], rfl, Nat.le_refl _, Bk.at_ w _ _ w.heap.size rfl, Nat.le_refl _, by unfold maxLen; omega, rfl, rfl⟩⟩
theorem OwLs.cons {w : World} {vs : List Value} {T : List (List Pr)} (h : OwLs w vs T) {v : Value} {es : List Pr} {n : Nat} (hr : w.ownsRow 0 30 3 v n (es.flatMap Pr.cells)) (hn : es.length = n) : OwLs w (v :: vs) (es :: T) := by
  subst hn
  refine ⟨by rw [List.length_cons, List.length_cons, h.1], fun i u fs hv hT => ?_⟩
  cases i with
  | zero =>
    obtain rfl : v = u := by simpa using hv
    obtain rfl : es = fs := by simpa using hT
    exact hr
  | succ i => exact h.2 i u fs (by simpa using hv) (by simpa using hT)

set_option maxRecDepth 100000 in
set_option maxHeartbeats 2000000 in
theorem LAll_any (F : Nat → Prop) (x : Nat) (lim : Int) (Y : List Pr) (T : List (List Pr)) (w : World) (h : LM w F x lim Y T) (htot : totL (Y :: T) ≤ 1000) :
    Calls Tryd.prog 8 #[.pointer (some ⟨x, 0, none⟩)] w fun e w' => (∃ v', e = .returned v' ∧ w'.ownsRow w.heap.size 30 3 v' (liveL (Y :: T)).length ((liveL (Y :: T)).flatMap Pr.cells)) ∧ Ext w w' := by
  have HM := Lib.hid h
  have HTOT := Lib.hid htot
  have hT8 := h.many.2.1
  obtain ⟨sb, sv, lv, ts, hL, -, -, -⟩ := h
  have c1 : w.cell? ⟨x, 1, none⟩ = some (.pointer (some ⟨sb, 0, none⟩)) := hL.bk.cell 1
  have hc := SAll_any 0 sb sv Y w hL.st
  obtain ⟨yl, hyl⟩ : ∃ n, Y.length = n := ⟨_, rfl⟩
  rw [hyl] at hc
  have HYL := Lib.hid hyl
  have HC := Lib.hid hc
  clear hL htot hyl hc
  go_enter Tryd.func8, Tryd.ntmps8
  go_wp2_with fail
  refine HC.out.mono ?_
  rintro _ w1 ⟨⟨v1, rfl, o1⟩, hb1⟩
  obtain ⟨A1, c1', rfl, -, -, -⟩ := own_rd o1
  have e2 : Ext w1 (w1.alloc (.cells #[.slice A1 yl c1'] 27)) := (Ext.refl _).alloc _
  have O2 := Lib.hid (own_row1 w1 (.slice A1 yl c1') rfl)
  have HO1 := Lib.hid (own_ext (own_lower o1 (Nat.zero_le _)) e2)
  have e2w := hb1.trans e2
  have HLC := Lib.hid (lists_any F x lim Y T _ (HM.out.ext e2w))
  have hw1 := hb1.size
  clear o1 c1 HC
  go_wp2_with fail
  refine HLC.out.mono ?_
  rintro _ w3 ⟨⟨v3, vs, rfl, o3, R3⟩, hb3⟩
  have e3w := e2w.trans hb3
  have O3 := Lib.hid (own_ext O2.out hb3)
  have HO3 := Lib.hid (own_ext HO1.out hb3)
  have HR3 := Lib.hid R3
  obtain ⟨n, hn⟩ : ∃ n, T.length = n := ⟨_, rfl⟩
  rw [hn] at o3 hT8
  have HN := Lib.hid hn
  have HO33 := Lib.hid o3
  obtain ⟨A3, c3, hv3', hc3, hr3, hnil⟩ := own_rd o3
  have hlen : vs.length = n := by have := hr3.1; omega
  have hfin : ∀ (v9 : Value) (w9 : World), w9.ownsRow w1.heap.size 27 1 v9 (1 + n) ([.slice A1 yl c1'] ++ vs) → w3.grownBy w9 (Value.slice (some ⟨w1.heap.size, 0, none⟩) 1 1).ownBlock →
      ∃ A9 c9, v9 = .slice A9 (1 + n) c9 ∧ Ext w w9 ∧ Calls Tryd.prog 15 #[.slice A9 (1 + n) c9] w9 fun e w' => (∃ v', e = .returned v' ∧ w'.ownsRow w.heap.size 30 3 v' (liveL (Y :: T)).length ((liveL (Y :: T)).flatMap Pr.cells)) ∧ Ext w9 w' := fun v9 w9 h9 hg9 => by
    obtain ⟨A9, c9, rfl, hc9, hr9, -⟩ := own_rd h9
    have e9 := own_grown O3.out hg9 w hw1 e3w
    have R9 := (HR3.out.cons HO3.out HYL.out).grown O3.out hg9
    refine ⟨A9, c9, rfl, e9, (live_any A9 (1 + n) c9 _ (Y :: T) w9 hr9 hc9 R9.rd HTOT.out).mono ?_⟩
    rintro e w' ⟨⟨v', he, ho⟩, hb⟩
    exact ⟨⟨v', he, own_lower ho e9.size⟩, hb⟩
  have HFIN := Lib.hid hfin
  obtain ⟨i0, hi0, hz0, hzs, hzb⟩ := info_parts info_rowP
  have hb3s : w1.heap.size ≤ w3.heap.size := (e2.trans hb3).size
  have HV3 := Lib.hid hv3'
  clear hfin hn R3 HO1 O2 HLC o3 hv3'
  cases A3 with
  | none =>
    have h0 : n = 0 := by
      rcases Nat.eq_zero_or_pos n with h | h
      · exact h
      · obtain ⟨ad', h1, _⟩ := hr3.2.2 h
        cases h1
    subst h0
    obtain rfl : c3 = 0 := by
      rcases hnil rfl with h | h
      · exact h.2
      · exact absurd rfl h
    have hx0 : vs = [] := List.eq_nil_of_length_eq_zero hlen
    obtain ⟨A9, c9, h9, E9, HC9⟩ := HFIN.out _ w3 (by rw [hx0]; exact O3.out) ((Ext.refl w3).gb _)
    injection h9 with h9a h9b h9c
    subst h9a h9c
    have HC9' := Lib.hid HC9
    clear HC9 h9b hnil hr3 hx0
    go_wp2_with (at_builtin; go_loud (refine wpList_append_own_none rfl _ _ 47 rfl w1.heap.size 27 i0 1 Tryd.underlying47 hi0 _ _ _ rfl O3.out HV3.out ?_))
    refine HC9'.out.mono ?_
    rintro _ w10 ⟨⟨v10, rfl, ho⟩, hb10⟩
    have HO := Lib.hid ho
    clear ho
    go_wp2_with fail
    go_ret
    exact ⟨⟨_, rfl, HO.out⟩, E9.trans hb10⟩
  | some ad =>
    have hcl : ∀ (j : Nat) u, vs[j]? = some u → w3.cell? (ad.add j) = some u := fun j u hj => by
      obtain ⟨ad', he, -, h3⟩ := hr3.at_ hj
      obtain rfl : ad = ad' := by injection he
      exact h3
    have h1c : ∀ u ∈ vs, u.oneCell' = true := fun u hu => by
      obtain ⟨i, hi⟩ := List.getElem?_of_mem hu
      obtain ⟨es, hes⟩ : ∃ es, T[i]? = some es := ⟨_, List.getElem?_eq_getElem (by rw [← HR3.out.1]; exact (List.getElem?_eq_some_iff.1 hi).1)⟩
      obtain ⟨A, c, rfl, _, _⟩ := HR3.out.rd.2 i u es hi hes
      rfl
    have HCL := Lib.hid hcl
    have H1C := Lib.hid h1c
    have hl1 : vs.length = n * 1 := by omega
    clear hcl h1c hnil hr3 hlen
    go_wp2_with (at_builtin; go_loud (refine wpList_append_own _ rfl _ _ 47 rfl w1.heap.size 27 i0 _ 1 24 Tryd.underlying47 hi0 hz0 hzs hzb rfl (by omega) _ _ _ rfl O3.out ad n _ vs HV3.out hl1 HCL.out H1C.out (by unfold maxLen; omega) (by omega) hb3s ?_); intro v9 w9 own9 hg9 hH9; clear hH9; obtain ⟨A9, c9, rfl, E9, HC9⟩ := HFIN.out v9 w9 own9 hg9)
    refine HC9.mono ?_
    rintro _ w10 ⟨⟨v10, rfl, ho⟩, hb10⟩
    have HO := Lib.hid ho
    clear ho
    go_wp2_with fail
    go_ret
    exact ⟨⟨_, rfl, HO.out⟩, E9.trans hb10⟩

def tabV (es : List Pr) : Value := .string (tabB es)
end Go.Proofs.YtcgfdhgceokcnaaDoor

/- lsm: Copy. What is copied shares its tables. -/
namespace Go.Proofs.YtcgfdhgceokcnaaDoor
open Go.RowKit Go.WideShapes
set_option linter.unusedVariables false
attribute [local go_sem ↓] Go.wp_at_zero Go.wp_at_succ

set_option maxRecDepth 100000 in
set_option maxHeartbeats 1000000 in
theorem CloneL_any (A : Option Addr) (n c : Nat) (xs : List Value) (w : World) (hr : Rd w 2 A n c xs) (hn : n ≤ 200000000) (hm : c ≤ maxLen) (h1 : ∀ u ∈ xs, u.oneCell' = true) :
    Calls Tryd.prog 31 #[.slice A n c] w fun e w' => (∃ v', e = .returned v' ∧ w'.ownsRow w.heap.size 68 2 v' n xs) ∧ Ext w w' := by
  obtain ⟨i0, hi0, hz0, hzs, hzb⟩ := info_parts info_level
  have q22 : ∀ (w : World) (a : Option Addr) (n c n' c' : Nat), (binOp .eql 49 (.slice a n c) (.slice none n' c')).run Tryd.prog w = .ok (.bool a.isNone) w := fun w a n c n' c' => Lib.run_eql_slice_nil w _ _ a n c n' c' Tryd.underlying49
  unfold maxLen at hm
  cases A with
  | none =>
    have : n = 0 := by
      rcases Nat.eq_zero_or_pos n with h | h
      · exact h
      · obtain ⟨ad, h1, _⟩ := hr.2.2 h; cases h1
    subst this
    have : xs = [] := List.eq_nil_of_length_eq_zero (by have := hr.1; omega)
    subst this
    go_enter Tryd.func31, Tryd.ntmps31
    go_wp2_with fail
    go_ret
    exact ⟨⟨_, rfl, own_nil _ _ _ _⟩, Ext.refl _⟩
  | some a =>
    have hl := hr.1
    have HC : Hid (∀ j u, xs[j]? = some u → w.cell? (a.add j) = some u) := Lib.hid fun j u hj => by
      have hp : 0 < n := by
        rcases Nat.eq_zero_or_pos n with h | h
        · subst h
          have := (List.getElem?_eq_some_iff.1 hj).1
          omega
        · exact h
      obtain ⟨ad, h1, h2, h3⟩ := hr.2.2 hp
      obtain rfl : a = ad := by injection h1
      exact h3 j u hj
    have H1 := Lib.hid h1
    clear hr h1
    have o0 : (w.alloc (.cells #[] 68)).ownsRow w.heap.size 68 2 (.slice (some ⟨w.heap.size, 0, none⟩) 0 0) 0 [] := World.ownsRow_made w #[] 0 (Nat.le_refl _) (Nat.zero_le _) (by simp)
    have hc0 : ∀ (j : Nat) u, xs[j]? = some u → (w.alloc (.cells #[] 68)).cell? (a.add j) = some u := fun j u hj => Lib.cell?_alloc_some _ (HC.out j u hj)
    have HC0 := Lib.hid hc0
    clear hc0
    have e0 : Ext w (w.alloc (.cells #[] 68)) := (Ext.refl _).alloc _
    have hb : w.heap.size ≤ (w.alloc (.cells #[] 68)).heap.size := e0.size
    go_enter Tryd.func31, Tryd.ntmps31
    go_wp2_with (at_builtin; refine wpList_append_own _ rfl _ _ 49 rfl w.heap.size 68 i0 _ 2 24 Tryd.underlying49 hi0 hz0 hzs hzb rfl (by omega) _ _ _ rfl o0 a n _ xs rfl hl HC0.out H1.out (by unfold maxLen; omega) (by omega) hb ?_; intro v' w6 own6 hg6 hH6)
    go_ret
    refine ⟨⟨v', rfl, ?_⟩, e0.gbn hg6 (Nat.le_refl _)⟩
    rw [Nat.zero_add, List.nil_append] at own6
    exact own6

/-- what is put behind all others -/
theorem store_next {es : List Pr} (ho : Asc es) {j : Nat} {p : Pr} (h : es[j]? = some p) (hj : j < 60) (hk : keyK p.key = 0) (hv : p.value.size ≤ 200) : storeL (es.take j) p = es.take (j + 1) := by
  obtain ⟨hlt, hge⟩ := List.getElem?_eq_some_iff.1 h
  have hl : (es.take j).length = j := by rw [List.length_take]; omega
  have hlow : lowN (es.take j) p.key = j := by
    refine (lowN_border (es := es.take j) (by rw [hl]; exact Nat.le_refl _) ?_ ?_)
    · intro t q ht hq
      rw [List.getElem?_take_of_lt ht] at hq
      exact ho t j q p hq h ht
    · intro t q ht hq
      rw [List.getElem?_eq_none (by rw [hl]; exact ht)] at hq
      cases hq
  have hhas : hasB (es.take j) p.key = false := by
    unfold hasB
    rw [hlow, List.getElem?_eq_none (by rw [hl]; exact Nat.le_refl _)]
  have hpk : putK (es.take j) p = 0 := by
    unfold putK
    rw [if_neg (not_not_intro hk), if_neg]
    rintro (h1 | ⟨_, h1⟩)
    · omega
    · rw [hl] at h1; omega
  unfold storeL
  rw [if_pos hpk]
  unfold putL
  rw [hhas, if_neg (by decide), hlow]
  unfold insL
  rw [List.take_of_length_le (by rw [hl]; exact Nat.le_refl _), List.drop_of_length_le (by rw [hl]; exact Nat.le_refl _), List.take_succ_eq_append_getElem hlt, hge]

abbrev aF : Nat → Prop := fun _ => True
section
variable {w0 w w' : World} {F F' H H' : Nat → Prop} {x : Nat} {lim : Int} {Y : List Pr} {T : List (List Pr)}
theorem LMH.any (h : LMH w F H x lim Y T) : LMH w aF H x lim Y T := by
  obtain ⟨sb, sv, lv, ts, hL, hT, hF, hH⟩ := h
  exact ⟨sb, sv, lv, ts, hL, hT, fun _ _ => trivial, hH⟩
theorem LMH.weak (h : LMH w F H x lim Y T) (hn : ∀ g, H' g → H g) : LMH w F H' x lim Y T := by
  obtain ⟨sb, sv, lv, ts, hL, hT, hF, hH⟩ := h
  exact ⟨sb, sv, lv, ts, hL, hT, hF, fun g hg h1 => hH g hg (hn g h1)⟩
/-- what is new is held too -/
theorem LMH.hold (h : LMH w F H x lim Y T) (k : Ext w w') (hn : ∀ g, H' g → H g ∨ w.heap.size ≤ g) : LMH w' F H' x lim Y T := by
  obtain ⟨sb, sv, lv, ts, hL, hT, hF, hH⟩ := h
  refine ⟨sb, sv, lv, ts, hL.ext k, hT, hF, fun g hg h1 => ?_⟩
  rcases hn g h1 with h2 | h2
  · exact hH g hg h2
  · have := hL.lt (LOwn.foot (ts := ts) hg)
    omega
/-- what is held is kept -/
theorem LOH.held (h : LOH w w' F H x lim Y T F') (e : Ext w0 w) (hH : ∀ g, g < w0.heap.size → H g) : Ext w0 w' :=
  ((e.chg _).trans h.chg fun g _ hg => hg).ext fun g hg hS => hS.2 (hH g hg)
end

set_option maxRecDepth 100000 in
set_option maxHeartbeats 4000000 in
/-- Copy: what it makes writes new blocks alone -/
theorem LCopy_any (x : Nat) (lim : Int) (Y : List Pr) (T : List (List Pr)) (w : World) (h : LM w aF x lim Y T) :
    Calls Tryd.prog 20 #[.pointer (some ⟨x, 0, none⟩)] w fun e w' => (∃ x', e = .returned (.pointer (some ⟨x', 0, none⟩)) ∧ LMH w' aF (fun g => g < w.heap.size) x' lim Y T) ∧ Ext w w' := by
  have hs2 := h.many
  obtain ⟨sb, sv, lv, ts, hL, hT, hF, hH⟩ := h
  obtain ⟨n, hn⟩ : ∃ n, ts.length = n := ⟨_, rfl⟩
  have hn8 : n ≤ 8 := by rw [← hn]; exact hL.len
  have ow := hL.own
  rw [hn] at ow
  obtain ⟨A, c, rfl, hc, hr, -⟩ := own_rd ow
  have c0 : w.cell? ⟨x, 0, none⟩ = some (.int .i64 lim) := hL.bk.cell 0
  have c2 : w.cell? ⟨x, 2, none⟩ = some (.slice A n c) := hL.bk.cell 2
  have HCL := Lib.hid fun W (e : Ext w W) => CloneL_any A n c (ts.flatMap Tb.cells) W (hr.ext e) (by omega) hc (by
    intro u hu
    rw [List.mem_flatMap] at hu
    obtain ⟨t, _, hu⟩ := hu
    simp [Tb.cells] at hu
    rcases hu with rfl | rfl <;> rfl)
  have HL := Lib.hid hL
  have HT := Lib.hid hT
  have HN := Lib.hid hn
  obtain ⟨y, hy⟩ : ∃ y, Y.length = y := ⟨_, rfl⟩
  have HY := Lib.hid hy
  have hy60 : y ≤ 60 := by rw [← hy]; exact hs2.1
  have HASC := Lib.hid hs2.2.2.hd.1
  have HOK := Lib.hid hs2.2.2.hd.2
  have H0 : Hid (∀ (w' : World) (x' sb' : Nat) (lv' : Value), Ext w w' → Bk w' x' 51 #[.int .i64 lim, .pointer (some ⟨sb', 0, none⟩), lv'] → StAt w' 0 sb' (.slice none 0 0) [] → w'.ownsRow w.heap.size 68 2 lv' n (ts.flatMap Tb.cells) → w.heap.size ≤ x' → w.heap.size ≤ sb' → LMH w' aF (fun g => g < w.heap.size) x' lim [] T) := Lib.hid fun w' x' sb' lv' e hb hst ho h1 h2 => by
    have hlv : ∀ g, lv'.ownBlock = some g → w.heap.size ≤ g := fun g hg => own_block ho g hg
    have L' := HL.out.ext e
    have hLA : LAt w' x' lim sb' (.slice none 0 0) [] lv' ts := ⟨hb, hst, by rw [HN.out]; exact own_lower ho (Nat.zero_le _), L'.tab, fun t ht g hg hg' => by simp [Value.ownBlock] at hg', L'.len⟩
    refine ⟨sb', .slice none 0 0, lv', ts, hLA, HT.out, fun g hg => trivial, fun g hg hlt => ?_⟩
    rcases hg with rfl | rfl | hg | hg
    · exact absurd hlt (by show ¬ _ < _; omega)
    · exact absurd hlt (by show ¬ _ < _; omega)
    · simp [Value.ownBlock] at hg
    · have := hlv g hg
      have h3 : g < w.heap.size := hlt
      omega
  clear ow hr hT hF hn hs2 hy hH hL
  unfold maxLen at hc
  go_enter Tryd.func20, Tryd.ntmps20
  go_upto_region 1 with (fail)
  go_cut [3] (fun v wc => ∃ x', v = .pointer (some ⟨x', 0, none⟩) ∧ Hid (LMH wc aF (fun g => g < w.heap.size) x' lim [] T) ∧ Ext w wc)
  case first =>
    as_aux_lemma =>
    go_region_held3 (fun W => W.cell? ⟨x, 0, none⟩ = some (.int .i64 lim) ∧ W.cell? ⟨x, 2, none⟩ = some (.slice A n c)) (first | exact ⟨c0, c2⟩ | exact ⟨(HL.out.ext (by (repeat (with_reducible first | exact Ext.refl _ | assumption | refine Ext.drew ?_ | refine Ext.drewN ?_ _ | refine Ext.alloc ?_ _ | refine Ext.trans ?_ (by with_reducible assumption))))).bk.cell 0, (HL.out.ext (by (repeat (with_reducible first | exact Ext.refl _ | assumption | refine Ext.drew ?_ | refine Ext.drewN ?_ _ | refine Ext.alloc ?_ _ | refine Ext.trans ?_ (by with_reducible assumption))))).bk.cell 2⟩) (first
      | (go_at_call 19; (with_reducible refine (SNew_any 0 _ (Nat.zero_le _)).mono ?_); rintro _ w7 ⟨rfl, st7, hb7⟩; have ST7 := Lib.hid st7; clear st7)
      | (go_at_call 31; (with_reducible refine (HCL.out _ (by (repeat (with_reducible first | exact Ext.refl _ | assumption | refine Ext.drew ?_ | refine Ext.drewN ?_ _ | refine Ext.alloc ?_ _ | refine Ext.trans ?_ (by with_reducible assumption))))).mono ?_); rintro _ w6 ⟨⟨v6, rfl, o6⟩, hb6⟩; obtain ⟨A6, c6, rfl, -, -, -⟩ := own_rd o6; have O6 := Lib.hid o6; clear o6)
      | fail)
    all_goals
      go_wp2_with fail
      go_meet
      refine ⟨_, rfl, Lib.hid (H0.out _ _ _ _ (by (repeat (with_reducible first | exact Ext.refl _ | assumption | refine Ext.drew ?_ | refine Ext.drewN ?_ _ | refine Ext.alloc ?_ _ | refine Ext.trans ?_ (by with_reducible assumption)))) (Bk.at_ _ _ _ _ rfl) (ST7.out.ext (by (repeat (with_reducible first | exact Ext.refl _ | assumption | refine Ext.drew ?_ | refine Ext.drewN ?_ _ | refine Ext.alloc ?_ _ | refine Ext.trans ?_ (by with_reducible assumption))))) (own_ext (own_lower O6.out (Ext.size (by (repeat (with_reducible first | exact Ext.refl _ | assumption | refine Ext.drew ?_ | refine Ext.drewN ?_ _ | refine Ext.alloc ?_ _ | refine Ext.trans ?_ (by with_reducible assumption)))))) (by (repeat (with_reducible first | exact Ext.refl _ | assumption | refine Ext.drew ?_ | refine Ext.drewN ?_ _ | refine Ext.alloc ?_ _ | refine Ext.trans ?_ (by with_reducible assumption))))) (Ext.size (by (repeat (with_reducible first | exact Ext.refl _ | assumption | refine Ext.drew ?_ | refine Ext.drewN ?_ _ | refine Ext.alloc ?_ _ | refine Ext.trans ?_ (by with_reducible assumption))))) (Ext.size (by (repeat (with_reducible first | exact Ext.refl _ | assumption | refine Ext.drew ?_ | refine Ext.drewN ?_ _ | refine Ext.alloc ?_ _ | refine Ext.trans ?_ (by with_reducible assumption)))))), by (repeat (with_reducible first | exact Ext.refl _ | assumption | refine Ext.drew ?_ | refine Ext.drewN ?_ _ | refine Ext.alloc ?_ _ | refine Ext.trans ?_ (by with_reducible assumption)))⟩
  case rest =>
  as_aux_lemma =>
  obtain ⟨x', rfl, HX, hbc⟩ := hcut
  obtain ⟨sb2, HY2⟩ : ∃ sb2 : Nat, Hid (sb2 = sb) := ⟨sb, Lib.hid rfl⟩
  have s1 : wc.cell? ⟨x, 1, none⟩ = some (.pointer (some ⟨sb, 0, none⟩)) := (HL.out.ext hbc).bk.cell 1
  have HSA := Lib.hid (SAll_any 0 sb sv Y wc (HL.out.ext hbc).st)
  clear c0 c2
  go_wp2_with fail
  refine HSA.out.mono ?_
  rw [HY.out]
  rintro _ w8 ⟨⟨v8, rfl, o8⟩, hb8⟩
  obtain ⟨A8, c8, rfl, hc8, hr8, -⟩ := own_rd o8
  have hX8 : Hid (LMH w8 aF (fun g => g < w.heap.size ∨ (Value.slice A8 y c8).ownBlock = some g) x' lim (Y.take 0) T) := Lib.hid (HX.out.hold hb8 fun g hg => by
    rcases hg with hg | hg
    · exact .inl hg
    · exact .inr (own_block o8 g hg))
  have O8 := Lib.hid (own_lower o8 (Nat.zero_le _))
  have e8 := hbc.trans hb8
  have hc8' := hc8
  unfold maxLen at hc8'
  have HC8 := Lib.hid hc8
  clear s1 o8 hr8 hc8
  go_wp2_with fail
  go_loopw [5, 24] (fun _ u wr => ∃ j : Nat, u = .int .i64 j ∧ j ≤ y ∧ Ext w wr ∧ Hid (wr.ownsRow 0 30 3 (.slice A8 y c8) y (Y.flatMap Pr.cells)) ∧ Hid (LMH wr aF (fun g => g < w.heap.size ∨ (Value.slice A8 y c8).ownBlock = some g) x' lim (Y.take j) T)) (fun _ u _ => y - (intOf u).toNat)
  case atStart => exact ⟨0, rfl, Nat.zero_le _, e8, O8, hX8⟩
  case round =>
    obtain ⟨j, rfl, hj, hbw, hrow, hlm⟩ := hrel
    by_cases hcj : j < y
    · obtain ⟨p, hp⟩ : ∃ p, Y[j]? = some p := ⟨_, List.getElem?_eq_getElem (by rw [HY.out]; exact hcj)⟩
      obtain ⟨A9, c9, h9, -, hr9, -⟩ := own_rd hrow.out
      injection h9 with h91 h92 h93
      subst h91 h93
      obtain ⟨ad1, rfl, hb1, y0, y1, y2⟩ := hr9.getP hp
      have hok := HOK.out p (List.mem_of_getElem? hp)
      have HST := Lib.hid (store_next HASC.out hp (by omega) hok.1 hok.2.1)
      have HPC : Hid (∀ W, Ext wr W → Calls Tryd.prog 32 #[.pointer (some ⟨x', 0, none⟩), p.val] W fun e w' => e = .returned (errR (putK (Y.take j) p)) ∧ ∃ F', LOH W w' aF (fun g => g < w.heap.size ∨ (Value.slice (some ad1) y c8).ownBlock = some g) x' lim (storeL (Y.take j) p) T F') := Lib.hid fun W e => lputH_any _ _ x' lim _ T p W (hlm.out.ext e) (fun g hg => by
        have h1 := hbw.size
        have h2 := e.size
        rcases hg with hg | hg
        · have h3 : g < w.heap.size := hg
          omega
        · have := (hrow.out.lt g hg).2
          omega) hok.2.2
      obtain ⟨pk, pv, pg⟩ := p
      simp only at y0 y1 y2
      have P3 := Bk.at_ wr 30 #[.string pk, .string pv, .bool pg] wr.heap.size rfl
      have e3r : Ext wr (wr.alloc (.cells #[.string pk, .string pv, .bool pg] 30)) := (Ext.refl _).alloc _
      have z0 : (wr.alloc (.cells #[.string pk, .string pv, .bool pg] 30)).cell? ⟨wr.heap.size, 0, none⟩ = some (.string pk) := P3.cell 0
      have z1 : (wr.alloc (.cells #[.string pk, .string pv, .bool pg] 30)).cell? ⟨wr.heap.size, 1, none⟩ = some (.string pv) := P3.cell 1
      have z2 : (wr.alloc (.cells #[.string pk, .string pv, .bool pg] 30)).cell? ⟨wr.heap.size, 2, none⟩ = some (.bool pg) := P3.cell 2
      have HC := Lib.hid (HPC.out _ e3r)
      clear hp hok hr9 HPC P3
      go_upto_region 5 with (fail)
      generalize wr.alloc (.cells #[.string pk, .string pv, .bool pg] 30) = W3 at *
      go_wp2_with fail
      refine HC.out.mono ?_
      rintro _ w4 ⟨rfl, F4, hop⟩
      rw [HST.out] at hop
      have e4 := hop.held (hbw.trans e3r) (fun g hg => .inl hg)
      have O4 : Hid (w4.ownsRow 0 30 3 (.slice (some ad1) y c8) y (Y.flatMap Pr.cells)) := Lib.hid (own_chg (own_ext hrow.out e3r) hop.chg fun g hg hS => hS.2 (.inr hg))
      have L4 := Lib.hid hop.at_.any
      clear hop
      go_wp2_with fail
      go_roundw
      case rel => exact ⟨j + 1, by go_num, by omega, e4, O4, L4⟩
      case measure => simp [intOf]; omega
    · obtain rfl : j = y := by omega
      have HF := Lib.hid hlm.out
      rw [List.take_of_length_le (by rw [HY.out]; exact Nat.le_refl _)] at HF
      clear hlm
      go_wp2_with fail
      go_ret
      exact ⟨⟨x', rfl, HF.out.weak fun g hg => .inl hg⟩, hbw⟩
end Go.Proofs.YtcgfdhgceokcnaaDoor

/- Texts cut at one byte: plain. -/
namespace Go.Proofs.YtcgfdhgceokcnaaDoor
set_option linter.unusedVariables false

/-- a text cut at each c -/
def partsL (c : UInt8) : List UInt8 → List (List UInt8)
  | [] => [[]]
  | b :: l => if b = c then [] :: partsL c l else match partsL c l with
    | [] => [[b]]
    | p :: r => (b :: p) :: r
theorem partsL_ne (c : UInt8) : ∀ l, partsL c l ≠ []
  | [] => by simp [partsL]
  | b :: l => by
    unfold partsL
    split
    · simp
    · split <;> simp
theorem partsL_hit (c : UInt8) (l : List UInt8) : partsL c (c :: l) = [] :: partsL c l := by rw [partsL, if_pos rfl]
theorem partsL_miss {c b : UInt8} (h : b ≠ c) {l p : List UInt8} {r : List (List UInt8)} (hp : partsL c l = p :: r) : partsL c (b :: l) = (b :: p) :: r := by rw [partsL, if_neg h, hp]
theorem partsL_app (c : UInt8) : ∀ (a l : List UInt8), (∀ b ∈ a, b ≠ c) → partsL c (a ++ c :: l) = a :: partsL c l
  | [], l, _ => partsL_hit c l
  | b :: a, l, h => partsL_miss (h b (by simp)) (partsL_app c a l fun x hx => h x (by simp [hx]))
theorem partsL_one (c : UInt8) : ∀ (a : List UInt8), (∀ b ∈ a, b ≠ c) → partsL c a = [a]
  | [], _ => rfl
  | b :: a, h => partsL_miss (h b (by simp)) (partsL_one c a fun x hx => h x (by simp [hx]))
def joinL (c : UInt8) : List (List UInt8) → List UInt8
  | [] => []
  | [p] => p
  | p :: q :: r => p ++ c :: joinL c (q :: r)
theorem joinL_parts (c : UInt8) : ∀ l, joinL c (partsL c l) = l
  | [] => rfl
  | b :: l => by
    have ih := joinL_parts c l
    obtain ⟨p, r, hp⟩ : ∃ p r, partsL c l = p :: r := by
      cases h : partsL c l with
      | nil => exact absurd h (partsL_ne c l)
      | cons p r => exact ⟨p, r, rfl⟩
    by_cases hb : b = c
    · subst hb
      rw [partsL_hit, hp]
      rw [hp] at ih
      show [] ++ b :: joinL b (p :: r) = _
      rw [ih]; rfl
    · rw [partsL_miss hb hp]
      rw [hp] at ih
      cases r with
      | nil => show b :: p = _; rw [show p = l from ih]
      | cons q r =>
        show (b :: p) ++ c :: joinL c (q :: r) = _
        rw [List.cons_append]
        congr 1
theorem parts_none (c : UInt8) : ∀ (l : List UInt8), ∀ p ∈ partsL c l, ∀ b ∈ p, b ≠ c
  | [], p, hp, b, hb => by simp [partsL] at hp; subst hp; simp at hb
  | x :: l, p, hp, b, hb => by
    by_cases hx : x = c
    · subst hx
      rw [partsL_hit] at hp
      rcases List.mem_cons.1 hp with rfl | hp
      · simp at hb
      · exact parts_none x l p hp b hb
    · obtain ⟨q, r, hq⟩ : ∃ q r, partsL c l = q :: r := by
        cases h : partsL c l with
        | nil => exact absurd h (partsL_ne c l)
        | cons q r => exact ⟨q, r, rfl⟩
      rw [partsL_miss hx hq] at hp
      rcases List.mem_cons.1 hp with rfl | hp
      · rcases List.mem_cons.1 hb with rfl | hb
        · exact hx
        · exact parts_none c l q (by rw [hq]; simp) b hb
      · exact parts_none c l p (by rw [hq]; simp [hp]) b hb

/-! ### what the library's split gives -/
theorem index_hit (c : UInt8) (l : List UInt8) : Lib.index (c :: l) [c] = 0 := by
  unfold Lib.index
  rw [if_pos (by simp [List.isPrefixOf])]
theorem index_miss {c b : UInt8} (h : b ≠ c) (l : List UInt8) : Lib.index (b :: l) [c] = if Lib.index l [c] == -1 then -1 else Lib.index l [c] + 1 := by
  rw [Lib.index, if_neg]
  simp [List.isPrefixOf]
  exact fun e => h e.symm
theorem split_parts (c : UInt8) : ∀ l, Lib.splitK [c] 0 (Lib.count l [c]) l = partsL c l
  | [] => by
    have h : Lib.index [] [c] = -1 := rfl
    rw [Lib.count_miss h]; rfl
  | b :: l => by
    have ih := split_parts c l
    by_cases hb : b = c
    · subst hb
      rw [Lib.count_hit (i := 0) (by simp) (index_hit b l), partsL_hit]
      show Lib.splitK [b] 0 (1 + Lib.count ((b :: l).drop 1) [b]) (b :: l) = _
      rw [Nat.add_comm, List.drop_one, List.tail_cons, Lib.splitK, index_hit]
      rw [if_neg (by decide)]
      show [] :: Lib.splitK [b] 0 _ l = _
      rw [ih]
    · have hi := index_miss hb l
      by_cases hm : Lib.index l [c] = -1
      · rw [if_pos (by rw [hm]; rfl)] at hi
        rw [Lib.count_miss hm] at ih
        rw [Lib.count_miss hi, partsL_miss hb ih.symm]
        rfl
      · have hg := Lib.index_ge l [c]
        obtain ⟨i, hii⟩ := Int.eq_ofNat_of_zero_le (show 0 ≤ Lib.index l [c] by omega)
        rw [if_neg (by simpa using hm), hii] at hi
        have e1 := Lib.count_hit (i := i) (s := l) (sub := [c]) (by simp) hii
        have e2 := Lib.count_hit (i := i + 1) (s := b :: l) (sub := [c]) (by simp) hi
        rw [e1, Nat.add_comm, Lib.splitK, hii, if_neg (by simp)] at ih
        have h1 : ((i : Int)).toNat = i := by omega
        rw [h1] at ih
        rw [partsL_miss hb ih.symm, e2, Nat.add_comm, Lib.splitK, hi, if_neg (by simp; omega)]
        have h2 : ((i : Int) + 1).toNat = i + 1 := by omega
        rw [h2]
        have h3 : (b :: l).drop (i + 1 + [c].length) = l.drop (i + [c].length) := by
          show (b :: l).drop (i + 1 + 1) = l.drop (i + 1)
          rfl
        rw [h3]
        rfl
/-- a text cut at each c -/
def partsB (c : UInt8) (s : ByteArray) : List ByteArray := (partsL c s.data.toList).map fun l => ⟨l.toArray⟩
theorem splitB_parts (c : UInt8) (s : ByteArray) : Lib.splitB ⟨#[c]⟩ 0 (Lib.countB s ⟨#[c]⟩) s = partsB c s := by
  have h := Lib.splitB_data ⟨#[c]⟩ 0 (Lib.countB s ⟨#[c]⟩) s
  have h2 : Lib.splitK (⟨#[c]⟩ : ByteArray).data.toList 0 (Lib.countB s ⟨#[c]⟩) s.data.toList = partsL c s.data.toList := split_parts c s.data.toList
  rw [h2] at h
  unfold partsB
  rw [← h, List.map_map]
  conv => lhs; rw [← List.map_id (Lib.splitB ⟨#[c]⟩ 0 (Lib.countB s ⟨#[c]⟩) s)]
  apply List.map_congr_left
  intro x _
  show x = ⟨x.data.toList.toArray⟩
  cases x
  simp
theorem partsB_ne (c : UInt8) (s : ByteArray) : partsB c s ≠ [] := by
  unfold partsB
  simp [partsL_ne]
theorem partsB_len (c : UInt8) (s : ByteArray) : Lib.countB s ⟨#[c]⟩ + 1 = (partsB c s).length := by
  rw [← splitB_parts, Lib.splitB_all ⟨#[c]⟩ (by show 1 ≤ 1; omega) 0 _ s rfl]
/-- no c in a text -/
def freeB (c : UInt8) (s : ByteArray) : Prop := ∀ b ∈ s.data.toList, b ≠ c
theorem parts_four {a b c d : ByteArray} (ha : freeB 32 a) (hb : freeB 32 b) (hc : freeB 32 c) (hd : freeB 32 d) : partsB 32 (four4 a b c d) = [a, b, c, d] := by
  have e : (four4 a b c d).data.toList = a.data.toList ++ 32 :: (b.data.toList ++ 32 :: (c.data.toList ++ 32 :: d.data.toList)) := by
    simp [four4, sp]
  unfold partsB
  rw [e, partsL_app 32 _ _ ha, partsL_app 32 _ _ hb, partsL_app 32 _ _ hc, partsL_one 32 _ hd]
  simp
theorem four_parts {s a b c d : ByteArray} (h : partsB 32 s = [a, b, c, d]) : four4 a b c d = s := by
  apply ba_ext
  have h1 := joinL_parts 32 s.data.toList
  unfold partsB at h
  have h2 : partsL 32 s.data.toList = [a.data.toList, b.data.toList, c.data.toList, d.data.toList] := by
    have := congrArg (List.map (fun x : ByteArray => x.data.toList)) h
    rw [List.map_map] at this
    have e : ((fun x : ByteArray => x.data.toList) ∘ fun l : List UInt8 => (⟨l.toArray⟩ : ByteArray)) = id := by
      funext l; simp
    rw [e, List.map_id] at this
    simpa using this
  rw [h2] at h1
  rw [← h1]
  simp [joinL, four4, sp]
theorem parts_size {c : UInt8} {s x : ByteArray} (h : x ∈ partsB c s) : x.size ≤ s.size := by
  have key : ∀ (l p : List UInt8), p ∈ partsL c l → p.length ≤ l.length := by
    intro l
    induction l with
    | nil => intro p hp; simp [partsL] at hp; subst hp; simp
    | cons b l ih =>
      intro p hp
      by_cases hb : b = c
      · subst hb
        rw [partsL_hit] at hp
        rcases List.mem_cons.1 hp with rfl | hp
        · simp
        · have := ih p hp; simp; omega
      · obtain ⟨q, r, hq⟩ : ∃ q r, partsL c l = q :: r := by
          cases h : partsL c l with
          | nil => exact absurd h (partsL_ne c l)
          | cons q r => exact ⟨q, r, rfl⟩
        rw [partsL_miss hb hq] at hp
        rcases List.mem_cons.1 hp with rfl | hp
        · have := ih q (by rw [hq]; simp); simp; omega
        · have := ih p (by rw [hq]; simp [hp]); simp; omega
  unfold partsB at h
  obtain ⟨l, hl, rfl⟩ := List.mem_map.1 h
  have := key _ _ hl
  show l.toArray.size ≤ s.data.toList.length
  simpa using this

/-! ### heads -/
theorem free_dig (n : Nat) : freeB 32 (digB n) := by
  intro b hb
  rw [digB_dec n n (Nat.le_refl _)] at hb
  have key : ∀ (N n : Nat), n ≤ N → ∀ b ∈ Lib.decDigits n, b ≠ 32 := by
    intro N
    induction N with
    | zero => intro n h b hb
              obtain rfl : n = 0 := by omega
              rw [Lib.decDigits, dif_pos (by omega)] at hb
              obtain rfl : b = UInt8.ofNat (48 + 0) := by simpa using hb
              decide
    | succ N ih =>
      intro n h b hb
      have h10 : ∀ d, d < 10 → UInt8.ofNat (48 + d) ≠ 32 := by decide
      by_cases h1 : n < 10
      · rw [Lib.decDigits, dif_pos h1] at hb
        obtain rfl : b = UInt8.ofNat (48 + n) := by simpa using hb
        exact h10 n h1
      · rw [Lib.decDigits, dif_neg h1] at hb
        rcases List.mem_append.1 hb with hb | hb
        · exact ih (n / 10) (by omega) b hb
        · obtain rfl : b = UInt8.ofNat (48 + n % 10) := by simpa using hb
          exact h10 _ (Nat.mod_lt _ (by decide))
  exact key n n (Nat.le_refl _) b hb
theorem free_hex (n : Nat) : freeB 32 (hexT n) := by
  have key : ∀ (k n : Nat), freeB 32 (lowHex n k) := by
    intro k
    induction k with
    | zero => intro n b hb; exact absurd hb (by simp [lowHex])
    | succ k ih =>
      intro n
      rw [lowHex_snoc]
      intro b hb
      rw [ByteArray.data_append, Array.toList_append] at hb
      rcases List.mem_append.1 hb with hb | hb
      · exact ih _ b hb
      · have h16 : ∀ d, d < 16 → ∀ b ∈ (hx d).data.toList, b ≠ 32 := by decide +kernel
        exact h16 _ (Nat.mod_lt _ (by decide)) b hb
  exact key 8 n
def hd0 : Hd := ⟨0, 0, 0, 0⟩
/-- a head of four texts -/
def headQ (a b c d : ByteArray) : Hd × Int := match numR a 9, numR c 9 with
  | some n, some t =>
    if readK b = 2 ∨ readK d = 2 then (hd0, 2)
    else if readK b ≠ 0 ∨ readK d ≠ 0 ∨ Hd.ok ⟨(n : Int), readV b, (t : Int), readV d⟩ = false then (hd0, 1)
    else (⟨(n : Int), readV b, (t : Int), readV d⟩, 0)
  | _, _ => (hd0, 2)
/-- a head of a text -/
def headR (s : ByteArray) : Hd × Int := match partsB 32 s with
  | [a, b, c, d] => headQ a b c d
  | _ => (hd0, 2)
theorem headR_four {s a b c d : ByteArray} (h : partsB 32 s = [a, b, c, d]) : headR s = headQ a b c d := by unfold headR; rw [h]
theorem headR_not {s : ByteArray} (h : (partsB 32 s).length ≠ 4) : headR s = (hd0, 2) := by
  unfold headR
  split
  · rename_i a b c d e
    rw [e] at h
    exact absurd rfl h
  · rfl
theorem headR_none1 {a b c d : ByteArray} (h : numR a 9 = none ∨ numR c 9 = none) : headQ a b c d = (hd0, 2) := by
  unfold headQ
  split
  · rename_i e1 e2
    rcases h with h | h
    · rw [h] at e1; cases e1
    · rw [h] at e2; cases e2
  · rfl
theorem headQ_some {a b c d : ByteArray} {n t : Nat} (h1 : numR a 9 = some n) (h2 : numR c 9 = some t) : headQ a b c d = if readK b = 2 ∨ readK d = 2 then (hd0, 2) else if readK b ≠ 0 ∨ readK d ≠ 0 ∨ Hd.ok ⟨(n : Int), readV b, (t : Int), readV d⟩ = false then (hd0, 1) else (⟨(n : Int), readV b, (t : Int), readV d⟩, 0) := by
  unfold headQ
  rw [h1, h2]
theorem readV_hexT {n : Int} (h : vld n = true) : readV (hexT n.toNat) = n ∧ readK (hexT n.toNat) = 0 := by
  obtain ⟨h1, h2⟩ := vld_true h
  obtain ⟨m, rfl⟩ := Int.eq_ofNat_of_zero_le h1
  rw [Int.toNat_natCast]
  have hr := readH_hexT (n := m) (by omega)
  unfold readV readK
  rw [hr]
  simp only
  rw [if_pos (by omega), if_pos (by omega)]
  exact ⟨rfl, rfl⟩
/-- what was written is read -/
theorem headR_back {h : Hd} (k : h.ok = true) : headR (headB h) = (h, 0) := by
  obtain ⟨k1, k2, k3, k4, k5, k6⟩ := Hd.ok_parts k
  obtain ⟨a, b, c, d⟩ := h
  simp only at k1 k2 k3 k4 k5 k6
  obtain ⟨r1, r2⟩ := readV_hexT k5
  obtain ⟨r3, r4⟩ := readV_hexT k6
  obtain ⟨a, rfl⟩ := Int.eq_ofNat_of_zero_le k1
  obtain ⟨c, rfl⟩ := Int.eq_ofNat_of_zero_le k3
  unfold headB
  simp only [Int.toNat_natCast]
  rw [headR_four (parts_four (free_dig a) (free_hex _) (free_dig c) (free_hex _))]
  rw [headQ_some (numR_of (Nat.le_trans (digB_small 6 a (by show a < 10000000; omega)) (by omega)) rfl) (numR_of (Nat.le_trans (digB_small 6 c (by show c < 10000000; omega)) (by omega)) rfl), r2, r4, r1, r3, if_neg (by omega), if_neg]
  rintro (h | h | h)
  · exact h rfl
  · exact h rfl
  · rw [k] at h; cases h
/-- what was read is written so -/
theorem readK_text {s : ByteArray} (h : readK s = 0) : hexT (readV s).toNat = s := by
  unfold readK at h
  split at h
  · rename_i n hn
    split at h
    · rename_i hlt
      unfold readV
      rw [hn]
      simp only
      rw [if_pos hlt, Int.toNat_natCast]
      exact (readH_text hn).2.2.2
    · cases h
  · cases h
theorem headR_print {s : ByteArray} (k : (headR s).2 = 0) : headB (headR s).1 = s ∧ (headR s).1.ok = true := by
  by_cases h4 : (partsB 32 s).length = 4
  · obtain ⟨a, b, c, d, hp⟩ : ∃ a b c d, partsB 32 s = [a, b, c, d] := by
      match h : partsB 32 s, h4 with
      | [a, b, c, d], _ => exact ⟨a, b, c, d, rfl⟩
    rw [headR_four hp] at k ⊢
    cases h1 : numR a 9 with
    | none => rw [headR_none1 (.inl h1)] at k; cases k
    | some n =>
      cases h2 : numR c 9 with
      | none => rw [headR_none1 (.inr h2)] at k; cases k
      | some t =>
        rw [headQ_some h1 h2] at k ⊢
        split at k
        · cases k
        · rename_i q1
          split at k
          · cases k
          · rename_i q2
            rw [if_neg q1, if_neg q2]
            simp only [not_or, Decidable.not_not] at q2
            obtain ⟨q3, q4, q5⟩ := q2
            refine ⟨?_, by simpa using q5⟩
            unfold headB
            simp only [Int.toNat_natCast]
            rw [(numR_some h1).2.2.2, (numR_some h2).2.2.2, readK_text q3, readK_text q4, four_parts hp]
  · rw [headR_not h4] at k; cases k
end Go.Proofs.YtcgfdhgceokcnaaDoor
