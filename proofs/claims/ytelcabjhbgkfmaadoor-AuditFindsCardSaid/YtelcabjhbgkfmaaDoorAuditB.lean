/- audit.Tiles, audit.Bad, audit.Whole: total. -/
import Derived.Test.YtelcabjhbgkfmaaDoorAuditP
import Derived.Test.YtelcabjhbgkfmaaDoorGrown
import Derived.Test.YtelcabjhbgkfmaaDoorHds
import Derived.Test.YtelcabjhbgkfmaaDoorQuietT
namespace Go.Proofs.YtelcabjhbgkfmaaDoor
open Go.RowKit Go.WideShapes
set_option linter.unusedVariables false
attribute [local go_sem ↓] Go.wp_at_zero Go.wp_at_succ

theorem own_apart {w : World} {b b' n n' k k' : Nat} {e e' : TypeId} {v v' : Value} {xs xs' : List Value} (h : w.ownsRow b e k v n xs) (h' : w.ownsRow b' e' k' v' n' xs') (hne : e ≠ e') {g : Nat} (hg : v.ownBlock = some g) : v'.ownBlock ≠ some g := by
  intro hg'
  rcases h.2 with ⟨rfl, _⟩ | ⟨g1, cap, cur, rfl, _, hh, _⟩
  · simp [Value.ownBlock] at hg
  · rcases h'.2 with ⟨rfl, _⟩ | ⟨g2, cap', cur', rfl, _, hh', _⟩
    · simp [Value.ownBlock] at hg'
    · obtain rfl : g1 = g := by simpa [Value.ownBlock] using hg
      obtain rfl : g2 = g1 := by simpa [Value.ownBlock] using hg'
      rw [hh] at hh'
      simp at hh'
      exact hne hh'.2
theorem own_far {w : World} {b b' n n' k k' : Nat} {e e' : TypeId} {v v' : Value} {xs xs' : List Value} (h : w.ownsRow b e k v n xs) (h' : w.ownsRow b' e' k' v' n' xs') (hne : e ≠ e') : v'.ownBlock = none ∨ v'.ownBlock ≠ v.ownBlock := by
  cases hv : v'.ownBlock with
  | none => exact .inl rfl
  | some g =>
    refine .inr fun e => ?_
    exact own_apart h h' hne e.symm hv
/-- slices of ints of one's own, in a row -/
def LLo (w : World) (vs : List Value) (xss : List (List Int)) : Prop :=
  vs.length = xss.length ∧ ∀ (i : Nat) (xs : List Int), xss[i]? = some xs → ∃ v, vs[i]? = some v ∧ w.ownsRow 0 3 1 v xs.length (xs.map (Value.int .i64))
theorem LLo.nil (w : World) : LLo w [] [] := ⟨rfl, fun i xs h => by simp at h⟩
theorem LLo.ext {w w' : World} {vs : List Value} {xss : List (List Int)} (h : LLo w vs xss) (e : Ext w w') : LLo w' vs xss :=
  ⟨h.1, fun i xs hx => by obtain ⟨v, h1, h2⟩ := h.2 i xs hx; exact ⟨v, h1, own_ext h2 e⟩⟩
theorem LLo.kept {w w' : World} {vs : List Value} {xss : List (List Int)} {b n : Nat} {v : Value} {cs : List Value} (h : LLo w vs xss) (hv : w.ownsRow b 53 1 v n cs) (e : w.grownBy w' v.ownBlock) : LLo w' vs xss :=
  ⟨h.1, fun i xs hx => by
    obtain ⟨u, h1, h2⟩ := h.2 i xs hx
    exact ⟨u, h1, h2.kept e (own_far hv h2 (by decide))⟩⟩
theorem LLo.snoc {w : World} {vs : List Value} {xss : List (List Int)} {xs : List Int} {v : Value} (h : LLo w vs xss) (hr : w.ownsRow 0 3 1 v xs.length (xs.map (Value.int .i64))) : LLo w (vs ++ [v]) (xss ++ [xs]) := by
  refine ⟨by rw [List.length_append, List.length_append, h.1]; rfl, fun i ys hy => ?_⟩
  by_cases hi : i < xss.length
  · rw [List.getElem?_append_left hi] at hy
    obtain ⟨u, h1, h2⟩ := h.2 i ys hy
    exact ⟨u, by rw [List.getElem?_append_left (by rw [h.1]; exact hi)]; exact h1, h2⟩
  · have hii : i = xss.length := by
      have := (List.getElem?_eq_some_iff.1 hy).1
      simp at this; omega
    subst hii
    rw [List.getElem?_append_right (Nat.le_refl _), Nat.sub_self] at hy
    obtain rfl : xs = ys := by simpa using hy
    exact ⟨v, by rw [List.getElem?_append_right (by rw [h.1]; exact Nat.le_refl _), h.1, Nat.sub_self]; rfl, hr⟩
theorem LLo.rd {w : World} {vs : List Value} {xss : List (List Int)} (h : LLo w vs xss) : LLd w vs xss :=
  ⟨h.1, fun i xs hx => by
    obtain ⟨v, h1, h2⟩ := h.2 i xs hx
    obtain ⟨A, c, rfl, hc, hr, _⟩ := own_rd h2
    exact ⟨A, c, h1, hc, hr⟩⟩

set_option maxRecDepth 100000 in
theorem IEq_any (A A' : Option Addr) (n n' c c' : Nat) (xs ys : List Int) (w : World) (hr : Rd w 1 A n c (xs.map (Value.int .i64))) (hr' : Rd w 1 A' n' c' (ys.map (Value.int .i64))) (hm : c ≤ maxLen) (hm' : c' ≤ maxLen) :
    Calls Tryd.prog 63 #[.slice A n c, .slice A' n' c'] w fun e w' => e = .returned (.bool (eqL xs ys)) ∧ Ext w w' := by
  have HX := Lib.hid hr.lenI
  have HY := Lib.hid hr'.lenI
  have hl := hr.2.1
  have hl' := hr'.2.1
  unfold maxLen at hm hm'
  by_cases hn : n = n'
  · subst hn
    go_enter Tryd.func63, Tryd.ntmps63
    go_wp2_with fail
    go_loopw [13] (fun x wr => ∃ j : Nat, x = .int .i64 j ∧ j ≤ n ∧ Ext w wr ∧ Hid (xs.take j = ys.take j)) (fun x _ => n - (intOf x).toNat)
    case atStart => exact ⟨0, rfl, Nat.zero_le _, by (repeat (with_reducible first | exact Ext.refl _ | assumption | refine Ext.drew ?_ | refine Ext.drewN ?_ _ | refine Ext.alloc ?_ _ | refine Ext.trans ?_ (by with_reducible assumption))), rfl⟩
    case round =>
      obtain ⟨j, rfl, hj, hbw, HK⟩ := hrel
      by_cases hc : j < n
      · have h1 := List.getElem?_eq_getElem (l := xs) (i := j) (by rw [HX.out]; exact hc)
        have h2 := List.getElem?_eq_getElem (l := ys) (i := j) (by rw [HY.out]; exact hc)
        generalize xs[j]'(by rw [HX.out]; exact hc) = y at *
        generalize ys[j]'(by rw [HY.out]; exact hc) = z at *
        obtain ⟨ad, rfl, hb, c0⟩ := (hr.ext hbw).getI h1
        obtain ⟨ad', rfl, hb', c0'⟩ := (hr'.ext hbw).getI h2
        have hcN : (j : Int) < (n : Int) := by omega
        have h0N : (0 : Int) ≤ (j : Int) := by omega
        by_cases e : y = z
        · subst e
          have HT := Lib.hid (take_sameG HK.out h1 h2)
          clear h1 h2
          go_wp2_with fail
          go_quiet (fail)
          go_wp2_with fail
          go_roundw
          case rel => exact ⟨j + 1, by go_num, by omega, by (repeat (with_reducible first | exact Ext.refl _ | assumption | refine Ext.drew ?_ | refine Ext.drewN ?_ _ | refine Ext.alloc ?_ _ | refine Ext.trans ?_ (by with_reducible assumption))), HT⟩
          case measure => simp [intOf]; omega
        · have HT := Lib.hid (eqL_no (take_partG h1 h2 e))
          have e1 : (y == z) = false := by simp [e]
          have e2 : (y != z) = true := by simp [e]
          clear h1 h2 e
          go_wp2_with fail
          go_quiet (fail)
          go_wp2_with fail
          go_ret
          exact ⟨ret_bool HT.out.symm, by (repeat (with_reducible first | exact Ext.refl _ | assumption | refine Ext.drew ?_ | refine Ext.drewN ?_ _ | refine Ext.alloc ?_ _ | refine Ext.trans ?_ (by with_reducible assumption)))⟩
      · obtain rfl : j = n := by omega
        have HT := Lib.hid (eqL_yes (take_wholeG HK.out HX.out HY.out))
        go_wp2_with fail
        go_ret
        exact ⟨ret_bool HT.out.symm, by (repeat (with_reducible first | exact Ext.refl _ | assumption | refine Ext.drew ?_ | refine Ext.drewN ?_ _ | refine Ext.alloc ?_ _ | refine Ext.trans ?_ (by with_reducible assumption)))⟩
  · have HT : Hid (eqL xs ys = false) := eqL_no (by intro e; rw [e, HY.out] at HX; exact hn HX.out.symm)
    have e1 : ((n : Int) != (n' : Int)) = true := by simp; omega
    clear hn
    go_enter Tryd.func63, Tryd.ntmps63
    go_wp2_with fail
    go_ret
    exact ⟨ret_bool HT.out.symm, by (repeat (with_reducible first | exact Ext.refl _ | assumption | refine Ext.drew ?_ | refine Ext.drewN ?_ _ | refine Ext.alloc ?_ _ | refine Ext.trans ?_ (by with_reducible assumption)))⟩

/-- rows of ints of one's own -/
def OwnLL (w w' : World) (v : Value) (xss : List (List Int)) : Prop := ∃ vs, w'.ownsRow w.heap.size 53 1 v xss.length vs ∧ LLo w' vs xss
theorem OwnLL.ext {w w' w2 : World} {v : Value} {xss : List (List Int)} (h : OwnLL w w' v xss) (e : Ext w' w2) : OwnLL w w2 v xss := by
  obtain ⟨vs, h1, h2⟩ := h
  exact ⟨vs, own_ext h1 e, h2.ext e⟩
theorem OwnLL.rd {w w' : World} {v : Value} {xss : List (List Int)} (h : OwnLL w w' v xss) : ∃ A c vs, v = .slice A xss.length c ∧ c ≤ maxLen ∧ Rd w' 1 A xss.length c vs ∧ LLd w' vs xss := by
  obtain ⟨vs, h1, h2⟩ := h
  obtain ⟨A, c, rfl, hc, hr, _⟩ := own_rd h1
  exact ⟨A, c, vs, rfl, hc, hr, h2.rd⟩
theorem OwnLL.none (w w' : World) : OwnLL w w' (.slice none 0 0) [] := ⟨[], own_nil _ _ _ _, LLo.nil _⟩

set_option maxRecDepth 100000 in
set_option maxHeartbeats 2000000 in
theorem ATiles_all (A : Option Addr) (n c : Nat) (es : List Ent) (w : World) (hr : Rd w 2 A n c (es.flatMap Ent.cells)) (hm : c ≤ maxLen) (hk : entsOk es) :
    Calls Tryd.prog 28 #[.slice A n c] w fun e w' => (∃ v, e = .returned (.tuple #[v, .nilIface]) ∧ OwnLL w w' v ((allT n 4).map (tlS (es.map Ent.leaf)))) ∧ Ext w w' := by
  have hx := hr.lenE
  have hn : n ≤ 200 := by have := hk.1; omega
  obtain ⟨T, hT⟩ : ∃ T, T = allT n 4 := ⟨_, rfl⟩
  have hlo : leafsOk (es.map Ent.leaf) := ⟨by rw [List.length_map]; omega, by
    unfold allV
    rw [List.all_eq_true]
    intro x hx
    rw [List.mem_map] at hx
    obtain ⟨e, _, rfl⟩ := hx
    exact vld_sum _⟩
  have hll := allT_len n hn 4
  rw [← hT] at hll ⊢
  have HM := Lib.hid (allT_mem n 4)
  rw [← hT] at HM
  have HTT := Lib.hid hT
  clear hT
  have HX := Lib.hid hx
  have HK := Lib.hid hk
  clear hx hk
  obtain ⟨i0, hi0, hz0, hz1, hz2⟩ := info_parts info_ints
  go_enter Tryd.func28, Tryd.ntmps28
  go_wp2_with fail
  refine (Leafs_ok A n c es _ hr hm HK.out).mono ?_
  rintro _ w0 ⟨⟨v0, rfl, own0⟩, hb0⟩
  rw [HX.out] at own0
  obtain ⟨A0, c0, rfl, hc0, R0, _⟩ := own_rd own0
  obtain ⟨xs, hxs⟩ : ∃ xs, es.map Ent.leaf = xs := ⟨_, rfl⟩
  rw [hxs] at R0 hlo
  have HXS := Lib.hid hxs
  clear hxs own0
  go_wp2_with fail
  refine (AllOf_any n _ hn).mono ?_
  rintro _ w1 ⟨⟨v1, rfl, own1⟩, hb1⟩
  rw [← HTT.out] at own1
  obtain ⟨A1, c1, rfl, hc1, R1, _⟩ := own_rd own1
  have E1 : Ext w w1 := by (repeat (with_reducible first | exact Ext.refl _ | assumption | refine Ext.drew ?_ | refine Ext.drewN ?_ _ | refine Ext.alloc ?_ _ | refine Ext.trans ?_ (by with_reducible assumption)))
  have R0' := R0.ext hb1
  have hE1 := E1.size
  clear own1 R0 hb0 hb1
  go_wp2_with fail
  go_loopw [6, 21] (fun v x wr => ∃ (j : Nat) (vs : List Value), x = .int .i64 j ∧ j ≤ T.length ∧ Ext w1 wr ∧ Hid (wr.ownsRow w1.heap.size 53 1 v j vs) ∧ Hid (LLo wr vs ((T.take j).map (tlS xs)))) (fun _ x _ => T.length - (intOf x).toNat)
  case atStart => exact ⟨0, [], rfl, Nat.zero_le _, by (repeat (with_reducible first | exact Ext.refl _ | assumption | refine Ext.drew ?_ | refine Ext.drewN ?_ _ | refine Ext.alloc ?_ _ | refine Ext.trans ?_ (by with_reducible assumption))), own_nil _ _ _ _, LLo.nil _⟩
  case round =>
    obtain ⟨j, vs, rfl, hj, hbw, hown, hwide⟩ := hrel
    by_cases hc : j < T.length
    · have hgj := List.getElem?_eq_getElem (l := T) (i := j) hc
      obtain ⟨k, i, m, k1, k2, k3, k4, k5⟩ := HM.out _ (List.mem_of_getElem? hgj)
      obtain ⟨ad, rfl, hb, d0, d1, d2⟩ := (R1.ext hbw).getT hgj
      rw [k2] at hgj d0 d1 d2
      have HTK : Hid ((T.take (j + 1)).map (tlS xs) = (T.take j).map (tlS xs) ++ [sumsT xs k i m]) := by
        refine Lib.hid ?_
        rw [List.take_add_one, hgj, List.map_append]
        rfl
      have hvl : vs.length = j := by have := own_len hown.out; omega
      have hbw0 := hbw.size
      clear hgj k2
      go_wp2_with fail
      refine (SumsOf_any A0 n c0 xs k i m _ (by exact R0'.ext (by (repeat (with_reducible first | exact Ext.refl _ | assumption | refine Ext.drew ?_ | refine Ext.drewN ?_ _ | refine Ext.alloc ?_ _ | refine Ext.trans ?_ (by with_reducible assumption))))) hc0 hlo (by omega) k4 k5).mono ?_
      rintro _ w2 ⟨⟨v2, rfl, own2⟩, hb2⟩
      obtain ⟨A2, c2, rfl, -, -, -⟩ := own_rd own2
      have hs2 := hb2.size
      have hT4 : T.length ≤ 204 := by omega
      have ow2 : w2.ownsRow w1.heap.size 53 1 u6 j vs := own_ext hown.out (by (repeat (with_reducible first | exact Ext.refl _ | assumption | refine Ext.drew ?_ | refine Ext.drewN ?_ _ | refine Ext.alloc ?_ _ | refine Ext.trans ?_ (by with_reducible assumption))))
      have ll2 : LLo w2 (vs ++ [.slice A2 (sumsT xs k i m).length c2]) ((T.take j).map (tlS xs) ++ [sumsT xs k i m]) := (hwide.out.ext (by (repeat (with_reducible first | exact Ext.refl _ | assumption | refine Ext.drew ?_ | refine Ext.drewN ?_ _ | refine Ext.alloc ?_ _ | refine Ext.trans ?_ (by with_reducible assumption))))).snoc (own_lower own2 (Nat.zero_le _))
      rw [← HTK.out, sumsT_len] at ll2
      rw [sumsT_len]
      have HLL := Lib.hid ll2
      have HOW := Lib.hid ow2
      have e2 : Ext w1 w2 := by (repeat (with_reducible first | exact Ext.refl _ | assumption | refine Ext.drew ?_ | refine Ext.drewN ?_ _ | refine Ext.alloc ?_ _ | refine Ext.trans ?_ (by with_reducible assumption)))
      clear own2 ll2 ow2
      go_wp2_with (at_builtin; refine wpl_apps (by rfl) _ _ _ (by rfl) w1.heap.size 53 i0 _ 1 24 Tryd.underlying48 hi0 hz0 hz1 hz2 rfl (by omega) u6 _ _ (by rfl) (own_ext HOW.out ((Ext.refl _).alloc _)) ⟨w2.heap.size, 0, none⟩ 1 1 [.slice A2 m c2] (by rfl) (by rfl) (news_new w2 _ _ _ rfl) oneS (by omega) (by omega) (by omega) (by simp at hs2 ⊢; omega) ?_; intro g cap w3 own3 hg3 hor3 hlt3)
      have hb3 : Ext w1 w3 := gb_none (gb_row (gb_any ((e2.alloc _).gb none) none) hg3 (own_block HOW.out))
      have ll3 : LLo w3 (vs ++ [.slice A2 m c2]) ((T.take (j + 1)).map (tlS xs)) := (HLL.out.ext ((Ext.refl _).alloc _)).kept (own_ext HOW.out ((Ext.refl _).alloc _)) hg3
      go_roundw
      case rel => exact ⟨j + 1, _, by go_num, by omega, hb3, own3, ll3⟩
      case measure => simp [intOf]; omega
    · obtain rfl : j = T.length := by omega
      go_wp2_with fail
      go_ret2
      refine ⟨⟨_, rfl, vs, ?_, ?_⟩, E1.trans (by (repeat (with_reducible first | exact Ext.refl _ | assumption | refine Ext.drew ?_ | refine Ext.drewN ?_ _ | refine Ext.alloc ?_ _ | refine Ext.trans ?_ (by with_reducible assumption))))⟩
      · rw [List.length_map]; exact own_lower hown.out hE1
      · have := hwide.out
        rw [List.take_length] at this
        rw [HXS.out]; exact this
theorem ATiles_any (A : Option Addr) (n c : Nat) (es : List Ent) (w : World) (hr : Rd w 2 A n c (es.flatMap Ent.cells)) (hm : c ≤ maxLen) :
    Calls Tryd.prog 28 #[.slice A n c] w fun e w' => (∃ v, e = .returned (.tuple #[v, errR (entsErr es)]) ∧ OwnLL w w' v (tilesV es)) ∧ Ext w w' := by
  have hx := hr.lenE
  by_cases hk : entsOk es
  · refine (ATiles_all A n c es w hr hm hk).mono fun e w' ⟨⟨v, he, ho⟩, hb⟩ => ⟨⟨v, ?_, ?_⟩, hb⟩
    · rw [entsErr_ok hk]; exact he
    · unfold tilesV; rw [if_pos (entsErr_ok hk), hx]; exact ho
  · have hne := entsErr_bad hk
    have HT : Hid (tilesV es = []) := if_neg hne
    rw [HT.out, errR_ne hne]
    clear hx
    have HK := Lib.hid hk
    clear hk
    go_enter Tryd.func28, Tryd.ntmps28
    go_wp2_with fail
    refine (Leafs_bad A n c es _ hr hm HK.out).mono ?_
    rintro _ w0 ⟨rfl, hb0⟩
    simp only [errV]
    go_wp2_with fail
    go_ret2
    exact ⟨⟨_, rfl, OwnLL.none _ _⟩, by (repeat (with_reducible first | exact Ext.refl _ | assumption | refine Ext.drew ?_ | refine Ext.drewN ?_ _ | refine Ext.alloc ?_ _ | refine Ext.trans ?_ (by with_reducible assumption)))⟩
end Go.Proofs.YtelcabjhbgkfmaaDoor
