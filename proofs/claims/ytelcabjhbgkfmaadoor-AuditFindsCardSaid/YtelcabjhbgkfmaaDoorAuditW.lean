/- audit: plain. -/
import Derived.Test.YtelcabjhbgkfmaaDoorAudit
import Derived.Test.YtelcabjhbgkfmaaDoorGrown
import Derived.Test.YtelcabjhbgkfmaaDoorHds
import Derived.Test.YtelcabjhbgkfmaaDoorQuietT
import Derived.Test.YtelcabjhbgkfmaaDoorFindF
namespace Go.Proofs.YtelcabjhbgkfmaaDoor
open Go.RowKit
set_option linter.unusedVariables false

theorem take_sameG {α : Type} {xs ys : List α} {j : Nat} {y : α} (h : xs.take j = ys.take j) (h1 : xs[j]? = some y) (h2 : ys[j]? = some y) : xs.take (j + 1) = ys.take (j + 1) := by
  rw [List.take_add_one, List.take_add_one, h, h1, h2]
theorem take_partG {α : Type} {xs ys : List α} {j : Nat} {y z : α} (h1 : xs[j]? = some y) (h2 : ys[j]? = some z) (e : y ≠ z) : xs ≠ ys := by
  rintro rfl; rw [h1] at h2; injection h2 with h2; exact e h2
theorem take_wholeG {α : Type} {xs ys : List α} {n : Nat} (h : xs.take n = ys.take n) (hx : xs.length = n) (hy : ys.length = n) : xs = ys := by
  rwa [List.take_of_length_le (by omega), List.take_of_length_le (by omega)] at h
def eqL {α : Type} [DecidableEq α] (xs ys : List α) : Bool := decide (xs = ys)
theorem eqL_yes {α : Type} [DecidableEq α] {xs ys : List α} (h : xs = ys) : eqL xs ys = true := decide_eq_true h
theorem eqL_no {α : Type} [DecidableEq α] {xs ys : List α} (h : xs ≠ ys) : eqL xs ys = false := decide_eq_false h

/-- slices of ints in a row -/
def LLd (w : World) (vs : List Value) (xss : List (List Int)) : Prop :=
  vs.length = xss.length ∧ ∀ (i : Nat) (xs : List Int), xss[i]? = some xs → ∃ A c, vs[i]? = some (.slice A xs.length c) ∧ c ≤ maxLen ∧ Rd w 1 A xs.length c (xs.map (Value.int .i64))
theorem LLd.nil (w : World) : LLd w [] [] := ⟨rfl, fun i xs h => by simp at h⟩
theorem LLd.ext {w w' : World} {vs : List Value} {xss : List (List Int)} (h : LLd w vs xss) (e : Ext w w') : LLd w' vs xss :=
  ⟨h.1, fun i xs hx => by obtain ⟨A, c, h1, h2, h3⟩ := h.2 i xs hx; exact ⟨A, c, h1, h2, h3.ext e⟩⟩
theorem LLd.snoc {w : World} {vs : List Value} {xss : List (List Int)} {xs : List Int} {A : Option Addr} {c : Nat} (h : LLd w vs xss) (hm : c ≤ maxLen) (hr : Rd w 1 A xs.length c (xs.map (Value.int .i64))) : LLd w (vs ++ [.slice A xs.length c]) (xss ++ [xs]) := by
  refine ⟨by rw [List.length_append, List.length_append, h.1]; rfl, fun i ys hy => ?_⟩
  by_cases hi : i < xss.length
  · rw [List.getElem?_append_left hi] at hy
    obtain ⟨B, d, h1, h2, h3⟩ := h.2 i ys hy
    exact ⟨B, d, by rw [List.getElem?_append_left (by rw [h.1]; exact hi)]; exact h1, h2, h3⟩
  · have hii : i = xss.length := by
      have := (List.getElem?_eq_some_iff.1 hy).1
      simp at this; omega
    subst hii
    rw [List.getElem?_append_right (Nat.le_refl _), Nat.sub_self] at hy
    obtain rfl : xs = ys := by simpa using hy
    exact ⟨A, c, by rw [List.getElem?_append_right (by rw [h.1]; exact Nat.le_refl _), h.1, Nat.sub_self]; rfl, hm, hr⟩
theorem LLd.set {w : World} {vs : List Value} {xss : List (List Int)} {xs : List Int} {A : Option Addr} {c : Nat} (h : LLd w vs xss) (at_ : Nat) (hm : c ≤ maxLen) (hr : Rd w 1 A xs.length c (xs.map (Value.int .i64))) : LLd w (vs.set at_ (.slice A xs.length c)) (xss.set at_ xs) := by
  refine ⟨by rw [List.length_set, List.length_set, h.1], fun i ys hy => ?_⟩
  by_cases e : at_ = i
  · subst e
    have hl : at_ < xss.length := by
      have := (List.getElem?_eq_some_iff.1 hy).1
      simpa using this
    rw [List.getElem?_set_self hl] at hy
    obtain rfl : xs = ys := by injection hy
    exact ⟨A, c, by rw [List.getElem?_set_self (by rw [h.1]; exact hl)], hm, hr⟩
  · rw [List.getElem?_set_ne e] at hy
    obtain ⟨B, d, h1, h2, h3⟩ := h.2 i ys hy
    exact ⟨B, d, by rw [List.getElem?_set_ne e]; exact h1, h2, h3⟩

/-- the sums of a tile -/
def tlS (xs : List Int) (t : Tl) : List Int := sumsT xs t.level.toNat t.index.toNat t.wide.toNat
def tilesT (es : List Ent) : List Tl := if entsErr es = 0 then allT es.length 4 else []
def tilesV (es : List Ent) : List (List Int) := if entsErr es = 0 then (allT es.length 4).map (tlS (es.map Ent.leaf)) else []
theorem tilesV_map (es : List Ent) : tilesV es = (tilesT es).map (tlS (es.map Ent.leaf)) := by
  unfold tilesV tilesT
  split <;> rfl
theorem tilesV_len (es : List Ent) : (tilesV es).length = (tilesT es).length := by rw [tilesV_map, List.length_map]
theorem tilesT_len (es : List Ent) : (tilesT es).length ≤ 204 := by
  unfold tilesT
  split
  · rename_i h
    refine allT_len _ ?_ 4
    unfold entsErr at h
    split at h
    · cases h
    · omega
  · simp
/-- which of the first j tiles are not what they should be -/
def badJ (T : List Tl) (ys rs : List (List Int)) : Nat → List Tl
  | 0 => []
  | j + 1 => if ys[j]? = rs[j]? then badJ T ys rs j else badJ T ys rs j ++ (T[j]?).toList
theorem badJ_len (T : List Tl) (ys rs : List (List Int)) : ∀ j, (badJ T ys rs j).length ≤ j
  | 0 => Nat.le_refl _
  | j + 1 => by
    have := badJ_len T ys rs j
    unfold badJ
    split
    · omega
    · rw [List.length_append]
      have : (T[j]?).toList.length ≤ 1 := by cases T[j]? <;> simp
      omega
theorem badJ_same (T : List Tl) (ys : List (List Int)) : ∀ j, badJ T ys ys j = []
  | 0 => rfl
  | j + 1 => by rw [badJ, if_pos rfl, badJ_same T ys j]
theorem badJ_set {T : List Tl} {rs : List (List Int)} {at_ : Nat} {r r' : List Int} {t : Tl} (h : rs[at_]? = some r) (hr : r' ≠ r) (ht : T[at_]? = some t) : ∀ j, badJ T (rs.set at_ r') rs j = if at_ < j then [t] else []
  | 0 => rfl
  | j + 1 => by
    have ih := badJ_set h hr ht j
    have hl := (List.getElem?_eq_some_iff.1 h).1
    unfold badJ
    by_cases e : at_ = j
    · subst e
      rw [if_neg (by rw [List.getElem?_set_self hl, h]; intro e; injection e with e; exact hr e), ih, if_neg (by omega), if_pos (by omega), ht]; rfl
    · rw [if_pos (List.getElem?_set_ne e), ih]
      by_cases h2 : at_ < j
      · rw [if_pos h2, if_pos (by omega)]
      · rw [if_neg h2, if_neg (by omega)]
def badK (es : List Ent) (m : Nat) : Int := if entsErr es ≠ 0 then entsErr es else if m ≠ (tilesT es).length then 3 else 0
def badV (es : List Ent) (ys : List (List Int)) : List Tl := if badK es ys.length = 0 then badJ (tilesT es) ys (tilesV es) (tilesT es).length else []
end Go.Proofs.YtelcabjhbgkfmaaDoor

/- audit.Tiles, audit.Bad, audit.Whole: total. -/
namespace Go.Proofs.YtelcabjhbgkfmaaDoor
open Go.RowKit Go.WideShapes
set_option linter.unusedVariables false
attribute [local go_sem ↓] Go.wp_at_zero Go.wp_at_succ

theorem own_apart {w : World} {b b' n n' k k' : Nat} {e e' : TypeId} {v v' : Value} {xs xs' : List Value} (h : w.ownsRow b e k v n xs) (h' : w.ownsRow b' e' k' v' n' xs') (hne : e ≠ e') {g : Nat} (hg : v.ownBlock = some g) : v'.ownBlock ≠ some g := by
  intro hg'
  rcases h.2 with ⟨rfl, _⟩ | ⟨g1, cap, cur, rfl, _, hh, _⟩
  · simp [Value.ownBlock] at hg
  · rcases h'.2 with ⟨rfl, _⟩ | ⟨g2, cap', cur', rfl, _, hh', _⟩
    · simp [Value.ownBlock] at hg'
    · obtain rfl : g1 = g := by simpa [Value.ownBlock] using hg
      obtain rfl : g2 = g1 := by simpa [Value.ownBlock] using hg'
      rw [hh] at hh'
      simp at hh'
      exact hne hh'.2
theorem own_far {w : World} {b b' n n' k k' : Nat} {e e' : TypeId} {v v' : Value} {xs xs' : List Value} (h : w.ownsRow b e k v n xs) (h' : w.ownsRow b' e' k' v' n' xs') (hne : e ≠ e') : v'.ownBlock = none ∨ v'.ownBlock ≠ v.ownBlock := by
  cases hv : v'.ownBlock with
  | none => exact .inl rfl
  | some g =>
    refine .inr fun e => ?_
    exact own_apart h h' hne e.symm hv
/-- slices of ints of one's own, in a row -/
def LLo (w : World) (vs : List Value) (xss : List (List Int)) : Prop :=
  vs.length = xss.length ∧ ∀ (i : Nat) (xs : List Int), xss[i]? = some xs → ∃ v, vs[i]? = some v ∧ w.ownsRow 0 3 1 v xs.length (xs.map (Value.int .i64))
theorem LLo.nil (w : World) : LLo w [] [] := ⟨rfl, fun i xs h => by simp at h⟩
theorem LLo.ext {w w' : World} {vs : List Value} {xss : List (List Int)} (h : LLo w vs xss) (e : Ext w w') : LLo w' vs xss :=
  ⟨h.1, fun i xs hx => by obtain ⟨v, h1, h2⟩ := h.2 i xs hx; exact ⟨v, h1, own_ext h2 e⟩⟩
theorem LLo.kept {w w' : World} {vs : List Value} {xss : List (List Int)} {b n : Nat} {v : Value} {cs : List Value} (h : LLo w vs xss) (hv : w.ownsRow b 53 1 v n cs) (e : w.grownBy w' v.ownBlock) : LLo w' vs xss :=
  ⟨h.1, fun i xs hx => by
    obtain ⟨u, h1, h2⟩ := h.2 i xs hx
    exact ⟨u, h1, h2.kept e (own_far hv h2 (by decide))⟩⟩
theorem LLo.snoc {w : World} {vs : List Value} {xss : List (List Int)} {xs : List Int} {v : Value} (h : LLo w vs xss) (hr : w.ownsRow 0 3 1 v xs.length (xs.map (Value.int .i64))) : LLo w (vs ++ [v]) (xss ++ [xs]) := by
  refine ⟨by rw [List.length_append, List.length_append, h.1]; rfl, fun i ys hy => ?_⟩
  by_cases hi : i < xss.length
  · rw [List.getElem?_append_left hi] at hy
    obtain ⟨u, h1, h2⟩ := h.2 i ys hy
    exact ⟨u, by rw [List.getElem?_append_left (by rw [h.1]; exact hi)]; exact h1, h2⟩
  · have hii : i = xss.length := by
      have := (List.getElem?_eq_some_iff.1 hy).1
      simp at this; omega
    subst hii
    rw [List.getElem?_append_right (Nat.le_refl _), Nat.sub_self] at hy
    obtain rfl : xs = ys := by simpa using hy
    exact ⟨v, by rw [List.getElem?_append_right (by rw [h.1]; exact Nat.le_refl _), h.1, Nat.sub_self]; rfl, hr⟩
theorem LLo.rd {w : World} {vs : List Value} {xss : List (List Int)} (h : LLo w vs xss) : LLd w vs xss :=
  ⟨h.1, fun i xs hx => by
    obtain ⟨v, h1, h2⟩ := h.2 i xs hx
    obtain ⟨A, c, rfl, hc, hr, _⟩ := own_rd h2
    exact ⟨A, c, h1, hc, hr⟩⟩

set_option maxRecDepth 100000 in
theorem IEq_any (A A' : Option Addr) (n n' c c' : Nat) (xs ys : List Int) (w : World) (hr : Rd w 1 A n c (xs.map (Value.int .i64))) (hr' : Rd w 1 A' n' c' (ys.map (Value.int .i64))) (hm : c ≤ maxLen) (hm' : c' ≤ maxLen) :
    Calls Tryd.prog 63 #[.slice A n c, .slice A' n' c'] w fun e w' => e = .returned (.bool (eqL xs ys)) ∧ Ext w w' := by
  have HX := Lib.hid hr.lenI
  have HY := Lib.hid hr'.lenI
  have hl := hr.2.1
  have hl' := hr'.2.1
  unfold maxLen at hm hm'
  by_cases hn : n = n'
  · subst hn
    go_enter Tryd.func63, Tryd.ntmps63
    go_wp2_with fail
    go_loopw [13] (fun x wr => ∃ j : Nat, x = .int .i64 j ∧ j ≤ n ∧ Ext w wr ∧ Hid (xs.take j = ys.take j)) (fun x _ => n - (intOf x).toNat)
    case atStart => exact ⟨0, rfl, Nat.zero_le _, by (repeat (with_reducible first | exact Ext.refl _ | assumption | refine Ext.drew ?_ | refine Ext.drewN ?_ _ | refine Ext.alloc ?_ _ | refine Ext.trans ?_ (by with_reducible assumption))), rfl⟩
    case round =>
      obtain ⟨j, rfl, hj, hbw, HK⟩ := hrel
      by_cases hc : j < n
      · have h1 := List.getElem?_eq_getElem (l := xs) (i := j) (by rw [HX.out]; exact hc)
        have h2 := List.getElem?_eq_getElem (l := ys) (i := j) (by rw [HY.out]; exact hc)
        generalize xs[j]'(by rw [HX.out]; exact hc) = y at *
        generalize ys[j]'(by rw [HY.out]; exact hc) = z at *
        obtain ⟨ad, rfl, hb, c0⟩ := (hr.ext hbw).getI h1
        obtain ⟨ad', rfl, hb', c0'⟩ := (hr'.ext hbw).getI h2
        have hcN : (j : Int) < (n : Int) := by omega
        have h0N : (0 : Int) ≤ (j : Int) := by omega
        by_cases e : y = z
        · subst e
          have HT := Lib.hid (take_sameG HK.out h1 h2)
          clear h1 h2
          go_wp2_with fail
          go_quiet (fail)
          go_wp2_with fail
          go_roundw
          case rel => exact ⟨j + 1, by go_num, by omega, by (repeat (with_reducible first | exact Ext.refl _ | assumption | refine Ext.drew ?_ | refine Ext.drewN ?_ _ | refine Ext.alloc ?_ _ | refine Ext.trans ?_ (by with_reducible assumption))), HT⟩
          case measure => simp [intOf]; omega
        · have HT := Lib.hid (eqL_no (take_partG h1 h2 e))
          have e1 : (y == z) = false := by simp [e]
          have e2 : (y != z) = true := by simp [e]
          clear h1 h2 e
          go_wp2_with fail
          go_quiet (fail)
          go_wp2_with fail
          go_ret
          exact ⟨ret_bool HT.out.symm, by (repeat (with_reducible first | exact Ext.refl _ | assumption | refine Ext.drew ?_ | refine Ext.drewN ?_ _ | refine Ext.alloc ?_ _ | refine Ext.trans ?_ (by with_reducible assumption)))⟩
      · obtain rfl : j = n := by omega
        have HT := Lib.hid (eqL_yes (take_wholeG HK.out HX.out HY.out))
        go_wp2_with fail
        go_ret
        exact ⟨ret_bool HT.out.symm, by (repeat (with_reducible first | exact Ext.refl _ | assumption | refine Ext.drew ?_ | refine Ext.drewN ?_ _ | refine Ext.alloc ?_ _ | refine Ext.trans ?_ (by with_reducible assumption)))⟩
  · have HT : Hid (eqL xs ys = false) := eqL_no (by intro e; rw [e, HY.out] at HX; exact hn HX.out.symm)
    have e1 : ((n : Int) != (n' : Int)) = true := by simp; omega
    clear hn
    go_enter Tryd.func63, Tryd.ntmps63
    go_wp2_with fail
    go_ret
    exact ⟨ret_bool HT.out.symm, by (repeat (with_reducible first | exact Ext.refl _ | assumption | refine Ext.drew ?_ | refine Ext.drewN ?_ _ | refine Ext.alloc ?_ _ | refine Ext.trans ?_ (by with_reducible assumption)))⟩

/-- rows of ints of one's own -/
def OwnLL (w w' : World) (v : Value) (xss : List (List Int)) : Prop := ∃ vs, w'.ownsRow w.heap.size 53 1 v xss.length vs ∧ LLo w' vs xss
theorem OwnLL.ext {w w' w2 : World} {v : Value} {xss : List (List Int)} (h : OwnLL w w' v xss) (e : Ext w' w2) : OwnLL w w2 v xss := by
  obtain ⟨vs, h1, h2⟩ := h
  exact ⟨vs, own_ext h1 e, h2.ext e⟩
theorem OwnLL.rd {w w' : World} {v : Value} {xss : List (List Int)} (h : OwnLL w w' v xss) : ∃ A c vs, v = .slice A xss.length c ∧ c ≤ maxLen ∧ Rd w' 1 A xss.length c vs ∧ LLd w' vs xss := by
  obtain ⟨vs, h1, h2⟩ := h
  obtain ⟨A, c, rfl, hc, hr, _⟩ := own_rd h1
  exact ⟨A, c, vs, rfl, hc, hr, h2.rd⟩
theorem OwnLL.none (w w' : World) : OwnLL w w' (.slice none 0 0) [] := ⟨[], own_nil _ _ _ _, LLo.nil _⟩

set_option maxRecDepth 100000 in
set_option maxHeartbeats 2000000 in
theorem ATiles_all (A : Option Addr) (n c : Nat) (es : List Ent) (w : World) (hr : Rd w 2 A n c (es.flatMap Ent.cells)) (hm : c ≤ maxLen) (hk : entsOk es) :
    Calls Tryd.prog 28 #[.slice A n c] w fun e w' => (∃ v, e = .returned (.tuple #[v, .nilIface]) ∧ OwnLL w w' v ((allT n 4).map (tlS (es.map Ent.leaf)))) ∧ Ext w w' := by
  have hx := hr.lenE
  have hn : n ≤ 200 := by have := hk.1; omega
  obtain ⟨T, hT⟩ : ∃ T, T = allT n 4 := ⟨_, rfl⟩
  have hlo : leafsOk (es.map Ent.leaf) := ⟨by rw [List.length_map]; omega, by
    unfold allV
    rw [List.all_eq_true]
    intro x hx
    rw [List.mem_map] at hx
    obtain ⟨e, _, rfl⟩ := hx
    exact vld_sum _⟩
  have hll := allT_len n hn 4
  rw [← hT] at hll ⊢
  have HM := Lib.hid (allT_mem n 4)
  rw [← hT] at HM
  have HTT := Lib.hid hT
  clear hT
  have HX := Lib.hid hx
  have HK := Lib.hid hk
  clear hx hk
  obtain ⟨i0, hi0, hz0, hz1, hz2⟩ := info_parts info_ints
  go_enter Tryd.func28, Tryd.ntmps28
  go_wp2_with fail
  refine (Leafs_ok A n c es _ hr hm HK.out).mono ?_
  rintro _ w0 ⟨⟨v0, rfl, own0⟩, hb0⟩
  rw [HX.out] at own0
  obtain ⟨A0, c0, rfl, hc0, R0, _⟩ := own_rd own0
  obtain ⟨xs, hxs⟩ : ∃ xs, es.map Ent.leaf = xs := ⟨_, rfl⟩
  rw [hxs] at R0 hlo
  have HXS := Lib.hid hxs
  clear hxs own0
  go_wp2_with fail
  refine (AllOf_any n _ hn).mono ?_
  rintro _ w1 ⟨⟨v1, rfl, own1⟩, hb1⟩
  rw [← HTT.out] at own1
  obtain ⟨A1, c1, rfl, hc1, R1, _⟩ := own_rd own1
  have E1 : Ext w w1 := by (repeat (with_reducible first | exact Ext.refl _ | assumption | refine Ext.drew ?_ | refine Ext.drewN ?_ _ | refine Ext.alloc ?_ _ | refine Ext.trans ?_ (by with_reducible assumption)))
  have R0' := R0.ext hb1
  have hE1 := E1.size
  clear own1 R0 hb0 hb1
  go_wp2_with fail
  go_loopw [6, 21] (fun v x wr => ∃ (j : Nat) (vs : List Value), x = .int .i64 j ∧ j ≤ T.length ∧ Ext w1 wr ∧ Hid (wr.ownsRow w1.heap.size 53 1 v j vs) ∧ Hid (LLo wr vs ((T.take j).map (tlS xs)))) (fun _ x _ => T.length - (intOf x).toNat)
  case atStart => exact ⟨0, [], rfl, Nat.zero_le _, by (repeat (with_reducible first | exact Ext.refl _ | assumption | refine Ext.drew ?_ | refine Ext.drewN ?_ _ | refine Ext.alloc ?_ _ | refine Ext.trans ?_ (by with_reducible assumption))), own_nil _ _ _ _, LLo.nil _⟩
  case round =>
    obtain ⟨j, vs, rfl, hj, hbw, hown, hwide⟩ := hrel
    by_cases hc : j < T.length
    · have hgj := List.getElem?_eq_getElem (l := T) (i := j) hc
      obtain ⟨k, i, m, k1, k2, k3, k4, k5⟩ := HM.out _ (List.mem_of_getElem? hgj)
      obtain ⟨ad, rfl, hb, d0, d1, d2⟩ := (R1.ext hbw).getT hgj
      rw [k2] at hgj d0 d1 d2
      have HTK : Hid ((T.take (j + 1)).map (tlS xs) = (T.take j).map (tlS xs) ++ [sumsT xs k i m]) := by
        refine Lib.hid ?_
        rw [List.take_add_one, hgj, List.map_append]
        rfl
      have hvl : vs.length = j := by have := own_len hown.out; omega
      have hbw0 := hbw.size
      clear hgj k2
      go_wp2_with fail
      refine (SumsOf_any A0 n c0 xs k i m _ (by exact R0'.ext (by (repeat (with_reducible first | exact Ext.refl _ | assumption | refine Ext.drew ?_ | refine Ext.drewN ?_ _ | refine Ext.alloc ?_ _ | refine Ext.trans ?_ (by with_reducible assumption))))) hc0 hlo (by omega) k4 k5).mono ?_
      rintro _ w2 ⟨⟨v2, rfl, own2⟩, hb2⟩
      obtain ⟨A2, c2, rfl, -, -, -⟩ := own_rd own2
      have hs2 := hb2.size
      have hT4 : T.length ≤ 204 := by omega
      have ow2 : w2.ownsRow w1.heap.size 53 1 u6 j vs := own_ext hown.out (by (repeat (with_reducible first | exact Ext.refl _ | assumption | refine Ext.drew ?_ | refine Ext.drewN ?_ _ | refine Ext.alloc ?_ _ | refine Ext.trans ?_ (by with_reducible assumption))))
      have ll2 : LLo w2 (vs ++ [.slice A2 (sumsT xs k i m).length c2]) ((T.take j).map (tlS xs) ++ [sumsT xs k i m]) := (hwide.out.ext (by (repeat (with_reducible first | exact Ext.refl _ | assumption | refine Ext.drew ?_ | refine Ext.drewN ?_ _ | refine Ext.alloc ?_ _ | refine Ext.trans ?_ (by with_reducible assumption))))).snoc (own_lower own2 (Nat.zero_le _))
      rw [← HTK.out, sumsT_len] at ll2
      rw [sumsT_len]
      have HLL := Lib.hid ll2
      have HOW := Lib.hid ow2
      have e2 : Ext w1 w2 := by (repeat (with_reducible first | exact Ext.refl _ | assumption | refine Ext.drew ?_ | refine Ext.drewN ?_ _ | refine Ext.alloc ?_ _ | refine Ext.trans ?_ (by with_reducible assumption)))
      clear own2 ll2 ow2
      go_wp2_with (at_builtin; refine wpl_apps (by rfl) _ _ _ (by rfl) w1.heap.size 53 i0 _ 1 24 Tryd.underlying48 hi0 hz0 hz1 hz2 rfl (by omega) u6 _ _ (by rfl) (own_ext HOW.out ((Ext.refl _).alloc _)) ⟨w2.heap.size, 0, none⟩ 1 1 [.slice A2 m c2] (by rfl) (by rfl) (news_new w2 _ _ _ rfl) oneS (by omega) (by omega) (by omega) (by simp at hs2 ⊢; omega) ?_; intro g cap w3 own3 hg3 hor3 hlt3)
      have hb3 : Ext w1 w3 := gb_none (gb_row (gb_any ((e2.alloc _).gb none) none) hg3 (own_block HOW.out))
      have ll3 : LLo w3 (vs ++ [.slice A2 m c2]) ((T.take (j + 1)).map (tlS xs)) := (HLL.out.ext ((Ext.refl _).alloc _)).kept (own_ext HOW.out ((Ext.refl _).alloc _)) hg3
      go_roundw
      case rel => exact ⟨j + 1, _, by go_num, by omega, hb3, own3, ll3⟩
      case measure => simp [intOf]; omega
    · obtain rfl : j = T.length := by omega
      go_wp2_with fail
      go_ret2
      refine ⟨⟨_, rfl, vs, ?_, ?_⟩, E1.trans (by (repeat (with_reducible first | exact Ext.refl _ | assumption | refine Ext.drew ?_ | refine Ext.drewN ?_ _ | refine Ext.alloc ?_ _ | refine Ext.trans ?_ (by with_reducible assumption))))⟩
      · rw [List.length_map]; exact own_lower hown.out hE1
      · have := hwide.out
        rw [List.take_length] at this
        rw [HXS.out]; exact this
theorem ATiles_any (A : Option Addr) (n c : Nat) (es : List Ent) (w : World) (hr : Rd w 2 A n c (es.flatMap Ent.cells)) (hm : c ≤ maxLen) :
    Calls Tryd.prog 28 #[.slice A n c] w fun e w' => (∃ v, e = .returned (.tuple #[v, errR (entsErr es)]) ∧ OwnLL w w' v (tilesV es)) ∧ Ext w w' := by
  have hx := hr.lenE
  by_cases hk : entsOk es
  · refine (ATiles_all A n c es w hr hm hk).mono fun e w' ⟨⟨v, he, ho⟩, hb⟩ => ⟨⟨v, ?_, ?_⟩, hb⟩
    · rw [entsErr_ok hk]; exact he
    · unfold tilesV; rw [if_pos (entsErr_ok hk), hx]; exact ho
  · have hne := entsErr_bad hk
    have HT : Hid (tilesV es = []) := if_neg hne
    rw [HT.out, errR_ne hne]
    clear hx
    have HK := Lib.hid hk
    clear hk
    go_enter Tryd.func28, Tryd.ntmps28
    go_wp2_with fail
    refine (Leafs_bad A n c es _ hr hm HK.out).mono ?_
    rintro _ w0 ⟨rfl, hb0⟩
    simp only [errV]
    go_wp2_with fail
    go_ret2
    exact ⟨⟨_, rfl, OwnLL.none _ _⟩, by (repeat (with_reducible first | exact Ext.refl _ | assumption | refine Ext.drew ?_ | refine Ext.drewN ?_ _ | refine Ext.alloc ?_ _ | refine Ext.trans ?_ (by with_reducible assumption)))⟩
end Go.Proofs.YtelcabjhbgkfmaaDoor

/- audit.Bad, audit.Whole. -/
namespace Go.Proofs.YtelcabjhbgkfmaaDoor
open Go.RowKit Go.WideShapes
set_option linter.unusedVariables false
attribute [local go_sem ↓] Go.wp_at_zero Go.wp_at_succ

set_option maxRecDepth 100000 in
set_option maxHeartbeats 2000000 in
theorem ABad_any (A : Option Addr) (n c : Nat) (es : List Ent) (A' : Option Addr) (m c' : Nat) (vs : List Value) (ys : List (List Int)) (w : World) (hr : Rd w 2 A n c (es.flatMap Ent.cells)) (hm : c ≤ maxLen)
    (hr' : Rd w 1 A' m c' vs) (hm' : c' ≤ maxLen) (hl' : LLd w vs ys) :
    Calls Tryd.prog 29 #[.slice A n c, .slice A' m c'] w fun e w' => (∃ v, e = .returned (.tuple #[v, errR (badK es m)]) ∧ OwnT w w' v (badV es ys)) ∧ Ext w w' := by
  obtain ⟨hE, hN, hG0⟩ := errR_rules
  have hvl : vs.length = m := by have := hr'.1; omega
  have hyl : ys.length = m := hl'.1.symm.trans hvl
  have hx := hr.lenE
  have hmc := hr'.2.1
  have hms : c' ≤ 9223372036854775807 := by unfold maxLen at hm'; omega
  have HB1 : Hid (entsErr es ≠ 0 → badK es m = entsErr es ∧ badV es ys = []) := Lib.hid fun h => by
    have h1 : badK es m = entsErr es := by unfold badK; rw [if_pos h]
    refine ⟨h1, ?_⟩
    unfold badV; rw [hyl, h1, if_neg h]
  have HB2 : Hid (entsErr es = 0 → m ≠ (tilesT es).length → badK es m = 3 ∧ badV es ys = []) := Lib.hid fun h h2 => by
    have h1 : badK es m = 3 := by unfold badK; rw [if_neg (not_not_intro h), if_pos h2]
    refine ⟨h1, ?_⟩
    unfold badV; rw [hyl, h1, if_neg (by decide)]
  have HB3 : Hid (entsErr es = 0 → m = (tilesT es).length → badK es m = 0 ∧ badV es ys = badJ (tilesT es) ys (tilesV es) m) := Lib.hid fun h h2 => by
    have h1 : badK es m = 0 := by unfold badK; rw [if_neg (not_not_intro h), if_neg (not_not_intro h2)]
    refine ⟨h1, ?_⟩
    unfold badV; rw [hyl, h1, if_pos rfl, ← h2]
  have HT : Hid (entsErr es = 0 → tilesT es = allT n 4 ∧ n ≤ 200) := Lib.hid fun h => by
    refine ⟨by unfold tilesT; rw [if_pos h, hx], ?_⟩
    rw [← hx]
    unfold entsErr at h
    split at h
    · cases h
    · omega
  have HA := Lib.hid (ATiles_any A n c es w hr hm)
  have htl := tilesT_len es
  have HVL := Lib.hid (tilesV_len es)
  obtain ⟨ek, hek⟩ : ∃ v, entsErr es = v := ⟨_, rfl⟩
  obtain ⟨bk, hbk⟩ : ∃ v, badK es m = v := ⟨_, rfl⟩
  obtain ⟨bv, hbv⟩ : ∃ v, badV es ys = v := ⟨_, rfl⟩
  obtain ⟨T, hT⟩ : ∃ v, tilesT es = v := ⟨_, rfl⟩
  obtain ⟨rs, hrs⟩ : ∃ v, tilesV es = v := ⟨_, rfl⟩
  rw [hek] at HB1 HB2 HB3 HT HA
  rw [hbk, hbv] at HB1 HB2 HB3
  rw [hT] at HB2 HB3 HT htl HVL
  rw [hrs] at HB3 HA HVL
  rw [hbk, hbv]
  have HL := Lib.hid hl'
  have HR' := Lib.hid hr'
  have HYL := Lib.hid hyl
  clear hek hbk hbv hT hrs hl' hr' hvl hyl hx hr
  obtain ⟨i0, hi0, hz0, hz1, hz2⟩ := info_parts info_tile
  go_enter Tryd.func29, Tryd.ntmps29
  go_wp2_with fail
  refine HA.out.mono ?_
  rintro _ w1 ⟨⟨v1, rfl, own1⟩, hb1⟩
  obtain ⟨A1, c1, rs', rfl, hc1, R1, L1⟩ := own1.rd
  rw [HVL.out] at R1
  rw [HVL.out]
  have hT1 := R1.2.1
  have hc1s : c1 ≤ 9223372036854775807 := by unfold maxLen at hc1; omega
  by_cases h0 : ek = 0
  case neg =>
    obtain ⟨rfl, rfl⟩ := HB1.out h0
    have hok := isOk_no h0
    clear HB1 HB2 HB3 h0
    go_wp2_with fail
    go_ret2
    exact ⟨⟨_, rfl, own_nil _ _ _ _⟩, hb1⟩
  subst h0
  rw [errR_0]
  obtain ⟨hTn, hn⟩ := HT.out rfl
  have HTN := Lib.hid hTn
  clear hTn HB1 HT
  by_cases h1 : m = T.length
  case neg =>
    obtain ⟨rfl, rfl⟩ := HB2.out rfl h1
    have e1 : ((m : Int) != (T.length : Int)) = true := by simp; omega
    clear HB2 HB3 h1
    go_wp2_with fail
    go_ret2
    exact ⟨⟨_, rfl, own_nil _ _ _ _⟩, hb1⟩
  obtain ⟨rfl, hbv⟩ := HB3.out rfl h1
  have HBV := Lib.hid hbv
  have HM := Lib.hid h1
  have HAO := Lib.hid fun W => AllOf_any n W hn
  rw [← HTN.out] at HAO
  rw [← h1] at R1 ⊢
  have hm204 : m ≤ 204 := by omega
  clear HB2 HB3 h1 hbv htl own1
  have HR1 := Lib.hid R1
  have HL1 := Lib.hid L1
  clear R1 L1
  go_wp2_with fail
  refine (HAO.out _).mono ?_
  rintro _ w2 ⟨⟨v2, rfl, own2⟩, hb2⟩
  obtain ⟨A2, c2, rfl, hc2, R2, _⟩ := own_rd own2
  rw [← HM.out] at R2 ⊢
  have hT2 := R2.2.1
  have hc2s : c2 ≤ 9223372036854775807 := by unfold maxLen at hc2; omega
  have E2 : Ext w w2 := hb1.trans hb2
  have hE2 := E2.size
  have HR2 := Lib.hid R2
  clear own2 R2
  go_wp2_with fail
  go_loopw [8, 29] (fun v x wr => ∃ j : Nat, x = .int .i64 j ∧ j ≤ m ∧ Ext w2 wr ∧ Hid (OwnT w2 wr v (badJ T ys rs j))) (fun _ x _ => m - (intOf x).toNat)
  case atStart => exact ⟨0, rfl, Nat.zero_le _, Ext.refl _, own_nil _ _ _ _⟩
  case round =>
    obtain ⟨j, rfl, hj, hbw, hown⟩ := hrel
    by_cases hc : j < m
    · have hgt := List.getElem?_eq_getElem (l := T) (i := j) (by rw [← HM.out]; exact hc)
      have hgy := List.getElem?_eq_getElem (l := ys) (i := j) (by rw [HYL.out]; exact hc)
      have hgr := List.getElem?_eq_getElem (l := rs) (i := j) (by rw [HVL.out, ← HM.out]; exact hc)
      generalize T[j]'(by rw [← HM.out]; exact hc) = t at *
      generalize ys[j]'(by rw [HYL.out]; exact hc) = y at *
      generalize rs[j]'(by rw [HVL.out, ← HM.out]; exact hc) = r at *
      obtain ⟨Ay, cy, gy, hcy, Ry⟩ := HL.out.2 j y hgy
      obtain ⟨Ar, cr, gr, hcr, Rr⟩ := HL1.out.2 j r hgr
      have e1r : Ext w1 wr := hb2.trans hbw
      have e0r : Ext w wr := E2.trans hbw
      obtain ⟨ad, rfl, hb, d0, d1, d2⟩ := (HR2.out.ext hbw).getT hgt
      obtain ⟨ady, rfl, hby, cy0⟩ := (HR'.out.ext e0r).at_ gy
      obtain ⟨adr, rfl, hbr, cr0⟩ := (HR1.out.ext e1r).at_ gr
      have HJ1 : Hid (y = r → badJ T ys rs (j + 1) = badJ T ys rs j) := Lib.hid fun e => by
        rw [badJ, if_pos (by rw [hgy, hgr, e])]
      have HJ2 : Hid (y ≠ r → badJ T ys rs (j + 1) = badJ T ys rs j ++ [t]) := Lib.hid fun e => by
        rw [badJ, if_neg (by rw [hgy, hgr]; intro h; injection h with h; exact e h), hgt]; rfl
      have HEQ := Lib.hid fun W (e : Ext wr W) => IEq_any Ay Ar y.length r.length cy cr y r W (Ry.ext (e0r.trans e)) (Rr.ext (e1r.trans e)) hcy hcr
      have hbl := badJ_len T ys rs j
      obtain ⟨qb, hqb⟩ : ∃ b, eqL y r = b := ⟨_, rfl⟩
      have HQB := Lib.hid hqb
      rw [hqb] at HEQ
      clear hgt hgy hgr gy gr Ry Rr hqb
      obtain ⟨t0, t1, t2⟩ := t
      simp only at d0 d1 d2
      generalize badJ T ys rs j = L at *
      have hbk : ad.block < wr.heap.size := hb
      have B3 := Bk.at_ wr 62 #[.int .i64 t0, .int .i64 t1, .int .i64 t2] wr.heap.size rfl
      have e3 : Ext wr (wr.alloc (.cells #[.int .i64 t0, .int .i64 t1, .int .i64 t2] 62)) := (Ext.refl _).alloc _
      have hby' : (ady.add j).block < wr.heap.size := by rw [blk_add]; exact hby
      have hbr' : (adr.add j).block < wr.heap.size := by rw [blk_add]; exact hbr
      have HE3 := Lib.hid e3
      go_upto_region 10 with (fail)
      generalize wr.alloc (.cells #[.int .i64 t0, .int .i64 t1, .int .i64 t2] 62) = W3 at *
      have fy := WE.row ((HE3.out.cell hby').trans cy0) (HE3.out.lt hby')
      have fr := WE.row ((HE3.out.cell hbr').trans cr0) (HE3.out.lt hbr')
      have hjm : (j : Int) < (m : Int) := by omega
      clear d0 d1 d2 cy0 cr0 e3
      (refine wp_region_ext (w0 := W3) (by kernel_rfl) (by kernel_rfl) (by (repeat (with_reducible first | exact Ext.refl _ | assumption | refine Ext.drew ?_ | refine Ext.drewN ?_ _ | refine Ext.alloc ?_ _ | refine Ext.trans ?_ (by with_reducible assumption)))) ?_; (repeat (go_big_quiet_step ((go_at_call 63; exact quietE (HEQ.out _ (HE3.out.trans (WE.h _))))))); refine wpQuiet_nil ?_)
      intro w4 hb4
      clear fy fr
      have e4 : Ext w2 w4 := (hbw.trans HE3.out).trans hb4
      have B4 := B3.ext hb4
      have y0 := B4.cell 0
      have y1 := B4.cell 1
      have y2 := B4.cell 2
      have hs4 := e4.size
      have ow4 : OwnT w2 w4 u8 L := own_ext (own_ext hown.out HE3.out) hb4
      have HOW := Lib.hid ow4
      clear ow4 hown B3
      cases qb with
      | true =>
        have hj1 := HJ1.out (of_decide_eq_true HQB.out)
        have HJ := Lib.hid hj1
        clear hj1 HJ1 HJ2 HQB
        go_wp2_with fail
        go_roundw
        case rel => exact ⟨j + 1, by go_num, by omega, e4, Lib.hid (by rw [HJ.out]; exact HOW.out)⟩
        case measure => simp [intOf]; omega
      | false =>
        have hj1 := HJ2.out (of_decide_eq_false HQB.out)
        have HJ := Lib.hid hj1
        clear hj1 HJ1 HJ2 HQB
        go_wp2_with (at_builtin; refine wpl_app (by rfl) _ _ _ (by rfl) w2.heap.size 62 i0 _ 3 24 Tryd.underlying54 hi0 hz0 hz1 hz2 rfl (by omega) u8 _ _ (by rfl) ((HOW.out).alloc _) w4.heap.size 1 (Tl.cells ⟨t0, t1, t2⟩) rfl (by rfl) (news_new w4 _ _ _ rfl) (oneT _) (by omega) (by omega) (by simp; omega) ?_; intro g cap w5 own5 hext5)
        go_roundw
        case rel => exact ⟨j + 1, by go_num, by omega, hext5 _ (Nat.le_refl _) (by (repeat (with_reducible first | exact Ext.refl _ | assumption | refine Ext.drew ?_ | refine Ext.drewN ?_ _ | refine Ext.alloc ?_ _ | refine Ext.trans ?_ (by with_reducible assumption)))), OwnT.mk own5 (by rw [HJ.out]; simp) (by rw [HJ.out]; simp [List.flatMap_append])⟩
        case measure => simp [intOf]; omega
    · obtain rfl : j = m := by omega
      go_wp2_with fail
      go_ret2
      refine ⟨⟨_, rfl, ?_⟩, E2.trans hbw⟩
      rw [HBV.out]; exact own_lower hown.out hE2

def whlK (es : List Ent) (h : Hd) (key : Int) : Int :=
  if verK h key ≠ 0 then verK h key else if entsErr es ≠ 0 then entsErr es else if (es.length : Int) ≠ h.size then 3 else if ofL (es.map Ent.leaf) ≠ h.root then 8 else 0
set_option maxRecDepth 100000 in
set_option maxHeartbeats 1000000 in
theorem AWhole_any (A : Option Addr) (n c : Nat) (es : List Ent) (h : Hd) (key : Int) (w : World) (hD : DebG w) (hP : PowG w) (hr : Rd w 2 A n c (es.flatMap Ent.cells)) (hm : c ≤ maxLen) :
    Calls Tryd.prog 32 #[.slice A n c, h.val, .int .i64 key] w fun e w' => e = .returned (errR (whlK es h key)) ∧ Ext w w' := by
  obtain ⟨hE, hN, hG0⟩ := errR_rules
  have hx := hr.lenE
  have HV := Lib.hid fun W (e : Ext w W) => Verify_any h key W (hD.ext e) (hP.ext e)
  have HR := Lib.hid hr
  have HW : Hid (whlK es h key = if verK h key ≠ 0 then verK h key else if entsErr es ≠ 0 then entsErr es else if (n : Int) ≠ h.size then 3 else if ofL (es.map Ent.leaf) ≠ h.root then 8 else 0) := by rw [← hx]; exact rfl
  have HL1 : Hid (entsOk es → entsErr es = 0 ∧ n ≤ 200 ∧ leafsOk (es.map Ent.leaf)) := Lib.hid fun hk => ⟨entsErr_ok hk, by rw [← hx]; exact hk.1, ⟨by rw [List.length_map]; exact hk.1, by
    unfold allV
    rw [List.all_eq_true]
    intro x hx
    rw [List.mem_map] at hx
    obtain ⟨e, _, rfl⟩ := hx
    exact vld_sum _⟩⟩
  have HLO := Lib.hid (Leafs_ok A n c es)
  have HLB := Lib.hid (Leafs_bad A n c es)
  rw [hx] at HLO
  obtain ⟨vk, hvk⟩ : ∃ v, verK h key = v := ⟨_, rfl⟩
  obtain ⟨wk, hwk⟩ : ∃ v, whlK es h key = v := ⟨_, rfl⟩
  rw [hvk] at HV HW
  rw [hwk] at HW ⊢
  clear hvk hwk hD hP hr hx
  obtain ⟨a0, a1, a2, a3⟩ := h
  simp only [Hd.val] at *
  have A0 := Bk.at_ w 40 #[.int .i64 a0, .int .i64 a1, .int .i64 a2, .int .i64 a3] w.heap.size rfl
  have e0 : Ext w (w.alloc (.cells #[.int .i64 a0, .int .i64 a1, .int .i64 a2, .int .i64 a3] 40)) := by (repeat (with_reducible first | exact Ext.refl _ | assumption | refine Ext.drew ?_ | refine Ext.drewN ?_ _ | refine Ext.alloc ?_ _ | refine Ext.trans ?_ (by with_reducible assumption)))
  go_enter Tryd.func32, Tryd.ntmps32
  go_upto_region 1 with (fail)
  generalize (w.alloc (.cells #[.int .i64 a0, .int .i64 a1, .int .i64 a2, .int .i64 a3] 40)) = W0 at *
  obtain ⟨g0, hg0⟩ : ∃ g, w.heap.size = g := ⟨_, rfl⟩
  rw [hg0] at A0
  try rw [hg0]
  have HE0 := Lib.hid e0
  clear e0 hg0
  have y0 := A0.cell 0
  have y1 := A0.cell 1
  have y2 := A0.cell 2
  have y3 := A0.cell 3
  go_wp2_with fail
  refine (HV.out _ HE0.out).mono ?_
  rintro _ w1 ⟨rfl, hb1⟩
  have HE1 := Lib.hid (HE0.out.trans hb1)
  have A1 := A0.ext hb1
  clear y0 y1 y2 y3 HV HE0 A0 hb1
  by_cases hv : vk = 0
  case neg =>
    obtain rfl : wk = vk := HW.out.trans (if_pos hv)
    have hok := isOk_no hv
    clear hv HW
    go_wp2_with fail
    go_ret
    exact ⟨rfl, HE1.out⟩
  subst hv
  rw [errR_0]
  have HW1 := Lib.hid (HW.out.trans (if_neg (not_not_intro rfl)))
  clear HW
  by_cases hk : entsOk es
  case neg =>
    have hne := entsErr_bad hk
    obtain rfl : wk = entsErr es := HW1.out.trans (if_pos hne)
    have HNE := Lib.hid hne
    have HK := Lib.hid hk
    clear hne hk HW1
    go_wp2_with fail
    refine (HLB.out _ (HR.out.ext HE1.out) hm HK.out).mono ?_
    rintro _ w2 ⟨rfl, hb2⟩
    simp only [errV]
    go_wp2_with fail
    go_ret
    exact ⟨by rw [errR_ne HNE.out]; rfl, HE1.out.trans hb2⟩
  obtain ⟨h0, hn, hlo⟩ := HL1.out hk
  have HW2 := Lib.hid (HW1.out.trans (if_neg (not_not_intro h0)))
  have HK := Lib.hid hk
  have HLV := Lib.hid hlo.2
  clear h0 hk hlo HW1 HL1 HLB
  obtain ⟨xs, hxs⟩ : ∃ xs, es.map Ent.leaf = xs := ⟨_, rfl⟩
  rw [hxs] at HLO HLV HW2
  obtain ⟨r, hr2⟩ : ∃ v, ofL xs = v := ⟨_, rfl⟩
  have HO := Lib.hid hr2
  rw [hr2] at HW2
  clear hxs hr2
  go_wp2_with fail
  refine (HLO.out _ (HR.out.ext HE1.out) hm HK.out).mono ?_
  rintro _ w2 ⟨⟨v2, rfl, own2⟩, hb2⟩
  obtain ⟨A2', c2, rfl, hc2, R2, _⟩ := own_rd own2
  have HR2 := Lib.hid R2
  have HE2 := Lib.hid (HE1.out.trans hb2)
  have A2 := A1.ext hb2
  have y0 := A2.cell 0
  clear own2 R2 hb2 A1 HE1
  by_cases h3 : (n : Int) = a0
  case neg =>
    obtain rfl : wk = 3 := HW2.out.trans (if_pos h3)
    have q1 : ((n : Int) != a0) = true := by simp [h3]
    clear h3 HW2
    go_wp2_with fail
    go_ret
    exact ⟨rfl, HE2.out⟩
  have HW3 := Lib.hid (HW2.out.trans (if_neg (not_not_intro h3)))
  subst h3
  have x1 : ∀ x : WE w2, x.W.cell? ⟨g0, 1, none⟩ = some (.int .i64 a1) := fun x => (A2.ext x.h).cell 1
  have HOF := Lib.hid fun W (e : Ext w2 W) => Of_any n A2' n c2 xs W (Nat.le_refl _) (HR2.out.ext e) hc2 (by omega) HLV.out
  rw [HO.out] at HOF
  clear HW2
  go_upto_region 9 with (fail)
  (refine wp_region_ext (w0 := w2) (by kernel_rfl) (by kernel_rfl) (by (repeat (with_reducible first | exact Ext.refl _ | assumption | refine Ext.drew ?_ | refine Ext.drewN ?_ _ | refine Ext.alloc ?_ _ | refine Ext.trans ?_ (by with_reducible assumption)))) ?_; (repeat (go_big_quiet_step ((go_at_call 67; exact quietE (HOF.out _ (WE.h _)))))); refine wpQuiet_nil ?_)
  intro w3 hb3
  clear x1 y0
  have e3 := HE2.out.trans hb3
  by_cases h8 : r = a1
  · obtain rfl : wk = 0 := HW3.out.trans (if_neg (not_not_intro h8))
    subst h8
    go_wp2_with fail
    go_ret
    exact ⟨rfl, e3⟩
  · obtain rfl : wk = 8 := HW3.out.trans (if_pos h8)
    have q1 : (r != a1) = true := by simp [h8]
    have q2 : (r == a1) = false := by simp [h8]
    clear h8 HW3
    go_wp2_with fail
    go_ret
    exact ⟨rfl, e3⟩
end Go.Proofs.YtelcabjhbgkfmaaDoor
