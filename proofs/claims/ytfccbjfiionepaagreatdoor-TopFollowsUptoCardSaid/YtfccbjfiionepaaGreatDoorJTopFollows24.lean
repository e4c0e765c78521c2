/- audit: plain. -/
import Derived.Test.YtfccbjfiionepaaGreatDoorJTopFollows23
import Derived.Test.YtfccbjfiionepaaGreatDoorJTopFollows4
import Derived.Test.YtfccbjfiionepaaGreatDoorJTopFollows12
import Derived.Test.YtfccbjfiionepaaGreatDoorJTopFollows11
import Derived.Test.YtfccbjfiionepaaGreatDoorJTopFollows13
import Derived.Test.YtfccbjfiionepaaGreatDoorJTopFollows17
import Derived.Test.YtfccbjfiionepaaGreatDoorJTopFollows19
import Derived.Deep.RegionHeld3
import Derived.Deep.DeepCutAuto
import Derived.BigQuiet
namespace Go.Proofs.YtfccbjfiionepaaGreatDoor
open Go.RowKit
set_option linter.unusedVariables false

theorem take_sameG {α : Type} {xs ys : List α} {j : Nat} {y : α} (h : xs.take j = ys.take j) (h1 : xs[j]? = some y) (h2 : ys[j]? = some y) : xs.take (j + 1) = ys.take (j + 1) := by
  rw [List.take_add_one, List.take_add_one, h, h1, h2]
theorem take_partG {α : Type} {xs ys : List α} {j : Nat} {y z : α} (h1 : xs[j]? = some y) (h2 : ys[j]? = some z) (e : y ≠ z) : xs ≠ ys := by
  rintro rfl; rw [h1] at h2; injection h2 with h2; exact e h2
theorem take_wholeG {α : Type} {xs ys : List α} {n : Nat} (h : xs.take n = ys.take n) (hx : xs.length = n) (hy : ys.length = n) : xs = ys := by
  rwa [List.take_of_length_le (by omega), List.take_of_length_le (by omega)] at h
def eqL {α : Type} [DecidableEq α] (xs ys : List α) : Bool := decide (xs = ys)
theorem eqL_yes {α : Type} [DecidableEq α] {xs ys : List α} (h : xs = ys) : eqL xs ys = true := decide_eq_true h
theorem eqL_no {α : Type} [DecidableEq α] {xs ys : List α} (h : xs ≠ ys) : eqL xs ys = false := decide_eq_false h

/-- slices of ints in a row -/
def LLd (w : World) (vs : List Value) (xss : List (List Int)) : Prop :=
  vs.length = xss.length ∧ ∀ (i : Nat) (xs : List Int), xss[i]? = some xs → ∃ A c, vs[i]? = some (.slice A xs.length c) ∧ c ≤ maxLen ∧ Rd w 1 A xs.length c (xs.map (Value.int .i64))
theorem LLd.nil (w : World) : LLd w [] [] := ⟨rfl, fun i xs h => by simp at h⟩
theorem LLd.ext {w w' : World} {vs : List Value} {xss : List (List Int)} (h : LLd w vs xss) (e : Ext w w') : LLd w' vs xss :=
  ⟨h.1, fun i xs hx => by obtain ⟨A, c, h1, h2, h3⟩ := h.2 i xs hx; exact ⟨A, c, h1, h2, h3.ext e⟩⟩
theorem LLd.snoc {w : World} {vs : List Value} {xss : List (List Int)} {xs : List Int} {A : Option Addr} {c : Nat} (h : LLd w vs xss) (hm : c ≤ maxLen) (hr : Rd w 1 A xs.length c (xs.map (Value.int .i64))) : LLd w (vs ++ [.slice A xs.length c]) (xss ++ [xs]) := by
  refine ⟨by rw [List.length_append, List.length_append, h.1]; rfl, fun i ys hy => ?_⟩
  by_cases hi : i < xss.length
  · rw [List.getElem?_append_left hi] at hy
    obtain ⟨B, d, h1, h2, h3⟩ := h.2 i ys hy
    exact ⟨B, d, by rw [List.getElem?_append_left (by rw [h.1]; exact hi)]; exact h1, h2, h3⟩
  · have hii : i = xss.length := by
      have := (List.getElem?_eq_some_iff.1 hy).1
      simp at this; omega
    subst hii
    rw [List.getElem?_append_right (Nat.le_refl _), Nat.sub_self] at hy
    obtain rfl : xs = ys := by simpa using hy
    exact ⟨A, c, by rw [List.getElem?_append_right (by rw [h.1]; exact Nat.le_refl _), h.1, Nat.sub_self]; rfl, hm, hr⟩
theorem LLd.set {w : World} {vs : List Value} {xss : List (List Int)} {xs : List Int} {A : Option Addr} {c : Nat} (h : LLd w vs xss) (at_ : Nat) (hm : c ≤ maxLen) (hr : Rd w 1 A xs.length c (xs.map (Value.int .i64))) : LLd w (vs.set at_ (.slice A xs.length c)) (xss.set at_ xs) := by
  refine ⟨by rw [List.length_set, List.length_set, h.1], fun i ys hy => ?_⟩
  by_cases e : at_ = i
  · subst e
    have hl : at_ < xss.length := by
      have := (List.getElem?_eq_some_iff.1 hy).1
      simpa using this
    rw [List.getElem?_set_self hl] at hy
    obtain rfl : xs = ys := by injection hy
    exact ⟨A, c, by rw [List.getElem?_set_self (by rw [h.1]; exact hl)], hm, hr⟩
  · rw [List.getElem?_set_ne e] at hy
    obtain ⟨B, d, h1, h2, h3⟩ := h.2 i ys hy
    exact ⟨B, d, by rw [List.getElem?_set_ne e]; exact h1, h2, h3⟩

/-- the sums of a tile -/
def tlS (xs : List Int) (t : Tl) : List Int := sumsT xs t.level.toNat t.index.toNat t.wide.toNat
def tilesT (es : List Ent) : List Tl := if entsErr es = 0 then allT es.length 4 else []
def tilesV (es : List Ent) : List (List Int) := if entsErr es = 0 then (allT es.length 4).map (tlS (es.map Ent.leaf)) else []
theorem tilesV_map (es : List Ent) : tilesV es = (tilesT es).map (tlS (es.map Ent.leaf)) := by
  unfold tilesV tilesT
  split <;> rfl
theorem tilesV_len (es : List Ent) : (tilesV es).length = (tilesT es).length := by rw [tilesV_map, List.length_map]
theorem tilesT_len (es : List Ent) : (tilesT es).length ≤ 204 := by
  unfold tilesT
  split
  · rename_i h
    refine allT_len _ ?_ 4
    unfold entsErr at h
    split at h
    · cases h
    · omega
  · simp
/-- which of the first j tiles are not what they should be -/
def badJ (T : List Tl) (ys rs : List (List Int)) : Nat → List Tl
  | 0 => []
  | j + 1 => if ys[j]? = rs[j]? then badJ T ys rs j else badJ T ys rs j ++ (T[j]?).toList
theorem badJ_len (T : List Tl) (ys rs : List (List Int)) : ∀ j, (badJ T ys rs j).length ≤ j
  | 0 => Nat.le_refl _
  | j + 1 => by
    have := badJ_len T ys rs j
    unfold badJ
    split
    · omega
    · rw [List.length_append]
      have : (T[j]?).toList.length ≤ 1 := by cases T[j]? <;> simp
      omega
theorem badJ_same (T : List Tl) (ys : List (List Int)) : ∀ j, badJ T ys ys j = []
  | 0 => rfl
  | j + 1 => by rw [badJ, if_pos rfl, badJ_same T ys j]
theorem badJ_set {T : List Tl} {rs : List (List Int)} {at_ : Nat} {r r' : List Int} {t : Tl} (h : rs[at_]? = some r) (hr : r' ≠ r) (ht : T[at_]? = some t) : ∀ j, badJ T (rs.set at_ r') rs j = if at_ < j then [t] else []
  | 0 => rfl
  | j + 1 => by
    have ih := badJ_set h hr ht j
    have hl := (List.getElem?_eq_some_iff.1 h).1
    unfold badJ
    by_cases e : at_ = j
    · subst e
      rw [if_neg (by rw [List.getElem?_set_self hl, h]; intro e; injection e with e; exact hr e), ih, if_neg (by omega), if_pos (by omega), ht]; rfl
    · rw [if_pos (List.getElem?_set_ne e), ih]
      by_cases h2 : at_ < j
      · rw [if_pos h2, if_pos (by omega)]
      · rw [if_neg h2, if_neg (by omega)]
def badK (es : List Ent) (m : Nat) : Int := if entsErr es ≠ 0 then entsErr es else if m ≠ (tilesT es).length then 3 else 0
def badV (es : List Ent) (ys : List (List Int)) : List Tl := if badK es ys.length = 0 then badJ (tilesT es) ys (tilesV es) (tilesT es).length else []
end Go.Proofs.YtfccbjfiionepaaGreatDoor

/- audit.Tiles, audit.Bad, audit.Whole: total. -/
namespace Go.Proofs.YtfccbjfiionepaaGreatDoor
open Go.RowKit Go.WideShapes
set_option linter.unusedVariables false
attribute [local go_sem ↓] Go.wp_at_zero Go.wp_at_succ

theorem own_apart {w : World} {b b' n n' k k' : Nat} {e e' : TypeId} {v v' : Value} {xs xs' : List Value} (h : w.ownsRow b e k v n xs) (h' : w.ownsRow b' e' k' v' n' xs') (hne : e ≠ e') {g : Nat} (hg : v.ownBlock = some g) : v'.ownBlock ≠ some g := by
  intro hg'
  rcases h.2 with ⟨rfl, _⟩ | ⟨g1, cap, cur, rfl, _, hh, _⟩
  · simp [Value.ownBlock] at hg
  · rcases h'.2 with ⟨rfl, _⟩ | ⟨g2, cap', cur', rfl, _, hh', _⟩
    · simp [Value.ownBlock] at hg'
    · obtain rfl : g1 = g := by simpa [Value.ownBlock] using hg
      obtain rfl : g2 = g1 := by simpa [Value.ownBlock] using hg'
      rw [hh] at hh'
      simp at hh'
      exact hne hh'.2
theorem own_far {w : World} {b b' n n' k k' : Nat} {e e' : TypeId} {v v' : Value} {xs xs' : List Value} (h : w.ownsRow b e k v n xs) (h' : w.ownsRow b' e' k' v' n' xs') (hne : e ≠ e') : v'.ownBlock = none ∨ v'.ownBlock ≠ v.ownBlock := by
  cases hv : v'.ownBlock with
  | none => exact .inl rfl
  | some g =>
    refine .inr fun e => ?_
    exact own_apart h h' hne e.symm hv
/-- slices of ints of one's own, in a row -/
def LLo (w : World) (vs : List Value) (xss : List (List Int)) : Prop :=
  vs.length = xss.length ∧ ∀ (i : Nat) (xs : List Int), xss[i]? = some xs → ∃ v, vs[i]? = some v ∧ w.ownsRow 0 3 1 v xs.length (xs.map (Value.int .i64))
theorem LLo.nil (w : World) : LLo w [] [] := ⟨rfl, fun i xs h => by simp at h⟩
theorem LLo.ext {w w' : World} {vs : List Value} {xss : List (List Int)} (h : LLo w vs xss) (e : Ext w w') : LLo w' vs xss :=
  ⟨h.1, fun i xs hx => by obtain ⟨v, h1, h2⟩ := h.2 i xs hx; exact ⟨v, h1, own_ext h2 e⟩⟩
theorem LLo.kept {w w' : World} {vs : List Value} {xss : List (List Int)} {b n : Nat} {v : Value} {cs : List Value} (h : LLo w vs xss) (hv : w.ownsRow b 24 1 v n cs) (e : w.grownBy w' v.ownBlock) : LLo w' vs xss :=
  ⟨h.1, fun i xs hx => by
    obtain ⟨u, h1, h2⟩ := h.2 i xs hx
    exact ⟨u, h1, h2.kept e (own_far hv h2 (by decide))⟩⟩
theorem LLo.snoc {w : World} {vs : List Value} {xss : List (List Int)} {xs : List Int} {v : Value} (h : LLo w vs xss) (hr : w.ownsRow 0 3 1 v xs.length (xs.map (Value.int .i64))) : LLo w (vs ++ [v]) (xss ++ [xs]) := by
  refine ⟨by rw [List.length_append, List.length_append, h.1]; rfl, fun i ys hy => ?_⟩
  by_cases hi : i < xss.length
  · rw [List.getElem?_append_left hi] at hy
    obtain ⟨u, h1, h2⟩ := h.2 i ys hy
    exact ⟨u, by rw [List.getElem?_append_left (by rw [h.1]; exact hi)]; exact h1, h2⟩
  · have hii : i = xss.length := by
      have := (List.getElem?_eq_some_iff.1 hy).1
      simp at this; omega
    subst hii
    rw [List.getElem?_append_right (Nat.le_refl _), Nat.sub_self] at hy
    obtain rfl : xs = ys := by simpa using hy
    exact ⟨v, by rw [List.getElem?_append_right (by rw [h.1]; exact Nat.le_refl _), h.1, Nat.sub_self]; rfl, hr⟩
theorem LLo.rd {w : World} {vs : List Value} {xss : List (List Int)} (h : LLo w vs xss) : LLd w vs xss :=
  ⟨h.1, fun i xs hx => by
    obtain ⟨v, h1, h2⟩ := h.2 i xs hx
    obtain ⟨A, c, rfl, hc, hr, _⟩ := own_rd h2
    exact ⟨A, c, h1, hc, hr⟩⟩

/-- rows of ints of one's own -/
def OwnLL (w w' : World) (v : Value) (xss : List (List Int)) : Prop := ∃ vs, w'.ownsRow w.heap.size 24 1 v xss.length vs ∧ LLo w' vs xss
theorem OwnLL.ext {w w' w2 : World} {v : Value} {xss : List (List Int)} (h : OwnLL w w' v xss) (e : Ext w' w2) : OwnLL w w2 v xss := by
  obtain ⟨vs, h1, h2⟩ := h
  exact ⟨vs, own_ext h1 e, h2.ext e⟩
theorem OwnLL.rd {w w' : World} {v : Value} {xss : List (List Int)} (h : OwnLL w w' v xss) : ∃ A c vs, v = .slice A xss.length c ∧ c ≤ maxLen ∧ Rd w' 1 A xss.length c vs ∧ LLd w' vs xss := by
  obtain ⟨vs, h1, h2⟩ := h
  obtain ⟨A, c, rfl, hc, hr, _⟩ := own_rd h1
  exact ⟨A, c, vs, rfl, hc, hr, h2.rd⟩
theorem OwnLL.none (w w' : World) : OwnLL w w' (.slice none 0 0) [] := ⟨[], own_nil _ _ _ _, LLo.nil _⟩

end Go.Proofs.YtfccbjfiionepaaGreatDoor

/- audit.Bad, audit.Whole. -/
namespace Go.Proofs.YtfccbjfiionepaaGreatDoor
open Go.RowKit Go.WideShapes
set_option linter.unusedVariables false
attribute [local go_sem ↓] Go.wp_at_zero Go.wp_at_succ

def whlK (es : List Ent) (h : Hd) (key : Int) : Int :=
  if verK h key ≠ 0 then verK h key else if entsErr es ≠ 0 then entsErr es else if (es.length : Int) ≠ h.size then 3 else if ofL (es.map Ent.leaf) ≠ h.root then 8 else 0
set_option maxRecDepth 100000 in
set_option maxHeartbeats 1000000 in
theorem AWhole_any (A : Option Addr) (n c : Nat) (es : List Ent) (h : Hd) (key : Int) (w : World) (hD : DebG w) (hP : PowG w) (hr : Rd w 2 A n c (es.flatMap Ent.cells)) (hm : c ≤ maxLen) :
    Calls Tryz.prog 29 #[.slice A n c, h.val, .int .i64 key] w fun e w' => e = .returned (errR (whlK es h key)) ∧ Ext w w' := by
  obtain ⟨hE, hN, hG0⟩ := errR_rules
  have hx := hr.lenE
  have HV := Lib.hid fun W (e : Ext w W) => Verify_any h key W (hD.ext e) (hP.ext e)
  have HR := Lib.hid hr
  have HW : Hid (whlK es h key = if verK h key ≠ 0 then verK h key else if entsErr es ≠ 0 then entsErr es else if (n : Int) ≠ h.size then 3 else if ofL (es.map Ent.leaf) ≠ h.root then 8 else 0) := by rw [← hx]; exact rfl
  have HL1 : Hid (entsOk es → entsErr es = 0 ∧ n ≤ 200 ∧ leafsOk (es.map Ent.leaf)) := Lib.hid fun hk => ⟨entsErr_ok hk, by rw [← hx]; exact hk.1, ⟨by rw [List.length_map]; exact hk.1, by
    unfold allV
    rw [List.all_eq_true]
    intro x hx
    rw [List.mem_map] at hx
    obtain ⟨e, _, rfl⟩ := hx
    exact vld_sum _⟩⟩
  have HLO := Lib.hid (Leafs_ok A n c es)
  have HLB := Lib.hid (Leafs_bad A n c es)
  rw [hx] at HLO
  obtain ⟨vk, hvk⟩ : ∃ v, verK h key = v := ⟨_, rfl⟩
  obtain ⟨wk, hwk⟩ : ∃ v, whlK es h key = v := ⟨_, rfl⟩
  rw [hvk] at HV HW
  rw [hwk] at HW ⊢
  clear hvk hwk hD hP hr hx
  obtain ⟨a0, a1, a2, a3⟩ := h
  simp only [Hd.val] at *
  have A0 := Bk.at_ w 40 #[.int .i64 a0, .int .i64 a1, .int .i64 a2, .int .i64 a3] w.heap.size rfl
  have e0 : Ext w (w.alloc (.cells #[.int .i64 a0, .int .i64 a1, .int .i64 a2, .int .i64 a3] 40)) := by (repeat (with_reducible first | exact Ext.refl _ | assumption | refine Ext.drew ?_ | refine Ext.drewN ?_ _ | refine Ext.alloc ?_ _ | refine Ext.trans ?_ (by with_reducible assumption)))
  go_enter Tryz.func29, Tryz.ntmps29
  go_upto_region 1 with (fail)
  generalize (w.alloc (.cells #[.int .i64 a0, .int .i64 a1, .int .i64 a2, .int .i64 a3] 40)) = W0 at *
  obtain ⟨g0, hg0⟩ : ∃ g, w.heap.size = g := ⟨_, rfl⟩
  rw [hg0] at A0
  try rw [hg0]
  have HE0 := Lib.hid e0
  clear e0 hg0
  have y0 := A0.cell 0
  have y1 := A0.cell 1
  have y2 := A0.cell 2
  have y3 := A0.cell 3
  go_wp2_with fail
  refine (HV.out _ HE0.out).mono ?_
  rintro _ w1 ⟨rfl, hb1⟩
  have HE1 := Lib.hid (HE0.out.trans hb1)
  have A1 := A0.ext hb1
  clear y0 y1 y2 y3 HV HE0 A0 hb1
  by_cases hv : vk = 0
  case neg =>
    obtain rfl : wk = vk := HW.out.trans (if_pos hv)
    have hok := isOk_no hv
    clear hv HW
    go_wp2_with fail
    go_ret
    exact ⟨rfl, HE1.out⟩
  subst hv
  rw [errR_0]
  have HW1 := Lib.hid (HW.out.trans (if_neg (not_not_intro rfl)))
  clear HW
  by_cases hk : entsOk es
  case neg =>
    have hne := entsErr_bad hk
    obtain rfl : wk = entsErr es := HW1.out.trans (if_pos hne)
    have HNE := Lib.hid hne
    have HK := Lib.hid hk
    clear hne hk HW1
    go_wp2_with fail
    refine (HLB.out _ (HR.out.ext HE1.out) hm HK.out).mono ?_
    rintro _ w2 ⟨rfl, hb2⟩
    simp only [errV]
    go_wp2_with fail
    go_ret
    exact ⟨by rw [errR_ne HNE.out]; rfl, HE1.out.trans hb2⟩
  obtain ⟨h0, hn, hlo⟩ := HL1.out hk
  have HW2 := Lib.hid (HW1.out.trans (if_neg (not_not_intro h0)))
  have HK := Lib.hid hk
  have HLV := Lib.hid hlo.2
  clear h0 hk hlo HW1 HL1 HLB
  obtain ⟨xs, hxs⟩ : ∃ xs, es.map Ent.leaf = xs := ⟨_, rfl⟩
  rw [hxs] at HLO HLV HW2
  obtain ⟨r, hr2⟩ : ∃ v, ofL xs = v := ⟨_, rfl⟩
  have HO := Lib.hid hr2
  rw [hr2] at HW2
  clear hxs hr2
  go_wp2_with fail
  refine (HLO.out _ (HR.out.ext HE1.out) hm HK.out).mono ?_
  rintro _ w2 ⟨⟨v2, rfl, own2⟩, hb2⟩
  obtain ⟨A2', c2, rfl, hc2, R2, _⟩ := own_rd own2
  have HR2 := Lib.hid R2
  have HE2 := Lib.hid (HE1.out.trans hb2)
  have A2 := A1.ext hb2
  have y0 := A2.cell 0
  clear own2 R2 hb2 A1 HE1
  by_cases h3 : (n : Int) = a0
  case neg =>
    obtain rfl : wk = 3 := HW2.out.trans (if_pos h3)
    have q1 : ((n : Int) != a0) = true := by simp [h3]
    clear h3 HW2
    go_wp2_with fail
    go_ret
    exact ⟨rfl, HE2.out⟩
  have HW3 := Lib.hid (HW2.out.trans (if_neg (not_not_intro h3)))
  subst h3
  have x1 : ∀ x : WE w2, x.W.cell? ⟨g0, 1, none⟩ = some (.int .i64 a1) := fun x => (A2.ext x.h).cell 1
  have HOF := Lib.hid fun W (e : Ext w2 W) => Of_any n A2' n c2 xs W (Nat.le_refl _) (HR2.out.ext e) hc2 (by omega) HLV.out
  rw [HO.out] at HOF
  clear HW2
  go_upto_region 9 with (fail)
  (refine wp_region_ext (w0 := w2) (by kernel_rfl) (by kernel_rfl) (by (repeat (with_reducible first | exact Ext.refl _ | assumption | refine Ext.drew ?_ | refine Ext.drewN ?_ _ | refine Ext.alloc ?_ _ | refine Ext.trans ?_ (by with_reducible assumption)))) ?_; (repeat (go_big_quiet_step ((go_at_call 47; exact quietE (HOF.out _ (WE.h _)))))); refine wpQuiet_nil ?_)
  intro w3 hb3
  clear x1 y0
  have e3 := HE2.out.trans hb3
  by_cases h8 : r = a1
  · obtain rfl : wk = 0 := HW3.out.trans (if_neg (not_not_intro h8))
    subst h8
    go_wp2_with fail
    go_ret
    exact ⟨rfl, e3⟩
  · obtain rfl : wk = 8 := HW3.out.trans (if_pos h8)
    have q1 : (r != a1) = true := by simp [h8]
    have q2 : (r == a1) = false := by simp [h8]
    clear h8 HW3
    go_wp2_with fail
    go_ret
    exact ⟨rfl, e3⟩
end Go.Proofs.YtfccbjfiionepaaGreatDoor

/- TopFollows: the walk. -/
namespace Go.Proofs.YtfccbjfiionepaaGreatDoor.topFollows
open Go.RowKit Go.WideShapes
set_option linter.unusedVariables false
attribute [local go_sem ↓] Go.wp_at_zero Go.wp_at_succ

theorem whl_zero {es : List Ent} {key : Int} (hk : shK es key 0 = 0) : whlK es (shH es key 0) key = 0 := by
  obtain ⟨ok1, sh1, v1, _⟩ := sh_parts hk
  unfold whlK
  rw [if_neg (not_not_intro v1), if_neg (not_not_intro (entsErr_ok ok1)), sh1]
  rw [if_neg (not_not_intro rfl), if_neg (not_not_intro rfl)]
theorem beq_self (s : ByteArray) : (s.toList == s.toList) = true := beq_iff_eq.2 rfl
theorem beqb_self (b : Bool) : (b == b) = true := by cases b <;> rfl
set_option maxRecDepth 100000 in
set_option maxHeartbeats 4000000 in
theorem walk_no (A : Option Addr) (n c : Nat) (es : List Ent) (key : Int) (ask : ByteArray) (w : World)
    (hm : c ≤ maxLen) (hr : Rd w 2 A n c (es.flatMap Ent.cells)) (hD : DebG w) (hP : PowG w) (hno : keyI key = false ∨ (keyI key = true ∧ 200 < n) ∨ (keyI key = true ∧ ¬ 200 < n ∧ shK es key 0 ≠ 0)) :
    Calls Tryz.prog 4 #[.slice A n c, .int .i64 key, .string ask] w fun e w' => e = .returned (.bool true) ∧ Ext w w' := by
  obtain ⟨hE, hN, hG0⟩ := errR_rules
  have hnc := hr.2.1
  have hcs : c ≤ 9223372036854775807 := by unfold maxLen at hm; omega
  have HO := Lib.hid fun W => one_any W
  have HNW := Lib.hid fun W => MNew_any key W
  have HS1 : Hid (∀ W, Ext w W → Calls Tryz.prog 14 #[.slice A n c, .int .i64 key, .int .i64 0] W fun e w' => e = .returned (.tuple #[(shH es key 0).val, errR (shK es key 0)]) ∧ Ext W w') := Lib.hid fun W e => SHead_any A n c es key 0 W (hr.ext e) hm (hD.ext e) (hP.ext e)
  obtain ⟨kk, hkk⟩ : ∃ v, keyI key = v := ⟨_, rfl⟩
  obtain ⟨sk, hsk⟩ : ∃ v, shK es key 0 = v := ⟨_, rfl⟩
  obtain ⟨sh, hsh⟩ : ∃ v, shH es key 0 = v := ⟨_, rfl⟩
  rw [hsk, hsh] at HS1
  rw [hkk, hsk] at hno
  rw [hkk] at HNW
  clear hsk hsh hkk hr hm hD hP
  obtain ⟨h0, h1, h2, h3⟩ := sh
  simp only [Hd.val] at HS1
  go_enter Tryz.func4, Tryz.ntmps4
  go_wp2_with fail
  refine (HO.out _).mono ?_
  rintro _ w1 ⟨rfl, hb1⟩
  have E1 := Lib.hid hb1
  clear hb1 HO
  go_wp2_with fail
  refine (HNW.out _).mono ?_
  rintro _ w2 hnew
  rcases hnew with ⟨rfl, rfl, hb2⟩ | ⟨rfl, rfl, hma, hb2⟩
  · have E2 := Lib.hid (E1.out.trans hb2)
    rw [errR_ne (show (1 : Int) ≠ 0 by decide)]
    simp only [errV]
    clear hb2 E1
    go_wp2_with fail
    go_ret
    exact ⟨rfl, E2.out⟩
  have E2 := Lib.hid (E1.out.trans hb2)
  rw [errR_0]
  clear hb2 E1 hma
  rcases hno with h | ⟨_, h⟩ | ⟨_, h, hs0⟩
  · cases h
  · have h3' : (200 : Int) < (n : Int) := by omega
    go_wp2_with fail
    go_ret
    exact ⟨rfl, E2.out⟩
  have h3' : ¬ (200 : Int) < (n : Int) := by omega
  go_wp2_with fail
  refine (HNW.out _).mono ?_
  rintro _ w3 hnew
  rcases hnew with ⟨q1, _⟩ | ⟨_, rfl, hmb, hb3⟩
  · cases q1
  have E3 := Lib.hid (E2.out.trans hb3)
  rw [errR_0]
  clear hb3 E2 hmb HNW
  go_wp2_with fail
  refine (HS1.out _ E3.out).mono ?_
  rintro _ w4 ⟨rfl, hb4⟩
  have E4 := Lib.hid ((E3.out.trans hb4).alloc (.cells #[.int .i64 h0, .int .i64 h1, .int .i64 h2, .int .i64 h3] 40))
  have hok := isOk_no hs0
  clear hb4 E3 hs0
  go_wp2_with fail
  go_ret
  exact ⟨rfl, E4.out⟩
set_option maxRecDepth 100000 in
set_option maxHeartbeats 8000000 in
theorem walk_yes (A : Option Addr) (n c : Nat) (es : List Ent) (key : Int) (ask : ByteArray) (w : World)
    (hm : c ≤ maxLen) (hr : Rd w 2 A n c (es.flatMap Ent.cells)) (hD : DebG w) (hP : PowG w) (hS : StrG w) (hM : MaxG w) (hz : ask.size ≤ 1048576) (hn2 : n ≤ 200) (hk : shK es key 0 = 0) :
    Calls Tryz.prog 4 #[.slice A n c, .int .i64 key, .string ask] w fun e w' => e = .returned (.bool true) ∧ Ext w w' := by
  obtain ⟨hE, hN, hG0⟩ := errR_rules
  have hx := hr.lenE
  have hwz := whl_zero hk
  obtain ⟨ok1, sh1, v1, kk⟩ := sh_parts hk
  have hnc := hr.2.1
  have hcs : c ≤ 9223372036854775807 := by unfold maxLen at hm; omega
  have htk : es.take n = es := List.take_of_length_le (by omega)
  have HO := Lib.hid fun W => one_any W
  have HNW := Lib.hid fun W => MNew_any key W
  have HS1 : Hid (∀ W, Ext w W → Calls Tryz.prog 14 #[.slice A n c, .int .i64 key, .int .i64 0] W fun e w' => e = .returned (.tuple #[(shH es key 0).val, .nilIface]) ∧ Ext W w') := Lib.hid fun W e => by
    have := SHead_any A n c es key 0 W (hr.ext e) hm (hD.ext e) (hP.ext e)
    rw [hk] at this; exact this
  obtain ⟨h, hh⟩ : ∃ x, shH es key 0 = x := ⟨_, rfl⟩
  rw [hh] at HS1 sh1 v1 hwz
  have hhs : h.size = (n : Int) := by rw [sh1]; show ((es.length : Nat) : Int) = _; rw [hx]
  have hht : h.time = 0 := by rw [sh1]
  have hhr : h.root = ofL (es.map Ent.leaf) := by rw [sh1]
  -- what the mirrors have at the end
  have HFA : Hid (∀ (P : Nat → Prop) mb W, MM 114 W P mb (st key es 0 hd00) → Ext w W → (∀ g, P g → w.heap.size ≤ g) → (∀ g, W.heap.size ≤ g → P g) → Calls Tryz.prog 25 #[.pointer (some ⟨mb, 0, none⟩), .slice A n c, h.val] W fun e w' => e = .returned (.bool true) ∧ (∃ hd : Hd, (0 < n → hd = h) ∧ (n = 0 → hd = hd00) ∧ MM 114 w' P mb (st key es n hd)) ∧ Chg W w' P) := Lib.hid fun P mb W hM e hP0 hPn => by
    rcases Nat.eq_zero_or_pos n with h0 | h0
    · subst h0
      obtain ⟨k, hk1, hk2⟩ := hear_none (key := key) (es := es) (h := h) hhs hht
      have hes : es = [] := List.eq_nil_of_length_eq_zero hx
      have hk0 : k = 0 := hk2 v1 (by rw [hhr, hes]; rfl)
      subst hk0
      refine (follow_none P mb key es h 0 A c w W hM e hD hP hP0 hPn hk1).mono fun e' w' hh => ?_
      obtain ⟨q1, q2, q3⟩ := hh
      exact ⟨q1, ⟨hd00, fun h => absurd h (by omega), fun _ => rfl, q2⟩, q3⟩
    · obtain ⟨ad, rfl, hbl, -⟩ := hr.2.2 h0
      refine (follow_any P mb key es h ad n c w W hM e hD hP hP0 hPn (hr.ext e) (fun hp => by have := hP0 _ hp; omega) hm h0 ok1 v1 hhs hhr).mono fun e' w' hh => ?_
      obtain ⟨q1, q2, q3⟩ := hh
      exact ⟨q1, ⟨h, fun _ => rfl, fun h => absurd h (by omega), q2⟩, q3⟩
  have HFB : Hid (∀ (P : Nat → Prop) mb (A6 : Option Addr) (c6 : Nat) (hd : Hd) W, MM 114 W P mb (st key es 0 hd00) → Ext w W → (∀ g, P g → w.heap.size ≤ g) → (∀ g, W.heap.size ≤ g → P g) → Rd W 2 A6 n c6 (es.flatMap Ent.cells) → c6 ≤ maxLen → (∀ ad, A6 = some ad → 0 < n → ¬ P ad.block) → (0 < n → hd = h) → (n = 0 → hd = hd00) → Calls Tryz.prog 25 #[.pointer (some ⟨mb, 0, none⟩), .slice A6 n c6, hd.val] W fun e w' => (∃ b : Bool, e = .returned (.bool b) ∧ (0 < n → b = true)) ∧ (∃ hd : Hd, MM 114 w' P mb (st key es n hd)) ∧ Chg W w' P) := Lib.hid fun P mb A6 c6 hd W hM e hP0 hPn hr6 hc6 hnp hd1 hd0 => by
    rcases Nat.eq_zero_or_pos n with h0 | h0
    · subst h0
      obtain rfl := hd0 rfl
      obtain ⟨k, hk1, hk2⟩ := hear_none (key := key) (es := es) (h := hd00) rfl rfl
      refine (follow_none P mb key es hd00 k A6 c6 w W hM e hD hP hP0 hPn hk1).mono fun e' w' hh => ?_
      obtain ⟨q1, q2, q3⟩ := hh
      exact ⟨⟨_, q1, fun h => absurd h (by omega)⟩, ⟨hd00, q2⟩, q3⟩
    · obtain rfl := hd1 h0
      obtain ⟨ad, rfl, hbl, -⟩ := hr6.2.2 h0
      refine (follow_any P mb key es hd ad n c6 w W hM e hD hP hP0 hPn hr6 (hnp ad rfl h0) hc6 h0 ok1 v1 hhs hhr).mono fun e' w' hh => ?_
      obtain ⟨q1, q2, q3⟩ := hh
      exact ⟨⟨true, q1, fun _ => rfl⟩, ⟨hd, q2⟩, q3⟩
  have HAN : Hid (∀ W A c, Ext w W → Rd W 2 A n c (es.flatMap Ent.cells) → c ≤ maxLen → Calls Tryz.prog 22 #[.slice A n c, .int .i64 key, .int .i64 0, .string ask] W fun e w' => e = .returned (.tuple #[.string (ansR es key 0 ask).1, errR (ansR es key 0 ask).2]) ∧ Ext W w') := Lib.hid fun W A c e h1 h2 => Answer_any A n c es key 0 ask W h1 h2 hz (hD.ext e) (hP.ext e) (hS.ext e) (hM.ext e)
  have HSM : Hid (∀ W A6 c6, Ext w W → Rd W 2 A6 n c6 (es.flatMap Ent.cells) → Calls Tryz.prog 28 #[.slice A6 n c6, .slice A n c] W fun e w' => e = .returned (.bool true) ∧ Ext W w') := Lib.hid fun W A6 c6 e h1 => Entries_yes A6 A n c6 c es W h1 (hr.ext e) (by omega)
  have HWH : Hid (∀ W A6 c6, Ext w W → Rd W 2 A6 n c6 (es.flatMap Ent.cells) → c6 ≤ maxLen → Calls Tryz.prog 29 #[.slice A6 n c6, h.val, .int .i64 key] W fun e w' => e = .returned .nilIface ∧ Ext W w') := Lib.hid fun W A6 c6 e h1 h2 => by
    have := AWhole_any A6 n c6 es h key W (hD.ext e) (hP.ext e) h1 h2
    rw [hwz] at this
    exact this
  have HR := Lib.hid hr
  have HMX := Lib.hid hm
  have HTK := Lib.hid htk
  have HX := Lib.hid hx
  have HKK := Lib.hid kk
  obtain ⟨az, haz⟩ : ∃ z, ansR es key 0 ask = z := ⟨_, rfl⟩
  rw [haz] at HAN
  obtain ⟨sv, sk⟩ := az
  dsimp only at HAN
  clear hx hk ok1 sh1 v1 kk hr hh hhs hht hhr hD hP hS hM hm hz hwz htk haz
  obtain ⟨h0, h1, h2, h3⟩ := h
  simp only [Hd.val] at HS1 HWH
  go_enter Tryz.func4, Tryz.ntmps4
  go_wp2_with fail
  refine (HO.out _).mono ?_
  rintro _ w2 ⟨rfl, hb2⟩
  have E2 := Lib.hid hb2
  clear hb2 HO
  have hnN : ¬ (200 : Int) < (n : Int) := by omega
  go_wp2_with fail
  refine (HNW.out _).mono ?_
  rintro _ w3 hnew
  rcases hnew with ⟨q1, _⟩ | ⟨_, rfl, hma, hb3⟩
  · rw [HKK.out] at q1; cases q1
  rw [errR_0]
  have HMA := Lib.hid hma
  have E3 := Lib.hid (E2.out.trans hb3)
  have hs2 : w.heap.size ≤ w2.heap.size := E2.out.size
  obtain ⟨ma, hma2⟩ : ∃ x, w2.heap.size = x := ⟨_, rfl⟩
  rw [hma2] at HMA hs2
  rw [hma2]
  clear hma hb3 hma2
  go_wp2_with fail
  refine (HNW.out _).mono ?_
  rintro _ w4 hnew
  rcases hnew with ⟨q1, _⟩ | ⟨_, rfl, hmb, hb4⟩
  · rw [HKK.out] at q1; cases q1
  rw [errR_0]
  have HMB := Lib.hid hmb
  have HMA4 := Lib.hid (HMA.out.ext hb4)
  have E4 := Lib.hid (E3.out.trans hb4)
  have hs3 : ma < w3.heap.size := HMA.out.bk.lt
  obtain ⟨mb, hmb2⟩ : ∃ x, w3.heap.size = x := ⟨_, rfl⟩
  rw [hmb2] at HMB hs3
  rw [hmb2]
  clear hmb hb4 hmb2 HMA E3 E2 HNW
  go_wp2_with fail
  refine (HS1.out _ E4.out).mono ?_
  rintro _ w5 ⟨rfl, hb5⟩
  have Bh := Bk.at_ w5 40 #[.int .i64 h0, .int .i64 h1, .int .i64 h2, .int .i64 h3] w5.heap.size rfl
  have e5 : Ext w4 (w5.alloc (.cells #[.int .i64 h0, .int .i64 h1, .int .i64 h2, .int .i64 h3] 40)) := hb5.alloc _
  go_upto_region 11 with (fail)
  generalize w5.alloc (.cells #[.int .i64 h0, .int .i64 h1, .int .i64 h2, .int .i64 h3] 40) = W6 at *
  generalize w5.heap.size = gh at *
  have HBH := Lib.hid Bh
  have E6 := Lib.hid (E4.out.trans e5)
  have HA6 := Lib.hid (HMA4.out.ext e5)
  have HB6 := Lib.hid (HMB.out.ext e5)
  clear hb5 Bh HS1 e5 E4 HMA4 HMB
  -- where the first mirror lies
  obtain ⟨P, hPdef⟩ : ∃ P : Nat → Prop, Hid (P = fun x => x = ma ∨ W6.heap.size ≤ x) := ⟨_, Lib.hid rfl⟩
  have hmaw : w.heap.size ≤ ma := hs2
  have hmbw : w.heap.size ≤ mb := by omega
  have hmm : ma ≠ mb := by omega
  have HM1 : Hid (MM 114 W6 P ma (st key es 0 hd00)) := Lib.hid ⟨_, _, HA6.out, fun x hx => by
    rcases hx with rfl | hx | hx
    · rw [hPdef.out]; exact .inl rfl
    · simp [Value.ownBlock] at hx
    · simp [Value.ownBlock] at hx⟩
  have HP0 : Hid (∀ x, P x → w.heap.size ≤ x) := Lib.hid fun x hx => by
    rw [hPdef.out] at hx
    rcases hx with rfl | hx
    · exact hmaw
    · have := E6.out.size
      have h6 : W6.heap.size ≤ x := hx
      omega
  have HPN : Hid (∀ x, W6.heap.size ≤ x → P x) := Lib.hid fun x hx => by rw [hPdef.out]; exact .inr hx
  have HF1 := Lib.hid (HFA.out P ma _ HM1.out E6.out HP0.out HPN.out)
  simp only [Hd.val] at HF1
  have y0 := HBH.out.cell 0
  have y1 := HBH.out.cell 1
  have y2 := HBH.out.cell 2
  have y3 := HBH.out.cell 3
  go_wp2_with fail
  refine HF1.out.mono ?_
  rintro _ w7 ⟨rfl, ⟨hd, hd1, hd0, hm7⟩, hg7⟩
  have HM7 : Hid (MM 114 w7 (fun g => P g ∧ g < w7.heap.size) ma (st key es n hd)) := Lib.hid (hm7.mono fun g hg hl => ⟨hg, hl⟩)
  have HD1 := Lib.hid hd1
  have HD0 := Lib.hid hd0
  have E7 := Lib.hid (hg7.extW E6.out fun x hx hp => by have := HP0.out x hp; omega)
  have hght : gh < W6.heap.size := HBH.out.lt
  have hmbt : mb < W6.heap.size := HB6.out.bk.lt
  have HS7 : Hid (W6.heap.size ≤ w7.heap.size) := Lib.hid hg7.size
  have HBH7 := Lib.hid (HBH.out.chg hg7 fun hp => by
    rw [hPdef.out] at hp
    rcases hp with hp | hp
    · exact bk_ne HA6.out.bk HBH.out (by decide) hp.symm
    · have h6 : W6.heap.size ≤ gh := hp
      omega)
  have HB7 : Hid (MiAt 114 w7 mb (.slice none 0 0) (.slice none 0 0) (st key es 0 hd00)) := Lib.hid (HB6.out.chg hg7 fun x hx hp => by
    rcases hx with rfl | hx | hx
    · rw [hPdef.out] at hp
      rcases hp with hp | hp
      · exact hmm hp.symm
      · have h6 : W6.heap.size ≤ x := hp
        omega
    · simp [Value.ownBlock] at hx
    · simp [Value.ownBlock] at hx)
  clear hm7 hg7 y0 y1 y2 y3 HM1 HBH HA6 HB6 HFA HF1 hd1 hd0
  have hlen7 : Hid ((st key es n hd).own = es) := Lib.hid HTK.out
  have HEA : Hid (∀ W, Ext w7 W → Calls Tryz.prog 26 #[.pointer (some ⟨ma, 0, none⟩)] W fun e w' => (∃ A6 c6, e = .returned (.slice A6 n c6) ∧ c6 ≤ maxLen ∧ Rd w' 2 A6 n c6 (es.flatMap Ent.cells) ∧ ∀ ad, A6 = some ad → 0 < n → W.heap.size ≤ ad.block) ∧ Ext W w') := Lib.hid fun W e => by
    have h1 := (HM7.out.ext e).entriesC
    rw [hlen7.out, HX.out] at h1
    refine h1.mono fun e' w' hh => ?_
    obtain ⟨⟨v, q1, q2⟩, q3⟩ := hh
    obtain ⟨A6, c6, rfl, q4, q5, _⟩ := own_rd q2
    refine ⟨⟨A6, c6, q1, q4, q5, fun ad hA hn => ?_⟩, q3⟩
    subst hA
    have q6 := q2.2
    rcases q6 with ⟨q7, _⟩ | ⟨g, cap, cur, q7, q8, _⟩
    · cases q7
    · injection q7 with a _ _
      injection a with a
      subst a
      exact q8
  have HHA : Hid (∀ W, Ext w7 W → Calls Tryz.prog 27 #[.pointer (some ⟨ma, 0, none⟩)] W fun e w' => e = .returned hd.val ∧ Ext W w') := Lib.hid fun W e => (HM7.out.ext e).headC
  go_wp2_with fail
  refine (HEA.out _ (Ext.refl _)).mono ?_
  rintro _ w8 ⟨⟨A8, c8, rfl, hc8, R8, F8⟩, hb8⟩
  have HR8 := Lib.hid R8
  have HC8 := Lib.hid hc8
  have HF8 := Lib.hid F8
  have HE8 := Lib.hid hb8
  have hnc8 := R8.2.1
  have hcs8 : c8 ≤ 9223372036854775807 := by unfold maxLen at hc8; omega
  clear R8 hc8 F8 hb8
  go_wp2_with fail
  refine (HHA.out _ HE8.out).mono ?_
  rintro _ w9 ⟨rfl, hb9⟩
  have HR9 := Lib.hid (HR8.out.ext hb9)
  have HE9 := Lib.hid (HE8.out.trans hb9)
  have hs89 : w8.heap.size ≤ w9.heap.size := hb9.size
  have hs78 : w7.heap.size ≤ w8.heap.size := HE8.out.size
  clear hb9 HE8
  -- where the second one lies
  obtain ⟨Q, hQdef⟩ : ∃ Q : Nat → Prop, Hid (Q = fun x => x = mb ∨ w9.heap.size ≤ x) := ⟨_, Lib.hid rfl⟩
  have HM2 : Hid (MM 114 w9 Q mb (st key es 0 hd00)) := Lib.hid ⟨_, _, HB7.out.ext HE9.out, fun x hx => by
    rcases hx with rfl | hx | hx
    · rw [hQdef.out]; exact .inl rfl
    · simp [Value.ownBlock] at hx
    · simp [Value.ownBlock] at hx⟩
  have HQ0 : Hid (∀ x, Q x → w.heap.size ≤ x) := Lib.hid fun x hx => by
    rw [hQdef.out] at hx
    rcases hx with rfl | hx
    · exact hmbw
    · have := E7.out.size
      have h6 : w9.heap.size ≤ x := hx
      omega
  have HQN : Hid (∀ x, w9.heap.size ≤ x → Q x) := Lib.hid fun x hx => by rw [hQdef.out]; exact .inr hx
  have HNQ8 : Hid (∀ ad, A8 = some ad → 0 < n → ¬ Q ad.block) := Lib.hid fun ad hA hn hq => by
    have h5 := HF8.out ad hA hn
    have h7 := HR8.out.blk hn ad hA
    have h8 := HS7.out
    rw [hQdef.out] at hq
    rcases hq with hq | hq
    · omega
    · have h6 : w9.heap.size ≤ ad.block := hq
      omega
  have HF2 := Lib.hid (HFB.out Q mb A8 c8 hd w9 HM2.out (E7.out.trans HE9.out) HQ0.out HQN.out HR9.out HC8.out HNQ8.out HD1.out HD0.out)
  obtain ⟨d0, d1, d2, d3⟩ := hd
  simp only [Hd.val] at HF2
  go_wp2_with fail
  refine HF2.out.mono ?_
  rintro _ w10 ⟨⟨fb, rfl, hfb⟩, ⟨hd, hm10⟩, hg10⟩
  have HM10 := Lib.hid hm10
  have HFB2 := Lib.hid hfb
  have E10 := Lib.hid (hg10.extW (E7.out.trans HE9.out) fun x hx hp => by have := HQ0.out x hp; omega)
  have HA10 : Hid (MM 114 w10 (fun g => P g ∧ g < w7.heap.size) ma (st key es n ⟨d0, d1, d2, d3⟩)) := Lib.hid ((HM7.out.ext HE9.out).chg hg10 fun x hx hlt hq => by
    rw [hPdef.out] at hx
    rw [hQdef.out] at hq
    obtain ⟨hx1, hx2⟩ := hx
    rcases hq with rfl | hq
    · rcases hx1 with hx | hx
      · exact hmm hx.symm
      · have h6 : W6.heap.size ≤ x := hx
        omega
    · have h6 : w9.heap.size ≤ x := hq
      omega)
  have HBH10 := Lib.hid ((HBH7.out.ext HE9.out).chg hg10 fun hp => by
    rw [hQdef.out] at hp
    have h8 := HS7.out
    rcases hp with hp | hp
    · exact bk_ne HB7.out.bk HBH7.out (by decide) hp.symm
    · have h6 : w9.heap.size ≤ gh := hp
      omega)
  clear hm10 hg10 hfb HM2 HB7 HFB HF2 HR8 HR9 HC8 HF8 HNQ8 HE9 HM7 HEA HHA HBH7 hlen7 HD1 HD0
  have HEA : Hid (∀ W, Ext w10 W → Calls Tryz.prog 26 #[.pointer (some ⟨ma, 0, none⟩)] W fun e w' => (∃ A6 c6, e = .returned (.slice A6 n c6) ∧ c6 ≤ maxLen ∧ Rd w' 2 A6 n c6 (es.flatMap Ent.cells)) ∧ Ext W w') := Lib.hid fun W e => by
    have h1 := (HA10.out.ext e).entriesC
    rw [show (st key es n (⟨d0, d1, d2, d3⟩ : Hd)).own = es from HTK.out, HX.out] at h1
    refine h1.mono fun e' w' hh => ?_
    obtain ⟨⟨v, q1, q2⟩, q3⟩ := hh
    obtain ⟨A6, c6, rfl, q4, q5, _⟩ := own_rd q2
    exact ⟨⟨A6, c6, q1, q4, q5⟩, q3⟩
  have HEB : Hid (∀ W, Ext w10 W → Calls Tryz.prog 26 #[.pointer (some ⟨mb, 0, none⟩)] W fun e w' => (∃ A6 c6, e = .returned (.slice A6 n c6) ∧ c6 ≤ maxLen ∧ Rd w' 2 A6 n c6 (es.flatMap Ent.cells)) ∧ Ext W w') := Lib.hid fun W e => by
    have h1 := (HM10.out.ext e).entriesC
    rw [show (st key es n hd).own = es from HTK.out, HX.out] at h1
    refine h1.mono fun e' w' hh => ?_
    obtain ⟨⟨v, q1, q2⟩, q3⟩ := hh
    obtain ⟨A6, c6, rfl, q4, q5, _⟩ := own_rd q2
    exact ⟨⟨A6, c6, q1, q4, q5⟩, q3⟩
  have HBQ : Hid (∀ b : Bool, (b == b) = true) := Lib.hid beqb_self
  have hfq : ((n = 0 ∧ n = 0) ∨ (0 < n ∧ fb = true)) := by
    rcases Nat.eq_zero_or_pos n with h | h
    · exact .inl ⟨h, h⟩
    · exact .inr ⟨h, HFB2.out h⟩
  clear HFB2 HA10 HM10 HP0 HPN HQ0 HQN hPdef hQdef hs2 hs3 hmaw hmbw hmm hght hmbt HS7 hs89 hs78 hcs8 hnc8 E6 E7
  have HLP : Hid (∀ W, Ext w10 W → (0 < n → True) → True) := Lib.hid fun _ _ _ => trivial
  clear HLP
  rcases hfq with ⟨h00, _⟩ | ⟨hpos, rfl⟩
  · subst h00
    cases fb
    all_goals
      as_aux_lemma =>
      go_wp2_with fail
      refine (HAN.out _ _ _ E10.out (HR.out.ext E10.out) HMX.out).mono ?_
      rintro _ w11 ⟨rfl, hb11⟩
      have HE11 := Lib.hid hb11
      clear hb11
      go_wp2_with fail
      refine (HEA.out _ HE11.out).mono ?_
      rintro _ w12 ⟨⟨A12, c12, rfl, hc12, R12⟩, hb12⟩
      have HE12 := Lib.hid (HE11.out.trans hb12)
      have HR12 := Lib.hid R12
      clear hb12 R12 HE11
      go_wp2_with fail
      refine (HAN.out _ _ _ (E10.out.trans HE12.out) HR12.out hc12).mono ?_
      rintro _ w13 ⟨rfl, hb13⟩
      have HE13 := Lib.hid (HE12.out.trans hb13)
      clear hb13 HE12
      go_wp2_with fail
      refine (HEB.out _ HE13.out).mono ?_
      rintro _ w14 ⟨⟨A14, c14, rfl, hc14, R14⟩, hb14⟩
      have HE14 := Lib.hid (HE13.out.trans hb14)
      have HR14 := Lib.hid R14
      clear hb14 R14 HE13
      go_wp2_with fail
      refine (HSM.out _ _ _ (E10.out.trans HE14.out) HR14.out).mono ?_
      rintro _ w15 ⟨rfl, hb15⟩
      have HE15 := Lib.hid (HE14.out.trans hb15)
      have hss := beq_self sv
      have hbb := HBQ.out (isOk sk)
      clear hb15 HE14 HAN HSM HWH HEA HEB
      go_wp2_with fail
      go_quiet (fail)
      go_wp2_with fail
      go_quiet (fail)
      go_wp2_with fail
      go_ret
      exact ⟨rfl, E10.out.trans (HE15.out.trans (by (repeat (with_reducible first | exact Ext.refl _ | assumption | refine Ext.drew ?_ | refine Ext.drewN ?_ _ | refine Ext.alloc ?_ _ | refine Ext.trans ?_ (by with_reducible assumption)))))⟩
  · as_aux_lemma =>
    have hposI : (0 : Int) < (n : Int) := by omega
    have d1' : decide ((0 : Int) < (n : Int)) = true := decide_eq_true hposI
    go_wp2_with fail
    refine (HAN.out _ _ _ E10.out (HR.out.ext E10.out) HMX.out).mono ?_
    rintro _ w11 ⟨rfl, hb11⟩
    have HE11 := Lib.hid hb11
    clear hb11
    go_wp2_with fail
    refine (HEA.out _ HE11.out).mono ?_
    rintro _ w12 ⟨⟨A12, c12, rfl, hc12, R12⟩, hb12⟩
    have HE12 := Lib.hid (HE11.out.trans hb12)
    have HR12 := Lib.hid R12
    clear hb12 R12 HE11
    go_wp2_with fail
    refine (HAN.out _ _ _ (E10.out.trans HE12.out) HR12.out hc12).mono ?_
    rintro _ w13 ⟨rfl, hb13⟩
    have HE13 := Lib.hid (HE12.out.trans hb13)
    clear hb13 HE12
    go_wp2_with fail
    refine (HEB.out _ HE13.out).mono ?_
    rintro _ w14 ⟨⟨A14, c14, rfl, hc14, R14⟩, hb14⟩
    have HE14 := Lib.hid (HE13.out.trans hb14)
    have HR14 := Lib.hid R14
    clear hb14 R14 HE13
    go_wp2_with fail
    refine (HSM.out _ _ _ (E10.out.trans HE14.out) HR14.out).mono ?_
    rintro _ w15 ⟨rfl, hb15⟩
    have HE15 := Lib.hid (HE14.out.trans hb15)
    have hss := beq_self sv
    have hbb := HBQ.out (isOk sk)
    have HE15w := Lib.hid (E10.out.trans HE15.out)
    clear hb15 HE14 HAN HSM HEA
    have y0 := (HBH10.out.ext HE15.out).cell 0
    have y1 := (HBH10.out.ext HE15.out).cell 1
    have y2 := (HBH10.out.ext HE15.out).cell 2
    have y3 := (HBH10.out.ext HE15.out).cell 3
    go_upto_region 18 with (fail)
    go_cut [96] (fun b wc => b = .bool false ∧ Ext w15 wc)
    case first =>
      as_aux_lemma =>
      go_region_held3 (fun W => W.cell? ⟨gh, 0, none⟩ = some (.int .i64 h0) ∧ W.cell? ⟨gh, 1, none⟩ = some (.int .i64 h1) ∧ W.cell? ⟨gh, 2, none⟩ = some (.int .i64 h2) ∧ W.cell? ⟨gh, 3, none⟩ = some (.int .i64 h3)) (first | exact ⟨y0, y1, y2, y3⟩ | exact ⟨(HBH10.out.ext (HE15.out.trans (by (repeat (with_reducible first | exact Ext.refl _ | assumption | refine Ext.drew ?_ | refine Ext.drewN ?_ _ | refine Ext.alloc ?_ _ | refine Ext.trans ?_ (by with_reducible assumption)))))).cell 0, (HBH10.out.ext (HE15.out.trans (by (repeat (with_reducible first | exact Ext.refl _ | assumption | refine Ext.drew ?_ | refine Ext.drewN ?_ _ | refine Ext.alloc ?_ _ | refine Ext.trans ?_ (by with_reducible assumption)))))).cell 1, (HBH10.out.ext (HE15.out.trans (by (repeat (with_reducible first | exact Ext.refl _ | assumption | refine Ext.drew ?_ | refine Ext.drewN ?_ _ | refine Ext.alloc ?_ _ | refine Ext.trans ?_ (by with_reducible assumption)))))).cell 2, (HBH10.out.ext (HE15.out.trans (by (repeat (with_reducible first | exact Ext.refl _ | assumption | refine Ext.drew ?_ | refine Ext.drewN ?_ _ | refine Ext.alloc ?_ _ | refine Ext.trans ?_ (by with_reducible assumption)))))).cell 3⟩) (first
        | (go_at_call 26; (with_reducible refine (HEB.out _ (HE15.out.trans (by (repeat (with_reducible first | exact Ext.refl _ | assumption | refine Ext.drew ?_ | refine Ext.drewN ?_ _ | refine Ext.alloc ?_ _ | refine Ext.trans ?_ (by with_reducible assumption)))))).mono ?_); rintro _ x5 ⟨⟨A6, c6, rfl, q6, R6⟩, hx5⟩; have HR6 := Lib.hid R6; have HQ6 := Lib.hid q6; clear R6 q6)
        | (go_at_call 29; (with_reducible refine (HWH.out _ _ _ (HE15w.out.trans (by (repeat (with_reducible first | exact Ext.refl _ | assumption | refine Ext.drew ?_ | refine Ext.drewN ?_ _ | refine Ext.alloc ?_ _ | refine Ext.trans ?_ (by with_reducible assumption))))) (HR6.out.ext (by (repeat (with_reducible first | exact Ext.refl _ | assumption | refine Ext.drew ?_ | refine Ext.drewN ?_ _ | refine Ext.alloc ?_ _ | refine Ext.trans ?_ (by with_reducible assumption))))) HQ6.out).mono ?_); rintro _ x6 ⟨rfl, hx6⟩)
        | fail)
      all_goals
        have e6 : Ext w15 x6 := by (repeat (with_reducible first | exact Ext.refl _ | assumption | refine Ext.drew ?_ | refine Ext.drewN ?_ _ | refine Ext.alloc ?_ _ | refine Ext.trans ?_ (by with_reducible assumption)))
        go_wp2_with fail
        go_meet
        exact ⟨rfl, e6⟩
    case rest =>
    as_aux_lemma =>
    obtain ⟨rfl, hb16⟩ := hcut
    obtain ⟨w16, rfl⟩ : ∃ W, W = wc := ⟨_, rfl⟩
    have HE16 := Lib.hid (HE15w.out.trans hb16)
    clear hb16 y0 y1 y2 y3 HWH HEB
    go_wp2_with fail
    go_quiet (fail)
    go_wp2_with fail
    go_ret
    exact ⟨rfl, HE16.out.trans (by (repeat (with_reducible first | exact Ext.refl _ | assumption | refine Ext.drew ?_ | refine Ext.drewN ?_ _ | refine Ext.alloc ?_ _ | refine Ext.trans ?_ (by with_reducible assumption))))⟩

theorem walk (A : Option Addr) (n c : Nat) (es : List Ent) (key : Int) (ask : ByteArray) (w : World)
    (hl : es.length = n) (hm : c ≤ maxLen) (hr : Rd w 2 A n c (es.flatMap Ent.cells)) (ge : ∀ y ∈ es, y.good) (gk : igood key) (hz : ask.size ≤ 1048576) (hS : StrG w) (hD : DebG w) (hP : PowG w) (hM : MaxG w) :
    Calls Tryz.prog 4 #[.slice A n c, .int .i64 key, .string ask] w fun e w' => e = .returned (.bool true) ∧ Ext w w' := by
  cases hk : keyI key with
  | false => exact walk_no A n c es key ask w hm hr hD hP (.inl hk)
  | true =>
    by_cases h2 : 200 < n
    · exact walk_no A n c es key ask w hm hr hD hP (.inr (.inl ⟨hk, h2⟩))
    · by_cases h3 : shK es key 0 = 0
      · exact walk_yes A n c es key ask w hm hr hD hP hS hM hz (by omega) h3
      · exact walk_no A n c es key ask w hm hr hD hP (.inr (.inr ⟨hk, h2, h3⟩))
end Go.Proofs.YtfccbjfiionepaaGreatDoor.topFollows
