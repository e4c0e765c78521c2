/- Keys: the tree of places, plain; and which places are used. -/
import Derived.Maps.OwnSet
import Derived.Test.YtnafegofmbhahaaDoorKeys1
import Derived.Test.YtnafegofmbhahaaDoorGrown
namespace Go.Proofs.YtnafegofmbhahaaDoor
open Go.RowKit
open Go.Maps (int_keyed keyOf_int_mk)
set_option linter.unusedVariables false
attribute [local go_sem ↓] Go.wp_at_zero Go.wp_at_succ

def leE : Int := leafL []
def usedOf (es : List Pr) (i : Nat) : Bool := es.any (fun p => plcN p.key == i)
def rowOf (es : List Pr) (i : Nat) : Int := match es.find? (fun p => plcN p.key == i) with | some p => kleaf p.key p.value | none => leE
theorem usedOf_nil (i : Nat) : usedOf [] i = false := rfl
theorem rowOf_nil (i : Nat) : rowOf [] i = leE := rfl
theorem usedOf_snoc (es : List Pr) (p : Pr) (i : Nat) : usedOf (es ++ [p]) i = (usedOf es i || (plcN p.key == i)) := by simp [usedOf]
theorem rowOf_free {es : List Pr} {i : Nat} (h : usedOf es i = false) : rowOf es i = leE := by
  have : es.find? (fun p => plcN p.key == i) = none := by
    rw [List.find?_eq_none]
    intro x hx h2
    have h3 : usedOf es i = true := List.any_eq_true.2 ⟨x, hx, h2⟩
    rw [h] at h3; cases h3
  unfold rowOf
  rw [this]
theorem rowOf_snoc {es : List Pr} {p : Pr} (h : usedOf es (plcN p.key) = false) (i : Nat) : rowOf (es ++ [p]) i = if i = plcN p.key then kleaf p.key p.value else rowOf es i := by
  by_cases hi : i = plcN p.key
  · subst hi
    have : es.find? (fun q => plcN q.key == plcN p.key) = none := by
      rw [List.find?_eq_none]
      intro x hx h2
      have h3 : usedOf es (plcN p.key) = true := List.any_eq_true.2 ⟨x, hx, h2⟩
      rw [h] at h3; cases h3
    rw [if_pos rfl]
    unfold rowOf
    rw [List.find?_append, this]
    simp
  · rw [if_neg hi]
    unfold rowOf
    rw [List.find?_append]
    have : ([p] : List Pr).find? (fun q => plcN q.key == i) = none := by
      rw [List.find?_eq_none]
      intro x hx h2
      obtain rfl : x = p := by simpa using hx
      simp at h2
      exact hi h2.symm
    rw [this, Option.or_none]
theorem rowOf_bd (es : List Pr) (i : Nat) : 0 ≤ rowOf es i ∧ rowOf es i < 2147483647 := by
  unfold rowOf
  split
  · exact sumL_bd _
  · exact sumL_bd _
theorem usedOf_mem {es : List Pr} {p : Pr} (h : p ∈ es) : usedOf es (plcN p.key) = true := List.any_eq_true.2 ⟨p, h, by simp⟩

/-- what is wrong with the next pair -/
def ordB (seen : List Pr) (p : Pr) : Bool := match seen.getLast? with | some q => !(Op.bytesLess q.key.toList p.key.toList) | none => false
def pairK (seen : List Pr) (p : Pr) : Int :=
  if keyK p.key ≠ 0 then keyK p.key else if 200 < p.value.size then 4 else if p.gone = true then 3 else if (ordB seen p || usedOf seen (plcN p.key)) = true then 7 else 0
def treeGo : List Pr → List Pr → Int
  | seen, [] => 0
  | seen, p :: r => if pairK seen p ≠ 0 then pairK seen p else treeGo (seen ++ [p]) r
def treeK (es : List Pr) : Int := if 60 < es.length then 4 else treeGo [] es
theorem treeGo_step {es : List Pr} {j : Nat} {p : Pr} (h : es[j]? = some p) : treeGo (es.take j) (es.drop j) = if pairK (es.take j) p ≠ 0 then pairK (es.take j) p else treeGo (es.take (j + 1)) (es.drop (j + 1)) := by
  obtain ⟨hj, rfl⟩ := List.getElem?_eq_some_iff.1 h
  rw [List.drop_eq_getElem_cons hj, treeGo, List.take_succ_eq_append_getElem hj]
theorem pairK_zero {seen : List Pr} {p : Pr} (h : pairK seen p = 0) : keyK p.key = 0 ∧ p.value.size ≤ 200 ∧ p.gone = false ∧ ordB seen p = false ∧ usedOf seen (plcN p.key) = false := by
  unfold pairK at h
  by_cases h1 : keyK p.key = 0
  · rw [if_neg (not_not_intro h1)] at h
    by_cases h2 : 200 < p.value.size
    · rw [if_pos h2] at h; cases h
    · rw [if_neg h2] at h
      by_cases h3 : p.gone = true
      · rw [if_pos h3] at h; cases h
      · rw [if_neg h3] at h
        by_cases h4 : (ordB seen p || usedOf seen (plcN p.key)) = true
        · rw [if_pos h4] at h; cases h
        · simp at h3 h4
          exact ⟨h1, by omega, h3, h4.1, h4.2⟩
  · rw [if_pos h1] at h; exact absurd h h1

/-- all rows -/
def rowF (es : List Pr) : Nat → Nat → Int
  | 0, i => rowOf es i
  | k + 1, i => nodeL (rowF es k (2 * i)) (rowF es k (2 * i + 1))
theorem rowF_bd (es : List Pr) : ∀ (k i : Nat), 0 ≤ rowF es k i ∧ rowF es k i < 2147483647
  | 0, i => rowOf_bd es i
  | k + 1, i => nodeL_bd _ _

/-! ### Which places are used, in memory -/
abbrev klN (i : Nat) : Lit := .int .i64 (i : Int)
def elB (v : Value) : Option (DataW Value × List MemPlace) := some (.held v, [])
def UsedAt (w : World) (mb N : Nat) (U : Nat → Bool) : Prop :=
  ∃ D : DataW Value, w.ownsMap Tryd.prog 3 elB mb N D ∧ ∀ i, i < 256 → (U i = false ∧ Maps.has D (klN i) = false) ∨ (U i = true ∧ ∀ z, D.atKey (klN i) z = .held (.bool true))
theorem klN_wf {i : Nat} (h : i < 256) : (klN i).wf = true := by
  have h1 : IntKind.i64.min ≤ (i : Int) := by show (-9223372036854775808 : Int) ≤ (i : Int); omega
  have h2 : (i : Int) ≤ IntKind.i64.max := by show (i : Int) ≤ 9223372036854775807; omega
  show (decide (IntKind.i64.min ≤ (i : Int)) && decide ((i : Int) ≤ IntKind.i64.max)) = true
  rw [decide_eq_true h1, decide_eq_true h2]; rfl
theorem klN_ne {i j : Nat} (h : i ≠ j) : klN i ≠ klN j := by
  intro e
  injection e with _ e
  omega
theorem UsedAt.ext {w w' : World} {mb N : Nat} {U : Nat → Bool} (h : UsedAt w mb N U) (e : Ext w w') : UsedAt w' mb N U := by
  obtain ⟨D, h1, h2⟩ := h
  exact ⟨D, h1.kept (e.gb none) (by simp), h2⟩
theorem UsedAt.set {w : World} {mb N : Nat} {U : Nat → Bool} (h : UsedAt w mb N U) {a : Addr} (ha : mb ≠ a.block) (u : Value) : UsedAt (w.setCell a u) mb N U := by
  obtain ⟨D, h1, h2⟩ := h
  exact ⟨D, h1.setCell ha u, h2⟩
theorem UsedAt.new (w : World) : UsedAt (w.alloc (.map #[] 0)) w.heap.size 0 (fun _ => false) := ⟨.map [], World.ownsMap_made w _ _ _, fun i hi => .inl ⟨rfl, rfl⟩⟩
set_option maxRecDepth 100000 in
theorem UsedAt.look {w : World} {mb N : Nat} {U : Nat → Bool} (h : UsedAt w mb N U) {i : Nat} (hi : i < 256) :
    (Instr.lookup 134 (.map (some mb)) (.int .i64 (i : Int)) false).run Tryd.prog w = .ok (.bool (U i)) w := by
  obtain ⟨D, ⟨es, clock, hb, F, _, rfl⟩, h2⟩ := h
  rcases Maps.fit_look (t := 134) (e := 4) false (int_keyed Tryd.underlying3) Tryd.underlying134 (Tryd.zeroValue4 w) hb F (keyOf_int_mk Tryd.underlying3 (klN_wf hi)) with ⟨hrun, _, hat⟩ | ⟨e0, y, _, _, hrun, hRv, hat, _⟩
  · rcases h2 i hi with ⟨u, _⟩ | ⟨u, h3⟩
    · rw [u]; exact hrun
    · have h4 := h3 (.held (.bool false))
      rw [hat] at h4
      injection h4 with h4
      injection h4 with h4
      cases h4
  · rcases h2 i hi with ⟨u, h3⟩ | ⟨u, h3⟩
    · have h4 := Maps.has_true_of_atKey hat
      rw [h3] at h4; cases h4
    · have h4 := h3 (.held (.bool false))
      rw [hat] at h4
      have h5 : y = (.held e0.val, []) := by
        unfold elB at hRv
        injection hRv with hRv
        exact hRv.symm
      rw [h5] at h4
      injection h4 with h4
      rw [u]
      simp only [Bool.false_eq_true, if_false] at hrun
      rw [h4] at hrun
      exact hrun
set_option maxRecDepth 100000 in
theorem UsedAt.put {w : World} {mb N : Nat} {U : Nat → Bool} (h : UsedAt w mb N U) (hN : N < 1000000) {i : Nat} (hi : i < 256) :
    ∃ w', (Instr.mapUpdate 134 (.map (some mb)) (.int .i64 (i : Int)) (.bool true)).run Tryd.prog w = .ok () w' ∧ UsedAt w' mb (N + 1) (fun j => U j || (i == j)) ∧ w.grownBy w' (some mb) ∧ ∃ es ck, w.heap[mb]? = some (.map es ck) := by
  obtain ⟨D, h1, h2⟩ := h
  have hK := int_keyed (P := Tryd.prog) Tryd.underlying3
  have hkey := keyOf_int_mk (P := Tryd.prog) Tryd.underlying3 (klN_wf hi)
  obtain ⟨w', hrun, hown, ht⟩ := h1.store (t := 134) (e := 4) hK Tryd.underlying134 (by simp only [maxLen]; omega) hkey (val := .bool true) (d := .held (.bool true)) (ps := []) rfl
  obtain ⟨es, ck, hb, _⟩ := id h1
  refine ⟨w', hrun, ⟨_, hown, fun j hj => ?_⟩, ht.grown, es, ck, hb⟩
  by_cases hji : j = i
  · subst hji
    refine .inr ⟨by simp, fun z => Maps.atKey_put_same h1.isMap (hK.key hkey) _ z⟩
  · have hne : (i == j) = false := by simp; omega
    simp only [hne, Bool.or_false]
    rcases h2 j hj with ⟨u, h3⟩ | ⟨u, h3⟩
    · exact .inl ⟨u, (Maps.has_put_other (klN_ne hji) _).trans h3⟩
    · exact .inr ⟨u, fun z => (Maps.atKey_put_other (klN_ne hji) _ z).trans (h3 z)⟩
end Go.Proofs.YtnafegofmbhahaaDoor
