/- Heads of one log go together; plain. -/
import Derived.Test.YtdefdcaeiojmeaaDoorForkC
import Derived.Test.YtdefdcaeiojmeaaDoorFindF
import Derived.Test.YtdefdcaeiojmeaaDoorGrowP
import Derived.Test.YtdefdcaeiojmeaaDoorLeafs
namespace Go.Proofs.YtdefdcaeiojmeaaDoor
set_option linter.unusedVariables false

/-- a head of so many entries, of that root -/
def lgB (n : Nat) (r t : Int) : Hd := ⟨(n : Int), r, t, 0⟩
theorem lg_ok {n : Nat} {r t key : Int} (hn : n ≤ 200) (hr : vld r = true) (ht : 0 ≤ t ∧ t ≤ 1000000) (hkey : keyI key = true) :
    sgnK (lgB n r t) key = 0 ∧ verK (sgnH (lgB n r t) key) key = 0 ∧ (sgnH (lgB n r t) key).size = n ∧ (sgnH (lgB n r t) key).root = r := by
  have hb : (blank (lgB n r t)).ok = true := Hd.ok_of ⟨by show (0 : Int) ≤ (n : Int); omega, by show (n : Int) ≤ 200; omega, ht.1, ht.2, hr, vld_mk ⟨Int.le_refl 0, by show (0 : Int) < 2147483647; decide⟩⟩
  have hs : sgnK (lgB n r t) key = 0 := if_pos (by rw [hkey, hb]; rfl)
  obtain ⟨h1, _, _, h4⟩ := sgn_ver hs
  refine ⟨hs, h1, ?_, ?_⟩
  · rw [h4]; rfl
  · rw [h4]; rfl
theorem chk_older {xs : List Int} (hk : leafsOk xs) {n m : Nat} (h : n ≤ m) (hm : m ≤ xs.length) {t u key : Int} (ht : 0 ≤ t ∧ t ≤ 1000000) (hu : 0 ≤ u ∧ u ≤ 1000000) (hkey : keyI key = true) :
    chk (sgnH (lgB n (ofL (xs.take n)) t) key) (sgnH (lgB m (ofL (xs.take m)) u) key) key (goP xs n m) = (true, 0) ∧ prvB (sgnH (lgB n (ofL (xs.take n)) t) key) (sgnH (lgB m (ofL (xs.take m)) u) key) key = false ∧ bothK (sgnH (lgB n (ofL (xs.take n)) t) key) (sgnH (lgB m (ofL (xs.take m)) u) key) key = 0 := by
  have hx := hk.1
  obtain ⟨a1, a2, a3, a4⟩ := lg_ok (n := n) (t := t) (key := key) (by omega) (vld_root (leafsOk_take hk n)) ht hkey
  obtain ⟨b1, b2, b3, b4⟩ := lg_ok (n := m) (t := u) (key := key) (by omega) (vld_root (leafsOk_take hk m)) hu hkey
  have hb : bothK (sgnH (lgB n (ofL (xs.take n)) t) key) (sgnH (lgB m (ofL (xs.take m)) u) key) key = 0 := by
    unfold bothK; rw [if_neg (not_not_intro a2), b2]
  refine ⟨?_, ?_, hb⟩
  · unfold chk chkX
    rw [hb, if_neg (not_not_intro rfl), a3, b3, if_neg (by omega)]
    by_cases e : n = m
    · subst e
      have hp : goP xs n n = [] := if_neg (by omega)
      rw [if_pos rfl, hp, if_neg (by simp), a4, b4]; simp
    · rw [if_neg (by omega)]
      by_cases e0 : n = 0
      · rw [if_pos ⟨by omega, by omega⟩]
      · rw [if_neg (by omega)]
        have hp : goP xs n m = growL (xs.take m) n true := if_pos ⟨by omega, by omega⟩
        have hg := gcheck_grow (xs := xs) (o := n) (m := m) (by omega) h hm hk
        rw [hp, a4, b4, hg]; rfl
  · unfold prvB splB
    rw [hb, a3, b3, a4, b4]
    by_cases e : n = m
    · subst e; simp
    · have : ¬ ((n : Int) = (m : Int)) := by omega
      simp [this]
theorem gmV_goP {xs : List Int} (hk : leafsOk xs) {n m : Nat} (h : 1 ≤ n) (h2 : n < m) (hm : m ≤ xs.length) : gmK xs n m = 0 ∧ gmV xs n m = goP xs n m := by
  have h0 : gmK xs n m = 0 := gmK_ok hk ⟨by omega, by omega, by omega⟩
  refine ⟨h0, ?_⟩
  unfold gmV goP
  rw [if_pos h0, if_pos ⟨h, h2⟩]
  rfl
/-! ### entries have leafs -/
theorem leafs_of_ents {es : List Ent} (hk : entsOk es) : leafsOk (es.map Ent.leaf) := ⟨by rw [List.length_map]; exact hk.1, by
  unfold allV
  rw [List.all_eq_true]
  intro x hx
  rw [List.mem_map] at hx
  obtain ⟨e, _, rfl⟩ := hx
  exact vld_sum _⟩
/-! ### Find -/
theorem findV_many {l : List Hd} {key : Int} (h : 20 < l.length) : findV l key = (0, 0, 4) := if_pos h
theorem findV_ill {l : List Hd} {key : Int} (h : ¬ 20 < l.length) (h2 : verL key l ≠ 0) : findV l key = (0, 0, verL key l) := by
  unfold findV findX; rw [if_neg h, if_pos h2]
theorem findV_well {l : List Hd} {key : Int} (h : ¬ 20 < l.length) (h2 : verL key l = 0) : findV l key = pairV (fK l l.length 0) := by
  unfold findV findX; rw [if_neg h, if_neg (not_not_intro h2)]
theorem findV_none {l : List Hd} {key : Int} (h : l.length ≤ 20) (h2 : ∀ x ∈ l, verK x key = 0) (h3 : ∀ a ∈ l, ∀ b ∈ l, splB a b = false) : findV l key = (0, 0, 5) := by
  rw [findV_well (by omega) (verL_ok h2), fK_none]
  · rfl
  · intro m _ hm
    refine fI_none fun i _ hi => ?_
    unfold spAt
    cases e1 : l[i]? with
    | none => rfl
    | some a =>
      cases e2 : l[m]? with
      | none => rfl
      | some b => exact h3 a (List.mem_of_getElem? e1) b (List.mem_of_getElem? e2)
theorem findV_two {p q : Hd} {key : Int} (hp : verK p key = 0) (hq : verK q key = 0) (h : splB p q = true) : findV [p, q] key = (0, 1, 0) := by
  rw [findV_well (by simp) (verL_ok (by intro x hx; simp at hx; rcases hx with rfl | rfl <;> assumption))]
  have h0 : fI [p, q] 0 0 0 = none := rfl
  have h1 : fI [p, q] 1 1 0 = some 0 := by
    show (if spAt [p, q] 0 1 = true then some 0 else fI [p, q] 1 0 1) = some 0
    rw [if_pos (by exact h)]
  show pairV (fK [p, q] 2 0) = _
  rw [fK_some (i := 0) (q := 1) (by omega) (by omega) h1 (fun m _ hm => by obtain rfl : m = 0 := by omega
                                                                           exact h0)]
  rfl
/-- the law's search: ahead of row k -/
def FK (l : List Hd) (n k : Nat) (f x y : Int) : Prop := (f = 5 ∧ x = 0 ∧ y = 0 ∧ ∀ m, m < k → fI l m m 0 = none) ∨ (f = 0 ∧ pairV (fK l n 0) = (x, y, 0))
/-- in row k, ahead of i -/
def FI (l : List Hd) (n k i : Nat) (f x y : Int) : Prop := (f = 5 ∧ x = 0 ∧ y = 0 ∧ (∀ m, m < k → fI l m m 0 = none) ∧ ∀ m, m < i → spAt l m k = false) ∨ (f = 0 ∧ pairV (fK l n 0) = (x, y, 0))
theorem FI_hit {l : List Hd} {n k i : Nat} {x y : Int} (h : FI l n k i 5 x y) (hi : i < k) (hk : k < n) (hs : spAt l i k = true) : pairV (fK l n 0) = ((i : Int), (k : Int), 0) := by
  rcases h with ⟨_, _, _, h1, h2⟩ | ⟨h, _⟩
  · rw [fK_some (i := i) (q := k) (by omega) (by omega) (fI_some (by omega) (by omega) hs fun m _ hm => h2 m hm) fun m _ hm => h1 m hm]
    rfl
  · cases h
theorem FI_next {l : List Hd} {n k i : Nat} {x y : Int} (h : FI l n k i 5 x y) (hs : spAt l i k = false) : FI l n k (i + 1) 5 x y := by
  rcases h with ⟨h0, hx, hy, h1, h2⟩ | ⟨h, _⟩
  · exact .inl ⟨h0, hx, hy, h1, fun m hm => by
      by_cases e : m = i
      · subst e; exact hs
      · exact h2 m (by omega)⟩
  · cases h
theorem FK_next {l : List Hd} {n k : Nat} {f x y : Int} (h : FI l n k k f x y) : FK l n (k + 1) f x y := by
  rcases h with ⟨h0, hx, hy, h1, h2⟩ | h
  · exact .inl ⟨h0, hx, hy, fun m hm => by
      by_cases e : m = k
      · subst e; exact fI_none fun i _ hi => h2 i (by omega)
      · exact h1 m (by omega)⟩
  · exact .inr h
theorem FK_end {l : List Hd} {n : Nat} {f x y : Int} (h : FK l n n f x y) : pairV (fK l n 0) = (x, y, f) := by
  rcases h with ⟨rfl, rfl, rfl, h1⟩ | ⟨rfl, h⟩
  · rw [fK_none fun m _ hm => h1 m (by omega)]; rfl
  · exact h
end Go.Proofs.YtdefdcaeiojmeaaDoor
