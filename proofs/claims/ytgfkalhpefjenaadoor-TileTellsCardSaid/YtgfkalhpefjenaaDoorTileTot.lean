/- tile.All, tile.Sums, tile.Where: total; which tiles there are. -/
import Derived.Test.YtgfkalhpefjenaaDoorSums
import Derived.Test.YtgfkalhpefjenaaDoorRTile
import Derived.Test.YtgfkalhpefjenaaDoorTot
namespace Go.Proofs.YtgfkalhpefjenaaDoor
open Go.RowKit
set_option linter.unusedVariables false

def allK (s : Int) : Int := if 0 ≤ s ∧ s ≤ 200 then 0 else 1
def allW (s : Int) : List Tl := if 0 ≤ s ∧ s ≤ 200 then allT s.toNat 4 else []
theorem All_any (s : Int) (w : World) :
    Calls Tryd.prog 18 #[.int .i64 s] w fun e w' => (∃ v, e = .returned (.tuple #[v, errR (allK s)]) ∧ OwnT w w' v (allW s)) ∧ Ext w w' := by
  by_cases h : 0 ≤ s ∧ s ≤ 200
  · have hk : allK s = 0 := if_pos h
    have hw : allW s = allT s.toNat 4 := if_pos h
    rw [hk, hw]
    exact All_ok s w h.1 h.2
  · have hk : allK s = 1 := if_neg h
    have hw : allW s = [] := if_neg h
    rw [hk, hw]
    exact (All_bad s w h).mono fun e w' hh => ⟨⟨_, hh.1, own_nil _ _ _ _⟩, hh.2⟩
theorem allW_len (s : Int) : (allW s).length ≤ 204 := by
  unfold allW
  split
  · rename_i h
    exact allT_len s.toNat (by omega) 4
  · simp
def tlOk (t : Tl) : Prop := 0 ≤ t.level ∧ t.level ≤ 3 ∧ 0 ≤ t.index ∧ 1 ≤ t.wide ∧ t.wide ≤ 4
instance (t : Tl) : Decidable (tlOk t) := by unfold tlOk; infer_instance
def tlIn (n : Nat) (t : Tl) : Prop := t.index.toNat * 4 + t.wide.toNat ≤ n / 4 ^ t.level.toNat
instance (n : Nat) (t : Tl) : Decidable (tlIn n t) := by unfold tlIn; infer_instance
def tsK (xs : List Int) (t : Tl) : Int := if leafsK xs ≠ 0 then leafsK xs else if ¬ tlOk t then 1 else if tlIn xs.length t then 0 else 5
def tsV (xs : List Int) (t : Tl) : List Int := if tsK xs t = 0 then sumsT xs t.level.toNat t.index.toNat t.wide.toNat else []
theorem leafsK_ne {xs : List Int} (h : ¬ leafsOk xs) : leafsK xs = leafsErr xs := by
  unfold leafsK leafsErr
  by_cases h2 : 200 < xs.length
  · rw [if_pos h2, if_pos h2]
  · rw [if_neg h2, if_neg h2]
    by_cases h3 : allV xs = true
    · exact absurd ⟨by omega, h3⟩ h
    · rw [if_neg h3]
theorem TSums_tot (A : Option Addr) (n c : Nat) (xs : List Int) (t : Tl) (w : World) (hr : Rd w 1 A n c (xs.map (Value.int .i64))) (hm : c ≤ maxLen) :
    Calls Tryd.prog 51 #[.slice A n c, .agg t.cells.toArray] w fun e w' => (∃ v, e = .returned (.tuple #[v, errR (tsK xs t)]) ∧ OwnN w w' v (tsV xs t)) ∧ Ext w w' := by
  have hx := hr.lenI
  obtain ⟨level, index, wide⟩ := t
  by_cases hk : leafsOk xs
  · have k0 := leafsK_ok hk
    by_cases ht : tlOk ⟨level, index, wide⟩
    · have ht' := ht
      obtain ⟨t1, t2, t3, t4, t5⟩ := ht
      simp only at t1 t2 t3 t4 t5
      obtain ⟨k, rfl⟩ := Int.eq_ofNat_of_zero_le t1
      obtain ⟨i, rfl⟩ := Int.eq_ofNat_of_zero_le t3
      obtain ⟨m, rfl⟩ := Int.eq_ofNat_of_zero_le (show 0 ≤ wide by omega)
      by_cases hin : tlIn xs.length ⟨(k : Int), (i : Int), (m : Int)⟩
      · have e1 : tsK xs ⟨(k : Int), (i : Int), (m : Int)⟩ = 0 := by unfold tsK; rw [if_neg (by rw [k0]; simp), if_neg (by simp [ht']), if_pos hin]
        have e2 : tsV xs ⟨(k : Int), (i : Int), (m : Int)⟩ = sumsT xs k i m := by unfold tsV; rw [if_pos e1]; rfl
        rw [e1, e2]
        exact TSums_ok A n c xs k i m w hr hm hk (by omega) (by omega) (by omega) (by rw [← hx]; exact hin)
      · have e1 : tsK xs ⟨(k : Int), (i : Int), (m : Int)⟩ = 5 := by unfold tsK; rw [if_neg (by rw [k0]; simp), if_neg (by simp [ht']), if_neg hin]
        have e2 : tsV xs ⟨(k : Int), (i : Int), (m : Int)⟩ = [] := by unfold tsV; rw [if_neg (by rw [e1]; decide)]
        rw [e1, e2]
        exact (TSums_none A n c xs k i m w hr hm hk (by omega) (by omega) (by omega) (by rw [← hx]; exact Nat.lt_of_not_le hin)).mono fun e w' hh => ⟨⟨_, hh.1, own_nil _ _ _ _⟩, hh.2⟩
    · have e1 : tsK xs ⟨level, index, wide⟩ = 1 := by unfold tsK; rw [if_neg (by rw [k0]; simp), if_pos ht]
      have e2 : tsV xs ⟨level, index, wide⟩ = [] := by unfold tsV; rw [if_neg (by rw [e1]; decide)]
      rw [e1, e2]
      exact (TSums_range A n c xs level index wide w hr hm hk ht).mono fun e w' hh => ⟨⟨_, hh.1, own_nil _ _ _ _⟩, hh.2⟩
  · have k0 := leafsK_bad hk
    have e1 : tsK xs ⟨level, index, wide⟩ = leafsErr xs := by unfold tsK; rw [if_pos k0, leafsK_ne hk]
    have e2 : tsV xs ⟨level, index, wide⟩ = [] := by unfold tsV; rw [if_neg (by rw [e1, ← leafsK_ne hk]; exact k0)]
    rw [e1, e2, errR_ne (by rw [← leafsK_ne hk]; exact k0)]
    exact (TSums_bad A n c xs level index wide w hr hm hk).mono fun e w' hh => ⟨⟨_, hh.1, own_nil _ _ _ _⟩, hh.2⟩
def whOk (k i : Int) : Prop := 0 ≤ k ∧ k ≤ 3 ∧ 0 ≤ i ∧ i ≤ 199
instance (k i : Int) : Decidable (whOk k i) := by unfold whOk; infer_instance
def whK (k i : Int) : Int := if whOk k i then 0 else 1
def whT (k i : Int) : Tl := if whOk k i then ⟨k, i / 4, i % 4 + 1⟩ else ⟨0, 0, 0⟩
def whA (k i : Int) : Int := if whOk k i then i % 4 else 0
theorem Where_any (k i : Int) (w : World) :
    Calls Tryd.prog 52 #[.int .i64 k, .int .i64 i] w fun e w' => e = .returned (.tuple #[.agg (whT k i).cells.toArray, .int .i64 (whA k i), errR (whK k i)]) ∧ Ext w w' := by
  by_cases h : whOk k i
  · rw [show whK k i = 0 from if_pos h, show whT k i = ⟨k, i / 4, i % 4 + 1⟩ from if_pos h, show whA k i = i % 4 from if_pos h]
    obtain ⟨h1, h2, h3, h4⟩ := h
    obtain ⟨k, rfl⟩ := Int.eq_ofNat_of_zero_le h1
    obtain ⟨i, rfl⟩ := Int.eq_ofNat_of_zero_le h3
    exact Where_ok k i w (by omega) (by omega)
  · rw [show whK k i = 1 from if_neg h, show whT k i = ⟨0, 0, 0⟩ from if_neg h, show whA k i = 0 from if_neg h]
    exact Where_bad k i w h

/-- does a tile of a list hold another? -/
def holdsT (t u : Tl) : Bool := decide (u.level = t.level ∧ u.index = t.index ∧ t.wide ≤ u.wide)
def hasT (t : Tl) (T : List Tl) : Bool := T.any (holdsT t)
theorem hasT_snoc (t u : Tl) (T : List Tl) : hasT t (T ++ [u]) = (hasT t T || holdsT t u) := by simp [hasT]
theorem allT_has (s : Nat) : ∀ (K k i : Nat), k < K → 4 * i < s / 4 ^ k → tileAt (s / 4 ^ k) k i ∈ allT s K
  | 0, k, i, h, _ => by omega
  | K + 1, k, i, h, h2 => by
    rw [allT, List.mem_append]
    by_cases e : k = K
    · subst e
      refine .inr ?_
      unfold tilesAt
      rw [List.mem_map]
      exact ⟨i, by rw [List.mem_range]; omega, rfl⟩
    · exact .inl (allT_has s K k i (by omega) h2)
theorem hasT_all {t : Tl} {n : Nat} (ht : tlOk t) : hasT t (allT n 4) = true ↔ tlIn n t := by
  obtain ⟨level, index, wide⟩ := t
  obtain ⟨t1, t2, t3, t4, t5⟩ := ht
  simp only at t1 t2 t3 t4 t5
  obtain ⟨k, rfl⟩ := Int.eq_ofNat_of_zero_le t1
  obtain ⟨i, rfl⟩ := Int.eq_ofNat_of_zero_le t3
  obtain ⟨m, rfl⟩ := Int.eq_ofNat_of_zero_le (show 0 ≤ wide by omega)
  unfold hasT tlIn
  rw [List.any_eq_true]
  simp only [Int.toNat_natCast]
  constructor
  · rintro ⟨u, hu, hh⟩
    obtain ⟨k', i', m', h1, rfl, h2, h3, h4⟩ := allT_mem n 4 u hu
    obtain ⟨e1, e2, e3⟩ := of_decide_eq_true hh
    simp only at e1 e2 e3
    have f1 : k' = k := by omega
    have f2 : i' = i := by omega
    subst f1; subst f2
    omega
  · intro h
    refine ⟨_, allT_has n 4 k i (by omega) (by omega), decide_eq_true ⟨rfl, rfl, ?_⟩⟩
    show (m : Int) ≤ min 4 (((n / 4 ^ k : Nat) : Int) - (i : Int) * 4)
    generalize n / 4 ^ k = q at *
    omega
theorem holds_in {t u : Tl} {n : Nat} (ht : tlOk t) (hu : u ∈ allT n 4) (h : holdsT t u = true) : tlIn n t :=
  (hasT_all ht).1 (List.any_eq_true.2 ⟨u, hu, h⟩)
end Go.Proofs.YtgfkalhpefjenaaDoor
