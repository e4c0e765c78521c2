/- Two peaks beside each other. -/
import Derived.Test.YtcpnhmjibihpkaaPeaks3
import Derived.Test.YtcpnhmjibihpkaaPeaks4
namespace Go.Proofs.Ytcpnhmjibihpkaa
open Go.RowKit Go.WideShapes
set_option linter.unusedVariables false

theorem Pk.lower {w : World} {base b pb : Nat} {r : Option Nat} {xs : List Int} (h : Pk w base pb r xs) (hb : b ≤ base) : Pk w b pb r xs := by
  obtain ⟨v, rfl, hp⟩ := h
  exact ⟨v, rfl, Nat.le_trans hb hp.le, hp.bk, own_lower hp.own hb, hp.ne⟩
theorem Pk.two {w w' : World} {base pb qb : Nat} {r rq : Option Nat} {ys : List Int} (h : Pk w base qb rq ys) (h2 : Two w w' pb r) (h3 : qb ≠ pb) (h4 : r ≠ some qb) (h5 : ∀ g, rq = some g → g ≠ pb ∧ r ≠ some g) : Pk w' base qb rq ys := by
  obtain ⟨v, rfl, hp⟩ := h
  exact ⟨v, rfl, hp.le, (h2.block qb hp.bk.lt h3 (fun e => h4 e.symm)).trans hp.bk, own_two hp.own h2 h5, hp.ne⟩
/-- apart -/
def Sep (pb qb : Nat) (rp rq : Option Nat) : Prop := pb ≠ qb ∧ rp ≠ some qb ∧ rq ≠ some pb ∧ ∀ g, rp = some g → rq ≠ some g
theorem Sep.symm {pb qb : Nat} {rp rq : Option Nat} (h : Sep pb qb rp rq) : Sep qb pb rq rp := ⟨fun e => h.1 e.symm, h.2.2.1, h.2.1, fun g e e' => h.2.2.2 g e' e⟩
theorem Pk.other {w w' : World} {base pb qb : Nat} {r rq : Option Nat} {ys : List Int} (h : Pk w base qb rq ys) (h2 : Two w w' pb r) (hs : Sep pb qb r rq) : Pk w' base qb rq ys :=
  h.two h2 (fun e => hs.1 e.symm) hs.2.1 fun g e => ⟨fun e' => hs.2.2.1 (by rw [e, e']), fun e' => hs.2.2.2 g e' e⟩
theorem Sep.next {w : World} {base pb qb : Nat} {r r' rq : Option Nat} {ys : List Int} (hs : Sep pb qb r rq) (h : Pk w base qb rq ys) (hr : r' = r ∨ ∀ g, r' = some g → w.heap.size ≤ g) : Sep pb qb r' rq := by
  rcases hr with rfl | hr
  · exact hs
  · obtain ⟨h1, h2⟩ := h.below
    refine ⟨hs.1, fun e => ?_, hs.2.2.1, fun g e e' => ?_⟩
    · have := hr _ e; omega
    · have := hr _ e
      have := h2 _ e'
      omega
/-- one that lies all beyond -/
theorem Sep.fresh {w w' : World} {base pb qb : Nat} {r rq : Option Nat} {xs ys : List Int} (h : Pk w base pb r xs) (hq : Pk w' w.heap.size qb rq ys) : Sep pb qb r rq := by
  obtain ⟨h1, h2⟩ := h.below
  obtain ⟨h3, h4⟩ := hq.row
  refine ⟨by omega, fun e => ?_, fun e => ?_, fun g e e' => ?_⟩
  · have := h2 _ e; omega
  · have := h4 _ e; omega
  · have := h2 _ e
    have := h4 _ e'
    omega
theorem appX_next {xs : List Int} {j : Nat} {z : Int} (h : xs[j]? = some z) (hv : allV xs = true) (hl : xs.length ≤ 200) : appX (xs.take j) z = xs.take (j + 1) ∧ appK (xs.take j).length z = 0 := by
  obtain ⟨hj, rfl⟩ := List.getElem?_eq_some_iff.1 h
  have hz := allV_get hv h
  have hlt : (xs.take j).length < 200 := by rw [List.length_take]; omega
  exact ⟨by rw [appX_yes ⟨hz, hlt⟩, List.take_succ_eq_append_getElem hj], appK_zero ⟨hz, hlt⟩⟩
/-- the parts of peaks, begun anew -/
theorem ofK_parts {xs : List Int} (hv : allV xs = true) (hl : xs.length ≤ 200) : ofK (xs.length : Nat) (partsF xs 0 xs.length).reverse = 0 := by
  have h1 := partsF_len xs xs.length 0 _ (Nat.le_refl _)
  have h2 := allV_parts hv (by omega) xs.length 0 xs.length (Nat.le_refl _) (by rw [Nat.pow_zero]; omega)
  have h3 : allV (partsF xs 0 xs.length).reverse = true := by
    unfold allV at h2 ⊢
    rw [List.all_reverse]; exact h2
  rw [ofK_val (by omega) (by rw [List.length_reverse, h1, Int.toNat_natCast]; simp), if_pos h3]
theorem Pk.ofS {w : World} {base qb : Nat} {v : Value} {xs : List Int} (h : PkS w base qb v ((xs.length : Nat) : Int).toNat ((partsF xs 0 xs.length).reverse).reverse) : Pk w base qb v.ownBlock xs := by
  rw [List.reverse_reverse, Int.toNat_natCast] at h
  exact ⟨v, rfl, h⟩
theorem partsF_three : ∃ z, partsF [5, 6, 7] 0 3 = [7, z] := by
  refine ⟨ofL (seg [5, 6, 7] ((1 / 2) * 2 ^ 2) (2 ^ 1)), ?_⟩
  rw [partsF_odd _ 0 (m := 3) (by decide), show 3 / 2 = 1 from rfl, show 0 + 1 = 1 from rfl, partsF_odd _ 1 (m := 1) (by decide), show 1 / 2 = 0 from rfl, partsF_zero]
  congr 1
  exact ofL_one 7
end Go.Proofs.Ytcpnhmjibihpkaa
