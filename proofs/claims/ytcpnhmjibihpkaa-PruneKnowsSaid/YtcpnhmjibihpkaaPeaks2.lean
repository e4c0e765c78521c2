/- Peaks: Append both ways, Parts. -/
import Derived.Test.YtcpnhmjibihpkaaPeaks
import Derived.Test.YtcpnhmjibihpkaaProof
import Derived.Test.YtcpnhmjibihpkaaShelf
namespace Go.Proofs.Ytcpnhmjibihpkaa
open Go.RowKit Go.WideShapes
set_option linter.unusedVariables false
attribute [local go_sem ↓] Go.wp_at_zero Go.wp_at_succ

def Pk (w : World) (base pb : Nat) (r : Option Nat) (xs : List Int) : Prop := ∃ v, v.ownBlock = r ∧ PkS w base pb v xs.length (partsF xs 0 xs.length)
theorem Pk.ext {w w' : World} {base pb : Nat} {r : Option Nat} {xs : List Int} (h : Pk w base pb r xs) (e : Ext w w') : Pk w' base pb r xs := by
  obtain ⟨v, h1, h2⟩ := h
  exact ⟨v, h1, h2.ext e⟩
def appX (xs : List Int) (s : Int) : List Int := if appK xs.length s = 0 then xs ++ [s] else xs
theorem Two.refl (w : World) (a : Nat) (r : Option Nat) : Two w w a r := ⟨rfl, rfl, rfl, Nat.le_refl _, fun _ _ _ _ => rfl⟩
theorem appK_zero {n : Nat} {s : Int} (h : vld s = true ∧ n < 200) : appK n s = 0 := by unfold appK; rw [if_pos h.1, if_pos h.2]
theorem appK_ne {n : Nat} {s : Int} (h : ¬ (vld s = true ∧ n < 200)) : appK n s ≠ 0 := by
  unfold appK
  by_cases h1 : vld s = true
  · rw [if_pos h1, if_neg (fun h2 => h ⟨h1, h2⟩)]; decide
  · rw [if_neg h1]; decide
theorem appX_yes {xs : List Int} {s : Int} (h : vld s = true ∧ xs.length < 200) : appX xs s = xs ++ [s] := if_pos (appK_zero h)
theorem appX_no {xs : List Int} {s : Int} (h : ¬ (vld s = true ∧ xs.length < 200)) : appX xs s = xs := if_neg (appK_ne h)
theorem appX_len {xs : List Int} {s : Int} (h : xs.length ≤ 200) : (appX xs s).length ≤ 200 := by
  by_cases hk : vld s = true ∧ xs.length < 200
  · rw [appX_yes hk]; simp; omega
  · rw [appX_no hk]; exact h
theorem appX_allV {xs : List Int} {s : Int} (h : allV xs = true) : allV (appX xs s) = true := by
  by_cases hk : vld s = true ∧ xs.length < 200
  · rw [appX_yes hk]
    have := hk.1
    simp [allV] at h ⊢
    exact ⟨h, this⟩
  · rw [appX_no hk]; exact h
theorem Append_any {w : World} {base pb : Nat} {r : Option Nat} {xs : List Int} (h : Pk w base pb r xs) (hb : base ≤ w.heap.size) (hv : allV xs = true) (s : Int) :
    Calls Try.prog 46 #[.pointer (some ⟨pb, 0, none⟩), .int .i64 s] w fun e w' => e = .returned (errR (appK xs.length s)) ∧ ∃ r', Pk w' base pb r' (appX xs s) ∧ Two w w' pb r ∧ (r' = r ∨ ∀ g, r' = some g → w.heap.size ≤ g) := by
  obtain ⟨v, rfl, hp⟩ := h
  by_cases hk : vld s = true ∧ xs.length < 200
  · refine (Append_ok xs hp hb hk.2 hv s hk.1).mono fun e w' hh => ?_
    obtain ⟨rfl, v', h1, h2, h3⟩ := hh
    rw [appX_yes hk, appK_zero hk]
    exact ⟨rfl, v'.ownBlock, ⟨v', rfl, by rw [List.length_append]; exact h1⟩, h2, h3⟩
  · refine (Append_bad hp s hk).mono fun e w' hh => ?_
    obtain ⟨rfl, rfl⟩ := hh
    rw [appX_no hk]
    exact ⟨rfl, _, ⟨v, rfl, hp⟩, Two.refl _ _ _, .inl rfl⟩
theorem Pk.size {w : World} {base pb : Nat} {r : Option Nat} {xs : List Int} (h : Pk w base pb r xs) : Calls Try.prog 49 #[.pointer (some ⟨pb, 0, none⟩)] w fun e w' => e = .returned (.int .i64 (xs.length : Nat)) ∧ w = w' := by
  obtain ⟨v, rfl, hp⟩ := h
  exact PSize_any hp
theorem PNew_pk (w : World) : Calls Try.prog 45 #[] w fun e w' => e = .returned (.pointer (some ⟨w.heap.size, 0, none⟩)) ∧ Pk w' w.heap.size w.heap.size none [] ∧ Ext w w' :=
  (PNew_any w).mono fun e w' hh => ⟨hh.1, ⟨_, rfl, by show PkS _ _ _ _ 0 (partsF [] 0 0); rw [partsF_zero]; exact hh.2.1⟩, hh.2.2⟩
/-- the row lies above -/
theorem Pk.row {w : World} {base pb : Nat} {r : Option Nat} {xs : List Int} (h : Pk w base pb r xs) : base ≤ pb ∧ ∀ g, r = some g → base ≤ g := by
  obtain ⟨v, rfl, hp⟩ := h
  exact ⟨hp.le, fun g hg => own_block hp.own g hg⟩
theorem Pk.step {w0 w w' : World} {base pb : Nat} {r : Option Nat} {xs : List Int} (h : Pk w base pb r xs) (hw : Ext w0 w) (hb : w0.heap.size ≤ base) (h2 : Two w w' pb r) : Ext w0 w' := by
  have h3 := h.row
  exact below_trans hw (h2.below (N := w0.heap.size) hw.size (Nat.le_trans hb h3.1) fun g hg => Nat.le_trans hb (h3.2 g hg))

/-- a copy -/
theorem Clone_own {w : World} {base : Nat} {v : Value} {ys : List Int} (h : w.ownsRow base 3 1 v ys.length (ys.map (Value.int .i64))) (hl : ys.length ≤ 4096) :
    Calls Try.prog 86 #[v] w fun e w' => (∃ v', e = .returned v' ∧ OwnI w w' v' ys) ∧ Ext w w' := by
  rcases h.2 with ⟨rfl, h0⟩ | ⟨g, cap, cur, rfl, hg, hh, hn, hm, r⟩
  · have : ys = [] := List.eq_nil_of_length_eq_zero h0
    subst this
    refine (Try.slices_Clone_int_nil 0 0 w).mono fun e w' hh => ?_
    obtain ⟨rfl, rfl⟩ := hh
    exact ⟨⟨_, rfl, own_nil _ _ _ _⟩, Ext.refl _⟩
  · have hc := h.cells (g := g) rfl
    refine (Try.slices_Clone_int g 0 ys.length cap ys w (Nat.le_refl _) (by omega) fun j hj => ?_).mono fun e w' hh => ?_
    · have := hc j (.int .i64 (ys.getD j 0)) (by rw [List.getElem?_map, List.getD_eq_getElem?_getD, List.getElem?_eq_getElem hj]; rfl)
      rwa [add_mk] at this
    · obtain ⟨v', rfl, h1, h2, h3⟩ := hh
      refine ⟨⟨v', rfl, ?_⟩, h3⟩
      rw [List.take_of_length_le (Nat.le_refl _)] at h1
      exact h1
set_option maxRecDepth 100000 in
theorem Parts_any {w : World} {base pb : Nat} {r : Option Nat} {xs : List Int} (h : Pk w base pb r xs) (hl : xs.length ≤ 4096) :
    Calls Try.prog 47 #[.pointer (some ⟨pb, 0, none⟩)] w fun e w' => (∃ v, e = .returned v ∧ OwnI w w' v (partsF xs 0 xs.length).reverse) ∧ Ext w w' := by
  obtain ⟨v, rfl, hp⟩ := h
  have hk : (partsF xs 0 xs.length).length ≤ 4096 := by rw [partsF_len xs _ 0 _ (Nat.le_refl _)]; have := ones_le xs.length _ (Nat.le_refl _); omega
  generalize partsF xs 0 xs.length = L at *
  have b1 := hp.bk.cell 1
  have ho : w.ownsRow base 3 1 v L.reverse.length (L.reverse.map (Value.int .i64)) := by rw [List.length_reverse]; exact hp.own
  have HO := Lib.hid ho
  clear ho hp
  go_enter Try.func47, Try.ntmps47
  go_wp2_with fail
  refine (Clone_own HO.out (by rw [List.length_reverse]; exact hk)).mono ?_
  rintro _ w1 ⟨⟨v1, rfl, o1⟩, hb1⟩
  go_wp2_with fail
  go_ret
  exact ⟨⟨_, rfl, o1⟩, hb1⟩
end Go.Proofs.Ytcpnhmjibihpkaa
