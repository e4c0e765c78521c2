/- Pairs: what they are, and store.Key. -/
import Derived.Test.YtnafegofmbhahaaDoorErrV
import Derived.Test.YtnafegofmbhahaaDoorOwn
import Derived.Test.YtnafegofmbhahaaDoorShelf
import Derived.Deep.LoopGhost
import Derived.Deep.RegionHeld3
import Derived.Deep.DrawnRows
import Derived.Test.YtnafegofmbhahaaDoorOpen
import Derived.Lib.SlicesS
import Derived.BigRegion
import Derived.Handy
namespace Go.Proofs.YtnafegofmbhahaaDoor
open Go.RowKit
set_option linter.unusedVariables false
attribute [local go_sem ↓] Go.wp_at_zero Go.wp_at_succ

theorem flat_nthP {α : Type} {f : α → List Value} {k : Nat} (hf : ∀ x, (f x).length = k) : ∀ (l : List α) (j : Nat) (x : α) (i : Nat), l[j]? = some x → i < k → (l.flatMap f)[j * k + i]? = (f x)[i]?
  | [], j, x, i, h, _ => by simp at h
  | y :: l, 0, x, i, h, hi => by
    obtain rfl : y = x := by simpa using h
    rw [List.flatMap_cons, Nat.zero_mul, Nat.zero_add, List.getElem?_append_left (by rw [hf]; exact hi)]
  | y :: l, j + 1, x, i, h, hi => by
    rw [List.flatMap_cons, List.getElem?_append_right (by rw [hf, Nat.succ_mul]; omega), hf, show (j + 1) * k + i - k = j * k + i by rw [Nat.succ_mul]; omega]
    exact flat_nthP hf l j x i (by simpa using h) hi
theorem Rd.getP {w : World} {A : Option Addr} {n c : Nat} {es : List Pr} (h : Rd w 3 A n c (es.flatMap Pr.cells)) {j : Nat} {e : Pr} (he : es[j]? = some e) :
    ∃ ad, A = some ad ∧ ad.block < w.heap.size ∧ w.cell? (ad.add (j * 3)) = some (.string e.key) ∧ w.cell? ⟨(ad.add (j * 3)).block, (ad.add (j * 3)).off + 1, none⟩ = some (.string e.value) ∧ w.cell? ⟨(ad.add (j * 3)).block, (ad.add (j * 3)).off + 2, none⟩ = some (.bool e.gone) := by
  have h0 := flat_nthP (f := Pr.cells) (k := 3) (fun _ => rfl) es j e 0 he (by omega)
  have h1 := flat_nthP (f := Pr.cells) (k := 3) (fun _ => rfl) es j e 1 he (by omega)
  have h2 := flat_nthP (f := Pr.cells) (k := 3) (fun _ => rfl) es j e 2 he (by omega)
  obtain ⟨ad, e1, hb, hc0⟩ := h.at_ h0
  obtain ⟨ad', e2, _, hc1⟩ := h.at_ h1
  obtain ⟨ad'', e3, _, hc2⟩ := h.at_ h2
  rw [e1] at e2 e3
  obtain rfl : ad = ad' := by injection e2
  obtain rfl : ad = ad'' := by injection e3
  rw [← add_add'] at hc1 hc2
  exact ⟨ad, e1, hb, hc0, hc1, hc2⟩
theorem Rd.lenP {w : World} {A : Option Addr} {n c : Nat} {es : List Pr} (h : Rd w 3 A n c (es.flatMap Pr.cells)) : es.length = n := by
  have := h.1
  rw [flat_len Pr.cells 3 (fun _ => rfl)] at this
  omega
theorem ba_extP {a b : ByteArray} (h : a.data.toList = b.data.toList) : a = b := by
  cases a; cases b
  congr 1
  exact Array.toList_inj.1 h
theorem str_someP {s : ByteArray} (h : 0 < s.size) : s.toList.isEmpty = false ∧ ¬ s.toList = [] := by
  have : ¬ s.toList = [] := by
    rw [Lib.toList_data]
    intro h'
    have h4 : s.data.toList.length = s.size := rfl
    rw [← h4, h'] at h
    exact absurd h (by simp)
  refine ⟨?_, this⟩
  cases hs : s.toList with
  | nil => exact absurd hs this
  | cons a l => rfl
theorem str_noneP {s : ByteArray} (h : s.size = 0) : s = ⟨#[]⟩ := ba_extP (List.eq_nil_of_length_eq_zero (show s.data.toList.length = 0 from h))

/-- what is wrong with a key -/
def keyK (s : ByteArray) : Int := if s.size = 0 then 2 else if 200 < s.size then 4 else 0
theorem keyK_none {s : ByteArray} (h : s.size = 0) : keyK s = 2 := if_pos h
theorem keyK_long {s : ByteArray} (h : 200 < s.size) : keyK s = 4 := by unfold keyK; rw [if_neg (by omega), if_pos h]
theorem keyK_ok {s : ByteArray} (h : 0 < s.size) (h2 : s.size ≤ 200) : keyK s = 0 := by unfold keyK; rw [if_neg (by omega), if_neg (by omega)]
theorem keyK_zero {s : ByteArray} : keyK s = 0 ↔ 0 < s.size ∧ s.size ≤ 200 := by
  constructor
  · intro h
    unfold keyK at h
    split at h
    · cases h
    · split at h
      · cases h
      · omega
  · rintro ⟨h, h2⟩
    exact keyK_ok h h2
set_option maxRecDepth 100000 in
theorem Key_any (s : ByteArray) (w : World) :
    Calls Tryd.prog 78 #[.string s] w fun e w' => e = .returned (errR (keyK s)) ∧ w = w' := by
  have hh : s.size = 0 ∨ (0 < s.size ∧ 200 < s.size) ∨ (0 < s.size ∧ s.size ≤ 200) := by omega
  rcases hh with h | ⟨h, h2⟩ | ⟨h, h2⟩
  · obtain rfl := str_noneP h
    go_enter Tryd.func78, Tryd.ntmps78
    go_wp2_with fail
    go_ret
    exact ⟨rfl, rfl⟩
  · obtain ⟨q1, q2⟩ := str_someP h
    have HK := Lib.hid (keyK_long h2)
    go_enter Tryd.func78, Tryd.ntmps78
    go_wp2_with fail
    go_ret
    exact ⟨by rw [HK.out]; rfl, rfl⟩
  · obtain ⟨q1, q2⟩ := str_someP h
    have HK := Lib.hid (keyK_ok h h2)
    go_enter Tryd.func78, Tryd.ntmps78
    go_wp2_with fail
    go_ret
    exact ⟨by rw [HK.out]; rfl, rfl⟩
end Go.Proofs.YtnafegofmbhahaaDoor
