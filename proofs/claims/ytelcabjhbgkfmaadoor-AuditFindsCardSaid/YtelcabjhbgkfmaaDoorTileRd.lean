import Derived.Test.YtelcabjhbgkfmaaDoorTile
import Derived.Test.YtelcabjhbgkfmaaDoorLeafs
namespace Go.Proofs.YtelcabjhbgkfmaaDoor
open Go.RowKit
set_option linter.unusedVariables false

theorem allT_mem (s : Nat) : ∀ (K : Nat) (t : Tl), t ∈ allT s K → ∃ k i m : Nat, k < K ∧ t = ⟨(k : Int), (i : Int), (m : Int)⟩ ∧ 1 ≤ m ∧ m ≤ 4 ∧ i * 4 + m ≤ s / 4 ^ k
  | 0, t, h => by simp [allT] at h
  | K + 1, t, h => by
    rw [allT, List.mem_append] at h
    rcases h with h | h
    · obtain ⟨k, i, m, h1, h2⟩ := allT_mem s K t h
      exact ⟨k, i, m, by omega, h2⟩
    · unfold tilesAt at h
      rw [List.mem_map] at h
      obtain ⟨i, hi, rfl⟩ := h
      rw [List.mem_range] at hi
      obtain ⟨q, hq⟩ : ∃ q, q = s / 4 ^ K := ⟨_, rfl⟩
      rw [← hq] at hi ⊢
      refine ⟨K, i, min 4 (q - 4 * i), by omega, ?_, by omega, by omega, by rw [← hq]; omega⟩
      unfold tileAt
      congr 1
      omega
theorem Rd.getT {w : World} {A : Option Addr} {n c : Nat} {ts : List Tl} (h : Rd w 3 A n c (ts.flatMap Tl.cells)) {j : Nat} {t : Tl} (he : ts[j]? = some t) :
    ∃ ad, A = some ad ∧ ad.block < w.heap.size ∧ w.cell? (ad.add (j * 3)) = some (.int .i64 t.level) ∧ w.cell? ⟨(ad.add (j * 3)).block, (ad.add (j * 3)).off + 1, none⟩ = some (.int .i64 t.index) ∧ w.cell? ⟨(ad.add (j * 3)).block, (ad.add (j * 3)).off + 2, none⟩ = some (.int .i64 t.wide) := by
  have h0 := flat_nth (f := Tl.cells) (k := 3) (fun _ => rfl) ts j t 0 he (by omega)
  have h1 := flat_nth (f := Tl.cells) (k := 3) (fun _ => rfl) ts j t 1 he (by omega)
  have h2 := flat_nth (f := Tl.cells) (k := 3) (fun _ => rfl) ts j t 2 he (by omega)
  obtain ⟨ad, e1, hb, hc0⟩ := h.at_ h0
  obtain ⟨ad', e2, _, hc1⟩ := h.at_ h1
  obtain ⟨ad'', e3, _, hc2⟩ := h.at_ h2
  rw [e1] at e2 e3
  obtain rfl : ad = ad' := by injection e2
  obtain rfl : ad = ad'' := by injection e3
  rw [← add_add'] at hc1 hc2
  exact ⟨ad, e1, hb, hc0, hc1, hc2⟩
end Go.Proofs.YtelcabjhbgkfmaaDoor
