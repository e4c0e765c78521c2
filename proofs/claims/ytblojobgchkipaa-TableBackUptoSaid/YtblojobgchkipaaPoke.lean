/- a text with one byte changed. -/
import Derived.Test.YtblojobgchkipaaTab7
namespace Go.Proofs.Ytblojobgchkipaa
open Go.RowKit Go.WideShapes
set_option linter.unusedVariables false

def poke (s : ByteArray) (j : Nat) (t : Int) : ByteArray := ⟨(s.data.toList.set j (byteOf t)).toArray⟩
theorem poke_size (s : ByteArray) (j : Nat) (t : Int) : (poke s j t).size = s.size := by
  show (s.data.toList.set j (byteOf t)).toArray.size = _
  rw [List.size_toArray, List.length_set]
  rfl
theorem poke_ne {s : ByteArray} {j : Nat} {t : Int} (hj : j < s.size) (ht : 0 ≤ t ∧ t < 256) (hne : ((byT s j).toNat : Int) ≠ t) : poke s j t ≠ s := by
  intro h
  have h1 : s.data.toList.set j (byteOf t) = s.data.toList := by
    have := congrArg (fun b : ByteArray => b.data.toList) h
    simpa [poke] using this
  have h2 : s.data.toList[j]? = some (byteOf t) := by
    rw [← h1]
    exact List.getElem?_set_self (by rw [list_size']; exact hj)
  have h3 : byT s j = byteOf t := by
    unfold byT
    rw [List.getD_eq_getElem?_getD, h2]; rfl
  apply hne
  rw [h3, toNat_byteOf t ht.1 ht.2]
theorem poke_conv (s : ByteArray) (j cp : Nat) (t : Int) (w : World) (hj : j < s.size) :
    (w.drew.alloc (.cells (bytesRow s cp) 5 ((bytesRow s cp).size, (bytesRow s cp).size + 1))).cell? ⟨w.heap.size, j, none⟩ = some (.int .u8 (byT s j).toNat) ∧
    (w.drew.alloc (.cells (bytesRow s cp) 5 ((bytesRow s cp).size, (bytesRow s cp).size + 1))).frozen? ⟨w.heap.size, j, none⟩ = false ∧
    (convert 36 9 (.slice (some ⟨w.heap.size, 0, none⟩) s.size cp)).run Try.prog ((w.drew.alloc (.cells (bytesRow s cp) 5 ((bytesRow s cp).size, (bytesRow s cp).size + 1))).setCell ⟨w.heap.size, j, none⟩ (.int .u8 t)) = .ok (.string (poke s j t)) ((w.drew.alloc (.cells (bytesRow s cp) 5 ((bytesRow s cp).size, (bytesRow s cp).size + 1))).setCell ⟨w.heap.size, j, none⟩ (.int .u8 t)) := by
  have hd : ∀ (i : Nat), i < s.size → (w.drew.alloc (.cells (bytesRow s cp) 5 ((bytesRow s cp).size, (bytesRow s cp).size + 1))).cell? ⟨w.heap.size, i, none⟩ = some (.int .u8 (byT s i).toNat) := fun i hi => by
    refine (World.cell?_alloc_mark w.drew (bytesRow s cp) 5 ((bytesRow s cp).size, (bytesRow s cp).size + 1) i).trans ((bytesRow_at s cp i hi).trans ?_)
    have h2 := byT_get s i hi
    rw [← h2]
    rfl
  have hs : j < (bytesRow s cp).size := by
    have h := bytesRow_at s cp j hj
    exact (Array.getElem?_eq_some_iff.1 h).1
  refine ⟨hd j hj, ?_, ?_⟩
  · have hh := heap_alloc_new w.drew (.cells (bytesRow s cp) 5 ((bytesRow s cp).size, (bytesRow s cp).size + 1))
    have hh' : (w.drew.alloc (.cells (bytesRow s cp) 5 ((bytesRow s cp).size, (bytesRow s cp).size + 1))).heap[w.heap.size]? = some (.cells (bytesRow s cp) 5 ((bytesRow s cp).size, (bytesRow s cp).size + 1)) := hh
    unfold World.frozen?
    show (match (w.drew.alloc (.cells (bytesRow s cp) 5 ((bytesRow s cp).size, (bytesRow s cp).size + 1))).heap[w.heap.size]? with | _ => _) = _
    rw [hh']
    simp
    omega
  · have hsome : ∀ i, i < s.size → ((w.drew.alloc (.cells (bytesRow s cp) 5 ((bytesRow s cp).size, (bytesRow s cp).size + 1))).setCell ⟨w.heap.size, j, none⟩ (.int .u8 t)).cell? ⟨w.heap.size, i, none⟩ = some (if i = j then .int .u8 t else .int .u8 (byT s i).toNat) := fun i hi => by
      by_cases hij : i = j
      · subst hij
        rw [if_pos rfl]
        exact World.cell?_setCell_same' _ _ _ (by rw [hd i hi]; rfl)
      · rw [if_neg hij]
        refine Eq.trans ?_ (hd i hi)
        apply World.cell?_setCell_other
        intro e
        injection e with _ e
        exact hij e.symm
    have h2 := run_conv_cells ((w.drew.alloc (.cells (bytesRow s cp) 5 ((bytesRow s cp).size, (bytesRow s cp).size + 1))).setCell ⟨w.heap.size, j, none⟩ (.int .u8 t)) 36 9 5 ⟨w.heap.size, 0, none⟩ cp ((s.data.toList.map fun b => (b.toNat : Int)).set j t) Try.underlying36 Try.underlying5 Try.underlying9 (fun i u hu => by
      rw [Addr.add_lit, Nat.zero_add]
      have hi : i < s.size := by
        have := (List.getElem?_eq_some_iff.1 hu).1
        simpa using this
      rw [hsome i hi, ← hu, List.getElem?_map, List.getElem?_set]
      by_cases hij : j = i
      · subst hij
        rw [if_pos rfl, if_pos rfl, if_pos (by rw [List.length_map, list_size']; exact hi)]
        rfl
      · rw [if_neg (fun e => hij e.symm), if_neg hij, List.getElem?_map, List.getElem?_eq_getElem (by rw [list_size']; exact hi)]
        unfold byT
        rw [List.getD_eq_getElem?_getD, List.getElem?_eq_getElem (by rw [list_size']; exact hi)]
        rfl)
    rw [List.length_set, List.length_map, list_size'] at h2
    rw [h2, List.map_set, List.map_map]
    have h3 : (byteOf ∘ fun (b : UInt8) => (b.toNat : Int)) = id := by funext b; exact byteOf_toNat b
    rw [h3, List.map_id]
    rfl
end Go.Proofs.Ytblojobgchkipaa
