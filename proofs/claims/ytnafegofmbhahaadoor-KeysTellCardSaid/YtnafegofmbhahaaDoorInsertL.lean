/- slices.Insert of one level into a row that is owned (XInsert's text at two cells). -/
import Derived.Test.YtnafegofmbhahaaDoorInsert
namespace Go.Proofs.YtnafegofmbhahaaDoor
open Go.RowKit
set_option linter.unusedVariables false
attribute [local go_sem ↓] Go.wp_at_zero Go.wp_at_succ

theorem info_level : (Tryd.prog.info? 118).map (fun i => (i.zero, i.size, i.bytes)) = some (some (.agg #[.string ⟨#[]⟩, .pointer none]), 2, 24) := by kernel_rfl

set_option maxRecDepth 100000 in
set_option maxHeartbeats 2000000 in
theorem InsL_shift (g n c i q : Nat) (cur nw : Array Value) (w : World) (hi : i < n) (hroom : n + 1 ≤ c) (hc63 : c ≤ maxLen) (hg : w.heap[g]? = some (.cells cur 118 (0, 0))) (hcs : cur.size = c * 2)
    (hnl : nw.size = 2) (hq : w.heap[q]? = some (.cells nw 118 (0, 0))) (hqg : q ≠ g) (h1c : ∀ v ∈ cur.toList.take (n * 2), v.oneCell' = true) (h1v : ∀ v ∈ nw.toList, v.oneCell' = true) :
    Calls Tryd.prog 90 #[.slice (some ⟨g, 0, none⟩) n c, .int .i64 i, .slice (some ⟨q, 0, none⟩) 1 1] w fun e w' =>
      e = .returned (.slice (some ⟨g, 0, none⟩) (n + 1) c) ∧ w.grownBy w' (some g) ∧ ∃ cur', w'.heap[g]? = some (.cells cur' 118 (0, 0)) ∧ cur'.size = c * 2 ∧ cur'.toList.take ((n + 1) * 2) = laidIn (cur.toList.take (n * 2)) nw.toList (i * 2) := by
  unfold maxLen at hc63
  have hsz : (Tryd.prog.info? 118).map (·.size) = some 2 := by kernel_rfl
  have hov : ∀ lb cb, (callFunc 107 #[.slice (some ⟨q, 0, none⟩) 1 1, .slice (some ⟨g, (i + 1) * 2, none⟩) lb cb]).run Tryd.prog w = .ok (.value (.bool false)) w := fun lb cb => by
    rw [run_callFunc_extern Tryd.func107 (by kernel_rfl) (by kernel_rfl) (by kernel_rfl) (e := Extern.SlicesOverlaps.overlaps #[114, 114] #[4]) (by kernel_rfl),
      Lib.run_overlaps_apart w 114 4 118 Tryd.underlying114 2 Tryd.sizeOf118 ⟨q, 0, none⟩ ⟨g, (i + 1) * 2, none⟩ 1 1 lb cb hqg _ _ _ _ (shape_of hq) (shape_of hg) (by omega) (by simp [World.frozen?, hq]) (by simp [World.frozen?, hq])]
    rfl
  have hcl : cur.toList.length = c * 2 := by simpa using hcs
  obtain ⟨cs, hcsd⟩ : ∃ cs, cs = (cur.toList.take (n * 2)).drop (i * 2) := ⟨_, rfl⟩
  have hcsl : cs.length = (n - i) * 2 := by rw [hcsd, List.length_drop, List.length_take, hcl]; omega
  obtain ⟨R1, hR1⟩ : ∃ R1 : Array Value, R1 = (cur.toList.take ((i + 1) * 2) ++ cs ++ cur.toList.drop ((i + 1) * 2 + cs.length)).toArray := ⟨_, rfl⟩
  obtain ⟨R2, hR2⟩ : ∃ R2 : Array Value, R2 = (R1.toList.take (i * 2) ++ nw.toList ++ R1.toList.drop (i * 2 + nw.toList.length)).toArray := ⟨_, rfl⟩
  have hnl' : nw.toList.length = 2 := by simpa using hnl
  have hR1s : R1.size = c * 2 := by rw [hR1]; simp [hcl, hcsl]; omega
  have hR1l : R1.toList.length = c * 2 := by simpa using hR1s
  have hR2s : R2.size = c * 2 := by rw [hR2, List.size_toArray, List.length_append, List.length_append, List.length_take, List.length_drop, hR1l, hnl']; omega
  have hcurc : ∀ j v, cur.toList[j]? = some v → w.cell? ⟨g, j, none⟩ = some v := fun j v h => by rw [cell_of_row w g j cur _ (0, 0) hg]; simpa using h
  have hcp1 : ∀ ty dc sc, (Builtin.copy_ #[114, 114] ty #[.slice (some ⟨g, (i + 1) * 2, none⟩) (n - i) dc, .slice (some ⟨g, i * 2, none⟩) (n + 1 - i) sc]).run Tryd.prog w.drew = .ok (goInt (n - i : Nat)) (w.drew.setRow g R1) := fun ty dc sc => by
    have h := run_copy_rowK w.drew 114 114 ty 118 2 g ((i + 1) * 2) (n + 1 - (i + 1)) dc ⟨g, i * 2, none⟩ (n + 1 - i) sc cur 118 cs Tryd.underlying114 hsz hg
      (by rw [hcsl]; congr 1; simp only [Nat.min_def]; split <;> omega)
      (fun j v hj => by
        rw [Addr.add_lit]
        show w.cell? _ = _
        refine hcurc _ v ?_
        rw [hcsd, List.getElem?_drop, List.getElem?_take] at hj
        split at hj
        · exact hj
        · cases hj)
      (by rw [hcs, hcsl]; omega) (fun v hv => h1c v (by rw [hcsd] at hv; exact List.mem_of_mem_drop hv))
    rw [← hR1, show Nat.min (n + 1 - i) (n + 1 - (i + 1)) = n - i by simp only [Nat.min_def]; split <;> omega, show n + 1 - (i + 1) = n - i by omega] at h
    exact h
  have hW1g : (w.drew.setRow g R1).heap[g]? = some (.cells R1 118 (0, 0)) := setRow_heap w.drew g cur _ _ (0, 0) hg
  have hW1q : (w.drew.setRow g R1).heap[q]? = some (.cells nw 118 (0, 0)) := (setRow_other w.drew g q _ hqg).trans hq
  have hcp2 : ∀ ty dc, (Builtin.copy_ #[114, 114] ty #[.slice (some ⟨g, i * 2, none⟩) (n + 1 - i) dc, .slice (some ⟨q, 0, none⟩) 1 1]).run Tryd.prog (w.drew.setRow g R1) = .ok (goInt (1 : Nat)) ((w.drew.setRow g R1).setRow g R2) := fun ty dc => by
    have h := run_copy_rowK (w.drew.setRow g R1) 114 114 ty 118 2 g (i * 2) (n + 1 - i) dc ⟨q, 0, none⟩ 1 1 R1 118 nw.toList Tryd.underlying114 hsz hW1g
      (by rw [hnl', show Nat.min 1 (n + 1 - i) = 1 by simp only [Nat.min_def]; split <;> omega])
      (fun j v hj => by
        rw [Addr.add_lit, Nat.zero_add, cell_of_row _ q j nw _ (0, 0) hW1q]
        simpa using hj)
      (by rw [hR1s, hnl']; omega) h1v
    rw [← hR2, show Nat.min 1 (n + 1 - i) = 1 by simp only [Nat.min_def]; split <;> omega] at h
    exact h
  have hend : R2.toList.take ((n + 1) * 2) = laidIn (cur.toList.take (n * 2)) nw.toList (i * 2) := by
    rw [hR2, hR1]
    exact laid_end cur.toList nw.toList hi (by omega) (by rw [hcl]; omega) hnl' hcsd hcsl
  obtain ⟨W2, hW2⟩ : ∃ W2, W2 = (w.drew.setRow g R1).setRow g R2 := ⟨_, rfl⟩
  rw [← hW2] at hcp2
  obtain ⟨W1, hW1⟩ : ∃ W1, W1 = w.drew.setRow g R1 := ⟨_, rfl⟩
  rw [← hW1] at hcp1 hcp2
  have HE : Hid (w.grownBy W2 (some g) ∧ ∃ cur', W2.heap[g]? = some (.cells cur' 118 (0, 0)) ∧ cur'.size = c * 2 ∧ cur'.toList.take ((n + 1) * 2) = laidIn (cur.toList.take (n * 2)) nw.toList (i * 2)) := by
    refine ⟨?_, R2, ?_, hR2s, hend⟩
    · rw [hW2]
      exact ⟨rfl, rfl, rfl, by simp, fun k hk hne => by
        have hkg : k ≠ g := fun e => hne (by rw [e])
        rw [setRow_other _ _ _ _ hkg, setRow_other _ _ _ _ hkg]
        rfl⟩
    · rw [hW2]
      exact setRow_heap _ g R1 R2 _ (0, 0) hW1g
  clear hend hW1g hW1q hcurc hR1l hR2s hR1s hR1 hR2 hcsd hcsl hcl hcs hg hq h1c h1v hnl hnl' hsz hW1 hW2
  have hw1 : IntKind.i64.wrap ((i : Int) + 1) = (i : Int) + 1 := IntWalk.i64_in _ (by omega)
  have hb1 : (0 : Int) ≤ (i : Int) + 1 := by omega
  have hin : i ≤ n := by omega
  have htn : ((i : Int) + 1).toNat = i + 1 := by omega
  have hb2 : ¬ (c = i + 1) := by omega
  have hb3 : (i : Int) ≤ (n : Int) + 1 := by omega
  have hb4 : ¬ (c = i) := by omega
  go_enter Tryd.func90, Tryd.ntmps90
  go_wp2_with (simp only [hov])
  go_region_law (refine step_copy_runI rfl _ _ 114 114 rfl _ _ (by simp [Act.eval, Act.put]) (by simp [Act.eval, Act.put]) (hcp1 _ _ _) ?_)
  go_wp2_with (at_builtin; refine wpList_copy_runI _ rfl _ _ 114 114 rfl _ _ rfl rfl (hcp2 _ _) ?_)
  go_ret
  exact ⟨rfl, HE.out⟩
set_option maxRecDepth 100000 in
set_option maxHeartbeats 4000000 in
theorem InsL_grow (g n c i q : Nat) (xs : List Value) (nw : Array Value) (w : World) (hi : i < n) (hnc : n ≤ c) (hroom : c < n + 1) (hbig : n ≤ 1048576) (hg : g < w.heap.size) (hx : ∀ j v, xs[j]? = some v → w.cell? ⟨g, j, none⟩ = some v) (hxl : xs.length = n * 2)
    (hnl : nw.size = 2) (hq : w.heap[q]? = some (.cells nw 118 (0, 0))) (h1c : ∀ v ∈ xs, v.oneCell' = true) (h1v : ∀ v ∈ nw.toList, v.oneCell' = true) :
    Calls Tryd.prog 90 #[.slice (some ⟨g, 0, none⟩) n c, .int .i64 i, .slice (some ⟨q, 0, none⟩) 1 1] w fun e w' =>
      ∃ cap, e = .returned (.slice (some ⟨w.heap.size, 0, none⟩) (n + 1) cap) ∧ Ext w w' ∧ n + 1 ≤ cap ∧ cap ≤ maxLen ∧ ∃ cur', w'.heap[w.heap.size]? = some (.cells cur' 118 (0, 0)) ∧ cur'.size = cap * 2 ∧ cur'.toList.take ((n + 1) * 2) = laidIn xs nw.toList (i * 2) := by
  have hsz : (Tryd.prog.info? 118).map (·.size) = some 2 := by kernel_rfl
  obtain ⟨i0, hi0, hz0, hzs, hzb⟩ := info_parts info_level
  have hql : q < w.heap.size := (Array.getElem?_eq_some_iff.1 hq).1
  have hnl' : nw.toList.length = 2 := by simpa using hnl
  have hkk : (n : Int) + 1 - (i : Int) = ((n + 1 - i : Nat) : Int) := by omega
  have hik : i + (n + 1 - i) = n + 1 := by omega
  have hold : (Builtin.firstCells i0.size i (.slice (some ⟨g, 0, none⟩) i c)).run Tryd.prog w.drew = .ok (xs.take (i * 2)).toArray w.drew := by
    rw [hzs]
    exact run_firstCells_some w.drew 2 i ⟨g, 0, none⟩ i c (xs.take (i * 2)) (by rw [List.length_take, hxl]; omega) (fun j v hj => by
      rw [Addr.add_lit, Nat.zero_add]
      rw [List.getElem?_take] at hj
      split at hj
      · exact hx j v hj
      · cases hj)
  obtain ⟨ROW, hROW⟩ : ∃ ROW : Array Value, ROW = (xs.take (i * 2)).toArray ++ Builtin.zeroCells (Value.agg #[.string ⟨#[]⟩, .pointer none]).cells (n + 1 - i) ++ Builtin.zeroCells (Value.agg #[.string ⟨#[]⟩, .pointer none]).cells (grownCap w (n + 1) c 118 - (n + 1)) := ⟨_, rfl⟩
  have hGn : n + 1 ≤ grownCap w (n + 1) c 118 := grownCap_ge w _ _ _
  have hG63 : grownCap w (n + 1) c 118 ≤ maxLen := grownCap_le_maxLen w (n + 1) c _ (by unfold maxLen; omega)
  have hRs : ROW.size = grownCap w (n + 1) c 118 * 2 := by
    rw [hROW]
    simp only [Array.size_append, List.size_toArray, List.length_take, hxl, zsize]
    rw [Nat.min_eq_left (by omega)]
    show i * 2 + 2 * (n + 1 - i) + 2 * _ = _
    omega
  have hRt : ROW.toList.take (i * 2) = xs.take (i * 2) := by
    rw [hROW]
    simp only [Array.toList_append, List.append_assoc]
    exact List.take_left' (by rw [List.length_take, hxl]; omega)
  have hrz : ∀ ty, (Builtin.append_ #[114, 3] ty #[.slice (some ⟨g, 0, none⟩) i c, .int .i64 ((n : Int) + 1 - (i : Int))]).run Tryd.prog w =
      .ok (.slice (some ⟨w.heap.size, 0, none⟩) (n + 1) (grownCap w (n + 1) c 118)) (w.drew.alloc (.cells ROW 118)) := fun ty => by
    have h := Lib.run_append_grow_zeros w 114 3 ty 118 i0 _ .i64 .i64 Tryd.underlying114 Tryd.underlying3 hi0 hz0 (some ⟨g, 0, none⟩) i c (xs.take (i * 2)) hold (n + 1 - i) (by omega) (by omega) (by omega) (by omega) (by rw [hzb]; omega) (by rw [hzb, hik]; exact growslice_fits hroom (by omega))
    rw [hik] at h
    rw [hkk, hROW]
    exact h
  obtain ⟨G, hG⟩ : ∃ G, G = grownCap w (n + 1) c 118 := ⟨_, rfl⟩
  rw [← hG] at hrz hGn hG63 hRs
  clear hROW hold hik hG
  have hRl : ROW.toList.length = G * 2 := by simpa using hRs
  obtain ⟨cs, hcsd⟩ : ∃ cs, cs = xs.drop (i * 2) := ⟨_, rfl⟩
  have hcsl : cs.length = (n - i) * 2 := by rw [hcsd, List.length_drop, hxl]; omega
  obtain ⟨R1, hR1⟩ : ∃ R1 : Array Value, R1 = (ROW.toList.take (i * 2) ++ nw.toList ++ ROW.toList.drop (i * 2 + nw.toList.length)).toArray := ⟨_, rfl⟩
  obtain ⟨R2, hR2⟩ : ∃ R2 : Array Value, R2 = (R1.toList.take ((i + 1) * 2) ++ cs ++ R1.toList.drop ((i + 1) * 2 + cs.length)).toArray := ⟨_, rfl⟩
  have hR1s : R1.size = G * 2 := by rw [hR1, List.size_toArray, List.length_append, List.length_append, List.length_take, List.length_drop, hRl, hnl']; omega
  have hR1l : R1.toList.length = G * 2 := by simpa using hR1s
  have hR2s : R2.size = G * 2 := by rw [hR2, List.size_toArray, List.length_append, List.length_append, List.length_take, List.length_drop, hR1l, hcsl]; omega
  have hend : R2.toList.take ((n + 1) * 2) = laidIn xs nw.toList (i * 2) := by
    rw [hR2, hR1]
    exact laid_end2 ROW.toList xs nw.toList hi (by omega) (by rw [hRl]; omega) hnl' hxl hRt hcsd hcsl
  have hX : (w.drew.alloc (.cells ROW 118)).heap[w.heap.size]? = some (.cells ROW 118 (0, 0)) := heap_alloc_new w.drew _
  have hXo : ∀ k, k < w.heap.size → (w.drew.alloc (.cells ROW 118)).heap[k]? = w.heap[k]? := fun k hk => Below.heap_alloc w.drew _ k hk
  obtain ⟨X, hXd⟩ : ∃ X, X = w.drew.alloc (.cells ROW 118) := ⟨_, rfl⟩
  rw [← hXd] at hX hXo
  have hcpA : ∀ (W : World), W.heap = X.heap → ∀ ty dc, (Builtin.copy_ #[114, 114] ty #[.slice (some ⟨w.heap.size, i * 2, none⟩) (n + 1 - i) dc, .slice (some ⟨q, 0, none⟩) 1 1]).run Tryd.prog W = .ok (goInt (1 : Nat)) (W.setRow w.heap.size R1) := fun W hW ty dc => by
    have h := run_copy_rowK W 114 114 ty 118 2 w.heap.size (i * 2) (n + 1 - i) dc ⟨q, 0, none⟩ 1 1 ROW 118 nw.toList Tryd.underlying114 hsz (by rw [hW]; exact hX)
      (by rw [hnl', show Nat.min 1 (n + 1 - i) = 1 by simp only [Nat.min_def]; split <;> omega])
      (fun j v hj => by
        rw [Addr.add_lit, Nat.zero_add, cell_of_row _ q j nw _ (0, 0) (by rw [hW]; exact (hXo q hql).trans hq)]
        simpa using hj)
      (by rw [hRs, hnl']; omega) h1v
    rw [← hR1, show Nat.min 1 (n + 1 - i) = 1 by simp only [Nat.min_def]; split <;> omega] at h
    exact h
  have hY : (X.setRow w.heap.size R1).heap[w.heap.size]? = some (.cells R1 118 (0, 0)) := setRow_heap X w.heap.size ROW R1 _ (0, 0) hX
  have hYo : ∀ k, k < w.heap.size → (X.setRow w.heap.size R1).heap[k]? = w.heap[k]? := fun k hk => (setRow_other X w.heap.size k _ (by omega)).trans (hXo k hk)
  have hcpB : ∀ (W : World), W.heap = (X.setRow w.heap.size R1).heap → ∀ ty dc sc, (Builtin.copy_ #[114, 114] ty #[.slice (some ⟨w.heap.size, (i + 1) * 2, none⟩) (n - i) dc, .slice (some ⟨g, i * 2, none⟩) (n - i) sc]).run Tryd.prog W = .ok (goInt (n - i : Nat)) (W.setRow w.heap.size R2) := fun W hW ty dc sc => by
    have h := run_copy_rowK W 114 114 ty 118 2 w.heap.size ((i + 1) * 2) (n - i) dc ⟨g, i * 2, none⟩ (n - i) sc R1 118 cs Tryd.underlying114 hsz (by rw [hW]; exact hY)
      (by rw [hcsl]; congr 1; simp only [Nat.min_def]; split <;> omega)
      (fun j v hj => by
        rw [Addr.add_lit, World.cell?_of_block (w := w) (by rw [hW]; exact hYo g hg)]
        refine hx _ v ?_
        rw [hcsd, List.getElem?_drop] at hj
        exact hj)
      (by rw [hR1s, hcsl]; omega) (fun v hv => h1c v (by rw [hcsd] at hv; exact List.mem_of_mem_drop hv))
    rw [← hR2, show Nat.min (n - i) (n - i) = n - i by simp only [Nat.min_def]; split <;> omega] at h
    exact h
  have HF : ∀ W : World, W.heap = (X.setRow w.heap.size R1).heap → W.os = w.os → W.tape = w.tape → W.output = w.output → Ext w (W.setRow w.heap.size R2) ∧ (W.setRow w.heap.size R2).heap[w.heap.size]? = some (.cells R2 118 (0, 0)) := fun W hW h1 h2 h3 =>
    ⟨⟨h1, h2, h3, by rw [size_setRow, hW, size_setRow, hXd]; simp, fun k hk => by rw [setRow_other _ _ _ _ (by omega), hW]; exact hYo k hk⟩, setRow_heap W w.heap.size R1 R2 _ (0, 0) (by rw [hW]; exact hY)⟩
  have hEnd : Hid (∀ W : World, Ext w W ∧ W.heap[w.heap.size]? = some (.cells R2 118 (0, 0)) → ∃ cap, Ending.returned (.slice (some ⟨w.heap.size, 0, none⟩) (n + 1) G) = Ending.returned (.slice (some ⟨w.heap.size, 0, none⟩) (n + 1) cap) ∧ Ext w W ∧ n + 1 ≤ cap ∧ cap ≤ maxLen ∧ ∃ cur', W.heap[w.heap.size]? = some (.cells cur' 118 (0, 0)) ∧ cur'.size = cap * 2 ∧ cur'.toList.take ((n + 1) * 2) = laidIn xs nw.toList (i * 2)) := Lib.hid fun W h => ⟨G, rfl, h.1, hGn, hG63, R2, h.2, hR2s, hend⟩
  have HHF := Lib.hid HF
  subst hXd
  clear HF hend hX hXo hY hYo hR1l hR2s hR1s hR1 hR2 hcsd hcsl hRl hRs hRt hnl hnl' h1c h1v hx hq
  have hw1 : IntKind.i64.wrap ((i : Int) + 1) = (i : Int) + 1 := IntWalk.i64_in _ (by omega)
  have hb1 : (0 : Int) ≤ (i : Int) + 1 := by omega
  have hin : i ≤ n := by omega
  have htn : ((i : Int) + 1).toNat = i + 1 := by omega
  have hb3 : (i : Int) ≤ (n : Int) := by omega
  unfold maxLen at hG63
  have hGi : ¬ (G = i) := by omega
  have hGim : ¬ (G = i + 1) := by omega
  have hci : ¬ (c = i) := by omega
  have hz3 : (c : Int) < (n : Int) + 1 := by omega
  clear hkk
  have hE1 : ((w.alloc (.cells ROW 118)).drew).heap = (w.drew.alloc (.cells ROW 118)).heap := rfl
  have hF1 : (((w.alloc (.cells ROW 118)).drew.setRow w.heap.size R1).drew).heap = ((w.drew.alloc (.cells ROW 118)).setRow w.heap.size R1).heap := rfl
  go_enter Tryd.func90, Tryd.ntmps90
  go_wp2_with (first
    | (at_builtin; refine Lib.wpList_append_run _ rfl _ _ _ _ rfl _ _ rfl rfl _ _ (hrz _) ?_)
    | (at_builtin; refine wpList_copy_runI _ rfl _ _ 114 114 rfl _ _ rfl rfl (hcpA _ hE1 _ _) ?_))
  go_region_law (refine step_copy_runI rfl _ _ 114 114 rfl (.slice (some ⟨w.heap.size, (i + 1) * 2, none⟩) (n - i) (G - (i + 1))) (.slice (some ⟨g, i * 2, none⟩) (n - i) (c - i)) (by simp [Act.eval, Act.put]) (by simp [Act.eval, Act.put]) (hcpB _ hF1 3 (G - (i + 1)) (c - i)) ?_)
  go_wp2_with fail
  go_ret
  exact hEnd.out _ (HHF.out _ rfl rfl rfl rfl)

set_option maxRecDepth 100000 in
set_option maxHeartbeats 2000000 in
theorem InsL_end (base n q : Nat) (v : Value) (xs : List Value) (nw : Array Value) (w : World) (hn : n + 1 ≤ 1048576) (hb : base ≤ w.heap.size) (hown : w.ownsRow base 118 2 v n xs)
    (hnl : nw.size = 2) (hq : w.heap[q]? = some (.cells nw 118 (0, 0))) (h1v : ∀ u ∈ nw.toList, u.oneCell' = true) :
    Calls Tryd.prog 90 #[v, .int .i64 n, .slice (some ⟨q, 0, none⟩) 1 1] w fun e w' =>
      ∃ g cap, e = .returned (.slice (some ⟨g, 0, none⟩) (n + 1) cap) ∧ w'.ownsRow base 118 2 (.slice (some ⟨g, 0, none⟩) (n + 1) cap) (n + 1) (xs ++ nw.toList) ∧ w.grownBy w' v.ownBlock ∧ (v.ownBlock = some g ∨ g = w.heap.size) := by
  obtain ⟨i0, hi0, hz0, hzs, hzb⟩ := info_parts info_level
  have hq0 : ∀ (j : Nat) u, nw.toList[j]? = some u → w.cell? ((⟨q, 0, none⟩ : Addr).add j) = some u := fun j u hj => by
    rw [Addr.add_lit, Nat.zero_add, cell_of_row _ q j nw _ (0, 0) hq]
    simpa using hj
  have hnl' : nw.toList.length = 1 * 2 := by simpa using hnl
  obtain ⟨A, c, rfl, hc, hr, hnil⟩ := own_rd hown
  have hl := hr.2.1
  have hA : A = none → n = 0 := fun h => by
    rcases Nat.eq_zero_or_pos n with h0 | h0
    · exact h0
    · obtain ⟨ad, h2, _⟩ := hr.2.2 h0
      rw [h] at h2; cases h2
  have HN := Lib.hid hnil
  clear hnil hr
  unfold maxLen at hc
  have HQ := Lib.hid hq0
  have HL := Lib.hid hnl'
  have H1 := Lib.hid h1v
  clear hq hnl hnl' h1v hq0
  go_enter Tryd.func90, Tryd.ntmps90
  cases A with
  | none =>
    obtain rfl := hA rfl
    go_wp2_with (at_builtin; refine wpl_apps (by rfl) _ _ _ (by rfl) base 118 i0 _ 2 24 Tryd.underlying114 hi0 hz0 hzs hzb rfl (by omega) _ _ _ (by rfl) hown ⟨q, 0, none⟩ 1 1 nw.toList (by rfl) HL.out HQ.out H1.out (by omega) (by omega) (by omega) hb ?_; intro g cap w6 own6 hg6 hH6 hlt6)
    go_ret
    exact ⟨g, cap, rfl, own6, hg6, hH6⟩
  | some a =>
    obtain ⟨ab, ao, asp⟩ := a
    go_wp2_with (at_builtin; refine wpl_apps (by rfl) _ _ _ (by rfl) base 118 i0 _ 2 24 Tryd.underlying114 hi0 hz0 hzs hzb rfl (by omega) _ _ _ (by rfl) hown ⟨q, 0, none⟩ 1 1 nw.toList (by rfl) HL.out HQ.out H1.out (by omega) (by omega) (by omega) hb ?_; intro g cap w6 own6 hg6 hH6 hlt6)
    all_goals
      go_ret
      exact ⟨g, cap, rfl, own6, hg6, hH6⟩

theorem InsLert_own (base n i q : Nat) (v : Value) (xs : List Value) (nw : Array Value) (w : World) (hi : i ≤ n) (hn : n + 1 ≤ 1048576) (hb : base ≤ w.heap.size) (hown : w.ownsRow base 118 2 v n xs)
    (hnl : nw.size = 2) (hq : w.heap[q]? = some (.cells nw 118 (0, 0))) (hqv : v.ownBlock ≠ some q) (h1c : ∀ u ∈ xs, u.oneCell' = true) (h1v : ∀ u ∈ nw.toList, u.oneCell' = true) :
    Calls Tryd.prog 90 #[v, .int .i64 i, .slice (some ⟨q, 0, none⟩) 1 1] w fun e w' =>
      ∃ g cap, e = .returned (.slice (some ⟨g, 0, none⟩) (n + 1) cap) ∧ w'.ownsRow base 118 2 (.slice (some ⟨g, 0, none⟩) (n + 1) cap) (n + 1) (laidIn xs nw.toList (i * 2)) ∧ w.grownBy w' v.ownBlock ∧ (v.ownBlock = some g ∨ w.heap.size ≤ g) := by
  have hxl := own_len hown
  have hnl' : nw.toList.length = 2 := by simpa using hnl
  have hll : (laidIn xs nw.toList (i * 2)).length = (n + 1) * 2 := by
    unfold laidIn laidIn'
    simp only [List.length_append, List.length_take, List.length_drop]
    omega
  by_cases hin : i = n
  · subst hin
    refine (InsL_end base i q v xs nw w hn hb hown hnl hq h1v).mono ?_
    rintro e w' ⟨g, cap, he, ho, hg, hH⟩
    have e2 : laidIn xs nw.toList (i * 2) = xs ++ nw.toList := by
      unfold laidIn laidIn'
      rw [List.take_of_length_le (by omega), List.drop_of_length_le (by omega), List.append_nil]
    exact ⟨g, cap, he, by rw [e2]; exact ho, hg, hH.imp id (fun h => by omega)⟩
  · rcases hown.2 with ⟨rfl, rfl⟩ | ⟨g, cap, cur, rfl, hbg, hg, hnc, hcm, hcs, hcur⟩
    · omega
    · have hgl : g < w.heap.size := (Array.getElem?_eq_some_iff.1 hg).1
      by_cases hroom : n + 1 ≤ cap
      · refine (InsL_shift g n cap i q cur nw w (by omega) hroom hcm hg hcs hnl hq (fun e => hqv (by rw [e]; rfl)) (by rw [hcur]; exact h1c) h1v).mono ?_
        rintro e w' ⟨he, hgb, cur', h1, h2, h3⟩
        rw [hcur] at h3
        exact ⟨g, cap, he, ⟨hll, .inr ⟨g, cap, cur', rfl, hbg, h1, hroom, hcm, h2, h3⟩⟩, hgb, .inl rfl⟩
      · refine (InsL_grow g n cap i q xs nw w (by omega) hnc (by omega) (by omega) hgl (fun j u hj => by
          rw [cell_of_row w g j cur _ (0, 0) hg]
          rw [← hcur, List.getElem?_take] at hj
          split at hj
          · simpa using hj
          · cases hj) hxl hnl hq h1c h1v).mono ?_
        rintro e w' ⟨cap', he, hE, hc1, hc2, cur', h1, h2, h3⟩
        exact ⟨w.heap.size, cap', he, ⟨hll, .inr ⟨w.heap.size, cap', cur', rfl, hb, h1, hc1, hc2, h2, h3⟩⟩, hE.gb _, .inr (Nat.le_refl _)⟩
end Go.Proofs.YtnafegofmbhahaaDoor
