/- slices.Insert of one pair into a row that is owned. -/
import Derived.Test.YtcgfdhgceokcnaaGreatDoorJWalKeeps12
import Derived.Test.YtcgfdhgceokcnaaGreatDoorJWalKeeps4
import Derived.Shelf.Spec.SlicesInsertGrow
import Derived.Laws.CopyRow
import Derived.Deep.RegionLaw
import Derived.Test.YtcgfdhgceokcnaaGreatDoorJWalKeeps0
import Derived.Deep.QuietTactic
import Derived.BigQuiet
import Derived.StillTail
import Derived.Test.YtcgfdhgceokcnaaGreatDoorJWalKeeps13
import Derived.Deep.DeepCutAuto
import Derived.Deep.CutRange
import Derived.Deep.RegionWith
namespace Go.Proofs.YtcgfdhgceokcnaaGreatDoor
open Go.RowKit
set_option linter.unusedVariables false
attribute [local go_sem ↓] Go.wp_at_zero Go.wp_at_succ

theorem run_copy_rowK {P : Program} (w : World) (dT sT ty elem : TypeId) (k g o dLen dCap : Nat) (a : Addr) (sLen sCap : Nat) (cur : Array Value) (t : TypeId) (cs : List Value)
    (hu : P.underlying dT = some (.slice elem)) (hs : (P.info? elem).map (·.size) = some k)
    (hg : w.heap[g]? = some (.cells cur t (0, 0))) (hn : cs.length = Nat.min sLen dLen * k)
    (hsrc : ∀ j v, cs[j]? = some v → w.cell? (a.add j) = some v) (hfit : o + cs.length ≤ cur.size) (h1 : ∀ v ∈ cs, v.oneCell' = true) :
    (Builtin.copy_ #[dT, sT] ty #[.slice (some ⟨g, o, none⟩) dLen dCap, .slice (some a) sLen sCap]).run P w =
      .ok (goInt (Nat.min sLen dLen)) (w.setRow g (cur.toList.take o ++ cs ++ cur.toList.drop (o + cs.length)).toArray) := by
  have hl := run_loadCells_list (P := P) w a cs hsrc
  have hst := run_storeCells_at P g o t cs 0 cur w hg (by simpa using hfit) h1
  cases hq : P.info? elem with
  | none => simp [hq] at hs
  | some i =>
    have hi : i.size = k := by simpa [hq] using hs
    simp [Builtin.copy_, run_underlying hu, Builtin.lenOf, Builtin.firstCells, sizeOf, typeInfo, hq, hi, ← hn, hl, hst]

theorem info_pair : (Tryz.prog.info? 31).map (fun i => (i.zero, i.size, i.bytes)) = some (some (.agg #[.string ⟨#[]⟩, .string ⟨#[]⟩, .bool false]), 3, 40) := by kernel_rfl

/-- one laid in -/
def laidIn' {α : Type} (xs news : List α) (i : Nat) : List α := xs.take i ++ news ++ xs.drop i
abbrev laidIn (xs news : List Value) (i : Nat) : List Value := laidIn' xs news i
theorem laid_end {α : Type} (cur nw : List α) {cs : List α} {n i k : Nat} (hi : i < n) (h0 : 0 < k) (hn : (n + 1) * k ≤ cur.length) (hnl : nw.length = k) (hcs : cs = (cur.take (n * k)).drop (i * k)) (hcl : cs.length = (n - i) * k) :
    (((cur.take ((i + 1) * k) ++ cs ++ cur.drop ((i + 1) * k + cs.length)).toArray.toList.take (i * k) ++ nw ++ (cur.take ((i + 1) * k) ++ cs ++ cur.drop ((i + 1) * k + cs.length)).toArray.toList.drop (i * k + nw.length)).toArray.toList).take ((n + 1) * k) = laidIn' (cur.take (n * k)) nw (i * k) := by
  have e1 : (i + 1) * k = i * k + k := Nat.succ_mul i k
  have e2 : n * k = i * k + cs.length := by rw [hcl, ← Nat.add_mul]; congr 1; omega
  have e3 : (n + 1) * k = i * k + cs.length + k := by rw [Nat.succ_mul, e2]
  rw [e3] at hn
  rw [e2] at hcs
  rw [e1, e3, e2]
  clear e1 e2 e3 hcl
  generalize i * k = a at *
  have hl0 : (cur.take a).length = a := by rw [List.length_take]; omega
  have hl1 : (cur.take (a + k)).length = a + k := by rw [List.length_take]; omega
  have t1 : (cur.take (a + k) ++ cs ++ cur.drop (a + k + cs.length)).take a = cur.take a := by
    rw [List.append_assoc, List.take_append_of_le_length (by omega), List.take_take, Nat.min_eq_left (by omega)]
  have t2 : (cur.take (a + k) ++ cs ++ cur.drop (a + k + cs.length)).drop (a + k) = cs ++ cur.drop (a + k + cs.length) := by
    rw [List.append_assoc, List.drop_left' hl1]
  have t3 : (cur.take (a + cs.length)).take a = cur.take a := by rw [List.take_take, Nat.min_eq_left (by omega)]
  unfold laidIn'
  rw [hnl, t1, t2, ← hcs, t3]
  show List.take _ (cur.take a ++ nw ++ (cs ++ cur.drop (a + k + cs.length))) = _
  rw [← List.append_assoc, List.take_left' (by simp only [List.length_append]; omega)]
theorem shape_of {w : World} {g : Nat} {cur : Array Value} {t : TypeId} (h : w.heap[g]? = some (.cells cur t (0, 0))) : w.shape? g = some (t, cur.size) := by simp [World.shape?, h]

set_option maxRecDepth 100000 in
set_option maxHeartbeats 2000000 in
theorem Ins_shift (g n c i q : Nat) (cur nw : Array Value) (w : World) (hi : i < n) (hroom : n + 1 ≤ c) (hc63 : c ≤ maxLen) (hg : w.heap[g]? = some (.cells cur 31 (0, 0))) (hcs : cur.size = c * 3)
    (hnl : nw.size = 3) (hq : w.heap[q]? = some (.cells nw 31 (0, 0))) (hqg : q ≠ g) (h1c : ∀ v ∈ cur.toList.take (n * 3), v.oneCell' = true) (h1v : ∀ v ∈ nw.toList, v.oneCell' = true) :
    Calls Tryz.prog 67 #[.slice (some ⟨g, 0, none⟩) n c, .int .i64 i, .slice (some ⟨q, 0, none⟩) 1 1] w fun e w' =>
      e = .returned (.slice (some ⟨g, 0, none⟩) (n + 1) c) ∧ w.grownBy w' (some g) ∧ ∃ cur', w'.heap[g]? = some (.cells cur' 31 (0, 0)) ∧ cur'.size = c * 3 ∧ cur'.toList.take ((n + 1) * 3) = laidIn (cur.toList.take (n * 3)) nw.toList (i * 3) := by
  unfold maxLen at hc63
  have hsz : (Tryz.prog.info? 31).map (·.size) = some 3 := by kernel_rfl
  have hov : ∀ lb cb, (callFunc 99 #[.slice (some ⟨q, 0, none⟩) 1 1, .slice (some ⟨g, (i + 1) * 3, none⟩) lb cb]).run Tryz.prog w = .ok (.value (.bool false)) w := fun lb cb => by
    rw [run_callFunc_extern Tryz.func99 (by kernel_rfl) (by kernel_rfl) (by kernel_rfl) (e := Extern.SlicesOverlaps.overlaps #[32, 32] #[4]) (by kernel_rfl),
      Lib.run_overlaps_apart w 32 4 31 Tryz.underlying32 3 Tryz.sizeOf31 ⟨q, 0, none⟩ ⟨g, (i + 1) * 3, none⟩ 1 1 lb cb hqg _ _ _ _ (shape_of hq) (shape_of hg) (by omega) (by simp [World.frozen?, hq]) (by simp [World.frozen?, hq])]
    rfl
  have hcl : cur.toList.length = c * 3 := by simpa using hcs
  obtain ⟨cs, hcsd⟩ : ∃ cs, cs = (cur.toList.take (n * 3)).drop (i * 3) := ⟨_, rfl⟩
  have hcsl : cs.length = (n - i) * 3 := by rw [hcsd, List.length_drop, List.length_take, hcl]; omega
  obtain ⟨R1, hR1⟩ : ∃ R1 : Array Value, R1 = (cur.toList.take ((i + 1) * 3) ++ cs ++ cur.toList.drop ((i + 1) * 3 + cs.length)).toArray := ⟨_, rfl⟩
  obtain ⟨R2, hR2⟩ : ∃ R2 : Array Value, R2 = (R1.toList.take (i * 3) ++ nw.toList ++ R1.toList.drop (i * 3 + nw.toList.length)).toArray := ⟨_, rfl⟩
  have hnl' : nw.toList.length = 3 := by simpa using hnl
  have hR1s : R1.size = c * 3 := by rw [hR1]; simp [hcl, hcsl]; omega
  have hR1l : R1.toList.length = c * 3 := by simpa using hR1s
  have hR2s : R2.size = c * 3 := by rw [hR2, List.size_toArray, List.length_append, List.length_append, List.length_take, List.length_drop, hR1l, hnl']; omega
  have hcurc : ∀ j v, cur.toList[j]? = some v → w.cell? ⟨g, j, none⟩ = some v := fun j v h => by rw [cell_of_row w g j cur _ (0, 0) hg]; simpa using h
  have hcp1 : ∀ ty dc sc, (Builtin.copy_ #[32, 32] ty #[.slice (some ⟨g, (i + 1) * 3, none⟩) (n - i) dc, .slice (some ⟨g, i * 3, none⟩) (n + 1 - i) sc]).run Tryz.prog w.drew = .ok (goInt (n - i : Nat)) (w.drew.setRow g R1) := fun ty dc sc => by
    have h := run_copy_rowK w.drew 32 32 ty 31 3 g ((i + 1) * 3) (n + 1 - (i + 1)) dc ⟨g, i * 3, none⟩ (n + 1 - i) sc cur 31 cs Tryz.underlying32 hsz hg
      (by rw [hcsl]; congr 1; simp only [Nat.min_def]; split <;> omega)
      (fun j v hj => by
        rw [Addr.add_lit]
        show w.cell? _ = _
        refine hcurc _ v ?_
        rw [hcsd, List.getElem?_drop, List.getElem?_take] at hj
        split at hj
        · exact hj
        · cases hj)
      (by rw [hcs, hcsl]; omega) (fun v hv => h1c v (by rw [hcsd] at hv; exact List.mem_of_mem_drop hv))
    rw [← hR1, show Nat.min (n + 1 - i) (n + 1 - (i + 1)) = n - i by simp only [Nat.min_def]; split <;> omega, show n + 1 - (i + 1) = n - i by omega] at h
    exact h
  have hW1g : (w.drew.setRow g R1).heap[g]? = some (.cells R1 31 (0, 0)) := setRow_heap w.drew g cur _ _ (0, 0) hg
  have hW1q : (w.drew.setRow g R1).heap[q]? = some (.cells nw 31 (0, 0)) := (setRow_other w.drew g q _ hqg).trans hq
  have hcp2 : ∀ ty dc, (Builtin.copy_ #[32, 32] ty #[.slice (some ⟨g, i * 3, none⟩) (n + 1 - i) dc, .slice (some ⟨q, 0, none⟩) 1 1]).run Tryz.prog (w.drew.setRow g R1) = .ok (goInt (1 : Nat)) ((w.drew.setRow g R1).setRow g R2) := fun ty dc => by
    have h := run_copy_rowK (w.drew.setRow g R1) 32 32 ty 31 3 g (i * 3) (n + 1 - i) dc ⟨q, 0, none⟩ 1 1 R1 31 nw.toList Tryz.underlying32 hsz hW1g
      (by rw [hnl', show Nat.min 1 (n + 1 - i) = 1 by simp only [Nat.min_def]; split <;> omega])
      (fun j v hj => by
        rw [Addr.add_lit, Nat.zero_add, cell_of_row _ q j nw _ (0, 0) hW1q]
        simpa using hj)
      (by rw [hR1s, hnl']; omega) h1v
    rw [← hR2, show Nat.min 1 (n + 1 - i) = 1 by simp only [Nat.min_def]; split <;> omega] at h
    exact h
  have hend : R2.toList.take ((n + 1) * 3) = laidIn (cur.toList.take (n * 3)) nw.toList (i * 3) := by
    rw [hR2, hR1]
    exact laid_end cur.toList nw.toList hi (by omega) (by rw [hcl]; omega) hnl' hcsd hcsl
  obtain ⟨W2, hW2⟩ : ∃ W2, W2 = (w.drew.setRow g R1).setRow g R2 := ⟨_, rfl⟩
  rw [← hW2] at hcp2
  obtain ⟨W1, hW1⟩ : ∃ W1, W1 = w.drew.setRow g R1 := ⟨_, rfl⟩
  rw [← hW1] at hcp1 hcp2
  have HE : Hid (w.grownBy W2 (some g) ∧ ∃ cur', W2.heap[g]? = some (.cells cur' 31 (0, 0)) ∧ cur'.size = c * 3 ∧ cur'.toList.take ((n + 1) * 3) = laidIn (cur.toList.take (n * 3)) nw.toList (i * 3)) := by
    refine ⟨?_, R2, ?_, hR2s, hend⟩
    · rw [hW2]
      exact ⟨rfl, rfl, rfl, by simp, fun k hk hne => by
        have hkg : k ≠ g := fun e => hne (by rw [e])
        rw [setRow_other _ _ _ _ hkg, setRow_other _ _ _ _ hkg]
        rfl⟩
    · rw [hW2]
      exact setRow_heap _ g R1 R2 _ (0, 0) hW1g
  clear hend hW1g hW1q hcurc hR1l hR2s hR1s hR1 hR2 hcsd hcsl hcl hcs hg hq h1c h1v hnl hnl' hsz hW1 hW2
  have hw1 : IntKind.i64.wrap ((i : Int) + 1) = (i : Int) + 1 := IntWalk.i64_in _ (by omega)
  have hb1 : (0 : Int) ≤ (i : Int) + 1 := by omega
  have hin : i ≤ n := by omega
  have htn : ((i : Int) + 1).toNat = i + 1 := by omega
  have hb2 : ¬ (c = i + 1) := by omega
  have hb3 : (i : Int) ≤ (n : Int) + 1 := by omega
  have hb4 : ¬ (c = i) := by omega
  go_enter Tryz.func67, Tryz.ntmps67
  go_wp2_with (simp only [hov])
  go_region_law (refine step_copy_runI rfl _ _ 32 32 rfl _ _ (by simp [Act.eval, Act.put]) (by simp [Act.eval, Act.put]) (hcp1 _ _ _) ?_)
  go_wp2_with (at_builtin; refine wpList_copy_runI _ rfl _ _ 32 32 rfl _ _ rfl rfl (hcp2 _ _) ?_)
  go_ret
  exact ⟨rfl, HE.out⟩

theorem laid_end2 {α : Type} (row xs nw : List α) {cs : List α} {n i k : Nat} (hi : i < n) (h0 : 0 < k) (hn : (n + 1) * k ≤ row.length) (hnl : nw.length = k) (hxl : xs.length = n * k) (hrow : row.take (i * k) = xs.take (i * k)) (hcs : cs = xs.drop (i * k)) (hcl : cs.length = (n - i) * k) :
    (((row.take (i * k) ++ nw ++ row.drop (i * k + nw.length)).toArray.toList.take ((i + 1) * k) ++ cs ++ (row.take (i * k) ++ nw ++ row.drop (i * k + nw.length)).toArray.toList.drop ((i + 1) * k + cs.length)).toArray.toList).take ((n + 1) * k) = laidIn' xs nw (i * k) := by
  have e1 : (i + 1) * k = i * k + k := Nat.succ_mul i k
  have e2 : n * k = i * k + cs.length := by rw [hcl, ← Nat.add_mul]; congr 1; omega
  have e3 : (n + 1) * k = i * k + cs.length + k := by rw [Nat.succ_mul, e2]
  rw [e3] at hn
  rw [e1, e3]
  clear e1 e2 e3 hcl
  generalize i * k = a at *
  have hl0 : (row.take a).length = a := by rw [List.length_take]; omega
  have t1 : (row.take a ++ nw ++ row.drop (a + nw.length)).take (a + k) = row.take a ++ nw := by
    rw [List.take_left' (by rw [List.length_append]; omega)]
  unfold laidIn'
  show List.take _ (List.take (a + k) (row.take a ++ nw ++ row.drop (a + nw.length)) ++ cs ++ _) = _
  rw [t1, List.take_left' (by simp only [List.length_append]; omega), hrow, hcs]
theorem zsize (cs : Array Value) (k : Nat) : (Builtin.zeroCells cs k).size = cs.size * k := by
  simp [Builtin.zeroCells, Nat.mul_comm]
set_option maxRecDepth 100000 in
set_option maxHeartbeats 4000000 in
theorem Ins_grow (g n c i q : Nat) (xs : List Value) (nw : Array Value) (w : World) (hi : i < n) (hnc : n ≤ c) (hroom : c < n + 1) (hbig : n ≤ 1048576) (hg : g < w.heap.size) (hx : ∀ j v, xs[j]? = some v → w.cell? ⟨g, j, none⟩ = some v) (hxl : xs.length = n * 3)
    (hnl : nw.size = 3) (hq : w.heap[q]? = some (.cells nw 31 (0, 0))) (h1c : ∀ v ∈ xs, v.oneCell' = true) (h1v : ∀ v ∈ nw.toList, v.oneCell' = true) :
    Calls Tryz.prog 67 #[.slice (some ⟨g, 0, none⟩) n c, .int .i64 i, .slice (some ⟨q, 0, none⟩) 1 1] w fun e w' =>
      ∃ cap, e = .returned (.slice (some ⟨w.heap.size, 0, none⟩) (n + 1) cap) ∧ Ext w w' ∧ n + 1 ≤ cap ∧ cap ≤ maxLen ∧ ∃ cur', w'.heap[w.heap.size]? = some (.cells cur' 31 (0, 0)) ∧ cur'.size = cap * 3 ∧ cur'.toList.take ((n + 1) * 3) = laidIn xs nw.toList (i * 3) := by
  have hsz : (Tryz.prog.info? 31).map (·.size) = some 3 := by kernel_rfl
  obtain ⟨i0, hi0, hz0, hzs, hzb⟩ := info_parts info_pair
  have hql : q < w.heap.size := (Array.getElem?_eq_some_iff.1 hq).1
  have hnl' : nw.toList.length = 3 := by simpa using hnl
  have hkk : (n : Int) + 1 - (i : Int) = ((n + 1 - i : Nat) : Int) := by omega
  have hik : i + (n + 1 - i) = n + 1 := by omega
  have hold : (Builtin.firstCells i0.size i (.slice (some ⟨g, 0, none⟩) i c)).run Tryz.prog w.drew = .ok (xs.take (i * 3)).toArray w.drew := by
    rw [hzs]
    exact run_firstCells_some w.drew 3 i ⟨g, 0, none⟩ i c (xs.take (i * 3)) (by rw [List.length_take, hxl]; omega) (fun j v hj => by
      rw [Addr.add_lit, Nat.zero_add]
      rw [List.getElem?_take] at hj
      split at hj
      · exact hx j v hj
      · cases hj)
  obtain ⟨ROW, hROW⟩ : ∃ ROW : Array Value, ROW = (xs.take (i * 3)).toArray ++ Builtin.zeroCells (Value.agg #[.string ⟨#[]⟩, .string ⟨#[]⟩, .bool false]).cells (n + 1 - i) ++ Builtin.zeroCells (Value.agg #[.string ⟨#[]⟩, .string ⟨#[]⟩, .bool false]).cells (grownCap w (n + 1) c 31 - (n + 1)) := ⟨_, rfl⟩
  have hGn : n + 1 ≤ grownCap w (n + 1) c 31 := grownCap_ge w _ _ _
  have hG63 : grownCap w (n + 1) c 31 ≤ maxLen := grownCap_le_maxLen w (n + 1) c _ (by unfold maxLen; omega)
  have hRs : ROW.size = grownCap w (n + 1) c 31 * 3 := by
    rw [hROW]
    simp only [Array.size_append, List.size_toArray, List.length_take, hxl, zsize]
    rw [Nat.min_eq_left (by omega)]
    show i * 3 + 3 * (n + 1 - i) + 3 * _ = _
    omega
  have hRt : ROW.toList.take (i * 3) = xs.take (i * 3) := by
    rw [hROW]
    simp only [Array.toList_append, List.append_assoc]
    exact List.take_left' (by rw [List.length_take, hxl]; omega)
  have hrz : ∀ ty, (Builtin.append_ #[32, 3] ty #[.slice (some ⟨g, 0, none⟩) i c, .int .i64 ((n : Int) + 1 - (i : Int))]).run Tryz.prog w =
      .ok (.slice (some ⟨w.heap.size, 0, none⟩) (n + 1) (grownCap w (n + 1) c 31)) (w.drew.alloc (.cells ROW 31)) := fun ty => by
    have h := Lib.run_append_grow_zeros w 32 3 ty 31 i0 _ .i64 .i64 Tryz.underlying32 Tryz.underlying3 hi0 hz0 (some ⟨g, 0, none⟩) i c (xs.take (i * 3)) hold (n + 1 - i) (by omega) (by omega) (by omega) (by omega) (by rw [hzb]; omega) (by rw [hzb, hik]; exact growslice_fits hroom (by omega))
    rw [hik] at h
    rw [hkk, hROW]
    exact h
  obtain ⟨G, hG⟩ : ∃ G, G = grownCap w (n + 1) c 31 := ⟨_, rfl⟩
  rw [← hG] at hrz hGn hG63 hRs
  clear hROW hold hik hG
  have hRl : ROW.toList.length = G * 3 := by simpa using hRs
  obtain ⟨cs, hcsd⟩ : ∃ cs, cs = xs.drop (i * 3) := ⟨_, rfl⟩
  have hcsl : cs.length = (n - i) * 3 := by rw [hcsd, List.length_drop, hxl]; omega
  obtain ⟨R1, hR1⟩ : ∃ R1 : Array Value, R1 = (ROW.toList.take (i * 3) ++ nw.toList ++ ROW.toList.drop (i * 3 + nw.toList.length)).toArray := ⟨_, rfl⟩
  obtain ⟨R2, hR2⟩ : ∃ R2 : Array Value, R2 = (R1.toList.take ((i + 1) * 3) ++ cs ++ R1.toList.drop ((i + 1) * 3 + cs.length)).toArray := ⟨_, rfl⟩
  have hR1s : R1.size = G * 3 := by rw [hR1, List.size_toArray, List.length_append, List.length_append, List.length_take, List.length_drop, hRl, hnl']; omega
  have hR1l : R1.toList.length = G * 3 := by simpa using hR1s
  have hR2s : R2.size = G * 3 := by rw [hR2, List.size_toArray, List.length_append, List.length_append, List.length_take, List.length_drop, hR1l, hcsl]; omega
  have hend : R2.toList.take ((n + 1) * 3) = laidIn xs nw.toList (i * 3) := by
    rw [hR2, hR1]
    exact laid_end2 ROW.toList xs nw.toList hi (by omega) (by rw [hRl]; omega) hnl' hxl hRt hcsd hcsl
  have hX : (w.drew.alloc (.cells ROW 31)).heap[w.heap.size]? = some (.cells ROW 31 (0, 0)) := heap_alloc_new w.drew _
  have hXo : ∀ k, k < w.heap.size → (w.drew.alloc (.cells ROW 31)).heap[k]? = w.heap[k]? := fun k hk => Below.heap_alloc w.drew _ k hk
  obtain ⟨X, hXd⟩ : ∃ X, X = w.drew.alloc (.cells ROW 31) := ⟨_, rfl⟩
  rw [← hXd] at hX hXo
  have hcpA : ∀ (W : World), W.heap = X.heap → ∀ ty dc, (Builtin.copy_ #[32, 32] ty #[.slice (some ⟨w.heap.size, i * 3, none⟩) (n + 1 - i) dc, .slice (some ⟨q, 0, none⟩) 1 1]).run Tryz.prog W = .ok (goInt (1 : Nat)) (W.setRow w.heap.size R1) := fun W hW ty dc => by
    have h := run_copy_rowK W 32 32 ty 31 3 w.heap.size (i * 3) (n + 1 - i) dc ⟨q, 0, none⟩ 1 1 ROW 31 nw.toList Tryz.underlying32 hsz (by rw [hW]; exact hX)
      (by rw [hnl', show Nat.min 1 (n + 1 - i) = 1 by simp only [Nat.min_def]; split <;> omega])
      (fun j v hj => by
        rw [Addr.add_lit, Nat.zero_add, cell_of_row _ q j nw _ (0, 0) (by rw [hW]; exact (hXo q hql).trans hq)]
        simpa using hj)
      (by rw [hRs, hnl']; omega) h1v
    rw [← hR1, show Nat.min 1 (n + 1 - i) = 1 by simp only [Nat.min_def]; split <;> omega] at h
    exact h
  have hY : (X.setRow w.heap.size R1).heap[w.heap.size]? = some (.cells R1 31 (0, 0)) := setRow_heap X w.heap.size ROW R1 _ (0, 0) hX
  have hYo : ∀ k, k < w.heap.size → (X.setRow w.heap.size R1).heap[k]? = w.heap[k]? := fun k hk => (setRow_other X w.heap.size k _ (by omega)).trans (hXo k hk)
  have hcpB : ∀ (W : World), W.heap = (X.setRow w.heap.size R1).heap → ∀ ty dc sc, (Builtin.copy_ #[32, 32] ty #[.slice (some ⟨w.heap.size, (i + 1) * 3, none⟩) (n - i) dc, .slice (some ⟨g, i * 3, none⟩) (n - i) sc]).run Tryz.prog W = .ok (goInt (n - i : Nat)) (W.setRow w.heap.size R2) := fun W hW ty dc sc => by
    have h := run_copy_rowK W 32 32 ty 31 3 w.heap.size ((i + 1) * 3) (n - i) dc ⟨g, i * 3, none⟩ (n - i) sc R1 31 cs Tryz.underlying32 hsz (by rw [hW]; exact hY)
      (by rw [hcsl]; congr 1; simp only [Nat.min_def]; split <;> omega)
      (fun j v hj => by
        rw [Addr.add_lit, World.cell?_of_block (w := w) (by rw [hW]; exact hYo g hg)]
        refine hx _ v ?_
        rw [hcsd, List.getElem?_drop] at hj
        exact hj)
      (by rw [hR1s, hcsl]; omega) (fun v hv => h1c v (by rw [hcsd] at hv; exact List.mem_of_mem_drop hv))
    rw [← hR2, show Nat.min (n - i) (n - i) = n - i by simp only [Nat.min_def]; split <;> omega] at h
    exact h
  have HF : ∀ W : World, W.heap = (X.setRow w.heap.size R1).heap → W.os = w.os → W.tape = w.tape → W.output = w.output → Ext w (W.setRow w.heap.size R2) ∧ (W.setRow w.heap.size R2).heap[w.heap.size]? = some (.cells R2 31 (0, 0)) := fun W hW h1 h2 h3 =>
    ⟨⟨h1, h2, h3, by rw [size_setRow, hW, size_setRow, hXd]; simp, fun k hk => by rw [setRow_other _ _ _ _ (by omega), hW]; exact hYo k hk⟩, setRow_heap W w.heap.size R1 R2 _ (0, 0) (by rw [hW]; exact hY)⟩
  have hEnd : Hid (∀ W : World, Ext w W ∧ W.heap[w.heap.size]? = some (.cells R2 31 (0, 0)) → ∃ cap, Ending.returned (.slice (some ⟨w.heap.size, 0, none⟩) (n + 1) G) = Ending.returned (.slice (some ⟨w.heap.size, 0, none⟩) (n + 1) cap) ∧ Ext w W ∧ n + 1 ≤ cap ∧ cap ≤ maxLen ∧ ∃ cur', W.heap[w.heap.size]? = some (.cells cur' 31 (0, 0)) ∧ cur'.size = cap * 3 ∧ cur'.toList.take ((n + 1) * 3) = laidIn xs nw.toList (i * 3)) := Lib.hid fun W h => ⟨G, rfl, h.1, hGn, hG63, R2, h.2, hR2s, hend⟩
  have HHF := Lib.hid HF
  subst hXd
  clear HF hend hX hXo hY hYo hR1l hR2s hR1s hR1 hR2 hcsd hcsl hRl hRs hRt hnl hnl' h1c h1v hx hq
  have hw1 : IntKind.i64.wrap ((i : Int) + 1) = (i : Int) + 1 := IntWalk.i64_in _ (by omega)
  have hb1 : (0 : Int) ≤ (i : Int) + 1 := by omega
  have hin : i ≤ n := by omega
  have htn : ((i : Int) + 1).toNat = i + 1 := by omega
  have hb3 : (i : Int) ≤ (n : Int) := by omega
  unfold maxLen at hG63
  have hGi : ¬ (G = i) := by omega
  have hGim : ¬ (G = i + 1) := by omega
  have hci : ¬ (c = i) := by omega
  have hz3 : (c : Int) < (n : Int) + 1 := by omega
  clear hkk
  have hE1 : ((w.alloc (.cells ROW 31)).drew).heap = (w.drew.alloc (.cells ROW 31)).heap := rfl
  have hF1 : (((w.alloc (.cells ROW 31)).drew.setRow w.heap.size R1).drew).heap = ((w.drew.alloc (.cells ROW 31)).setRow w.heap.size R1).heap := rfl
  go_enter Tryz.func67, Tryz.ntmps67
  go_wp2_with (first
    | (at_builtin; refine Lib.wpList_append_run _ rfl _ _ _ _ rfl _ _ rfl rfl _ _ (hrz _) ?_)
    | (at_builtin; refine wpList_copy_runI _ rfl _ _ 32 32 rfl _ _ rfl rfl (hcpA _ hE1 _ _) ?_))
  go_region_law (refine step_copy_runI rfl _ _ 32 32 rfl (.slice (some ⟨w.heap.size, (i + 1) * 3, none⟩) (n - i) (G - (i + 1))) (.slice (some ⟨g, i * 3, none⟩) (n - i) (c - i)) (by simp [Act.eval, Act.put]) (by simp [Act.eval, Act.put]) (hcpB _ hF1 3 (G - (i + 1)) (c - i)) ?_)
  go_wp2_with fail
  go_ret
  exact hEnd.out _ (HHF.out _ rfl rfl rfl rfl)

set_option maxRecDepth 100000 in
set_option maxHeartbeats 2000000 in
theorem Ins_end (base n q : Nat) (v : Value) (xs : List Value) (nw : Array Value) (w : World) (hn : n + 1 ≤ 1048576) (hb : base ≤ w.heap.size) (hown : w.ownsRow base 31 3 v n xs)
    (hnl : nw.size = 3) (hq : w.heap[q]? = some (.cells nw 31 (0, 0))) (h1v : ∀ u ∈ nw.toList, u.oneCell' = true) :
    Calls Tryz.prog 67 #[v, .int .i64 n, .slice (some ⟨q, 0, none⟩) 1 1] w fun e w' =>
      ∃ g cap, e = .returned (.slice (some ⟨g, 0, none⟩) (n + 1) cap) ∧ w'.ownsRow base 31 3 (.slice (some ⟨g, 0, none⟩) (n + 1) cap) (n + 1) (xs ++ nw.toList) ∧ w.grownBy w' v.ownBlock ∧ (v.ownBlock = some g ∨ g = w.heap.size) := by
  obtain ⟨i0, hi0, hz0, hzs, hzb⟩ := info_parts info_pair
  have hq0 : ∀ (j : Nat) u, nw.toList[j]? = some u → w.cell? ((⟨q, 0, none⟩ : Addr).add j) = some u := fun j u hj => by
    rw [Addr.add_lit, Nat.zero_add, cell_of_row _ q j nw _ (0, 0) hq]
    simpa using hj
  have hnl' : nw.toList.length = 1 * 3 := by simpa using hnl
  obtain ⟨A, c, rfl, hc, hr, hnil⟩ := own_rd hown
  have hl := hr.2.1
  have hA : A = none → n = 0 := fun h => by
    rcases Nat.eq_zero_or_pos n with h0 | h0
    · exact h0
    · obtain ⟨ad, h2, _⟩ := hr.2.2 h0
      rw [h] at h2; cases h2
  have HN := Lib.hid hnil
  clear hnil hr
  unfold maxLen at hc
  have HQ := Lib.hid hq0
  have HL := Lib.hid hnl'
  have H1 := Lib.hid h1v
  clear hq hnl hnl' h1v hq0
  go_enter Tryz.func67, Tryz.ntmps67
  cases A with
  | none =>
    obtain rfl := hA rfl
    go_wp2_with (at_builtin; refine wpl_apps (by rfl) _ _ _ (by rfl) base 31 i0 _ 3 40 Tryz.underlying32 hi0 hz0 hzs hzb rfl (by omega) _ _ _ (by rfl) hown ⟨q, 0, none⟩ 1 1 nw.toList (by rfl) HL.out HQ.out H1.out (by omega) (by omega) (by omega) hb ?_; intro g cap w6 own6 hg6 hH6 hlt6)
    go_ret
    exact ⟨g, cap, rfl, own6, hg6, hH6⟩
  | some a =>
    obtain ⟨ab, ao, asp⟩ := a
    go_wp2_with (at_builtin; refine wpl_apps (by rfl) _ _ _ (by rfl) base 31 i0 _ 3 40 Tryz.underlying32 hi0 hz0 hzs hzb rfl (by omega) _ _ _ (by rfl) hown ⟨q, 0, none⟩ 1 1 nw.toList (by rfl) HL.out HQ.out H1.out (by omega) (by omega) (by omega) hb ?_; intro g cap w6 own6 hg6 hH6 hlt6)
    all_goals
      go_ret
      exact ⟨g, cap, rfl, own6, hg6, hH6⟩

theorem Insert_own (base n i q : Nat) (v : Value) (xs : List Value) (nw : Array Value) (w : World) (hi : i ≤ n) (hn : n + 1 ≤ 1048576) (hb : base ≤ w.heap.size) (hown : w.ownsRow base 31 3 v n xs)
    (hnl : nw.size = 3) (hq : w.heap[q]? = some (.cells nw 31 (0, 0))) (hqv : v.ownBlock ≠ some q) (h1c : ∀ u ∈ xs, u.oneCell' = true) (h1v : ∀ u ∈ nw.toList, u.oneCell' = true) :
    Calls Tryz.prog 67 #[v, .int .i64 i, .slice (some ⟨q, 0, none⟩) 1 1] w fun e w' =>
      ∃ g cap, e = .returned (.slice (some ⟨g, 0, none⟩) (n + 1) cap) ∧ w'.ownsRow base 31 3 (.slice (some ⟨g, 0, none⟩) (n + 1) cap) (n + 1) (laidIn xs nw.toList (i * 3)) ∧ w.grownBy w' v.ownBlock ∧ (v.ownBlock = some g ∨ w.heap.size ≤ g) := by
  have hxl := own_len hown
  have hnl' : nw.toList.length = 3 := by simpa using hnl
  have hll : (laidIn xs nw.toList (i * 3)).length = (n + 1) * 3 := by
    unfold laidIn laidIn'
    simp only [List.length_append, List.length_take, List.length_drop]
    omega
  by_cases hin : i = n
  · subst hin
    refine (Ins_end base i q v xs nw w hn hb hown hnl hq h1v).mono ?_
    rintro e w' ⟨g, cap, he, ho, hg, hH⟩
    have e2 : laidIn xs nw.toList (i * 3) = xs ++ nw.toList := by
      unfold laidIn laidIn'
      rw [List.take_of_length_le (by omega), List.drop_of_length_le (by omega), List.append_nil]
    exact ⟨g, cap, he, by rw [e2]; exact ho, hg, hH.imp id (fun h => by omega)⟩
  · rcases hown.2 with ⟨rfl, rfl⟩ | ⟨g, cap, cur, rfl, hbg, hg, hnc, hcm, hcs, hcur⟩
    · omega
    · have hgl : g < w.heap.size := (Array.getElem?_eq_some_iff.1 hg).1
      by_cases hroom : n + 1 ≤ cap
      · refine (Ins_shift g n cap i q cur nw w (by omega) hroom hcm hg hcs hnl hq (fun e => hqv (by rw [e]; rfl)) (by rw [hcur]; exact h1c) h1v).mono ?_
        rintro e w' ⟨he, hgb, cur', h1, h2, h3⟩
        rw [hcur] at h3
        exact ⟨g, cap, he, ⟨hll, .inr ⟨g, cap, cur', rfl, hbg, h1, hroom, hcm, h2, h3⟩⟩, hgb, .inl rfl⟩
      · refine (Ins_grow g n cap i q xs nw w (by omega) hnc (by omega) (by omega) hgl (fun j u hj => by
          rw [cell_of_row w g j cur _ (0, 0) hg]
          rw [← hcur, List.getElem?_take] at hj
          split at hj
          · simpa using hj
          · cases hj) hxl hnl hq h1c h1v).mono ?_
        rintro e w' ⟨cap', he, hE, hc1, hc2, cur', h1, h2, h3⟩
        exact ⟨w.heap.size, cap', he, ⟨hll, .inr ⟨w.heap.size, cap', cur', rfl, hb, h1, hc1, hc2, h2, h3⟩⟩, hE.gb _, .inr (Nat.le_refl _)⟩
end Go.Proofs.YtcgfdhgceokcnaaGreatDoor

/- A region that draws its order and whose calls make memory: walked once, in the text's order, in the class of the worlds beyond one. -/
namespace Go.Proofs.YtcgfdhgceokcnaaGreatDoor
open Go.RowKit
set_option linter.unusedVariables false

/-- a world beyond w0 -/
structure WE (w0 : World) where
  W : World
  h : Ext w0 W
instance (w0 : World) : Nonempty (WE w0) := ⟨⟨w0, Ext.refl w0⟩⟩
section
variable {P : Program}
theorem wp_region_ext {id : Nat} {Q : Exit → Act → World → Prop} {a : Act} {w0 w : World} {l : List Oper} (hm : P.follows .mixedOrders = true) (hB : Region.lexB .any l.toArray = true) (h0 : Ext w0 w)
    (h : wpQuiet P l.toArray (fun w' => ∃ x : WE w0, w' = x.W) (fun a' => ∀ w', Ext w0 w' → Q .normal a' w') l a) : (Code.region id l.toArray true).wp P Q a w := by
  refine wp_region_quiet (C := fun w' => ∃ x : WE w0, w' = x.W) hm hB ⟨⟨_, Ext.drew h0⟩, rfl⟩ ?_
  have hQ : ∀ (ops : Array Oper) (l : List Oper) (a : Act), wpQuiet P ops (fun w' => ∃ x : WE w0, w' = x.W) (fun a' => ∀ w', Ext w0 w' → Q .normal a' w') l a → wpQuiet P ops (fun w' => ∃ x : WE w0, w' = x.W) (fun a' => ∀ w', (∃ x : WE w0, w' = x.W) → Q .normal a' w') l a := by
    intro ops l
    induction l with
    | nil =>
      intro a h w' hw
      obtain ⟨x, rfl⟩ := hw
      exact h _ x.h
    | cons o l ih =>
      intro a h
      unfold wpQuiet at h ⊢
      split
      · rename_i hw
        rw [if_pos hw] at h
        exact Oper.quiet_mono ih h
      · rename_i hw
        rw [if_neg hw] at h
        exact ih _ h
  exact hQ _ _ _ h
theorem quietE {f : FuncId} {args : Array Value} {w0 : World} {x : WE w0} {v : Value} (h : Calls P f args x.W fun e w' => e = .returned v ∧ Ext x.W w') :
    Calls P f args x.W fun e w'' => e = .returned v ∧ ∃ y : WE w0, w'' = y.W := h.mono fun _ w' ⟨he, hw⟩ => ⟨he, ⟨w', x.h.trans hw⟩, rfl⟩
theorem quietS {f : FuncId} {args : Array Value} {w0 : World} {x : WE w0} {v : Value} (h : Calls P f args x.W fun e w' => e = .returned v ∧ x.W = w') :
    Calls P f args x.W fun e w'' => e = .returned v ∧ ∃ y : WE w0, w'' = y.W := h.mono fun _ _ ⟨he, hw⟩ => ⟨he, x, hw.symm⟩
end
end Go.Proofs.YtcgfdhgceokcnaaGreatDoor

/- A region that draws its order, whose calls make memory, and whose last operations write: all but the last ones walked once, in the text's order, in the class of the worlds beyond one; then the last ones. -/
namespace Go.Proofs.YtcgfdhgceokcnaaGreatDoor
open Go.RowKit Go
set_option linter.unusedVariables false

section
variable {P : Program} {ops : Array Oper} {md : Region.Mode} {C : World → Prop}
def wpAnyQL (P : Program) (md : Region.Mode) (ops : Array Oper) (C : World → Prop) (n : Nat) (L : Array Bool → Act → Prop) : Nat → Array Bool → Act → Prop
  | 0, listed, a => L listed a
  | f + 1, listed, a => Region.ready md ops listed ≠ [] ∧ ∀ i ∈ Region.ready md ops listed, i < n ∧ qOp P ops C i (wpAnyQL P md ops C n L f (listed.setIfInBounds i true)) a

theorem wpAny_of_headQ {n g : Nat} {L : Array Bool → Act → Prop} {Q' : Exit → Act → World → Prop} (hL : ∀ listed a w, C w → L listed a → wpAny P md ops Q' g listed a w) :
    ∀ (f : Nat) (listed : Array Bool) (a : Act) (w : World), C w → wpAnyQL P md ops C n L f listed a → wpAny P md ops Q' (f + g) listed a w
  | 0, listed, a, w, hw, h => by rw [Nat.zero_add]; exact hL _ _ _ hw h
  | f + 1, listed, a, w, hw, h => by
    rw [show f + 1 + g = (f + g) + 1 by omega]
    exact ⟨fun h0 => absurd h0 h.1, fun i hi => wpOp_of_qOp hw (fun a' w' hw' h' => wpAny_of_headQ hL f _ a' w' hw' h') (h.2 i hi).2⟩

theorem wpAnyQL_first {n i : Nat} {oi : Oper} {v : Value} {L : Array Bool → Act → Prop} (hi : ops[i]? = some oi) (hsel : ∀ (j : Nat) (o : Oper) cs b, ops[j]? = some o → o.op ≠ .select cs b)
    (hs : Region.sinkB md ops n = true) (hc : Region.chainB md ops n = true) (hn : n < ops.size) (hin : i < n)
    (hdone : ∀ listed a, L listed a → ∀ j ∈ Region.ready md ops listed, n ≤ j) :
    ∀ (f : Nat) (listed : Array Bool) (a : Act), HeadInv md ops n listed →
      (∀ j oj, ops[j]? = some oj → j ≠ i → listed.getD j true = false → (∀ e ∈ oj.after, Region.binds md e = true → e.on ≠ i) → oi.apart ops oj = true) →
      i ∈ Region.ready md ops listed → YieldsIn P ops C oi v a →
      wpAnyQL P md ops C n L f (listed.setIfInBounds i true) (a.put oi.dst v) → wpAnyQL P md ops C n L (f + 1) listed a := by
  intro f
  induction f with
  | zero =>
    intro listed a inv _ hr hy H
    refine ⟨fun h => (by rw [h] at hr; cases hr), fun j hj => ?_⟩
    have hjn : j < n := by
      rcases Nat.lt_or_ge j n with h | h
      · exact h
      · exact absurd hj (tail_waits hs hc hn inv _ i rfl hin (mem_ready.1 hr).1 j h)
    refine ⟨hjn, ?_⟩
    by_cases hji : j = i
    · subst hji; exact hy.qOp hi H
    · have := hdone _ _ H j (ready_mono hj hji)
      omega
  | succ f ih =>
    intro listed a inv hfree hr hy H
    have hun := (mem_ready.1 hr).1
    refine ⟨fun h => (by rw [h] at hr; cases hr), fun j hj => ?_⟩
    have hjn : j < n := by
      rcases Nat.lt_or_ge j n with h | h
      · exact h
      · exact absurd hj (tail_waits hs hc hn inv _ i rfl hin hun j h)
    refine ⟨hjn, ?_⟩
    by_cases hji : j = i
    · subst hji; exact hy.qOp hi H
    · have h1 := (H.2 j (ready_mono hj hji)).2
      obtain ⟨hjun, oj, hoj, hall⟩ := mem_ready.1 hj
      have hnot : ∀ e ∈ oj.after, Region.binds md e = true → e.on ≠ i := fun e he hb heq => by
        have h1 := hall e he hb
        rw [heq, getD_both hun] at h1
        cases h1
      have h2 := qOp_put hoj (hfree j oj hoj hji hjun hnot) (fun cs b => hsel i oi cs b hi) (fun cs b => hsel j oj cs b hoj) hy h1
      have hfree' : ∀ k ok, ops[k]? = some ok → k ≠ i → (listed.setIfInBounds j true).getD k true = false →
          (∀ e ∈ ok.after, Region.binds md e = true → e.on ≠ i) → oi.apart ops ok = true := fun k ok hk hki hun hno => by
        refine hfree k ok hk hki ?_ hno
        by_cases hjk : j = k
        · subst hjk; exact hjun
        · rw [getD_set_ne true hjk] at hun; exact hun
      refine qOp_mono (fun a' h3 => ih (listed.setIfInBounds j true) a' (inv.set hj hjn) hfree' (ready_mono hr (Ne.symm hji)) h3.1 ?_) h2
      rw [Array.setIfInBounds_comm _ _ hji]
      exact h3.2

theorem wpAnyQL_lex {n g : Nat} {Lq : Act → Prop} (hsel : Region.noSelect ops = true) (hs : Region.sinkB md ops n = true) (hc : Region.chainB md ops n = true) (hn : n < ops.size) :
    ∀ (l : List Oper) (k : Nat) (listed : Array Bool) (a : Act), (∀ j, j < l.length → l[j]? = ops[k + j]?) → k + l.length = n → HeadInv md ops n listed →
    Region.lexHead md ops g l.length k listed = true → wpQuiet P ops C Lq l a →
    wpAnyQL P md ops C n (fun listed' a' => Region.seqB md ops g n listed' = true ∧ Lq a') l.length listed a
  | [], k, listed, a, _, hk, _, hB, h => by
    have : k = n := by simpa using hk
    subst this
    exact ⟨by simpa [Region.lexHead] using hB, h⟩
  | o :: l, k, listed, a, hl, hk, inv, hB, h => by
    have h0 : ops[k]? = some o := by simpa using (hl 0 (by simp)).symm
    simp only [List.length_cons, Region.lexHead, Bool.and_eq_true] at hB
    obtain ⟨⟨hr, hf⟩, hB'⟩ := hB
    have hkn : k < n := by simp only [List.length_cons] at hk; omega
    have hr' : k ∈ Region.ready md ops listed := by simpa using hr
    have hst : qOp P ops C k (wpQuiet P ops C Lq l) a := by unfold qOp; simp only [h0]; exact h
    obtain ⟨v, hy, hK⟩ := yieldsIn_of_qOp h0 hst
    exact wpAnyQL_first h0 (Region.noSelect_spec hsel) hs hc hn hkn (fun listed' a' hL => seqB_ready hL.1) l.length listed a inv (Region.free_spec h0 hf) hr' hy
      (wpAnyQL_lex hsel hs hc hn l (k + 1) _ _ (fun j hj => by have := hl (j + 1) (by simp; omega); simpa [Nat.add_assoc, Nat.add_comm 1 j] using this) (by simp only [List.length_cons] at hk; omega) (inv.set hr' hkn) hB' hK)

/-- all but the last operations in a class of worlds, then the last ones from whatever world of the class -/
theorem wp_region_quiet_tail {id : Nat} {Q : Exit → Act → World → Prop} {a : Act} {w : World} {l : List Oper} (n : Nat) (hm : P.follows .mixedOrders = true) (hB : Region.lexTailB .any l.toArray n = true) (hC : C { w with drawn := w.drawn + 1 })
    (h : wpQuiet P l.toArray C (fun a' => ∀ w', C w' → wpList P l.toArray Q (l.drop n) a' w') (l.take n) a) : (Code.region id l.toArray true).wp P Q a w := by
  simp only [Region.lexTailB, Bool.and_eq_true, decide_eq_true_eq] at hB
  obtain ⟨⟨⟨⟨hsel, hn⟩, hs⟩, hc⟩, hlex⟩ := hB
  have hn' : n < l.length := by simpa using hn
  have htl : (l.take n).length = n := by simp; omega
  have hdl : (l.drop n).length = l.toArray.size - n := by simp
  have inv0 : HeadInv .any l.toArray n (Array.replicate l.toArray.size false) :=
    ⟨by simp, fun j oj _ hl => (by rw [getD_replicate_false] at hl; cases hl), fun t _ ht => getD_in (by simpa using ht) (getD_replicate_false _ _)⟩
  have H := wpAnyQL_lex (md := .any) (g := l.toArray.size - n) hsel hs hc hn (l.take n) 0 _ a (fun j hj => by
    have hj' : j < n := by rw [htl] at hj; exact hj
    simp [hj']) (by simpa using htl) inv0 (by rw [htl]; exact hlex) h
  refine wp_region_any hm ?_
  have := wpAny_of_headQ (Q' := Q) (g := l.toArray.size - n) (fun listed a' w' hw' hL => by
    have := wpAny_of_seq (md := .any) (Q' := Q) (l.drop n) n listed a' w' (fun j => by simp [List.getElem?_drop]) (by rw [hdl]; exact hL.1) (hL.2 w' hw')
    rwa [hdl] at this) _ _ _ _ hC H
  rw [htl, show n + (l.toArray.size - n) = l.toArray.size by omega] at this
  exact this

theorem wp_region_ext_tail {id : Nat} {Q : Exit → Act → World → Prop} {a : Act} {w0 w : World} {l : List Oper} (n : Nat) (hm : P.follows .mixedOrders = true) (hB : Region.lexTailB .any l.toArray n = true) (h0 : Ext w0 w)
    (h : wpQuiet P l.toArray (fun w' => ∃ x : WE w0, w' = x.W) (fun a' => ∀ w', (∃ x : WE w0, w' = x.W) → wpList P l.toArray Q (l.drop n) a' w') (l.take n) a) : (Code.region id l.toArray true).wp P Q a w :=
  wp_region_quiet_tail (C := fun w' => ∃ x : WE w0, w' = x.W) n hm hB ⟨⟨_, Ext.drew h0⟩, rfl⟩ h
end
end Go.Proofs.YtcgfdhgceokcnaaGreatDoor

/- store: a list of pairs in memory; put. -/
namespace Go.Proofs.YtcgfdhgceokcnaaGreatDoor
open Go.RowKit
set_option linter.unusedVariables false
attribute [local go_sem ↓] Go.wp_at_zero Go.wp_at_succ

def PrOk (p : Pr) : Prop := keyK p.key = 0 ∧ p.value.size ≤ 200 ∧ (p.gone = true → p.value.size = 0)
/-- a store in memory -/
structure StAt (w : World) (B sb : Nat) (v : Value) (es : List Pr) : Prop where
  bk : Bk w sb 122 #[v]
  own : w.ownsRow B 31 3 v es.length (es.flatMap Pr.cells)
  lo : B ≤ sb
  asc : Asc es
  len : es.length ≤ 60
  ok : ∀ p ∈ es, PrOk p
theorem StAt.chg {w w' : World} {B sb : Nat} {v : Value} {es : List Pr} {S : Nat → Prop} (h : StAt w B sb v es) (k : Chg w w' S) (h1 : ¬ S sb) (h2 : ∀ g, v.ownBlock = some g → ¬ S g) : StAt w' B sb v es :=
  ⟨h.bk.chg k h1, own_chg h.own k h2, h.lo, h.asc, h.len, h.ok⟩
theorem StAt.ext {w w' : World} {B sb : Nat} {v : Value} {es : List Pr} (h : StAt w B sb v es) (k : Ext w w') : StAt w' B sb v es := ⟨h.bk.ext k, own_ext h.own k, h.lo, h.asc, h.len, h.ok⟩

theorem StAt.drew {w : World} {B sb : Nat} {v : Value} {es : List Pr} (h : StAt w B sb v es) : StAt w.drew B sb v es := h.ext (Ext.refl w).drew
theorem StAt.set3 {w : World} {B sb g n c lo : Nat} {es : List Pr} {p : Pr} (h : StAt w B sb (.slice (some ⟨g, 0, none⟩) n c) es) (hx : es.length = n) (hlo : lo < n) (hok : PrOk p) (ha : Asc (es.set lo p)) :
    StAt (((w.setCell ⟨g, lo * 3, none⟩ (.string p.key)).setCell ⟨g, lo * 3 + 1, none⟩ (.string p.value)).setCell ⟨g, lo * 3 + 2, none⟩ (.bool p.gone)) B sb (.slice (some ⟨g, 0, none⟩) n c) (es.set lo p) ∧
    w.grownBy (((w.setCell ⟨g, lo * 3, none⟩ (.string p.key)).setCell ⟨g, lo * 3 + 1, none⟩ (.string p.value)).setCell ⟨g, lo * 3 + 2, none⟩ (.bool p.gone)) (some g) := by
  have ho := h.own
  rw [hx] at ho
  have hne : g ≠ sb := fun e => own_type ho h.bk (by decide) (by rw [e]; rfl)
  have o1 := ho.stored (lo * 3) (.string p.key)
  have o2 := o1.1.stored (lo * 3 + 1) (.string p.value)
  have o3 := o2.1.stored (lo * 3 + 2) (.bool p.gone)
  have hg := gb_trans (gb_trans o1.2 o2.2) o3.2
  refine ⟨⟨h.bk.kept hg (fun e => hne (by injection e)), ?_, h.lo, ha, by rw [List.length_set]; exact h.len, fun q hq => ?_⟩, hg⟩
  · rw [List.length_set, hx, ← cells_set es lo p (by omega)]
    exact o3.1
  · obtain ⟨i, hi⟩ := List.getElem?_of_mem hq
    by_cases hil : i = lo
    · subst hil
      rw [List.getElem?_set_self (by omega)] at hi
      injection hi with hi
      rw [← hi]; exact hok
    · rw [List.getElem?_set_ne (Ne.symm hil)] at hi
      exact h.ok q (List.mem_of_getElem? hi)

set_option maxRecDepth 100000 in
set_option maxHeartbeats 2000000 in
theorem put_any (B sb : Nat) (v : Value) (es : List Pr) (p : Pr) (w : World) (h : StAt w B sb v es) (hB : B ≤ w.heap.size) (hp : p.gone = true → p.value.size = 0) :
    Calls Tryz.prog 127 #[.pointer (some ⟨sb, 0, none⟩), p.val] w fun e w' => e = .returned (errR (putK es p)) ∧ ∃ v', StAt w' B sb v' (storeL es p) ∧ Chg w w' (fun k => k = sb ∨ v.ownBlock = some k) ∧ (∀ g, v'.ownBlock = some g → v.ownBlock = some g ∨ w.heap.size ≤ g) := by
  obtain ⟨hE, hN, hG⟩ := errR_rules
  obtain ⟨pk, pv, pg⟩ := p
  have HP := Lib.hid hp
  clear hp
  have B1 := Bk.at_ w 31 #[.string pk, .string pv, .bool pg] w.heap.size rfl
  have e1 : Ext w (w.alloc (.cells #[.string pk, .string pv, .bool pg] 31)) := (Ext.refl _).alloc _
  have p0 : (w.alloc (.cells #[.string pk, .string pv, .bool pg] 31)).cell? ⟨w.heap.size, 0, none⟩ = some (.string pk) := B1.cell 0
  go_enter Tryz.func127, Tryz.ntmps127
  go_wp2_with fail
  generalize w.alloc (.cells #[.string pk, .string pv, .bool pg] 31) = W1 at *
  refine (Key_any pk _).mono ?_
  rintro _ _ ⟨rfl, rfl⟩
  by_cases hk : keyK pk = 0
  · have HK := Lib.hid hk
    rw [hk, errR_0]
    clear hk
    have S1 := h.ext e1
    obtain ⟨n, hn⟩ : ∃ n, es.length = n := ⟨_, rfl⟩
    have ow := S1.own
    rw [hn] at ow
    obtain ⟨A, c, rfl, hc, hr, hnil⟩ := own_rd ow
    clear hnil ow
    have HR := Lib.hid hr
    have HO := Lib.hid h.asc
    have s0 : W1.cell? ⟨sb, 0, none⟩ = some (.slice A n c) := S1.bk.cell 0
    have HS := Lib.hid S1
    have HH := Lib.hid h
    clear S1 hr h
    have HX := Lib.hid hn
    have hn60 : n ≤ 60 := by rw [← HX.out]; exact HS.out.len
    clear hn
    have HB1 := Lib.hid B1
    have HP0 := Lib.hid p0
    have cw0 : ∀ x : WE W1, x.W.cell? ⟨w.heap.size, 0, none⟩ = some (.string pk) := fun x => (Ext.cell (p := ⟨w.heap.size, 0, none⟩) x.h HB1.out.lt).trans HP0.out
    have HS0 := Lib.hid s0
    have cw1 : ∀ x : WE W1, x.W.cell? ⟨sb, 0, none⟩ = some (.slice A n c) := fun x => (Ext.cell (p := ⟨sb, 0, none⟩) x.h HS.out.bk.lt).trans HS0.out
    clear B1 p0 s0
    go_wp2_with fail
    (refine wp_region_ext (w0 := W1) (by kernel_rfl) (by kernel_rfl) (by (repeat (with_reducible first | exact Ext.refl _ | assumption | refine Ext.drew ?_ | refine Ext.drewN ?_ _ | refine Ext.alloc ?_ _ | refine Ext.trans ?_ (by with_reducible assumption)))) ?_; (repeat (go_big_quiet_step (((go_at_call 66; exact quietE (Find_any A n c es pk _ (HR.out.ext (WE.h _)) hc (by omega) HO.out)))))); refine wpQuiet_nil ?_)
    intro w2 hb2
    have S2 := HS.out.ext hb2
    have B2 := HB1.out.ext hb2
    have p0 : w2.cell? ⟨w.heap.size, 0, none⟩ = some (.string pk) := B2.cell 0
    have p1 : w2.cell? ⟨w.heap.size, 1, none⟩ = some (.string pv) := B2.cell 1
    have p2 : w2.cell? ⟨w.heap.size, 2, none⟩ = some (.bool pg) := B2.cell 2
    have s0 : w2.cell? ⟨sb, 0, none⟩ = some (.slice A n c) := S2.bk.cell 0
    obtain ⟨lo, HLO⟩ : ∃ x, Hid (lowN es pk = x) := ⟨_, rfl⟩
    obtain ⟨hb, HHB⟩ : ∃ x, Hid (hasB es pk = x) := ⟨_, rfl⟩
    rw [HLO.out, HHB.out]
    have HS2 := Lib.hid S2
    have HB2 := Lib.hid B2
    have e2 := e1.trans hb2
    have hpk0 : putK es ⟨pk, pv, pg⟩ = if 200 < pv.size ∨ (hb = false ∧ 60 ≤ n) then 4 else 0 := by
      rw [← HHB.out, ← HX.out]
      unfold putK
      rw [if_neg (not_not_intro HK.out)]
    have HPK0 := Lib.hid hpk0
    clear S2 B2 cw0 cw1 HB1 HP0 HS0 HS HR hpk0
    by_cases hfull : 200 < pv.size ∨ (hb = false ∧ 60 ≤ n)
    · have hpk : putK es ⟨pk, pv, pg⟩ = 4 := by rw [HPK0.out, if_pos hfull]
      have hsl : storeL es ⟨pk, pv, pg⟩ = es := if_neg (by rw [hpk]; decide)
      have HPK := Lib.hid hpk
      have HSL := Lib.hid hsl
      clear hpk hsl HPK0
      have HE2 : Hid (∃ v', StAt w2 B sb v' (storeL es ⟨pk, pv, pg⟩) ∧ Chg w w2 (fun k => k = sb ∨ (Value.slice A n c).ownBlock = some k) ∧ (∀ g, v'.ownBlock = some g → (Value.slice A n c).ownBlock = some g ∨ w.heap.size ≤ g)) := ⟨_, by rw [HSL.out]; exact HS2.out, e2.chg _, fun g hg => .inl hg⟩
      by_cases hv : 200 < pv.size
      · have hvi : (200 : Int) < (pv.size : Int) := by omega
        clear hfull
        go_wp2_with fail
        go_ret
        exact ⟨by rw [HPK.out]; rfl, HE2.out⟩
      · obtain ⟨rfl, h60⟩ := hfull.resolve_left hv
        have hvi : ¬ (200 : Int) < (pv.size : Int) := by omega
        have hni : (60 : Int) ≤ (n : Int) := by omega
        clear hfull
        go_wp2_with fail
        go_ret
        exact ⟨by rw [HPK.out]; rfl, HE2.out⟩
    · have hpk : putK es ⟨pk, pv, pg⟩ = 0 := by rw [HPK0.out, if_neg hfull]
      have hv : pv.size ≤ 200 := Nat.le_of_not_lt fun h => hfull (.inl h)
      have hvi : ¬ (200 : Int) < (pv.size : Int) := by omega
      have hsl : storeL es ⟨pk, pv, pg⟩ = putL es ⟨pk, pv, pg⟩ := if_pos hpk
      have hok : PrOk ⟨pk, pv, pg⟩ := ⟨HK.out, hv, HP.out⟩
      have HOK := Lib.hid hok
      have HPK := Lib.hid hpk
      have HSL := Lib.hid hsl
      clear hpk HPK0 hok hsl
      cases hb with
      | true =>
        clear hfull
        obtain ⟨q, hq, hqk⟩ := has_get HHB.out
        rw [HLO.out] at hq
        have hlo : lo < n := by rw [← HX.out]; exact (List.getElem?_eq_some_iff.1 hq).1
        obtain ⟨g, rfl⟩ : ∃ g, A = some ⟨g, 0, none⟩ := by
          rcases HS2.out.own.2 with ⟨h1, h2⟩ | ⟨g, cap, cur, h1, _⟩
          · have := HX.out; omega
          · injection h1 with h1; exact ⟨g, h1⟩
        have ho := HS2.out.own
        rw [HX.out] at ho
        have q0 : w2.cell? ⟨g, lo * 3, none⟩ = some (.string q.key) := (ho.cellAt (lo * 3) (by omega)).trans (flat_nthP (f := Pr.cells) (k := 3) (fun _ => rfl) es lo q 0 hq (by omega))
        have q1 : w2.cell? ⟨g, lo * 3 + 1, none⟩ = some (.string q.value) := (ho.cellAt (lo * 3 + 1) (by omega)).trans (flat_nthP (f := Pr.cells) (k := 3) (fun _ => rfl) es lo q 1 hq (by omega))
        have q2 : w2.cell? ⟨g, lo * 3 + 2, none⟩ = some (.bool q.gone) := (ho.cellAt (lo * 3 + 2) (by omega)).trans (flat_nthP (f := Pr.cells) (k := 3) (fun _ => rfl) es lo q 2 hq (by omega))
        have f0 := ho.frozenAt (lo * 3)
        have f1 := ho.frozenAt (lo * 3 + 1)
        have f2 := ho.frozenAt (lo * 3 + 2)
        have hgs : g ≠ sb := fun e => own_type ho HS2.out.bk (by decide) (by rw [e]; rfl)
        have hgb : g ≠ w.heap.size := fun e => by
          have h3 := HH.out.own.lt g rfl
          omega
        have HO3 := Lib.hid ho
        clear hq hqk ho
        have hpl : putL es ⟨pk, pv, pg⟩ = es.set lo ⟨pk, pv, pg⟩ := by unfold putL; rw [if_pos HHB.out, HLO.out]
        have HPL := Lib.hid hpl
        clear hpl
        go_wp2_with fail
        go_region
        all_goals
          go_wp2_with fail
          go_ret
          refine ⟨by rw [HPK.out]; rfl, .slice (some ⟨g, 0, none⟩) n c, ?_, ?_, fun g' hg' => .inl hg'⟩
          · rw [HSL.out, HPL.out]
            exact (HS2.out.set3 (p := ⟨pk, pv, pg⟩) HX.out hlo HOK.out (by rw [← HPL.out]; exact putL_asc HO.out _)).1.drew
          · exact (e2.chg _).trans (gb_chg (gb_drew (HS2.out.set3 (p := ⟨pk, pv, pg⟩) HX.out hlo HOK.out (by rw [← HPL.out]; exact putL_asc HO.out _)).2)) fun x _ hx => .inr hx
      | false =>
        have hni : ¬ (60 : Int) ≤ (n : Int) := fun h => hfull (.inr ⟨rfl, by omega⟩)
        have hlo : lo ≤ n := by rw [← HX.out, ← HLO.out]; exact lowN_le _ _
        have hsl := HS2.out.bk.lt
        have fr : w2.frozen? ⟨sb, 0, none⟩ = false := HS2.out.bk.frozen 0
        have ho := HS2.out.own
        rw [HX.out] at ho
        have HO3 := Lib.hid ho
        have hne := own_type ho HS2.out.bk (by decide)
        have HNE := Lib.hid hne
        have hin : ∀ W : World, Ext w2 W → Bk W w2.heap.size 31 #[.string pk, .string pv, .bool pg] → Calls Tryz.prog 67 #[.slice A n c, .int .i64 lo, .slice (some ⟨w2.heap.size, 0, none⟩) 1 1] W fun e w' =>
            ∃ g cap, e = .returned (.slice (some ⟨g, 0, none⟩) (n + 1) cap) ∧ w'.ownsRow B 31 3 (.slice (some ⟨g, 0, none⟩) (n + 1) cap) (n + 1) ((insL es lo ⟨pk, pv, pg⟩).flatMap Pr.cells) ∧ W.grownBy w' (Value.slice A n c).ownBlock ∧ ((Value.slice A n c).ownBlock = some g ∨ W.heap.size ≤ g) ∧ w'.cell? ⟨sb, 0, none⟩ = some (.slice A n c) ∧ w'.frozen? ⟨sb, 0, none⟩ = false ∧ Bk w' sb 122 #[.slice A n c] := fun W hW hBk => by
          refine (Insert_own B n lo w2.heap.size (.slice A n c) (es.flatMap Pr.cells) #[.string pk, .string pv, .bool pg] W hlo (by omega) (Nat.le_trans hB (Nat.le_trans e2.size hW.size)) (own_ext HO3.out hW) rfl hBk ?_ (cells_one es) ?_).mono ?_
          · intro e'
            have := (HO3.out.lt _ e').2
            omega
          · intro u hu
            simp at hu
            rcases hu with rfl | rfl | rfl <;> rfl
          · rintro e w' ⟨g, cap, he, ho, hg, hH⟩
            have hbk := (HS2.out.bk.ext hW).kept hg HNE.out
            exact ⟨g, cap, he, by rw [← cells_ins]; exact ho, hg, hH, hbk.cell 0, hbk.frozen 0, hbk⟩
        have HIN := Lib.hid hin
        have hpl : putL es ⟨pk, pv, pg⟩ = insL es lo ⟨pk, pv, pg⟩ := by unfold putL; rw [if_neg (by rw [HHB.out]; decide), HLO.out]
        have hil : (insL es lo ⟨pk, pv, pg⟩).length = n + 1 := by rw [ins_len (by rw [HX.out]; exact hlo), HX.out]
        have HPL := Lib.hid hpl
        have HIL := Lib.hid hil
        clear hfull ho hne hin hpl hil
        go_wp2_with fail
        go_region_with (go_at_call 67; (with_reducible refine (HIN.out _ (by (repeat (with_reducible first | exact Ext.refl _ | assumption | refine Ext.drew ?_ | refine Ext.drewN ?_ _ | refine Ext.alloc ?_ _ | refine Ext.trans ?_ (by with_reducible assumption)))) (by (repeat (with_reducible first | assumption | (refine Bk.at_ _ _ _ _ ?_; simp; done) | refine Bk.drew ?_ | refine Bk.drewN ?_ _ | refine Bk.alloc ?_ _ | refine Bk.ext ?_ (by with_reducible assumption))))).mono ?_); rintro _ w6 ⟨g, cap, rfl, own6, hg6, hH6, n1, n2, bk6⟩)
        all_goals
          go_wp2_with fail
          go_ret
          refine ⟨by rw [HPK.out]; rfl, .slice (some ⟨g, 0, none⟩) (n + 1) cap, ?_, ?_, fun g' hg' => ?_⟩
          · rw [HSL.out, HPL.out]
            refine ⟨bk6.set_ 0 _, ?_, HS2.out.lo, ?_, ?_, ?_⟩
            · rw [HIL.out]
              exact own6.kept (gb_set w6 sb 0 _) (.inr (own_type own6 bk6 (by decide)))
            · rw [← HPL.out]; exact putL_asc HO.out _
            · rw [HIL.out]; omega
            · intro q hq
              rw [← HPL.out] at hq
              rcases putL_mem HO.out _ hq with rfl | hq
              · exact HOK.out
              · exact HS2.out.ok q hq
          · have g1 : Chg w2 w6 (fun k => (Value.slice A n c).ownBlock = some k) := ((show Ext w2 (w2.alloc (.cells #[.string pk, .string pv, .bool pg] 31)).drew from ((Ext.refl _).alloc _).drew).chg _).trans (gb_chg hg6) fun x _ hx => hx
            have g2 : Chg w2 (w6.setCell ⟨sb, 0, none⟩ (.slice (some ⟨g, 0, none⟩) (n + 1) cap)) (fun k => k = sb ∨ (Value.slice A n c).ownBlock = some k) := (g1.mono (T := fun k => k = sb ∨ (Value.slice A n c).ownBlock = some k) fun x _ hx => .inr hx).trans (gb_chg (gb_set w6 sb 0 _)) fun x _ hx => .inl (by injection hx with hx; exact hx.symm)
            exact (e2.chg _).trans g2 fun x _ hx => hx
          · injection hg' with hg'
            subst hg'
            exact hH6.imp id (fun h => by
              have h5 : w2.heap.size ≤ (w2.alloc (.cells #[.string pk, .string pv, .bool pg] 31)).drew.heap.size := (show Ext w2 (w2.alloc (.cells #[.string pk, .string pv, .bool pg] 31)).drew from ((Ext.refl _).alloc _).drew).size
              have h6 := e2.size
              show w.heap.size ≤ g
              omega)
  · have HK := Lib.hid (isOk_no hk)
    have hpk : putK es ⟨pk, pv, pg⟩ = keyK pk := if_pos hk
    have hsl : storeL es ⟨pk, pv, pg⟩ = es := if_neg (by rw [hpk]; exact hk)
    have HPK := Lib.hid hpk
    obtain ⟨kk, HKK⟩ : ∃ x, Hid (keyK pk = x) := ⟨_, rfl⟩
    rw [HKK.out] at HK HPK
    have HSL := Lib.hid hsl
    rw [HKK.out]
    have hko := HK.out
    have HH := Lib.hid h
    clear hk hpk hsl h
    go_wp2_with fail
    go_ret
    exact ⟨by rw [HPK.out]; rfl, v, by rw [HSL.out]; exact HH.out.ext e1, e1.chg _, fun g hg => .inl hg⟩
end Go.Proofs.YtcgfdhgceokcnaaGreatDoor
