/- Small laws on worlds and bytes, over any program. -/
import Derived.WalkKit
import Derived.Laws.IdiomStrings
import Derived.Deep.Draws
import Derived.Deep.QuietTactic
import Derived.BigQuiet
import Derived.Laws.Rows
import Derived.Laws.OwnMore
import Derived.Lib.Hide
import Derived.Test.YtelcabjhbgkfmaaDoorPure
namespace Go.Proofs.YtelcabjhbgkfmaaDoor
set_option linter.unusedVariables false
open Go.RowKit

theorem ret_int {k : IntKind} {a b : Int} (h : a = b) : Ending.returned (.int k a) = .returned (.int k b) := by rw [h]
theorem ret_str {a b : ByteArray} (h : a = b) : Ending.returned (.string a) = .returned (.string b) := by rw [h]
theorem ret_bool {a b : Bool} (h : a = b) : Ending.returned (.bool a) = .returned (.bool b) := by rw [h]
theorem ret_two {a b c d : Value} (h : a = c) (k : b = d) : Ending.returned (.tuple #[a, b]) = .returned (.tuple #[c, d]) := by rw [h, k]
theorem ret_three {a b c a' b' c' : Value} (h : a = a') (k : b = b') (l : c = c') : Ending.returned (.tuple #[a, b, c]) = .returned (.tuple #[a', b', c']) := by rw [h, k, l]
theorem ret_val {a b : Value} (h : a = b) : Ending.returned a = .returned b := by rw [h]

/-! ### What a call leaves: new blocks alone -/
def Ext (w w' : World) : Prop := Below w.heap.size w w'
section
variable {a b c w w' : World}
theorem Ext.refl (w : World) : Ext w w := Below.refl _ _
theorem Ext.size (h : Ext a b) : a.heap.size ≤ b.heap.size := Below.size h
theorem Ext.trans (h : Ext a b) (k : Ext b c) : Ext a c := Below.trans h (Below.mono k h.size)
theorem Ext.alloc (h : Ext a b) (o : Obj) : Ext a (b.alloc o) := Below.alloc h h.size o
theorem Ext.drew (h : Ext a b) : Ext a b.drew := Below.drew h
theorem Ext.drewN (h : Ext a b) (n : Nat) : Ext a (b.drewN n) := ⟨h.os, h.tape, h.output, h.size, h.block⟩
theorem Ext.setCell (h : Ext a b) {p : Addr} (hp : a.heap.size ≤ p.block) (u : Value) : Ext a (b.setCell p u) := Below.setCell h hp u
theorem Ext.grown (h : Ext a b) {row : Option Nat} (hg : b.grownBy c row) (hr : ∀ k, row = some k → a.heap.size ≤ k) : Ext a c := Below.grown h hg h.size hr
theorem Ext.cell (h : Ext a b) {p : Addr} (hp : p.block < a.heap.size) : b.cell? p = a.cell? p := Below.cell h hp
theorem Ext.frozen (h : Ext a b) {p : Addr} (hp : p.block < a.heap.size) : b.frozen? p = a.frozen? p := Below.frozen h hp
theorem Ext.below (h : Ext a b) : Below a.heap.size a b := h
theorem Ext.rules (h : Ext a b) : (∀ x o, x < a.heap.size → b.cell? ⟨x, o, none⟩ = a.cell? ⟨x, o, none⟩) ∧ (∀ x o, x < a.heap.size → b.frozen? ⟨x, o, none⟩ = a.frozen? ⟨x, o, none⟩) :=
  ⟨fun x o hx => h.cell (p := ⟨x, o, none⟩) hx, fun x o hx => h.frozen (p := ⟨x, o, none⟩) hx⟩
theorem Ext.lt (h : Ext a b) {n : Nat} (hn : n < a.heap.size) : n < b.heap.size := Nat.lt_of_lt_of_le hn h.size
end

/-! ### A block that is known whole -/
def Bk (w : World) (g : Nat) (t : TypeId) (cs : Array Value) : Prop := w.heap[g]? = some (.cells cs t (0, 0))
section
variable {w w' : World} {g : Nat} {t : TypeId} {cs : Array Value}
theorem Bk.lt (h : Bk w g t cs) : g < w.heap.size := by
  rcases Nat.lt_or_ge g w.heap.size with hlt | hge
  · exact hlt
  · unfold Bk at h; rw [Array.getElem?_eq_none hge] at h; cases h
theorem Bk.cell (h : Bk w g t cs) (i : Nat) : w.cell? ⟨g, i, none⟩ = cs[i]? := cell_of_row w g i cs t (0, 0) h
theorem Bk.frozen (h : Bk w g t cs) (i : Nat) : w.frozen? ⟨g, i, none⟩ = false := by
  unfold Bk at h
  simp [World.frozen?, h]
theorem Bk.at_ (w : World) (t : TypeId) (cs : Array Value) (n : Nat) (hn : n = w.heap.size) : Bk (w.alloc (.cells cs t)) n t cs := by subst hn; exact heap_alloc_new w _
theorem Bk.drew (h : Bk w g t cs) : Bk w.drew g t cs := h
theorem Bk.drewN (h : Bk w g t cs) (n : Nat) : Bk (w.drewN n) g t cs := h
theorem Bk.alloc (h : Bk w g t cs) (o : Obj) : Bk (w.alloc o) g t cs := (Below.heap_alloc w o g h.lt).trans h
theorem Bk.ext (h : Bk w g t cs) (e : Ext w w') : Bk w' g t cs := (Below.block e g h.lt).trans h
theorem Bk.set_ (h : Bk w g t cs) (i : Nat) (u : Value) : Bk (w.setCell ⟨g, i, none⟩ u) g t (cs.setIfInBounds i u) := by
  unfold Bk at h ⊢
  simp [World.setCell, Array.getElem?_modify, h]
theorem Bk.far (h : Bk w g t cs) {p : Addr} (hp : g ≠ p.block) (u : Value) : Bk (w.setCell p u) g t cs := (Below.heap_setCell w p u g hp).trans h
end

/-! ### A slice that reads as a list of cells -/
theorem blk_add (a : Addr) (n : Nat) : (a.add n).block = a.block := by unfold Addr.add; split <;> rfl
theorem add_add' (a : Addr) (i j : Nat) : (a.add i).add j = a.add (i + j) := by
  unfold Addr.add
  by_cases hi : i = 0 <;> by_cases hj : j = 0 <;> simp [hi, hj, Nat.add_assoc]
theorem add_mk (b o i : Nat) : (⟨b, o, none⟩ : Addr).add i = ⟨b, o + i, none⟩ := by
  unfold Addr.add; split <;> simp_all

/-- slice value '.slice A n c' holds the cells xs ('size' a piece), all of them old -/
def Rd (w : World) (size : Nat) (A : Option Addr) (n c : Nat) (xs : List Value) : Prop :=
  xs.length = n * size ∧ n ≤ c ∧ (0 < n → ∃ ad, A = some ad ∧ ad.block < w.heap.size ∧ ∀ j u, xs[j]? = some u → w.cell? (ad.add j) = some u)
section
variable {w w' : World} {size n c : Nat} {A : Option Addr} {xs : List Value}
theorem Rd.nil (w : World) (size c : Nat) (A : Option Addr) : Rd w size A 0 c [] := ⟨by simp, Nat.zero_le _, fun h => absurd h (by omega)⟩
theorem Rd.ext (h : Rd w size A n c xs) (hb : Ext w w') : Rd w' size A n c xs :=
  ⟨h.1, h.2.1, fun hn => by
    obtain ⟨ad, e, hl, hc⟩ := h.2.2 hn
    exact ⟨ad, e, hb.lt hl, fun j u hu => (hb.cell (by rw [blk_add]; exact hl)).trans (hc j u hu)⟩⟩
theorem Rd.at_ (h : Rd w size A n c xs) {j : Nat} {u : Value} (hu : xs[j]? = some u) : ∃ ad, A = some ad ∧ ad.block < w.heap.size ∧ w.cell? (ad.add j) = some u := by
  have hn : 0 < n := by
    rcases Nat.eq_zero_or_pos n with h0 | h0
    · have h1 := h.1
      subst h0
      have : xs = [] := List.eq_nil_of_length_eq_zero (by simpa using h1)
      subst this
      simp at hu
    · exact h0
  obtain ⟨ad, e, hl, hc⟩ := h.2.2 hn
  exact ⟨ad, e, hl, hc j u hu⟩
/-- the cut 's[k:]': the model keeps the old address where nothing is left of the capacity -/
theorem Rd.drop (h : Rd w size A n c xs) {k : Nat} (hk : k ≤ n) : Rd w size (if c = k then A else A.map (·.add (k * size))) (n - k) (c - k) (xs.drop (k * size)) := by
  refine ⟨by rw [List.length_drop, h.1, Nat.sub_mul], by have := h.2.1; omega, fun hn => ?_⟩
  obtain ⟨ad, rfl, hb, hcell⟩ := h.2.2 (by omega)
  rw [if_neg (by have := h.2.1; omega)]
  refine ⟨ad.add (k * size), rfl, by rw [blk_add]; exact hb, fun j u hu => ?_⟩
  rw [add_add']
  exact hcell _ u (by rw [← hu, List.getElem?_drop])
theorem Rd.take (h : Rd w size A n c xs) {k : Nat} (hk : k ≤ n) : Rd w size A k c (xs.take (k * size)) := by
  refine ⟨?_, by have := h.2.1; omega, fun hn => ?_⟩
  · rw [List.length_take, h.1, Nat.min_eq_left (Nat.mul_le_mul_right _ hk)]
  · obtain ⟨ad, rfl, hb, hcell⟩ := h.2.2 (by omega)
    refine ⟨ad, rfl, hb, fun j u hu => hcell j u ?_⟩
    rw [List.getElem?_take] at hu
    split at hu
    · exact hu
    · cases hu
end

theorem size_mk (l : List UInt8) : (⟨l.toArray⟩ : ByteArray).size = l.length := rfl
theorem size_cat (a b : ByteArray) : (a ++ b).size = a.size + b.size := ByteArray.size_append
theorem toList_mk (l : List UInt8) : (⟨l.toArray⟩ : ByteArray).data.toList = l := by simp
theorem toList_cat (a b : ByteArray) : (a ++ b).data.toList = a.data.toList ++ b.data.toList := by rw [ByteArray.data_append, Array.toList_append]
theorem mk_toList (s : ByteArray) : (⟨s.data.toList.toArray⟩ : ByteArray) = s := by cases s; rfl
theorem size_toList (s : ByteArray) : s.data.toList.length = s.size := rfl
theorem add_zero' (a : Addr) : a.add 0 = a := by unfold Addr.add; rw [if_pos rfl]
section
variable {w w' : World} {n c : Nat} {A : Option Addr} {xs : List Int} {ss : List ByteArray}
theorem Rd.drew {size : Nat} {l : List Value} (h : Rd w size A n c l) : Rd w.drew size A n c l := h
theorem Rd.takeI (h : Rd w 1 A n c (xs.map (Value.int .i64))) {k : Nat} (hk : k ≤ n) : Rd w 1 A k c ((xs.take k).map (Value.int .i64)) := by
  have := h.take hk
  rwa [Nat.mul_one, ← List.map_take] at this
theorem Rd.dropI (h : Rd w 1 A n c (xs.map (Value.int .i64))) {k : Nat} (hk : k ≤ n) : Rd w 1 (if c = k then A else A.map (fun x => x.add k)) (n - k) (c - k) ((xs.drop k).map (Value.int .i64)) := by
  have := h.drop hk
  rwa [Nat.mul_one, ← List.map_drop] at this
theorem Rd.dropI' (h : Rd w 1 A n c (xs.map (Value.int .i64))) {k : Nat} (hk : k < n) : Rd w 1 (A.map (fun x => x.add k)) (n - k) (c - k) ((xs.drop k).map (Value.int .i64)) := by
  have := h.dropI (k := k) (by omega)
  rwa [if_neg (by have := h.2.1; omega)] at this
theorem Rd.lenI (h : Rd w 1 A n c (xs.map (Value.int .i64))) : xs.length = n := by simpa using h.1
theorem Rd.getI (h : Rd w 1 A n c (xs.map (Value.int .i64))) {j : Nat} {z : Int} (hz : xs[j]? = some z) : ∃ ad, A = some ad ∧ ad.block < w.heap.size ∧ w.cell? (ad.add j) = some (.int .i64 z) :=
  h.at_ (by rw [List.getElem?_map, hz]; rfl)
theorem Rd.takeS (h : Rd w 1 A n c (ss.map Value.string)) {k : Nat} (hk : k ≤ n) : Rd w 1 A k c ((ss.take k).map Value.string) := by
  have := h.take hk
  rwa [Nat.mul_one, ← List.map_take] at this
theorem Rd.dropS (h : Rd w 1 A n c (ss.map Value.string)) {k : Nat} (hk : k ≤ n) : Rd w 1 (if c = k then A else A.map (fun x => x.add k)) (n - k) (c - k) ((ss.drop k).map Value.string) := by
  have := h.drop hk
  rwa [Nat.mul_one, ← List.map_drop] at this
theorem Rd.dropS' (h : Rd w 1 A n c (ss.map Value.string)) {k : Nat} (hk : k < n) : Rd w 1 (A.map (fun x => x.add k)) (n - k) (c - k) ((ss.drop k).map Value.string) := by
  have := h.dropS (k := k) (by omega)
  rwa [if_neg (by have := h.2.1; omega)] at this
theorem Rd.lenS (h : Rd w 1 A n c (ss.map Value.string)) : ss.length = n := by simpa using h.1
theorem Rd.getS (h : Rd w 1 A n c (ss.map Value.string)) {j : Nat} {z : ByteArray} (hz : ss[j]? = some z) : ∃ ad, A = some ad ∧ ad.block < w.heap.size ∧ w.cell? (ad.add j) = some (.string z) :=
  h.at_ (by rw [List.getElem?_map, hz]; rfl)
end

theorem foldl_push_bytes : ∀ (l : List Int) (r : ByteArray), l.foldl (fun r n => r.push (UInt8.ofNat n.toNat)) r = ⟨r.data ++ (l.map byteOf).toArray⟩
  | [], r => by simp
  | b :: l, r => by
    simp only [List.map_cons, List.foldl_cons]
    rw [foldl_push_bytes l]
    simp [ByteArray.push, byteOf]

section
variable {P : Program}
/-- 'string(b)' of any bytes that lie at an address -/
theorem run_conv_cells (w : World) (src dst e : TypeId) (a : Addr) (cap : Nat) (l : List Int) (hs : P.underlying src = some (.slice e)) (he : P.underlying e = some (.int .u8)) (hd : P.underlying dst = some .string)
    (hc : ∀ j u, (l.map (Value.int .u8))[j]? = some u → w.cell? (a.add j) = some u) :
    (convert src dst (.slice (some a) l.length cap)).run P w = .ok (.string ⟨(l.map byteOf).toArray⟩) w := by
  rw [run_convert_bytes_string w src dst e (some a) l.length cap hs he hd]
  have hl := run_loadCells_list (P := P) w a (l.map (Value.int .u8)) hc
  simp only [List.length_map] at hl
  rw [run_bytesToString w a l.length cap _ hl, foldl_push_bytes]
  have he0 : ByteArray.empty.data = #[] := rfl
  rw [he0]
  simp

theorem run_conv_new (w : World) (g : Nat) (hg : g = w.heap.size) (src dst e : TypeId) (cap : Nat) (l : List Int) (hs : P.underlying src = some (.slice e)) (he : P.underlying e = some (.int .u8)) (hd : P.underlying dst = some .string) :
    (convert src dst (.slice (some ⟨g, 0, none⟩) l.length cap)).run P (w.alloc (.cells (l.map (Value.int .u8)).toArray e)) = .ok (.string ⟨(l.map byteOf).toArray⟩) (w.alloc (.cells (l.map (Value.int .u8)).toArray e)) := by
  subst hg
  refine run_conv_cells _ src dst e _ cap l hs he hd fun j u hu => ?_
  have : (⟨w.heap.size, 0, none⟩ : Addr).add j = ⟨w.heap.size, j, none⟩ := by
    unfold Addr.add; split <;> simp_all
  rw [this, World.cell?_alloc_new]
  simpa using hu
end
end Go.Proofs.YtelcabjhbgkfmaaDoor
