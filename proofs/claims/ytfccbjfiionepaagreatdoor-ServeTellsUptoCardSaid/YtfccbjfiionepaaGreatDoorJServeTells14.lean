/- fork: both, split, Proves. -/
import Derived.Test.YtfccbjfiionepaaGreatDoorJServeTells11
import Derived.Test.YtfccbjfiionepaaGreatDoorJServeTells13
import Derived.Test.YtfccbjfiionepaaGreatDoorJServeTells2
import Derived.Test.YtfccbjfiionepaaGreatDoorJServeTells10
import Derived.Test.YtfccbjfiionepaaGreatDoorJServeTells4
import Derived.Test.YtfccbjfiionepaaGreatDoorJServeTells0
import Derived.Deep.RegionHeld3
import Derived.Deep.DrawnRows
namespace Go.Proofs.YtfccbjfiionepaaGreatDoor
open Go.RowKit Go.WideShapes
set_option linter.unusedVariables false
attribute [local go_sem ↓] Go.wp_at_zero Go.wp_at_succ

def bothK (a b : Hd) (key : Int) : Int := if verK a key ≠ 0 then verK a key else verK b key
def splB (a b : Hd) : Bool := decide (a.size = b.size) && !decide (a.root = b.root)

def prvB (a b : Hd) (key : Int) : Bool := isOk (bothK a b key) && splB a b
end Go.Proofs.YtfccbjfiionepaaGreatDoor

/- fork.Check. -/
namespace Go.Proofs.YtfccbjfiionepaaGreatDoor
open Go.RowKit Go.WideShapes
set_option linter.unusedVariables false
attribute [local go_sem ↓] Go.wp_at_zero Go.wp_at_succ

def chkX (a b : Hd) (bk gk : Int) (n : Nat) : Bool × Int :=
  if bk ≠ 0 then (false, bk)
  else if b.size < a.size then (false, 3)
  else if a.size = b.size then (if 0 < n then (false, 3) else (decide (a.root = b.root), 0))
  else if a.size = 0 ∧ 0 < b.size then (true, 0)
  else if gk = 8 then (false, 0) else (isOk gk, gk)
def chk (a b : Hd) (key : Int) (ps : List Int) : Bool × Int := chkX a b (bothK a b key) (gcheck a.root a.size b.root b.size ps) ps.length

set_option maxRecDepth 100000 in
theorem as_nil (v : Value) (w : World) :
    Calls Tryz.prog 111 #[.nilIface, v] w fun ev w' => ev = .returned (.bool false) ∧ Ext w w' := by
  go_enter Tryz.func111, Tryz.ntmps111
  go_wp2_with fail
  go_ret
  exact ⟨rfl, by (repeat (with_reducible first | exact Ext.refl _ | assumption | refine Ext.drew ?_ | refine Ext.drewN ?_ _ | refine Ext.alloc ?_ _ | refine Ext.trans ?_ (by with_reducible assumption)))⟩

end Go.Proofs.YtfccbjfiionepaaGreatDoor

/- fork.Find, plain: the first two that split. -/
namespace Go.Proofs.YtfccbjfiionepaaGreatDoor
set_option linter.unusedVariables false

/-- the first head's fault -/
def verL (key : Int) : List Hd → Int
  | [] => 0
  | h :: l => if verK h key = 0 then verL key l else verK h key
theorem verL_ok {key : Int} {l : List Hd} (h : ∀ x ∈ l, verK x key = 0) : verL key l = 0 := by
  induction l with
  | nil => rfl
  | cons x l ih => rw [verL, if_pos (h x (by simp)), ih fun e he => h e (by simp [he])]
theorem verL_at {key : Int} {l : List Hd} {j : Nat} {x : Hd} (hx : l[j]? = some x) (hk : verK x key ≠ 0) (h : ∀ (i : Nat) (y : Hd), i < j → l[i]? = some y → verK y key = 0) : verL key l = verK x key := by
  induction l generalizing j with
  | nil => simp at hx
  | cons y l ih =>
    rcases j with _ | j
    · obtain rfl : y = x := by simpa using hx
      rw [verL, if_neg hk]
    · rw [verL, if_pos (h 0 y (by omega) rfl)]
      exact ih (by simpa using hx) fun i z hi hz => h (i + 1) z (by omega) (by simpa using hz)
/-- do the i-th and the k-th split? -/
def spAt (l : List Hd) (i k : Nat) : Bool := match l[i]?, l[k]? with
  | some a, some b => splB a b
  | _, _ => false
/-- the first i of n, from i on -/
def fI (l : List Hd) (k : Nat) : Nat → Nat → Option Nat
  | 0, i => none
  | n + 1, i => if spAt l i k then some i else fI l k n (i + 1)
/-- the first pair of n rows, from row k on -/
def fK (l : List Hd) : Nat → Nat → Option (Nat × Nat)
  | 0, k => none
  | n + 1, k => match fI l k k 0 with
    | some i => some (i, k)
    | none => fK l n (k + 1)
def pairV : Option (Nat × Nat) → Int × Int × Int
  | some (i, k) => (i, k, 0)
  | none => (0, 0, 5)
def findX (l : List Hd) (key : Int) (n : Nat) : Int × Int × Int :=
  if 20 < n then (0, 0, 4) else if verL key l ≠ 0 then (0, 0, verL key l) else pairV (fK l n 0)
def findV (l : List Hd) (key : Int) : Int × Int × Int := findX l key l.length
theorem fI_some {l : List Hd} {k : Nat} : ∀ {n i j : Nat}, i ≤ j → j < i + n → spAt l j k = true → (∀ m, i ≤ m → m < j → spAt l m k = false) → fI l k n i = some j
  | 0, i, j, h, h2, _, _ => by omega
  | n + 1, i, j, h, h2, h3, h4 => by
    by_cases he : i = j
    · subst he; rw [fI, if_pos h3]
    · rw [fI, if_neg (by rw [h4 i (Nat.le_refl _) (by omega)]; decide)]
      exact fI_some (by omega) (by omega) h3 fun m a b => h4 m (by omega) b
theorem fI_none {l : List Hd} {k : Nat} : ∀ {n i : Nat}, (∀ m, i ≤ m → m < i + n → spAt l m k = false) → fI l k n i = none
  | 0, i, _ => rfl
  | n + 1, i, h => by
    rw [fI, if_neg (by rw [h i (Nat.le_refl _) (by omega)]; decide)]
    exact fI_none fun m a b => h m (by omega) (by omega)
theorem fK_some {l : List Hd} {i : Nat} : ∀ {n k q : Nat}, k ≤ q → q < k + n → fI l q q 0 = some i → (∀ m, k ≤ m → m < q → fI l m m 0 = none) → fK l n k = some (i, q)
  | 0, k, q, h, h2, _, _ => by omega
  | n + 1, k, q, h, h2, h3, h4 => by
    by_cases he : k = q
    · subst he; simp [fK, h3]
    · rw [fK, h4 k (Nat.le_refl _) (by omega)]
      exact fK_some (by omega) (by omega) h3 fun m a b => h4 m (by omega) b
theorem fK_none {l : List Hd} : ∀ {n k : Nat}, (∀ m, k ≤ m → m < k + n → fI l m m 0 = none) → fK l n k = none
  | 0, k, _ => rfl
  | n + 1, k, h => by
    rw [fK, h k (Nat.le_refl _) (by omega)]
    exact fK_none fun m a b => h m (by omega) (by omega)
end Go.Proofs.YtfccbjfiionepaaGreatDoor

/- fork.Find, walked. -/
namespace Go.Proofs.YtfccbjfiionepaaGreatDoor
open Go.RowKit Go.WideShapes
set_option linter.unusedVariables false
attribute [local go_sem ↓] Go.wp_at_zero Go.wp_at_succ

theorem spAt_eq {l : List Hd} {i k : Nat} {a b : Hd} (h1 : l[i]? = some a) (h2 : l[k]? = some b) : spAt l i k = splB a b := by unfold spAt; rw [h1, h2]
/-- a cell of a row, in every world beyond -/
theorem WE.row {w : World} {p : Addr} {v : Value} (h : w.cell? p = some v) (hl : p.block < w.heap.size) (x : WE w) : x.W.cell? p = some v := (x.h.cell hl).trans h

end Go.Proofs.YtfccbjfiionepaaGreatDoor

namespace Go.Proofs.YtfccbjfiionepaaGreatDoor
open Go.RowKit
set_option linter.unusedVariables false
attribute [local go_sem ↓] Go.wp_at_zero Go.wp_at_succ

/-- which fault an entry has -/
def Ent.ok (e : Ent) : Prop := 0 ≤ e.time ∧ e.time ≤ 1000000 ∧ e.data.size ≤ 200
def Ent.err (e : Ent) : Int := if e.time < 0 ∨ 1000000 < e.time then 1 else 4
instance (e : Ent) : Decidable e.ok := by unfold Ent.ok; infer_instance

theorem eCheck_ok (t : Int) (s : ByteArray) (w : World) (h : (⟨t, s⟩ : Ent).ok) :
    Calls Tryz.prog 87 #[.agg #[.int .i64 t, .string s]] w fun e w' => e = .returned .nilIface ∧ Ext w w' := by
  obtain ⟨h0, h1, h2⟩ := h
  dsimp only at h0 h1 h2
  go_enter Tryz.func87, Tryz.ntmps87
  go_wp2
  go_ret
  exact ⟨rfl, by (repeat (with_reducible first | exact Ext.refl _ | assumption | refine Ext.drew ?_ | refine Ext.drewN ?_ _ | refine Ext.alloc ?_ _ | refine Ext.trans ?_ (by with_reducible assumption)))⟩
theorem eCheck_bad (t : Int) (s : ByteArray) (w : World) (h : ¬ (⟨t, s⟩ : Ent).ok) :
    Calls Tryz.prog 87 #[.agg #[.int .i64 t, .string s]] w fun e w' => e = .returned (errV (⟨t, s⟩ : Ent).err) ∧ Ext w w' := by
  have h' : (t < 0) ∨ (0 ≤ t ∧ 1000000 < t) ∨ (0 ≤ t ∧ t ≤ 1000000 ∧ 200 < s.size) := by
    unfold Ent.ok at h
    dsimp only at h
    omega
  clear h
  rcases h' with h | ⟨h, h'⟩ | ⟨h, h', h''⟩
  · have HE : Hid ((⟨t, s⟩ : Ent).err = 1) := by show Ent.err _ = 1; unfold Ent.err; rw [if_pos (by dsimp only; omega)]
    go_enter Tryz.func87, Tryz.ntmps87
    go_wp2
    go_ret
    exact ⟨by rw [HE.out]; rfl, by (repeat (with_reducible first | exact Ext.refl _ | assumption | refine Ext.drew ?_ | refine Ext.drewN ?_ _ | refine Ext.alloc ?_ _ | refine Ext.trans ?_ (by with_reducible assumption)))⟩
  · have HE : Hid ((⟨t, s⟩ : Ent).err = 1) := by show Ent.err _ = 1; unfold Ent.err; rw [if_pos (by dsimp only; omega)]
    go_enter Tryz.func87, Tryz.ntmps87
    go_wp2
    go_ret
    exact ⟨by rw [HE.out]; rfl, by (repeat (with_reducible first | exact Ext.refl _ | assumption | refine Ext.drew ?_ | refine Ext.drewN ?_ _ | refine Ext.alloc ?_ _ | refine Ext.trans ?_ (by with_reducible assumption)))⟩
  · have HE : Hid ((⟨t, s⟩ : Ent).err = 4) := by show Ent.err _ = 4; unfold Ent.err; rw [if_neg (by dsimp only; omega)]
    go_enter Tryz.func87, Tryz.ntmps87
    go_wp2
    go_ret
    exact ⟨by rw [HE.out]; rfl, by (repeat (with_reducible first | exact Ext.refl _ | assumption | refine Ext.drew ?_ | refine Ext.drewN ?_ _ | refine Ext.alloc ?_ _ | refine Ext.trans ?_ (by with_reducible assumption)))⟩

/-- an entry's bytes -/
def entH (t : Int) (n : Nat) : List UInt8 := [byteOf (t / 65536 % 256), byteOf (t / 256 % 256), byteOf (t % 256), byteOf ((n : Int) % 256)]
def entB (t : Int) (l : List UInt8) : List UInt8 := entH t l.length ++ l
def Ent.bytes (e : Ent) : ByteArray := (⟨(entH e.time e.data.size).toArray⟩ : ByteArray) ++ e.data
theorem Ent.bytes_list (e : Ent) : e.bytes.data.toList = entB e.time e.data.data.toList := by unfold Ent.bytes; rw [toList_cat]; rfl
theorem Ent.bytes_size (e : Ent) : e.bytes.size = 4 + e.data.size := by unfold Ent.bytes; rw [size_cat]; rfl
theorem extract_tail (l : List UInt8) (s : ByteArray) (k : Nat) (hk : l.length = k) : ((⟨l.toArray⟩ : ByteArray) ++ s).extract k (k + s.size) = s := by
  subst hk
  have h := ByteArray.extract_append_eq_right (a := (⟨l.toArray⟩ : ByteArray)) (b := s) (i := l.length) (j := l.length + s.size) rfl rfl
  exact h
theorem Ent.bytes_tail (e : Ent) : e.bytes.extract 4 (4 + e.data.size) = e.data := extract_tail _ _ 4 rfl
set_option maxRecDepth 100000 in
theorem eBytes_any (t : Int) (s : ByteArray) (w : World) (h0 : 0 ≤ t) (h2 : s.size ≤ 140737488355328) :
    Calls Tryz.prog 37 #[.agg #[.int .i64 t, .string s]] w fun e w' => e = .returned (.string (⟨t, s⟩ : Ent).bytes) ∧ Ext w w' := by
  have hk := conv4
  go_enter Tryz.func37, Tryz.ntmps37
  go_wp2
  go_ret
  exact ⟨rfl, by (repeat (with_reducible first | exact Ext.refl _ | assumption | refine Ext.drew ?_ | refine Ext.drewN ?_ _ | refine Ext.alloc ?_ _ | refine Ext.trans ?_ (by with_reducible assumption)))⟩

end Go.Proofs.YtfccbjfiionepaaGreatDoor
