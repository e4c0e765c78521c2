/- fork: both, split, Proves. -/
import Derived.Test.YtmknpehjncpekaaGreatDoorJMirrorPlays14
import Derived.Test.YtmknpehjncpekaaGreatDoorJMirrorPlays15
import Derived.Test.YtmknpehjncpekaaGreatDoorJMirrorPlays5
import Derived.Test.YtmknpehjncpekaaGreatDoorJMirrorPlays12
import Derived.Test.YtmknpehjncpekaaGreatDoorJMirrorPlays4
namespace Go.Proofs.YtmknpehjncpekaaGreatDoor
open Go.RowKit Go.WideShapes
set_option linter.unusedVariables false
attribute [local go_sem ↓] Go.wp_at_zero Go.wp_at_succ

def bothK (a b : Hd) (key : Int) : Int := if verK a key ≠ 0 then verK a key else verK b key
def splB (a b : Hd) : Bool := decide (a.size = b.size) && !decide (a.root = b.root)

def prvB (a b : Hd) (key : Int) : Bool := isOk (bothK a b key) && splB a b
end Go.Proofs.YtmknpehjncpekaaGreatDoor

/- fork.Check. -/
namespace Go.Proofs.YtmknpehjncpekaaGreatDoor
open Go.RowKit Go.WideShapes
set_option linter.unusedVariables false
attribute [local go_sem ↓] Go.wp_at_zero Go.wp_at_succ

def chkX (a b : Hd) (bk gk : Int) (n : Nat) : Bool × Int :=
  if bk ≠ 0 then (false, bk)
  else if b.size < a.size then (false, 3)
  else if a.size = b.size then (if 0 < n then (false, 3) else (decide (a.root = b.root), 0))
  else if a.size = 0 ∧ 0 < b.size then (true, 0)
  else if gk = 8 then (false, 0) else (isOk gk, gk)
def chk (a b : Hd) (key : Int) (ps : List Int) : Bool × Int := chkX a b (bothK a b key) (gcheck a.root a.size b.root b.size ps) ps.length

set_option maxRecDepth 100000 in
theorem as_nil (v : Value) (w : World) :
    Calls Tryz.prog 36 #[.nilIface, v] w fun ev w' => ev = .returned (.bool false) ∧ Ext w w' := by
  go_enter Tryz.func36, Tryz.ntmps36
  go_wp2_with fail
  go_ret
  exact ⟨rfl, by (repeat (with_reducible first | exact Ext.refl _ | assumption | refine Ext.drew ?_ | refine Ext.drewN ?_ _ | refine Ext.alloc ?_ _ | refine Ext.trans ?_ (by with_reducible assumption)))⟩

end Go.Proofs.YtmknpehjncpekaaGreatDoor

/- fork.Find, plain: the first two that split. -/
namespace Go.Proofs.YtmknpehjncpekaaGreatDoor
set_option linter.unusedVariables false

/-- the first head's fault -/
def verL (key : Int) : List Hd → Int
  | [] => 0
  | h :: l => if verK h key = 0 then verL key l else verK h key
theorem verL_ok {key : Int} {l : List Hd} (h : ∀ x ∈ l, verK x key = 0) : verL key l = 0 := by
  induction l with
  | nil => rfl
  | cons x l ih => rw [verL, if_pos (h x (by simp)), ih fun e he => h e (by simp [he])]
theorem verL_at {key : Int} {l : List Hd} {j : Nat} {x : Hd} (hx : l[j]? = some x) (hk : verK x key ≠ 0) (h : ∀ (i : Nat) (y : Hd), i < j → l[i]? = some y → verK y key = 0) : verL key l = verK x key := by
  induction l generalizing j with
  | nil => simp at hx
  | cons y l ih =>
    rcases j with _ | j
    · obtain rfl : y = x := by simpa using hx
      rw [verL, if_neg hk]
    · rw [verL, if_pos (h 0 y (by omega) rfl)]
      exact ih (by simpa using hx) fun i z hi hz => h (i + 1) z (by omega) (by simpa using hz)
/-- do the i-th and the k-th split? -/
def spAt (l : List Hd) (i k : Nat) : Bool := match l[i]?, l[k]? with
  | some a, some b => splB a b
  | _, _ => false
/-- the first i of n, from i on -/
def fI (l : List Hd) (k : Nat) : Nat → Nat → Option Nat
  | 0, i => none
  | n + 1, i => if spAt l i k then some i else fI l k n (i + 1)
/-- the first pair of n rows, from row k on -/
def fK (l : List Hd) : Nat → Nat → Option (Nat × Nat)
  | 0, k => none
  | n + 1, k => match fI l k k 0 with
    | some i => some (i, k)
    | none => fK l n (k + 1)
def pairV : Option (Nat × Nat) → Int × Int × Int
  | some (i, k) => (i, k, 0)
  | none => (0, 0, 5)
def findX (l : List Hd) (key : Int) (n : Nat) : Int × Int × Int :=
  if 20 < n then (0, 0, 4) else if verL key l ≠ 0 then (0, 0, verL key l) else pairV (fK l n 0)
def findV (l : List Hd) (key : Int) : Int × Int × Int := findX l key l.length
theorem fI_some {l : List Hd} {k : Nat} : ∀ {n i j : Nat}, i ≤ j → j < i + n → spAt l j k = true → (∀ m, i ≤ m → m < j → spAt l m k = false) → fI l k n i = some j
  | 0, i, j, h, h2, _, _ => by omega
  | n + 1, i, j, h, h2, h3, h4 => by
    by_cases he : i = j
    · subst he; rw [fI, if_pos h3]
    · rw [fI, if_neg (by rw [h4 i (Nat.le_refl _) (by omega)]; decide)]
      exact fI_some (by omega) (by omega) h3 fun m a b => h4 m (by omega) b
theorem fI_none {l : List Hd} {k : Nat} : ∀ {n i : Nat}, (∀ m, i ≤ m → m < i + n → spAt l m k = false) → fI l k n i = none
  | 0, i, _ => rfl
  | n + 1, i, h => by
    rw [fI, if_neg (by rw [h i (Nat.le_refl _) (by omega)]; decide)]
    exact fI_none fun m a b => h m (by omega) (by omega)
theorem fK_some {l : List Hd} {i : Nat} : ∀ {n k q : Nat}, k ≤ q → q < k + n → fI l q q 0 = some i → (∀ m, k ≤ m → m < q → fI l m m 0 = none) → fK l n k = some (i, q)
  | 0, k, q, h, h2, _, _ => by omega
  | n + 1, k, q, h, h2, h3, h4 => by
    by_cases he : k = q
    · subst he; simp [fK, h3]
    · rw [fK, h4 k (Nat.le_refl _) (by omega)]
      exact fK_some (by omega) (by omega) h3 fun m a b => h4 m (by omega) b
theorem fK_none {l : List Hd} : ∀ {n k : Nat}, (∀ m, k ≤ m → m < k + n → fI l m m 0 = none) → fK l n k = none
  | 0, k, _ => rfl
  | n + 1, k, h => by
    rw [fK, h k (Nat.le_refl _) (by omega)]
    exact fK_none fun m a b => h m (by omega) (by omega)
end Go.Proofs.YtmknpehjncpekaaGreatDoor

/- fork.Find, walked. -/
namespace Go.Proofs.YtmknpehjncpekaaGreatDoor
open Go.RowKit Go.WideShapes
set_option linter.unusedVariables false
attribute [local go_sem ↓] Go.wp_at_zero Go.wp_at_succ

theorem spAt_eq {l : List Hd} {i k : Nat} {a b : Hd} (h1 : l[i]? = some a) (h2 : l[k]? = some b) : spAt l i k = splB a b := by unfold spAt; rw [h1, h2]
/-- a cell of a row, in every world beyond -/
theorem WE.row {w : World} {p : Addr} {v : Value} (h : w.cell? p = some v) (hl : p.block < w.heap.size) (x : WE w) : x.W.cell? p = some v := (x.h.cell hl).trans h

end Go.Proofs.YtmknpehjncpekaaGreatDoor

/- The proof that a log grew is one; plain. -/
namespace Go.Proofs.YtmknpehjncpekaaGreatDoor
set_option linter.unusedVariables false

/-- the proof that a log grew is one -/
theorem gcheck_grow {xs : List Int} {o m : Nat} (h : 1 ≤ o) (h2 : o ≤ m) (hm : m ≤ xs.length) (hk : leafsOk xs) : gcheck (ofL (xs.take o)) o (ofL (xs.take m)) m (growL (xs.take m) o true) = 0 := by
  have hx := hk.1
  have hlm : (xs.take m).length = m := by rw [List.length_take]; omega
  have hvm := allV_take hk.2 m
  have va : vld (ofL (xs.take o)) = true := vld_ofL (allV_take hk.2 o) (by rw [List.length_take]; omega)
  have vb : vld (ofL (xs.take m)) = true := vld_ofL hvm (by omega)
  have hlen := growL_len m (xs.take m) o true (by omega) h (by omega) (by omega)
  have hvp := growL_vld m (xs.take m) o true (by omega) h (by omega) (by omega) hvm
  have hg := groots_grow m (ofL (xs.take o)) (xs.take m) o true (by omega) h (by omega) (by omega) (fun _ => by rw [List.take_take, Nat.min_eq_left h2])
  rw [List.take_take, Nat.min_eq_left h2, hlm] at hg
  rw [hlm] at hlen
  unfold gcheck
  rw [if_neg (by omega), if_neg (by simp [va, vb, hvp]), Int.toNat_natCast, Int.toNat_natCast, if_neg (by omega), if_neg (by simp [hg])]
theorem leafsOk_take {xs : List Int} (hk : leafsOk xs) (n : Nat) : leafsOk (xs.take n) := ⟨by have := hk.1; rw [List.length_take]; omega, allV_take hk.2 n⟩
theorem vld_root {xs : List Int} (hk : leafsOk xs) : vld (ofL xs) = true := vld_ofL hk.2 (by have := hk.1; omega)
/-- the proof that goes with two sizes of a log -/
def goP (xs : List Int) (n m : Nat) : List Int := if 1 ≤ n ∧ n < m then growL (xs.take m) n true else []
end Go.Proofs.YtmknpehjncpekaaGreatDoor
