/- Peaks: New, Append, Size. -/
import Derived.Test.YtmknpehjncpekaaDoorPeaksPure
import Derived.Test.YtmknpehjncpekaaDoorErr
import Derived.Test.YtmknpehjncpekaaDoorGrown
import Derived.Test.YtmknpehjncpekaaDoorOwnI
import Derived.Deep.RegionHeld3
import Derived.Deep.DrawnRows
import Derived.Deep.LoopGhost
namespace Go.Proofs.YtmknpehjncpekaaDoor
open Go.RowKit Go.WideShapes
set_option linter.unusedVariables false
attribute [local go_sem ↓] Go.wp_at_zero Go.wp_at_succ

theorem own_pre {w : World} {base n k c : Nat} {e : TypeId} {A : Option Addr} {xs : List Value} (h : w.ownsRow base e 1 (.slice A n c) n xs) (hA : A ≠ none) (hk : k ≤ n) : w.ownsRow base e 1 (.slice A k c) k (xs.take k) := by
  obtain ⟨h1, h2⟩ := h
  rcases h2 with ⟨hv, _⟩ | ⟨g, cap, cur, hv, hg, hh, hn, hm, hs, ht⟩
  · injection hv with h1 h2 h3; exact absurd h1 hA
  · injection hv with e1 e2 e3
    subst e1; subst e3
    refine ⟨by rw [List.length_take, h1]; omega, .inr ⟨g, c, cur, rfl, hg, hh, by omega, hm, hs, ?_⟩⟩
    rw [← ht, List.take_take]
    congr 1
    omega

theorem info_intP : (Tryd.prog.info? 3).map (fun i => (i.zero, i.size, i.bytes)) = some (some (.int .i64 0), 1, 8) := by kernel_rfl
theorem and_one_i64 (m : Nat) (h : m ≤ 255) : bits BinOp.and IntKind.i64 (m : Int) 1 = ((m % 2 : Nat) : Int) := by
  have : ∀ k : Fin 256, bits BinOp.and IntKind.i64 ((k.val : Nat) : Int) 1 = ((k.val % 2 : Nat) : Int) := by decide +kernel
  exact this ⟨m, by omega⟩

/-- what Append tells -/
def appK (n : Nat) (s : Int) : Int := if vld s = true then (if n < 200 then 0 else 4) else 1
/-- blocks a and row alone were written -/
structure Two (w w' : World) (a : Nat) (row : Option Nat) : Prop where
  os : w'.os = w.os
  tape : w'.tape = w.tape
  output : w'.output = w.output
  size : w.heap.size ≤ w'.heap.size
  block : ∀ k, k < w.heap.size → k ≠ a → some k ≠ row → w'.heap[k]? = w.heap[k]?
theorem Two.of {w w1 w2 w3 : World} {a : Nat} {row : Option Nat} (h1 : w.grownBy w1 (some a)) (h2 : w1.grownBy w2 row) (h3 : w2.grownBy w3 (some a)) : Two w w3 a row :=
  ⟨h3.os.trans (h2.os.trans h1.os), h3.tape.trans (h2.tape.trans h1.tape), h3.output.trans (h2.output.trans h1.output), Nat.le_trans h1.size (Nat.le_trans h2.size h3.size), fun k hk ha hr =>
    ((h3.block k (Nat.lt_of_lt_of_le hk (Nat.le_trans h1.size h2.size)) (by simp [ha])).trans (h2.block k (Nat.lt_of_lt_of_le hk h1.size) hr)).trans (h1.block k hk (by simp [ha]))⟩
theorem Two.below {w w' : World} {a N : Nat} {row : Option Nat} (h : Two w w' a row) (hN : N ≤ w.heap.size) (ha : N ≤ a) (hr : ∀ g, row = some g → N ≤ g) : Below N w w' :=
  ⟨h.os, h.tape, h.output, h.size, fun k hk => h.block k (by omega) (by omega) (fun e => by have := hr k e.symm; omega)⟩

end Go.Proofs.YtmknpehjncpekaaDoor
