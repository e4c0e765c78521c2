/- Worlds in which some blocks alone were written, and new ones were made; over any program. -/
import Derived.Test.YtdpfebokbikgfaaDoorGrown
namespace Go.Proofs.YtdpfebokbikgfaaDoor
open Go.RowKit
set_option linter.unusedVariables false

/-- grown, and written in some blocks alone -/
structure Chg (w w' : World) (S : Nat → Prop) : Prop where
  os : w'.os = w.os
  tape : w'.tape = w.tape
  output : w'.output = w.output
  size : w.heap.size ≤ w'.heap.size
  block : ∀ k, k < w.heap.size → ¬ S k → w'.heap[k]? = w.heap[k]?
section
variable {a b c : World} {S T : Nat → Prop}
theorem Ext.chg (h : Ext a b) (S : Nat → Prop) : Chg a b S := ⟨h.os, h.tape, h.output, Below.size h, fun k hk _ => Below.block h k hk⟩
theorem Chg.trans (h : Chg a b S) (k : Chg b c T) (hT : ∀ x, x < a.heap.size → T x → S x) : Chg a c S :=
  ⟨k.os.trans h.os, k.tape.trans h.tape, k.output.trans h.output, Nat.le_trans h.size k.size, fun x hx hS => (k.block x (Nat.lt_of_lt_of_le hx h.size) (fun t => hS (hT x hx t))).trans (h.block x hx hS)⟩
theorem Chg.mono (h : Chg a b S) (hT : ∀ x, x < a.heap.size → S x → T x) : Chg a b T := ⟨h.os, h.tape, h.output, h.size, fun x hx hS => h.block x hx fun s => hS (hT x hx s)⟩
theorem gb_chg {row : Option Nat} (h : a.grownBy b row) : Chg a b (fun k => row = some k) := ⟨h.os, h.tape, h.output, h.size, fun k hk hS => h.block k hk (fun e => hS e.symm)⟩
theorem Chg.ext (h : Chg a b S) (hS : ∀ x, x < a.heap.size → ¬ S x) : Ext a b := ⟨h.os, h.tape, h.output, h.size, fun k hk => h.block k hk (hS k hk)⟩
theorem Bk.chg {g : Nat} {t : TypeId} {cs : Array Value} (h : Bk a g t cs) (k : Chg a b S) (hS : ¬ S g) : Bk b g t cs := (k.block g h.lt hS).trans h
theorem own_chg {base n size : Nat} {e : TypeId} {v : Value} {xs : List Value} (h : a.ownsRow base e size v n xs) (k : Chg a b S) (hS : ∀ g, v.ownBlock = some g → ¬ S g) : b.ownsRow base e size v n xs := by
  refine ⟨h.1, ?_⟩
  rcases h.2 with h2 | ⟨g, cap, cur, hv, hg, hh, r⟩
  · exact .inl h2
  · refine .inr ⟨g, cap, cur, hv, hg, ?_, r⟩
    have hl : g < a.heap.size := (Array.getElem?_eq_some_iff.1 hh).1
    exact (k.block g hl (hS g (by rw [hv]; rfl))).trans hh
theorem own_type {base n size b : Nat} {e t : TypeId} {v : Value} {xs : List Value} {cs : Array Value} (h : a.ownsRow base e size v n xs) (hb : Bk a b t cs) (hne : e ≠ t) : v.ownBlock ≠ some b := by
  rcases h.2 with ⟨rfl, _⟩ | ⟨g, cap, cur, rfl, _, hh, _⟩
  · simp [Value.ownBlock]
  · intro e'
    obtain rfl : g = b := by simpa [Value.ownBlock] using e'
    unfold Bk at hb
    rw [hb] at hh
    simp at hh
    exact hne hh.2.symm
end

theorem bk_ne {w : World} {a b : Nat} {t t' : TypeId} {cs cs' : Array Value} (h : Bk w a t cs) (k : Bk w b t' cs') (hne : t ≠ t') : a ≠ b := by
  rintro rfl
  unfold Bk at h k
  rw [h] at k
  simp at k
  exact hne k.2
theorem own_own {w : World} {b b' n n' k k' : Nat} {e e' : TypeId} {v v' : Value} {xs xs' : List Value} (h : w.ownsRow b e k v n xs) (h' : w.ownsRow b' e' k' v' n' xs') (hne : e ≠ e') {g : Nat} (hg : v.ownBlock = some g) : v'.ownBlock ≠ some g := by
  intro hg'
  rcases h.2 with ⟨rfl, _⟩ | ⟨g1, cap, cur, rfl, _, hh, _⟩
  · simp [Value.ownBlock] at hg
  · rcases h'.2 with ⟨rfl, _⟩ | ⟨g2, cap', cur', rfl, _, hh', _⟩
    · simp [Value.ownBlock] at hg'
    · obtain rfl : g1 = g := by simpa [Value.ownBlock] using hg
      obtain rfl : g2 = g1 := by simpa [Value.ownBlock] using hg'
      rw [hh] at hh'
      simp at hh'
      exact hne hh'.2
/-- what is kept of a row is a row of none -/
theorem own_cut0 {w : World} {base n size g c : Nat} {e : TypeId} {xs : List Value} (h : w.ownsRow base e size (.slice (some ⟨g, 0, none⟩) n c) n xs) : w.ownsRow base e size (.slice (some ⟨g, 0, none⟩) 0 c) 0 [] := by
  rcases h.2 with ⟨h1, _⟩ | ⟨g', cap, cur, h1, h2, h3, h4, h5, h6, h7⟩
  · cases h1
  · injection h1 with a1 a2 a3
    injection a1 with a1
    injection a1 with a1
    subst a1 a3
    exact ⟨by simp, .inr ⟨g, c, cur, rfl, h2, h3, Nat.zero_le _, h5, h6, by simp⟩⟩
end Go.Proofs.YtdpfebokbikgfaaDoor
