/- store: its methods. -/
import Derived.Test.YtnafegofmbhahaaDoorStore
namespace Go.Proofs.YtnafegofmbhahaaDoor
open Go.RowKit
set_option linter.unusedVariables false
attribute [local go_sem ↓] Go.wp_at_zero Go.wp_at_succ

set_option maxRecDepth 100000 in
set_option maxHeartbeats 1000000 in
theorem CloneP_any (A : Option Addr) (n c : Nat) (xs : List Value) (w : World) (hr : Rd w 3 A n c xs) (hn : n ≤ 200000000) (hm : c ≤ maxLen) (h1 : ∀ u ∈ xs, u.oneCell' = true) :
    Calls Tryd.prog 70 #[.slice A n c] w fun e w' => (∃ v', e = .returned v' ∧ w'.ownsRow w.heap.size 25 3 v' n xs) ∧ Ext w w' := by
  obtain ⟨i0, hi0, hz0, hzs, hzb⟩ := info_parts info_pair
  have q22 : ∀ (w : World) (a : Option Addr) (n c n' c' : Nat), (binOp .eql 22 (.slice a n c) (.slice none n' c')).run Tryd.prog w = .ok (.bool a.isNone) w := fun w a n c n' c' => Lib.run_eql_slice_nil w _ _ a n c n' c' Tryd.underlying22
  unfold maxLen at hm
  cases A with
  | none =>
    have : n = 0 := by
      rcases Nat.eq_zero_or_pos n with h | h
      · exact h
      · obtain ⟨ad, h1, _⟩ := hr.2.2 h; cases h1
    subst this
    have : xs = [] := List.eq_nil_of_length_eq_zero (by have := hr.1; omega)
    subst this
    go_enter Tryd.func70, Tryd.ntmps70
    go_wp2_with fail
    go_ret
    exact ⟨⟨_, rfl, own_nil _ _ _ _⟩, Ext.refl _⟩
  | some a =>
    have hl := hr.1
    have HC : Hid (∀ j u, xs[j]? = some u → w.cell? (a.add j) = some u) := Lib.hid fun j u hj => by
      have hp : 0 < n := by
        rcases Nat.eq_zero_or_pos n with h | h
        · subst h
          have := (List.getElem?_eq_some_iff.1 hj).1
          omega
        · exact h
      obtain ⟨ad, h1, h2, h3⟩ := hr.2.2 hp
      obtain rfl : a = ad := by injection h1
      exact h3 j u hj
    have H1 := Lib.hid h1
    clear hr h1
    have o0 : (w.alloc (.cells #[] 25)).ownsRow w.heap.size 25 3 (.slice (some ⟨w.heap.size, 0, none⟩) 0 0) 0 [] := World.ownsRow_made w #[] 0 (Nat.le_refl _) (Nat.zero_le _) (by simp)
    have hc0 : ∀ (j : Nat) u, xs[j]? = some u → (w.alloc (.cells #[] 25)).cell? (a.add j) = some u := fun j u hj => Lib.cell?_alloc_some _ (HC.out j u hj)
    have HC0 := Lib.hid hc0
    clear hc0
    have e0 : Ext w (w.alloc (.cells #[] 25)) := (Ext.refl _).alloc _
    have hb : w.heap.size ≤ (w.alloc (.cells #[] 25)).heap.size := e0.size
    go_enter Tryd.func70, Tryd.ntmps70
    go_wp2_with (at_builtin; refine wpList_append_own _ rfl _ _ 22 rfl w.heap.size 25 i0 _ 3 40 Tryd.underlying22 hi0 hz0 hzs hzb rfl (by omega) _ _ _ rfl o0 a n _ xs rfl hl HC0.out H1.out (by unfold maxLen; omega) (by omega) hb ?_; intro v' w6 own6 hg6 hH6)
    go_ret
    refine ⟨⟨v', rfl, ?_⟩, e0.gbn hg6 (Nat.le_refl _)⟩
    rw [Nat.zero_add, List.nil_append] at own6
    exact own6

theorem SNew_any (B : Nat) (w : World) (hB : B ≤ w.heap.size) :
    Calls Tryd.prog 38 #[] w fun e w' => e = .returned (.pointer (some ⟨w.heap.size, 0, none⟩)) ∧ StAt w' B w.heap.size (.slice none 0 0) [] ∧ Ext w w' := by
  have B0 := Bk.at_ w 109 #[.slice none 0 0] w.heap.size rfl
  go_enter Tryd.func38, Tryd.ntmps38
  go_wp2_with fail
  go_ret
  exact ⟨rfl, ⟨B0, own_nil _ _ _ _, hB, Asc.nil, Nat.zero_le _, fun p hp => by simp at hp⟩, (Ext.refl _).alloc _⟩

theorem SPut_any (B sb : Nat) (v : Value) (es : List Pr) (key value : ByteArray) (w : World) (h : StAt w B sb v es) (hB : B ≤ w.heap.size) :
    Calls Tryd.prog 39 #[.pointer (some ⟨sb, 0, none⟩), .string key, .string value] w fun e w' => e = .returned (errR (putK es ⟨key, value, false⟩)) ∧ ∃ v', StAt w' B sb v' (storeL es ⟨key, value, false⟩) ∧ Chg w w' (fun k => k = sb ∨ v.ownBlock = some k) ∧ (∀ g, v'.ownBlock = some g → v.ownBlock = some g ∨ w.heap.size ≤ g) := by
  have HC := Lib.hid (put_any B sb v es ⟨key, value, false⟩ w h hB (fun e => by cases e))
  clear h
  go_enter Tryd.func39, Tryd.ntmps39
  go_wp2_with fail
  refine HC.out.mono ?_
  rintro _ w1 ⟨rfl, hh⟩
  have HH := Lib.hid hh
  clear hh
  go_wp2_with fail
  go_ret
  exact ⟨rfl, HH.out⟩
theorem SDrop_any (B sb : Nat) (v : Value) (es : List Pr) (key : ByteArray) (w : World) (h : StAt w B sb v es) (hB : B ≤ w.heap.size) :
    Calls Tryd.prog 41 #[.pointer (some ⟨sb, 0, none⟩), .string key] w fun e w' => e = .returned (errR (putK es ⟨key, ⟨#[]⟩, true⟩)) ∧ ∃ v', StAt w' B sb v' (storeL es ⟨key, ⟨#[]⟩, true⟩) ∧ Chg w w' (fun k => k = sb ∨ v.ownBlock = some k) ∧ (∀ g, v'.ownBlock = some g → v.ownBlock = some g ∨ w.heap.size ≤ g) := by
  have HC := Lib.hid (put_any B sb v es ⟨key, ⟨#[]⟩, true⟩ w h hB (fun _ => rfl))
  clear h
  go_enter Tryd.func41, Tryd.ntmps41
  go_wp2_with fail
  refine HC.out.mono ?_
  rintro _ w1 ⟨rfl, hh⟩
  have HH := Lib.hid hh
  clear hh
  go_wp2_with fail
  go_ret
  exact ⟨rfl, HH.out⟩
theorem SLen_any (B sb : Nat) (v : Value) (es : List Pr) (w : World) (h : StAt w B sb v es) :
    Calls Tryd.prog 40 #[.pointer (some ⟨sb, 0, none⟩)] w fun e w' => e = .returned (.int .i64 (es.length : Nat)) ∧ w = w' := by
  obtain ⟨A, c, rfl, hc, hr, hnil⟩ := own_rd h.own
  have s0 : w.cell? ⟨sb, 0, none⟩ = some (.slice A es.length c) := h.bk.cell 0
  clear h hnil hr
  go_enter Tryd.func40, Tryd.ntmps40
  go_wp2_with fail
  go_ret
  exact ⟨rfl, rfl⟩
theorem SAll_any (B sb : Nat) (v : Value) (es : List Pr) (w : World) (h : StAt w B sb v es) :
    Calls Tryd.prog 45 #[.pointer (some ⟨sb, 0, none⟩)] w fun e w' => (∃ v', e = .returned v' ∧ w'.ownsRow w.heap.size 25 3 v' es.length (es.flatMap Pr.cells)) ∧ Ext w w' := by
  obtain ⟨A, c, rfl, hc, hr, hnil⟩ := own_rd h.own
  have s0 : w.cell? ⟨sb, 0, none⟩ = some (.slice A es.length c) := h.bk.cell 0
  have HC := Lib.hid (CloneP_any A es.length c (es.flatMap Pr.cells) w hr (by have := h.len; omega) hc (cells_one es))
  clear h hnil hr
  go_enter Tryd.func45, Tryd.ntmps45
  go_wp2_with fail
  refine HC.out.mono ?_
  rintro _ w1 ⟨⟨v', rfl, ho⟩, hb⟩
  have HO := Lib.hid ho
  clear ho
  go_wp2_with fail
  go_ret
  exact ⟨⟨v', rfl, HO.out⟩, hb⟩
end Go.Proofs.YtnafegofmbhahaaDoor
