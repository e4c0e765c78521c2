/- store: its methods. -/
import Derived.Test.YtcgfdhgceokcnaaGreatDoorJWalKeeps14
import Derived.Deep.QuietTactic
import Derived.BigQuiet
namespace Go.Proofs.YtcgfdhgceokcnaaGreatDoor
open Go.RowKit
set_option linter.unusedVariables false
attribute [local go_sem ↓] Go.wp_at_zero Go.wp_at_succ

set_option maxRecDepth 100000 in
set_option maxHeartbeats 1000000 in
theorem CloneP_any (A : Option Addr) (n c : Nat) (xs : List Value) (w : World) (hr : Rd w 3 A n c xs) (hn : n ≤ 200000000) (hm : c ≤ maxLen) (h1 : ∀ u ∈ xs, u.oneCell' = true) :
    Calls Tryz.prog 70 #[.slice A n c] w fun e w' => (∃ v', e = .returned v' ∧ w'.ownsRow w.heap.size 31 3 v' n xs) ∧ Ext w w' := by
  obtain ⟨i0, hi0, hz0, hzs, hzb⟩ := info_parts info_pair
  have q22 : ∀ (w : World) (a : Option Addr) (n c n' c' : Nat), (binOp .eql 32 (.slice a n c) (.slice none n' c')).run Tryz.prog w = .ok (.bool a.isNone) w := fun w a n c n' c' => Lib.run_eql_slice_nil w _ _ a n c n' c' Tryz.underlying32
  unfold maxLen at hm
  cases A with
  | none =>
    have : n = 0 := by
      rcases Nat.eq_zero_or_pos n with h | h
      · exact h
      · obtain ⟨ad, h1, _⟩ := hr.2.2 h; cases h1
    subst this
    have : xs = [] := List.eq_nil_of_length_eq_zero (by have := hr.1; omega)
    subst this
    go_enter Tryz.func70, Tryz.ntmps70
    go_wp2_with fail
    go_ret
    exact ⟨⟨_, rfl, own_nil _ _ _ _⟩, Ext.refl _⟩
  | some a =>
    have hl := hr.1
    have HC : Hid (∀ j u, xs[j]? = some u → w.cell? (a.add j) = some u) := Lib.hid fun j u hj => by
      have hp : 0 < n := by
        rcases Nat.eq_zero_or_pos n with h | h
        · subst h
          have := (List.getElem?_eq_some_iff.1 hj).1
          omega
        · exact h
      obtain ⟨ad, h1, h2, h3⟩ := hr.2.2 hp
      obtain rfl : a = ad := by injection h1
      exact h3 j u hj
    have H1 := Lib.hid h1
    clear hr h1
    have o0 : (w.alloc (.cells #[] 31)).ownsRow w.heap.size 31 3 (.slice (some ⟨w.heap.size, 0, none⟩) 0 0) 0 [] := World.ownsRow_made w #[] 0 (Nat.le_refl _) (Nat.zero_le _) (by simp)
    have hc0 : ∀ (j : Nat) u, xs[j]? = some u → (w.alloc (.cells #[] 31)).cell? (a.add j) = some u := fun j u hj => Lib.cell?_alloc_some _ (HC.out j u hj)
    have HC0 := Lib.hid hc0
    clear hc0
    have e0 : Ext w (w.alloc (.cells #[] 31)) := (Ext.refl _).alloc _
    have hb : w.heap.size ≤ (w.alloc (.cells #[] 31)).heap.size := e0.size
    go_enter Tryz.func70, Tryz.ntmps70
    go_wp2_with (at_builtin; refine wpList_append_own _ rfl _ _ 32 rfl w.heap.size 31 i0 _ 3 40 Tryz.underlying32 hi0 hz0 hzs hzb rfl (by omega) _ _ _ rfl o0 a n _ xs rfl hl HC0.out H1.out (by unfold maxLen; omega) (by omega) hb ?_; intro v' w6 own6 hg6 hH6)
    go_ret
    refine ⟨⟨v', rfl, ?_⟩, e0.gbn hg6 (Nat.le_refl _)⟩
    rw [Nat.zero_add, List.nil_append] at own6
    exact own6

theorem SNew_any (B : Nat) (w : World) (hB : B ≤ w.heap.size) :
    Calls Tryz.prog 60 #[] w fun e w' => e = .returned (.pointer (some ⟨w.heap.size, 0, none⟩)) ∧ StAt w' B w.heap.size (.slice none 0 0) [] ∧ Ext w w' := by
  have B0 := Bk.at_ w 122 #[.slice none 0 0] w.heap.size rfl
  go_enter Tryz.func60, Tryz.ntmps60
  go_wp2_with fail
  go_ret
  exact ⟨rfl, ⟨B0, own_nil _ _ _ _, hB, Asc.nil, Nat.zero_le _, fun p hp => by simp at hp⟩, (Ext.refl _).alloc _⟩

theorem SPut_any (B sb : Nat) (v : Value) (es : List Pr) (key value : ByteArray) (w : World) (h : StAt w B sb v es) (hB : B ≤ w.heap.size) :
    Calls Tryz.prog 112 #[.pointer (some ⟨sb, 0, none⟩), .string key, .string value] w fun e w' => e = .returned (errR (putK es ⟨key, value, false⟩)) ∧ ∃ v', StAt w' B sb v' (storeL es ⟨key, value, false⟩) ∧ Chg w w' (fun k => k = sb ∨ v.ownBlock = some k) ∧ (∀ g, v'.ownBlock = some g → v.ownBlock = some g ∨ w.heap.size ≤ g) := by
  have HC := Lib.hid (put_any B sb v es ⟨key, value, false⟩ w h hB (fun e => by cases e))
  clear h
  go_enter Tryz.func112, Tryz.ntmps112
  go_wp2_with fail
  refine HC.out.mono ?_
  rintro _ w1 ⟨rfl, hh⟩
  have HH := Lib.hid hh
  clear hh
  go_wp2_with fail
  go_ret
  exact ⟨rfl, HH.out⟩
theorem SDrop_any (B sb : Nat) (v : Value) (es : List Pr) (key : ByteArray) (w : World) (h : StAt w B sb v es) (hB : B ≤ w.heap.size) :
    Calls Tryz.prog 111 #[.pointer (some ⟨sb, 0, none⟩), .string key] w fun e w' => e = .returned (errR (putK es ⟨key, ⟨#[]⟩, true⟩)) ∧ ∃ v', StAt w' B sb v' (storeL es ⟨key, ⟨#[]⟩, true⟩) ∧ Chg w w' (fun k => k = sb ∨ v.ownBlock = some k) ∧ (∀ g, v'.ownBlock = some g → v.ownBlock = some g ∨ w.heap.size ≤ g) := by
  have HC := Lib.hid (put_any B sb v es ⟨key, ⟨#[]⟩, true⟩ w h hB (fun _ => rfl))
  clear h
  go_enter Tryz.func111, Tryz.ntmps111
  go_wp2_with fail
  refine HC.out.mono ?_
  rintro _ w1 ⟨rfl, hh⟩
  have HH := Lib.hid hh
  clear hh
  go_wp2_with fail
  go_ret
  exact ⟨rfl, HH.out⟩
theorem SLen_any (B sb : Nat) (v : Value) (es : List Pr) (w : World) (h : StAt w B sb v es) :
    Calls Tryz.prog 113 #[.pointer (some ⟨sb, 0, none⟩)] w fun e w' => e = .returned (.int .i64 (es.length : Nat)) ∧ w = w' := by
  obtain ⟨A, c, rfl, hc, hr, hnil⟩ := own_rd h.own
  have s0 : w.cell? ⟨sb, 0, none⟩ = some (.slice A es.length c) := h.bk.cell 0
  clear h hnil hr
  go_enter Tryz.func113, Tryz.ntmps113
  go_wp2_with fail
  go_ret
  exact ⟨rfl, rfl⟩
theorem SAll_any (B sb : Nat) (v : Value) (es : List Pr) (w : World) (h : StAt w B sb v es) :
    Calls Tryz.prog 36 #[.pointer (some ⟨sb, 0, none⟩)] w fun e w' => (∃ v', e = .returned v' ∧ w'.ownsRow w.heap.size 31 3 v' es.length (es.flatMap Pr.cells)) ∧ Ext w w' := by
  obtain ⟨A, c, rfl, hc, hr, hnil⟩ := own_rd h.own
  have s0 : w.cell? ⟨sb, 0, none⟩ = some (.slice A es.length c) := h.bk.cell 0
  have HC := Lib.hid (CloneP_any A es.length c (es.flatMap Pr.cells) w hr (by have := h.len; omega) hc (cells_one es))
  clear h hnil hr
  go_enter Tryz.func36, Tryz.ntmps36
  go_wp2_with fail
  refine HC.out.mono ?_
  rintro _ w1 ⟨⟨v', rfl, ho⟩, hb⟩
  have HO := Lib.hid ho
  clear ho
  go_wp2_with fail
  go_ret
  exact ⟨⟨v', rfl, HO.out⟩, hb⟩
end Go.Proofs.YtcgfdhgceokcnaaGreatDoor

/- store: what is there. -/
namespace Go.Proofs.YtcgfdhgceokcnaaGreatDoor
open Go.RowKit
set_option linter.unusedVariables false
attribute [local go_sem ↓] Go.wp_at_zero Go.wp_at_succ

def pr0 : Pr := ⟨⟨#[]⟩, ⟨#[]⟩, false⟩
def pairV (es : List Pr) (key : ByteArray) : Pr := (getE es key).getD pr0
def gV : Option Pr → ByteArray | some p => if p.gone = true then ⟨#[]⟩ else p.value | none => ⟨#[]⟩
def gK : Option Pr → Int | some p => if p.gone = true then 5 else 0 | none => 5
def getV (es : List Pr) (key : ByteArray) : ByteArray := gV (getE es key)
def getK (es : List Pr) (key : ByteArray) : Int := gK (getE es key)
def rangeL (es : List Pr) (a b : ByteArray) : List Pr := (es.drop (lowN es a)).take (lowN es b - lowN es a)

set_option maxRecDepth 100000 in
set_option maxHeartbeats 1000000 in
theorem SPair_any (B sb : Nat) (v : Value) (es : List Pr) (key : ByteArray) (w : World) (h : StAt w B sb v es) :
    Calls Tryz.prog 43 #[.pointer (some ⟨sb, 0, none⟩), .string key] w fun e w' => e = .returned (.tuple #[(pairV es key).val, .bool (hasB es key)]) ∧ Ext w w' := by
  obtain ⟨n, hn⟩ : ∃ n, es.length = n := ⟨_, rfl⟩
  have ow := h.own
  rw [hn] at ow
  obtain ⟨A, c, rfl, hc, hr, hnil⟩ := own_rd ow
  have HX := Lib.hid hn
  have hn60 : n ≤ 60 := by rw [← hn]; exact h.len
  have s0 : w.cell? ⟨sb, 0, none⟩ = some (.slice A n c) := h.bk.cell 0
  have hsl := h.bk.lt
  have HO := Lib.hid h.asc
  have HR := Lib.hid hr
  have B1 := Bk.at_ w 31 #[.string ⟨#[]⟩, .string ⟨#[]⟩, .bool false] w.heap.size rfl
  have e1 : Ext w (w.alloc (.cells #[.string ⟨#[]⟩, .string ⟨#[]⟩, .bool false] 31)) := (Ext.refl _).alloc _
  have s1 := (e1.cell (p := ⟨sb, 0, none⟩) hsl).trans s0
  have hne : sb ≠ w.heap.size := by omega
  clear h hnil hr ow hn s0
  go_enter Tryz.func43, Tryz.ntmps43
  go_wp2_with fail
  generalize w.alloc (.cells #[.string ⟨#[]⟩, .string ⟨#[]⟩, .bool false] 31) = W1 at *
  refine (Find_any A n c es key _ (HR.out.ext e1) hc (by omega) HO.out).mono ?_
  obtain ⟨lo, HLO⟩ : ∃ x, Hid (lowN es key = x) := ⟨_, rfl⟩
  obtain ⟨hb, HHB⟩ : ∃ x, Hid (hasB es key = x) := ⟨_, rfl⟩
  rw [HLO.out, HHB.out]
  rintro _ w2 ⟨rfl, hb2⟩
  have B2 := B1.ext hb2
  have hlt2 := B2.lt
  have f0 := B2.frozen 0
  have f1 := B2.frozen 1
  have f2 := B2.frozen 2
  have p0 : w2.cell? ⟨w.heap.size, 0, none⟩ = some (.string ⟨#[]⟩) := B2.cell 0
  have p1 : w2.cell? ⟨w.heap.size, 1, none⟩ = some (.string ⟨#[]⟩) := B2.cell 1
  have p2 : w2.cell? ⟨w.heap.size, 2, none⟩ = some (.bool false) := B2.cell 2
  have HB2 := Lib.hid B2
  have e2 := e1.trans hb2
  have s2 := (hb2.cell (p := ⟨sb, 0, none⟩) (e1.lt hsl)).trans s1
  clear B1 B2 s1
  cases hb with
  | false =>
    have hp : pairV es key = pr0 := by unfold pairV getE; rw [if_neg (by rw [HHB.out]; decide)]; rfl
    have HP := Lib.hid hp
    clear hp
    go_wp2_with fail
    have B7 := ((HB2.out.set_ 0 (.string ⟨#[]⟩)).set_ 1 (.string ⟨#[]⟩)).set_ 2 (.bool false)
    have x0 : (((w2.setCell ⟨w.heap.size, 0, none⟩ (.string ⟨#[]⟩)).setCell ⟨w.heap.size, 1, none⟩ (.string ⟨#[]⟩)).setCell ⟨w.heap.size, 2, none⟩ (.bool false)).cell? ⟨w.heap.size, 0, none⟩ = some (.string ⟨#[]⟩) := (B7.cell 0).trans rfl
    have x1 : (((w2.setCell ⟨w.heap.size, 0, none⟩ (.string ⟨#[]⟩)).setCell ⟨w.heap.size, 1, none⟩ (.string ⟨#[]⟩)).setCell ⟨w.heap.size, 2, none⟩ (.bool false)).cell? ⟨w.heap.size, 1, none⟩ = some (.string ⟨#[]⟩) := (B7.cell 1).trans rfl
    have x2 : (((w2.setCell ⟨w.heap.size, 0, none⟩ (.string ⟨#[]⟩)).setCell ⟨w.heap.size, 1, none⟩ (.string ⟨#[]⟩)).setCell ⟨w.heap.size, 2, none⟩ (.bool false)).cell? ⟨w.heap.size, 2, none⟩ = some (.bool false) := (B7.cell 2).trans rfl
    have e7 := ((e2.setCell (p := ⟨w.heap.size, 0, none⟩) (Nat.le_refl _) (.string ⟨#[]⟩)).setCell (p := ⟨w.heap.size, 1, none⟩) (Nat.le_refl _) (.string ⟨#[]⟩)).setCell (p := ⟨w.heap.size, 2, none⟩) (Nat.le_refl _) (.bool false)
    refine bodyPost_ret (by simp [results, Tryz.results43, go_sem, x0, x1, x2]; try rfl) rfl ?_
    exact ⟨by first | (rw [HP.out, HHB.out]; done) | (rw [HP.out, HHB.out]; rfl), e7⟩
  | true =>
    obtain ⟨q, hq, hqk⟩ := has_get HHB.out
    rw [HLO.out] at hq
    have hlo : lo < n := by rw [← HX.out]; exact (List.getElem?_eq_some_iff.1 hq).1
    have hp : pairV es key = q := by unfold pairV getE; rw [if_pos HHB.out, HLO.out, hq]; rfl
    have HP := Lib.hid hp
    obtain ⟨ad, rfl, hb', y0, y1, y2⟩ := (HR.out.ext e2).getP hq
    obtain ⟨qk, qv, qg⟩ := q
    simp only at y0 y1 y2
    have hl := HR.out.2.1
    clear hp hq hqk
    go_wp2_with fail
    have B7 := ((HB2.out.set_ 0 (.string qk)).set_ 1 (.string qv)).set_ 2 (.bool qg)
    have x0 : (((w2.setCell ⟨w.heap.size, 0, none⟩ (.string qk)).setCell ⟨w.heap.size, 1, none⟩ (.string qv)).setCell ⟨w.heap.size, 2, none⟩ (.bool qg)).cell? ⟨w.heap.size, 0, none⟩ = some (.string qk) := (B7.cell 0).trans rfl
    have x1 : (((w2.setCell ⟨w.heap.size, 0, none⟩ (.string qk)).setCell ⟨w.heap.size, 1, none⟩ (.string qv)).setCell ⟨w.heap.size, 2, none⟩ (.bool qg)).cell? ⟨w.heap.size, 1, none⟩ = some (.string qv) := (B7.cell 1).trans rfl
    have x2 : (((w2.setCell ⟨w.heap.size, 0, none⟩ (.string qk)).setCell ⟨w.heap.size, 1, none⟩ (.string qv)).setCell ⟨w.heap.size, 2, none⟩ (.bool qg)).cell? ⟨w.heap.size, 2, none⟩ = some (.bool qg) := (B7.cell 2).trans rfl
    have e7 := ((e2.setCell (p := ⟨w.heap.size, 0, none⟩) (Nat.le_refl _) (.string qk)).setCell (p := ⟨w.heap.size, 1, none⟩) (Nat.le_refl _) (.string qv)).setCell (p := ⟨w.heap.size, 2, none⟩) (Nat.le_refl _) (.bool qg)
    refine bodyPost_ret (by simp [results, Tryz.results43, go_sem, x0, x1, x2]; try rfl) rfl ?_
    exact ⟨by first | (rw [HP.out, HHB.out]; done) | (rw [HP.out, HHB.out]; rfl), e7⟩

end Go.Proofs.YtcgfdhgceokcnaaGreatDoor

/- witsame.Pairs of pairs that are the same. -/
namespace Go.Proofs.YtcgfdhgceokcnaaGreatDoor
open Go.RowKit
set_option linter.unusedVariables false
attribute [local go_sem ↓] Go.wp_at_zero Go.wp_at_succ

set_option maxRecDepth 100000 in
theorem Pairs_same (A A' : Option Addr) (n c c' : Nat) (es : List Pr) (w : World) (hr : Rd w 3 A n c (es.flatMap Pr.cells)) (hr' : Rd w 3 A' n c' (es.flatMap Pr.cells)) (hm : n ≤ 9223372036854775807) :
    Calls Tryz.prog 17 #[.slice A n c, .slice A' n c'] w fun e w' => e = .returned (.bool true) ∧ Ext w w' := by
  have HX := Lib.hid hr.lenP
  have hl := hr.2.1
  have hl' := hr'.2.1
  go_enter Tryz.func17, Tryz.ntmps17
  go_wp2_with fail
  go_loopw [5] (fun x wr => ∃ j : Nat, x = .int .i64 j ∧ j ≤ n ∧ Ext w wr) (fun x _ => n - (intOf x).toNat)
  case atStart => exact ⟨0, rfl, Nat.zero_le _, by (repeat (with_reducible first | exact Ext.refl _ | assumption | refine Ext.drew ?_ | refine Ext.drewN ?_ _ | refine Ext.alloc ?_ _ | refine Ext.trans ?_ (by with_reducible assumption)))⟩
  case round =>
    obtain ⟨j, rfl, hj, hbw⟩ := hrel
    by_cases hc : j < n
    · have hgj := List.getElem?_eq_getElem (l := es) (i := j) (by rw [HX.out]; exact hc)
      obtain ⟨ad, rfl, hb, c0, c1, c2⟩ := (hr.ext hbw).getP hgj
      obtain ⟨ad', rfl, hb', c0', c1', c2'⟩ := (hr'.ext hbw).getP hgj
      generalize es[j]'(by rw [HX.out]; exact hc) = e at *
      have hcN : (j : Int) < (n : Int) := by omega
      go_wp2_with fail
      go_quiet (fail)
      go_wp2_with fail
      go_roundw
      case rel => exact ⟨j + 1, by go_num, by omega, by (repeat (with_reducible first | exact Ext.refl _ | assumption | refine Ext.drew ?_ | refine Ext.drewN ?_ _ | refine Ext.alloc ?_ _ | refine Ext.trans ?_ (by with_reducible assumption)))⟩
      case measure => simp [intOf]; omega
    · go_wp2_with fail
      go_ret
      exact ⟨rfl, by (repeat (with_reducible first | exact Ext.refl _ | assumption | refine Ext.drew ?_ | refine Ext.drewN ?_ _ | refine Ext.alloc ?_ _ | refine Ext.trans ?_ (by with_reducible assumption)))⟩
end Go.Proofs.YtcgfdhgceokcnaaGreatDoor
