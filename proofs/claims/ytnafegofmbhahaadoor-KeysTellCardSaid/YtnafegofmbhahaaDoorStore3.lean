/- store: what is there. -/
import Derived.Test.YtnafegofmbhahaaDoorStore2
namespace Go.Proofs.YtnafegofmbhahaaDoor
open Go.RowKit
set_option linter.unusedVariables false
attribute [local go_sem ↓] Go.wp_at_zero Go.wp_at_succ

def pr0 : Pr := ⟨⟨#[]⟩, ⟨#[]⟩, false⟩
def pairV (es : List Pr) (key : ByteArray) : Pr := (getE es key).getD pr0
def gV : Option Pr → ByteArray | some p => if p.gone = true then ⟨#[]⟩ else p.value | none => ⟨#[]⟩
def gK : Option Pr → Int | some p => if p.gone = true then 5 else 0 | none => 5
def getV (es : List Pr) (key : ByteArray) : ByteArray := gV (getE es key)
def getK (es : List Pr) (key : ByteArray) : Int := gK (getE es key)
def rangeL (es : List Pr) (a b : ByteArray) : List Pr := (es.drop (lowN es a)).take (lowN es b - lowN es a)

set_option maxRecDepth 100000 in
set_option maxHeartbeats 1000000 in
theorem SPair_any (B sb : Nat) (v : Value) (es : List Pr) (key : ByteArray) (w : World) (h : StAt w B sb v es) :
    Calls Tryd.prog 86 #[.pointer (some ⟨sb, 0, none⟩), .string key] w fun e w' => e = .returned (.tuple #[(pairV es key).val, .bool (hasB es key)]) ∧ Ext w w' := by
  obtain ⟨n, hn⟩ : ∃ n, es.length = n := ⟨_, rfl⟩
  have ow := h.own
  rw [hn] at ow
  obtain ⟨A, c, rfl, hc, hr, hnil⟩ := own_rd ow
  have HX := Lib.hid hn
  have hn60 : n ≤ 60 := by rw [← hn]; exact h.len
  have s0 : w.cell? ⟨sb, 0, none⟩ = some (.slice A n c) := h.bk.cell 0
  have hsl := h.bk.lt
  have HO := Lib.hid h.asc
  have HR := Lib.hid hr
  have B1 := Bk.at_ w 25 #[.string ⟨#[]⟩, .string ⟨#[]⟩, .bool false] w.heap.size rfl
  have e1 : Ext w (w.alloc (.cells #[.string ⟨#[]⟩, .string ⟨#[]⟩, .bool false] 25)) := (Ext.refl _).alloc _
  have s1 := (e1.cell (p := ⟨sb, 0, none⟩) hsl).trans s0
  have hne : sb ≠ w.heap.size := by omega
  clear h hnil hr ow hn s0
  go_enter Tryd.func86, Tryd.ntmps86
  go_wp2_with fail
  generalize w.alloc (.cells #[.string ⟨#[]⟩, .string ⟨#[]⟩, .bool false] 25) = W1 at *
  refine (Find_any A n c es key _ (HR.out.ext e1) hc (by omega) HO.out).mono ?_
  obtain ⟨lo, HLO⟩ : ∃ x, Hid (lowN es key = x) := ⟨_, rfl⟩
  obtain ⟨hb, HHB⟩ : ∃ x, Hid (hasB es key = x) := ⟨_, rfl⟩
  rw [HLO.out, HHB.out]
  rintro _ w2 ⟨rfl, hb2⟩
  have B2 := B1.ext hb2
  have hlt2 := B2.lt
  have f0 := B2.frozen 0
  have f1 := B2.frozen 1
  have f2 := B2.frozen 2
  have p0 : w2.cell? ⟨w.heap.size, 0, none⟩ = some (.string ⟨#[]⟩) := B2.cell 0
  have p1 : w2.cell? ⟨w.heap.size, 1, none⟩ = some (.string ⟨#[]⟩) := B2.cell 1
  have p2 : w2.cell? ⟨w.heap.size, 2, none⟩ = some (.bool false) := B2.cell 2
  have HB2 := Lib.hid B2
  have e2 := e1.trans hb2
  have s2 := (hb2.cell (p := ⟨sb, 0, none⟩) (e1.lt hsl)).trans s1
  clear B1 B2 s1
  cases hb with
  | false =>
    have hp : pairV es key = pr0 := by unfold pairV getE; rw [if_neg (by rw [HHB.out]; decide)]; rfl
    have HP := Lib.hid hp
    clear hp
    go_wp2_with fail
    have B7 := ((HB2.out.set_ 0 (.string ⟨#[]⟩)).set_ 1 (.string ⟨#[]⟩)).set_ 2 (.bool false)
    have x0 : (((w2.setCell ⟨w.heap.size, 0, none⟩ (.string ⟨#[]⟩)).setCell ⟨w.heap.size, 1, none⟩ (.string ⟨#[]⟩)).setCell ⟨w.heap.size, 2, none⟩ (.bool false)).cell? ⟨w.heap.size, 0, none⟩ = some (.string ⟨#[]⟩) := (B7.cell 0).trans rfl
    have x1 : (((w2.setCell ⟨w.heap.size, 0, none⟩ (.string ⟨#[]⟩)).setCell ⟨w.heap.size, 1, none⟩ (.string ⟨#[]⟩)).setCell ⟨w.heap.size, 2, none⟩ (.bool false)).cell? ⟨w.heap.size, 1, none⟩ = some (.string ⟨#[]⟩) := (B7.cell 1).trans rfl
    have x2 : (((w2.setCell ⟨w.heap.size, 0, none⟩ (.string ⟨#[]⟩)).setCell ⟨w.heap.size, 1, none⟩ (.string ⟨#[]⟩)).setCell ⟨w.heap.size, 2, none⟩ (.bool false)).cell? ⟨w.heap.size, 2, none⟩ = some (.bool false) := (B7.cell 2).trans rfl
    have e7 := ((e2.setCell (p := ⟨w.heap.size, 0, none⟩) (Nat.le_refl _) (.string ⟨#[]⟩)).setCell (p := ⟨w.heap.size, 1, none⟩) (Nat.le_refl _) (.string ⟨#[]⟩)).setCell (p := ⟨w.heap.size, 2, none⟩) (Nat.le_refl _) (.bool false)
    refine bodyPost_ret (by simp [results, Tryd.results86, go_sem, x0, x1, x2]; try rfl) rfl ?_
    exact ⟨by first | (rw [HP.out, HHB.out]; done) | (rw [HP.out, HHB.out]; rfl), e7⟩
  | true =>
    obtain ⟨q, hq, hqk⟩ := has_get HHB.out
    rw [HLO.out] at hq
    have hlo : lo < n := by rw [← HX.out]; exact (List.getElem?_eq_some_iff.1 hq).1
    have hp : pairV es key = q := by unfold pairV getE; rw [if_pos HHB.out, HLO.out, hq]; rfl
    have HP := Lib.hid hp
    obtain ⟨ad, rfl, hb', y0, y1, y2⟩ := (HR.out.ext e2).getP hq
    obtain ⟨qk, qv, qg⟩ := q
    simp only at y0 y1 y2
    have hl := HR.out.2.1
    clear hp hq hqk
    go_wp2_with fail
    have B7 := ((HB2.out.set_ 0 (.string qk)).set_ 1 (.string qv)).set_ 2 (.bool qg)
    have x0 : (((w2.setCell ⟨w.heap.size, 0, none⟩ (.string qk)).setCell ⟨w.heap.size, 1, none⟩ (.string qv)).setCell ⟨w.heap.size, 2, none⟩ (.bool qg)).cell? ⟨w.heap.size, 0, none⟩ = some (.string qk) := (B7.cell 0).trans rfl
    have x1 : (((w2.setCell ⟨w.heap.size, 0, none⟩ (.string qk)).setCell ⟨w.heap.size, 1, none⟩ (.string qv)).setCell ⟨w.heap.size, 2, none⟩ (.bool qg)).cell? ⟨w.heap.size, 1, none⟩ = some (.string qv) := (B7.cell 1).trans rfl
    have x2 : (((w2.setCell ⟨w.heap.size, 0, none⟩ (.string qk)).setCell ⟨w.heap.size, 1, none⟩ (.string qv)).setCell ⟨w.heap.size, 2, none⟩ (.bool qg)).cell? ⟨w.heap.size, 2, none⟩ = some (.bool qg) := (B7.cell 2).trans rfl
    have e7 := ((e2.setCell (p := ⟨w.heap.size, 0, none⟩) (Nat.le_refl _) (.string qk)).setCell (p := ⟨w.heap.size, 1, none⟩) (Nat.le_refl _) (.string qv)).setCell (p := ⟨w.heap.size, 2, none⟩) (Nat.le_refl _) (.bool qg)
    refine bodyPost_ret (by simp [results, Tryd.results86, go_sem, x0, x1, x2]; try rfl) rfl ?_
    exact ⟨by first | (rw [HP.out, HHB.out]; done) | (rw [HP.out, HHB.out]; rfl), e7⟩

set_option maxRecDepth 100000 in
set_option maxHeartbeats 1000000 in
theorem SGet_any (B sb : Nat) (v : Value) (es : List Pr) (key : ByteArray) (w : World) (h : StAt w B sb v es) :
    Calls Tryd.prog 42 #[.pointer (some ⟨sb, 0, none⟩), .string key] w fun e w' => e = .returned (.tuple #[.string (getV es key), errR (getK es key)]) ∧ Ext w w' := by
  have HC := Lib.hid (SPair_any B sb v es key w h)
  clear h
  have hg : hasB es key = (getE es key).isSome := getE_has.symm
  have HG := Lib.hid hg
  obtain ⟨g, HGE⟩ : ∃ x, Hid (getE es key = x) := ⟨_, rfl⟩
  have HV : Hid (getV es key = gV g) := by unfold getV; rw [HGE.out]; exact rfl
  have HK : Hid (getK es key = gK g) := by unfold getK; rw [HGE.out]; exact rfl
  clear hg
  have HP : Hid (pairV es key = g.getD pr0) := by unfold pairV; rw [HGE.out]; exact rfl
  go_enter Tryd.func42, Tryd.ntmps42
  go_wp2_with fail
  refine HC.out.mono ?_
  rw [HP.out, HG.out, HGE.out]
  rintro _ w1 ⟨rfl, hb1⟩
  have B1 := Bk.at_ w1 25 #[.string ⟨#[]⟩, .string ⟨#[]⟩, .bool false] w1.heap.size rfl
  have f0 := B1.frozen 0
  have f1 := B1.frozen 1
  have f2 := B1.frozen 2
  have p0 : (w1.alloc (.cells #[.string ⟨#[]⟩, .string ⟨#[]⟩, .bool false] 25)).cell? ⟨w1.heap.size, 0, none⟩ = some (.string ⟨#[]⟩) := B1.cell 0
  have p1 : (w1.alloc (.cells #[.string ⟨#[]⟩, .string ⟨#[]⟩, .bool false] 25)).cell? ⟨w1.heap.size, 1, none⟩ = some (.string ⟨#[]⟩) := B1.cell 1
  have p2 : (w1.alloc (.cells #[.string ⟨#[]⟩, .string ⟨#[]⟩, .bool false] 25)).cell? ⟨w1.heap.size, 2, none⟩ = some (.bool false) := B1.cell 2
  have e1 : Ext w (w1.alloc (.cells #[.string ⟨#[]⟩, .string ⟨#[]⟩, .bool false] 25)) := hb1.alloc _
  cases g with
  | none =>
    go_wp2_with fail
    refine bodyPost_ret (by simp [results, Tryd.results42, go_sem]; try rfl) rfl ?_
    exact ⟨by rw [HV.out, HK.out]; rfl, hb1.alloc _⟩
  | some q =>
    obtain ⟨qk, qv, qg⟩ := q
    cases qg with
    | true =>
      go_wp2_with fail
      refine bodyPost_ret (by simp [results, Tryd.results42, go_sem]; try rfl) rfl ?_
      exact ⟨by rw [HV.out, HK.out]; rfl, hb1.alloc _⟩
    | false =>
      go_wp2_with fail
      refine bodyPost_ret (by simp [results, Tryd.results42, go_sem]; try rfl) rfl ?_
      exact ⟨by rw [HV.out, HK.out]; rfl, hb1.alloc _⟩

set_option maxRecDepth 100000 in
set_option maxHeartbeats 1000000 in
theorem SRange_any (B sb : Nat) (v : Value) (es : List Pr) (ka kb : ByteArray) (w : World) (h : StAt w B sb v es) :
    Calls Tryd.prog 46 #[.pointer (some ⟨sb, 0, none⟩), .string ka, .string kb] w fun e w' => (∃ v', e = .returned v' ∧ w'.ownsRow w.heap.size 25 3 v' (rangeL es ka kb).length ((rangeL es ka kb).flatMap Pr.cells)) ∧ Ext w w' := by
  obtain ⟨n, hn⟩ : ∃ n, es.length = n := ⟨_, rfl⟩
  have ow := h.own
  rw [hn] at ow
  obtain ⟨A, c, rfl, hc, hr, hnil⟩ := own_rd ow
  have HX := Lib.hid hn
  have hn60 : n ≤ 60 := by rw [← hn]; exact h.len
  have s0 : w.cell? ⟨sb, 0, none⟩ = some (.slice A n c) := h.bk.cell 0
  have hsl := h.bk.lt
  have HO := Lib.hid h.asc
  have HR := Lib.hid hr
  have hl := hr.2.1
  have hA : A = none → n = 0 ∧ c = 0 := fun e => by
    rcases Nat.eq_zero_or_pos n with h0 | h0
    · rcases hnil h0 with h1 | h1
      · exact ⟨h0, h1.2⟩
      · exact absurd e h1
    · obtain ⟨ad, h1, _⟩ := hr.2.2 h0
      rw [e] at h1; cases h1
  obtain ⟨i, HI⟩ : ∃ x, Hid (lowN es ka = x) := ⟨_, rfl⟩
  obtain ⟨k, HK⟩ : ∃ x, Hid (lowN es kb = x) := ⟨_, rfl⟩
  have hi : i ≤ n := by rw [← hn, ← HI.out]; exact lowN_le _ _
  have hk : k ≤ n := by rw [← hn, ← HK.out]; exact lowN_le _ _
  have hrl : rangeL es ka kb = (es.drop i).take (k - i) := by unfold rangeL; rw [HI.out, HK.out]
  have HRL := Lib.hid hrl
  clear h hnil hr ow hn hrl
  go_enter Tryd.func46, Tryd.ntmps46
  go_wp2_with fail
  refine (Find_any A n c es ka _ HR.out hc (by omega) HO.out).mono ?_
  rw [HI.out]
  obtain ⟨b1, HB1⟩ : ∃ x, Hid (hasB es ka = x) := ⟨_, rfl⟩
  rw [HB1.out]
  rintro _ w1 ⟨rfl, hb1⟩
  have s1 := (hb1.cell (p := ⟨sb, 0, none⟩) hsl).trans s0
  clear s0
  go_wp2_with fail
  refine (Find_any A n c es kb _ (HR.out.ext hb1) hc (by omega) HO.out).mono ?_
  rw [HK.out]
  obtain ⟨b2, HB2⟩ : ∃ x, Hid (hasB es kb = x) := ⟨_, rfl⟩
  rw [HB2.out]
  rintro _ w2 ⟨rfl, hb2⟩
  have e2 := hb1.trans hb2
  have s2 := (hb2.cell (p := ⟨sb, 0, none⟩) (hb1.lt hsl)).trans s1
  clear s1
  by_cases hki : k < i
  · have hE : Hid (w2.ownsRow w.heap.size 25 3 (.slice none 0 0) (rangeL es ka kb).length ((rangeL es ka kb).flatMap Pr.cells)) := by
      rw [HRL.out, show k - i = 0 by omega]
      exact own_nil _ _ _ _
    go_wp2_with fail
    go_ret
    exact ⟨⟨_, rfl, hE.out⟩, e2⟩
  · have hik : i ≤ k := by omega
    have hd := ((HR.out.ext e2).drop hi).take (k := k - i) (by omega)
    have hxs : ((es.flatMap Pr.cells).drop (i * 3)).take ((k - i) * 3) = (rangeL es ka kb).flatMap Pr.cells := by
      rw [flat_drop (f := Pr.cells) (k := 3) (fun _ => rfl), flat_take (f := Pr.cells) (k := 3) (fun _ => rfl), HRL.out]
    have hrlen : (rangeL es ka kb).length = k - i := by rw [HRL.out, List.length_take, List.length_drop, HX.out]; omega
    rw [hxs] at hd
    have HRN := Lib.hid hrlen
    have HC : ∀ A' c', c' ≤ maxLen → Rd w2 3 A' (k - i) c' ((rangeL es ka kb).flatMap Pr.cells) → Hid (Calls Tryd.prog 70 #[.slice A' (k - i) c'] w2 fun e w' => (∃ v', e = .returned v' ∧ w'.ownsRow w2.heap.size 25 3 v' (rangeL es ka kb).length ((rangeL es ka kb).flatMap Pr.cells)) ∧ Ext w2 w') := fun A' c' hc' h => by
      rw [hrlen]
      exact CloneP_any A' (k - i) c' _ w2 h (by omega) hc' (cells_one _)
    have hik' : ¬ (k : Int) < (i : Int) := by omega
    clear hxs hrlen hki
    have hcm := hc
    unfold maxLen at hc
    cases A with
    | none =>
      obtain ⟨rfl, rfl⟩ := hA rfl
      obtain rfl : i = 0 := by omega
      obtain rfl : k = 0 := by omega
      have HC1 := HC _ _ (by omega) hd
      clear hd HC
      go_wp2_with fail
      refine HC1.out.mono ?_
      rintro _ w3 ⟨⟨v', rfl, ho⟩, hb3⟩
      have HO3 := Lib.hid (own_lower ho e2.size)
      clear ho
      go_wp2_with fail
      go_ret
      exact ⟨⟨v', rfl, HO3.out⟩, e2.trans hb3⟩
    | some ad =>
      by_cases hci : c = i
      · rw [if_pos hci, show c - i = 0 by omega] at hd
        have HC1 := HC _ _ (by omega) hd
        clear hd HC
        go_wp2_with fail
        refine HC1.out.mono ?_
        rintro _ w3 ⟨⟨v', rfl, ho⟩, hb3⟩
        have HO3 := Lib.hid (own_lower ho e2.size)
        clear ho
        go_wp2_with fail
        go_ret
        exact ⟨⟨v', rfl, HO3.out⟩, e2.trans hb3⟩
      · rw [if_neg hci] at hd
        have HC1 := HC _ _ (by omega) hd
        clear hd HC
        go_wp2_with fail
        refine HC1.out.mono ?_
        rintro _ w3 ⟨⟨v', rfl, ho⟩, hb3⟩
        have HO3 := Lib.hid (own_lower ho e2.size)
        clear ho
        go_wp2_with fail
        go_ret
        exact ⟨⟨v', rfl, HO3.out⟩, e2.trans hb3⟩
end Go.Proofs.YtnafegofmbhahaaDoor
