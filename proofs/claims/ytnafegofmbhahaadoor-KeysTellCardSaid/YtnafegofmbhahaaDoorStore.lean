/- store: a list of pairs in memory; put. -/
import Derived.Test.YtnafegofmbhahaaDoorStoreP
import Derived.Test.YtnafegofmbhahaaDoorFind
import Derived.Test.YtnafegofmbhahaaDoorInsert
import Derived.Test.YtnafegofmbhahaaDoorQuiet
import Derived.Deep.DeepCutAuto
import Derived.Deep.CutRange
import Derived.Deep.RegionWith
namespace Go.Proofs.YtnafegofmbhahaaDoor
open Go.RowKit
set_option linter.unusedVariables false
attribute [local go_sem ↓] Go.wp_at_zero Go.wp_at_succ

/-- grown, and written in some blocks alone -/
structure Chg (w w' : World) (S : Nat → Prop) : Prop where
  os : w'.os = w.os
  tape : w'.tape = w.tape
  output : w'.output = w.output
  size : w.heap.size ≤ w'.heap.size
  block : ∀ k, k < w.heap.size → ¬ S k → w'.heap[k]? = w.heap[k]?
section
variable {a b c : World} {S T : Nat → Prop}
theorem Ext.chg (h : Ext a b) (S : Nat → Prop) : Chg a b S := ⟨h.os, h.tape, h.output, Below.size h, fun k hk _ => Below.block h k hk⟩
theorem Chg.trans (h : Chg a b S) (k : Chg b c T) (hT : ∀ x, x < a.heap.size → T x → S x) : Chg a c S :=
  ⟨k.os.trans h.os, k.tape.trans h.tape, k.output.trans h.output, Nat.le_trans h.size k.size, fun x hx hS => (k.block x (Nat.lt_of_lt_of_le hx h.size) (fun t => hS (hT x hx t))).trans (h.block x hx hS)⟩
theorem Chg.mono (h : Chg a b S) (hT : ∀ x, x < a.heap.size → S x → T x) : Chg a b T := ⟨h.os, h.tape, h.output, h.size, fun x hx hS => h.block x hx fun s => hS (hT x hx s)⟩
theorem gb_chg {row : Option Nat} (h : a.grownBy b row) : Chg a b (fun k => row = some k) := ⟨h.os, h.tape, h.output, h.size, fun k hk hS => h.block k hk (fun e => hS e.symm)⟩
theorem Chg.ext (h : Chg a b S) (hS : ∀ x, x < a.heap.size → ¬ S x) : Ext a b := ⟨h.os, h.tape, h.output, h.size, fun k hk => h.block k hk (hS k hk)⟩
theorem Bk.chg {g : Nat} {t : TypeId} {cs : Array Value} (h : Bk a g t cs) (k : Chg a b S) (hS : ¬ S g) : Bk b g t cs := (k.block g h.lt hS).trans h
theorem own_chg {base n size : Nat} {e : TypeId} {v : Value} {xs : List Value} (h : a.ownsRow base e size v n xs) (k : Chg a b S) (hS : ∀ g, v.ownBlock = some g → ¬ S g) : b.ownsRow base e size v n xs := by
  refine ⟨h.1, ?_⟩
  rcases h.2 with h2 | ⟨g, cap, cur, hv, hg, hh, r⟩
  · exact .inl h2
  · refine .inr ⟨g, cap, cur, hv, hg, ?_, r⟩
    have hl : g < a.heap.size := (Array.getElem?_eq_some_iff.1 hh).1
    exact (k.block g hl (hS g (by rw [hv]; rfl))).trans hh
theorem own_type {base n size b : Nat} {e t : TypeId} {v : Value} {xs : List Value} {cs : Array Value} (h : a.ownsRow base e size v n xs) (hb : Bk a b t cs) (hne : e ≠ t) : v.ownBlock ≠ some b := by
  rcases h.2 with ⟨rfl, _⟩ | ⟨g, cap, cur, rfl, _, hh, _⟩
  · simp [Value.ownBlock]
  · intro e'
    obtain rfl : g = b := by simpa [Value.ownBlock] using e'
    unfold Bk at hb
    rw [hb] at hh
    simp at hh
    exact hne hh.2.symm
end

def PrOk (p : Pr) : Prop := keyK p.key = 0 ∧ p.value.size ≤ 200 ∧ (p.gone = true → p.value.size = 0)
/-- a store in memory -/
structure StAt (w : World) (B sb : Nat) (v : Value) (es : List Pr) : Prop where
  bk : Bk w sb 109 #[v]
  own : w.ownsRow B 25 3 v es.length (es.flatMap Pr.cells)
  lo : B ≤ sb
  asc : Asc es
  len : es.length ≤ 60
  ok : ∀ p ∈ es, PrOk p
theorem StAt.chg {w w' : World} {B sb : Nat} {v : Value} {es : List Pr} {S : Nat → Prop} (h : StAt w B sb v es) (k : Chg w w' S) (h1 : ¬ S sb) (h2 : ∀ g, v.ownBlock = some g → ¬ S g) : StAt w' B sb v es :=
  ⟨h.bk.chg k h1, own_chg h.own k h2, h.lo, h.asc, h.len, h.ok⟩
theorem StAt.ext {w w' : World} {B sb : Nat} {v : Value} {es : List Pr} (h : StAt w B sb v es) (k : Ext w w') : StAt w' B sb v es := ⟨h.bk.ext k, own_ext h.own k, h.lo, h.asc, h.len, h.ok⟩

theorem StAt.drew {w : World} {B sb : Nat} {v : Value} {es : List Pr} (h : StAt w B sb v es) : StAt w.drew B sb v es := h.ext (Ext.refl w).drew
theorem StAt.set3 {w : World} {B sb g n c lo : Nat} {es : List Pr} {p : Pr} (h : StAt w B sb (.slice (some ⟨g, 0, none⟩) n c) es) (hx : es.length = n) (hlo : lo < n) (hok : PrOk p) (ha : Asc (es.set lo p)) :
    StAt (((w.setCell ⟨g, lo * 3, none⟩ (.string p.key)).setCell ⟨g, lo * 3 + 1, none⟩ (.string p.value)).setCell ⟨g, lo * 3 + 2, none⟩ (.bool p.gone)) B sb (.slice (some ⟨g, 0, none⟩) n c) (es.set lo p) ∧
    w.grownBy (((w.setCell ⟨g, lo * 3, none⟩ (.string p.key)).setCell ⟨g, lo * 3 + 1, none⟩ (.string p.value)).setCell ⟨g, lo * 3 + 2, none⟩ (.bool p.gone)) (some g) := by
  have ho := h.own
  rw [hx] at ho
  have hne : g ≠ sb := fun e => own_type ho h.bk (by decide) (by rw [e]; rfl)
  have o1 := ho.stored (lo * 3) (.string p.key)
  have o2 := o1.1.stored (lo * 3 + 1) (.string p.value)
  have o3 := o2.1.stored (lo * 3 + 2) (.bool p.gone)
  have hg := gb_trans (gb_trans o1.2 o2.2) o3.2
  refine ⟨⟨h.bk.kept hg (fun e => hne (by injection e)), ?_, h.lo, ha, by rw [List.length_set]; exact h.len, fun q hq => ?_⟩, hg⟩
  · rw [List.length_set, hx, ← cells_set es lo p (by omega)]
    exact o3.1
  · obtain ⟨i, hi⟩ := List.getElem?_of_mem hq
    by_cases hil : i = lo
    · subst hil
      rw [List.getElem?_set_self (by omega)] at hi
      injection hi with hi
      rw [← hi]; exact hok
    · rw [List.getElem?_set_ne (Ne.symm hil)] at hi
      exact h.ok q (List.mem_of_getElem? hi)

set_option maxRecDepth 100000 in
set_option maxHeartbeats 2000000 in
theorem put_any (B sb : Nat) (v : Value) (es : List Pr) (p : Pr) (w : World) (h : StAt w B sb v es) (hB : B ≤ w.heap.size) (hp : p.gone = true → p.value.size = 0) :
    Calls Tryd.prog 85 #[.pointer (some ⟨sb, 0, none⟩), p.val] w fun e w' => e = .returned (errR (putK es p)) ∧ ∃ v', StAt w' B sb v' (storeL es p) ∧ Chg w w' (fun k => k = sb ∨ v.ownBlock = some k) ∧ (∀ g, v'.ownBlock = some g → v.ownBlock = some g ∨ w.heap.size ≤ g) := by
  obtain ⟨hE, hN, hG⟩ := errR_rules
  obtain ⟨pk, pv, pg⟩ := p
  have HP := Lib.hid hp
  clear hp
  have B1 := Bk.at_ w 25 #[.string pk, .string pv, .bool pg] w.heap.size rfl
  have e1 : Ext w (w.alloc (.cells #[.string pk, .string pv, .bool pg] 25)) := (Ext.refl _).alloc _
  have p0 : (w.alloc (.cells #[.string pk, .string pv, .bool pg] 25)).cell? ⟨w.heap.size, 0, none⟩ = some (.string pk) := B1.cell 0
  go_enter Tryd.func85, Tryd.ntmps85
  go_wp2_with fail
  generalize w.alloc (.cells #[.string pk, .string pv, .bool pg] 25) = W1 at *
  refine (Key_any pk _).mono ?_
  rintro _ _ ⟨rfl, rfl⟩
  by_cases hk : keyK pk = 0
  · have HK := Lib.hid hk
    rw [hk, errR_0]
    clear hk
    have S1 := h.ext e1
    obtain ⟨n, hn⟩ : ∃ n, es.length = n := ⟨_, rfl⟩
    have ow := S1.own
    rw [hn] at ow
    obtain ⟨A, c, rfl, hc, hr, hnil⟩ := own_rd ow
    clear hnil ow
    have HR := Lib.hid hr
    have HO := Lib.hid h.asc
    have s0 : W1.cell? ⟨sb, 0, none⟩ = some (.slice A n c) := S1.bk.cell 0
    have HS := Lib.hid S1
    have HH := Lib.hid h
    clear S1 hr h
    have HX := Lib.hid hn
    have hn60 : n ≤ 60 := by rw [← HX.out]; exact HS.out.len
    clear hn
    have HB1 := Lib.hid B1
    have HP0 := Lib.hid p0
    have cw0 : ∀ x : WE W1, x.W.cell? ⟨w.heap.size, 0, none⟩ = some (.string pk) := fun x => (Ext.cell (p := ⟨w.heap.size, 0, none⟩) x.h HB1.out.lt).trans HP0.out
    have HS0 := Lib.hid s0
    have cw1 : ∀ x : WE W1, x.W.cell? ⟨sb, 0, none⟩ = some (.slice A n c) := fun x => (Ext.cell (p := ⟨sb, 0, none⟩) x.h HS.out.bk.lt).trans HS0.out
    clear B1 p0 s0
    go_wp2_with fail
    (refine wp_region_ext (w0 := W1) (by kernel_rfl) (by kernel_rfl) (by (repeat (with_reducible first | exact Ext.refl _ | assumption | refine Ext.drew ?_ | refine Ext.drewN ?_ _ | refine Ext.alloc ?_ _ | refine Ext.trans ?_ (by with_reducible assumption)))) ?_; (repeat (go_big_quiet_step (((go_at_call 71; exact quietE (Find_any A n c es pk _ (HR.out.ext (WE.h _)) hc (by omega) HO.out)))))); refine wpQuiet_nil ?_)
    intro w2 hb2
    have S2 := HS.out.ext hb2
    have B2 := HB1.out.ext hb2
    have p0 : w2.cell? ⟨w.heap.size, 0, none⟩ = some (.string pk) := B2.cell 0
    have p1 : w2.cell? ⟨w.heap.size, 1, none⟩ = some (.string pv) := B2.cell 1
    have p2 : w2.cell? ⟨w.heap.size, 2, none⟩ = some (.bool pg) := B2.cell 2
    have s0 : w2.cell? ⟨sb, 0, none⟩ = some (.slice A n c) := S2.bk.cell 0
    obtain ⟨lo, HLO⟩ : ∃ x, Hid (lowN es pk = x) := ⟨_, rfl⟩
    obtain ⟨hb, HHB⟩ : ∃ x, Hid (hasB es pk = x) := ⟨_, rfl⟩
    rw [HLO.out, HHB.out]
    have HS2 := Lib.hid S2
    have HB2 := Lib.hid B2
    have e2 := e1.trans hb2
    have hpk0 : putK es ⟨pk, pv, pg⟩ = if 200 < pv.size ∨ (hb = false ∧ 60 ≤ n) then 4 else 0 := by
      rw [← HHB.out, ← HX.out]
      unfold putK
      rw [if_neg (not_not_intro HK.out)]
    have HPK0 := Lib.hid hpk0
    clear S2 B2 cw0 cw1 HB1 HP0 HS0 HS HR hpk0
    by_cases hfull : 200 < pv.size ∨ (hb = false ∧ 60 ≤ n)
    · have hpk : putK es ⟨pk, pv, pg⟩ = 4 := by rw [HPK0.out, if_pos hfull]
      have hsl : storeL es ⟨pk, pv, pg⟩ = es := if_neg (by rw [hpk]; decide)
      have HPK := Lib.hid hpk
      have HSL := Lib.hid hsl
      clear hpk hsl HPK0
      have HE2 : Hid (∃ v', StAt w2 B sb v' (storeL es ⟨pk, pv, pg⟩) ∧ Chg w w2 (fun k => k = sb ∨ (Value.slice A n c).ownBlock = some k) ∧ (∀ g, v'.ownBlock = some g → (Value.slice A n c).ownBlock = some g ∨ w.heap.size ≤ g)) := ⟨_, by rw [HSL.out]; exact HS2.out, e2.chg _, fun g hg => .inl hg⟩
      by_cases hv : 200 < pv.size
      · have hvi : (200 : Int) < (pv.size : Int) := by omega
        clear hfull
        go_wp2_with fail
        go_ret
        exact ⟨by rw [HPK.out]; rfl, HE2.out⟩
      · obtain ⟨rfl, h60⟩ := hfull.resolve_left hv
        have hvi : ¬ (200 : Int) < (pv.size : Int) := by omega
        have hni : (60 : Int) ≤ (n : Int) := by omega
        clear hfull
        go_wp2_with fail
        go_ret
        exact ⟨by rw [HPK.out]; rfl, HE2.out⟩
    · have hpk : putK es ⟨pk, pv, pg⟩ = 0 := by rw [HPK0.out, if_neg hfull]
      have hv : pv.size ≤ 200 := Nat.le_of_not_lt fun h => hfull (.inl h)
      have hvi : ¬ (200 : Int) < (pv.size : Int) := by omega
      have hsl : storeL es ⟨pk, pv, pg⟩ = putL es ⟨pk, pv, pg⟩ := if_pos hpk
      have hok : PrOk ⟨pk, pv, pg⟩ := ⟨HK.out, hv, HP.out⟩
      have HOK := Lib.hid hok
      have HPK := Lib.hid hpk
      have HSL := Lib.hid hsl
      clear hpk HPK0 hok hsl
      cases hb with
      | true =>
        clear hfull
        obtain ⟨q, hq, hqk⟩ := has_get HHB.out
        rw [HLO.out] at hq
        have hlo : lo < n := by rw [← HX.out]; exact (List.getElem?_eq_some_iff.1 hq).1
        obtain ⟨g, rfl⟩ : ∃ g, A = some ⟨g, 0, none⟩ := by
          rcases HS2.out.own.2 with ⟨h1, h2⟩ | ⟨g, cap, cur, h1, _⟩
          · have := HX.out; omega
          · injection h1 with h1; exact ⟨g, h1⟩
        have ho := HS2.out.own
        rw [HX.out] at ho
        have q0 : w2.cell? ⟨g, lo * 3, none⟩ = some (.string q.key) := (ho.cellAt (lo * 3) (by omega)).trans (flat_nthP (f := Pr.cells) (k := 3) (fun _ => rfl) es lo q 0 hq (by omega))
        have q1 : w2.cell? ⟨g, lo * 3 + 1, none⟩ = some (.string q.value) := (ho.cellAt (lo * 3 + 1) (by omega)).trans (flat_nthP (f := Pr.cells) (k := 3) (fun _ => rfl) es lo q 1 hq (by omega))
        have q2 : w2.cell? ⟨g, lo * 3 + 2, none⟩ = some (.bool q.gone) := (ho.cellAt (lo * 3 + 2) (by omega)).trans (flat_nthP (f := Pr.cells) (k := 3) (fun _ => rfl) es lo q 2 hq (by omega))
        have f0 := ho.frozenAt (lo * 3)
        have f1 := ho.frozenAt (lo * 3 + 1)
        have f2 := ho.frozenAt (lo * 3 + 2)
        have hgs : g ≠ sb := fun e => own_type ho HS2.out.bk (by decide) (by rw [e]; rfl)
        have hgb : g ≠ w.heap.size := fun e => by
          have h3 := HH.out.own.lt g rfl
          omega
        have HO3 := Lib.hid ho
        clear hq hqk ho
        have hpl : putL es ⟨pk, pv, pg⟩ = es.set lo ⟨pk, pv, pg⟩ := by unfold putL; rw [if_pos HHB.out, HLO.out]
        have HPL := Lib.hid hpl
        clear hpl
        go_wp2_with fail
        go_region
        all_goals
          go_wp2_with fail
          go_ret
          refine ⟨by rw [HPK.out]; rfl, .slice (some ⟨g, 0, none⟩) n c, ?_, ?_, fun g' hg' => .inl hg'⟩
          · rw [HSL.out, HPL.out]
            exact (HS2.out.set3 (p := ⟨pk, pv, pg⟩) HX.out hlo HOK.out (by rw [← HPL.out]; exact putL_asc HO.out _)).1.drew
          · exact (e2.chg _).trans (gb_chg (gb_drew (HS2.out.set3 (p := ⟨pk, pv, pg⟩) HX.out hlo HOK.out (by rw [← HPL.out]; exact putL_asc HO.out _)).2)) fun x _ hx => .inr hx
      | false =>
        have hni : ¬ (60 : Int) ≤ (n : Int) := fun h => hfull (.inr ⟨rfl, by omega⟩)
        have hlo : lo ≤ n := by rw [← HX.out, ← HLO.out]; exact lowN_le _ _
        have hsl := HS2.out.bk.lt
        have fr : w2.frozen? ⟨sb, 0, none⟩ = false := HS2.out.bk.frozen 0
        have ho := HS2.out.own
        rw [HX.out] at ho
        have HO3 := Lib.hid ho
        have hne := own_type ho HS2.out.bk (by decide)
        have HNE := Lib.hid hne
        have hin : ∀ W : World, Ext w2 W → Bk W w2.heap.size 25 #[.string pk, .string pv, .bool pg] → Calls Tryd.prog 105 #[.slice A n c, .int .i64 lo, .slice (some ⟨w2.heap.size, 0, none⟩) 1 1] W fun e w' =>
            ∃ g cap, e = .returned (.slice (some ⟨g, 0, none⟩) (n + 1) cap) ∧ w'.ownsRow B 25 3 (.slice (some ⟨g, 0, none⟩) (n + 1) cap) (n + 1) ((insL es lo ⟨pk, pv, pg⟩).flatMap Pr.cells) ∧ W.grownBy w' (Value.slice A n c).ownBlock ∧ ((Value.slice A n c).ownBlock = some g ∨ W.heap.size ≤ g) ∧ w'.cell? ⟨sb, 0, none⟩ = some (.slice A n c) ∧ w'.frozen? ⟨sb, 0, none⟩ = false ∧ Bk w' sb 109 #[.slice A n c] := fun W hW hBk => by
          refine (Insert_own B n lo w2.heap.size (.slice A n c) (es.flatMap Pr.cells) #[.string pk, .string pv, .bool pg] W hlo (by omega) (Nat.le_trans hB (Nat.le_trans e2.size hW.size)) (own_ext HO3.out hW) rfl hBk ?_ (cells_one es) ?_).mono ?_
          · intro e'
            have := (HO3.out.lt _ e').2
            omega
          · intro u hu
            simp at hu
            rcases hu with rfl | rfl | rfl <;> rfl
          · rintro e w' ⟨g, cap, he, ho, hg, hH⟩
            have hbk := (HS2.out.bk.ext hW).kept hg HNE.out
            exact ⟨g, cap, he, by rw [← cells_ins]; exact ho, hg, hH, hbk.cell 0, hbk.frozen 0, hbk⟩
        have HIN := Lib.hid hin
        have hpl : putL es ⟨pk, pv, pg⟩ = insL es lo ⟨pk, pv, pg⟩ := by unfold putL; rw [if_neg (by rw [HHB.out]; decide), HLO.out]
        have hil : (insL es lo ⟨pk, pv, pg⟩).length = n + 1 := by rw [ins_len (by rw [HX.out]; exact hlo), HX.out]
        have HPL := Lib.hid hpl
        have HIL := Lib.hid hil
        clear hfull ho hne hin hpl hil
        go_wp2_with fail
        go_region_with (go_at_call 105; (with_reducible refine (HIN.out _ (by (repeat (with_reducible first | exact Ext.refl _ | assumption | refine Ext.drew ?_ | refine Ext.drewN ?_ _ | refine Ext.alloc ?_ _ | refine Ext.trans ?_ (by with_reducible assumption)))) (by (repeat (with_reducible first | assumption | (refine Bk.at_ _ _ _ _ ?_; simp; done) | refine Bk.drew ?_ | refine Bk.drewN ?_ _ | refine Bk.alloc ?_ _ | refine Bk.ext ?_ (by with_reducible assumption))))).mono ?_); rintro _ w6 ⟨g, cap, rfl, own6, hg6, hH6, n1, n2, bk6⟩)
        all_goals
          go_wp2_with fail
          go_ret
          refine ⟨by rw [HPK.out]; rfl, .slice (some ⟨g, 0, none⟩) (n + 1) cap, ?_, ?_, fun g' hg' => ?_⟩
          · rw [HSL.out, HPL.out]
            refine ⟨bk6.set_ 0 _, ?_, HS2.out.lo, ?_, ?_, ?_⟩
            · rw [HIL.out]
              exact own6.kept (gb_set w6 sb 0 _) (.inr (own_type own6 bk6 (by decide)))
            · rw [← HPL.out]; exact putL_asc HO.out _
            · rw [HIL.out]; omega
            · intro q hq
              rw [← HPL.out] at hq
              rcases putL_mem HO.out _ hq with rfl | hq
              · exact HOK.out
              · exact HS2.out.ok q hq
          · have g1 : Chg w2 w6 (fun k => (Value.slice A n c).ownBlock = some k) := ((show Ext w2 (w2.alloc (.cells #[.string pk, .string pv, .bool pg] 25)).drew from ((Ext.refl _).alloc _).drew).chg _).trans (gb_chg hg6) fun x _ hx => hx
            have g2 : Chg w2 (w6.setCell ⟨sb, 0, none⟩ (.slice (some ⟨g, 0, none⟩) (n + 1) cap)) (fun k => k = sb ∨ (Value.slice A n c).ownBlock = some k) := (g1.mono (T := fun k => k = sb ∨ (Value.slice A n c).ownBlock = some k) fun x _ hx => .inr hx).trans (gb_chg (gb_set w6 sb 0 _)) fun x _ hx => .inl (by injection hx with hx; exact hx.symm)
            exact (e2.chg _).trans g2 fun x _ hx => hx
          · injection hg' with hg'
            subst hg'
            exact hH6.imp id (fun h => by
              have h5 : w2.heap.size ≤ (w2.alloc (.cells #[.string pk, .string pv, .bool pg] 25)).drew.heap.size := (show Ext w2 (w2.alloc (.cells #[.string pk, .string pv, .bool pg] 25)).drew from ((Ext.refl _).alloc _).drew).size
              have h6 := e2.size
              show w.heap.size ≤ g
              omega)
  · have HK := Lib.hid (isOk_no hk)
    have hpk : putK es ⟨pk, pv, pg⟩ = keyK pk := if_pos hk
    have hsl : storeL es ⟨pk, pv, pg⟩ = es := if_neg (by rw [hpk]; exact hk)
    have HPK := Lib.hid hpk
    obtain ⟨kk, HKK⟩ : ∃ x, Hid (keyK pk = x) := ⟨_, rfl⟩
    rw [HKK.out] at HK HPK
    have HSL := Lib.hid hsl
    rw [HKK.out]
    have hko := HK.out
    have HH := Lib.hid h
    clear hk hpk hsl h
    go_wp2_with fail
    go_ret
    exact ⟨by rw [HPK.out]; rfl, v, by rw [HSL.out]; exact HH.out.ext e1, e1.chg _, fun g hg => .inl hg⟩
end Go.Proofs.YtnafegofmbhahaaDoor
