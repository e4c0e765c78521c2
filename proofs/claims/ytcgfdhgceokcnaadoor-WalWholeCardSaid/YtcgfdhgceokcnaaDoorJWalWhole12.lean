/- A region that draws its order and whose calls make memory: walked once, in the text's order, in the class of the worlds beyond one. -/
import Derived.Test.YtcgfdhgceokcnaaDoorJWalWhole0
import Derived.Deep.QuietTactic
import Derived.BigQuiet
import Derived.StillTail
import Derived.Test.YtcgfdhgceokcnaaDoorJWalWhole10
import Derived.Test.YtcgfdhgceokcnaaDoorJWalWhole11
import Derived.Deep.DeepCutAuto
import Derived.Deep.CutRange
import Derived.Deep.RegionWith
namespace Go.Proofs.YtcgfdhgceokcnaaDoor
open Go.RowKit
set_option linter.unusedVariables false

/-- a world beyond w0 -/
structure WE (w0 : World) where
  W : World
  h : Ext w0 W
instance (w0 : World) : Nonempty (WE w0) := ⟨⟨w0, Ext.refl w0⟩⟩
section
variable {P : Program}
theorem wp_region_ext {id : Nat} {Q : Exit → Act → World → Prop} {a : Act} {w0 w : World} {l : List Oper} (hm : P.follows .mixedOrders = true) (hB : Region.lexB .any l.toArray = true) (h0 : Ext w0 w)
    (h : wpQuiet P l.toArray (fun w' => ∃ x : WE w0, w' = x.W) (fun a' => ∀ w', Ext w0 w' → Q .normal a' w') l a) : (Code.region id l.toArray true).wp P Q a w := by
  refine wp_region_quiet (C := fun w' => ∃ x : WE w0, w' = x.W) hm hB ⟨⟨_, Ext.drew h0⟩, rfl⟩ ?_
  have hQ : ∀ (ops : Array Oper) (l : List Oper) (a : Act), wpQuiet P ops (fun w' => ∃ x : WE w0, w' = x.W) (fun a' => ∀ w', Ext w0 w' → Q .normal a' w') l a → wpQuiet P ops (fun w' => ∃ x : WE w0, w' = x.W) (fun a' => ∀ w', (∃ x : WE w0, w' = x.W) → Q .normal a' w') l a := by
    intro ops l
    induction l with
    | nil =>
      intro a h w' hw
      obtain ⟨x, rfl⟩ := hw
      exact h _ x.h
    | cons o l ih =>
      intro a h
      unfold wpQuiet at h ⊢
      split
      · rename_i hw
        rw [if_pos hw] at h
        exact Oper.quiet_mono ih h
      · rename_i hw
        rw [if_neg hw] at h
        exact ih _ h
  exact hQ _ _ _ h
theorem quietE {f : FuncId} {args : Array Value} {w0 : World} {x : WE w0} {v : Value} (h : Calls P f args x.W fun e w' => e = .returned v ∧ Ext x.W w') :
    Calls P f args x.W fun e w'' => e = .returned v ∧ ∃ y : WE w0, w'' = y.W := h.mono fun _ w' ⟨he, hw⟩ => ⟨he, ⟨w', x.h.trans hw⟩, rfl⟩
theorem quietS {f : FuncId} {args : Array Value} {w0 : World} {x : WE w0} {v : Value} (h : Calls P f args x.W fun e w' => e = .returned v ∧ x.W = w') :
    Calls P f args x.W fun e w'' => e = .returned v ∧ ∃ y : WE w0, w'' = y.W := h.mono fun _ _ ⟨he, hw⟩ => ⟨he, x, hw.symm⟩
end
end Go.Proofs.YtcgfdhgceokcnaaDoor

/- A region that draws its order, whose calls make memory, and whose last operations write: all but the last ones walked once, in the text's order, in the class of the worlds beyond one; then the last ones. -/
namespace Go.Proofs.YtcgfdhgceokcnaaDoor
open Go.RowKit Go
set_option linter.unusedVariables false

section
variable {P : Program} {ops : Array Oper} {md : Region.Mode} {C : World → Prop}
def wpAnyQL (P : Program) (md : Region.Mode) (ops : Array Oper) (C : World → Prop) (n : Nat) (L : Array Bool → Act → Prop) : Nat → Array Bool → Act → Prop
  | 0, listed, a => L listed a
  | f + 1, listed, a => Region.ready md ops listed ≠ [] ∧ ∀ i ∈ Region.ready md ops listed, i < n ∧ qOp P ops C i (wpAnyQL P md ops C n L f (listed.setIfInBounds i true)) a

theorem wpAny_of_headQ {n g : Nat} {L : Array Bool → Act → Prop} {Q' : Exit → Act → World → Prop} (hL : ∀ listed a w, C w → L listed a → wpAny P md ops Q' g listed a w) :
    ∀ (f : Nat) (listed : Array Bool) (a : Act) (w : World), C w → wpAnyQL P md ops C n L f listed a → wpAny P md ops Q' (f + g) listed a w
  | 0, listed, a, w, hw, h => by rw [Nat.zero_add]; exact hL _ _ _ hw h
  | f + 1, listed, a, w, hw, h => by
    rw [show f + 1 + g = (f + g) + 1 by omega]
    exact ⟨fun h0 => absurd h0 h.1, fun i hi => wpOp_of_qOp hw (fun a' w' hw' h' => wpAny_of_headQ hL f _ a' w' hw' h') (h.2 i hi).2⟩

theorem wpAnyQL_first {n i : Nat} {oi : Oper} {v : Value} {L : Array Bool → Act → Prop} (hi : ops[i]? = some oi) (hsel : ∀ (j : Nat) (o : Oper) cs b, ops[j]? = some o → o.op ≠ .select cs b)
    (hs : Region.sinkB md ops n = true) (hc : Region.chainB md ops n = true) (hn : n < ops.size) (hin : i < n)
    (hdone : ∀ listed a, L listed a → ∀ j ∈ Region.ready md ops listed, n ≤ j) :
    ∀ (f : Nat) (listed : Array Bool) (a : Act), HeadInv md ops n listed →
      (∀ j oj, ops[j]? = some oj → j ≠ i → listed.getD j true = false → (∀ e ∈ oj.after, Region.binds md e = true → e.on ≠ i) → oi.apart ops oj = true) →
      i ∈ Region.ready md ops listed → YieldsIn P ops C oi v a →
      wpAnyQL P md ops C n L f (listed.setIfInBounds i true) (a.put oi.dst v) → wpAnyQL P md ops C n L (f + 1) listed a := by
  intro f
  induction f with
  | zero =>
    intro listed a inv _ hr hy H
    refine ⟨fun h => (by rw [h] at hr; cases hr), fun j hj => ?_⟩
    have hjn : j < n := by
      rcases Nat.lt_or_ge j n with h | h
      · exact h
      · exact absurd hj (tail_waits hs hc hn inv _ i rfl hin (mem_ready.1 hr).1 j h)
    refine ⟨hjn, ?_⟩
    by_cases hji : j = i
    · subst hji; exact hy.qOp hi H
    · have := hdone _ _ H j (ready_mono hj hji)
      omega
  | succ f ih =>
    intro listed a inv hfree hr hy H
    have hun := (mem_ready.1 hr).1
    refine ⟨fun h => (by rw [h] at hr; cases hr), fun j hj => ?_⟩
    have hjn : j < n := by
      rcases Nat.lt_or_ge j n with h | h
      · exact h
      · exact absurd hj (tail_waits hs hc hn inv _ i rfl hin hun j h)
    refine ⟨hjn, ?_⟩
    by_cases hji : j = i
    · subst hji; exact hy.qOp hi H
    · have h1 := (H.2 j (ready_mono hj hji)).2
      obtain ⟨hjun, oj, hoj, hall⟩ := mem_ready.1 hj
      have hnot : ∀ e ∈ oj.after, Region.binds md e = true → e.on ≠ i := fun e he hb heq => by
        have h1 := hall e he hb
        rw [heq, getD_both hun] at h1
        cases h1
      have h2 := qOp_put hoj (hfree j oj hoj hji hjun hnot) (fun cs b => hsel i oi cs b hi) (fun cs b => hsel j oj cs b hoj) hy h1
      have hfree' : ∀ k ok, ops[k]? = some ok → k ≠ i → (listed.setIfInBounds j true).getD k true = false →
          (∀ e ∈ ok.after, Region.binds md e = true → e.on ≠ i) → oi.apart ops ok = true := fun k ok hk hki hun hno => by
        refine hfree k ok hk hki ?_ hno
        by_cases hjk : j = k
        · subst hjk; exact hjun
        · rw [getD_set_ne true hjk] at hun; exact hun
      refine qOp_mono (fun a' h3 => ih (listed.setIfInBounds j true) a' (inv.set hj hjn) hfree' (ready_mono hr (Ne.symm hji)) h3.1 ?_) h2
      rw [Array.setIfInBounds_comm _ _ hji]
      exact h3.2

theorem wpAnyQL_lex {n g : Nat} {Lq : Act → Prop} (hsel : Region.noSelect ops = true) (hs : Region.sinkB md ops n = true) (hc : Region.chainB md ops n = true) (hn : n < ops.size) :
    ∀ (l : List Oper) (k : Nat) (listed : Array Bool) (a : Act), (∀ j, j < l.length → l[j]? = ops[k + j]?) → k + l.length = n → HeadInv md ops n listed →
    Region.lexHead md ops g l.length k listed = true → wpQuiet P ops C Lq l a →
    wpAnyQL P md ops C n (fun listed' a' => Region.seqB md ops g n listed' = true ∧ Lq a') l.length listed a
  | [], k, listed, a, _, hk, _, hB, h => by
    have : k = n := by simpa using hk
    subst this
    exact ⟨by simpa [Region.lexHead] using hB, h⟩
  | o :: l, k, listed, a, hl, hk, inv, hB, h => by
    have h0 : ops[k]? = some o := by simpa using (hl 0 (by simp)).symm
    simp only [List.length_cons, Region.lexHead, Bool.and_eq_true] at hB
    obtain ⟨⟨hr, hf⟩, hB'⟩ := hB
    have hkn : k < n := by simp only [List.length_cons] at hk; omega
    have hr' : k ∈ Region.ready md ops listed := by simpa using hr
    have hst : qOp P ops C k (wpQuiet P ops C Lq l) a := by unfold qOp; simp only [h0]; exact h
    obtain ⟨v, hy, hK⟩ := yieldsIn_of_qOp h0 hst
    exact wpAnyQL_first h0 (Region.noSelect_spec hsel) hs hc hn hkn (fun listed' a' hL => seqB_ready hL.1) l.length listed a inv (Region.free_spec h0 hf) hr' hy
      (wpAnyQL_lex hsel hs hc hn l (k + 1) _ _ (fun j hj => by have := hl (j + 1) (by simp; omega); simpa [Nat.add_assoc, Nat.add_comm 1 j] using this) (by simp only [List.length_cons] at hk; omega) (inv.set hr' hkn) hB' hK)

/-- all but the last operations in a class of worlds, then the last ones from whatever world of the class -/
theorem wp_region_quiet_tail {id : Nat} {Q : Exit → Act → World → Prop} {a : Act} {w : World} {l : List Oper} (n : Nat) (hm : P.follows .mixedOrders = true) (hB : Region.lexTailB .any l.toArray n = true) (hC : C { w with drawn := w.drawn + 1 })
    (h : wpQuiet P l.toArray C (fun a' => ∀ w', C w' → wpList P l.toArray Q (l.drop n) a' w') (l.take n) a) : (Code.region id l.toArray true).wp P Q a w := by
  simp only [Region.lexTailB, Bool.and_eq_true, decide_eq_true_eq] at hB
  obtain ⟨⟨⟨⟨hsel, hn⟩, hs⟩, hc⟩, hlex⟩ := hB
  have hn' : n < l.length := by simpa using hn
  have htl : (l.take n).length = n := by simp; omega
  have hdl : (l.drop n).length = l.toArray.size - n := by simp
  have inv0 : HeadInv .any l.toArray n (Array.replicate l.toArray.size false) :=
    ⟨by simp, fun j oj _ hl => (by rw [getD_replicate_false] at hl; cases hl), fun t _ ht => getD_in (by simpa using ht) (getD_replicate_false _ _)⟩
  have H := wpAnyQL_lex (md := .any) (g := l.toArray.size - n) hsel hs hc hn (l.take n) 0 _ a (fun j hj => by
    have hj' : j < n := by rw [htl] at hj; exact hj
    simp [hj']) (by simpa using htl) inv0 (by rw [htl]; exact hlex) h
  refine wp_region_any hm ?_
  have := wpAny_of_headQ (Q' := Q) (g := l.toArray.size - n) (fun listed a' w' hw' hL => by
    have := wpAny_of_seq (md := .any) (Q' := Q) (l.drop n) n listed a' w' (fun j => by simp [List.getElem?_drop]) (by rw [hdl]; exact hL.1) (hL.2 w' hw')
    rwa [hdl] at this) _ _ _ _ hC H
  rw [htl, show n + (l.toArray.size - n) = l.toArray.size by omega] at this
  exact this

theorem wp_region_ext_tail {id : Nat} {Q : Exit → Act → World → Prop} {a : Act} {w0 w : World} {l : List Oper} (n : Nat) (hm : P.follows .mixedOrders = true) (hB : Region.lexTailB .any l.toArray n = true) (h0 : Ext w0 w)
    (h : wpQuiet P l.toArray (fun w' => ∃ x : WE w0, w' = x.W) (fun a' => ∀ w', (∃ x : WE w0, w' = x.W) → wpList P l.toArray Q (l.drop n) a' w') (l.take n) a) : (Code.region id l.toArray true).wp P Q a w :=
  wp_region_quiet_tail (C := fun w' => ∃ x : WE w0, w' = x.W) n hm hB ⟨⟨_, Ext.drew h0⟩, rfl⟩ h
end
end Go.Proofs.YtcgfdhgceokcnaaDoor

/- store: a list of pairs in memory; put. -/
namespace Go.Proofs.YtcgfdhgceokcnaaDoor
open Go.RowKit
set_option linter.unusedVariables false
attribute [local go_sem ↓] Go.wp_at_zero Go.wp_at_succ

def PrOk (p : Pr) : Prop := keyK p.key = 0 ∧ p.value.size ≤ 200 ∧ (p.gone = true → p.value.size = 0)
/-- a store in memory -/
structure StAt (w : World) (B sb : Nat) (v : Value) (es : List Pr) : Prop where
  bk : Bk w sb 65 #[v]
  own : w.ownsRow B 30 3 v es.length (es.flatMap Pr.cells)
  lo : B ≤ sb
  asc : Asc es
  len : es.length ≤ 60
  ok : ∀ p ∈ es, PrOk p
theorem StAt.chg {w w' : World} {B sb : Nat} {v : Value} {es : List Pr} {S : Nat → Prop} (h : StAt w B sb v es) (k : Chg w w' S) (h1 : ¬ S sb) (h2 : ∀ g, v.ownBlock = some g → ¬ S g) : StAt w' B sb v es :=
  ⟨h.bk.chg k h1, own_chg h.own k h2, h.lo, h.asc, h.len, h.ok⟩
theorem StAt.ext {w w' : World} {B sb : Nat} {v : Value} {es : List Pr} (h : StAt w B sb v es) (k : Ext w w') : StAt w' B sb v es := ⟨h.bk.ext k, own_ext h.own k, h.lo, h.asc, h.len, h.ok⟩

theorem StAt.drew {w : World} {B sb : Nat} {v : Value} {es : List Pr} (h : StAt w B sb v es) : StAt w.drew B sb v es := h.ext (Ext.refl w).drew
theorem StAt.set3 {w : World} {B sb g n c lo : Nat} {es : List Pr} {p : Pr} (h : StAt w B sb (.slice (some ⟨g, 0, none⟩) n c) es) (hx : es.length = n) (hlo : lo < n) (hok : PrOk p) (ha : Asc (es.set lo p)) :
    StAt (((w.setCell ⟨g, lo * 3, none⟩ (.string p.key)).setCell ⟨g, lo * 3 + 1, none⟩ (.string p.value)).setCell ⟨g, lo * 3 + 2, none⟩ (.bool p.gone)) B sb (.slice (some ⟨g, 0, none⟩) n c) (es.set lo p) ∧
    w.grownBy (((w.setCell ⟨g, lo * 3, none⟩ (.string p.key)).setCell ⟨g, lo * 3 + 1, none⟩ (.string p.value)).setCell ⟨g, lo * 3 + 2, none⟩ (.bool p.gone)) (some g) := by
  have ho := h.own
  rw [hx] at ho
  have hne : g ≠ sb := fun e => own_type ho h.bk (by decide) (by rw [e]; rfl)
  have o1 := ho.stored (lo * 3) (.string p.key)
  have o2 := o1.1.stored (lo * 3 + 1) (.string p.value)
  have o3 := o2.1.stored (lo * 3 + 2) (.bool p.gone)
  have hg := gb_trans (gb_trans o1.2 o2.2) o3.2
  refine ⟨⟨h.bk.kept hg (fun e => hne (by injection e)), ?_, h.lo, ha, by rw [List.length_set]; exact h.len, fun q hq => ?_⟩, hg⟩
  · rw [List.length_set, hx, ← cells_set es lo p (by omega)]
    exact o3.1
  · obtain ⟨i, hi⟩ := List.getElem?_of_mem hq
    by_cases hil : i = lo
    · subst hil
      rw [List.getElem?_set_self (by omega)] at hi
      injection hi with hi
      rw [← hi]; exact hok
    · rw [List.getElem?_set_ne (Ne.symm hil)] at hi
      exact h.ok q (List.mem_of_getElem? hi)

set_option maxRecDepth 100000 in
set_option maxHeartbeats 2000000 in
theorem put_any (B sb : Nat) (v : Value) (es : List Pr) (p : Pr) (w : World) (h : StAt w B sb v es) (hB : B ≤ w.heap.size) (hp : p.gone = true → p.value.size = 0) :
    Calls Tryd.prog 55 #[.pointer (some ⟨sb, 0, none⟩), p.val] w fun e w' => e = .returned (errR (putK es p)) ∧ ∃ v', StAt w' B sb v' (storeL es p) ∧ Chg w w' (fun k => k = sb ∨ v.ownBlock = some k) ∧ (∀ g, v'.ownBlock = some g → v.ownBlock = some g ∨ w.heap.size ≤ g) := by
  obtain ⟨hE, hN, hG⟩ := errR_rules
  obtain ⟨pk, pv, pg⟩ := p
  have HP := Lib.hid hp
  clear hp
  have B1 := Bk.at_ w 30 #[.string pk, .string pv, .bool pg] w.heap.size rfl
  have e1 : Ext w (w.alloc (.cells #[.string pk, .string pv, .bool pg] 30)) := (Ext.refl _).alloc _
  have p0 : (w.alloc (.cells #[.string pk, .string pv, .bool pg] 30)).cell? ⟨w.heap.size, 0, none⟩ = some (.string pk) := B1.cell 0
  go_enter Tryd.func55, Tryd.ntmps55
  go_wp2_with fail
  generalize w.alloc (.cells #[.string pk, .string pv, .bool pg] 30) = W1 at *
  refine (Key_any pk _).mono ?_
  rintro _ _ ⟨rfl, rfl⟩
  by_cases hk : keyK pk = 0
  · have HK := Lib.hid hk
    rw [hk, errR_0]
    clear hk
    have S1 := h.ext e1
    obtain ⟨n, hn⟩ : ∃ n, es.length = n := ⟨_, rfl⟩
    have ow := S1.own
    rw [hn] at ow
    obtain ⟨A, c, rfl, hc, hr, hnil⟩ := own_rd ow
    clear hnil ow
    have HR := Lib.hid hr
    have HO := Lib.hid h.asc
    have s0 : W1.cell? ⟨sb, 0, none⟩ = some (.slice A n c) := S1.bk.cell 0
    have HS := Lib.hid S1
    have HH := Lib.hid h
    clear S1 hr h
    have HX := Lib.hid hn
    have hn60 : n ≤ 60 := by rw [← HX.out]; exact HS.out.len
    clear hn
    have HB1 := Lib.hid B1
    have HP0 := Lib.hid p0
    have cw0 : ∀ x : WE W1, x.W.cell? ⟨w.heap.size, 0, none⟩ = some (.string pk) := fun x => (Ext.cell (p := ⟨w.heap.size, 0, none⟩) x.h HB1.out.lt).trans HP0.out
    have HS0 := Lib.hid s0
    have cw1 : ∀ x : WE W1, x.W.cell? ⟨sb, 0, none⟩ = some (.slice A n c) := fun x => (Ext.cell (p := ⟨sb, 0, none⟩) x.h HS.out.bk.lt).trans HS0.out
    clear B1 p0 s0
    go_wp2_with fail
    (refine wp_region_ext (w0 := W1) (by kernel_rfl) (by kernel_rfl) (by (repeat (with_reducible first | exact Ext.refl _ | assumption | refine Ext.drew ?_ | refine Ext.drewN ?_ _ | refine Ext.alloc ?_ _ | refine Ext.trans ?_ (by with_reducible assumption)))) ?_; (repeat (go_big_quiet_step (((go_at_call 24; exact quietE (Find_any A n c es pk _ (HR.out.ext (WE.h _)) hc (by omega) HO.out)))))); refine wpQuiet_nil ?_)
    intro w2 hb2
    have S2 := HS.out.ext hb2
    have B2 := HB1.out.ext hb2
    have p0 : w2.cell? ⟨w.heap.size, 0, none⟩ = some (.string pk) := B2.cell 0
    have p1 : w2.cell? ⟨w.heap.size, 1, none⟩ = some (.string pv) := B2.cell 1
    have p2 : w2.cell? ⟨w.heap.size, 2, none⟩ = some (.bool pg) := B2.cell 2
    have s0 : w2.cell? ⟨sb, 0, none⟩ = some (.slice A n c) := S2.bk.cell 0
    obtain ⟨lo, HLO⟩ : ∃ x, Hid (lowN es pk = x) := ⟨_, rfl⟩
    obtain ⟨hb, HHB⟩ : ∃ x, Hid (hasB es pk = x) := ⟨_, rfl⟩
    rw [HLO.out, HHB.out]
    have HS2 := Lib.hid S2
    have HB2 := Lib.hid B2
    have e2 := e1.trans hb2
    have hpk0 : putK es ⟨pk, pv, pg⟩ = if 200 < pv.size ∨ (hb = false ∧ 60 ≤ n) then 4 else 0 := by
      rw [← HHB.out, ← HX.out]
      unfold putK
      rw [if_neg (not_not_intro HK.out)]
    have HPK0 := Lib.hid hpk0
    clear S2 B2 cw0 cw1 HB1 HP0 HS0 HS HR hpk0
    by_cases hfull : 200 < pv.size ∨ (hb = false ∧ 60 ≤ n)
    · have hpk : putK es ⟨pk, pv, pg⟩ = 4 := by rw [HPK0.out, if_pos hfull]
      have hsl : storeL es ⟨pk, pv, pg⟩ = es := if_neg (by rw [hpk]; decide)
      have HPK := Lib.hid hpk
      have HSL := Lib.hid hsl
      clear hpk hsl HPK0
      have HE2 : Hid (∃ v', StAt w2 B sb v' (storeL es ⟨pk, pv, pg⟩) ∧ Chg w w2 (fun k => k = sb ∨ (Value.slice A n c).ownBlock = some k) ∧ (∀ g, v'.ownBlock = some g → (Value.slice A n c).ownBlock = some g ∨ w.heap.size ≤ g)) := ⟨_, by rw [HSL.out]; exact HS2.out, e2.chg _, fun g hg => .inl hg⟩
      by_cases hv : 200 < pv.size
      · have hvi : (200 : Int) < (pv.size : Int) := by omega
        clear hfull
        go_wp2_with fail
        go_ret
        exact ⟨by rw [HPK.out]; rfl, HE2.out⟩
      · obtain ⟨rfl, h60⟩ := hfull.resolve_left hv
        have hvi : ¬ (200 : Int) < (pv.size : Int) := by omega
        have hni : (60 : Int) ≤ (n : Int) := by omega
        clear hfull
        go_wp2_with fail
        go_ret
        exact ⟨by rw [HPK.out]; rfl, HE2.out⟩
    · have hpk : putK es ⟨pk, pv, pg⟩ = 0 := by rw [HPK0.out, if_neg hfull]
      have hv : pv.size ≤ 200 := Nat.le_of_not_lt fun h => hfull (.inl h)
      have hvi : ¬ (200 : Int) < (pv.size : Int) := by omega
      have hsl : storeL es ⟨pk, pv, pg⟩ = putL es ⟨pk, pv, pg⟩ := if_pos hpk
      have hok : PrOk ⟨pk, pv, pg⟩ := ⟨HK.out, hv, HP.out⟩
      have HOK := Lib.hid hok
      have HPK := Lib.hid hpk
      have HSL := Lib.hid hsl
      clear hpk HPK0 hok hsl
      cases hb with
      | true =>
        clear hfull
        obtain ⟨q, hq, hqk⟩ := has_get HHB.out
        rw [HLO.out] at hq
        have hlo : lo < n := by rw [← HX.out]; exact (List.getElem?_eq_some_iff.1 hq).1
        obtain ⟨g, rfl⟩ : ∃ g, A = some ⟨g, 0, none⟩ := by
          rcases HS2.out.own.2 with ⟨h1, h2⟩ | ⟨g, cap, cur, h1, _⟩
          · have := HX.out; omega
          · injection h1 with h1; exact ⟨g, h1⟩
        have ho := HS2.out.own
        rw [HX.out] at ho
        have q0 : w2.cell? ⟨g, lo * 3, none⟩ = some (.string q.key) := (ho.cellAt (lo * 3) (by omega)).trans (flat_nthP (f := Pr.cells) (k := 3) (fun _ => rfl) es lo q 0 hq (by omega))
        have q1 : w2.cell? ⟨g, lo * 3 + 1, none⟩ = some (.string q.value) := (ho.cellAt (lo * 3 + 1) (by omega)).trans (flat_nthP (f := Pr.cells) (k := 3) (fun _ => rfl) es lo q 1 hq (by omega))
        have q2 : w2.cell? ⟨g, lo * 3 + 2, none⟩ = some (.bool q.gone) := (ho.cellAt (lo * 3 + 2) (by omega)).trans (flat_nthP (f := Pr.cells) (k := 3) (fun _ => rfl) es lo q 2 hq (by omega))
        have f0 := ho.frozenAt (lo * 3)
        have f1 := ho.frozenAt (lo * 3 + 1)
        have f2 := ho.frozenAt (lo * 3 + 2)
        have hgs : g ≠ sb := fun e => own_type ho HS2.out.bk (by decide) (by rw [e]; rfl)
        have hgb : g ≠ w.heap.size := fun e => by
          have h3 := HH.out.own.lt g rfl
          omega
        have HO3 := Lib.hid ho
        clear hq hqk ho
        have hpl : putL es ⟨pk, pv, pg⟩ = es.set lo ⟨pk, pv, pg⟩ := by unfold putL; rw [if_pos HHB.out, HLO.out]
        have HPL := Lib.hid hpl
        clear hpl
        go_wp2_with fail
        go_region
        all_goals
          go_wp2_with fail
          go_ret
          refine ⟨by rw [HPK.out]; rfl, .slice (some ⟨g, 0, none⟩) n c, ?_, ?_, fun g' hg' => .inl hg'⟩
          · rw [HSL.out, HPL.out]
            exact (HS2.out.set3 (p := ⟨pk, pv, pg⟩) HX.out hlo HOK.out (by rw [← HPL.out]; exact putL_asc HO.out _)).1.drew
          · exact (e2.chg _).trans (gb_chg (gb_drew (HS2.out.set3 (p := ⟨pk, pv, pg⟩) HX.out hlo HOK.out (by rw [← HPL.out]; exact putL_asc HO.out _)).2)) fun x _ hx => .inr hx
      | false =>
        have hni : ¬ (60 : Int) ≤ (n : Int) := fun h => hfull (.inr ⟨rfl, by omega⟩)
        have hlo : lo ≤ n := by rw [← HX.out, ← HLO.out]; exact lowN_le _ _
        have hsl := HS2.out.bk.lt
        have fr : w2.frozen? ⟨sb, 0, none⟩ = false := HS2.out.bk.frozen 0
        have ho := HS2.out.own
        rw [HX.out] at ho
        have HO3 := Lib.hid ho
        have hne := own_type ho HS2.out.bk (by decide)
        have HNE := Lib.hid hne
        have hin : ∀ W : World, Ext w2 W → Bk W w2.heap.size 30 #[.string pk, .string pv, .bool pg] → Calls Tryd.prog 25 #[.slice A n c, .int .i64 lo, .slice (some ⟨w2.heap.size, 0, none⟩) 1 1] W fun e w' =>
            ∃ g cap, e = .returned (.slice (some ⟨g, 0, none⟩) (n + 1) cap) ∧ w'.ownsRow B 30 3 (.slice (some ⟨g, 0, none⟩) (n + 1) cap) (n + 1) ((insL es lo ⟨pk, pv, pg⟩).flatMap Pr.cells) ∧ W.grownBy w' (Value.slice A n c).ownBlock ∧ ((Value.slice A n c).ownBlock = some g ∨ W.heap.size ≤ g) ∧ w'.cell? ⟨sb, 0, none⟩ = some (.slice A n c) ∧ w'.frozen? ⟨sb, 0, none⟩ = false ∧ Bk w' sb 65 #[.slice A n c] := fun W hW hBk => by
          refine (Insert_own B n lo w2.heap.size (.slice A n c) (es.flatMap Pr.cells) #[.string pk, .string pv, .bool pg] W hlo (by omega) (Nat.le_trans hB (Nat.le_trans e2.size hW.size)) (own_ext HO3.out hW) rfl hBk ?_ (cells_one es) ?_).mono ?_
          · intro e'
            have := (HO3.out.lt _ e').2
            omega
          · intro u hu
            simp at hu
            rcases hu with rfl | rfl | rfl <;> rfl
          · rintro e w' ⟨g, cap, he, ho, hg, hH⟩
            have hbk := (HS2.out.bk.ext hW).kept hg HNE.out
            exact ⟨g, cap, he, by rw [← cells_ins]; exact ho, hg, hH, hbk.cell 0, hbk.frozen 0, hbk⟩
        have HIN := Lib.hid hin
        have hpl : putL es ⟨pk, pv, pg⟩ = insL es lo ⟨pk, pv, pg⟩ := by unfold putL; rw [if_neg (by rw [HHB.out]; decide), HLO.out]
        have hil : (insL es lo ⟨pk, pv, pg⟩).length = n + 1 := by rw [ins_len (by rw [HX.out]; exact hlo), HX.out]
        have HPL := Lib.hid hpl
        have HIL := Lib.hid hil
        clear hfull ho hne hin hpl hil
        go_wp2_with fail
        go_region_with (go_at_call 25; (with_reducible refine (HIN.out _ (by (repeat (with_reducible first | exact Ext.refl _ | assumption | refine Ext.drew ?_ | refine Ext.drewN ?_ _ | refine Ext.alloc ?_ _ | refine Ext.trans ?_ (by with_reducible assumption)))) (by (repeat (with_reducible first | assumption | (refine Bk.at_ _ _ _ _ ?_; simp; done) | refine Bk.drew ?_ | refine Bk.drewN ?_ _ | refine Bk.alloc ?_ _ | refine Bk.ext ?_ (by with_reducible assumption))))).mono ?_); rintro _ w6 ⟨g, cap, rfl, own6, hg6, hH6, n1, n2, bk6⟩)
        all_goals
          go_wp2_with fail
          go_ret
          refine ⟨by rw [HPK.out]; rfl, .slice (some ⟨g, 0, none⟩) (n + 1) cap, ?_, ?_, fun g' hg' => ?_⟩
          · rw [HSL.out, HPL.out]
            refine ⟨bk6.set_ 0 _, ?_, HS2.out.lo, ?_, ?_, ?_⟩
            · rw [HIL.out]
              exact own6.kept (gb_set w6 sb 0 _) (.inr (own_type own6 bk6 (by decide)))
            · rw [← HPL.out]; exact putL_asc HO.out _
            · rw [HIL.out]; omega
            · intro q hq
              rw [← HPL.out] at hq
              rcases putL_mem HO.out _ hq with rfl | hq
              · exact HOK.out
              · exact HS2.out.ok q hq
          · have g1 : Chg w2 w6 (fun k => (Value.slice A n c).ownBlock = some k) := ((show Ext w2 (w2.alloc (.cells #[.string pk, .string pv, .bool pg] 30)).drew from ((Ext.refl _).alloc _).drew).chg _).trans (gb_chg hg6) fun x _ hx => hx
            have g2 : Chg w2 (w6.setCell ⟨sb, 0, none⟩ (.slice (some ⟨g, 0, none⟩) (n + 1) cap)) (fun k => k = sb ∨ (Value.slice A n c).ownBlock = some k) := (g1.mono (T := fun k => k = sb ∨ (Value.slice A n c).ownBlock = some k) fun x _ hx => .inr hx).trans (gb_chg (gb_set w6 sb 0 _)) fun x _ hx => .inl (by injection hx with hx; exact hx.symm)
            exact (e2.chg _).trans g2 fun x _ hx => hx
          · injection hg' with hg'
            subst hg'
            exact hH6.imp id (fun h => by
              have h5 : w2.heap.size ≤ (w2.alloc (.cells #[.string pk, .string pv, .bool pg] 30)).drew.heap.size := (show Ext w2 (w2.alloc (.cells #[.string pk, .string pv, .bool pg] 30)).drew from ((Ext.refl _).alloc _).drew).size
              have h6 := e2.size
              show w.heap.size ≤ g
              omega)
  · have HK := Lib.hid (isOk_no hk)
    have hpk : putK es ⟨pk, pv, pg⟩ = keyK pk := if_pos hk
    have hsl : storeL es ⟨pk, pv, pg⟩ = es := if_neg (by rw [hpk]; exact hk)
    have HPK := Lib.hid hpk
    obtain ⟨kk, HKK⟩ : ∃ x, Hid (keyK pk = x) := ⟨_, rfl⟩
    rw [HKK.out] at HK HPK
    have HSL := Lib.hid hsl
    rw [HKK.out]
    have hko := HK.out
    have HH := Lib.hid h
    clear hk hpk hsl h
    go_wp2_with fail
    go_ret
    exact ⟨by rw [HPK.out]; rfl, v, by rw [HSL.out]; exact HH.out.ext e1, e1.chg _, fun g hg => .inl hg⟩
end Go.Proofs.YtcgfdhgceokcnaaDoor

/- store: its methods. -/
namespace Go.Proofs.YtcgfdhgceokcnaaDoor
open Go.RowKit
set_option linter.unusedVariables false
attribute [local go_sem ↓] Go.wp_at_zero Go.wp_at_succ

set_option maxRecDepth 100000 in
set_option maxHeartbeats 1000000 in
theorem CloneP_any (A : Option Addr) (n c : Nat) (xs : List Value) (w : World) (hr : Rd w 3 A n c xs) (hn : n ≤ 200000000) (hm : c ≤ maxLen) (h1 : ∀ u ∈ xs, u.oneCell' = true) :
    Calls Tryd.prog 28 #[.slice A n c] w fun e w' => (∃ v', e = .returned v' ∧ w'.ownsRow w.heap.size 30 3 v' n xs) ∧ Ext w w' := by
  obtain ⟨i0, hi0, hz0, hzs, hzb⟩ := info_parts info_pair
  have q22 : ∀ (w : World) (a : Option Addr) (n c n' c' : Nat), (binOp .eql 27 (.slice a n c) (.slice none n' c')).run Tryd.prog w = .ok (.bool a.isNone) w := fun w a n c n' c' => Lib.run_eql_slice_nil w _ _ a n c n' c' Tryd.underlying27
  unfold maxLen at hm
  cases A with
  | none =>
    have : n = 0 := by
      rcases Nat.eq_zero_or_pos n with h | h
      · exact h
      · obtain ⟨ad, h1, _⟩ := hr.2.2 h; cases h1
    subst this
    have : xs = [] := List.eq_nil_of_length_eq_zero (by have := hr.1; omega)
    subst this
    go_enter Tryd.func28, Tryd.ntmps28
    go_wp2_with fail
    go_ret
    exact ⟨⟨_, rfl, own_nil _ _ _ _⟩, Ext.refl _⟩
  | some a =>
    have hl := hr.1
    have HC : Hid (∀ j u, xs[j]? = some u → w.cell? (a.add j) = some u) := Lib.hid fun j u hj => by
      have hp : 0 < n := by
        rcases Nat.eq_zero_or_pos n with h | h
        · subst h
          have := (List.getElem?_eq_some_iff.1 hj).1
          omega
        · exact h
      obtain ⟨ad, h1, h2, h3⟩ := hr.2.2 hp
      obtain rfl : a = ad := by injection h1
      exact h3 j u hj
    have H1 := Lib.hid h1
    clear hr h1
    have o0 : (w.alloc (.cells #[] 30)).ownsRow w.heap.size 30 3 (.slice (some ⟨w.heap.size, 0, none⟩) 0 0) 0 [] := World.ownsRow_made w #[] 0 (Nat.le_refl _) (Nat.zero_le _) (by simp)
    have hc0 : ∀ (j : Nat) u, xs[j]? = some u → (w.alloc (.cells #[] 30)).cell? (a.add j) = some u := fun j u hj => Lib.cell?_alloc_some _ (HC.out j u hj)
    have HC0 := Lib.hid hc0
    clear hc0
    have e0 : Ext w (w.alloc (.cells #[] 30)) := (Ext.refl _).alloc _
    have hb : w.heap.size ≤ (w.alloc (.cells #[] 30)).heap.size := e0.size
    go_enter Tryd.func28, Tryd.ntmps28
    go_wp2_with (at_builtin; refine wpList_append_own _ rfl _ _ 27 rfl w.heap.size 30 i0 _ 3 40 Tryd.underlying27 hi0 hz0 hzs hzb rfl (by omega) _ _ _ rfl o0 a n _ xs rfl hl HC0.out H1.out (by unfold maxLen; omega) (by omega) hb ?_; intro v' w6 own6 hg6 hH6)
    go_ret
    refine ⟨⟨v', rfl, ?_⟩, e0.gbn hg6 (Nat.le_refl _)⟩
    rw [Nat.zero_add, List.nil_append] at own6
    exact own6

theorem SNew_any (B : Nat) (w : World) (hB : B ≤ w.heap.size) :
    Calls Tryd.prog 19 #[] w fun e w' => e = .returned (.pointer (some ⟨w.heap.size, 0, none⟩)) ∧ StAt w' B w.heap.size (.slice none 0 0) [] ∧ Ext w w' := by
  have B0 := Bk.at_ w 65 #[.slice none 0 0] w.heap.size rfl
  go_enter Tryd.func19, Tryd.ntmps19
  go_wp2_with fail
  go_ret
  exact ⟨rfl, ⟨B0, own_nil _ _ _ _, hB, Asc.nil, Nat.zero_le _, fun p hp => by simp at hp⟩, (Ext.refl _).alloc _⟩

theorem SPut_any (B sb : Nat) (v : Value) (es : List Pr) (key value : ByteArray) (w : World) (h : StAt w B sb v es) (hB : B ≤ w.heap.size) :
    Calls Tryd.prog 46 #[.pointer (some ⟨sb, 0, none⟩), .string key, .string value] w fun e w' => e = .returned (errR (putK es ⟨key, value, false⟩)) ∧ ∃ v', StAt w' B sb v' (storeL es ⟨key, value, false⟩) ∧ Chg w w' (fun k => k = sb ∨ v.ownBlock = some k) ∧ (∀ g, v'.ownBlock = some g → v.ownBlock = some g ∨ w.heap.size ≤ g) := by
  have HC := Lib.hid (put_any B sb v es ⟨key, value, false⟩ w h hB (fun e => by cases e))
  clear h
  go_enter Tryd.func46, Tryd.ntmps46
  go_wp2_with fail
  refine HC.out.mono ?_
  rintro _ w1 ⟨rfl, hh⟩
  have HH := Lib.hid hh
  clear hh
  go_wp2_with fail
  go_ret
  exact ⟨rfl, HH.out⟩
theorem SDrop_any (B sb : Nat) (v : Value) (es : List Pr) (key : ByteArray) (w : World) (h : StAt w B sb v es) (hB : B ≤ w.heap.size) :
    Calls Tryd.prog 45 #[.pointer (some ⟨sb, 0, none⟩), .string key] w fun e w' => e = .returned (errR (putK es ⟨key, ⟨#[]⟩, true⟩)) ∧ ∃ v', StAt w' B sb v' (storeL es ⟨key, ⟨#[]⟩, true⟩) ∧ Chg w w' (fun k => k = sb ∨ v.ownBlock = some k) ∧ (∀ g, v'.ownBlock = some g → v.ownBlock = some g ∨ w.heap.size ≤ g) := by
  have HC := Lib.hid (put_any B sb v es ⟨key, ⟨#[]⟩, true⟩ w h hB (fun _ => rfl))
  clear h
  go_enter Tryd.func45, Tryd.ntmps45
  go_wp2_with fail
  refine HC.out.mono ?_
  rintro _ w1 ⟨rfl, hh⟩
  have HH := Lib.hid hh
  clear hh
  go_wp2_with fail
  go_ret
  exact ⟨rfl, HH.out⟩
theorem SLen_any (B sb : Nat) (v : Value) (es : List Pr) (w : World) (h : StAt w B sb v es) :
    Calls Tryd.prog 47 #[.pointer (some ⟨sb, 0, none⟩)] w fun e w' => e = .returned (.int .i64 (es.length : Nat)) ∧ w = w' := by
  obtain ⟨A, c, rfl, hc, hr, hnil⟩ := own_rd h.own
  have s0 : w.cell? ⟨sb, 0, none⟩ = some (.slice A es.length c) := h.bk.cell 0
  clear h hnil hr
  go_enter Tryd.func47, Tryd.ntmps47
  go_wp2_with fail
  go_ret
  exact ⟨rfl, rfl⟩
theorem SAll_any (B sb : Nat) (v : Value) (es : List Pr) (w : World) (h : StAt w B sb v es) :
    Calls Tryd.prog 16 #[.pointer (some ⟨sb, 0, none⟩)] w fun e w' => (∃ v', e = .returned v' ∧ w'.ownsRow w.heap.size 30 3 v' es.length (es.flatMap Pr.cells)) ∧ Ext w w' := by
  obtain ⟨A, c, rfl, hc, hr, hnil⟩ := own_rd h.own
  have s0 : w.cell? ⟨sb, 0, none⟩ = some (.slice A es.length c) := h.bk.cell 0
  have HC := Lib.hid (CloneP_any A es.length c (es.flatMap Pr.cells) w hr (by have := h.len; omega) hc (cells_one es))
  clear h hnil hr
  go_enter Tryd.func16, Tryd.ntmps16
  go_wp2_with fail
  refine HC.out.mono ?_
  rintro _ w1 ⟨⟨v', rfl, ho⟩, hb⟩
  have HO := Lib.hid ho
  clear ho
  go_wp2_with fail
  go_ret
  exact ⟨⟨v', rfl, HO.out⟩, hb⟩
end Go.Proofs.YtcgfdhgceokcnaaDoor
