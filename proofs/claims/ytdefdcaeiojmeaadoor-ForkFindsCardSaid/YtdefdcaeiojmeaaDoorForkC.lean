/- fork: both, split, Proves. -/
import Derived.Test.YtdefdcaeiojmeaaDoorHds
import Derived.Test.YtdefdcaeiojmeaaDoorGMake
import Derived.Test.YtdefdcaeiojmeaaDoorAs
namespace Go.Proofs.YtdefdcaeiojmeaaDoor
open Go.RowKit Go.WideShapes
set_option linter.unusedVariables false
attribute [local go_sem ↓] Go.wp_at_zero Go.wp_at_succ

def bothK (a b : Hd) (key : Int) : Int := if verK a key ≠ 0 then verK a key else verK b key
def splB (a b : Hd) : Bool := decide (a.size = b.size) && !decide (a.root = b.root)

set_option maxRecDepth 100000 in
set_option maxHeartbeats 1000000 in
theorem both_any (a b : Hd) (key : Int) (w : World) (hD : DebG w) (hP : PowG w) :
    Calls Tryd.prog 42 #[a.val, b.val, .int .i64 key] w fun e w' => e = .returned (errR (bothK a b key)) ∧ Ext w w' := by
  obtain ⟨hE, hN, hG0⟩ := errR_rules
  have HVA := Lib.hid fun W (e : Ext w W) => Verify_any a key W (hD.ext e) (hP.ext e)
  have HVB := Lib.hid fun W (e : Ext w W) => Verify_any b key W (hD.ext e) (hP.ext e)
  have HB1 : Hid (verK a key ≠ 0 → bothK a b key = verK a key) := Lib.hid fun h => if_pos h
  have HB2 : Hid (verK a key = 0 → bothK a b key = verK b key) := Lib.hid fun h => if_neg (not_not_intro h)
  obtain ⟨bk, hbk⟩ : ∃ v, bothK a b key = v := ⟨_, rfl⟩
  obtain ⟨va, hva⟩ : ∃ v, verK a key = v := ⟨_, rfl⟩
  obtain ⟨vb, hvb⟩ : ∃ v, verK b key = v := ⟨_, rfl⟩
  rw [hbk, hva] at HB1 HB2
  rw [hvb] at HB2
  rw [hva] at HVA
  rw [hvb] at HVB
  rw [hbk]
  clear hbk hva hvb hD hP
  obtain ⟨a0, a1, a2, a3⟩ := a
  obtain ⟨b0, b1, b2, b3⟩ := b
  simp only [Hd.val] at *
  have A0 := Bk.at_ w 31 #[.int .i64 a0, .int .i64 a1, .int .i64 a2, .int .i64 a3] w.heap.size rfl
  have eA : Ext w (w.alloc (.cells #[.int .i64 a0, .int .i64 a1, .int .i64 a2, .int .i64 a3] 31)) := by (repeat (with_reducible first | exact Ext.refl _ | assumption | refine Ext.drew ?_ | refine Ext.drewN ?_ _ | refine Ext.alloc ?_ _ | refine Ext.trans ?_ (by with_reducible assumption)))
  have B1 := Bk.at_ (w.alloc (.cells #[.int .i64 a0, .int .i64 a1, .int .i64 a2, .int .i64 a3] 31)) 31 #[.int .i64 b0, .int .i64 b1, .int .i64 b2, .int .i64 b3] _ rfl
  have A1 := A0.alloc (.cells #[.int .i64 b0, .int .i64 b1, .int .i64 b2, .int .i64 b3] 31)
  have e1 : Ext w ((w.alloc (.cells #[.int .i64 a0, .int .i64 a1, .int .i64 a2, .int .i64 a3] 31)).alloc (.cells #[.int .i64 b0, .int .i64 b1, .int .i64 b2, .int .i64 b3] 31)) := by (repeat (with_reducible first | exact Ext.refl _ | assumption | refine Ext.drew ?_ | refine Ext.drewN ?_ _ | refine Ext.alloc ?_ _ | refine Ext.trans ?_ (by with_reducible assumption)))
  have hsz : (w.alloc (.cells #[.int .i64 a0, .int .i64 a1, .int .i64 a2, .int .i64 a3] 31)).heap.size = w.heap.size + 1 := by simp
  rw [hsz] at B1
  clear eA A0 hsz
  go_enter Tryd.func42, Tryd.ntmps42
  go_upto_region 1 with (fail)
  generalize (w.alloc (.cells #[.int .i64 a0, .int .i64 a1, .int .i64 a2, .int .i64 a3] 31)).alloc (.cells #[.int .i64 b0, .int .i64 b1, .int .i64 b2, .int .i64 b3] 31) = W0 at *
  obtain ⟨g0, hg0⟩ : ∃ g, w.heap.size = g := ⟨_, rfl⟩
  rw [hg0] at A1 B1
  try rw [hg0]
  have HE0 := Lib.hid e1
  clear e1 hg0
  have y0 := A1.cell 0
  have y1 := A1.cell 1
  have y2 := A1.cell 2
  have y3 := A1.cell 3
  go_wp2_with fail
  refine (HVA.out _ HE0.out).mono ?_
  rintro _ w2 ⟨rfl, hb2⟩
  have e2 := HE0.out.trans hb2
  have B2 := B1.ext hb2
  have z0 := B2.cell 0
  have z1 := B2.cell 1
  have z2 := B2.cell 2
  have z3 := B2.cell 3
  clear y0 y1 y2 y3
  by_cases h0 : va = 0
  · obtain rfl := HB2.out h0
    subst h0
    rw [errR_0]
    clear HB1 HB2
    go_wp2_with fail
    refine (HVB.out _ e2).mono ?_
    rintro _ w3 ⟨rfl, hb3⟩
    go_wp2_with fail
    go_ret
    exact ⟨rfl, e2.trans hb3⟩
  · obtain rfl := HB1.out h0
    have hok := isOk_no h0
    clear HB1 HB2 h0
    go_wp2_with fail
    go_ret
    exact ⟨rfl, e2⟩

set_option maxRecDepth 100000 in
theorem split_any (a b : Hd) (w : World) :
    Calls Tryd.prog 43 #[a.val, b.val] w fun e w' => e = .returned (.bool (splB a b)) ∧ Ext w w' := by
  obtain ⟨sb, hsb⟩ : ∃ v, splB a b = v := ⟨_, rfl⟩
  have HS : Hid ((¬ a.size = b.size → sb = false) ∧ (a.size = b.size → a.root = b.root → sb = false) ∧ (a.size = b.size → ¬ a.root = b.root → sb = true)) := Lib.hid ⟨fun h => by rw [← hsb]; simp [splB, h], fun h h2 => by rw [← hsb]; simp [splB, h2], fun h h2 => by rw [← hsb]; simp [splB, h, h2]⟩
  rw [hsb]
  clear hsb
  obtain ⟨a0, a1, a2, a3⟩ := a
  obtain ⟨b0, b1, b2, b3⟩ := b
  simp only [Hd.val] at *
  have A0 := Bk.at_ w 31 #[.int .i64 a0, .int .i64 a1, .int .i64 a2, .int .i64 a3] w.heap.size rfl
  have B1 := Bk.at_ (w.alloc (.cells #[.int .i64 a0, .int .i64 a1, .int .i64 a2, .int .i64 a3] 31)) 31 #[.int .i64 b0, .int .i64 b1, .int .i64 b2, .int .i64 b3] _ rfl
  have A1 := A0.alloc (.cells #[.int .i64 b0, .int .i64 b1, .int .i64 b2, .int .i64 b3] 31)
  have e1 : Ext w ((w.alloc (.cells #[.int .i64 a0, .int .i64 a1, .int .i64 a2, .int .i64 a3] 31)).alloc (.cells #[.int .i64 b0, .int .i64 b1, .int .i64 b2, .int .i64 b3] 31)) := by (repeat (with_reducible first | exact Ext.refl _ | assumption | refine Ext.drew ?_ | refine Ext.drewN ?_ _ | refine Ext.alloc ?_ _ | refine Ext.trans ?_ (by with_reducible assumption)))
  have hsz : (w.alloc (.cells #[.int .i64 a0, .int .i64 a1, .int .i64 a2, .int .i64 a3] 31)).heap.size = w.heap.size + 1 := by simp
  rw [hsz] at B1
  clear A0 hsz
  go_enter Tryd.func43, Tryd.ntmps43
  go_upto_region 1 with (fail)
  generalize (w.alloc (.cells #[.int .i64 a0, .int .i64 a1, .int .i64 a2, .int .i64 a3] 31)).alloc (.cells #[.int .i64 b0, .int .i64 b1, .int .i64 b2, .int .i64 b3] 31) = W0 at *
  obtain ⟨g0, hg0⟩ : ∃ g, w.heap.size = g := ⟨_, rfl⟩
  rw [hg0] at A1 B1
  try rw [hg0]
  have HE0 := Lib.hid e1
  clear e1 hg0
  have y0 := A1.cell 0
  have y1 := A1.cell 1
  have z0 := B1.cell 0
  have z1 := B1.cell 1
  by_cases h0 : a0 = b0
  · by_cases h1 : a1 = b1
    · obtain rfl := HS.out.2.1 h0 h1
      subst h0 h1
      go_wp2_with fail
      go_ret
      exact ⟨rfl, HE0.out⟩
    · obtain rfl := HS.out.2.2 h0 h1
      subst h0
      go_wp2_with fail
      go_ret
      exact ⟨ret_bool (by simp [h1]), HE0.out⟩
  · obtain rfl := HS.out.1 h0
    have h0' : (a0 == b0) = false := by simp [h0]
    go_wp2_with fail
    go_ret
    exact ⟨rfl, HE0.out⟩

def prvB (a b : Hd) (key : Int) : Bool := isOk (bothK a b key) && splB a b
set_option maxRecDepth 100000 in
set_option maxHeartbeats 1000000 in
theorem Proves_any (a b : Hd) (key : Int) (w : World) (hD : DebG w) (hP : PowG w) :
    Calls Tryd.prog 19 #[a.val, b.val, .int .i64 key] w fun e w' => e = .returned (.tuple #[.bool (prvB a b key), errR (bothK a b key)]) ∧ Ext w w' := by
  obtain ⟨hE, hN, hG0⟩ := errR_rules
  have HB := Lib.hid fun W (e : Ext w W) => both_any a b key W (hD.ext e) (hP.ext e)
  have HS := Lib.hid fun W => split_any a b W
  have HV : Hid (prvB a b key = (isOk (bothK a b key) && splB a b)) := rfl
  obtain ⟨bk, hbk⟩ : ∃ v, bothK a b key = v := ⟨_, rfl⟩
  obtain ⟨sb, hsb⟩ : ∃ v, splB a b = v := ⟨_, rfl⟩
  rw [hbk] at HB HV
  rw [hsb] at HS HV
  rw [hbk, HV.out]
  clear hbk hsb hD hP HV
  obtain ⟨a0, a1, a2, a3⟩ := a
  obtain ⟨b0, b1, b2, b3⟩ := b
  simp only [Hd.val] at *
  have A0 := Bk.at_ w 31 #[.int .i64 a0, .int .i64 a1, .int .i64 a2, .int .i64 a3] w.heap.size rfl
  have B1 := Bk.at_ (w.alloc (.cells #[.int .i64 a0, .int .i64 a1, .int .i64 a2, .int .i64 a3] 31)) 31 #[.int .i64 b0, .int .i64 b1, .int .i64 b2, .int .i64 b3] _ rfl
  have A1 := A0.alloc (.cells #[.int .i64 b0, .int .i64 b1, .int .i64 b2, .int .i64 b3] 31)
  have e1 : Ext w ((w.alloc (.cells #[.int .i64 a0, .int .i64 a1, .int .i64 a2, .int .i64 a3] 31)).alloc (.cells #[.int .i64 b0, .int .i64 b1, .int .i64 b2, .int .i64 b3] 31)) := by (repeat (with_reducible first | exact Ext.refl _ | assumption | refine Ext.drew ?_ | refine Ext.drewN ?_ _ | refine Ext.alloc ?_ _ | refine Ext.trans ?_ (by with_reducible assumption)))
  have hsz : (w.alloc (.cells #[.int .i64 a0, .int .i64 a1, .int .i64 a2, .int .i64 a3] 31)).heap.size = w.heap.size + 1 := by simp
  rw [hsz] at B1
  clear A0 hsz
  go_enter Tryd.func19, Tryd.ntmps19
  go_upto_region 1 with (fail)
  generalize (w.alloc (.cells #[.int .i64 a0, .int .i64 a1, .int .i64 a2, .int .i64 a3] 31)).alloc (.cells #[.int .i64 b0, .int .i64 b1, .int .i64 b2, .int .i64 b3] 31) = W0 at *
  obtain ⟨g0, hg0⟩ : ∃ g, w.heap.size = g := ⟨_, rfl⟩
  rw [hg0] at A1 B1
  try rw [hg0]
  have HE0 := Lib.hid e1
  clear e1 hg0
  have y0 := A1.cell 0
  have y1 := A1.cell 1
  have y2 := A1.cell 2
  have y3 := A1.cell 3
  have z0 := B1.cell 0
  have z1 := B1.cell 1
  have z2 := B1.cell 2
  have z3 := B1.cell 3
  go_wp2_with fail
  refine (HB.out _ HE0.out).mono ?_
  rintro _ w2 ⟨rfl, hb2⟩
  have e2 := HE0.out.trans hb2
  have A2 := A1.ext hb2
  have B2 := B1.ext hb2
  clear y0 y1 y2 y3 z0 z1 z2 z3
  have y0 := A2.cell 0
  have y1 := A2.cell 1
  have y2 := A2.cell 2
  have y3 := A2.cell 3
  have z0 := B2.cell 0
  have z1 := B2.cell 1
  have z2 := B2.cell 2
  have z3 := B2.cell 3
  by_cases h0 : bk = 0
  · subst h0
    rw [errR_0]
    go_wp2_with fail
    refine (HS.out _).mono ?_
    rintro _ w3 ⟨rfl, hb3⟩
    go_wp2_with fail
    go_ret2
    exact ⟨rfl, e2.trans hb3⟩
  · have hok := isOk_no h0
    clear h0
    go_wp2_with fail
    go_ret2
    exact ⟨by rw [hok]; rfl, e2⟩
end Go.Proofs.YtdefdcaeiojmeaaDoor

/- fork.Check. -/
namespace Go.Proofs.YtdefdcaeiojmeaaDoor
open Go.RowKit Go.WideShapes
set_option linter.unusedVariables false
attribute [local go_sem ↓] Go.wp_at_zero Go.wp_at_succ

def chkX (a b : Hd) (bk gk : Int) (n : Nat) : Bool × Int :=
  if bk ≠ 0 then (false, bk)
  else if b.size < a.size then (false, 3)
  else if a.size = b.size then (if 0 < n then (false, 3) else (decide (a.root = b.root), 0))
  else if a.size = 0 ∧ 0 < b.size then (true, 0)
  else if gk = 8 then (false, 0) else (isOk gk, gk)
def chk (a b : Hd) (key : Int) (ps : List Int) : Bool × Int := chkX a b (bothK a b key) (gcheck a.root a.size b.root b.size ps) ps.length

set_option maxRecDepth 100000 in
theorem as_nil (v : Value) (w : World) :
    Calls Tryd.prog 46 #[.nilIface, v] w fun ev w' => ev = .returned (.bool false) ∧ Ext w w' := by
  go_enter Tryd.func46, Tryd.ntmps46
  go_wp2_with fail
  go_ret
  exact ⟨rfl, by (repeat (with_reducible first | exact Ext.refl _ | assumption | refine Ext.drew ?_ | refine Ext.drewN ?_ _ | refine Ext.alloc ?_ _ | refine Ext.trans ?_ (by with_reducible assumption)))⟩

set_option maxRecDepth 100000 in
set_option maxHeartbeats 2000000 in
theorem FCheck_any (a b : Hd) (key : Int) (A : Option Addr) (m c : Nat) (ps : List Int) (w : World) (hD : DebG w) (hP : PowG w) (hg : ErrG w) (hr : Rd w 1 A m c (ps.map (Value.int .i64))) (hm : c ≤ maxLen) :
    Calls Tryd.prog 21 #[a.val, b.val, .int .i64 key, .slice A m c] w fun e w' => e = .returned (.tuple #[.bool (chk a b key ps).1, errR (chk a b key ps).2]) ∧ Ext w w' := by
  obtain ⟨hE, hN, hG0⟩ := errR_rules
  have HB := Lib.hid fun W (e : Ext w W) => both_any a b key W (hD.ext e) (hP.ext e)
  have HC := Lib.hid fun W (e : Ext w W) => GCheck_any a.root a.size b.root b.size A m c ps W (hr.ext e) hm
  have HG := Lib.hid hg
  have hml : m ≤ c := hr.2.1
  have hpl : ps.length = m := hr.lenI
  have hmm : c ≤ 9223372036854775807 := by unfold maxLen at hm; exact hm
  have HK : Hid (chk a b key ps = chkX a b (bothK a b key) (gcheck a.root a.size b.root b.size ps) m) := by rw [← hpl]; exact rfl
  obtain ⟨bk, hbk⟩ : ∃ v, bothK a b key = v := ⟨_, rfl⟩
  obtain ⟨gk, hgk⟩ : ∃ v, gcheck a.root a.size b.root b.size ps = v := ⟨_, rfl⟩
  rw [hbk] at HB HK
  rw [hgk] at HC HK
  obtain ⟨cv, hcv⟩ : ∃ v, chk a b key ps = v := ⟨_, rfl⟩
  rw [hcv] at HK
  rw [hcv]
  clear hcv hbk hgk hD hP hr hg hm hpl
  obtain ⟨a0, a1, a2, a3⟩ := a
  obtain ⟨b0, b1, b2, b3⟩ := b
  simp only [Hd.val] at *
  have A0 := Bk.at_ w 31 #[.int .i64 a0, .int .i64 a1, .int .i64 a2, .int .i64 a3] w.heap.size rfl
  have B1 := Bk.at_ (w.alloc (.cells #[.int .i64 a0, .int .i64 a1, .int .i64 a2, .int .i64 a3] 31)) 31 #[.int .i64 b0, .int .i64 b1, .int .i64 b2, .int .i64 b3] _ rfl
  have A1 := A0.alloc (.cells #[.int .i64 b0, .int .i64 b1, .int .i64 b2, .int .i64 b3] 31)
  have e1 : Ext w ((w.alloc (.cells #[.int .i64 a0, .int .i64 a1, .int .i64 a2, .int .i64 a3] 31)).alloc (.cells #[.int .i64 b0, .int .i64 b1, .int .i64 b2, .int .i64 b3] 31)) := by (repeat (with_reducible first | exact Ext.refl _ | assumption | refine Ext.drew ?_ | refine Ext.drewN ?_ _ | refine Ext.alloc ?_ _ | refine Ext.trans ?_ (by with_reducible assumption)))
  have hsz : (w.alloc (.cells #[.int .i64 a0, .int .i64 a1, .int .i64 a2, .int .i64 a3] 31)).heap.size = w.heap.size + 1 := by simp
  rw [hsz] at B1
  clear A0 hsz
  go_enter Tryd.func21, Tryd.ntmps21
  go_upto_region 1 with (fail)
  generalize ((w.alloc (.cells #[.int .i64 a0, .int .i64 a1, .int .i64 a2, .int .i64 a3] 31)).alloc (.cells #[.int .i64 b0, .int .i64 b1, .int .i64 b2, .int .i64 b3] 31)) = W0 at *
  obtain ⟨g0, hg0⟩ : ∃ g, w.heap.size = g := ⟨_, rfl⟩
  rw [hg0] at A1 B1
  try rw [hg0]
  have HE0 := Lib.hid e1
  clear e1 hg0
  have y0 := A1.cell 0
  have y1 := A1.cell 1
  have y2 := A1.cell 2
  have y3 := A1.cell 3
  have z0 := B1.cell 0
  have z1 := B1.cell 1
  have z2 := B1.cell 2
  have z3 := B1.cell 3
  go_wp2_with fail
  refine (HB.out _ HE0.out).mono ?_
  rintro _ w2 ⟨rfl, hb2⟩
  have HE2 := Lib.hid (HE0.out.trans hb2)
  have A2 := A1.ext hb2
  have B2 := B1.ext hb2
  clear y0 y1 y2 y3 z0 z1 z2 z3
  have y0 := A2.cell 0
  have y1 := A2.cell 1
  have y2 := A2.cell 2
  have y3 := A2.cell 3
  have z0 := B2.cell 0
  have z1 := B2.cell 1
  have z2 := B2.cell 2
  have z3 := B2.cell 3
  clear A1 B1 hb2 HB HE0
  by_cases h0 : bk = 0
  case neg =>
    have hok := isOk_no h0
    obtain rfl : cv = (false, bk) := HK.out.trans (by unfold chkX; rw [if_pos h0])
    clear h0
    go_wp2_with fail
    go_ret2
    exact ⟨rfl, HE2.out⟩
  subst h0
  rw [errR_0]
  by_cases h1 : b0 < a0
  case pos =>
    obtain rfl : cv = (false, 3) := HK.out.trans (by unfold chkX; rw [if_neg (not_not_intro rfl)]; dsimp only; rw [if_pos h1])
    go_wp2_with fail
    go_ret2
    exact ⟨rfl, HE2.out⟩
  by_cases h2 : a0 = b0
  case pos =>
    subst h2
    by_cases h3 : 0 < m
    case pos =>
      obtain rfl : cv = (false, 3) := HK.out.trans (by unfold chkX; rw [if_neg (not_not_intro rfl)]; dsimp only; rw [if_neg h1, if_pos rfl, if_pos h3])
      go_wp2_with fail
      all_goals
        go_ret2
        exact ⟨rfl, HE2.out⟩
    obtain rfl : cv = (decide (a1 = b1), 0) := HK.out.trans (by unfold chkX; rw [if_neg (not_not_intro rfl)]; dsimp only; rw [if_neg h1, if_pos rfl, if_neg h3])
    obtain rfl : m = 0 := by omega
    go_wp2_with fail
    all_goals
      go_ret2
      exact ⟨rfl, HE2.out⟩
  have h2' : (a0 == b0) = false := by simp [h2]
  by_cases h3 : a0 = 0 ∧ 0 < b0
  case pos =>
    obtain rfl : cv = (true, 0) := HK.out.trans (by unfold chkX; rw [if_neg (not_not_intro rfl)]; dsimp only; rw [if_neg h1, if_neg h2, if_pos h3])
    obtain ⟨rfl, h4⟩ := h3
    go_wp2_with fail
    go_ret2
    exact ⟨rfl, HE2.out⟩
  have HJ : Hid (cv = if gk = 8 then (false, 0) else (isOk gk, gk)) := Lib.hid (HK.out.trans (by unfold chkX; rw [if_neg (not_not_intro rfl)]; dsimp only; rw [if_neg h1, if_neg h2, if_neg h3]))
  have h3' : (a0 == 0) = false := by
    simp only [beq_eq_false_iff_ne]; rintro rfl; omega
  go_wp2_with fail
  refine (HC.out _ HE2.out).mono ?_
  rintro _ w3 ⟨rfl, hb3⟩
  have HE3 := Lib.hid (HE2.out.trans hb3)
  clear HC y0 y1 y2 y3 z0 z1 z2 z3 A2 B2 HK
  by_cases h5 : gk = 0
  case pos =>
    subst h5
    rw [errR_0]
    obtain rfl : cv = (true, 0) := HJ.out
    go_wp2_with fail
    refine (as_nil _ _).mono ?_
    rintro _ w4 ⟨rfl, hb4⟩
    go_wp2_with fail
    go_ret2
    exact ⟨rfl, by have := HE3.out; (repeat (with_reducible first | exact Ext.refl _ | assumption | refine Ext.drew ?_ | refine Ext.drewN ?_ _ | refine Ext.alloc ?_ _ | refine Ext.trans ?_ (by with_reducible assumption)))⟩
  rw [errR_ne h5]
  unfold errV
  have hgA := (HG.out.ext HE3.out).ext (show Ext w3 (w3.alloc (.cells #[.int .i64 0] 66)) by (repeat (with_reducible first | exact Ext.refl _ | assumption | refine Ext.drew ?_ | refine Ext.drewN ?_ _ | refine Ext.alloc ?_ _ | refine Ext.trans ?_ (by with_reducible assumption))))
  go_wp2_with fail
  refine (as_hit gk ⟨w3.heap.size, 0, none⟩ (.int .i64 0) _ hgA (by simp) (by simp)).mono ?_
  rintro _ w4 ⟨rfl, rfl⟩
  by_cases h6 : gk = 8
  case pos =>
    obtain rfl : cv = (false, 0) := HJ.out.trans (if_pos h6)
    subst h6
    go_wp2_with fail
    go_ret2
    exact ⟨rfl, by have := HE3.out; (repeat (with_reducible first | exact Ext.refl _ | assumption | refine Ext.drew ?_ | refine Ext.drewN ?_ _ | refine Ext.alloc ?_ _ | refine Ext.trans ?_ (by with_reducible assumption)))⟩
  have hok := isOk_no h5
  obtain rfl : cv = (false, gk) := HJ.out.trans (by rw [if_neg h6, hok])
  have h6' : (gk == 8) = false := by simp [h6]
  have h6'' : decide (gk = 8) = false := by simp [h6]
  go_wp2_with fail
  go_ret2
  exact ⟨by rw [errR_ne h5]; rfl, by have := HE3.out; (repeat (with_reducible first | exact Ext.refl _ | assumption | refine Ext.drew ?_ | refine Ext.drewN ?_ _ | refine Ext.alloc ?_ _ | refine Ext.trans ?_ (by with_reducible assumption)))⟩
end Go.Proofs.YtdefdcaeiojmeaaDoor
