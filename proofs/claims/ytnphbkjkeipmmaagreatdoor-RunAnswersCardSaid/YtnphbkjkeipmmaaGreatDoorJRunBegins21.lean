/- head.Better, both ways. -/
import Derived.Test.YtnphbkjkeipmmaaGreatDoorJRunBegins11
import Derived.Test.YtnphbkjkeipmmaaGreatDoorJRunBegins15
import Derived.Test.YtnphbkjkeipmmaaGreatDoorJRunBegins20
import Derived.Lib.AppendZeros
import Derived.Laws.AppendOwnNone
import Derived.Deep.RegionWith
import Derived.Test.YtnphbkjkeipmmaaGreatDoorJRunBegins18
import Derived.Test.YtnphbkjkeipmmaaGreatDoorJRunBegins6
import Derived.Deep.DeepCutAuto
import Derived.Deep.CutRange
import Derived.Deep.CutBlock
namespace Go.Proofs.YtnphbkjkeipmmaaGreatDoor
open Go.RowKit Go.WideShapes
set_option linter.unusedVariables false
attribute [local go_sem ↓] Go.wp_at_zero Go.wp_at_succ

def better (a b : Hd) : Bool := decide (b.size < a.size ∨ (a.size = b.size ∧ b.time < a.time))
theorem Check_ok (h : Hd) (w : World) (k : h.ok = true) : Calls Tryz.prog 115 #[h.val] w fun e w' => e = .returned .nilIface ∧ Ext w w' := by
  have := HCheck_any h w
  rw [show hdK h = 0 from if_pos k, errR_0] at this
  exact this
theorem Check_bad (h : Hd) (w : World) (k : h.ok = false) : Calls Tryz.prog 115 #[h.val] w fun e w' => e = .returned (errV 1) ∧ Ext w w' := by
  have := HCheck_any h w
  rw [show hdK h = 1 from if_neg (by rw [k]; decide), errR_ne (by decide)] at this
  exact this

set_option maxRecDepth 100000 in
set_option maxHeartbeats 1000000 in
theorem Better_ok (a b : Hd) (w : World) (ka : a.ok = true) (kb : b.ok = true) : Calls Tryz.prog 150 #[a.val, b.val] w fun e w' => e = .returned (.tuple #[.bool (better a b), .nilIface]) ∧ Ext w w' := by
  have HA := Lib.hid ka
  have HB := Lib.hid kb
  clear ka kb
  obtain ⟨a1, a2, a3, a4⟩ := a
  obtain ⟨b1, b2, b3, b4⟩ := b
  simp only [Hd.val]
  go_enter Tryz.func150, Tryz.ntmps150
  go_wp2
  refine wp_loop_rounds 3 ?_
  rw [rounds_succ]
  go_wp2_with fail
  refine (Check_ok ⟨a1, a2, a3, a4⟩ _ HA.out).mono ?_
  rintro e w1 ⟨rfl, hb1⟩
  have A1 : Bk w1 w.heap.size 29 #[.int .i64 a1, .int .i64 a2, .int .i64 a3, .int .i64 a4] := by (repeat (with_reducible first | assumption | (refine Bk.at_ _ _ _ _ ?_; simp; done) | refine Bk.drew ?_ | refine Bk.drewN ?_ _ | refine Bk.alloc ?_ _ | refine Bk.ext ?_ (by with_reducible assumption)))
  have B1 : Bk w1 (w.heap.size + 1) 29 #[.int .i64 b1, .int .i64 b2, .int .i64 b3, .int .i64 b4] := by (repeat (with_reducible first | assumption | (refine Bk.at_ _ _ _ _ ?_; simp; done) | refine Bk.drew ?_ | refine Bk.drewN ?_ _ | refine Bk.alloc ?_ _ | refine Bk.ext ?_ (by with_reducible assumption)))
  have C1 : Bk w1 (w.heap.size + 1 + 1) 29 #[.int .i64 a1, .int .i64 a2, .int .i64 a3, .int .i64 a4, .int .i64 b1, .int .i64 b2, .int .i64 b3, .int .i64 b4] := by (repeat (with_reducible first | assumption | (refine Bk.at_ _ _ _ _ ?_; simp; done) | refine Bk.drew ?_ | refine Bk.drewN ?_ _ | refine Bk.alloc ?_ _ | refine Bk.ext ?_ (by with_reducible assumption)))
  have q := C1.cell
  go_wp2_with fail
  rw [rounds_succ]
  go_wp2_with fail
  refine (Check_ok ⟨b1, b2, b3, b4⟩ _ HB.out).mono ?_
  rintro e w2 ⟨rfl, hb2⟩
  have A2 : Bk w2 w.heap.size 29 #[.int .i64 a1, .int .i64 a2, .int .i64 a3, .int .i64 a4] := by (repeat (with_reducible first | assumption | (refine Bk.at_ _ _ _ _ ?_; simp; done) | refine Bk.drew ?_ | refine Bk.drewN ?_ _ | refine Bk.alloc ?_ _ | refine Bk.ext ?_ (by with_reducible assumption)))
  have B2 : Bk w2 (w.heap.size + 1) 29 #[.int .i64 b1, .int .i64 b2, .int .i64 b3, .int .i64 b4] := by (repeat (with_reducible first | assumption | (refine Bk.at_ _ _ _ _ ?_; simp; done) | refine Bk.drew ?_ | refine Bk.drewN ?_ _ | refine Bk.alloc ?_ _ | refine Bk.ext ?_ (by with_reducible assumption)))
  have qa := A2.cell
  have qb := B2.cell
  clear q
  go_wp2_with fail
  rw [rounds_succ]
  go_wp2_with fail
  all_goals
    go_ret2
    refine ⟨ret_two (congrArg Value.bool ?_) rfl, by (repeat (with_reducible first | exact Ext.refl _ | assumption | refine Ext.drew ?_ | refine Ext.drewN ?_ _ | refine Ext.alloc ?_ _ | refine Ext.trans ?_ (by with_reducible assumption)))⟩
    unfold better
    with_reducible first
      | exact decide_eq_decide.2 (by dsimp only; omega)
      | exact (decide_eq_true (by dsimp only; omega)).symm
      | exact (decide_eq_false (by dsimp only; omega)).symm

set_option maxRecDepth 100000 in
set_option maxHeartbeats 1000000 in
theorem Better_bad (a b : Hd) (w : World) (k : ¬ (a.ok = true ∧ b.ok = true)) : Calls Tryz.prog 150 #[a.val, b.val] w fun e w' => e = .returned (.tuple #[.bool false, errV 1]) ∧ Ext w w' := by
  cases ka : a.ok
  · have HA := Lib.hid ka
    clear ka k
    obtain ⟨a1, a2, a3, a4⟩ := a
    obtain ⟨b1, b2, b3, b4⟩ := b
    simp only [Hd.val]
    go_enter Tryz.func150, Tryz.ntmps150
    go_wp2
    refine wp_loop_rounds 3 ?_
    rw [rounds_succ]
    go_wp2_with fail
    refine (Check_bad ⟨a1, a2, a3, a4⟩ _ HA.out).mono ?_
    rintro e w1 ⟨rfl, hb1⟩
    simp only [errV]
    go_wp2_with fail
    go_ret2
    exact ⟨rfl, by (repeat (with_reducible first | exact Ext.refl _ | assumption | refine Ext.drew ?_ | refine Ext.drewN ?_ _ | refine Ext.alloc ?_ _ | refine Ext.trans ?_ (by with_reducible assumption)))⟩
  · have HA := Lib.hid ka
    have HB := Lib.hid (show b.ok = false by cases h : b.ok with | false => rfl | true => exact absurd ⟨ka, h⟩ k)
    clear ka k
    obtain ⟨a1, a2, a3, a4⟩ := a
    obtain ⟨b1, b2, b3, b4⟩ := b
    simp only [Hd.val]
    go_enter Tryz.func150, Tryz.ntmps150
    go_wp2
    refine wp_loop_rounds 3 ?_
    rw [rounds_succ]
    go_wp2_with fail
    refine (Check_ok ⟨a1, a2, a3, a4⟩ _ HA.out).mono ?_
    rintro e w1 ⟨rfl, hb1⟩
    have C1 : Bk w1 (w.heap.size + 1 + 1) 29 #[.int .i64 a1, .int .i64 a2, .int .i64 a3, .int .i64 a4, .int .i64 b1, .int .i64 b2, .int .i64 b3, .int .i64 b4] := by (repeat (with_reducible first | assumption | (refine Bk.at_ _ _ _ _ ?_; simp; done) | refine Bk.drew ?_ | refine Bk.drewN ?_ _ | refine Bk.alloc ?_ _ | refine Bk.ext ?_ (by with_reducible assumption)))
    have q := C1.cell
    go_wp2_with fail
    rw [rounds_succ]
    go_wp2_with fail
    refine (Check_bad ⟨b1, b2, b3, b4⟩ _ HB.out).mono ?_
    rintro e w2 ⟨rfl, hb2⟩
    simp only [errV]
    go_wp2_with fail
    go_ret2
    exact ⟨rfl, by (repeat (with_reducible first | exact Ext.refl _ | assumption | refine Ext.drew ?_ | refine Ext.drewN ?_ _ | refine Ext.alloc ?_ _ | refine Ext.trans ?_ (by with_reducible assumption)))⟩

/-- the fault of two heads -/
def twoK (a b : Hd) : Int := if hdK a = 0 then hdK b else hdK a
def betB2 (a b : Hd) : Bool := isOk (twoK a b) && better a b
theorem Better_any (a b : Hd) (w : World) : Calls Tryz.prog 150 #[a.val, b.val] w fun e w' => e = .returned (.tuple #[.bool (betB2 a b), errR (twoK a b)]) ∧ Ext w w' := by
  by_cases h : a.ok = true ∧ b.ok = true
  · have h1 : hdK a = 0 := if_pos h.1
    have h2 : hdK b = 0 := if_pos h.2
    have h3 : twoK a b = 0 := by unfold twoK; rw [if_pos h1, h2]
    have h4 : betB2 a b = better a b := by unfold betB2; rw [h3]; rfl
    rw [h4, h3]
    exact Better_ok a b w h.1 h.2
  · have h3 : twoK a b = 1 := by
      unfold twoK
      cases ha : a.ok with
      | true =>
        have hb : ¬ b.ok = true := fun e => h ⟨ha, e⟩
        rw [show hdK a = 0 from if_pos ha, if_pos rfl]
        exact if_neg hb
      | false =>
        have h1 : hdK a = 1 := if_neg (by rw [ha]; decide)
        rw [h1, if_neg (by decide)]
    have h4 : betB2 a b = false := by unfold betB2; rw [h3]; rfl
    rw [h4, h3]
    exact Better_bad a b w h
end Go.Proofs.YtnphbkjkeipmmaaGreatDoor

/- slices.Clone, Grow, Concat of entries. -/
namespace Go.Proofs.YtnphbkjkeipmmaaGreatDoor
open Go.RowKit Go.WideShapes
set_option linter.unusedVariables false
attribute [local go_sem ↓] Go.wp_at_zero Go.wp_at_succ

section
variable {w w' : World} {P S : Nat → Prop}
theorem Rd.chg {size n c : Nat} {A : Option Addr} {xs : List Value} (h : Rd w size A n c xs) (k : Chg w w' S) (hS : 0 < n → ∀ ad, A = some ad → ¬ S ad.block) : Rd w' size A n c xs :=
  ⟨h.1, h.2.1, fun hn => by
    obtain ⟨ad, e, hl, hc⟩ := h.2.2 hn
    exact ⟨ad, e, Nat.lt_of_lt_of_le hl k.size, fun j u hu => (World.cell?_of_block (k.block (ad.add j).block (by rw [blk_add]; exact hl) (by rw [blk_add]; exact hS hn ad e))).trans (hc j u hu)⟩⟩
theorem Chg.extW {w0 : World} (k : Chg w w' S) (h : Ext w0 w) (hS : ∀ g, g < w0.heap.size → ¬ S g) : Ext w0 w' :=
  Chg.ext ((h.chg S).trans k fun _ _ h => h) hS
end

/-- 'append' of a slice that can be read, onto a row of one's own, at a plain region's list -/
theorem wpl_appR {P : Program} {w : World} {ops : Array Oper} {rest : List Oper} {o : Oper} {a : Act} {Q : Exit → Act → World → Prop} (hgd : o.guard = none) (s x : Operand) (t : TypeId)
    (ho : o.op = .call { callee := .builtin .append, args := #[s, x], argTypes := #[t, t] })
    (base : Nat) (e : TypeId) (i : TypeInfo) (z : Value) (size bytes : Nat) (ht : P.underlying t = some (.slice e)) (hi : P.info? e = some i) (hz : i.zero = some z)
    (hsize : i.size = size) (hby : i.bytes = bytes) (hzs : z.cells.size = size) (hsz : 0 < size)
    (v : Value) (n : Nat) (xs : List Value) (hs : a.eval s = v) (hown : w.ownsRow base e size v n xs)
    (A : Option Addr) (m c : Nat) (news : List Value) (hx : a.eval x = .slice A m c) (hr : Rd w size A m c news) (hA : A = none → m = 0 ∧ c = 0) (h1 : ∀ u ∈ news, u.oneCell' = true)
    (h63 : n + m ≤ 1048576) (hbytes : bytes ≤ 1048576) (hbase : base ≤ w.heap.size)
    (h : ∀ v' w', w'.ownsRow base e size v' (n + m) (xs ++ news) → w.grownBy w' v.ownBlock → (∀ g, v'.ownBlock = some g → v.ownBlock = some g ∨ w.heap.size ≤ g) → wpList P ops Q rest (a.put o.dst v') w') : wpList P ops Q (o :: rest) a w := by
  cases A with
  | none =>
    obtain ⟨rfl, rfl⟩ := hA rfl
    have hn : news = [] := List.eq_nil_of_length_eq_zero (by have := hr.1; omega)
    subst hn
    refine wpList_append_own_none hgd s x t ho base e i size ht hi v n xs hs hown hx ?_
    have := h v w (by rw [List.append_nil]; exact hown) ((Ext.refl w).gb _) (fun g hg => .inl hg)
    exact this
  | some ad =>
    have hc : ∀ j u, news[j]? = some u → w.cell? (ad.add j) = some u := fun j u hj => by
      obtain ⟨ad', e1, _, h3⟩ := hr.at_ hj
      injection e1 with e1
      rw [e1]
      exact h3
    refine wpList_append_own_at w hgd s x t ho base e i z size bytes ht hi hz hsize hby hzs hsz v n xs hs hown ad m c news hx hr.1 hc h1 (by simp only [maxLen]; omega) (by have := Nat.mul_le_mul (show n + m ≤ 1048576 by omega) hbytes; omega) hbase ?_
    intro v' w' o1 g1 _ b1
    refine h v' w' o1 g1 fun g hg => ?_
    rcases b1 with b1 | b1
    · exact .inl (by rw [← b1]; exact hg)
    · rw [b1] at hg
      exact .inr (by injection hg with hg; omega)

theorem ones_ents (es : List Ent) : ∀ u ∈ es.flatMap Ent.cells, u.oneCell' = true := by
  intro u hu
  rw [List.mem_flatMap] at hu
  obtain ⟨e, _, hu⟩ := hu
  exact oneE e u hu

set_option maxRecDepth 100000 in
set_option maxHeartbeats 1000000 in
theorem GrowE_any (k : Nat) (w : World) (hk : k ≤ 200) :
    Calls Tryz.prog 173 #[.slice none 0 0, .int .i64 k] w fun e w' => (∃ v, e = .returned v ∧ w'.ownsRow w.heap.size 67 2 v 0 []) ∧ Ext w w' := by
  obtain ⟨i0, hi0, hz0, hzs, hzb⟩ := info_parts info_ent
  by_cases h0 : k = 0
  · subst h0
    go_enter Tryz.func173, Tryz.ntmps173
    go_wp2_with fail
    go_ret
    exact ⟨⟨_, rfl, own_nil _ _ _ _⟩, by (repeat (with_reducible first | exact Ext.refl _ | assumption | refine Ext.drew ?_ | refine Ext.drewN ?_ _ | refine Ext.alloc ?_ _ | refine Ext.trans ?_ (by with_reducible assumption)))⟩
  · have hk0 : 0 < k := by omega
    have hki : (0 : Int) < (k : Int) := by omega
    have HR := Lib.hid (Lib.run_append_nil_zeros (P := Tryz.prog) w 27 3 27 67 i0 _ .i64 .i64 Tryz.underlying27 Tryz.underlying3 hi0 hz0 k hk0 (by omega) (by omega) (by rw [hzb]; omega))
    have hcap := grownCap_ge w k 0 67
    have hcap2 := grownCap_le_maxLen w k 0 67 (by simp only [maxLen]; omega)
    generalize grownCap w k 0 67 = cap at *
    have hsz : (Builtin.zeroCells (Value.cells (.agg #[.int .i64 0, .string ⟨#[]⟩])) k ++ Builtin.zeroCells (Value.cells (.agg #[.int .i64 0, .string ⟨#[]⟩])) (cap - k)).size = cap * 2 := by
      rw [Array.size_append, size_zeroCells, size_zeroCells]
      show k * 2 + (cap - k) * 2 = cap * 2
      omega
    generalize Builtin.zeroCells (Value.cells (.agg #[.int .i64 0, .string ⟨#[]⟩])) k ++ Builtin.zeroCells (Value.cells (.agg #[.int .i64 0, .string ⟨#[]⟩])) (cap - k) = cur at *
    have o0 : (w.drew.alloc (.cells cur 67)).ownsRow w.heap.size 67 2 (.slice (some ⟨w.heap.size, 0, none⟩) 0 cap) 0 [] := World.ownsRow_made w.drew cur cap (Nat.le_refl _) hcap2 hsz
    have HO := Lib.hid o0
    have e0 : Ext w (w.drew.alloc (.cells cur 67)) := (Ext.refl w).drew.alloc _
    clear o0 h0 hsz
    go_enter Tryz.func173, Tryz.ntmps173
    go_wp2_with (at_builtin; refine Lib.wpList_append_run _ rfl _ _ _ _ rfl _ _ rfl rfl _ _ HR.out ?_)
    go_ret
    exact ⟨⟨_, rfl, HO.out⟩, e0⟩

set_option maxRecDepth 100000 in
set_option maxHeartbeats 2000000 in
theorem ConcatE_any (H : Nat) (A A' : Option Addr) (n n' c c' : Nat) (xs ys : List Value) (w : World) (hB : Bk w H 27 #[.slice A n c, .slice A' n' c']) (hr : Rd w 2 A n c xs) (hr' : Rd w 2 A' n' c' ys)
    (hA : A = none → n = 0 ∧ c = 0) (hA' : A' = none → n' = 0 ∧ c' = 0) (hn : n + n' ≤ 200) (h1 : ∀ u ∈ xs, u.oneCell' = true) (h1' : ∀ u ∈ ys, u.oneCell' = true) :
    Calls Tryz.prog 154 #[.slice (some ⟨H, 0, none⟩) 2 2] w fun e w' => (∃ v, e = .returned v ∧ w'.ownsRow w.heap.size 67 2 v (n + n') (xs ++ ys)) ∧ Ext w w' := by
  obtain ⟨i0, hi0, hz0, hzs, hzb⟩ := info_parts info_ent
  have b0 : w.cell? ⟨H, 0, none⟩ = some (.slice A n c) := hB.cell 0
  have b1 : w.cell? ⟨H, 1, none⟩ = some (.slice A' n' c') := hB.cell 1
  have HB := Lib.hid hB
  have HR := Lib.hid hr
  have HR' := Lib.hid hr'
  have HA := Lib.hid hA
  have HA' := Lib.hid hA'
  have H1 := Lib.hid h1
  have H1' := Lib.hid h1'
  have hn2 : n ≤ 200 := by omega
  have hn3 : n' ≤ 200 := by omega
  have hnn : ¬ ((n : Int) < 0) := by omega
  have hns : ¬ ((n : Int) + (n' : Int) < 0) := by omega
  have HG := Lib.hid (GrowE_any (n + n') w hn)
  rw [Int.natCast_add] at HG
  clear hB hr hr' hA hA' h1 h1'
  go_enter Tryz.func154, Tryz.ntmps154
  go_wp2_with fail
  refine wp_loop_rounds 3 ?_
  rw [rounds_succ]
  go_wp2_with fail
  rw [rounds_succ]
  go_wp2_with fail
  rw [rounds_succ]
  go_wp2_with fail
  refine HG.out.mono ?_
  rintro _ w1 ⟨⟨v, rfl, own1⟩, hb1⟩
  have B1 := HB.out.ext hb1
  have c0 : w1.cell? ⟨H, 0, none⟩ = some (.slice A n c) := B1.cell 0
  have hs1 := hb1.size
  clear b0 b1
  go_wp2_with fail
  refine wp_loop_rounds 3 ?_
  rw [rounds_succ]
  go_wp2_with (at_builtin; refine wpl_appR (by rfl) _ _ _ (by rfl) w.heap.size 67 i0 _ 2 24 Tryz.underlying27 hi0 hz0 hzs hzb rfl (by omega) _ _ _ (by rfl) own1 A n c xs (by rfl) (HR.out.ext hb1) HA.out H1.out (by omega) (by omega) hs1 ?_; intro v2 w2 own2 hg2 hb2)
  have e2 := own_grown own1 hg2 w (Nat.le_refl _) hb1
  have B2 := HB.out.ext e2
  have d1 : w2.cell? ⟨H, 1, none⟩ = some (.slice A' n' c') := B2.cell 1
  have hs2 := e2.size
  clear c0
  go_wp2_with fail
  rw [rounds_succ]
  go_wp2_with (at_builtin; refine wpl_appR (by rfl) _ _ _ (by rfl) w.heap.size 67 i0 _ 2 24 Tryz.underlying27 hi0 hz0 hzs hzb rfl (by omega) _ _ _ (by rfl) own2 A' n' c' ys (by rfl) (HR'.out.ext e2) HA'.out H1'.out (by omega) (by omega) hs2 ?_; intro v3 w3 own3 hg3 hb3)
  have e3 := own_grown own2 hg3 w (Nat.le_refl _) e2
  go_wp2_with fail
  rw [rounds_succ]
  go_wp2_with fail
  go_ret
  refine ⟨⟨v3, rfl, ?_⟩, e3⟩
  rw [Nat.zero_add, List.nil_append] at own3
  exact own3
end Go.Proofs.YtnphbkjkeipmmaaGreatDoor

/- A mirror in memory: what reads it. -/
namespace Go.Proofs.YtnphbkjkeipmmaaGreatDoor
open Go.RowKit Go.WideShapes
set_option linter.unusedVariables false
attribute [local go_sem ↓] Go.wp_at_zero Go.wp_at_succ

def mcells (key : Int) (va : Value) (h n : Hd) (vw : Value) : Array Value := #[.int .i64 key, va, .int .i64 h.size, .int .i64 h.root, .int .i64 h.time, .int .i64 h.sign, .int .i64 n.size, .int .i64 n.root, .int .i64 n.time, .int .i64 n.sign, vw]
/-- a mirror at a block -/
structure MiAt (T : TypeId) (w : World) (mb : Nat) (va vw : Value) (m : Mi) : Prop where
  bk : Bk w mb T (mcells m.key va m.head m.next vw)
  own : w.ownsRow 0 67 2 va m.own.length (m.own.flatMap Ent.cells)
  waits : w.ownsRow 0 67 2 vw m.waits.length (m.waits.flatMap Ent.cells)
  apart : ∀ g, va.ownBlock = some g → vw.ownBlock ≠ some g
  good : m.Good
def MFoot (mb : Nat) (va vw : Value) (g : Nat) : Prop := g = mb ∨ va.ownBlock = some g ∨ vw.ownBlock = some g
/-- a mirror that lies in some blocks -/
def MM (T : TypeId) (w : World) (P : Nat → Prop) (mb : Nat) (m : Mi) : Prop := ∃ va vw, MiAt T w mb va vw m ∧ ∀ g, MFoot mb va vw g → P g
section
variable {T : TypeId} {w w' : World} {P S : Nat → Prop} {mb : Nat} {va vw : Value} {m : Mi}
theorem MiAt.chg (h : MiAt T w mb va vw m) (k : Chg w w' S) (hS : ∀ g, MFoot mb va vw g → ¬ S g) : MiAt T w' mb va vw m :=
  ⟨h.bk.chg k (hS _ (.inl rfl)), own_chg h.own k fun g hg => hS g (.inr (.inl hg)), own_chg h.waits k fun g hg => hS g (.inr (.inr hg)), h.apart, h.good⟩
theorem MiAt.ext (h : MiAt T w mb va vw m) (k : Ext w w') : MiAt T w' mb va vw m := h.chg (k.chg fun _ => False) fun _ _ h => h
theorem MM.ext (h : MM T w P mb m) (k : Ext w w') : MM T w' P mb m := by
  obtain ⟨va, vw, h1, h2⟩ := h
  exact ⟨va, vw, h1.ext k, h2⟩
theorem MM.chg (h : MM T w P mb m) (k : Chg w w' S) (hS : ∀ g, P g → g < w.heap.size → ¬ S g) : MM T w' P mb m := by
  obtain ⟨va, vw, h1, h2⟩ := h
  refine ⟨va, vw, h1.chg k fun g hg => hS g (h2 g hg) ?_, h2⟩
  rcases hg with rfl | hg | hg
  · exact h1.bk.lt
  · exact (h1.own.lt _ hg).2
  · exact (h1.waits.lt _ hg).2
theorem MM.good (h : MM T w P mb m) : m.Good := by
  obtain ⟨va, vw, h1, _⟩ := h
  exact h1.good
theorem MM.mono {Q : Nat → Prop} (h : MM T w P mb m) (hq : ∀ g, P g → g < w.heap.size → Q g) : MM T w Q mb m := by
  obtain ⟨va, vw, h1, h2⟩ := h
  refine ⟨va, vw, h1, fun g hg => hq g (h2 g hg) ?_⟩
  rcases hg with rfl | hg | hg
  · exact h1.bk.lt
  · exact (h1.own.lt _ hg).2
  · exact (h1.waits.lt _ hg).2
end

set_option maxRecDepth 100000 in
theorem rootOf_ok (A : Option Addr) (n c : Nat) (es : List Ent) (w : World) (hr : Rd w 2 A n c (es.flatMap Ent.cells)) (hm : c ≤ maxLen) (hk : entsOk es) :
    Calls Tryz.prog 106 #[.slice A n c] w fun e w' => e = .returned (.int .i64 (rootE es)) ∧ Ext w w' := by
  have hx := hr.lenE
  have HO : Hid (ofL (es.map Ent.leaf) = rootE es) := (rootE_ok hk).symm
  have hlo := leafs_of_ents hk
  have HL := Lib.hid (Leafs_ok A n c es w hr hm hk)
  rw [hx] at HL
  have hn : n ≤ 200 := by have := hk.1; omega
  obtain ⟨xs, hxs⟩ : ∃ xs, es.map Ent.leaf = xs := ⟨_, rfl⟩
  rw [hxs] at hlo HL HO
  have HLO := Lib.hid hlo.2
  obtain ⟨r, hr2⟩ : ∃ v, rootE es = v := ⟨_, rfl⟩
  rw [hr2] at HO
  rw [hr2]
  clear hxs hr2 hlo hk hr hx
  go_enter Tryz.func106, Tryz.ntmps106
  go_wp2_with fail
  refine HL.out.mono ?_
  rintro _ w1 ⟨⟨v1, rfl, own1⟩, hb1⟩
  obtain ⟨A1, c1, rfl, hc1, R1, _⟩ := own_rd own1
  have HR1 := Lib.hid R1
  clear own1 R1
  go_wp2_with fail
  refine (Of_any n A1 n c1 xs _ (Nat.le_refl _) HR1.out hc1 (by omega) HLO.out).mono ?_
  rw [HO.out]
  rintro _ w2 ⟨rfl, hb2⟩
  go_wp2_with fail
  go_ret
  exact ⟨rfl, hb1.trans hb2⟩

theorem MSize_any (mb : Nat) (va vw : Value) (m : Mi) (w : World) (h : MiAt 75 w mb va vw m) :
    Calls Tryz.prog 77 #[.pointer (some ⟨mb, 0, none⟩)] w fun e w' => e = .returned (.int .i64 (m.own.length : Nat)) ∧ w = w' := by
  obtain ⟨n, hn⟩ : ∃ n, m.own.length = n := ⟨_, rfl⟩
  have ow := h.own
  rw [hn] at ow
  obtain ⟨A, c, rfl, hc, hr, -⟩ := own_rd ow
  have c1 : w.cell? ⟨mb, 1, none⟩ = some (.slice A n c) := h.bk.cell 1
  rw [hn]
  clear h ow hr hn
  go_enter Tryz.func77, Tryz.ntmps77
  go_wp2_with fail
  go_ret
  exact ⟨rfl, rfl⟩
theorem MRoot_any (mb : Nat) (va vw : Value) (m : Mi) (w : World) (h : MiAt 75 w mb va vw m) :
    Calls Tryz.prog 79 #[.pointer (some ⟨mb, 0, none⟩)] w fun e w' => e = .returned (.int .i64 (rootE m.own)) ∧ Ext w w' := by
  obtain ⟨n, hn⟩ : ∃ n, m.own.length = n := ⟨_, rfl⟩
  have ow := h.own
  rw [hn] at ow
  obtain ⟨A, c, rfl, hc, hr, -⟩ := own_rd ow
  have c1 : w.cell? ⟨mb, 1, none⟩ = some (.slice A n c) := h.bk.cell 1
  have HC := Lib.hid (rootOf_ok A n c m.own w hr hc h.good.own)
  clear h ow hr hn
  go_enter Tryz.func79, Tryz.ntmps79
  go_wp2_with fail
  refine HC.out.mono ?_
  rintro _ w1 ⟨rfl, hb⟩
  go_wp2_with fail
  go_ret
  exact ⟨rfl, hb⟩

theorem Bk.put3 {w : World} {g : Nat} {t : TypeId} {a b c : Value} (h : Bk w g t #[a, b, c]) (a' b' c' : Value) : Bk (((w.setCell ⟨g, 0, none⟩ a').setCell ⟨g, 1, none⟩ b').setCell ⟨g, 2, none⟩ c') g t #[a', b', c'] :=
  ((h.set_ 0 a').set_ 1 b').set_ 2 c'
theorem Ext.put3 {w0 w : World} {g : Nat} (h : Ext w0 w) (hg : w0.heap.size ≤ g) (a' b' c' : Value) : Ext w0 (((w.setCell ⟨g, 0, none⟩ a').setCell ⟨g, 1, none⟩ b').setCell ⟨g, 2, none⟩ c') :=
  ((h.setCell hg _).setCell hg _).setCell hg _
def Wt.val (t : Wt) : Value := .agg #[.int .i64 t.what, .int .i64 t.fr, .int .i64 t.to_]
set_option maxRecDepth 100000 in
set_option maxHeartbeats 1000000 in
theorem MWant_any (mb : Nat) (va vw : Value) (m : Mi) (w : World) (h : MiAt 75 w mb va vw m) :
    Calls Tryz.prog 74 #[.pointer (some ⟨mb, 0, none⟩)] w fun e w' => e = .returned m.want.val ∧ Ext w w' := by
  have B0 := Bk.at_ w 60 #[.int .i64 0, .int .i64 0, .int .i64 0] w.heap.size rfl
  have e0 : Ext w (w.alloc (.cells #[.int .i64 0, .int .i64 0, .int .i64 0] 60)) := (Ext.refl _).alloc _
  have hgd := h.good
  have h0 := h.ext e0
  clear h
  obtain ⟨n, hn⟩ : ∃ n, m.own.length = n := ⟨_, rfl⟩
  obtain ⟨k, hk⟩ : ∃ n, m.waits.length = n := ⟨_, rfl⟩
  obtain ⟨ns, hns⟩ : ∃ x, m.next.size = x := ⟨_, rfl⟩
  have HW1 : Hid (ns = 0 → m.want = ⟨1, 0, 0⟩) := Lib.hid fun e => if_pos (hns.trans e)
  have HW2 : Hid (ns ≠ 0 → (n : Int) + (k : Int) = ns → m.want = ⟨3, (n : Int), ns⟩) := Lib.hid fun e e2 => by
    unfold Mi.want Mi.have_; rw [hn, hk, hns, if_neg e, if_pos e2]
  have HW3 : Hid (ns ≠ 0 → (n : Int) + (k : Int) ≠ ns → m.want = ⟨2, (n : Int) + (k : Int), min ns ((n : Int) + (k : Int) + 16)⟩) := Lib.hid fun e e2 => by
    unfold Mi.want Mi.have_; rw [hn, hk, hns, if_neg e, if_neg e2]
  have hle := hgd.have_le
  have hnb := hgd.nsz
  have ow := h0.own
  have wa := h0.waits
  have hbk := h0.bk
  rw [hn] at ow hle
  rw [hk] at wa hle
  rw [hns] at hnb
  obtain ⟨A, c, rfl, hc, hr, -⟩ := own_rd ow
  obtain ⟨A', c', rfl, hc', hr', -⟩ := own_rd wa
  have c1 : (w.alloc (.cells #[.int .i64 0, .int .i64 0, .int .i64 0] 60)).cell? ⟨mb, 1, none⟩ = some (.slice A n c) := hbk.cell 1
  have c6 : (w.alloc (.cells #[.int .i64 0, .int .i64 0, .int .i64 0] 60)).cell? ⟨mb, 6, none⟩ = some (.int .i64 ns) := by rw [← hns]; exact hbk.cell 6
  have c10 : (w.alloc (.cells #[.int .i64 0, .int .i64 0, .int .i64 0] 60)).cell? ⟨mb, 10, none⟩ = some (.slice A' k c') := hbk.cell 10
  obtain ⟨wt, hwt⟩ : ∃ x, m.want = x := ⟨_, rfl⟩
  rw [hwt] at HW1 HW2 HW3
  rw [hwt]
  obtain ⟨hv, hhv⟩ : ∃ x : Int, (n : Int) + (k : Int) = x := ⟨_, rfl⟩
  have hw : IntKind.i64.wrap ((n : Int) + (k : Int)) = hv := by rw [← hhv]; exact IntWalk.i64_in _ (by omega)
  rw [hhv] at HW2 HW3
  have hv0 : 0 ≤ hv ∧ hv ≤ 200 := by omega
  have HHV := Lib.hid hhv
  clear hwt hns hn hk hgd h0 ow wa hr hr' hbk hle hhv
  go_enter Tryz.func74, Tryz.ntmps74
  go_upto_region 1 with (fail)
  generalize (w.alloc (.cells #[.int .i64 0, .int .i64 0, .int .i64 0] 60)) = W0 at *
  obtain ⟨g0, hg0⟩ : ∃ g, w.heap.size = g := ⟨_, rfl⟩
  rw [hg0] at B0
  try rw [hg0]
  have HG := Lib.hid hg0
  have HE0 := Lib.hid e0
  have q0 := B0.frozen 0
  have q1 := B0.frozen 1
  have q2 := B0.frozen 2
  have y0 := B0.cell 0
  have y1 := B0.cell 1
  have y2 := B0.cell 2
  clear e0 hg0
  by_cases h0 : ns = 0
  · obtain rfl := HW1.out h0
    subst h0
    clear HW1 HW2 HW3
    go_wp2_with fail
    go_quiet (fail)
    go_wp2_with fail
    have P := (B0.drewN (nq)).put3 (.int .i64 1) (.int .i64 0) (.int .i64 0)
    have p0 := P.cell 0
    have p1 := P.cell 1
    have p2 := P.cell 2
    refine bodyPost_ret (by simp [results, Tryz.results74, go_sem, p0, p1, p2]; try rfl) rfl ?_
    exact ⟨rfl, (HE0.out.drewN (nq)).put3 (by rw [HG.out]; exact Nat.le_refl _) _ _ _⟩
  have hb0 : (ns == 0) = false := beq_eq_false_iff_ne.2 h0
  by_cases h1 : hv = ns
  · obtain rfl := HW2.out h0 h1
    subst h1
    clear HW1 HW2 HW3
    go_wp2_with fail
    go_quiet (fail)
    go_wp2_with fail
    go_region
    go_wp2_with fail
    have P := (B0.drewN (nq + 1)).put3 (.int .i64 3) (.int .i64 n) (.int .i64 hv)
    have p0 := P.cell 0
    have p1 := P.cell 1
    have p2 := P.cell 2
    refine bodyPost_ret (by simp [results, Tryz.results74, go_sem, p0, p1, p2]; try rfl) rfl ?_
    exact ⟨rfl, (HE0.out.drewN (nq + 1)).put3 (by rw [HG.out]; exact Nat.le_refl _) _ _ _⟩
  · obtain rfl := HW3.out h0 h1
    have hb1 : (hv == ns) = false := beq_eq_false_iff_ne.2 h1
    have hw16 : IntKind.i64.wrap (hv + 16) = hv + 16 := IntWalk.i64_in _ (by omega)
    clear HW1 HW2 HW3 h1
    go_wp2_with fail
    go_quiet (fail)
    go_wp2_with fail
    have P := (B0.drewN (nq)).put3 (.int .i64 2) (.int .i64 hv) (.int .i64 (min ns (hv + 16)))
    have p0 := P.cell 0
    have p1 := P.cell 1
    have p2 := P.cell 2
    refine bodyPost_ret (by simp [results, Tryz.results74, go_sem, p0, p1, p2]; try rfl) rfl ?_
    exact ⟨rfl, (HE0.out.drewN (nq)).put3 (by rw [HG.out]; exact Nat.le_refl _) _ _ _⟩
end Go.Proofs.YtnphbkjkeipmmaaGreatDoor

/- A mirror in memory: New, forget, hear a head. -/
namespace Go.Proofs.YtnphbkjkeipmmaaGreatDoor
open Go.RowKit Go.WideShapes
set_option linter.unusedVariables false
attribute [local go_sem ↓] Go.wp_at_zero Go.wp_at_succ

/-- what an operation of a mirror leaves -/
def MPost (w : World) (P : Nat → Prop) (mb : Nat) (r : Mi × Int) (e : Ending) (w' : World) : Prop := e = .returned (errR r.2) ∧ MM 75 w' P mb r.1 ∧ Chg w w' P
section
variable {w w0 w' : World} {P : Nat → Prop} {mb : Nat} {r : Mi × Int} {e : Ending}
theorem MPost.from (h : MPost w P mb r e w') (k : Ext w0 w) : MPost w0 P mb r e w' := ⟨h.1, h.2.1, (k.chg P).trans h.2.2 fun _ _ h => h⟩
theorem MPost.ext {w2 : World} (h : MPost w P mb r e w') (k : Ext w' w2) : MPost w P mb r e w2 := ⟨h.1, h.2.1.ext k, h.2.2.trans (k.chg P) fun _ _ h => h⟩
theorem MPost.stay {va vw : Value} {m : Mi} {k : Int} (h : MiAt 75 w mb va vw m) (hP : ∀ g, MFoot mb va vw g → P g) (e : Ext w w') : MPost w P mb (m, k) (.returned (errR k)) w' := ⟨rfl, ⟨va, vw, h.ext e, hP⟩, e.chg P⟩
end
/-- a mirror whose own block alone was written -/
theorem MiAt.put {w w' : World} {mb : Nat} {va vw va' vw' : Value} {m m' : Mi} {P : Nat → Prop} (h : MiAt 75 w mb va vw m) (hP : ∀ g, MFoot mb va vw g → P g) (hg : w.grownBy w' (some mb))
    (hb : Bk w' mb 75 (mcells m'.key va' m'.head m'.next vw')) (ho : w.ownsRow 0 67 2 va' m'.own.length (m'.own.flatMap Ent.cells)) (hw : w.ownsRow 0 67 2 vw' m'.waits.length (m'.waits.flatMap Ent.cells))
    (hap : ∀ g, va'.ownBlock = some g → vw'.ownBlock ≠ some g) (hgd : m'.Good) (hPa : ∀ g, va'.ownBlock = some g → P g) (hPw : ∀ g, vw'.ownBlock = some g → P g) :
    MM 75 w' P mb m' ∧ Chg w w' P := by
  refine ⟨⟨va', vw', ⟨hb, ho.kept hg (.inr (own_type ho h.bk (by decide))), hw.kept hg (.inr (own_type hw h.bk (by decide))), hap, hgd⟩, fun g hf => ?_⟩, (gb_chg hg).mono fun x _ hx => ?_⟩
  · rcases hf with rfl | hf | hf
    · exact hP _ (.inl rfl)
    · exact hPa g hf
    · exact hPw g hf
  · injection hx with hx
    subst hx
    exact hP _ (.inl rfl)

theorem MNew_any (key : Int) (w : World) :
    Calls Tryz.prog 10 #[.int .i64 key] w fun e w' => (keyI key = false ∧ e = .returned (.tuple #[.pointer none, errR 1]) ∧ Ext w w') ∨ (keyI key = true ∧ e = .returned (.tuple #[.pointer (some ⟨w.heap.size, 0, none⟩), errR 0]) ∧ MiAt 75 w' w.heap.size (.slice none 0 0) (.slice none 0 0) (Mi.new key) ∧ Ext w w') := by
  have HK := Lib.hid (HKey_any key w)
  obtain ⟨kb, hkb⟩ : ∃ v, keyI key = v := ⟨_, rfl⟩
  rw [hkb] at HK
  rw [hkb]
  clear hkb
  have B0 : Bk (w.alloc (.cells #[.int .i64 key, .slice none 0 0, .int .i64 0, .int .i64 0, .int .i64 0, .int .i64 0, .int .i64 0, .int .i64 0, .int .i64 0, .int .i64 0, .slice none 0 0] 75)) w.heap.size 75 (mcells key (.slice none 0 0) hd00 hd00 (.slice none 0 0)) := Bk.at_ w _ _ w.heap.size rfl
  have M0 : MiAt 75 (w.alloc (.cells #[.int .i64 key, .slice none 0 0, .int .i64 0, .int .i64 0, .int .i64 0, .int .i64 0, .int .i64 0, .int .i64 0, .int .i64 0, .int .i64 0, .slice none 0 0] 75)) w.heap.size (.slice none 0 0) (.slice none 0 0) (Mi.new key) :=
    ⟨B0, own_nil _ _ _ _, own_nil _ _ _ _, fun g hg => by simp [Value.ownBlock] at hg, Mi.Good.new key⟩
  have HM := Lib.hid M0
  clear B0 M0
  go_enter Tryz.func10, Tryz.ntmps10
  go_wp2_with fail
  refine HK.out.mono ?_
  rintro _ _ ⟨rfl, rfl⟩
  cases kb with
  | true =>
    go_wp2_with fail
    go_ret2
    exact ⟨rfl, HM.out, by (repeat (with_reducible first | exact Ext.refl _ | assumption | refine Ext.drew ?_ | refine Ext.drewN ?_ _ | refine Ext.alloc ?_ _ | refine Ext.trans ?_ (by with_reducible assumption)))⟩
  | false =>
    go_wp2_with fail
    go_ret2
    exact ⟨rfl, by (repeat (with_reducible first | exact Ext.refl _ | assumption | refine Ext.drew ?_ | refine Ext.drewN ?_ _ | refine Ext.alloc ?_ _ | refine Ext.trans ?_ (by with_reducible assumption)))⟩

set_option maxRecDepth 100000 in
set_option maxHeartbeats 1000000 in
theorem forget_raw (mb : Nat) (key : Int) (va : Value) (h nx : Hd) (vw : Value) (k : Int) (w : World) (hb : Bk w mb 75 (mcells key va h nx vw)) :
    Calls Tryz.prog 131 #[.pointer (some ⟨mb, 0, none⟩), errR k] w fun e w' => e = .returned (errR k) ∧ Bk w' mb 75 (mcells key va h hd00 (.slice none 0 0)) ∧ w.grownBy w' (some mb) := by
  have y6 : w.cell? ⟨mb, 6, none⟩ = some (.int .i64 nx.size) := hb.cell 6
  have y7 : w.cell? ⟨mb, 7, none⟩ = some (.int .i64 nx.root) := hb.cell 7
  have y8 : w.cell? ⟨mb, 8, none⟩ = some (.int .i64 nx.time) := hb.cell 8
  have y9 : w.cell? ⟨mb, 9, none⟩ = some (.int .i64 nx.sign) := hb.cell 9
  have y10 : w.cell? ⟨mb, 10, none⟩ = some vw := hb.cell 10
  have q6 := hb.frozen 6
  have q7 := hb.frozen 7
  have q8 := hb.frozen 8
  have q9 := hb.frozen 9
  have q10 := hb.frozen 10
  have HB := Lib.hid hb
  clear hb
  go_enter Tryz.func131, Tryz.ntmps131
  go_wp2_with fail
  go_ret
  exact ⟨rfl, (((((HB.out.set_ 6 _).set_ 7 _).set_ 8 _).set_ 9 _).set_ 10 _),
    gb_trans (gb_trans (gb_trans (gb_trans (gb_set w mb 6 (.int .i64 0)) (gb_set _ mb 7 (.int .i64 0))) (gb_set _ mb 8 (.int .i64 0))) (gb_set _ mb 9 (.int .i64 0))) (gb_set _ mb 10 (.slice none 0 0))⟩
theorem forget_any (P : Nat → Prop) (mb : Nat) (va vw : Value) (m : Mi) (k : Int) (w : World) (h : MiAt 75 w mb va vw m) (hP : ∀ g, MFoot mb va vw g → P g) :
    Calls Tryz.prog 131 #[.pointer (some ⟨mb, 0, none⟩), errR k] w (MPost w P mb (m.forget, k)) := by
  refine (forget_raw mb m.key va m.head m.next vw k w h.bk).mono fun e w' ⟨he, hb, hg⟩ => ?_
  obtain ⟨h1, h2⟩ := h.put (m' := m.forget) (va' := va) (vw' := .slice none 0 0) hP hg hb h.own (own_nil _ _ _ _) (fun g _ hg => by simp [Value.ownBlock] at hg) h.good.forget (fun g hg => hP g (.inr (.inl hg))) (fun g hg => by simp [Value.ownBlock] at hg)
  exact ⟨he, h1, h2⟩

theorem better_bet (a b : Hd) : better a b = betB a b := by
  unfold better betB
  by_cases h1 : b.size < a.size <;> by_cases h2 : a.size = b.size <;> by_cases h3 : b.time < a.time <;> simp [h1, h2, h3]
set_option maxRecDepth 100000 in
set_option maxHeartbeats 2000000 in
theorem hearH_any (P : Nat → Prop) (mb : Nat) (va vw : Value) (m : Mi) (hh : Hd) (w : World) (h : MiAt 75 w mb va vw m) (hP : ∀ g, MFoot mb va vw g → P g) (hD : DebG w) (hPow : PowG w) (hn : m.next.size = 0) :
    Calls Tryz.prog 128 #[.pointer (some ⟨mb, 0, none⟩), hh.val] w (MPost w P mb (m.hearH hh)) := by
  obtain ⟨hE, hN, hG0⟩ := errR_rules
  have B0 := Bk.at_ w 29 #[.int .i64 hh.size, .int .i64 hh.root, .int .i64 hh.time, .int .i64 hh.sign] w.heap.size rfl
  have e0 : Ext w (w.alloc (.cells #[.int .i64 hh.size, .int .i64 hh.root, .int .i64 hh.time, .int .i64 hh.sign] 29)) := (Ext.refl _).alloc _
  have HV := Lib.hid fun W (e : Ext w W) => Verify_any hh m.key W (hD.ext e) (hPow.ext e)
  have HRO := Lib.hid fun W (e : Ext w W) => MRoot_any mb va vw m W (h.ext e)
  have hgd := h.good
  obtain ⟨n, hnl⟩ : ∃ n, m.own.length = n := ⟨_, rfl⟩
  obtain ⟨vk, hvk⟩ : ∃ v, verK hh m.key = v := ⟨_, rfl⟩
  obtain ⟨ro, hro⟩ : ∃ v, rootE m.own = v := ⟨_, rfl⟩
  have hn200 : n ≤ 200 := by rw [← hnl]; exact hgd.own_le
  have R1 : Hid (vk ≠ 0 → m.hearH hh = (m, vk)) := Lib.hid fun e => by unfold Mi.hearH; rw [hvk, if_pos e]
  have R2 : Hid (vk = 0 → (hh.size < (n : Int) ∨ (hh.size = (n : Int) ∧ hh.root ≠ ro)) → m.hearH hh = (m, 3)) := Lib.hid fun e e2 => by
    unfold Mi.hearH; rw [hvk, hnl, hro, if_neg (not_not_intro e), if_pos e2]
  have R3 : Hid (vk = 0 → (n : Int) < hh.size → m.hearH hh = ({ m with next := hh }, 0)) := Lib.hid fun e e2 => by
    unfold Mi.hearH; rw [hvk, hnl, hro, if_neg (not_not_intro e), if_neg (by omega), if_pos e2]
  have R4 : Hid (vk = 0 → hh.size = (n : Int) → hh.root = ro → m.hearH hh = if betB hh m.head = true then ({ m with head := hh }, 0) else (m, 0)) := Lib.hid fun e e2 e3 => by
    unfold Mi.hearH; rw [hvk, hnl, hro, if_neg (not_not_intro e), if_neg (by rintro (h | ⟨_, h⟩); omega; exact h e3), if_neg (by omega)]
  have HBE : Hid (vk = 0 → ∀ W, Calls Tryz.prog 150 #[hh.val, m.head.val] W fun e w' => e = .returned (.tuple #[.bool (betB hh m.head), .nilIface]) ∧ Ext W w') := Lib.hid fun e W => by
    rw [← better_bet]
    exact Better_ok hh m.head W (verK_zero (hvk.trans e)).2.1 hgd.hok
  have HG0 := Lib.hid (hgd.hearH (hh := hh) hn)
  have HH := Lib.hid h
  have HP := Lib.hid hP
  have h1 := h.ext e0
  have hk0 : (w.alloc (.cells #[.int .i64 hh.size, .int .i64 hh.root, .int .i64 hh.time, .int .i64 hh.sign] 29)).cell? ⟨mb, 0, none⟩ = some (.int .i64 m.key) := h1.bk.cell 0
  have ow := h1.own
  rw [hnl] at ow
  obtain ⟨A, c, hva, hc, -, -⟩ := own_rd ow
  have HVA := Lib.hid hva
  have HH1 := Lib.hid h1
  have HNL := Lib.hid hnl
  rw [hvk] at HV
  rw [hro] at HRO
  obtain ⟨key, hkey⟩ : ∃ v, m.key = v := ⟨_, rfl⟩
  have HKEY := Lib.hid hkey
  rw [hkey] at hk0 HV
  clear hvk hro hD hPow hgd hn h hP h1 ow hnl hva hkey
  obtain ⟨a0, a1, a2, a3⟩ := hh
  simp only [Hd.val] at *
  go_enter Tryz.func128, Tryz.ntmps128
  go_upto_region 1 with (fail)
  generalize (w.alloc (.cells #[.int .i64 a0, .int .i64 a1, .int .i64 a2, .int .i64 a3] 29)) = W0 at *
  obtain ⟨g0, hg0⟩ : ∃ g, w.heap.size = g := ⟨_, rfl⟩
  rw [hg0] at B0
  try rw [hg0]
  have HG := Lib.hid hg0
  have HE0 := Lib.hid e0
  have HB0 := Lib.hid B0
  have x0 : ∀ x : WE W0, x.W.cell? ⟨g0, 0, none⟩ = some (.int .i64 a0) := fun x => (HB0.out.ext x.h).cell 0
  have x1 : ∀ x : WE W0, x.W.cell? ⟨g0, 1, none⟩ = some (.int .i64 a1) := fun x => (HB0.out.ext x.h).cell 1
  have x2 : ∀ x : WE W0, x.W.cell? ⟨g0, 2, none⟩ = some (.int .i64 a2) := fun x => (HB0.out.ext x.h).cell 2
  have x3 : ∀ x : WE W0, x.W.cell? ⟨g0, 3, none⟩ = some (.int .i64 a3) := fun x => (HB0.out.ext x.h).cell 3
  have xk : ∀ x : WE W0, x.W.cell? ⟨mb, 0, none⟩ = some (.int .i64 key) := fun x => by
    have := (HH1.out.ext x.h).bk.cell 0
    rw [← HKEY.out]; exact this
  clear e0 hg0 B0 hk0
  (refine wp_region_ext (w0 := W0) (by kernel_rfl) (by kernel_rfl) (by (repeat (with_reducible first | exact Ext.refl _ | assumption | refine Ext.drew ?_ | refine Ext.drewN ?_ _ | refine Ext.alloc ?_ _ | refine Ext.trans ?_ (by with_reducible assumption)))) ?_; (repeat (go_big_quiet_step (((go_at_call 149; exact quietE (HV.out _ (HE0.out.trans (WE.h _)))))))); refine wpQuiet_nil ?_)
  intro w2 hb2
  clear x0 x1 x2 x3 xk
  have HE2 := Lib.hid (HE0.out.trans hb2)
  have B2 := HB0.out.ext hb2
  have H2 := HH1.out.ext hb2
  have HB2 := Lib.hid B2
  have HH2 := Lib.hid H2
  by_cases h0 : vk = 0
  case neg =>
    have hok := isOk_no h0
    have HR := Lib.hid (R1.out h0)
    clear R1 R2 R3 R4 HBE h0 B2 H2 HG0
    go_wp2_with fail
    go_ret
    rw [HR.out]
    exact MPost.stay HH.out HP.out HE2.out
  subst h0
  rw [errR_0]
  have z0 : ∀ x : WE w2, x.W.cell? ⟨g0, 0, none⟩ = some (.int .i64 a0) := fun x => (HB2.out.ext x.h).cell 0
  have z1 : ∀ x : WE w2, x.W.cell? ⟨g0, 1, none⟩ = some (.int .i64 a1) := fun x => (HB2.out.ext x.h).cell 1
  have y1 : w2.cell? ⟨mb, 1, none⟩ = some (.slice A n c) := by rw [← HVA.out]; exact H2.bk.cell 1
  clear R1 B2 H2
  rcases Int.lt_trichotomy a0 (n : Int) with h1 | h1 | h1
  · have HR := Lib.hid (R2.out rfl (.inl h1))
    clear R2 R3 R4 HBE HG0
    go_wp2_with fail
    (refine wp_region_ext (w0 := w2) (by kernel_rfl) (by kernel_rfl) (by (repeat (with_reducible first | exact Ext.refl _ | assumption | refine Ext.drew ?_ | refine Ext.drewN ?_ _ | refine Ext.alloc ?_ _ | refine Ext.trans ?_ (by with_reducible assumption)))) ?_; (repeat (go_big_quiet_step ((fail)))); refine wpQuiet_nil ?_)
    intro w3 hb3
    have HE3 := Lib.hid (HE2.out.trans hb3)
    clear z0 z1 hb3
    go_wp2_with fail
    go_ret
    rw [HR.out]
    exact MPost.stay HH.out HP.out HE3.out
  · have hn1 : ¬ (a0 < (n : Int)) := by omega
    by_cases h2 : a1 = ro
    case neg =>
      have HR := Lib.hid (R2.out rfl (.inr ⟨h1, h2⟩))
      have hb : (a1 == ro) = false := beq_eq_false_iff_ne.2 h2
      clear R2 R3 R4 HBE HG0 h2
      subst h1
      go_wp2_with fail
      (refine wp_region_ext (w0 := w2) (by kernel_rfl) (by kernel_rfl) (by (repeat (with_reducible first | exact Ext.refl _ | assumption | refine Ext.drew ?_ | refine Ext.drewN ?_ _ | refine Ext.alloc ?_ _ | refine Ext.trans ?_ (by with_reducible assumption)))) ?_; (repeat (go_big_quiet_step (((go_at_call 79; exact quietE (HRO.out _ (HE2.out.trans (WE.h _)))))))); refine wpQuiet_nil ?_)
      intro w3 hb3
      have HE3 := Lib.hid (HE2.out.trans hb3)
      clear z0 z1 hb3
      go_wp2_with fail
      go_ret
      rw [HR.out]
      exact MPost.stay HH.out HP.out HE3.out
    subst h2
    have HR := Lib.hid (R4.out rfl h1 rfl)
    have HBT := Lib.hid (HBE.out rfl)
    clear R2 R3 R4 HBE
    subst h1
    go_wp2_with fail
    (refine wp_region_ext (w0 := w2) (by kernel_rfl) (by kernel_rfl) (by (repeat (with_reducible first | exact Ext.refl _ | assumption | refine Ext.drew ?_ | refine Ext.drewN ?_ _ | refine Ext.alloc ?_ _ | refine Ext.trans ?_ (by with_reducible assumption)))) ?_; (repeat (go_big_quiet_step (((go_at_call 79; exact quietE (HRO.out _ (HE2.out.trans (WE.h _)))))))); refine wpQuiet_nil ?_)
    intro w3 hb3
    clear z0 z1
    have HE3 := Lib.hid (HE2.out.trans hb3)
    have HB3 := Lib.hid (HB2.out.ext hb3)
    have HH3 := Lib.hid (HH2.out.ext hb3)
    obtain ⟨bb, hbb⟩ : ∃ b, betB ⟨(n : Int), a1, a2, a3⟩ m.head = b := ⟨_, rfl⟩
    rw [hbb] at HR HBT
    clear hbb
    have y0 : w3.cell? ⟨g0, 0, none⟩ = some (.int .i64 n) := HB3.out.cell 0
    have u0 : ∀ x : WE w3, x.W.cell? ⟨g0, 0, none⟩ = some (.int .i64 n) := fun x => (HB3.out.ext x.h).cell 0
    have u1 : ∀ x : WE w3, x.W.cell? ⟨g0, 1, none⟩ = some (.int .i64 a1) := fun x => (HB3.out.ext x.h).cell 1
    have u2 : ∀ x : WE w3, x.W.cell? ⟨g0, 2, none⟩ = some (.int .i64 a2) := fun x => (HB3.out.ext x.h).cell 2
    have u3 : ∀ x : WE w3, x.W.cell? ⟨g0, 3, none⟩ = some (.int .i64 a3) := fun x => (HB3.out.ext x.h).cell 3
    have v2 : ∀ x : WE w3, x.W.cell? ⟨mb, 2, none⟩ = some (.int .i64 m.head.size) := fun x => (HH3.out.ext x.h).bk.cell 2
    have v3 : ∀ x : WE w3, x.W.cell? ⟨mb, 3, none⟩ = some (.int .i64 m.head.root) := fun x => (HH3.out.ext x.h).bk.cell 3
    have v4 : ∀ x : WE w3, x.W.cell? ⟨mb, 4, none⟩ = some (.int .i64 m.head.time) := fun x => (HH3.out.ext x.h).bk.cell 4
    have v5 : ∀ x : WE w3, x.W.cell? ⟨mb, 5, none⟩ = some (.int .i64 m.head.sign) := fun x => (HH3.out.ext x.h).bk.cell 5
    obtain ⟨m0, hm0⟩ : ∃ v, m.head.size = v := ⟨_, rfl⟩
    obtain ⟨m1, hm1⟩ : ∃ v, m.head.root = v := ⟨_, rfl⟩
    obtain ⟨m2, hm2⟩ : ∃ v, m.head.time = v := ⟨_, rfl⟩
    obtain ⟨m3, hm3⟩ : ∃ v, m.head.sign = v := ⟨_, rfl⟩
    rw [hm0] at v2 HBT
    rw [hm1] at v3 HBT
    rw [hm2] at v4 HBT
    rw [hm3] at v5 HBT
    have HM0 := Lib.hid hm0
    have HM1 := Lib.hid hm1
    have HM2 := Lib.hid hm2
    have HM3 := Lib.hid hm3
    clear hm0 hm1 hm2 hm3
    go_wp2_with fail
    (refine wp_region_ext (w0 := w3) (by kernel_rfl) (by kernel_rfl) (by (repeat (with_reducible first | exact Ext.refl _ | assumption | refine Ext.drew ?_ | refine Ext.drewN ?_ _ | refine Ext.alloc ?_ _ | refine Ext.trans ?_ (by with_reducible assumption)))) ?_; (repeat (go_big_quiet_step (((go_at_call 150; exact quietE (HBT.out _)))))); refine wpQuiet_nil ?_)
    intro w4 hb4
    clear y0 u0 u1 u2 u3 v2 v3 v4 v5
    have HE4 := Lib.hid (HE3.out.trans hb4)
    have B4 := HB3.out.ext hb4
    have H4 := HH3.out.ext hb4
    have HH4 := Lib.hid H4
    cases bb with
    | false =>
      clear B4 H4
      go_wp2_with fail
      go_ret
      rw [HR.out, if_neg (by decide)]
      exact MPost.stay HH.out HP.out HE4.out
    | true =>
      have u0 : w4.cell? ⟨g0, 0, none⟩ = some (.int .i64 n) := B4.cell 0
      have u1 : w4.cell? ⟨g0, 1, none⟩ = some (.int .i64 a1) := B4.cell 1
      have u2 : w4.cell? ⟨g0, 2, none⟩ = some (.int .i64 a2) := B4.cell 2
      have u3 : w4.cell? ⟨g0, 3, none⟩ = some (.int .i64 a3) := B4.cell 3
      have v2 : w4.cell? ⟨mb, 2, none⟩ = some (.int .i64 m0) := by rw [← HM0.out]; exact H4.bk.cell 2
      have v3 : w4.cell? ⟨mb, 3, none⟩ = some (.int .i64 m1) := by rw [← HM1.out]; exact H4.bk.cell 3
      have v4 : w4.cell? ⟨mb, 4, none⟩ = some (.int .i64 m2) := by rw [← HM2.out]; exact H4.bk.cell 4
      have v5 : w4.cell? ⟨mb, 5, none⟩ = some (.int .i64 m3) := by rw [← HM3.out]; exact H4.bk.cell 5
      have q2 := H4.bk.frozen 2
      have q3 := H4.bk.frozen 3
      have q4 := H4.bk.frozen 4
      have q5 := H4.bk.frozen 5
      clear B4 H4
      go_wp2_with fail
      go_ret
      rw [HR.out, if_pos trivial]
      have hg := HG0.out
      rw [HR.out, if_pos trivial] at hg
      obtain ⟨h1, h2⟩ := HH4.out.put (m' := { m with head := ⟨(n : Int), a1, a2, a3⟩ }) (va' := va) (vw' := vw) HP.out
        (gb_trans (gb_trans (gb_trans (gb_set w4 mb 2 (.int .i64 n)) (gb_set _ mb 3 (.int .i64 a1))) (gb_set _ mb 4 (.int .i64 a2))) (gb_set _ mb 5 (.int .i64 a3)))
        ((((HH4.out.bk.set_ 2 _).set_ 3 _).set_ 4 _).set_ 5 _) HH4.out.own HH4.out.waits HH4.out.apart hg (fun g hg => HP.out g (.inr (.inl hg))) (fun g hg => HP.out g (.inr (.inr hg)))
      exact ⟨rfl, h1, (HE4.out.chg P).trans h2 fun _ _ h => h⟩
  · have hn1 : (a0 < (n : Int)) = False := eq_false (by omega)
    have hb : (a0 == (n : Int)) = false := beq_eq_false_iff_ne.2 (by omega)
    have HR := Lib.hid (R3.out rfl h1)
    clear R2 R3 R4 HBE
    go_wp2_with fail
    (refine wp_region_ext (w0 := w2) (by kernel_rfl) (by kernel_rfl) (by (repeat (with_reducible first | exact Ext.refl _ | assumption | refine Ext.drew ?_ | refine Ext.drewN ?_ _ | refine Ext.alloc ?_ _ | refine Ext.trans ?_ (by with_reducible assumption)))) ?_; (repeat (go_big_quiet_step ((fail)))); refine wpQuiet_nil ?_)
    intro w3 hb3
    clear z0 z1
    have HE3 := Lib.hid (HE2.out.trans hb3)
    have B3 := HB2.out.ext hb3
    have H3 := HH2.out.ext hb3
    have HH3 := Lib.hid H3
    have u0 : w3.cell? ⟨g0, 0, none⟩ = some (.int .i64 a0) := B3.cell 0
    have u1 : w3.cell? ⟨g0, 1, none⟩ = some (.int .i64 a1) := B3.cell 1
    have u2 : w3.cell? ⟨g0, 2, none⟩ = some (.int .i64 a2) := B3.cell 2
    have u3 : w3.cell? ⟨g0, 3, none⟩ = some (.int .i64 a3) := B3.cell 3
    obtain ⟨m0, hm0⟩ : ∃ v, m.next.size = v := ⟨_, rfl⟩
    obtain ⟨m1, hm1⟩ : ∃ v, m.next.root = v := ⟨_, rfl⟩
    obtain ⟨m2, hm2⟩ : ∃ v, m.next.time = v := ⟨_, rfl⟩
    obtain ⟨m3, hm3⟩ : ∃ v, m.next.sign = v := ⟨_, rfl⟩
    have v6 : w3.cell? ⟨mb, 6, none⟩ = some (.int .i64 m0) := by rw [← hm0]; exact H3.bk.cell 6
    have v7 : w3.cell? ⟨mb, 7, none⟩ = some (.int .i64 m1) := by rw [← hm1]; exact H3.bk.cell 7
    have v8 : w3.cell? ⟨mb, 8, none⟩ = some (.int .i64 m2) := by rw [← hm2]; exact H3.bk.cell 8
    have v9 : w3.cell? ⟨mb, 9, none⟩ = some (.int .i64 m3) := by rw [← hm3]; exact H3.bk.cell 9
    have q6 := H3.bk.frozen 6
    have q7 := H3.bk.frozen 7
    have q8 := H3.bk.frozen 8
    have q9 := H3.bk.frozen 9
    clear B3 H3 hm0 hm1 hm2 hm3 y1
    go_wp2_with fail
    go_ret
    rw [HR.out]
    have hg := HG0.out
    rw [HR.out] at hg
    obtain ⟨h1, h2⟩ := HH3.out.put (m' := { m with next := ⟨a0, a1, a2, a3⟩ }) (va' := va) (vw' := vw) HP.out
      (gb_trans (gb_trans (gb_trans (gb_set w3 mb 6 (.int .i64 a0)) (gb_set _ mb 7 (.int .i64 a1))) (gb_set _ mb 8 (.int .i64 a2))) (gb_set _ mb 9 (.int .i64 a3)))
      ((((HH3.out.bk.set_ 6 _).set_ 7 _).set_ 8 _).set_ 9 _) HH3.out.own HH3.out.waits HH3.out.apart hg (fun g hg => HP.out g (.inr (.inl hg))) (fun g hg => HP.out g (.inr (.inr hg)))
    exact ⟨rfl, h1, (HE3.out.chg P).trans h2 fun _ _ h => h⟩
end Go.Proofs.YtnphbkjkeipmmaaGreatDoor

/- A mirror in memory: settle. -/
namespace Go.Proofs.YtnphbkjkeipmmaaGreatDoor
open Go.RowKit Go.WideShapes
set_option linter.unusedVariables false
attribute [local go_sem ↓] Go.wp_at_zero Go.wp_at_succ

set_option maxRecDepth 100000 in
set_option maxHeartbeats 2000000 in
theorem settle_any (P : Nat → Prop) (mb : Nat) (va vw : Value) (m : Mi) (w : World) (h : MiAt 75 w mb va vw m) (hP : ∀ g, MFoot mb va vw g → P g) (hPn : ∀ g, w.heap.size ≤ g → P g) (hn : m.next.size ≠ 0) (hf : m.have_ = m.next.size) :
    Calls Tryz.prog 132 #[.pointer (some ⟨mb, 0, none⟩)] w (MPost w P mb m.settle) := by
  have hgd := h.good
  have HG0 := Lib.hid (hgd.settle hn hf)
  have hall := hgd.all
  obtain ⟨n, hnl⟩ : ∃ n, m.own.length = n := ⟨_, rfl⟩
  obtain ⟨k, hkl⟩ : ∃ n, m.waits.length = n := ⟨_, rfl⟩
  have hle := hgd.have_le
  obtain ⟨ro, hro⟩ : ∃ v, rootE (m.own ++ m.waits) = v := ⟨_, rfl⟩
  obtain ⟨nr, hnr⟩ : ∃ v, m.next.root = v := ⟨_, rfl⟩
  have R1 : Hid (ro ≠ nr → m.settle = (m.forget, 8)) := Lib.hid fun e => by unfold Mi.settle; rw [hro, hnr, if_pos e]
  have R2 : Hid (ro = nr → m.settle = (⟨m.key, m.own ++ m.waits, m.next, hd00, []⟩, 0)) := Lib.hid fun e => by unfold Mi.settle; rw [hro, hnr, if_neg (not_not_intro e)]
  have ow := h.own
  have wa := h.waits
  rw [hnl] at ow
  rw [hkl] at wa
  rw [hnl, hkl] at hle
  obtain ⟨A, c, rfl, hc, hr, hnA⟩ := own_rd ow
  obtain ⟨A', c', rfl, hc', hr', hnA'⟩ := own_rd wa
  have hA : A = none → n = 0 ∧ c = 0 := fun e => by
    have h0 : n = 0 := by
      rcases Nat.eq_zero_or_pos n with h | h
      · exact h
      · obtain ⟨ad, h1, _⟩ := hr.2.2 h; rw [e] at h1; cases h1
    rcases hnA h0 with h1 | h1
    · exact ⟨h0, h1.2⟩
    · exact absurd e h1
  have hA' : A' = none → k = 0 ∧ c' = 0 := fun e => by
    have h0 : k = 0 := by
      rcases Nat.eq_zero_or_pos k with h | h
      · exact h
      · obtain ⟨ad, h1, _⟩ := hr'.2.2 h; rw [e] at h1; cases h1
    rcases hnA' h0 with h1 | h1
    · exact ⟨h0, h1.2⟩
    · exact absurd e h1
  have HCC : Hid (∀ W, Ext w W → ∀ H, Bk W H 27 #[.slice A n c, .slice A' k c'] → Calls Tryz.prog 154 #[.slice (some ⟨H, 0, none⟩) 2 2] W fun e w' => (∃ v, e = .returned v ∧ w'.ownsRow W.heap.size 67 2 v (n + k) ((m.own ++ m.waits).flatMap Ent.cells)) ∧ Ext W w') := Lib.hid fun W e H hB => by
    rw [List.flatMap_append]
    exact ConcatE_any H A A' n k c c' _ _ W hB (hr.ext e) (hr'.ext e) hA hA' hle (ones_ents _) (ones_ents _)
  have hlen : (m.own ++ m.waits).length = n + k := by rw [List.length_append, hnl, hkl]
  have HRT : Hid (∀ W B d, Rd W 2 B (n + k) d ((m.own ++ m.waits).flatMap Ent.cells) → d ≤ maxLen → Calls Tryz.prog 106 #[.slice B (n + k) d] W fun e w' => e = .returned (.int .i64 ro) ∧ Ext W w') := Lib.hid fun W B d hB hd => by
    have := rootOf_ok B (n + k) d (m.own ++ m.waits) W hB hd hall
    rw [hro] at this
    exact this
  have HF8 : Hid (∀ W, Ext w W → Calls Tryz.prog 131 #[.pointer (some ⟨mb, 0, none⟩), .iface 73 (.int .i64 8)] W (MPost W P mb (m.forget, 8))) := Lib.hid fun W e => forget_any P mb _ _ m 8 W (h.ext e) hP
  have HH := Lib.hid h
  have HP := Lib.hid hP
  have HPN := Lib.hid hPn
  have HLEN := Lib.hid hlen
  have HNR := Lib.hid hnr
  have y1 : w.cell? ⟨mb, 1, none⟩ = some (.slice A n c) := h.bk.cell 1
  have y10 : w.cell? ⟨mb, 10, none⟩ = some (.slice A' k c') := h.bk.cell 10
  clear hgd hall hnl hkl hro hnr ow wa hr hr' hnA hnA' hA hA' h hP hPn hn hf hlen
  go_enter Tryz.func132, Tryz.ntmps132
  go_upto_region 1 with (fail)
  go_cut [3] (fun v wc => Hid (wc.ownsRow w.heap.size 67 2 v (n + k) ((m.own ++ m.waits).flatMap Ent.cells)) ∧ Ext w wc)
  case first =>
    as_aux_lemma =>
    go_region_with (go_at_call 154; (with_reducible refine (HCC.out _ ?_ _ ?_).mono ?_); (focus ((repeat (with_reducible first | exact Ext.refl _ | assumption | refine Ext.drew ?_ | refine Ext.drewN ?_ _ | refine Ext.alloc ?_ _ | refine Ext.trans ?_ (by with_reducible assumption))); done)); (focus ((repeat (with_reducible first | assumption | (refine Bk.at_ _ _ _ _ ?_; simp; done) | refine Bk.drew ?_ | refine Bk.drewN ?_ _ | refine Bk.alloc ?_ _ | refine Bk.ext ?_ (by with_reducible assumption))); done)); rintro _ w2 ⟨⟨v2, rfl, own2⟩, hb2⟩)
    all_goals
      have e2 : Ext w w2 := Ext.trans (by (repeat (with_reducible first | exact Ext.refl _ | assumption | refine Ext.drew ?_ | refine Ext.drewN ?_ _ | refine Ext.alloc ?_ _ | refine Ext.trans ?_ (by with_reducible assumption)))) hb2
      go_wp2_with fail
      go_meet
      exact ⟨own_lower own2 (by simp), e2⟩
  case rest =>
  as_aux_lemma =>
  obtain ⟨own2, hb2⟩ := hcut
  obtain ⟨w2, rfl⟩ : ∃ W, W = wc := ⟨_, rfl⟩
  obtain ⟨nk, hnk⟩ : ∃ x, n + k = x := ⟨_, rfl⟩
  rw [hnk] at own2 HRT HLEN hle
  obtain ⟨B2, c2, rfl, hc2, hr2, -⟩ := own_rd own2.out
  have HR2 := Lib.hid hr2
  have HH2 := Lib.hid (HH.out.ext hb2)
  have HE2 := Lib.hid hb2
  have z7 : ∀ x : WE w2, x.W.cell? ⟨mb, 7, none⟩ = some (.int .i64 nr) := fun x => by
    have := (HH2.out.ext x.h).bk.cell 7
    rw [← HNR.out]; exact this
  clear y1 y10 hr2 HCC hnk hb2
  go_wp2_with fail
  (refine wp_region_ext (w0 := w2) (by kernel_rfl) (by kernel_rfl) (by (repeat (with_reducible first | exact Ext.refl _ | assumption | refine Ext.drew ?_ | refine Ext.drewN ?_ _ | refine Ext.alloc ?_ _ | refine Ext.trans ?_ (by with_reducible assumption)))) ?_; (repeat (go_big_quiet_step (((go_at_call 106; exact quietE (HRT.out _ B2 c2 (HR2.out.ext (WE.h _)) hc2)))))); refine wpQuiet_nil ?_)
  intro w3 hb3
  have HE3 := Lib.hid (HE2.out.trans hb3)
  have H3 := HH2.out.ext hb3
  have HH3 := Lib.hid H3
  have HO3 := Lib.hid (own_ext own2.out hb3)
  clear z7 HR2 HH2 own2 hb3 HE2
  by_cases hq : ro = nr
  · have HR := Lib.hid (R2.out hq)
    subst hq
    clear R1 R2 HF8 HRT
    have hg := HG0.out
    rw [HR.out] at hg
    have HG := Lib.hid hg
    obtain ⟨n0, hn0⟩ : ∃ v, m.next.size = v := ⟨_, rfl⟩
    obtain ⟨n2, hn2⟩ : ∃ v, m.next.time = v := ⟨_, rfl⟩
    obtain ⟨n3, hn3⟩ : ∃ v, m.next.sign = v := ⟨_, rfl⟩
    obtain ⟨m0, hm0⟩ : ∃ v, m.head.size = v := ⟨_, rfl⟩
    obtain ⟨m1, hm1⟩ : ∃ v, m.head.root = v := ⟨_, rfl⟩
    obtain ⟨m2, hm2⟩ : ∃ v, m.head.time = v := ⟨_, rfl⟩
    obtain ⟨m3, hm3⟩ : ∃ v, m.head.sign = v := ⟨_, rfl⟩
    have hnx : m.next = ⟨n0, ro, n2, n3⟩ := by rw [← hn0, ← HNR.out, ← hn2, ← hn3]
    have y1 : w3.cell? ⟨mb, 1, none⟩ = some (.slice A n c) := H3.bk.cell 1
    have y2 : w3.cell? ⟨mb, 2, none⟩ = some (.int .i64 m0) := by rw [← hm0]; exact H3.bk.cell 2
    have y3 : w3.cell? ⟨mb, 3, none⟩ = some (.int .i64 m1) := by rw [← hm1]; exact H3.bk.cell 3
    have y4 : w3.cell? ⟨mb, 4, none⟩ = some (.int .i64 m2) := by rw [← hm2]; exact H3.bk.cell 4
    have y5 : w3.cell? ⟨mb, 5, none⟩ = some (.int .i64 m3) := by rw [← hm3]; exact H3.bk.cell 5
    have y6 : w3.cell? ⟨mb, 6, none⟩ = some (.int .i64 n0) := by rw [← hn0]; exact H3.bk.cell 6
    have y7 : w3.cell? ⟨mb, 7, none⟩ = some (.int .i64 ro) := by rw [← HNR.out]; exact H3.bk.cell 7
    have y8 : w3.cell? ⟨mb, 8, none⟩ = some (.int .i64 n2) := by rw [← hn2]; exact H3.bk.cell 8
    have y9 : w3.cell? ⟨mb, 9, none⟩ = some (.int .i64 n3) := by rw [← hn3]; exact H3.bk.cell 9
    have q1 := H3.bk.frozen 1
    have q2 := H3.bk.frozen 2
    have q3 := H3.bk.frozen 3
    have q4 := H3.bk.frozen 4
    have q5 := H3.bk.frozen 5
    have HNX := Lib.hid hnx
    have S := (((((H3.bk.set_ 1 (.slice B2 nk c2)).set_ 2 (.int .i64 n0)).set_ 3 (.int .i64 ro)).set_ 4 (.int .i64 n2)).set_ 5 (.int .i64 n3))
    have S' : Bk (((((w3.setCell ⟨mb, 1, none⟩ (.slice B2 nk c2)).setCell ⟨mb, 2, none⟩ (.int .i64 n0)).setCell ⟨mb, 3, none⟩ (.int .i64 ro)).setCell ⟨mb, 4, none⟩ (.int .i64 n2)).setCell ⟨mb, 5, none⟩ (.int .i64 n3)) mb 75 (mcells m.key (.slice B2 nk c2) ⟨n0, ro, n2, n3⟩ m.next (.slice A' k c')) := S
    have G4 : w3.grownBy (((((w3.setCell ⟨mb, 1, none⟩ (.slice B2 nk c2)).setCell ⟨mb, 2, none⟩ (.int .i64 n0)).setCell ⟨mb, 3, none⟩ (.int .i64 ro)).setCell ⟨mb, 4, none⟩ (.int .i64 n2)).setCell ⟨mb, 5, none⟩ (.int .i64 n3)) (some mb) :=
      gb_trans (gb_trans (gb_trans (gb_trans (gb_set w3 mb 1 _) (gb_set _ mb 2 _)) (gb_set _ mb 3 _)) (gb_set _ mb 4 _)) (gb_set _ mb 5 _)
    have HS := Lib.hid S'
    have HG4 := Lib.hid G4
    clear S S' G4 H3 hn0 hn2 hn3 hm0 hm1 hm2 hm3 hg hnx HG0
    go_wp2_with fail
    have hf := forget_raw mb m.key (.slice B2 nk c2) ⟨n0, ro, n2, n3⟩ m.next (.slice A' k c') 0 _ HS.out
    rw [errR_0] at hf
    refine hf.mono ?_
    rintro _ w5 ⟨rfl, hb5, hg5⟩
    have HB5 := Lib.hid hb5
    clear hb5 hf
    go_wp2_with fail
    go_ret
    rw [HR.out]
    obtain ⟨h1, h2⟩ := HH3.out.put (m' := ⟨m.key, m.own ++ m.waits, m.next, hd00, []⟩) (va' := .slice B2 nk c2) (vw' := .slice none 0 0) HP.out (gb_trans HG4.out hg5) (by rw [HNX.out]; exact HB5.out)
      (by
        have := own_lower HO3.out (Nat.zero_le _)
        show World.ownsRow _ _ _ _ _ (m.own ++ m.waits).length _
        rw [HLEN.out]; exact this) (own_nil _ _ _ _) (fun g _ hg => by simp [Value.ownBlock] at hg) HG.out (fun g hg => HPN.out g (own_block HO3.out g hg)) (fun g hg => by simp [Value.ownBlock] at hg)
    exact ⟨rfl, h1, (HE3.out.chg P).trans h2 fun _ _ h => h⟩
  · have HR := Lib.hid (R1.out hq)
    have hb : (ro == nr) = false := beq_eq_false_iff_ne.2 hq
    clear R1 R2 HRT hq H3 HG0
    go_wp2_with fail
    refine (HF8.out _ HE3.out).mono ?_
    rintro _ w4 hp
    obtain ⟨rfl, hp2, hp3⟩ := hp
    have HP2 := Lib.hid hp2
    have HP3 := Lib.hid hp3
    clear hp2 hp3
    go_wp2_with fail
    go_ret
    rw [HR.out]
    exact ⟨rfl, HP2.out, (HE3.out.chg P).trans HP3.out fun _ _ h => h⟩
end Go.Proofs.YtnphbkjkeipmmaaGreatDoor

/- A mirror in memory: entries are heard. -/
namespace Go.Proofs.YtnphbkjkeipmmaaGreatDoor
open Go.RowKit Go.WideShapes
set_option linter.unusedVariables false
attribute [local go_sem ↓] Go.wp_at_zero Go.wp_at_succ

theorem eCheckE_any (e : Ent) (w : World) : Calls Tryz.prog 81 #[e.val] w fun v w' => v = .returned (errR (if e.ok then 0 else e.err)) ∧ Ext w w' := by
  obtain ⟨t, s⟩ := e
  by_cases h : (⟨t, s⟩ : Ent).ok
  · rw [if_pos h]
    exact eCheck_ok t s w h
  · rw [if_neg h]
    refine (eCheck_bad t s w h).mono fun v w' ⟨hv, hb⟩ => ⟨?_, hb⟩
    rw [hv, errR_ne (Ent.err_ne _)]
theorem Mi.Good.add {m : Mi} {l : List Ent} (h : m.Good) (hn : m.next.size ≠ 0) (hl : ∀ e ∈ l, e.ok) (hlen : m.have_ + l.length ≤ m.next.size) : ({ m with waits := m.waits ++ l } : Mi).Good :=
  ⟨h.own, fun e he => (List.mem_append.1 he).elim (h.waits e) (hl e), fun k => absurd k hn, fun k => ⟨by
    show (m.own.length : Int) + ((m.waits ++ l).length : Int) ≤ m.next.size
    rw [List.length_append]
    unfold Mi.have_ at hlen
    omega, (h.room k).2⟩, h.next, h.head, h.size⟩
theorem firstErr_at {l : List Ent} {j : Nat} {e : Ent} (h : l[j]? = some e) (hok : ∀ (i : Nat) (f : Ent), i < j → l[i]? = some f → f.ok) (hb : ¬ e.ok) : firstErr l = e.err := by
  obtain ⟨i, f, h1, h2, h3, h4⟩ := first_bad (es := l) (fun k => hb (k e (List.mem_of_getElem? h)))
  have : i = j := by
    rcases Nat.lt_trichotomy i j with h | h | h
    · exact absurd (hok i f h h1) h2
    · exact h
    · exact absurd (h3 j e h ‹_›) hb
  subst this
  rw [h] at h1
  injection h1 with h1
  rw [h4, h1]

set_option maxRecDepth 100000 in
set_option maxHeartbeats 4000000 in
theorem hearE_any (P : Nat → Prop) (mb : Nat) (va vw : Value) (m : Mi) (A : Option Addr) (n c : Nat) (l : List Ent) (w : World) (h : MiAt 75 w mb va vw m) (hP : ∀ g, MFoot mb va vw g → P g) (hPn : ∀ g, w.heap.size ≤ g → P g)
    (hr : Rd w 2 A n c (l.flatMap Ent.cells)) (hm : c ≤ maxLen) (hw : m.want.what = 2) :
    Calls Tryz.prog 129 #[.pointer (some ⟨mb, 0, none⟩), .slice A n c] w (MPost w P mb (m.hearE l)) := by
  obtain ⟨hE, hN, hG0⟩ := errR_rules
  have hnz : m.next.size ≠ 0 := fun e => by unfold Mi.want at hw; rw [if_pos e] at hw; cases hw
  have hfz : m.have_ ≠ m.next.size := fun e => by unfold Mi.want at hw; rw [if_neg hnz, if_pos e] at hw; cases hw
  have ww : m.want = ⟨2, m.have_, min m.next.size (m.have_ + 16)⟩ := by unfold Mi.want; rw [if_neg hnz, if_neg hfz]
  have hgd := h.good
  have HG := Lib.hid (hgd.hearE (l := l) hw)
  have hle := hgd.have_le
  have hnx := hgd.nsz
  have hrm := (hgd.room hnz).1
  have hlen := hr.lenE
  obtain ⟨o, ho⟩ : ∃ x, m.own.length = x := ⟨_, rfl⟩
  obtain ⟨k, hk⟩ : ∃ x, m.waits.length = x := ⟨_, rfl⟩
  obtain ⟨hv, hhv⟩ : ∃ x, m.have_ = x := ⟨_, rfl⟩
  obtain ⟨ns, hns⟩ : ∃ x, m.next.size = x := ⟨_, rfl⟩
  have hhv2 : hv = (o : Int) + (k : Int) := by rw [← hhv, ← ho, ← hk]; rfl
  rw [ho, hk] at hle
  rw [hhv, hns] at hrm
  rw [hns] at hnx
  rw [hns, hhv] at ww
  obtain ⟨to_, hto⟩ : ∃ x, min ns (hv + 16) = x := ⟨_, rfl⟩
  rw [hto] at ww
  have hto2 : to_ ≤ ns ∧ to_ ≤ hv + 16 ∧ hv ≤ to_ := by omega
  have hv0 : 0 ≤ hv ∧ hv ≤ 200 := by omega
  have HHV := Lib.hid hhv2
  have R1 : Hid (((n : Int) < 1 ∨ to_ - hv < n) → m.hearE l = (m.forget, 3)) := Lib.hid fun e => by
    unfold Mi.hearE; rw [ww, hlen]; exact if_pos e
  have R2 : Hid (¬ ((n : Int) < 1 ∨ to_ - hv < n) → firstErr l ≠ 0 → m.hearE l = (m.forget, firstErr l)) := Lib.hid fun e e2 => by
    unfold Mi.hearE; rw [ww, hlen]; dsimp only; rw [if_neg e, if_pos e2]
  have R3 : Hid (¬ ((n : Int) < 1 ∨ to_ - hv < n) → firstErr l = 0 → (o = 0 ∧ ((k + n : Nat) : Int) = ns) → m.hearE l = ({ m with waits := m.waits ++ l } : Mi).settle) := Lib.hid fun e e2 e3 => by
    unfold Mi.hearE; rw [ww, hlen]; dsimp only; rw [if_neg e, if_neg (not_not_intro e2), ho, List.length_append, hk, hlen, hns, if_pos e3]
  have R4 : Hid (¬ ((n : Int) < 1 ∨ to_ - hv < n) → firstErr l = 0 → ¬ (o = 0 ∧ ((k + n : Nat) : Int) = ns) → m.hearE l = ({ m with waits := m.waits ++ l }, 0)) := Lib.hid fun e e2 e3 => by
    unfold Mi.hearE; rw [ww, hlen]; dsimp only; rw [if_neg e, if_neg (not_not_intro e2), ho, List.length_append, hk, hlen, hns, if_neg e3]
  have HWT : Hid (∀ W, Ext w W → Calls Tryz.prog 74 #[.pointer (some ⟨mb, 0, none⟩)] W fun e w' => e = .returned (.agg #[.int .i64 2, .int .i64 hv, .int .i64 to_]) ∧ Ext W w') := Lib.hid fun W e => by
    have := MWant_any mb va vw m W (h.ext e)
    rw [ww] at this; exact this
  have HF : Hid (∀ k W, Ext w W → Calls Tryz.prog 131 #[.pointer (some ⟨mb, 0, none⟩), errR k] W (MPost W P mb (m.forget, k))) := Lib.hid fun k W e => forget_any P mb va vw m k W (h.ext e) hP
  have HF3 : Hid (∀ W, Ext w W → Calls Tryz.prog 131 #[.pointer (some ⟨mb, 0, none⟩), .iface 73 (.int .i64 3)] W (MPost W P mb (m.forget, 3))) := Lib.hid fun W e => forget_any P mb va vw m 3 W (h.ext e) hP
  have HGA : Hid ((∀ e ∈ l, e.ok) → hv + (n : Int) ≤ ns → ({ m with waits := m.waits ++ l } : Mi).Good) := Lib.hid fun e e2 => hgd.add hnz e (by rw [hhv, hns, hlen]; exact e2)
  have HH := Lib.hid h
  have HP := Lib.hid hP
  have HPN := Lib.hid hPn
  have HR := Lib.hid hr
  have HX := Lib.hid hlen
  have HO := Lib.hid ho
  have HK := Lib.hid hk
  have HNS := Lib.hid hns
  have HNZ : Hid (ns ≠ 0) := by rw [← hns]; exact hnz
  have hlc := hr.2.1
  have hms : c ≤ 9223372036854775807 := by unfold maxLen at hm; omega
  clear hnz hfz ww hgd hlen ho hk hhv hns h hP hPn hr hw hto hhv2
  go_enter Tryz.func129, Tryz.ntmps129
  go_wp2_with fail
  refine (HWT.out _ (Ext.refl _)).mono ?_
  rintro _ w1 ⟨rfl, hb1⟩
  have B1 := Bk.at_ w1 60 #[.int .i64 2, .int .i64 hv, .int .i64 to_] w1.heap.size rfl
  have e1 : Ext w (w1.alloc (.cells #[.int .i64 2, .int .i64 hv, .int .i64 to_] 60)) := hb1.alloc _
  go_upto_region 2 with (fail)
  generalize w1.alloc (.cells #[.int .i64 2, .int .i64 hv, .int .i64 to_] 60) = W1 at *
  generalize w1.heap.size = g1 at *
  have y1 := B1.cell 1
  have y2 := B1.cell 2
  have HE1 := Lib.hid e1
  have hsub : IntKind.i64.wrap (to_ - hv) = to_ - hv := IntWalk.i64_in _ (by omega)
  clear hb1 e1 HWT
  by_cases h1 : (n : Int) < 1
  · have HRR := Lib.hid (R1.out (.inl h1))
    clear R1 R2 R3 R4 HF
    go_wp2_with fail
    refine (HF3.out _ HE1.out).mono ?_
    rintro _ w4 ⟨rfl, hp2, hp3⟩
    have HP2 := Lib.hid hp2
    have HP3 := Lib.hid hp3
    clear hp2 hp3
    go_wp2_with fail
    go_ret
    rw [HRR.out]
    exact ⟨rfl, HP2.out, (HE1.out.chg P).trans HP3.out fun _ _ h => h⟩
  by_cases h2 : to_ - hv < (n : Int)
  · have HRR := Lib.hid (R1.out (.inr h2))
    clear R1 R2 R3 R4 HF
    go_wp2_with fail
    refine (HF3.out _ HE1.out).mono ?_
    rintro _ w4 ⟨rfl, hp2, hp3⟩
    have HP2 := Lib.hid hp2
    have HP3 := Lib.hid hp3
    clear hp2 hp3
    go_wp2_with fail
    go_ret
    rw [HRR.out]
    exact ⟨rfl, HP2.out, (HE1.out.chg P).trans HP3.out fun _ _ h => h⟩
  have hno : ¬ ((n : Int) < 1 ∨ to_ - hv < n) := by omega
  have HNO := Lib.hid hno
  have hn16 : n ≤ 16 := by omega
  have hn1 : 1 ≤ n := by omega
  clear R1 HF3 hno
  go_wp2_with fail
  go_loopw [29] (fun x wr => ∃ j : Nat, x = .int .i64 j ∧ j ≤ n ∧ Ext w wr ∧ Hid (∀ (i : Nat) (f : Ent), i < j → l[i]? = some f → f.ok)) (fun x _ => n - (intOf x).toNat)
  case atStart => exact ⟨0, rfl, Nat.zero_le _, HE1.out, Lib.hid fun i y h => absurd h (by omega)⟩
  case round =>
    obtain ⟨j, rfl, hj, hbw, HOK⟩ := hrel
    by_cases hc : j < n
    · have hgj := List.getElem?_eq_getElem (l := l) (i := j) (by rw [HX.out]; exact hc)
      obtain ⟨ad, rfl, hb, c0, c1⟩ := (HR.out.ext hbw).getE hgj
      generalize l[j]'(by rw [HX.out]; exact hc) = x at *
      have HGJ := Lib.hid hgj
      have HC := Lib.hid fun W => eCheckE_any x W
      have HCE : Hid (¬ x.ok → firstErr l = x.err) := Lib.hid fun e => firstErr_at HGJ.out (fun i y hi hy => HOK.out i y hi hy) e
      clear hgj
      by_cases hx : x.ok
      · have HXK := Lib.hid hx
        rw [if_pos hx, errR_0] at HC
        clear hx HCE
        obtain ⟨xt, xd⟩ := x
        simp only [Ent.val] at HC c0 c1
        go_wp2_with fail
        refine (HC.out _).mono ?_
        rintro _ w2 ⟨rfl, hb2⟩
        have e2 : Ext w w2 := Ext.trans (by (repeat (with_reducible first | exact Ext.refl _ | assumption | refine Ext.drew ?_ | refine Ext.drewN ?_ _ | refine Ext.alloc ?_ _ | refine Ext.trans ?_ (by with_reducible assumption)))) hb2
        go_wp2_with fail
        go_roundw
        case rel => exact ⟨j + 1, by go_num, by omega, e2, Lib.hid fun i y hi hy => by
          by_cases hij : i = j
          · subst hij
            have h1 := HGJ.out
            rw [hy] at h1
            injection h1 with h1
            rw [h1]; exact HXK.out
          · exact HOK.out i y (by omega) hy⟩
        case measure => simp [intOf]; omega
      · have hfe := HCE.out hx
        rw [if_neg hx] at HC
        have hne := Ent.err_ne x
        rw [← hfe] at HC hne
        have HRR := Lib.hid (R2.out HNO.out hne)
        obtain ⟨fe, hfe2⟩ : ∃ v, firstErr l = v := ⟨_, rfl⟩
        rw [hfe2] at HC hne HRR
        have hok := isOk_no hne
        clear hx hfe hne hfe2 HCE R2 R3 R4
        obtain ⟨xt, xd⟩ := x
        simp only [Ent.val] at HC c0 c1
        go_wp2_with fail
        refine (HC.out _).mono ?_
        rintro _ w2 ⟨rfl, hb2⟩
        have e2 : Ext w w2 := Ext.trans (by (repeat (with_reducible first | exact Ext.refl _ | assumption | refine Ext.drew ?_ | refine Ext.drewN ?_ _ | refine Ext.alloc ?_ _ | refine Ext.trans ?_ (by with_reducible assumption)))) hb2
        have HE2 := Lib.hid e2
        clear e2 hb2
        go_wp2_with fail
        refine (HF.out fe _ HE2.out).mono ?_
        rintro _ w4 ⟨rfl, hp2, hp3⟩
        have HP2 := Lib.hid hp2
        have HP3 := Lib.hid hp3
        clear hp2 hp3
        go_wp2_with fail
        go_ret
        rw [HRR.out]
        exact ⟨rfl, HP2.out, (HE2.out.chg P).trans HP3.out fun _ _ h => h⟩
    · obtain rfl : j = n := by omega
      have hall : ∀ e ∈ l, e.ok := fun e he => by
        obtain ⟨i, hi⟩ := List.getElem?_of_mem he
        exact HOK.out i e (by rw [← HX.out]; exact (List.getElem?_eq_some_iff.1 hi).1) hi
      have HFE := Lib.hid (firstErr_ok hall)
      have HGM := Lib.hid (HGA.out hall (by omega))
      obtain ⟨ad, hAd, hbA, hcA⟩ := (HR.out.ext hbw).2.2 (by omega)
      subst hAd
      obtain ⟨i0, hi0, hz0, hz1, hz2⟩ := info_parts info_ent
      have Hr := HH.out.ext hbw
      have HHr := Lib.hid Hr
      have HEr := Lib.hid hbw
      have HCA := Lib.hid hcA
      have HLL := Lib.hid (HR.out.1)
      have HWA : Hid (wr.ownsRow 0 67 2 vw k (m.waits.flatMap Ent.cells)) := by
        have := Hr.waits
        rw [HK.out] at this; exact this
      have HNE := Lib.hid (own_type HWA.out Hr.bk (by decide))
      have u10 : wr.cell? ⟨mb, 10, none⟩ = some vw := Hr.bk.cell 10
      clear hall HOK HGA HNO Hr hcA hbA hbw HF hc hj
      obtain ⟨A1, c1, hva, hc1, -, -⟩ := own_rd HHr.out.own
      rw [HO.out] at hva
      have HVA := Lib.hid hva
      have hkn : (k : Int) + (j : Int) ≤ ns := by
        have := HHV.out
        omega
      clear hva
      go_upto_region 12 with (at_builtin; refine wpl_apps (by rfl) _ _ _ (by rfl) 0 67 i0 _ 2 24 Tryz.underlying27 hi0 hz0 hz1 hz2 rfl (by omega) _ _ _ (by rfl) HWA.out ad j c _ (by rfl) HLL.out HCA.out (ones_ents _) (by omega) (by omega) (by omega) (Nat.zero_le _) ?_; intro g cap w5 own5 hg5 hH5 hl5; have B5 := HHr.out.bk.kept hg5 HNE.out; have v10 : w5.cell? ⟨mb, 10, none⟩ = some vw := B5.cell 10; have q10 := B5.frozen 10)
      have B6 : Bk (w5.setCell ⟨mb, 10, none⟩ (.slice (some ⟨g, 0, none⟩) (k + j) cap)) mb 75 (mcells m.key va m.head m.next (.slice (some ⟨g, 0, none⟩) (k + j) cap)) := B5.set_ 10 _
      have hset := gb_set w5 mb 10 (.slice (some ⟨g, 0, none⟩) (k + j) cap)
      have hgm : g ≠ mb := fun e => own_type own5 B5 (by decide) (by rw [e]; rfl)
      have M6 : ({ m with waits := m.waits ++ l } : Mi).Good → MiAt 75 (w5.setCell ⟨mb, 10, none⟩ (.slice (some ⟨g, 0, none⟩) (k + j) cap)) mb va (.slice (some ⟨g, 0, none⟩) (k + j) cap) { m with waits := m.waits ++ l } := fun hgood => by
        refine ⟨B6, ?_, ?_, ?_, hgood⟩
        · refine (HHr.out.own.kept hg5 ?_).kept hset (.inr (own_type HHr.out.own HHr.out.bk (by decide)))
          cases hb : va.ownBlock with
          | none => exact .inl rfl
          | some g' => exact .inr fun e => HHr.out.apart g' hb e.symm
        · have := own5.kept hset (.inr (own_type own5 B5 (by decide)))
          rw [← List.flatMap_append] at this
          show World.ownsRow _ _ _ _ _ (m.waits ++ l).length _
          rw [List.length_append, HK.out, HX.out]
          exact this
        · intro g' hg' e
          have e' : g = g' := by simpa [Value.ownBlock] using e
          subst e'
          rcases hH5 with h | h
          · exact HHr.out.apart g hg' h
          · have := (HHr.out.own.lt g hg').2; omega
      have F6 : ∀ x, MFoot mb va (.slice (some ⟨g, 0, none⟩) (k + j) cap) x → P x := fun x hx => by
        rcases hx with rfl | hx | hx
        · exact HP.out _ (.inl rfl)
        · exact HP.out _ (.inr (.inl hx))
        · have e' : g = x := by simpa [Value.ownBlock] using hx
          subst e'
          rcases hH5 with h | h
          · exact HP.out _ (.inr (.inr h))
          · exact HPN.out _ (by have := HEr.out.size; omega)
      have C6 : Chg w (w5.setCell ⟨mb, 10, none⟩ (.slice (some ⟨g, 0, none⟩) (k + j) cap)) P :=
        ((HEr.out.chg P).trans ((gb_chg hg5).mono fun x _ hx => HP.out x (.inr (.inr hx))) fun _ _ h => h).trans ((gb_chg hset).mono fun x _ hx => by injection hx with hx; subst hx; exact HP.out _ (.inl rfl)) fun _ _ h => h
      have HM6 := Lib.hid (M6 HGM.out)
      have HF6 := Lib.hid F6
      have HC6 := Lib.hid C6
      have HB6 := Lib.hid B6
      clear B6 hset M6 F6 C6 own5 hg5 hH5 B5 v10 q10 HWA HLL HCA u10
      generalize w5.setCell ⟨mb, 10, none⟩ (.slice (some ⟨g, 0, none⟩) (k + j) cap) = w6 at *
      have y1 : w6.cell? ⟨mb, 1, none⟩ = some (.slice A1 o c1) := by rw [← HVA.out]; exact HB6.out.cell 1
      have y10 : w6.cell? ⟨mb, 10, none⟩ = some (.slice (some ⟨g, 0, none⟩) (k + j) cap) := HB6.out.cell 10
      have y6 : w6.cell? ⟨mb, 6, none⟩ = some (.int .i64 ns) := by rw [← HNS.out]; exact HB6.out.cell 6
      by_cases h0 : o = 0 ∧ ((k + j : Nat) : Int) = ns
      · have HRR := Lib.hid (R3.out (by omega) HFE.out h0)
        have HSE : Hid (∀ W, Ext w6 W → Calls Tryz.prog 132 #[.pointer (some ⟨mb, 0, none⟩)] W (MPost W P mb ({ m with waits := m.waits ++ l } : Mi).settle)) := Lib.hid fun W e =>
          settle_any P mb _ _ _ W (HM6.out.ext e) HF6.out (fun g hg => HPN.out g (by have := HC6.out.size; have := e.size; omega)) (by show m.next.size ≠ 0; rw [HNS.out]; exact HNZ.out) (by
            show (m.own.length : Int) + ((m.waits ++ l).length : Int) = m.next.size
            rw [List.length_append, HO.out, HK.out, HX.out, HNS.out]
            have := h0.1
            have := h0.2
            omega)
        obtain ⟨h01, h02⟩ := h0
        subst h01
        have hkj : ((k + j : Nat) : Int) = ns := h02
        clear R3 R4 HGM HNZ h02
        subst hkj
        go_wp2_with fail
        go_quiet (fail)
        go_wp2_with fail
        refine (HSE.out _ (by (repeat (with_reducible first | exact Ext.refl _ | assumption | refine Ext.drew ?_ | refine Ext.drewN ?_ _ | refine Ext.alloc ?_ _ | refine Ext.trans ?_ (by with_reducible assumption))))).mono ?_
        rintro _ w8 ⟨rfl, hp2, hp3⟩
        have HP2 := Lib.hid hp2
        have HP3 := Lib.hid hp3
        clear hp2 hp3
        go_wp2_with fail
        go_ret
        rw [HRR.out]
        exact ⟨rfl, HP2.out, HC6.out.trans ((show Ext w6 _ from by (repeat (with_reducible first | exact Ext.refl _ | assumption | refine Ext.drew ?_ | refine Ext.drewN ?_ _ | refine Ext.alloc ?_ _ | refine Ext.trans ?_ (by with_reducible assumption)))).chg P |>.trans HP3.out fun _ _ h => h) fun _ _ h => h⟩
      · have HRR := Lib.hid (R4.out (by omega) HFE.out h0)
        by_cases h01 : o = 0
        · subst h01
          have hb : (((k + j : Nat) : Int) == ns) = false := beq_eq_false_iff_ne.2 fun e => h0 ⟨rfl, e⟩
          have hb' : ((k : Int) + (j : Int) == ns) = false := beq_eq_false_iff_ne.2 fun e => h0 ⟨rfl, by omega⟩
          clear R3 R4 HNZ h0
          go_wp2_with fail
          go_quiet (fail)
          go_wp2_with fail
          go_ret
          rw [HRR.out]
          exact ⟨rfl, (show MM _ w6 P mb _ from ⟨_, _, HM6.out, HF6.out⟩).ext (by (repeat (with_reducible first | exact Ext.refl _ | assumption | refine Ext.drew ?_ | refine Ext.drewN ?_ _ | refine Ext.alloc ?_ _ | refine Ext.trans ?_ (by with_reducible assumption)))), HC6.out.trans ((show Ext w6 _ from by (repeat (with_reducible first | exact Ext.refl _ | assumption | refine Ext.drew ?_ | refine Ext.drewN ?_ _ | refine Ext.alloc ?_ _ | refine Ext.trans ?_ (by with_reducible assumption)))).chg P) fun _ _ h => h⟩
        · have hb : ((o : Int) == 0) = false := beq_eq_false_iff_ne.2 (by omega)
          clear R3 R4 HNZ h0
          go_wp2_with fail
          go_quiet (fail)
          go_wp2_with fail
          go_ret
          rw [HRR.out]
          exact ⟨rfl, (show MM _ w6 P mb _ from ⟨_, _, HM6.out, HF6.out⟩).ext (by (repeat (with_reducible first | exact Ext.refl _ | assumption | refine Ext.drew ?_ | refine Ext.drewN ?_ _ | refine Ext.alloc ?_ _ | refine Ext.trans ?_ (by with_reducible assumption)))), HC6.out.trans ((show Ext w6 _ from by (repeat (with_reducible first | exact Ext.refl _ | assumption | refine Ext.drew ?_ | refine Ext.drewN ?_ _ | refine Ext.alloc ?_ _ | refine Ext.trans ?_ (by with_reducible assumption)))).chg P) fun _ _ h => h⟩
end Go.Proofs.YtnphbkjkeipmmaaGreatDoor

/- A mirror in memory: Hear. -/
namespace Go.Proofs.YtnphbkjkeipmmaaGreatDoor
open Go.RowKit Go.WideShapes
set_option linter.unusedVariables false
attribute [local go_sem ↓] Go.wp_at_zero Go.wp_at_succ

/-- a reply as a value -/
abbrev replyV (what : Int) (h : Hd) (A : Option Addr) (n c : Nat) (A' : Option Addr) (n' c' : Nat) : Value := .agg #[.int .i64 what, .int .i64 h.size, .int .i64 h.root, .int .i64 h.time, .int .i64 h.sign, .slice A n c, .slice A' n' c']
set_option maxRecDepth 100000 in
set_option maxHeartbeats 4000000 in
theorem HearP_any (P : Nat → Prop) (mb : Nat) (va vw : Value) (m : Mi) (r : Rp) (A : Option Addr) (n c : Nat) (A' : Option Addr) (n' c' : Nat) (w : World) (h : MiAt 75 w mb va vw m) (hP : ∀ g, MFoot mb va vw g → P g) (hPn : ∀ g, w.heap.size ≤ g → P g)
    (hD : DebG w) (hPow : PowG w) (hr : Rd w 2 A n c (r.ents.flatMap Ent.cells)) (hm : c ≤ maxLen) (hr' : Rd w 1 A' n' c' (r.proof.map (Value.int .i64))) (hm' : c' ≤ maxLen) :
    Calls Tryz.prog 104 #[.pointer (some ⟨mb, 0, none⟩), replyV r.what r.head A n c A' n' c'] w (MPost w P mb (m.hear r)) := by
  obtain ⟨hE, hN, hG0⟩ := errR_rules
  obtain ⟨rw_, rh, res, rps⟩ := r
  dsimp only at hr hr' ⊢
  have hww := m.want_what
  obtain ⟨o, ho⟩ : ∃ x, m.own.length = x := ⟨_, rfl⟩
  obtain ⟨wt, hwt⟩ : ∃ x, m.want = x := ⟨_, rfl⟩
  obtain ⟨ro, hro⟩ : ∃ x, rootE m.own = x := ⟨_, rfl⟩
  obtain ⟨ns, hns⟩ : ∃ x, m.next.size = x := ⟨_, rfl⟩
  obtain ⟨nr, hnr⟩ : ∃ x, m.next.root = x := ⟨_, rfl⟩
  obtain ⟨gk, hgk⟩ : ∃ x, gcheck ro o nr ns rps = x := ⟨_, rfl⟩
  have hwnz : wt.what ≠ 0 := by rw [← hwt]; omega
  have R0 : Hid (rw_ = 0 → m.hear ⟨rw_, rh, res, rps⟩ = (m, 0)) := Lib.hid fun e => if_pos e
  have R1 : Hid (rw_ ≠ 0 → rw_ ≠ wt.what → m.hear ⟨rw_, rh, res, rps⟩ = (m, 3)) := Lib.hid fun e e2 => by unfold Mi.hear; rw [hwt, if_neg e, if_pos e2]
  have R2 : Hid (wt.what = 1 → m.hear ⟨1, rh, res, rps⟩ = m.hearH rh) := Lib.hid fun e => by unfold Mi.hear; rw [hwt, if_neg (by show ¬ (1 : Int) = 0; decide), if_neg (by show ¬ (1 : Int) ≠ wt.what; rw [e]; decide), if_pos rfl]
  have R3 : Hid (wt.what = 2 → m.hear ⟨2, rh, res, rps⟩ = m.hearE res) := Lib.hid fun e => by unfold Mi.hear; rw [hwt, if_neg (by show ¬ (2 : Int) = 0; decide), if_neg (by show ¬ (2 : Int) ≠ wt.what; rw [e]; decide), if_neg (by show ¬ (2 : Int) = 1; decide), if_pos rfl]
  have R4 : Hid (wt.what = 3 → gk ≠ 0 → m.hear ⟨3, rh, res, rps⟩ = (m.forget, gk)) := Lib.hid fun e e2 => by
    unfold Mi.hear; rw [hwt, if_neg (by show ¬ (3 : Int) = 0; decide), if_neg (by show ¬ (3 : Int) ≠ wt.what; rw [e]; decide), if_neg (by show ¬ (3 : Int) = 1; decide), if_neg (by show ¬ (3 : Int) = 2; decide)]
    unfold Mi.hearP; rw [hro, ho, hnr, hns]; dsimp only; rw [hgk, if_pos e2]
  have R5 : Hid (wt.what = 3 → gk = 0 → m.hear ⟨3, rh, res, rps⟩ = m.settle) := Lib.hid fun e e2 => by
    unfold Mi.hear; rw [hwt, if_neg (by show ¬ (3 : Int) = 0; decide), if_neg (by show ¬ (3 : Int) ≠ wt.what; rw [e]; decide), if_neg (by show ¬ (3 : Int) = 1; decide), if_neg (by show ¬ (3 : Int) = 2; decide)]
    unfold Mi.hearP; rw [hro, ho, hnr, hns]; dsimp only; rw [hgk, if_neg (not_not_intro e2)]
  have hw3 : wt.what = 3 → m.next.size ≠ 0 ∧ m.have_ = m.next.size := fun e => by
    rw [← hwt] at e
    have hn : m.next.size ≠ 0 := fun e2 => by unfold Mi.want at e; rw [if_pos e2] at e; cases e
    refine ⟨hn, ?_⟩
    unfold Mi.want at e
    rw [if_neg hn] at e
    split at e
    · assumption
    · cases e
  have hw1 : wt.what = 1 → m.next.size = 0 := fun e => by rw [← hwt] at e; omega
  have HWT : Hid (∀ W, Ext w W → Calls Tryz.prog 74 #[.pointer (some ⟨mb, 0, none⟩)] W fun e w' => e = .returned wt.val ∧ Ext W w') := Lib.hid fun W e => by
    have := MWant_any mb va vw m W (h.ext e)
    rw [hwt] at this
    exact this
  have HH1 : Hid (wt.what = 1 → ∀ W, Ext w W → Calls Tryz.prog 128 #[.pointer (some ⟨mb, 0, none⟩), rh.val] W (MPost W P mb (m.hearH rh))) := Lib.hid fun e W k => hearH_any P mb va vw m rh W (h.ext k) hP (hD.ext k) (hPow.ext k) (hw1 e)
  have HH2 : Hid (wt.what = 2 → ∀ W, Ext w W → Calls Tryz.prog 129 #[.pointer (some ⟨mb, 0, none⟩), .slice A n c] W (MPost W P mb (m.hearE res))) := Lib.hid fun e W k => hearE_any P mb va vw m A n c res W (h.ext k) hP (fun g hg => hPn g (by have := k.size; omega)) (hr.ext k) hm (by rw [hwt]; exact e)
  have HH3 : Hid (wt.what = 3 → ∀ W, Ext w W → Calls Tryz.prog 132 #[.pointer (some ⟨mb, 0, none⟩)] W (MPost W P mb m.settle)) := Lib.hid fun e W k => settle_any P mb va vw m W (h.ext k) hP (fun g hg => hPn g (by have := k.size; omega)) (hw3 e).1 (hw3 e).2
  have HF : Hid (∀ W, Ext w W → Calls Tryz.prog 131 #[.pointer (some ⟨mb, 0, none⟩), errR gk] W (MPost W P mb (m.forget, gk))) := Lib.hid fun W e => forget_any P mb va vw m gk W (h.ext e) hP
  have HRO : Hid (∀ W, Ext w W → Calls Tryz.prog 79 #[.pointer (some ⟨mb, 0, none⟩)] W fun e w' => e = .returned (.int .i64 ro) ∧ Ext W w') := Lib.hid fun W e => by
    have := MRoot_any mb va vw m W (h.ext e)
    rw [hro] at this; exact this
  have HGC : Hid (∀ W, Ext w W → Calls Tryz.prog 130 #[.int .i64 ro, .int .i64 o, .int .i64 nr, .int .i64 ns, .slice A' n' c'] W fun e w' => e = .returned (errR gk) ∧ Ext W w') := Lib.hid fun W e => by
    have := GCheck_any ro o nr ns A' n' c' rps W (hr'.ext e) hm'
    rw [hgk] at this; exact this
  have HH := Lib.hid h
  have HP := Lib.hid hP
  obtain ⟨A1, c1, hva, hc1, -, -⟩ := own_rd h.own
  rw [ho] at hva
  have HVA := Lib.hid hva
  have HNS := Lib.hid hns
  have HNR := Lib.hid hnr
  have hww' : wt.what = 1 ∨ wt.what = 2 ∨ wt.what = 3 := by rw [← hwt]; omega
  have hr2 := hr.2.1
  have hr2' := hr'.2.1
  clear hww ho hwt hro hns hnr hgk hw3 hw1 h hP hPn hD hPow hr hr' hva
  obtain ⟨h0, h1, h2, h3⟩ := rh
  obtain ⟨tw, tf, tt⟩ := wt
  simp only [Hd.val, Wt.val, replyV] at *
  have B0 := Bk.at_ w 87 #[.int .i64 rw_, .int .i64 h0, .int .i64 h1, .int .i64 h2, .int .i64 h3, .slice A n c, .slice A' n' c'] w.heap.size rfl
  have e0 : Ext w (w.alloc (.cells #[.int .i64 rw_, .int .i64 h0, .int .i64 h1, .int .i64 h2, .int .i64 h3, .slice A n c, .slice A' n' c'] 87)) := (Ext.refl _).alloc _
  go_enter Tryz.func104, Tryz.ntmps104
  go_upto_region 1 with (fail)
  generalize w.alloc (.cells #[.int .i64 rw_, .int .i64 h0, .int .i64 h1, .int .i64 h2, .int .i64 h3, .slice A n c, .slice A' n' c'] 87) = W0 at *
  generalize w.heap.size = g0 at *
  have HE0 := Lib.hid e0
  clear e0
  go_wp2_with fail
  refine (HWT.out _ HE0.out).mono ?_
  rintro _ w1 ⟨rfl, hb1⟩
  have B1 := Bk.at_ w1 60 #[.int .i64 tw, .int .i64 tf, .int .i64 tt] w1.heap.size rfl
  have e1 : Ext W0 (w1.alloc (.cells #[.int .i64 tw, .int .i64 tf, .int .i64 tt] 60)) := hb1.alloc _
  go_upto_region 2 with (fail)
  generalize w1.alloc (.cells #[.int .i64 tw, .int .i64 tf, .int .i64 tt] 60) = W1 at *
  generalize w1.heap.size = g1 at *
  have HE2 := Lib.hid (HE0.out.trans e1)
  have B2 := B0.ext e1
  have HB2 := Lib.hid B2
  have HH1' := Lib.hid (HH.out.ext HE2.out)
  have y0 : W1.cell? ⟨g0, 0, none⟩ = some (.int .i64 rw_) := B2.cell 0
  have z0 : W1.cell? ⟨g1, 0, none⟩ = some (.int .i64 tw) := B1.cell 0
  clear hb1 e1 HWT HE0 B0 B1
  by_cases q0 : rw_ = 0
  · have HR := Lib.hid (R0.out q0)
    subst q0
    clear R1 R2 R3 R4 R5 HH1 HH2 HH3 HF HRO HGC B2
    go_wp2_with fail
    go_ret
    rw [HR.out]
    exact MPost.stay HH.out HP.out HE2.out
  have qb0 : (rw_ == 0) = false := beq_eq_false_iff_ne.2 q0
  by_cases q1 : rw_ = tw
  case neg =>
    have HR := Lib.hid (R1.out q0 q1)
    have qb1 : (rw_ == tw) = false := beq_eq_false_iff_ne.2 q1
    clear R0 R2 R3 R4 R5 HH1 HH2 HH3 HF HRO HGC B2 q0 q1
    go_wp2_with fail
    go_ret
    rw [HR.out]
    exact MPost.stay HH.out HP.out HE2.out
  subst q1
  clear R0 R1
  rcases hww' with q2 | q2 | q2
  · obtain rfl : rw_ = 1 := q2
    have HR := Lib.hid (R2.out rfl)
    have HHH := Lib.hid (HH1.out rfl)
    have y1 : W1.cell? ⟨g0, 1, none⟩ = some (.int .i64 h0) := B2.cell 1
    have y2 : W1.cell? ⟨g0, 2, none⟩ = some (.int .i64 h1) := B2.cell 2
    have y3 : W1.cell? ⟨g0, 3, none⟩ = some (.int .i64 h2) := B2.cell 3
    have y4 : W1.cell? ⟨g0, 4, none⟩ = some (.int .i64 h3) := B2.cell 4
    clear R2 R3 R4 R5 HH1 HH2 HH3 HF HRO HGC B2 q0 qb0 hwnz
    go_wp2_with fail
    refine (HHH.out _ HE2.out).mono ?_
    rintro _ w4 ⟨rfl, hp2, hp3⟩
    have HP2 := Lib.hid hp2
    have HP3 := Lib.hid hp3
    clear hp2 hp3
    go_wp2_with fail
    go_ret
    rw [HR.out]
    exact ⟨rfl, HP2.out, (HE2.out.chg P).trans HP3.out fun _ _ h => h⟩
  · obtain rfl : rw_ = 2 := q2
    have HR := Lib.hid (R3.out rfl)
    have HHH := Lib.hid (HH2.out rfl)
    have y5 : W1.cell? ⟨g0, 5, none⟩ = some (.slice A n c) := B2.cell 5
    clear R2 R3 R4 R5 HH1 HH2 HH3 HF HRO HGC B2 q0 qb0 hwnz
    go_wp2_with fail
    refine (HHH.out _ HE2.out).mono ?_
    rintro _ w4 ⟨rfl, hp2, hp3⟩
    have HP2 := Lib.hid hp2
    have HP3 := Lib.hid hp3
    clear hp2 hp3
    go_wp2_with fail
    go_ret
    rw [HR.out]
    exact ⟨rfl, HP2.out, (HE2.out.chg P).trans HP3.out fun _ _ h => h⟩
  · obtain rfl : rw_ = 3 := q2
    have x6 : ∀ x : WE W1, x.W.cell? ⟨g0, 6, none⟩ = some (.slice A' n' c') := fun x => (HB2.out.ext x.h).cell 6
    have x1 : ∀ x : WE W1, x.W.cell? ⟨mb, 1, none⟩ = some (.slice A1 o c1) := fun x => by rw [← HVA.out]; exact (HH1'.out.ext x.h).bk.cell 1
    have xs : ∀ x : WE W1, x.W.cell? ⟨mb, 6, none⟩ = some (.int .i64 ns) := fun x => by rw [← HNS.out]; exact (HH1'.out.ext x.h).bk.cell 6
    have xr : ∀ x : WE W1, x.W.cell? ⟨mb, 7, none⟩ = some (.int .i64 nr) := fun x => by rw [← HNR.out]; exact (HH1'.out.ext x.h).bk.cell 7
    have HHH := Lib.hid (HH3.out rfl)
    have R4' := Lib.hid (R4.out rfl)
    have R5' := Lib.hid (R5.out rfl)
    clear R2 R3 R4 R5 HH1 HH2 HH3 B2 q0 qb0 hwnz
    go_wp2_with fail
    (refine wp_region_ext (w0 := W1) (by kernel_rfl) (by kernel_rfl) (by (repeat (with_reducible first | exact Ext.refl _ | assumption | refine Ext.drew ?_ | refine Ext.drewN ?_ _ | refine Ext.alloc ?_ _ | refine Ext.trans ?_ (by with_reducible assumption)))) ?_; (repeat (go_big_quiet_step ((first | (go_at_call 79; exact quietE (HRO.out _ (HE2.out.trans (WE.h _)))) | (go_at_call 130; exact quietE (HGC.out _ (HE2.out.trans (WE.h _)))))))); refine wpQuiet_nil ?_)
    intro w3 hb3
    have HE3 := Lib.hid (HE2.out.trans hb3)
    clear y0 z0 x6 x1 xs xr HB2 HH1' HE2 hb3 HRO HGC
    have HE2 := HE3
    by_cases hk : gk = 0
    · have HR := Lib.hid (R5'.out hk)
      subst hk
      rw [errR_0]
      clear R4' R5' HF
      go_wp2_with fail
      refine (HHH.out _ HE2.out).mono ?_
      rintro _ w4 ⟨rfl, hp2, hp3⟩
      have HP2 := Lib.hid hp2
      have HP3 := Lib.hid hp3
      clear hp2 hp3
      go_wp2_with fail
      go_ret
      rw [HR.out]
      exact ⟨rfl, HP2.out, (HE2.out.chg P).trans HP3.out fun _ _ h => h⟩
    · have HR := Lib.hid (R4'.out hk)
      have hok := isOk_no hk
      clear R4' R5' HHH hk
      go_wp2_with fail
      refine (HF.out _ HE2.out).mono ?_
      rintro _ w4 ⟨rfl, hp2, hp3⟩
      have HP2 := Lib.hid hp2
      have HP3 := Lib.hid hp3
      clear hp2 hp3
      go_wp2_with fail
      go_ret
      rw [HR.out]
      exact ⟨rfl, HP2.out, (HE2.out.chg P).trans HP3.out fun _ _ h => h⟩
/-- Hear, of a mirror that lies in some blocks -/
theorem Hear_any (P : Nat → Prop) (mb : Nat) (m : Mi) (r : Rp) (A : Option Addr) (n c : Nat) (A' : Option Addr) (n' c' : Nat) (w : World) (h : MM 75 w P mb m) (hPn : ∀ g, w.heap.size ≤ g → P g)
    (hD : DebG w) (hPow : PowG w) (hr : Rd w 2 A n c (r.ents.flatMap Ent.cells)) (hm : c ≤ maxLen) (hr' : Rd w 1 A' n' c' (r.proof.map (Value.int .i64))) (hm' : c' ≤ maxLen) :
    Calls Tryz.prog 104 #[.pointer (some ⟨mb, 0, none⟩), replyV r.what r.head A n c A' n' c'] w (MPost w P mb (m.hear r)) := by
  obtain ⟨va, vw, h1, h2⟩ := h
  exact HearP_any P mb va vw m r A n c A' n' c' w h1 h2 hPn hD hPow hr hm hr' hm'
theorem MM.want {P : Nat → Prop} {mb : Nat} {m : Mi} {w : World} (h : MM 75 w P mb m) : Calls Tryz.prog 74 #[.pointer (some ⟨mb, 0, none⟩)] w fun e w' => e = .returned m.want.val ∧ Ext w w' := by
  obtain ⟨va, vw, h1, h2⟩ := h
  exact MWant_any mb va vw m w h1
theorem MM.sizeC {P : Nat → Prop} {mb : Nat} {m : Mi} {w : World} (h : MM 75 w P mb m) : Calls Tryz.prog 77 #[.pointer (some ⟨mb, 0, none⟩)] w fun e w' => e = .returned (.int .i64 (m.own.length : Nat)) ∧ w = w' := by
  obtain ⟨va, vw, h1, h2⟩ := h
  exact MSize_any mb va vw m w h1
theorem MM.rootC {P : Nat → Prop} {mb : Nat} {m : Mi} {w : World} (h : MM 75 w P mb m) : Calls Tryz.prog 79 #[.pointer (some ⟨mb, 0, none⟩)] w fun e w' => e = .returned (.int .i64 (rootE m.own)) ∧ Ext w w' := by
  obtain ⟨va, vw, h1, h2⟩ := h
  exact MRoot_any mb va vw m w h1
end Go.Proofs.YtnphbkjkeipmmaaGreatDoor
