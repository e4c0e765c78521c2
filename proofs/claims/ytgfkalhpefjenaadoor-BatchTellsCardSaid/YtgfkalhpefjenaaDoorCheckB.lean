import Derived.Test.YtgfkalhpefjenaaDoorMakeB
import Derived.Laws.EntriesVeiled
namespace Go.Proofs.YtgfkalhpefjenaaDoor
open Go.RowKit Go.WideShapes
set_option linter.unusedVariables false
attribute [local go_sem ↓] Go.wp_at_zero Go.wp_at_succ

/-- a variable that holds a slice of what came in -/
def SlotI (B g : Nat) (p : List Int) (w : World) : Prop := ∃ A n c, Bk w g 36 #[.slice A n c] ∧ c ≤ maxLen ∧ Rd w 1 A n c (p.map (Value.int .i64)) ∧ (0 < n → ∀ ad, A = some ad → ad.block < B)
theorem SlotI.ext {B g : Nat} {p : List Int} {w w' : World} (h : SlotI B g p w) (e : Ext w w') : SlotI B g p w' := by
  obtain ⟨A, n, c, h1, h2, h3, h4⟩ := h
  exact ⟨A, n, c, h1.ext e, h2, h3.ext e, h4⟩
theorem SlotI.kept {B g g' : Nat} {p : List Int} {w w' : World} (h : SlotI B g p w) (e : w.grownBy w' (some g')) (hne : g' ≠ g) (hB : B ≤ g') : SlotI B g p w' := by
  obtain ⟨A, n, c, h1, h2, h3, h4⟩ := h
  exact ⟨A, n, c, h1.kept e (by simpa using hne), h2, h3.kept e (fun h0 ad had => by have := h4 h0 ad had; simp; omega), h4⟩

set_option maxRecDepth 100000 in
theorem take_any (B g : Nat) (x : Int) (p : List Int) (w : World) (hB : B ≤ g) (h : SlotI B g (x :: p) w) :
    Calls Tryd.prog 132 #[.pointer (some ⟨g, 0, none⟩)] w fun e w' => e = .returned (.int .i64 x) ∧ SlotI B g p w' ∧ w.grownBy w' (some g) := by
  obtain ⟨A, n, c, h1, h2, h3, h4⟩ := h
  have hx := h3.lenI
  have hnc := h3.2.1
  have hn : 0 < n := by rw [← hx]; simp
  obtain ⟨ad, rfl, hb, hc0⟩ := h3.getI (j := 0) (z := x) rfl
  rw [add_zero'] at hc0
  have hd := h3.dropI (k := 1) (by omega)
  have q0 := h1.cell 0
  have q1 := h1.frozen 0
  have l1 := h1.lt
  have hlen : p.length = n - 1 := by simp at hx; omega
  have i1 : (1 : Int) ≤ (n : Int) := by omega
  have i2 : (n : Int) ≤ (c : Int) := by omega
  have i3 : (1 : Int) ≤ (c : Int) := by omega
  have i4 : 1 ≤ n := hn
  have i5 : 1 ≤ c := by omega
  clear hx
  have hm := h2
  unfold maxLen at hm
  by_cases hc : c = 1
  · have hn1 : n = 1 := by omega
    subst hc hn1
    have hp : p = [] := List.eq_nil_of_length_eq_zero (by omega)
    subst hp
    clear hd h3 hlen
    go_enter Tryd.func132, Tryd.ntmps132
    go_wp2_with fail
    go_ret
    exact ⟨rfl, ⟨_, 0, 0, h1.set_ 0 _, Nat.zero_le _, Rd.nil _ _ _ _, fun h => absurd h (by omega)⟩, gb_set w g 0 _⟩
  · rw [if_neg hc] at hd
    have HD : Hid (Rd w 1 ((some ad).map (fun x => x.add 1)) (n - 1) (c - 1) (p.map (Value.int .i64))) := hd
    have hc' : ¬ c = 1 := hc
    clear hd h3
    go_enter Tryd.func132, Tryd.ntmps132
    go_wp2_with fail
    go_ret
    have hg := gb_set w g 0 (.slice (some (ad.add 1)) (n - 1) (c - 1))
    refine ⟨rfl, ⟨_, n - 1, c - 1, h1.set_ 0 _, by omega, HD.out.kept hg (fun h0 ad' had => ?_), fun h0 ad' had => ?_⟩, hg⟩
    · injection had with had
      subst had
      have := h4 hn ad rfl
      show some g ≠ some ad.block
      simp; omega
    · injection had with had
      subst had
      exact h4 hn ad rfl
/-- what batch.Check keeps -/
def StC (B g1 g2 g3 : Nat) (p : List Int × List Int) (w : World) : Prop := Bk w g1 155 #[.func (.func 132) #[] #[]] ∧ SlotI B g2 p.1 w ∧ SlotI B g3 p.2 w
theorem take1_some {l l' : List Int} {v : Int} (h : take1 l = some (v, l')) : l = v :: l' ∧ vld v = true := by
  cases l with
  | nil => cases h
  | cons x l =>
    have h : (if vld x = true then some (x, l) else none) = some (v, l') := h
    by_cases hx : vld x = true
    · rw [if_pos hx] at h
      simp only [Option.some.injEq, Prod.mk.injEq] at h
      obtain ⟨rfl, rfl⟩ := h
      exact ⟨rfl, hx⟩
    · rw [if_neg hx] at h; cases h
set_option maxRecDepth 100000 in
theorem check2_any (B g1 g2 g3 f s : Nat) (x : Int) (p q : List Int) (w : World) (hB : B ≤ g2) (n1 : g2 ≠ g1) (n2 : g2 ≠ g3) (h : StC B g1 g2 g3 (x :: p, q) w) :
    Calls Tryd.prog 133 #[.int .i64 f, .int .i64 s, .pointer (some ⟨g1, 0, none⟩), .pointer (some ⟨g2, 0, none⟩)] w fun e w' => e = .returned (.int .i64 x) ∧ StC B g1 g2 g3 (p, q) w' ∧ Below B w w' := by
  obtain ⟨h1, h2, h3⟩ := h
  have q0 := h1.cell 0
  have hlt : B ≤ w.heap.size := by obtain ⟨_, _, _, hb, _⟩ := h2; have := hb.lt; omega
  go_enter Tryd.func133, Tryd.ntmps133
  go_wp2_with fail
  refine (take_any B g2 x p _ hB h2).mono ?_
  rintro _ w1 ⟨rfl, hs, hg⟩
  go_wp2_with fail
  go_ret
  exact ⟨rfl, ⟨h1.kept hg (by simpa using n1), hs, h3.kept hg n2 hB⟩, below_gb hg hlt (fun b hb => by injection hb with hb; omega)⟩
set_option maxRecDepth 100000 in
theorem check3_any (B g1 g2 g3 : Nat) (x : Int) (p q : List Int) (w : World) (hB : B ≤ g3) (n1 : g3 ≠ g1) (n2 : g3 ≠ g2) (h : StC B g1 g2 g3 (p, x :: q) w) :
    Calls Tryd.prog 134 #[.pointer (some ⟨g1, 0, none⟩), .pointer (some ⟨g3, 0, none⟩)] w fun e w' => e = .returned (.int .i64 x) ∧ StC B g1 g2 g3 (p, q) w' ∧ Below B w w' := by
  obtain ⟨h1, h2, h3⟩ := h
  have q0 := h1.cell 0
  have hlt : B ≤ w.heap.size := by obtain ⟨_, _, _, hb, _⟩ := h3; have := hb.lt; omega
  go_enter Tryd.func134, Tryd.ntmps134
  go_wp2_with fail
  refine (take_any B g3 x q _ hB h3).mono ?_
  rintro _ w1 ⟨rfl, hs, hg⟩
  go_wp2_with fail
  go_ret
  exact ⟨rfl, ⟨h1.kept hg (by simpa using n1), h2.kept hg n2 hB, hs⟩, below_gb hg hlt (fun b hb => by injection hb with hb; omega)⟩

def rootK (v root : Int) : Int := if v = root then 0 else 8
set_option maxRecDepth 100000 in
set_option maxHeartbeats 2000000 in
/-- batch.Check where the walk comes to its end -/
theorem BCheck_walk (root : Int) (s : Nat) (A A2 A3 : Option Addr) (n c n2 c2 n3 c3 : Nat) (l q p : List Int) (v : Int) (st : List Int × List Int) (xs : List Int) (w : World) (hr : Rd w 1 A n c (l.map (Value.int .i64))) (hm : c ≤ maxLen) (hr2 : Rd w 1 A2 n2 c2 (q.map (Value.int .i64))) (hm2 : c2 ≤ maxLen) (hr3 : Rd w 1 A3 n3 c3 (p.map (Value.int .i64))) (hm3 : c3 ≤ maxLen)
    (h1 : 1 ≤ s) (h2 : s ≤ 200) (hp : placesK (s : Int) l = 0) (hv : vld root = true) (hq : allV q = true) (hpv : allV p = true) (e1 : n2 = n) (e2 : n3 = (provL xs 0 s l).length) (hw : walkP toldC leafC 0 s l (p, q) = some (v, st)) :
    Calls Tryd.prog 87 #[.int .i64 root, .int .i64 s, .slice A n c, .slice A2 n2 c2, .slice A3 n3 c3] w fun e w' => e = .returned (errR (rootK v root)) ∧ Ext w w' := by
  subst e1
  subst e2
  have HP := Lib.hid hp
  have HW := Lib.hid hw
  have B3 : Bk ((w.alloc (.cells #[.slice A2 n2 c2] 36)).alloc (.cells #[.slice A3 (provL xs 0 s l).length c3] 36)) w.heap.size 36 #[.slice A2 n2 c2] := (Bk.at_ _ _ _ _ rfl).alloc _
  have B2 : Bk ((w.alloc (.cells #[.slice A2 n2 c2] 36)).alloc (.cells #[.slice A3 (provL xs 0 s l).length c3] 36)) (w.heap.size + 1) 36 #[.slice A3 (provL xs 0 s l).length c3] := Bk.at_ _ _ _ _ (by simp)
  have E0 : Ext w ((w.alloc (.cells #[.slice A2 n2 c2] 36)).alloc (.cells #[.slice A3 (provL xs 0 s l).length c3] 36)) := by (repeat (with_reducible first | exact Ext.refl _ | assumption | refine Ext.drew ?_ | refine Ext.drewN ?_ _ | refine Ext.alloc ?_ _ | refine Ext.trans ?_ (by with_reducible assumption)))
  have b1 := hr.blk
  have b2 := hr2.blk
  have b3 := hr3.blk
  have HL := Lib.hid fun W (e : Ext w W) => Long_ok xs s A n2 c l W (hr.ext e) hm h1 h2 hp
  generalize (provL xs 0 s l).length = m at *
  clear hp hw
  go_enter Tryd.func87, Tryd.ntmps87
  go_wp2_with fail
  generalize ((w.alloc (.cells #[.slice A2 n2 c2] 36)).alloc (.cells #[.slice A3 m c3] 36)) = w0 at *
  refine (HL.out _ E0).mono ?_
  rintro _ w1 ⟨rfl, hb1⟩
  have E1 := E0.trans hb1
  have B31 := B3.ext hb1
  have B21 := B2.ext hb1
  have R1 := hr.ext E1
  have R12 := hr2.ext E1
  have R13 := hr3.ext E1
  have x3 := B31.cell 0
  have x2 := B21.cell 0
  have y3 := B31.lt
  have y2 := B21.lt
  clear B3 B2 E0 hb1 hr hr2 hr3
  go_wp2_with (first
    | (go_at_call 90; refine (Valid_any _ _).mono ?_; rintro e w' ⟨rfl, rfl⟩)
    | (go_at_call 94; (with_reducible refine (Sums_any A2 _ _ q _ R12 hm2).mono ?_); rintro e w' ⟨rfl, rfl⟩)
    | (go_at_call 94; (with_reducible refine (Sums_any A3 _ _ p _ R13 hm3).mono ?_); rintro e w' ⟨rfl, rfl⟩))
  have hsz := E1.size
  have S0 : StC w.heap.size w1.heap.size (w.heap.size + 1) w.heap.size (p, q) (w1.alloc (.cells #[.func (.func 132) #[] #[]] 155)) := ⟨Bk.at_ _ _ _ _ rfl, ⟨A3, m, c3, B21.alloc _, hm3, R13.ext (by (repeat (with_reducible first | exact Ext.refl _ | assumption | refine Ext.drew ?_ | refine Ext.drewN ?_ _ | refine Ext.alloc ?_ _ | refine Ext.trans ?_ (by with_reducible assumption)))), b3⟩, ⟨A2, n2, c2, B31.alloc _, hm2, R12.ext (by (repeat (with_reducible first | exact Ext.refl _ | assumption | refine Ext.drew ?_ | refine Ext.drewN ?_ _ | refine Ext.alloc ?_ _ | refine Ext.trans ?_ (by with_reducible assumption)))), b2⟩⟩
  have HC := Lib.hid (walk_C w.heap.size w1.heap.size (w.heap.size + 1) w.heap.size toldC leafC (StC w.heap.size w1.heap.size (w.heap.size + 1) w.heap.size) (fun _ _ _ h e => ⟨h.1.ext e, h.2.1.ext e, h.2.2.ext e⟩)
    (fun x f s v y w' hs hB h1 hf ht => by
      obtain ⟨x1, x2⟩ := x
      unfold toldC at ht
      cases h : take1 x1 with
      | none => rw [h] at ht; cases ht
      | some r =>
        obtain ⟨r1, r2⟩ := r
        rw [h] at ht
        simp only [Option.map_some, Option.some.injEq, Prod.mk.injEq] at ht
        obtain ⟨rfl, rfl⟩ := ht
        obtain ⟨rfl, hv⟩ := take1_some h
        exact ⟨(vld_true hv).1, check2_any _ _ _ _ f s _ _ _ w' (by omega) (by omega) (by omega) hs⟩)
    (fun x v y w' hs hB ht => by
      obtain ⟨x1, x2⟩ := x
      unfold leafC at ht
      cases h : take1 x2 with
      | none => rw [h] at ht; cases ht
      | some r =>
        obtain ⟨r1, r2⟩ := r
        rw [h] at ht
        simp only [Option.map_some, Option.some.injEq, Prod.mk.injEq] at ht
        obtain ⟨rfl, rfl⟩ := ht
        obtain ⟨rfl, hv⟩ := take1_some h
        exact ⟨(vld_true hv).1, check3_any _ _ _ _ _ _ _ w' (by omega) (by omega) (by omega) hs⟩)
    s 0 s A n2 c l (p, q) v st _ (Nat.le_refl _) h1 (by omega) (R1.ext (by (repeat (with_reducible first | exact Ext.refl _ | assumption | refine Ext.drew ?_ | refine Ext.drewN ?_ _ | refine Ext.alloc ?_ _ | refine Ext.trans ?_ (by with_reducible assumption))))) b1 hm (by simp; omega) S0 HW.out).2
  clear S0
  refine HC.out.mono ?_
  rintro _ w2 ⟨rfl, _, hb2⟩
  have E2 : Ext w w2 := below_trans E1 (below_trans (Below.mono (Ext.alloc (Ext.refl w1) _) hsz) hb2)
  by_cases hvr : v = root
  · have HI : Hid (errR (rootK v root) = Value.nilIface) := by show _ = _; unfold rootK; rw [if_pos hvr]; rfl
    subst hvr
    go_wp2_with fail
    go_ret
    exact ⟨by rw [HI.out]; rfl, E2⟩
  · have HI : Hid (errR (rootK v root) = errV 8) := by show _ = _; unfold rootK; rw [if_neg hvr]; rfl
    have hvr' : (v == root) = false := by simp [hvr]
    clear hvr
    go_wp2_with fail
    go_ret
    exact ⟨by rw [HI.out]; rfl, E2⟩
end Go.Proofs.YtgfkalhpefjenaaDoor
