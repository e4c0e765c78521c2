/- witlaw2.replies: whatever it tells can be read. -/
import Derived.Test.YtmknpehjncpekaaDoorJMirrorTrusts13
import Derived.Test.YtmknpehjncpekaaDoorJMirrorTrusts18
import Derived.Test.YtmknpehjncpekaaDoorJMirrorTrusts20
import Derived.Test.YtmknpehjncpekaaDoorJMirrorTrusts12
import Derived.Test.YtmknpehjncpekaaDoorJMirrorTrusts21
import Derived.Deep.DeepCutAuto
import Derived.Deep.CutRange
import Derived.Deep.CutBlock
import Derived.Test.YtmknpehjncpekaaDoorJMirrorTrusts19
namespace Go.Proofs.YtmknpehjncpekaaDoor
open Go.RowKit Go.WideShapes
set_option linter.unusedVariables false
attribute [local go_sem ↓] Go.wp_at_zero Go.wp_at_succ

theorem info_entR : (Tryd.prog.info? 56).map (fun i => (i.zero, i.size, i.bytes)) = some (some (.agg #[.int .i64 0, .string ⟨#[]⟩]), 2, 24) := by kernel_rfl
theorem info_intR : (Tryd.prog.info? 3).map (fun i => (i.zero, i.size, i.bytes)) = some (some (.int .i64 0), 1, 8) := by kernel_rfl
/-- a reply that can be read, of what is new -/
def RepOk (b : Nat) (w : World) (v : Value) : Prop := ∃ (r : Rp) (A : Option Addr) (n c : Nat) (A' : Option Addr) (n' c' : Nat), v = replyV r.what r.head A n c A' n' c' ∧ Rd w 2 A n c (r.ents.flatMap Ent.cells) ∧ c ≤ maxLen ∧ Rd w 1 A' n' c' (r.proof.map (Value.int .i64)) ∧ c' ≤ maxLen ∧ (0 < n → ∀ ad, A = some ad → b ≤ ad.block) ∧ (0 < n' → ∀ ad, A' = some ad → b ≤ ad.block)
/-- a reply at a block, apart from what it tells of -/
def RepAt (b : Nat) (w : World) (g g' : Nat) : Prop := ∃ (what : Int) (hd : Hd) (A : Option Addr) (n c : Nat) (l : List Ent) (A' : Option Addr) (n' c' : Nat) (p : List Int),
  Bk w g 59 #[.int .i64 what, .int .i64 hd.size, .int .i64 hd.root, .int .i64 hd.time, .int .i64 hd.sign, .slice A n c, .slice A' n' c'] ∧ Rd w 2 A n c (l.flatMap Ent.cells) ∧ c ≤ maxLen ∧ (0 < n → ∀ ad, A = some ad → ad.block ≠ g ∧ ad.block ≠ g' ∧ b ≤ ad.block) ∧ Rd w 1 A' n' c' (p.map (Value.int .i64)) ∧ c' ≤ maxLen ∧ (0 < n' → ∀ ad, A' = some ad → ad.block ≠ g ∧ ad.block ≠ g' ∧ b ≤ ad.block)
theorem two_same {w : World} {A : Option Addr} {n c : Nat} {l : List Ent} (h : Rd w 2 A n c (l.flatMap Ent.cells)) : l.length = n := h.lenE

theorem wp_open_block {P : Program} {cd : Code} {b : Nat} {K : Act → World → Prop} {Q : Exit → Act → World → Prop} {a : Act} {w : World} (h : cd.wp P (Exit.then K (Exit.inBlock b (Exit.then K Q))) a w) : cd.wp P (Exit.inBlock b (Exit.then K Q)) a w :=
  Code.wp_mono (fun e a w h => by cases e <;> exact h) h
theorem RepAt.what {b : Nat} {w : World} {g g' : Nat} (h : RepAt b w g g') (z : Int) : RepAt b (w.setCell ⟨g, 0, none⟩ (.int .i64 z)) g g' := by
  obtain ⟨what, hd, A, n, c, l, A', n', c', p, h1, h2, h3, h4, h5, h6, h7⟩ := h
  have hg := gb_set w g 0 (.int .i64 z)
  exact ⟨z, hd, A, n, c, l, A', n', c', p, h1.set_ 0 _, h2.kept hg fun hn ad e => by
    have := (h4 hn ad e).1
    simp; exact fun k => this k.symm, h3, h4, h5.kept hg fun hn ad e => by
    have := (h7 hn ad e).1
    simp; exact fun k => this k.symm, h6, h7⟩
set_option maxRecDepth 100000 in
set_option maxHeartbeats 40000000 in
theorem Replies_any (A : Option Addr) (n c : Nat) (es : List Ent) (key : Int) (wh fr to_ : Nat) (how : Int) (w : World) (hr : Rd w 2 A n c (es.flatMap Ent.cells)) (hm : c ≤ maxLen) (hn : n ≤ 200) (hz : ∀ e ∈ es, e.data.size ≤ 140737488351232)
    (hwh : wh = 1 ∨ wh = 2 ∨ wh = 3) (hfr : fr ≤ 200) (hto : to_ ≤ 200) (hhow : 0 ≤ how) :
    Calls Tryd.prog 24 #[.slice A n c, .int .i64 key, .agg #[.int .i64 wh, .int .i64 fr, .int .i64 to_], .int .i64 how] w fun e w' => (∃ v, e = .returned v ∧ RepOk w.heap.size w' v) ∧ Ext w w' := by
  have hx := hr.lenE
  have hnc := hr.2.1
  have hcs : c ≤ 9223372036854775807 := by unfold maxLen at hm; omega
  have HX := Lib.hid hx
  have HR := Lib.hid hr
  have HZ := Lib.hid hz
  have HM := Lib.hid hm
  have HLH := Lib.hid fun now W (e : Ext w W) => LogHead_any A n c es key now W (hr.ext e) hm
  clear hx hr hz hm
  have B6 := ((Bk.at_ w 61 #[.int .i64 wh, .int .i64 fr, .int .i64 to_] w.heap.size rfl).alloc (.cells #[.int .i64 0, .int .i64 0, .int .i64 0, .int .i64 0, .int .i64 0, .slice none 0 0, .slice none 0 0] 59)).alloc (.cells #[.int .i64 wh, .int .i64 0, .int .i64 0, .int .i64 0, .int .i64 0, .slice none 0 0, .slice none 0 0] 59)
  have B8 := (Bk.at_ (w.alloc (.cells #[.int .i64 wh, .int .i64 fr, .int .i64 to_] 61)) 59 #[.int .i64 0, .int .i64 0, .int .i64 0, .int .i64 0, .int .i64 0, .slice none 0 0, .slice none 0 0] (w.heap.size + 1) (by simp)).alloc (.cells #[.int .i64 wh, .int .i64 0, .int .i64 0, .int .i64 0, .int .i64 0, .slice none 0 0, .slice none 0 0] 59)
  have B9 := Bk.at_ ((w.alloc (.cells #[.int .i64 wh, .int .i64 fr, .int .i64 to_] 61)).alloc (.cells #[.int .i64 0, .int .i64 0, .int .i64 0, .int .i64 0, .int .i64 0, .slice none 0 0, .slice none 0 0] 59)) 59 #[.int .i64 wh, .int .i64 0, .int .i64 0, .int .i64 0, .int .i64 0, .slice none 0 0, .slice none 0 0] (w.heap.size + 1 + 1) (by simp)
  have e0 : Ext w (((w.alloc (.cells #[.int .i64 wh, .int .i64 fr, .int .i64 to_] 61)).alloc (.cells #[.int .i64 0, .int .i64 0, .int .i64 0, .int .i64 0, .int .i64 0, .slice none 0 0, .slice none 0 0] 59)).alloc (.cells #[.int .i64 wh, .int .i64 0, .int .i64 0, .int .i64 0, .int .i64 0, .slice none 0 0, .slice none 0 0] 59)) := (((Ext.refl w).alloc _).alloc _).alloc _
  go_enter Tryd.func24, Tryd.ntmps24
  go_upto_if 19 with (fail)
  generalize (((w.alloc (.cells #[.int .i64 wh, .int .i64 fr, .int .i64 to_] 61)).alloc (.cells #[.int .i64 0, .int .i64 0, .int .i64 0, .int .i64 0, .int .i64 0, .slice none 0 0, .slice none 0 0] 59)).alloc (.cells #[.int .i64 wh, .int .i64 0, .int .i64 0, .int .i64 0, .int .i64 0, .slice none 0 0, .slice none 0 0] 59)) = W0 at *
  obtain ⟨g0, hg0⟩ : ∃ g, w.heap.size = g := ⟨_, rfl⟩
  rw [hg0] at B6 B8 B9
  try rw [hg0]
  have HG := Lib.hid hg0
  have HE0 := Lib.hid e0
  have HB6 := Lib.hid B6
  have HB8 := Lib.hid B8
  have HB9 := Lib.hid B9
  clear hg0 e0 B6 B8 B9
  obtain ⟨sb, hsb⟩ : ∃ sb : Bool, ((wh : Int) == 1) = sb := ⟨_, rfl⟩
  rw [hsb]
  have HSB := Lib.hid hsb
  clear hsb
  refine wp_open_block ?_
  go_cut [10, 11, 12, 13] (fun _ _ _ _ wd => Hid (RepAt w.heap.size wd (g0 + 1 + 1) (g0 + 1)) ∧ Hid (Bk wd (g0 + 1) 59 #[.int .i64 0, .int .i64 0, .int .i64 0, .int .i64 0, .int .i64 0, .slice none 0 0, .slice none 0 0]) ∧ Hid (Ext w wd))
  case first =>
    as_aux_lemma =>
    have f1 : W0.cell? ⟨g0, 1, none⟩ = some (.int .i64 fr) := HB6.out.cell 1
    have f2 : W0.cell? ⟨g0, 2, none⟩ = some (.int .i64 to_) := HB6.out.cell 2
    rcases hwh with h | h | h
    · obtain rfl : sb = true := by rw [← HSB.out]; simp [h]
      clear h
      obtain ⟨zh, hzh⟩ : ∃ x, shH es key (how % 5) = x := ⟨_, rfl⟩
      have HL := Lib.hid (HLH.out (how % 5) W0 HE0.out)
      rw [hzh] at HL
      obtain ⟨z0, z1, z2, z3⟩ := zh
      simp only [Hd.val] at HL
      clear hzh HLH f1 f2
      go_wp2_with fail
      refine HL.out.mono ?_
      rintro _ w1 ⟨rfl, hb1'⟩
      have B10 := Bk.at_ w1 52 #[.int .i64 z0, .int .i64 z1, .int .i64 z2, .int .i64 z3] w1.heap.size rfl
      have e1 : Ext W0 (w1.alloc (.cells #[.int .i64 z0, .int .i64 z1, .int .i64 z2, .int .i64 z3] 52)) := hb1'.alloc _
      have hsz := hb1'.size
      have hlt := HB9.out.lt
      go_upto_region 5 with (fail)
      generalize w1.alloc (.cells #[.int .i64 z0, .int .i64 z1, .int .i64 z2, .int .i64 z3] 52) = W2 at *
      obtain ⟨g10, hg10⟩ : ∃ g, w1.heap.size = g := ⟨_, rfl⟩
      rw [hg10] at B10 hsz
      try rw [hg10]
      have y0 := B10.cell 0
      have y1 := B10.cell 1
      have y2 := B10.cell 2
      have y3 := B10.cell 3
      have B9 := HB9.out.ext e1
      have B8 := HB8.out.ext e1
      have x1 := B9.cell 1
      have x2 := B9.cell 2
      have x3 := B9.cell 3
      have x4 := B9.cell 4
      have q1 := B9.frozen 1
      have q2 := B9.frozen 2
      have q3 := B9.frozen 3
      have q4 := B9.frozen 4
      have C9 : Bk ((((W2.setCell ⟨g0 + 1 + 1, 1, none⟩ (.int .i64 z0)).setCell ⟨g0 + 1 + 1, 2, none⟩ (.int .i64 z1)).setCell ⟨g0 + 1 + 1, 3, none⟩ (.int .i64 z2)).setCell ⟨g0 + 1 + 1, 4, none⟩ (.int .i64 z3)) (g0 + 1 + 1) 59 #[.int .i64 wh, .int .i64 z0, .int .i64 z1, .int .i64 z2, .int .i64 z3, .slice none 0 0, .slice none 0 0] := (((B9.set_ 1 _).set_ 2 _).set_ 3 _).set_ 4 _
      have C8 : Bk ((((W2.setCell ⟨g0 + 1 + 1, 1, none⟩ (.int .i64 z0)).setCell ⟨g0 + 1 + 1, 2, none⟩ (.int .i64 z1)).setCell ⟨g0 + 1 + 1, 3, none⟩ (.int .i64 z2)).setCell ⟨g0 + 1 + 1, 4, none⟩ (.int .i64 z3)) (g0 + 1) 59 #[.int .i64 0, .int .i64 0, .int .i64 0, .int .i64 0, .int .i64 0, .slice none 0 0, .slice none 0 0] := (((B8.far (by simp) _).far (by simp) _).far (by simp) _).far (by simp) _
      have C10 : Bk ((((W2.setCell ⟨g0 + 1 + 1, 1, none⟩ (.int .i64 z0)).setCell ⟨g0 + 1 + 1, 2, none⟩ (.int .i64 z1)).setCell ⟨g0 + 1 + 1, 3, none⟩ (.int .i64 z2)).setCell ⟨g0 + 1 + 1, 4, none⟩ (.int .i64 z3)) g10 52 #[.int .i64 z0, .int .i64 z1, .int .i64 z2, .int .i64 z3] := (((B10.far (by simp; omega) _).far (by simp; omega) _).far (by simp; omega) _).far (by simp; omega) _
      have E9 : Ext w ((((W2.setCell ⟨g0 + 1 + 1, 1, none⟩ (.int .i64 z0)).setCell ⟨g0 + 1 + 1, 2, none⟩ (.int .i64 z1)).setCell ⟨g0 + 1 + 1, 3, none⟩ (.int .i64 z2)).setCell ⟨g0 + 1 + 1, 4, none⟩ (.int .i64 z3)) := ((((HE0.out.trans e1).setCell (by have := HG.out; show _ ≤ g0 + 1 + 1; omega) _).setCell (by have := HG.out; show _ ≤ g0 + 1 + 1; omega) _).setCell (by have := HG.out; show _ ≤ g0 + 1 + 1; omega) _).setCell (by have := HG.out; show _ ≤ g0 + 1 + 1; omega) _
      have HC8 := Lib.hid C8
      have HC9 := Lib.hid C9
      have HC10 := Lib.hid C10
      have HE9 := Lib.hid E9
      clear hb1' e1 B8 B9 B10 C8 C9 C10 E9 hg10 HB6 HB8 HB9
      go_upto_region 6 with (fail)
      generalize ((((W2.setCell ⟨g0 + 1 + 1, 1, none⟩ (.int .i64 z0)).setCell ⟨g0 + 1 + 1, 2, none⟩ (.int .i64 z1)).setCell ⟨g0 + 1 + 1, 3, none⟩ (.int .i64 z2)).setCell ⟨g0 + 1 + 1, 4, none⟩ (.int .i64 z3)) = W3 at *
      clear y0 y1 y2 y3 x1 x2 x3 x4 q1 q2 q3 q4
      by_cases h7 : how % 7 = 3
      · have hb7 : (how % 7 == 3) = true := by simp [h7]
        have y1 := HC10.out.cell 1
        have x2 := HC9.out.cell 2
        have q2 := HC9.out.frozen 2
        go_wp2_with fail
        go_meet
        refine ⟨Lib.hid ⟨wh, ⟨z0, _, z2, z3⟩, none, 0, 0, [], none, 0, 0, [], HC9.out.set_ 2 _, Rd.nil _ _ _ _, Nat.zero_le _, fun h => absurd h (by omega), Rd.nil _ _ _ _, Nat.zero_le _, fun h => absurd h (by omega)⟩, Lib.hid (HC8.out.far (by simp) _), Lib.hid (HE9.out.setCell (by have := HG.out; show _ ≤ g0 + 1 + 1; omega) _)⟩
      · have hb7 : (how % 7 == 3) = false := by simp [h7]
        go_wp2_with fail
        go_meet
        exact ⟨Lib.hid ⟨wh, ⟨z0, z1, z2, z3⟩, none, 0, 0, [], none, 0, 0, [], HC9.out, Rd.nil _ _ _ _, Nat.zero_le _, fun h => absurd h (by omega), Rd.nil _ _ _ _, Nat.zero_le _, fun h => absurd h (by omega)⟩, HC8, HE9⟩
    · obtain rfl : sb = false := by rw [← HSB.out]; simp [h]
      have hb2 : ((wh : Int) == 2) = true := by simp [h]
      clear h HLH
      obtain ⟨i0, hi0, hz0, hz1, hz2⟩ := info_parts info_entR
      have hfr0 : (fr : Int) ≥ 0 := by omega
      go_wp2_with fail
      go_loopw [12] (fun x wr => ∃ (i k : Nat) (v : Value) (L : List Ent), x = .int .i64 i ∧ Hid (i = fr + k ∧ L.length = k) ∧ k ≤ 200 ∧ i ≤ 400 ∧ Hid (Ext w wr) ∧ Hid (Bk wr (g0 + 1) 59 #[.int .i64 0, .int .i64 0, .int .i64 0, .int .i64 0, .int .i64 0, .slice none 0 0, .slice none 0 0]) ∧ Hid (Bk wr g0 61 #[.int .i64 wh, .int .i64 fr, .int .i64 to_]) ∧ Hid (Bk wr (g0 + 1 + 1) 59 #[.int .i64 wh, .int .i64 0, .int .i64 0, .int .i64 0, .int .i64 0, v, .slice none 0 0]) ∧ Hid (wr.ownsRow w.heap.size 56 2 v k (L.flatMap Ent.cells)) ∧ ((k = 0 ∧ v = .slice none 0 0) ∨ (1 ≤ k ∧ i ≤ n ∧ ∃ g cap, v = .slice (some ⟨g, 0, none⟩) k cap))) (fun x _ => 401 - (intOf x).toNat)
      case atStart => exact ⟨fr, 0, .slice none 0 0, [], rfl, Lib.hid ⟨rfl, rfl⟩, by omega, by omega, HE0, HB8, HB6, HB9, own_nil _ _ _ _, .inl ⟨rfl, rfl⟩⟩
      case round =>
        obtain ⟨i, k, v, L, rfl, HIK, hk200, hi4, HEr, HBr8, HBr6, HBr9, HOW, hform⟩ := hrel
        have y1 := HBr6.out.cell 1
        have y2 := HBr6.out.cell 2
        by_cases hc : i < to_ ∧ i < n
        · obtain ⟨hc1, hc2⟩ := hc
          have hc1' : (i : Int) < (to_ : Int) := by omega
          have hc2' : (i : Int) < (n : Int) := by omega
          have hge := List.getElem?_eq_getElem (l := es) (i := i) (by rw [HX.out]; exact hc2)
          obtain ⟨ad, rfl, hb, c0, c1⟩ := (HR.out.ext HEr.out).getE hge
          generalize es[i]'(by rw [HX.out]; exact hc2) = e at *
          obtain ⟨et, ed⟩ := e
          have C0 := Lib.hid c0
          have C1 := Lib.hid c1
          have hb' : (ad.add (i * 2)).block < wr.heap.size := by rw [blk_add]; exact hb
          have y5 := HBr9.out.cell 5
          have HNE := Lib.hid (own_type HOW.out HBr9.out (by decide))
          have hse := HEr.out.size
          have y5a : (wr.alloc (.cells #[.int .i64 et, .string ed] 56)).cell? ⟨g0 + 1 + 1, 5, none⟩ = some v := (HBr9.out.alloc _).cell 5
          have y5b : (wr.drew.alloc (.cells #[.int .i64 et, .string ed] 56)).cell? ⟨g0 + 1 + 1, 5, none⟩ = some v := (HBr9.out.drew.alloc _).cell 5
          clear hge
          go_wp2_with fail
          go_region_law (refine step_apps (by rfl) _ _ _ (by rfl) w.heap.size 56 i0 _ 2 24 Tryd.underlying46 hi0 hz0 hz1 hz2 rfl (by omega) v k _ (by rfl) (own_ext HOW.out (by (repeat (with_reducible first | exact Ext.refl _ | assumption | refine Ext.drew ?_ | refine Ext.drewN ?_ _ | refine Ext.alloc ?_ _ | refine Ext.trans ?_ (by with_reducible assumption))))) ⟨wr.heap.size, 0, none⟩ 1 1 [.int .i64 et, .string ed] (by rfl) (by rfl) (news_new _ _ _ _ rfl) (ones_ents [⟨et, ed⟩]) (by omega) (by omega) (by omega) (by simp; omega) ?_; intro g cap w5 own5 hg5 hor5 hl5; have B5 := (HBr9.out.ext (by (repeat (with_reducible first | exact Ext.refl _ | assumption | refine Ext.drew ?_ | refine Ext.drewN ?_ _ | refine Ext.alloc ?_ _ | refine Ext.trans ?_ (by with_reducible assumption))))).kept hg5 HNE.out; have y5 := B5.cell 5; have q5 := B5.frozen 5)
          all_goals
            have hEr := HEr.out
            have E5 : Ext w w5 := own_grown (own_ext HOW.out (by (repeat (with_reducible first | exact Ext.refl _ | assumption | refine Ext.drew ?_ | refine Ext.drewN ?_ _ | refine Ext.alloc ?_ _ | refine Ext.trans ?_ (by with_reducible assumption))))) hg5 w (Nat.le_refl _) (by (repeat (with_reducible first | exact Ext.refl _ | assumption | refine Ext.drew ?_ | refine Ext.drewN ?_ _ | refine Ext.alloc ?_ _ | refine Ext.trans ?_ (by with_reducible assumption))))
            have C8 := (HBr8.out.ext (by (repeat (with_reducible first | exact Ext.refl _ | assumption | refine Ext.drew ?_ | refine Ext.drewN ?_ _ | refine Ext.alloc ?_ _ | refine Ext.trans ?_ (by with_reducible assumption))))).kept hg5 (own_type HOW.out HBr8.out (by decide))
            have C6 := (HBr6.out.ext (by (repeat (with_reducible first | exact Ext.refl _ | assumption | refine Ext.drew ?_ | refine Ext.drewN ?_ _ | refine Ext.alloc ?_ _ | refine Ext.trans ?_ (by with_reducible assumption))))).kept hg5 (own_type HOW.out HBr6.out (by decide))
            go_wp2_with fail
            go_roundw
            case rel => exact ⟨i + 1, k + 1, .slice (some ⟨g, 0, none⟩) (k + 1) cap, L ++ [⟨et, ed⟩], by go_num, Lib.hid ⟨by have := HIK.out.1; omega, by rw [List.length_append, HIK.out.2]; rfl⟩, by have := HIK.out.1; omega, by omega,
              Lib.hid (E5.setCell (by have := HG.out; show _ ≤ g0 + 1 + 1; omega) _), Lib.hid (C8.far (by show _ ≠ g0 + 1 + 1; omega) _), Lib.hid (C6.far (by show _ ≠ g0 + 1 + 1; omega) _), Lib.hid (B5.set_ 5 _), Lib.hid (by
                have h2 := own5.kept (gb_set w5 (g0 + 1 + 1) 5 (.slice (some ⟨g, 0, none⟩) (k + 1) cap)) (.inr (own_type own5 B5 (by decide)))
                show World.ownsRow _ _ _ _ _ _ _
                rw [List.flatMap_append]; exact h2), .inr ⟨by omega, by omega, g, cap, rfl⟩⟩
            case measure => simp [intOf]; omega
        · have hc' : (¬ (i : Int) < (to_ : Int)) ∨ ((i : Int) < (to_ : Int) ∧ ¬ (i : Int) < (n : Int)) := by omega
          have HE9 := HEr
          have HE9' : Hid (∀ j x, Ext w (wr.setCell ⟨g0 + 1 + 1, j, none⟩ x)) := Lib.hid fun j x => HEr.out.setCell (by have := HG.out; show _ ≤ g0 + 1 + 1; omega) _
          clear hc
          rcases hform with ⟨rfl, rfl⟩ | ⟨hk1, hin, g, cap, rfl⟩
          · have y5 := HBr9.out.cell 5
            have HFIN : Hid (RepAt w.heap.size wr (g0 + 1 + 1) (g0 + 1)) := Lib.hid ⟨wh, ⟨0, 0, 0, 0⟩, none, 0, 0, [], none, 0, 0, [], HBr9.out, Rd.nil _ _ _ _, Nat.zero_le _, fun h => absurd h (by omega), Rd.nil _ _ _ _, Nat.zero_le _, fun h => absurd h (by omega)⟩
            have h7 : how % 7 = 3 ∨ how % 7 = 4 ∨ (how % 7 ≠ 3 ∧ how % 7 ≠ 4) := by omega
            rcases hc' with h | ⟨h, h'⟩ <;> rcases h7 with h8 | h8 | ⟨h8, h9⟩
            all_goals
              go_wp2_with fail
              go_meet
              exact ⟨HFIN, HBr8, HEr⟩
          · have hne : g ≠ g0 + 1 + 1 := fun e => own_type HOW.out HBr9.out (by decide) (by rw [e]; rfl)
            obtain ⟨A', c', hv', hcm, R', -⟩ := own_rd HOW.out
            obtain ⟨rfl, rfl⟩ : (some ⟨g, 0, none⟩ : Option Addr) = A' ∧ cap = c' := by injection hv' with a _ b; exact ⟨a, b⟩
            have HRG := Lib.hid R'
            have hkc := R'.2.1
            have hcaps : cap ≤ 9223372036854775807 := by unfold maxLen at hcm; omega
            have hne8 : g ≠ g0 + 1 := fun e => own_type HOW.out HBr8.out (by decide) (by rw [e]; rfl)
            have HNE := Lib.hid hne
            have HNP : Hid (g ≠ g0 + 1 + 1 ∧ g ≠ g0 + 1 ∧ w.heap.size ≤ g) := Lib.hid ⟨hne, hne8, own_block HOW.out g rfl⟩
            have HFR := Lib.hid (own_frozenG HOW.out 0)
            have hge := w.heap.size
            have hog : w.heap.size ≤ g := own_block HOW.out g rfl
            obtain ⟨e0, L', hL⟩ : ∃ e0 L', L = e0 :: L' := by
              cases L with
              | nil => have := HIK.out.2; simp at this; omega
              | cons e0 L' => exact ⟨e0, L', rfl⟩
            subst hL
            obtain ⟨t0, d0⟩ := e0
            have hkI : (0 : Int) < (k : Int) := by omega
            have y5 := HBr9.out.cell 5
            clear hv' R'
            have h7 : how % 7 = 3 ∨ how % 7 = 4 ∨ (how % 7 ≠ 3 ∧ how % 7 ≠ 4) := by omega
            rcases h7 with h8 | h8 | ⟨h8, h9⟩
            · have z0 : wr.cell? ⟨g, 0, none⟩ = some (.int .i64 t0) := by
                obtain ⟨ad, e, _, hh, _⟩ := HRG.out.getE (j := 0) (e := ⟨t0, d0⟩) rfl
                injection e with e
                subst e
                rwa [addG] at hh
              have z1 := HFR.out
              have B9' := HBr9.out.far (p := ⟨g, 0, none⟩) (Ne.symm HNE.out) (.int .i64 5)
              have y5' := B9'.cell 5
              have HFIN : Hid (RepAt w.heap.size (wr.setCell ⟨g, 0, none⟩ (.int .i64 5)) (g0 + 1 + 1) (g0 + 1)) := Lib.hid ⟨wh, ⟨0, 0, 0, 0⟩, some ⟨g, 0, none⟩, k, cap, ⟨5, d0⟩ :: L', none, 0, 0, [], B9', HRG.out.setG (by omega) _, hcm, fun _ ad e => by injection e with e; subst e; exact HNP.out, Rd.nil _ _ _ _, Nat.zero_le _, fun h => absurd h (by omega)⟩
              have HF8 : Hid (Bk (wr.setCell ⟨g, 0, none⟩ (.int .i64 5)) (g0 + 1) 59 #[.int .i64 0, .int .i64 0, .int .i64 0, .int .i64 0, .int .i64 0, .slice none 0 0, .slice none 0 0]) := Lib.hid (HBr8.out.far (fun e => own_type HOW.out HBr8.out (by decide) (by rw [e]; rfl)) _)
              have HFE : Hid (Ext w (wr.setCell ⟨g, 0, none⟩ (.int .i64 5))) := Lib.hid (HEr.out.setCell hog _)
              rcases hc' with h | ⟨h, h'⟩
              all_goals
                go_wp2_with fail
                go_meet
                exact ⟨HFIN, HF8, HFE⟩
            · by_cases hk2 : 1 < k
              · have hk2' : (1 : Int) < (k : Int) := by omega
                have q5 := HBr9.out.frozen 5
                have B9' := HBr9.out.set_ 5 (.slice (some ⟨g, 0, none⟩) 1 cap)
                have HFIN : Hid (RepAt w.heap.size (wr.setCell ⟨g0 + 1 + 1, 5, none⟩ (.slice (some ⟨g, 0, none⟩) 1 cap)) (g0 + 1 + 1) (g0 + 1)) := Lib.hid ⟨wh, ⟨0, 0, 0, 0⟩, some ⟨g, 0, none⟩, 1, cap, [⟨t0, d0⟩], none, 0, 0, [], B9', (RdE_take HRG.out (k := 1) (by omega)).kept (gb_set wr (g0 + 1 + 1) 5 _) (fun _ ad e => by injection e with e; subst e; simp; exact fun k => HNE.out k.symm), hcm, fun _ ad e => by injection e with e; subst e; exact HNP.out, Rd.nil _ _ _ _, Nat.zero_le _, fun h => absurd h (by omega)⟩
                have HF8 := Lib.hid (HBr8.out.far (p := ⟨g0 + 1 + 1, 5, none⟩) (by simp) (.slice (some ⟨g, 0, none⟩) 1 cap))
                have HFE := Lib.hid (HE9'.out 5 (.slice (some ⟨g, 0, none⟩) 1 cap))
                rcases hc' with h | ⟨h, h'⟩
                all_goals
                  go_wp2_with fail
                  go_meet
                  exact ⟨HFIN, HF8, HFE⟩
              · have hk2' : ¬ (1 : Int) < (k : Int) := by omega
                have HFIN : Hid (RepAt w.heap.size wr (g0 + 1 + 1) (g0 + 1)) := Lib.hid ⟨wh, ⟨0, 0, 0, 0⟩, some ⟨g, 0, none⟩, k, cap, ⟨t0, d0⟩ :: L', none, 0, 0, [], HBr9.out, HRG.out, hcm, fun _ ad e => by injection e with e; subst e; exact HNP.out, Rd.nil _ _ _ _, Nat.zero_le _, fun h => absurd h (by omega)⟩
                rcases hc' with h | ⟨h, h'⟩
                all_goals
                  go_wp2_with fail
                  go_meet
                  exact ⟨HFIN, HBr8, HEr⟩
            · have HFIN : Hid (RepAt w.heap.size wr (g0 + 1 + 1) (g0 + 1)) := Lib.hid ⟨wh, ⟨0, 0, 0, 0⟩, some ⟨g, 0, none⟩, k, cap, ⟨t0, d0⟩ :: L', none, 0, 0, [], HBr9.out, HRG.out, hcm, fun _ ad e => by injection e with e; subst e; exact HNP.out, Rd.nil _ _ _ _, Nat.zero_le _, fun h => absurd h (by omega)⟩
              rcases hc' with h | ⟨h, h'⟩
              all_goals
                go_wp2_with fail
                go_meet
                exact ⟨HFIN, HBr8, HEr⟩
    · obtain rfl : sb = false := by rw [← HSB.out]; simp [h]
      have hb2 : ((wh : Int) == 2) = false := by simp [h]
      have hb3 : ((wh : Int) == 3) = true := by simp [h]
      clear h HLH
      obtain ⟨i0, hi0, hz0, hz1, hz2⟩ := info_parts info_intR
      have HFIN0 : Hid (RepAt w.heap.size W0 (g0 + 1 + 1) (g0 + 1)) := Lib.hid ⟨wh, ⟨0, 0, 0, 0⟩, none, 0, 0, [], none, 0, 0, [], HB9.out, Rd.nil _ _ _ _, Nat.zero_le _, fun h => absurd h (by omega), Rd.nil _ _ _ _, Nat.zero_le _, fun h => absurd h (by omega)⟩
      have y6 := HB9.out.cell 6
      by_cases hc : 1 ≤ fr ∧ fr ≤ to_ ∧ to_ ≤ n
      case neg =>
        have hc' : (¬ (1 : Int) ≤ (fr : Int)) ∨ ((1 : Int) ≤ (fr : Int) ∧ ¬ (fr : Int) ≤ (to_ : Int)) ∨ ((1 : Int) ≤ (fr : Int) ∧ (fr : Int) ≤ (to_ : Int) ∧ ¬ (to_ : Int) ≤ (n : Int)) := by omega
        clear hc
        have h7 : how % 7 = 3 ∨ how % 7 ≠ 3 := by omega
        rcases hc' with h | ⟨h, h'⟩ | ⟨h, h', h''⟩ <;> rcases h7 with h8 | h8
        all_goals
          go_wp2_with fail
          go_meet
          exact ⟨HFIN0, HB8, HE0⟩
      obtain ⟨hc1, hc2, hc3⟩ := hc
      have hc1' : (1 : Int) ≤ (fr : Int) := by omega
      have hc2' : (fr : Int) ≤ (to_ : Int) := by omega
      have hc3' : (to_ : Int) ≤ (n : Int) := by omega
      have hlt : (es.take to_).length = to_ := by rw [List.length_take, HX.out]; omega
      have htc : to_ ≤ c := by omega
      have HLF : Hid (∀ W, Ext w W → Calls Tryd.prog 50 #[.slice A to_ c] W fun e w' => (∃ A2 c2 L, e = .returned (.slice A2 to_ c2) ∧ c2 ≤ maxLen ∧ Rd w' 1 A2 to_ c2 (L.map (Value.int .i64)) ∧ L.length = to_ ∧ allV L = true) ∧ Ext W w') := Lib.hid fun W e => by
        refine (REntryLeafs_tot A to_ c (es.take to_) W (RdE_take (HR.out.ext e) hc3) HM.out (by omega) (fun e he => by have := HZ.out e (List.mem_of_mem_take he); omega)).mono fun e' w' hh => ?_
        obtain ⟨⟨v, L, q1, q2, q3, q4⟩, q5⟩ := hh
        obtain ⟨A2, c2, rfl, q6, q7⟩ := q2.rd
        rw [q3] at q1 q7
        exact ⟨⟨A2, c2, L, q1, q6, q7, q3, q4⟩, q5⟩
      have HGR : Hid (∀ W A2 c2 L, Rd W 1 A2 to_ c2 (L.map (Value.int .i64)) → c2 ≤ maxLen → L.length = to_ → allV L = true → Calls Tryd.prog 49 #[.slice A2 to_ c2, .int .i64 fr, .bool true] W fun e w' => (∃ v, e = .returned v ∧ OwnI W w' v (growL L fr true)) ∧ Ext W w') := Lib.hid fun W A2 c2 L h1 h2 h3 h4 => RGrow_any to_ A2 to_ c2 L fr true W (Nat.le_refl _) h1 h2 hc1 hc2 (by omega) h4
      go_upto_region 19 with (fail)
      go_cut [13] (fun v wd => ∃ p : List Int, Hid (wd.ownsRow w.heap.size 3 1 v p.length (p.map (Value.int .i64)) ∧ p.length ≤ 200) ∧ Hid (Ext W0 wd))
      case first =>
        as_aux_lemma =>
        have hw0 := HE0.out
        go_region_with (first
          | (go_at_call 50; refine (HLF.out _ ?_).mono ?_; (focus ((repeat (with_reducible first | exact Ext.refl _ | assumption | refine Ext.drew ?_ | refine Ext.drewN ?_ _ | refine Ext.alloc ?_ _ | refine Ext.trans ?_ (by with_reducible assumption))); done)); rintro _ w4 ⟨⟨A4, c4, L4, rfl, hc4, R4, hl4, hv4⟩, hb4⟩; have HC4 := Lib.hid hc4; have HR4 := Lib.hid R4; have HL4 := Lib.hid hl4; have HV4 := Lib.hid hv4; clear hc4 R4 hl4 hv4; have e4 : Ext W0 w4 := Ext.trans (by (repeat (with_reducible first | exact Ext.refl _ | assumption | refine Ext.drew ?_ | refine Ext.drewN ?_ _ | refine Ext.alloc ?_ _ | refine Ext.trans ?_ (by with_reducible assumption)))) hb4; have f14 : w4.cell? ⟨g0, 1, none⟩ = some (.int .i64 fr) := (HB6.out.ext e4).cell 1)
          | (go_at_call 49; refine (HGR.out _ _ _ _ (HR4.out.ext ?_) HC4.out HL4.out HV4.out).mono ?_; (focus ((repeat (with_reducible first | exact Ext.refl _ | assumption | refine Ext.drew ?_ | refine Ext.drewN ?_ _ | refine Ext.alloc ?_ _ | refine Ext.trans ?_ (by with_reducible assumption))); done)); rintro _ w5 ⟨⟨v5, rfl, own5⟩, hb5⟩)
          | fail)
        all_goals
          have e5 : Ext W0 w5 := Ext.trans (by (repeat (with_reducible first | exact Ext.refl _ | assumption | refine Ext.drew ?_ | refine Ext.drewN ?_ _ | refine Ext.alloc ?_ _ | refine Ext.trans ?_ (by with_reducible assumption)))) hb5
          go_wp2_with fail
          go_meet
          refine ⟨growL L4 fr true, Lib.hid ⟨own_lower own5 ?_, ?_⟩, Lib.hid e5⟩
          · exact Nat.le_trans hw0.size e4.size
          · have h1 := HL4.out
            rw [growL_len to_ L4 fr true (by omega) hc1 (by omega) (by omega), h1]
            have := gsteps_le to_ fr to_ true (Nat.le_refl _) (by omega) (by omega)
            omega
      case rest =>
      as_aux_lemma =>
      obtain ⟨p, HP, HE1⟩ := hcut
      obtain ⟨w1, rfl⟩ : ∃ W, W = wc := ⟨_, rfl⟩
      obtain ⟨A1, c1, rfl, hcm1, R1, hn1⟩ := own_rd HP.out.1
      have hA1 : A1 = none → p.length = 0 ∧ c1 = 0 := fun e => by
        have h0 : p.length = 0 := by
          rcases Nat.eq_zero_or_pos p.length with h | h
          · exact h
          · obtain ⟨ad, h1, _⟩ := R1.2.2 h; rw [e] at h1; cases h1
        rcases hn1 h0 with h1 | h1
        · exact ⟨h0, h1.2⟩
        · exact absurd e h1
      have HA1 := Lib.hid hA1
      have HR1 := Lib.hid R1
      obtain ⟨l, hl⟩ : ∃ l, p.length = l := ⟨_, rfl⟩
      have HPL := Lib.hid hl
      have hl200 : l ≤ 200 := by have := HP.out.2; omega
      rw [hl] at HR1 HA1
      rw [hl]
      have hl1c := HR1.out.2.1
      have hc1s : c1 ≤ 9223372036854775807 := by unfold maxLen at hcm1; omega
      have B9 := HB9.out.ext HE1.out
      have HC9 := Lib.hid B9
      have HC8 := Lib.hid (HB8.out.ext HE1.out)
      have HE2 := Lib.hid (HE0.out.trans HE1.out)
      have x6 := B9.cell 6
      have q6 := B9.frozen 6
      have hsz := HE2.out.size
      clear y6 hA1 R1 hn1 hl B9
      have HN0 := Lib.hid (own_nil w1 w.heap.size 3 1)
      have HONES : Hid (∀ u ∈ p.map (Value.int .i64), u.oneCell' = true) := Lib.hid fun u hu => by
        obtain ⟨x, _, rfl⟩ := List.mem_map.1 hu; rfl
      go_upto_region 21 with (at_builtin; refine wpl_appR (by rfl) _ _ _ (by rfl) w.heap.size 3 i0 _ 1 8 Tryd.underlying22 hi0 hz0 hz1 hz2 rfl (by omega) (.slice none 0 0) 0 [] (by rfl) HN0.out A1 l c1 _ (by rfl) HR1.out HA1.out HONES.out (by omega) (by omega) hsz ?_; intro v2 w2 own2 hg2 hn2; rw [Nat.zero_add, List.nil_append] at own2; obtain ⟨A2, c2, rfl, -, -, -⟩ := own_rd own2; have D9 := HC9.out.ext (gb_none hg2); have x62 := D9.cell 6; have q62 := D9.frozen 6)
      obtain ⟨v2, hv2⟩ : ∃ v, (Value.slice A2 l c2) = v := ⟨_, rfl⟩
      rw [hv2] at own2
      try rw [hv2]
      clear hv2
      have E2 : Ext w1 w2 := gb_none hg2
      have K9 := D9.set_ 6 v2
      have K8 := (HC8.out.ext E2).far (p := ⟨g0 + 1 + 1, 6, none⟩) (by show _ ≠ g0 + 1 + 1; omega) v2
      have KE := (HE2.out.trans E2).setCell (p := ⟨g0 + 1 + 1, 6, none⟩) (by have := HG.out; show _ ≤ g0 + 1 + 1; omega) v2
      have KO := own2.kept (gb_set w2 (g0 + 1 + 1) 6 v2) (.inr (own_type own2 D9 (by decide)))
      have HK9 := Lib.hid K9
      have HK8 := Lib.hid K8
      have HKE := Lib.hid KE
      have HKO := Lib.hid KO
      clear K9 K8 KE KO own2 hg2 hn2 D9 x62 q62 x6 q6 HN0
      generalize w2.setCell ⟨g0 + 1 + 1, 6, none⟩ v2 = W3 at *
      obtain ⟨A3, c3, rfl, hcm3, R3, -⟩ := own_rd HKO.out
      have HR3 := Lib.hid R3
      have hl3c := R3.2.1
      have hc3s : c3 ≤ 9223372036854775807 := by unfold maxLen at hcm3; omega
      have hne3 : ∀ ad, A3 = some ad → ad.block ≠ g0 + 1 + 1 := fun ad e k => own_type HKO.out HK9.out (by decide) (by rw [e]; show some ad.block = _; rw [k])
      have hne8 : ∀ ad, A3 = some ad → ad.block ≠ g0 + 1 := fun ad e k => own_type HKO.out HK8.out (by decide) (by rw [e]; show some ad.block = _; rw [k])
      have HNE3 : Hid (∀ ad, A3 = some ad → ad.block ≠ g0 + 1 + 1 ∧ ad.block ≠ g0 + 1 ∧ w.heap.size ≤ ad.block) := Lib.hid fun ad e => ⟨hne3 ad e, hne8 ad e, own_block HKO.out ad.block (by rw [e]; rfl)⟩
      have HF3 : Hid (RepAt w.heap.size W3 (g0 + 1 + 1) (g0 + 1)) := Lib.hid ⟨wh, ⟨0, 0, 0, 0⟩, none, 0, 0, [], A3, l, c3, p, HK9.out, Rd.nil _ _ _ _, Nat.zero_le _, fun h => absurd h (by omega), R3, hcm3, fun _ => HNE3.out⟩
      have y6 := HK9.out.cell 6
      clear R3 hne3 hne8
      by_cases h8 : how % 7 = 3
      · by_cases hl0 : 0 < l
        · have hl0' : (0 : Int) < (l : Int) := by omega
          obtain ⟨g3, hA3⟩ : ∃ g3, A3 = some ⟨g3, 0, none⟩ := by
            rcases own_form HKO.out with h | h
            · obtain ⟨ad3, h2, _⟩ := HR3.out.2.2 hl0
              rw [h] at h2; cases h2
            · exact h
          subst hA3
          obtain ⟨z, p', hzp⟩ : ∃ z p', p = z :: p' := by
            cases p with
            | nil => have := HPL.out; simp at this; omega
            | cons z p' => exact ⟨z, p', rfl⟩
          subst hzp
          have u0 : W3.cell? ⟨g3, 0, none⟩ = some (.int .i64 z) := by
            obtain ⟨ad, e, _, hh⟩ := HR3.out.2.2 hl0
            injection e with e
            subst e
            have := hh 0 _ rfl
            rwa [addG] at this
          have f0 := own_frozenG HKO.out 0
          have hog : w.heap.size ≤ g3 := own_block HKO.out g3 rfl
          have HN9 : Hid (g3 ≠ g0 + 1 + 1 ∧ g3 ≠ g0 + 1 ∧ w.heap.size ≤ g3) := Lib.hid (HNE3.out _ rfl)
          have HF4 : Hid (RepAt w.heap.size (W3.setCell ⟨g3, 0, none⟩ (.int .i64 1)) (g0 + 1 + 1) (g0 + 1)) := Lib.hid ⟨wh, ⟨0, 0, 0, 0⟩, none, 0, 0, [], some ⟨g3, 0, none⟩, l, c3, 1 :: p', HK9.out.far (p := ⟨g3, 0, none⟩) (Ne.symm HN9.out.1) _, Rd.nil _ _ _ _, Nat.zero_le _, fun h => absurd h (by omega), HR3.out.setG (by omega) _, hcm3, fun _ ad e => by injection e with e; subst e; exact HN9.out⟩
          have HF8 := Lib.hid (HK8.out.far (p := ⟨g3, 0, none⟩) (Ne.symm HN9.out.2.1) (.int .i64 1))
          have HFE := Lib.hid (HKE.out.setCell (p := ⟨g3, 0, none⟩) hog (.int .i64 1))
          clear HR3 HF3
          go_wp2_with fail
          go_meet
          exact ⟨HF4, HF8, HFE⟩
        · have hl0' : ¬ (0 : Int) < (l : Int) := by omega
          go_wp2_with fail
          go_meet
          exact ⟨HF3, HK8, HKE⟩
      · go_wp2_with fail
        go_meet
        exact ⟨HF3, HK8, HKE⟩
  case rest =>
  as_aux_lemma =>
  obtain ⟨HR9, HB8, HE1⟩ := hcut
  obtain ⟨w1, rfl⟩ : ∃ W, W = wc := ⟨_, rfl⟩
  have h11 : how % 11 = 5 ∨ (how % 11 ≠ 5 ∧ how % 11 = 6) ∨ (how % 11 ≠ 5 ∧ how % 11 ≠ 6) := by omega
  rcases h11 with h8 | ⟨h8, h9⟩ | ⟨h8, h9⟩
  · have HRX := Lib.hid (HR9.out.what 0)
    have H8X := Lib.hid (HB8.out.far (p := ⟨g0 + 1 + 1, 0, none⟩) (by show _ ≠ g0 + 1 + 1; omega) (.int .i64 0))
    have HEX := Lib.hid (HE1.out.setCell (p := ⟨g0 + 1 + 1, 0, none⟩) (by have := HG.out; show _ ≤ g0 + 1 + 1; omega) (.int .i64 0))
    have xc : w1.cell? ⟨g0 + 1 + 1, 0, none⟩ ≠ none := by
      obtain ⟨what, hd, A9, n9, c9, l9, A9', n9', c9', p9, b9, _⟩ := HR9.out
      have := b9.cell 0
      rw [this]; simp
    obtain ⟨uu, hu⟩ := Option.ne_none_iff_exists'.1 xc
    have fu : w1.frozen? ⟨g0 + 1 + 1, 0, none⟩ = false := by
      obtain ⟨what, hd, A9, n9, c9, l9, A9', n9', c9', p9, b9, _⟩ := HR9.out
      exact b9.frozen 0
    clear xc
    go_upto_region 25 with (fail)
    generalize w1.setCell ⟨g0 + 1 + 1, 0, none⟩ (.int .i64 0) = W5 at *
    clear hu fu
    obtain ⟨what, hd, A9, n9, c9, l9, A9', n9', c9', p9, b9, r1, r2, r3, r4, r5, r6⟩ := HRX.out
    obtain ⟨d0, d1, d2, d3⟩ := hd
    have HR1 := Lib.hid r1
    have HR2 := Lib.hid r2
    have HR3 := Lib.hid r3
    have HR4 := Lib.hid r4
    have HR5 := Lib.hid r5
    have HR6 := Lib.hid r6
    have y0 := b9.cell 0
    have y1 := b9.cell 1
    have y2 := b9.cell 2
    have y3 := b9.cell 3
    have y4 := b9.cell 4
    have y5 := b9.cell 5
    have y6 := b9.cell 6
    clear r1 r2 r3 r4 r5 r6 b9
    go_wp2_with (refine wpl_store7 (by rfl) 59 _ _ (by rfl) (g0 + 1) 59 _ _ _ _ _ _ _ what d0 d1 d2 d3 A9 A9' n9 c9 n9' c9' (by rfl) (by rfl) Tryd.sizeOf59 H8X.out ?_; intro w9 k1 k2; have K1 := Lib.hid k1; have K2 := Lib.hid k2; clear k1 k2)
    have p0 := K1.out.cell 0
    have p1 := K1.out.cell 1
    have p2 := K1.out.cell 2
    have p3 := K1.out.cell 3
    have p4 := K1.out.cell 4
    have p5 := K1.out.cell 5
    have p6 := K1.out.cell 6
    refine bodyPost_ret (by simp [results, Tryd.results24, go_sem, p0, p1, p2, p3, p4, p5, p6]; try rfl) rfl ?_
    have hge : w.heap.size ≤ g0 + 1 := by have := HG.out; omega
    exact ⟨⟨_, rfl, ⟨what, ⟨d0, d1, d2, d3⟩, l9, p9⟩, A9, n9, c9, A9', n9', c9', rfl, HR1.out.kept K2.out (fun hn ad e k => (HR3.out hn ad e).2.1 (by injection k with k; exact k.symm)), HR2.out, HR4.out.kept K2.out (fun hn ad e k => (HR6.out hn ad e).2.1 (by injection k with k; exact k.symm)), HR5.out, fun hn ad e => (HR3.out hn ad e).2.2, fun hn ad e => (HR6.out hn ad e).2.2⟩, HEX.out.gbn K2.out hge⟩
  · have HRX := Lib.hid (HR9.out.what (how % 4))
    have H8X := Lib.hid (HB8.out.far (p := ⟨g0 + 1 + 1, 0, none⟩) (by show _ ≠ g0 + 1 + 1; omega) (.int .i64 (how % 4)))
    have HEX := Lib.hid (HE1.out.setCell (p := ⟨g0 + 1 + 1, 0, none⟩) (by have := HG.out; show _ ≤ g0 + 1 + 1; omega) (.int .i64 (how % 4)))
    have xc : w1.cell? ⟨g0 + 1 + 1, 0, none⟩ ≠ none := by
      obtain ⟨what, hd, A9, n9, c9, l9, A9', n9', c9', p9, b9, _⟩ := HR9.out
      have := b9.cell 0
      rw [this]; simp
    obtain ⟨uu, hu⟩ := Option.ne_none_iff_exists'.1 xc
    have fu : w1.frozen? ⟨g0 + 1 + 1, 0, none⟩ = false := by
      obtain ⟨what, hd, A9, n9, c9, l9, A9', n9', c9', p9, b9, _⟩ := HR9.out
      exact b9.frozen 0
    clear xc
    go_upto_region 27 with (fail)
    generalize w1.setCell ⟨g0 + 1 + 1, 0, none⟩ (.int .i64 (how % 4)) = W5 at *
    clear hu fu
    obtain ⟨what, hd, A9, n9, c9, l9, A9', n9', c9', p9, b9, r1, r2, r3, r4, r5, r6⟩ := HRX.out
    obtain ⟨d0, d1, d2, d3⟩ := hd
    have HR1 := Lib.hid r1
    have HR2 := Lib.hid r2
    have HR3 := Lib.hid r3
    have HR4 := Lib.hid r4
    have HR5 := Lib.hid r5
    have HR6 := Lib.hid r6
    have y0 := b9.cell 0
    have y1 := b9.cell 1
    have y2 := b9.cell 2
    have y3 := b9.cell 3
    have y4 := b9.cell 4
    have y5 := b9.cell 5
    have y6 := b9.cell 6
    clear r1 r2 r3 r4 r5 r6 b9
    go_wp2_with (refine wpl_store7 (by rfl) 59 _ _ (by rfl) (g0 + 1) 59 _ _ _ _ _ _ _ what d0 d1 d2 d3 A9 A9' n9 c9 n9' c9' (by rfl) (by rfl) Tryd.sizeOf59 H8X.out ?_; intro w9 k1 k2; have K1 := Lib.hid k1; have K2 := Lib.hid k2; clear k1 k2)
    have p0 := K1.out.cell 0
    have p1 := K1.out.cell 1
    have p2 := K1.out.cell 2
    have p3 := K1.out.cell 3
    have p4 := K1.out.cell 4
    have p5 := K1.out.cell 5
    have p6 := K1.out.cell 6
    refine bodyPost_ret (by simp [results, Tryd.results24, go_sem, p0, p1, p2, p3, p4, p5, p6]; try rfl) rfl ?_
    have hge : w.heap.size ≤ g0 + 1 := by have := HG.out; omega
    exact ⟨⟨_, rfl, ⟨what, ⟨d0, d1, d2, d3⟩, l9, p9⟩, A9, n9, c9, A9', n9', c9', rfl, HR1.out.kept K2.out (fun hn ad e k => (HR3.out hn ad e).2.1 (by injection k with k; exact k.symm)), HR2.out, HR4.out.kept K2.out (fun hn ad e k => (HR6.out hn ad e).2.1 (by injection k with k; exact k.symm)), HR5.out, fun hn ad e => (HR3.out hn ad e).2.2, fun hn ad e => (HR6.out hn ad e).2.2⟩, HEX.out.gbn K2.out hge⟩
  · have HRX := HR9
    have H8X := HB8
    have HEX := HE1
    obtain ⟨what, hd, A9, n9, c9, l9, A9', n9', c9', p9, b9, r1, r2, r3, r4, r5, r6⟩ := HRX.out
    obtain ⟨d0, d1, d2, d3⟩ := hd
    have HR1 := Lib.hid r1
    have HR2 := Lib.hid r2
    have HR3 := Lib.hid r3
    have HR4 := Lib.hid r4
    have HR5 := Lib.hid r5
    have HR6 := Lib.hid r6
    have y0 := b9.cell 0
    have y1 := b9.cell 1
    have y2 := b9.cell 2
    have y3 := b9.cell 3
    have y4 := b9.cell 4
    have y5 := b9.cell 5
    have y6 := b9.cell 6
    clear r1 r2 r3 r4 r5 r6 b9
    go_wp2_with (refine wpl_store7 (by rfl) 59 _ _ (by rfl) (g0 + 1) 59 _ _ _ _ _ _ _ what d0 d1 d2 d3 A9 A9' n9 c9 n9' c9' (by rfl) (by rfl) Tryd.sizeOf59 H8X.out ?_; intro w9 k1 k2; have K1 := Lib.hid k1; have K2 := Lib.hid k2; clear k1 k2)
    have p0 := K1.out.cell 0
    have p1 := K1.out.cell 1
    have p2 := K1.out.cell 2
    have p3 := K1.out.cell 3
    have p4 := K1.out.cell 4
    have p5 := K1.out.cell 5
    have p6 := K1.out.cell 6
    refine bodyPost_ret (by simp [results, Tryd.results24, go_sem, p0, p1, p2, p3, p4, p5, p6]; try rfl) rfl ?_
    have hge : w.heap.size ≤ g0 + 1 := by have := HG.out; omega
    exact ⟨⟨_, rfl, ⟨what, ⟨d0, d1, d2, d3⟩, l9, p9⟩, A9, n9, c9, A9', n9', c9', rfl, HR1.out.kept K2.out (fun hn ad e k => (HR3.out hn ad e).2.1 (by injection k with k; exact k.symm)), HR2.out, HR4.out.kept K2.out (fun hn ad e k => (HR6.out hn ad e).2.1 (by injection k with k; exact k.symm)), HR5.out, fun hn ad e => (HR3.out hn ad e).2.2, fun hn ad e => (HR6.out hn ad e).2.2⟩, HEX.out.gbn K2.out hge⟩
end Go.Proofs.YtmknpehjncpekaaDoor

/- A mirror: what it has was signed so; plain. -/
namespace Go.Proofs.YtmknpehjncpekaaDoor
set_option linter.unusedVariables false

structure Mi.Tr (m : Mi) : Prop where
  good : m.Good
  sg : m.own ≠ [] → m.head.root = rootE m.own ∧ verK m.head m.key = 0
structure Mi.To (m m' : Mi) : Prop where
  tr : m'.Tr
  own : ∃ l, m'.own = m.own ++ l
  key : m'.key = m.key
theorem Mi.Tr.new (key : Int) : (Mi.new key).Tr := ⟨Mi.Good.new key, fun h => absurd rfl h⟩
theorem Mi.Tr.same {m m' : Mi} (h : m.Tr) (g : m'.Good) (h1 : m'.own = m.own) (h2 : m'.head = m.head) (h3 : m'.key = m.key) : m.To m' :=
  ⟨⟨g, fun k => by rw [h1, h2, h3]; exact h.sg (by rw [← h1]; exact k)⟩, ⟨[], by rw [h1, List.append_nil]⟩, h3⟩
theorem Mi.Tr.settle {m : Mi} (h : m.Tr) (hn : m.next.size ≠ 0) (hf : m.have_ = m.next.size) : m.To m.settle.1 := by
  have hg := h.good.settle hn hf
  unfold Mi.settle at hg ⊢
  by_cases hr : rootE (m.own ++ m.waits) ≠ m.next.root
  · rw [if_pos hr] at hg ⊢
    exact h.same hg rfl rfl rfl
  · rw [if_neg hr] at hg ⊢
    refine ⟨⟨hg, fun _ => ⟨(Decidable.not_not.1 hr).symm, ?_⟩⟩, ⟨m.waits, rfl⟩, rfl⟩
    rcases h.good.next with e | e
    · rw [e] at hn; exact absurd rfl hn
    · exact e
theorem Mi.To.trans {a b c : Mi} (h : a.To b) (k : b.To c) : a.To c := by
  obtain ⟨l, hl⟩ := h.own
  obtain ⟨r, hr⟩ := k.own
  exact ⟨k.tr, ⟨l ++ r, by rw [hr, hl, List.append_assoc]⟩, k.key.trans h.key⟩
theorem Mi.Tr.hearH {m : Mi} (h : m.Tr) {hh : Hd} (hn : m.next.size = 0) : m.To (m.hearH hh).1 := by
  have hg := h.good.hearH (hh := hh) hn
  unfold Mi.hearH at hg ⊢
  by_cases h1 : verK hh m.key ≠ 0
  · rw [if_pos h1] at hg ⊢; exact h.same hg rfl rfl rfl
  rw [if_neg h1] at hg ⊢
  by_cases h2 : hh.size < m.own.length ∨ (hh.size = m.own.length ∧ hh.root ≠ rootE m.own)
  · rw [if_pos h2] at hg ⊢; exact h.same hg rfl rfl rfl
  rw [if_neg h2] at hg ⊢
  by_cases h3 : (m.own.length : Int) < hh.size
  · rw [if_pos h3] at hg ⊢; exact h.same hg rfl rfl rfl
  rw [if_neg h3] at hg ⊢
  by_cases h4 : betB hh m.head = true
  · rw [if_pos h4] at hg ⊢
    refine ⟨⟨hg, fun _ => ⟨?_, Decidable.not_not.1 h1⟩⟩, ⟨[], (List.append_nil _).symm⟩, rfl⟩
    exact Decidable.not_not.1 fun k => h2 (.inr ⟨by omega, k⟩)
  · rw [if_neg h4] at hg ⊢; exact h.same hg rfl rfl rfl
theorem Mi.Tr.hearE {m : Mi} (h : m.Tr) {l : List Ent} (hw : m.want.what = 2) : m.To (m.hearE l).1 := by
  have hn : m.next.size ≠ 0 := fun e => by unfold Mi.want at hw; rw [if_pos e] at hw; cases hw
  have hf : m.have_ ≠ m.next.size := fun e => by unfold Mi.want at hw; rw [if_neg hn, if_pos e] at hw; cases hw
  have ww : m.want = ⟨2, m.have_, min m.next.size (m.have_ + 16)⟩ := by unfold Mi.want; rw [if_neg hn, if_neg hf]
  unfold Mi.hearE
  rw [ww]
  dsimp only
  by_cases h1 : (l.length : Int) < 1 ∨ min m.next.size (m.have_ + 16) - m.have_ < l.length
  · rw [if_pos h1]; exact h.same h.good.forget rfl rfl rfl
  rw [if_neg h1]
  by_cases h2 : firstErr l ≠ 0
  · rw [if_pos h2]; exact h.same h.good.forget rfl rfl rfl
  rw [if_neg h2]
  have hl := firstErr_mem (Decidable.not_not.1 h2)
  have hg : ({ m with waits := m.waits ++ l } : Mi).Good := ⟨h.good.own, fun e he => (List.mem_append.1 he).elim (h.good.waits e) (hl e), fun k => absurd k hn, fun k => ⟨by
    show (m.own.length : Int) + ((m.waits ++ l).length : Int) ≤ m.next.size
    rw [List.length_append]
    unfold Mi.have_ at h1 hf
    omega, (h.good.room k).2⟩, h.good.next, h.good.head, h.good.size⟩
  have ht : m.To { m with waits := m.waits ++ l } := h.same hg rfl rfl rfl
  by_cases h3 : m.own.length = 0 ∧ ((m.waits ++ l).length : Int) = m.next.size
  · rw [if_pos h3]
    exact ht.trans (ht.tr.settle hn (by show (m.own.length : Int) + ((m.waits ++ l).length : Int) = m.next.size; omega))
  · rw [if_neg h3]; exact ht
theorem Mi.Tr.hearP {m : Mi} (h : m.Tr) {p : List Int} (hw : m.want.what = 3) : m.To (m.hearP p).1 := by
  have hn : m.next.size ≠ 0 := fun e => by unfold Mi.want at hw; rw [if_pos e] at hw; cases hw
  have hf : m.have_ = m.next.size := by
    unfold Mi.want at hw
    rw [if_neg hn] at hw
    split at hw
    · assumption
    · cases hw
  unfold Mi.hearP
  by_cases h1 : gcheck (rootE m.own) m.own.length m.next.root m.next.size p ≠ 0
  · rw [if_pos h1]; exact h.same h.good.forget rfl rfl rfl
  · rw [if_neg h1]; exact h.settle hn hf
theorem Mi.Tr.hear {m : Mi} (h : m.Tr) (r : Rp) : m.To (m.hear r).1 := by
  unfold Mi.hear
  by_cases h0 : r.what = 0
  · rw [if_pos h0]; exact h.same h.good rfl rfl rfl
  rw [if_neg h0]
  by_cases h1 : r.what ≠ m.want.what
  · rw [if_pos h1]; exact h.same h.good rfl rfl rfl
  rw [if_neg h1]
  have h1' : r.what = m.want.what := Decidable.not_not.1 h1
  rcases m.want_what with ⟨e, e2⟩ | e | e
  · rw [if_pos (by omega)]; exact h.hearH e2
  · rw [if_neg (by omega), if_pos (by omega)]; exact h.hearE e
  · rw [if_neg (by omega), if_neg (by omega)]; exact h.hearP e
end Go.Proofs.YtmknpehjncpekaaDoor

/- wittop.follow: a mirror hears all of a log. -/
namespace Go.Proofs.YtmknpehjncpekaaDoor
open Go.RowKit Go.WideShapes
set_option linter.unusedVariables false
attribute [local go_sem ↓] Go.wp_at_zero Go.wp_at_succ

/-- a mirror that heard so many of a log of n -/
def fol (key : Int) (es : List Ent) (h : Hd) (n a : Nat) : Mi := if a < n then pg key es 0 hd00 h a else st key es n h
theorem fol_lt {key : Int} {es : List Ent} {h : Hd} {n a : Nat} (k : a < n) : fol key es h n a = pg key es 0 hd00 h a := if_pos k
theorem fol_ge {key : Int} {es : List Ent} {h : Hd} {n a : Nat} (k : ¬ a < n) : fol key es h n a = st key es n h := if_neg k
/-- a part of a slice of entries -/
theorem Rd.partE {w : World} {ad : Addr} {n c a b : Nat} {es : List Ent} (h : Rd w 2 (some ad) n c (es.flatMap Ent.cells)) (hab : a ≤ b) (hb : b ≤ n) : Rd w 2 (some (ad.add (a * 2))) (b - a) (c - a) (((es.take b).drop a).flatMap Ent.cells) := by
  have hx := h.lenE
  have hc := h.2.1
  refine ⟨?_, by omega, fun hn => ?_⟩
  · rw [flat_len Ent.cells 2 (fun _ => rfl), List.length_drop, List.length_take, Nat.min_eq_left (by omega)]
  · obtain ⟨ad', e, hl, hcell⟩ := h.2.2 (by omega)
    injection e with e
    subst e
    refine ⟨_, rfl, by rw [blk_add]; exact hl, fun j u hu => ?_⟩
    rw [add_add']
    refine hcell _ u ?_
    obtain ⟨i, r, y, hi, hr, rfl, hy, hru⟩ := flat_get Ent.cells 2 (fun _ => rfl) _ _ _ hu
    have h1 : es[a + i]? = some y := by
      rw [List.getElem?_drop, List.getElem?_take] at hy
      split at hy
      · exact hy
      · cases hy
    have := flat_nth (f := Ent.cells) (k := 2) (fun _ => rfl) es (a + i) y r h1 hr
    rw [hru] at this
    rw [← this]
    congr 1
    rw [Nat.add_mul]; omega

theorem field_want (a b c : Int) (W : World) : (Instr.field 61 (.agg #[.int .i64 a, .int .i64 b, .int .i64 c]) 0).run Tryd.prog W = .ok (.int .i64 a) W := by kernel_rfl
/-- a mirror of none hears a head -/
theorem fol_head (P : Nat → Prop) (mb : Nat) (key : Int) (es : List Ent) (h : Hd) (n : Nat) (w0 W : World) (hE : Ext w0 W) (hD : DebG w0) (hPow : PowG w0) (hPn : ∀ g, W.heap.size ≤ g → P g) (hM : MM 85 W P mb (st key es 0 hd00)) (hn1 : 1 ≤ n) (hv : verK h key = 0) (hs : h.size = (n : Int)) :
    Calls Tryd.prog 21 #[.pointer (some ⟨mb, 0, none⟩), .agg #[.int .i64 1, .int .i64 h.size, .int .i64 h.root, .int .i64 h.time, .int .i64 h.sign, .slice none 0 0, .slice none 0 0]] W fun e w' => e = .returned .nilIface ∧ MM 85 w' P mb (pg key es 0 hd00 h 0) ∧ Chg W w' P := by
  have h1 := Hear_any P mb (st key es 0 hd00) ⟨1, h, [], []⟩ none 0 0 none 0 0 W hM hPn (hD.ext hE) (hPow.ext hE) (Rd.nil _ _ _ _) (Nat.zero_le _) (Rd.nil _ _ _ _) (Nat.zero_le _)
  rw [st_hear (Nat.zero_le _) hv (by rw [hs]; omega)] at h1
  exact h1
/-- and a page -/
theorem fol_some (P : Nat → Prop) (mb : Nat) (key : Int) (es : List Ent) (h : Hd) (ad : Addr) (n c a b : Nat) (w0 W : World) (hE : Ext w0 W) (hD : DebG w0) (hPow : PowG w0) (hPn : ∀ g, W.heap.size ≤ g → P g) (hM : MM 85 W P mb (pg key es 0 hd00 h a)) (ha : a < n) (hb : b = min n (a + 16))
    (hr : Rd W 2 (some ad) n c (es.flatMap Ent.cells)) (hm : c ≤ maxLen) (hk : entsOk es) (hs : h.size = (n : Int)) (hro : h.root = ofL (es.map Ent.leaf)) :
    Calls Tryd.prog 21 #[.pointer (some ⟨mb, 0, none⟩), .agg #[.int .i64 2, .int .i64 0, .int .i64 0, .int .i64 0, .int .i64 0, .slice (some (ad.add (a * 2))) (b - a) (c - a), .slice none 0 0]] W fun e w' => e = .returned .nilIface ∧ MM 85 w' P mb (fol key es h n b) ∧ Chg W w' P := by
  have hx := hr.lenE
  have htk : es.take n = es := List.take_of_length_le (by omega)
  have hnc := hr.2.1
  have hrW := hr.partE (a := a) (b := b) (by omega) (by omega)
  have h1 := Hear_any P mb (pg key es 0 hd00 h a) ⟨2, hd00, (es.take b).drop a, []⟩ (some (ad.add (a * 2))) (b - a) (c - a) none 0 0 W hM hPn (hD.ext hE) (hPow.ext hE) hrW (by omega) (Rd.nil _ _ _ _) (Nat.zero_le _)
  rw [pg_hear (Nat.zero_le _) ha (by omega) hs (by rw [htk]; exact hk) (by rw [htk]; exact hro) (by omega)] at h1
  have e2 : (if 0 = 0 ∧ b = n then st key es n h else pg key es 0 hd00 h b) = fol key es h n b := by
    by_cases h2 : b < n
    · rw [fol_lt h2, if_neg (by omega)]
    · rw [fol_ge h2, if_pos ⟨rfl, by omega⟩]
  rw [e2] at h1
  exact h1
/-- a head that tells nothing new -/
theorem st_same {key : Int} {es : List Ent} {o : Nat} {hd h : Hd} {l : List Ent} {ps : List Int} (ho : o ≤ es.length) (hk : entsOk (es.take o)) (hv : verK h key = 0) (hs : h.size = (o : Int)) (hr : h.root = ofL ((es.take o).map Ent.leaf)) (ht : h.time = 0) (hds : hd.size = (o : Int)) (hdt : 0 ≤ hd.time) :
    (st key es o hd).hear ⟨1, h, l, ps⟩ = (st key es o hd, 0) := by
  rw [hear_head rfl]
  have hlo : (st key es o hd).own.length = o := by show (es.take o).length = o; rw [List.length_take]; omega
  unfold Mi.hearH
  rw [hlo, if_neg (show ¬ verK h (st key es o hd).key ≠ 0 from not_not_intro hv), if_neg, if_neg (by omega), if_neg]
  · unfold betB
    show ¬ (decide (hd.size < h.size) || (decide (h.size = hd.size) && decide (hd.time < h.time))) = true
    have h1 : ¬ hd.size < h.size := by omega
    have h2 : ¬ hd.time < h.time := by omega
    simp [h1, h2]
  · rintro (h1 | ⟨_, h1⟩)
    · omega
    · exact h1 (by show h.root = rootE (es.take o); rw [rootE_ok hk, hr])
end Go.Proofs.YtmknpehjncpekaaDoor
