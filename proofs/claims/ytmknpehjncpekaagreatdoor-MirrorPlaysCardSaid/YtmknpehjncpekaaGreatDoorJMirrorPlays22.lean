/- witlaw2.replies: whatever it tells can be read. -/
import Derived.Test.YtmknpehjncpekaaGreatDoorJMirrorPlays13
import Derived.Test.YtmknpehjncpekaaGreatDoorJMirrorPlays18
import Derived.Test.YtmknpehjncpekaaGreatDoorJMirrorPlays20
import Derived.Test.YtmknpehjncpekaaGreatDoorJMirrorPlays12
import Derived.Test.YtmknpehjncpekaaGreatDoorJMirrorPlays21
import Derived.Deep.DeepCutAuto
import Derived.Deep.CutRange
import Derived.Deep.CutBlock
import Derived.Test.YtmknpehjncpekaaGreatDoorJMirrorPlays15
import Derived.Test.YtmknpehjncpekaaGreatDoorJMirrorPlays5
import Derived.Test.YtmknpehjncpekaaGreatDoorJMirrorPlays17
namespace Go.Proofs.YtmknpehjncpekaaGreatDoor
open Go.RowKit Go.WideShapes
set_option linter.unusedVariables false
attribute [local go_sem ↓] Go.wp_at_zero Go.wp_at_succ

theorem info_entR : (Tryz.prog.info? 59).map (fun i => (i.zero, i.size, i.bytes)) = some (some (.agg #[.int .i64 0, .string ⟨#[]⟩]), 2, 24) := by kernel_rfl
theorem info_intR : (Tryz.prog.info? 3).map (fun i => (i.zero, i.size, i.bytes)) = some (some (.int .i64 0), 1, 8) := by kernel_rfl
/-- a reply that can be read, of what is new -/
def RepOk (b : Nat) (w : World) (v : Value) : Prop := ∃ (r : Rp) (A : Option Addr) (n c : Nat) (A' : Option Addr) (n' c' : Nat), v = replyV r.what r.head A n c A' n' c' ∧ Rd w 2 A n c (r.ents.flatMap Ent.cells) ∧ c ≤ maxLen ∧ Rd w 1 A' n' c' (r.proof.map (Value.int .i64)) ∧ c' ≤ maxLen ∧ (0 < n → ∀ ad, A = some ad → b ≤ ad.block) ∧ (0 < n' → ∀ ad, A' = some ad → b ≤ ad.block)
/-- a reply at a block, apart from what it tells of -/
def RepAt (b : Nat) (w : World) (g g' : Nat) : Prop := ∃ (what : Int) (hd : Hd) (A : Option Addr) (n c : Nat) (l : List Ent) (A' : Option Addr) (n' c' : Nat) (p : List Int),
  Bk w g 40 #[.int .i64 what, .int .i64 hd.size, .int .i64 hd.root, .int .i64 hd.time, .int .i64 hd.sign, .slice A n c, .slice A' n' c'] ∧ Rd w 2 A n c (l.flatMap Ent.cells) ∧ c ≤ maxLen ∧ (0 < n → ∀ ad, A = some ad → ad.block ≠ g ∧ ad.block ≠ g' ∧ b ≤ ad.block) ∧ Rd w 1 A' n' c' (p.map (Value.int .i64)) ∧ c' ≤ maxLen ∧ (0 < n' → ∀ ad, A' = some ad → ad.block ≠ g ∧ ad.block ≠ g' ∧ b ≤ ad.block)
theorem two_same {w : World} {A : Option Addr} {n c : Nat} {l : List Ent} (h : Rd w 2 A n c (l.flatMap Ent.cells)) : l.length = n := h.lenE

theorem wp_open_block {P : Program} {cd : Code} {b : Nat} {K : Act → World → Prop} {Q : Exit → Act → World → Prop} {a : Act} {w : World} (h : cd.wp P (Exit.then K (Exit.inBlock b (Exit.then K Q))) a w) : cd.wp P (Exit.inBlock b (Exit.then K Q)) a w :=
  Code.wp_mono (fun e a w h => by cases e <;> exact h) h
theorem RepAt.what {b : Nat} {w : World} {g g' : Nat} (h : RepAt b w g g') (z : Int) : RepAt b (w.setCell ⟨g, 0, none⟩ (.int .i64 z)) g g' := by
  obtain ⟨what, hd, A, n, c, l, A', n', c', p, h1, h2, h3, h4, h5, h6, h7⟩ := h
  have hg := gb_set w g 0 (.int .i64 z)
  exact ⟨z, hd, A, n, c, l, A', n', c', p, h1.set_ 0 _, h2.kept hg fun hn ad e => by
    have := (h4 hn ad e).1
    simp; exact fun k => this k.symm, h3, h4, h5.kept hg fun hn ad e => by
    have := (h7 hn ad e).1
    simp; exact fun k => this k.symm, h6, h7⟩
set_option maxRecDepth 100000 in
set_option maxHeartbeats 40000000 in
theorem Replies_any (A : Option Addr) (n c : Nat) (es : List Ent) (key : Int) (wh fr to_ : Nat) (how : Int) (w : World) (hr : Rd w 2 A n c (es.flatMap Ent.cells)) (hm : c ≤ maxLen) (hn : n ≤ 200) (hz : ∀ e ∈ es, e.data.size ≤ 140737488351232)
    (hwh : wh = 1 ∨ wh = 2 ∨ wh = 3) (hfr : fr ≤ 200) (hto : to_ ≤ 200) (hhow : 0 ≤ how) :
    Calls Tryz.prog 7 #[.slice A n c, .int .i64 key, .agg #[.int .i64 wh, .int .i64 fr, .int .i64 to_], .int .i64 how] w fun e w' => (∃ v, e = .returned v ∧ RepOk w.heap.size w' v) ∧ Ext w w' := by
  have hx := hr.lenE
  have hnc := hr.2.1
  have hcs : c ≤ 9223372036854775807 := by unfold maxLen at hm; omega
  have HX := Lib.hid hx
  have HR := Lib.hid hr
  have HZ := Lib.hid hz
  have HM := Lib.hid hm
  have HLH := Lib.hid fun now W (e : Ext w W) => LogHead_any A n c es key now W (hr.ext e) hm
  clear hx hr hz hm
  have B6 := ((Bk.at_ w 43 #[.int .i64 wh, .int .i64 fr, .int .i64 to_] w.heap.size rfl).alloc (.cells #[.int .i64 0, .int .i64 0, .int .i64 0, .int .i64 0, .int .i64 0, .slice none 0 0, .slice none 0 0] 40)).alloc (.cells #[.int .i64 wh, .int .i64 0, .int .i64 0, .int .i64 0, .int .i64 0, .slice none 0 0, .slice none 0 0] 40)
  have B8 := (Bk.at_ (w.alloc (.cells #[.int .i64 wh, .int .i64 fr, .int .i64 to_] 43)) 40 #[.int .i64 0, .int .i64 0, .int .i64 0, .int .i64 0, .int .i64 0, .slice none 0 0, .slice none 0 0] (w.heap.size + 1) (by simp)).alloc (.cells #[.int .i64 wh, .int .i64 0, .int .i64 0, .int .i64 0, .int .i64 0, .slice none 0 0, .slice none 0 0] 40)
  have B9 := Bk.at_ ((w.alloc (.cells #[.int .i64 wh, .int .i64 fr, .int .i64 to_] 43)).alloc (.cells #[.int .i64 0, .int .i64 0, .int .i64 0, .int .i64 0, .int .i64 0, .slice none 0 0, .slice none 0 0] 40)) 40 #[.int .i64 wh, .int .i64 0, .int .i64 0, .int .i64 0, .int .i64 0, .slice none 0 0, .slice none 0 0] (w.heap.size + 1 + 1) (by simp)
  have e0 : Ext w (((w.alloc (.cells #[.int .i64 wh, .int .i64 fr, .int .i64 to_] 43)).alloc (.cells #[.int .i64 0, .int .i64 0, .int .i64 0, .int .i64 0, .int .i64 0, .slice none 0 0, .slice none 0 0] 40)).alloc (.cells #[.int .i64 wh, .int .i64 0, .int .i64 0, .int .i64 0, .int .i64 0, .slice none 0 0, .slice none 0 0] 40)) := (((Ext.refl w).alloc _).alloc _).alloc _
  go_enter Tryz.func7, Tryz.ntmps7
  go_upto_if 19 with (fail)
  generalize (((w.alloc (.cells #[.int .i64 wh, .int .i64 fr, .int .i64 to_] 43)).alloc (.cells #[.int .i64 0, .int .i64 0, .int .i64 0, .int .i64 0, .int .i64 0, .slice none 0 0, .slice none 0 0] 40)).alloc (.cells #[.int .i64 wh, .int .i64 0, .int .i64 0, .int .i64 0, .int .i64 0, .slice none 0 0, .slice none 0 0] 40)) = W0 at *
  obtain ⟨g0, hg0⟩ : ∃ g, w.heap.size = g := ⟨_, rfl⟩
  rw [hg0] at B6 B8 B9
  try rw [hg0]
  have HG := Lib.hid hg0
  have HE0 := Lib.hid e0
  have HB6 := Lib.hid B6
  have HB8 := Lib.hid B8
  have HB9 := Lib.hid B9
  clear hg0 e0 B6 B8 B9
  obtain ⟨sb, hsb⟩ : ∃ sb : Bool, ((wh : Int) == 1) = sb := ⟨_, rfl⟩
  rw [hsb]
  have HSB := Lib.hid hsb
  clear hsb
  refine wp_open_block ?_
  go_cut [10, 11, 12, 13] (fun _ _ _ _ wd => Hid (RepAt w.heap.size wd (g0 + 1 + 1) (g0 + 1)) ∧ Hid (Bk wd (g0 + 1) 40 #[.int .i64 0, .int .i64 0, .int .i64 0, .int .i64 0, .int .i64 0, .slice none 0 0, .slice none 0 0]) ∧ Hid (Ext w wd))
  case first =>
    as_aux_lemma =>
    have f1 : W0.cell? ⟨g0, 1, none⟩ = some (.int .i64 fr) := HB6.out.cell 1
    have f2 : W0.cell? ⟨g0, 2, none⟩ = some (.int .i64 to_) := HB6.out.cell 2
    rcases hwh with h | h | h
    · obtain rfl : sb = true := by rw [← HSB.out]; simp [h]
      clear h
      obtain ⟨zh, hzh⟩ : ∃ x, shH es key (how % 5) = x := ⟨_, rfl⟩
      have HL := Lib.hid (HLH.out (how % 5) W0 HE0.out)
      rw [hzh] at HL
      obtain ⟨z0, z1, z2, z3⟩ := zh
      simp only [Hd.val] at HL
      clear hzh HLH f1 f2
      go_wp2_with fail
      refine HL.out.mono ?_
      rintro _ w1 ⟨rfl, hb1'⟩
      have B10 := Bk.at_ w1 34 #[.int .i64 z0, .int .i64 z1, .int .i64 z2, .int .i64 z3] w1.heap.size rfl
      have e1 : Ext W0 (w1.alloc (.cells #[.int .i64 z0, .int .i64 z1, .int .i64 z2, .int .i64 z3] 34)) := hb1'.alloc _
      have hsz := hb1'.size
      have hlt := HB9.out.lt
      go_upto_region 5 with (fail)
      generalize w1.alloc (.cells #[.int .i64 z0, .int .i64 z1, .int .i64 z2, .int .i64 z3] 34) = W2 at *
      obtain ⟨g10, hg10⟩ : ∃ g, w1.heap.size = g := ⟨_, rfl⟩
      rw [hg10] at B10 hsz
      try rw [hg10]
      have y0 := B10.cell 0
      have y1 := B10.cell 1
      have y2 := B10.cell 2
      have y3 := B10.cell 3
      have B9 := HB9.out.ext e1
      have B8 := HB8.out.ext e1
      have x1 := B9.cell 1
      have x2 := B9.cell 2
      have x3 := B9.cell 3
      have x4 := B9.cell 4
      have q1 := B9.frozen 1
      have q2 := B9.frozen 2
      have q3 := B9.frozen 3
      have q4 := B9.frozen 4
      have C9 : Bk ((((W2.setCell ⟨g0 + 1 + 1, 1, none⟩ (.int .i64 z0)).setCell ⟨g0 + 1 + 1, 2, none⟩ (.int .i64 z1)).setCell ⟨g0 + 1 + 1, 3, none⟩ (.int .i64 z2)).setCell ⟨g0 + 1 + 1, 4, none⟩ (.int .i64 z3)) (g0 + 1 + 1) 40 #[.int .i64 wh, .int .i64 z0, .int .i64 z1, .int .i64 z2, .int .i64 z3, .slice none 0 0, .slice none 0 0] := (((B9.set_ 1 _).set_ 2 _).set_ 3 _).set_ 4 _
      have C8 : Bk ((((W2.setCell ⟨g0 + 1 + 1, 1, none⟩ (.int .i64 z0)).setCell ⟨g0 + 1 + 1, 2, none⟩ (.int .i64 z1)).setCell ⟨g0 + 1 + 1, 3, none⟩ (.int .i64 z2)).setCell ⟨g0 + 1 + 1, 4, none⟩ (.int .i64 z3)) (g0 + 1) 40 #[.int .i64 0, .int .i64 0, .int .i64 0, .int .i64 0, .int .i64 0, .slice none 0 0, .slice none 0 0] := (((B8.far (by simp) _).far (by simp) _).far (by simp) _).far (by simp) _
      have C10 : Bk ((((W2.setCell ⟨g0 + 1 + 1, 1, none⟩ (.int .i64 z0)).setCell ⟨g0 + 1 + 1, 2, none⟩ (.int .i64 z1)).setCell ⟨g0 + 1 + 1, 3, none⟩ (.int .i64 z2)).setCell ⟨g0 + 1 + 1, 4, none⟩ (.int .i64 z3)) g10 34 #[.int .i64 z0, .int .i64 z1, .int .i64 z2, .int .i64 z3] := (((B10.far (by simp; omega) _).far (by simp; omega) _).far (by simp; omega) _).far (by simp; omega) _
      have E9 : Ext w ((((W2.setCell ⟨g0 + 1 + 1, 1, none⟩ (.int .i64 z0)).setCell ⟨g0 + 1 + 1, 2, none⟩ (.int .i64 z1)).setCell ⟨g0 + 1 + 1, 3, none⟩ (.int .i64 z2)).setCell ⟨g0 + 1 + 1, 4, none⟩ (.int .i64 z3)) := ((((HE0.out.trans e1).setCell (by have := HG.out; show _ ≤ g0 + 1 + 1; omega) _).setCell (by have := HG.out; show _ ≤ g0 + 1 + 1; omega) _).setCell (by have := HG.out; show _ ≤ g0 + 1 + 1; omega) _).setCell (by have := HG.out; show _ ≤ g0 + 1 + 1; omega) _
      have HC8 := Lib.hid C8
      have HC9 := Lib.hid C9
      have HC10 := Lib.hid C10
      have HE9 := Lib.hid E9
      clear hb1' e1 B8 B9 B10 C8 C9 C10 E9 hg10 HB6 HB8 HB9
      go_upto_region 6 with (fail)
      generalize ((((W2.setCell ⟨g0 + 1 + 1, 1, none⟩ (.int .i64 z0)).setCell ⟨g0 + 1 + 1, 2, none⟩ (.int .i64 z1)).setCell ⟨g0 + 1 + 1, 3, none⟩ (.int .i64 z2)).setCell ⟨g0 + 1 + 1, 4, none⟩ (.int .i64 z3)) = W3 at *
      clear y0 y1 y2 y3 x1 x2 x3 x4 q1 q2 q3 q4
      by_cases h7 : how % 7 = 3
      · have hb7 : (how % 7 == 3) = true := by simp [h7]
        have y1 := HC10.out.cell 1
        have x2 := HC9.out.cell 2
        have q2 := HC9.out.frozen 2
        go_wp2_with fail
        go_meet
        refine ⟨Lib.hid ⟨wh, ⟨z0, _, z2, z3⟩, none, 0, 0, [], none, 0, 0, [], HC9.out.set_ 2 _, Rd.nil _ _ _ _, Nat.zero_le _, fun h => absurd h (by omega), Rd.nil _ _ _ _, Nat.zero_le _, fun h => absurd h (by omega)⟩, Lib.hid (HC8.out.far (by simp) _), Lib.hid (HE9.out.setCell (by have := HG.out; show _ ≤ g0 + 1 + 1; omega) _)⟩
      · have hb7 : (how % 7 == 3) = false := by simp [h7]
        go_wp2_with fail
        go_meet
        exact ⟨Lib.hid ⟨wh, ⟨z0, z1, z2, z3⟩, none, 0, 0, [], none, 0, 0, [], HC9.out, Rd.nil _ _ _ _, Nat.zero_le _, fun h => absurd h (by omega), Rd.nil _ _ _ _, Nat.zero_le _, fun h => absurd h (by omega)⟩, HC8, HE9⟩
    · obtain rfl : sb = false := by rw [← HSB.out]; simp [h]
      have hb2 : ((wh : Int) == 2) = true := by simp [h]
      clear h HLH
      obtain ⟨i0, hi0, hz0, hz1, hz2⟩ := info_parts info_entR
      have hfr0 : (fr : Int) ≥ 0 := by omega
      go_wp2_with fail
      go_loopw [12] (fun x wr => ∃ (i k : Nat) (v : Value) (L : List Ent), x = .int .i64 i ∧ Hid (i = fr + k ∧ L.length = k) ∧ k ≤ 200 ∧ i ≤ 400 ∧ Hid (Ext w wr) ∧ Hid (Bk wr (g0 + 1) 40 #[.int .i64 0, .int .i64 0, .int .i64 0, .int .i64 0, .int .i64 0, .slice none 0 0, .slice none 0 0]) ∧ Hid (Bk wr g0 43 #[.int .i64 wh, .int .i64 fr, .int .i64 to_]) ∧ Hid (Bk wr (g0 + 1 + 1) 40 #[.int .i64 wh, .int .i64 0, .int .i64 0, .int .i64 0, .int .i64 0, v, .slice none 0 0]) ∧ Hid (wr.ownsRow w.heap.size 59 2 v k (L.flatMap Ent.cells)) ∧ ((k = 0 ∧ v = .slice none 0 0) ∨ (1 ≤ k ∧ i ≤ n ∧ ∃ g cap, v = .slice (some ⟨g, 0, none⟩) k cap))) (fun x _ => 401 - (intOf x).toNat)
      case atStart => exact ⟨fr, 0, .slice none 0 0, [], rfl, Lib.hid ⟨rfl, rfl⟩, by omega, by omega, HE0, HB8, HB6, HB9, own_nil _ _ _ _, .inl ⟨rfl, rfl⟩⟩
      case round =>
        obtain ⟨i, k, v, L, rfl, HIK, hk200, hi4, HEr, HBr8, HBr6, HBr9, HOW, hform⟩ := hrel
        have y1 := HBr6.out.cell 1
        have y2 := HBr6.out.cell 2
        by_cases hc : i < to_ ∧ i < n
        · obtain ⟨hc1, hc2⟩ := hc
          have hc1' : (i : Int) < (to_ : Int) := by omega
          have hc2' : (i : Int) < (n : Int) := by omega
          have hge := List.getElem?_eq_getElem (l := es) (i := i) (by rw [HX.out]; exact hc2)
          obtain ⟨ad, rfl, hb, c0, c1⟩ := (HR.out.ext HEr.out).getE hge
          generalize es[i]'(by rw [HX.out]; exact hc2) = e at *
          obtain ⟨et, ed⟩ := e
          have C0 := Lib.hid c0
          have C1 := Lib.hid c1
          have hb' : (ad.add (i * 2)).block < wr.heap.size := by rw [blk_add]; exact hb
          have y5 := HBr9.out.cell 5
          have HNE := Lib.hid (own_type HOW.out HBr9.out (by decide))
          have hse := HEr.out.size
          have y5a : (wr.alloc (.cells #[.int .i64 et, .string ed] 59)).cell? ⟨g0 + 1 + 1, 5, none⟩ = some v := (HBr9.out.alloc _).cell 5
          have y5b : (wr.drew.alloc (.cells #[.int .i64 et, .string ed] 59)).cell? ⟨g0 + 1 + 1, 5, none⟩ = some v := (HBr9.out.drew.alloc _).cell 5
          clear hge
          go_wp2_with fail
          go_region_law (refine step_apps (by rfl) _ _ _ (by rfl) w.heap.size 59 i0 _ 2 24 Tryz.underlying22 hi0 hz0 hz1 hz2 rfl (by omega) v k _ (by rfl) (own_ext HOW.out (by (repeat (with_reducible first | exact Ext.refl _ | assumption | refine Ext.drew ?_ | refine Ext.drewN ?_ _ | refine Ext.alloc ?_ _ | refine Ext.trans ?_ (by with_reducible assumption))))) ⟨wr.heap.size, 0, none⟩ 1 1 [.int .i64 et, .string ed] (by rfl) (by rfl) (news_new _ _ _ _ rfl) (ones_ents [⟨et, ed⟩]) (by omega) (by omega) (by omega) (by simp; omega) ?_; intro g cap w5 own5 hg5 hor5 hl5; have B5 := (HBr9.out.ext (by (repeat (with_reducible first | exact Ext.refl _ | assumption | refine Ext.drew ?_ | refine Ext.drewN ?_ _ | refine Ext.alloc ?_ _ | refine Ext.trans ?_ (by with_reducible assumption))))).kept hg5 HNE.out; have y5 := B5.cell 5; have q5 := B5.frozen 5)
          all_goals
            have hEr := HEr.out
            have E5 : Ext w w5 := own_grown (own_ext HOW.out (by (repeat (with_reducible first | exact Ext.refl _ | assumption | refine Ext.drew ?_ | refine Ext.drewN ?_ _ | refine Ext.alloc ?_ _ | refine Ext.trans ?_ (by with_reducible assumption))))) hg5 w (Nat.le_refl _) (by (repeat (with_reducible first | exact Ext.refl _ | assumption | refine Ext.drew ?_ | refine Ext.drewN ?_ _ | refine Ext.alloc ?_ _ | refine Ext.trans ?_ (by with_reducible assumption))))
            have C8 := (HBr8.out.ext (by (repeat (with_reducible first | exact Ext.refl _ | assumption | refine Ext.drew ?_ | refine Ext.drewN ?_ _ | refine Ext.alloc ?_ _ | refine Ext.trans ?_ (by with_reducible assumption))))).kept hg5 (own_type HOW.out HBr8.out (by decide))
            have C6 := (HBr6.out.ext (by (repeat (with_reducible first | exact Ext.refl _ | assumption | refine Ext.drew ?_ | refine Ext.drewN ?_ _ | refine Ext.alloc ?_ _ | refine Ext.trans ?_ (by with_reducible assumption))))).kept hg5 (own_type HOW.out HBr6.out (by decide))
            go_wp2_with fail
            go_roundw
            case rel => exact ⟨i + 1, k + 1, .slice (some ⟨g, 0, none⟩) (k + 1) cap, L ++ [⟨et, ed⟩], by go_num, Lib.hid ⟨by have := HIK.out.1; omega, by rw [List.length_append, HIK.out.2]; rfl⟩, by have := HIK.out.1; omega, by omega,
              Lib.hid (E5.setCell (by have := HG.out; show _ ≤ g0 + 1 + 1; omega) _), Lib.hid (C8.far (by show _ ≠ g0 + 1 + 1; omega) _), Lib.hid (C6.far (by show _ ≠ g0 + 1 + 1; omega) _), Lib.hid (B5.set_ 5 _), Lib.hid (by
                have h2 := own5.kept (gb_set w5 (g0 + 1 + 1) 5 (.slice (some ⟨g, 0, none⟩) (k + 1) cap)) (.inr (own_type own5 B5 (by decide)))
                show World.ownsRow _ _ _ _ _ _ _
                rw [List.flatMap_append]; exact h2), .inr ⟨by omega, by omega, g, cap, rfl⟩⟩
            case measure => simp [intOf]; omega
        · have hc' : (¬ (i : Int) < (to_ : Int)) ∨ ((i : Int) < (to_ : Int) ∧ ¬ (i : Int) < (n : Int)) := by omega
          have HE9 := HEr
          have HE9' : Hid (∀ j x, Ext w (wr.setCell ⟨g0 + 1 + 1, j, none⟩ x)) := Lib.hid fun j x => HEr.out.setCell (by have := HG.out; show _ ≤ g0 + 1 + 1; omega) _
          clear hc
          rcases hform with ⟨rfl, rfl⟩ | ⟨hk1, hin, g, cap, rfl⟩
          · have y5 := HBr9.out.cell 5
            have HFIN : Hid (RepAt w.heap.size wr (g0 + 1 + 1) (g0 + 1)) := Lib.hid ⟨wh, ⟨0, 0, 0, 0⟩, none, 0, 0, [], none, 0, 0, [], HBr9.out, Rd.nil _ _ _ _, Nat.zero_le _, fun h => absurd h (by omega), Rd.nil _ _ _ _, Nat.zero_le _, fun h => absurd h (by omega)⟩
            have h7 : how % 7 = 3 ∨ how % 7 = 4 ∨ (how % 7 ≠ 3 ∧ how % 7 ≠ 4) := by omega
            rcases hc' with h | ⟨h, h'⟩ <;> rcases h7 with h8 | h8 | ⟨h8, h9⟩
            all_goals
              go_wp2_with fail
              go_meet
              exact ⟨HFIN, HBr8, HEr⟩
          · have hne : g ≠ g0 + 1 + 1 := fun e => own_type HOW.out HBr9.out (by decide) (by rw [e]; rfl)
            obtain ⟨A', c', hv', hcm, R', -⟩ := own_rd HOW.out
            obtain ⟨rfl, rfl⟩ : (some ⟨g, 0, none⟩ : Option Addr) = A' ∧ cap = c' := by injection hv' with a _ b; exact ⟨a, b⟩
            have HRG := Lib.hid R'
            have hkc := R'.2.1
            have hcaps : cap ≤ 9223372036854775807 := by unfold maxLen at hcm; omega
            have hne8 : g ≠ g0 + 1 := fun e => own_type HOW.out HBr8.out (by decide) (by rw [e]; rfl)
            have HNE := Lib.hid hne
            have HNP : Hid (g ≠ g0 + 1 + 1 ∧ g ≠ g0 + 1 ∧ w.heap.size ≤ g) := Lib.hid ⟨hne, hne8, own_block HOW.out g rfl⟩
            have HFR := Lib.hid (own_frozenG HOW.out 0)
            have hge := w.heap.size
            have hog : w.heap.size ≤ g := own_block HOW.out g rfl
            obtain ⟨e0, L', hL⟩ : ∃ e0 L', L = e0 :: L' := by
              cases L with
              | nil => have := HIK.out.2; simp at this; omega
              | cons e0 L' => exact ⟨e0, L', rfl⟩
            subst hL
            obtain ⟨t0, d0⟩ := e0
            have hkI : (0 : Int) < (k : Int) := by omega
            have y5 := HBr9.out.cell 5
            clear hv' R'
            have h7 : how % 7 = 3 ∨ how % 7 = 4 ∨ (how % 7 ≠ 3 ∧ how % 7 ≠ 4) := by omega
            rcases h7 with h8 | h8 | ⟨h8, h9⟩
            · have z0 : wr.cell? ⟨g, 0, none⟩ = some (.int .i64 t0) := by
                obtain ⟨ad, e, _, hh, _⟩ := HRG.out.getE (j := 0) (e := ⟨t0, d0⟩) rfl
                injection e with e
                subst e
                rwa [addG] at hh
              have z1 := HFR.out
              have B9' := HBr9.out.far (p := ⟨g, 0, none⟩) (Ne.symm HNE.out) (.int .i64 5)
              have y5' := B9'.cell 5
              have HFIN : Hid (RepAt w.heap.size (wr.setCell ⟨g, 0, none⟩ (.int .i64 5)) (g0 + 1 + 1) (g0 + 1)) := Lib.hid ⟨wh, ⟨0, 0, 0, 0⟩, some ⟨g, 0, none⟩, k, cap, ⟨5, d0⟩ :: L', none, 0, 0, [], B9', HRG.out.setG (by omega) _, hcm, fun _ ad e => by injection e with e; subst e; exact HNP.out, Rd.nil _ _ _ _, Nat.zero_le _, fun h => absurd h (by omega)⟩
              have HF8 : Hid (Bk (wr.setCell ⟨g, 0, none⟩ (.int .i64 5)) (g0 + 1) 40 #[.int .i64 0, .int .i64 0, .int .i64 0, .int .i64 0, .int .i64 0, .slice none 0 0, .slice none 0 0]) := Lib.hid (HBr8.out.far (fun e => own_type HOW.out HBr8.out (by decide) (by rw [e]; rfl)) _)
              have HFE : Hid (Ext w (wr.setCell ⟨g, 0, none⟩ (.int .i64 5))) := Lib.hid (HEr.out.setCell hog _)
              rcases hc' with h | ⟨h, h'⟩
              all_goals
                go_wp2_with fail
                go_meet
                exact ⟨HFIN, HF8, HFE⟩
            · by_cases hk2 : 1 < k
              · have hk2' : (1 : Int) < (k : Int) := by omega
                have q5 := HBr9.out.frozen 5
                have B9' := HBr9.out.set_ 5 (.slice (some ⟨g, 0, none⟩) 1 cap)
                have HFIN : Hid (RepAt w.heap.size (wr.setCell ⟨g0 + 1 + 1, 5, none⟩ (.slice (some ⟨g, 0, none⟩) 1 cap)) (g0 + 1 + 1) (g0 + 1)) := Lib.hid ⟨wh, ⟨0, 0, 0, 0⟩, some ⟨g, 0, none⟩, 1, cap, [⟨t0, d0⟩], none, 0, 0, [], B9', (RdE_take HRG.out (k := 1) (by omega)).kept (gb_set wr (g0 + 1 + 1) 5 _) (fun _ ad e => by injection e with e; subst e; simp; exact fun k => HNE.out k.symm), hcm, fun _ ad e => by injection e with e; subst e; exact HNP.out, Rd.nil _ _ _ _, Nat.zero_le _, fun h => absurd h (by omega)⟩
                have HF8 := Lib.hid (HBr8.out.far (p := ⟨g0 + 1 + 1, 5, none⟩) (by simp) (.slice (some ⟨g, 0, none⟩) 1 cap))
                have HFE := Lib.hid (HE9'.out 5 (.slice (some ⟨g, 0, none⟩) 1 cap))
                rcases hc' with h | ⟨h, h'⟩
                all_goals
                  go_wp2_with fail
                  go_meet
                  exact ⟨HFIN, HF8, HFE⟩
              · have hk2' : ¬ (1 : Int) < (k : Int) := by omega
                have HFIN : Hid (RepAt w.heap.size wr (g0 + 1 + 1) (g0 + 1)) := Lib.hid ⟨wh, ⟨0, 0, 0, 0⟩, some ⟨g, 0, none⟩, k, cap, ⟨t0, d0⟩ :: L', none, 0, 0, [], HBr9.out, HRG.out, hcm, fun _ ad e => by injection e with e; subst e; exact HNP.out, Rd.nil _ _ _ _, Nat.zero_le _, fun h => absurd h (by omega)⟩
                rcases hc' with h | ⟨h, h'⟩
                all_goals
                  go_wp2_with fail
                  go_meet
                  exact ⟨HFIN, HBr8, HEr⟩
            · have HFIN : Hid (RepAt w.heap.size wr (g0 + 1 + 1) (g0 + 1)) := Lib.hid ⟨wh, ⟨0, 0, 0, 0⟩, some ⟨g, 0, none⟩, k, cap, ⟨t0, d0⟩ :: L', none, 0, 0, [], HBr9.out, HRG.out, hcm, fun _ ad e => by injection e with e; subst e; exact HNP.out, Rd.nil _ _ _ _, Nat.zero_le _, fun h => absurd h (by omega)⟩
              rcases hc' with h | ⟨h, h'⟩
              all_goals
                go_wp2_with fail
                go_meet
                exact ⟨HFIN, HBr8, HEr⟩
    · obtain rfl : sb = false := by rw [← HSB.out]; simp [h]
      have hb2 : ((wh : Int) == 2) = false := by simp [h]
      have hb3 : ((wh : Int) == 3) = true := by simp [h]
      clear h HLH
      obtain ⟨i0, hi0, hz0, hz1, hz2⟩ := info_parts info_intR
      have HFIN0 : Hid (RepAt w.heap.size W0 (g0 + 1 + 1) (g0 + 1)) := Lib.hid ⟨wh, ⟨0, 0, 0, 0⟩, none, 0, 0, [], none, 0, 0, [], HB9.out, Rd.nil _ _ _ _, Nat.zero_le _, fun h => absurd h (by omega), Rd.nil _ _ _ _, Nat.zero_le _, fun h => absurd h (by omega)⟩
      have y6 := HB9.out.cell 6
      by_cases hc : 1 ≤ fr ∧ fr ≤ to_ ∧ to_ ≤ n
      case neg =>
        have hc' : (¬ (1 : Int) ≤ (fr : Int)) ∨ ((1 : Int) ≤ (fr : Int) ∧ ¬ (fr : Int) ≤ (to_ : Int)) ∨ ((1 : Int) ≤ (fr : Int) ∧ (fr : Int) ≤ (to_ : Int) ∧ ¬ (to_ : Int) ≤ (n : Int)) := by omega
        clear hc
        have h7 : how % 7 = 3 ∨ how % 7 ≠ 3 := by omega
        rcases hc' with h | ⟨h, h'⟩ | ⟨h, h', h''⟩ <;> rcases h7 with h8 | h8
        all_goals
          go_wp2_with fail
          go_meet
          exact ⟨HFIN0, HB8, HE0⟩
      obtain ⟨hc1, hc2, hc3⟩ := hc
      have hc1' : (1 : Int) ≤ (fr : Int) := by omega
      have hc2' : (fr : Int) ≤ (to_ : Int) := by omega
      have hc3' : (to_ : Int) ≤ (n : Int) := by omega
      have hlt : (es.take to_).length = to_ := by rw [List.length_take, HX.out]; omega
      have htc : to_ ≤ c := by omega
      have HLF : Hid (∀ W, Ext w W → Calls Tryz.prog 22 #[.slice A to_ c] W fun e w' => (∃ A2 c2 L, e = .returned (.slice A2 to_ c2) ∧ c2 ≤ maxLen ∧ Rd w' 1 A2 to_ c2 (L.map (Value.int .i64)) ∧ L.length = to_ ∧ allV L = true) ∧ Ext W w') := Lib.hid fun W e => by
        refine (REntryLeafs_tot A to_ c (es.take to_) W (RdE_take (HR.out.ext e) hc3) HM.out (by omega) (fun e he => by have := HZ.out e (List.mem_of_mem_take he); omega)).mono fun e' w' hh => ?_
        obtain ⟨⟨v, L, q1, q2, q3, q4⟩, q5⟩ := hh
        obtain ⟨A2, c2, rfl, q6, q7⟩ := q2.rd
        rw [q3] at q1 q7
        exact ⟨⟨A2, c2, L, q1, q6, q7, q3, q4⟩, q5⟩
      have HGR : Hid (∀ W A2 c2 L, Rd W 1 A2 to_ c2 (L.map (Value.int .i64)) → c2 ≤ maxLen → L.length = to_ → allV L = true → Calls Tryz.prog 21 #[.slice A2 to_ c2, .int .i64 fr, .bool true] W fun e w' => (∃ v, e = .returned v ∧ OwnI W w' v (growL L fr true)) ∧ Ext W w') := Lib.hid fun W A2 c2 L h1 h2 h3 h4 => RGrow_any to_ A2 to_ c2 L fr true W (Nat.le_refl _) h1 h2 hc1 hc2 (by omega) h4
      go_upto_region 19 with (fail)
      go_cut [13] (fun v wd => ∃ p : List Int, Hid (wd.ownsRow w.heap.size 3 1 v p.length (p.map (Value.int .i64)) ∧ p.length ≤ 200) ∧ Hid (Ext W0 wd))
      case first =>
        as_aux_lemma =>
        have hw0 := HE0.out
        go_region_with (first
          | (go_at_call 22; refine (HLF.out _ ?_).mono ?_; (focus ((repeat (with_reducible first | exact Ext.refl _ | assumption | refine Ext.drew ?_ | refine Ext.drewN ?_ _ | refine Ext.alloc ?_ _ | refine Ext.trans ?_ (by with_reducible assumption))); done)); rintro _ w4 ⟨⟨A4, c4, L4, rfl, hc4, R4, hl4, hv4⟩, hb4⟩; have HC4 := Lib.hid hc4; have HR4 := Lib.hid R4; have HL4 := Lib.hid hl4; have HV4 := Lib.hid hv4; clear hc4 R4 hl4 hv4; have e4 : Ext W0 w4 := Ext.trans (by (repeat (with_reducible first | exact Ext.refl _ | assumption | refine Ext.drew ?_ | refine Ext.drewN ?_ _ | refine Ext.alloc ?_ _ | refine Ext.trans ?_ (by with_reducible assumption)))) hb4; have f14 : w4.cell? ⟨g0, 1, none⟩ = some (.int .i64 fr) := (HB6.out.ext e4).cell 1)
          | (go_at_call 21; refine (HGR.out _ _ _ _ (HR4.out.ext ?_) HC4.out HL4.out HV4.out).mono ?_; (focus ((repeat (with_reducible first | exact Ext.refl _ | assumption | refine Ext.drew ?_ | refine Ext.drewN ?_ _ | refine Ext.alloc ?_ _ | refine Ext.trans ?_ (by with_reducible assumption))); done)); rintro _ w5 ⟨⟨v5, rfl, own5⟩, hb5⟩)
          | fail)
        all_goals
          have e5 : Ext W0 w5 := Ext.trans (by (repeat (with_reducible first | exact Ext.refl _ | assumption | refine Ext.drew ?_ | refine Ext.drewN ?_ _ | refine Ext.alloc ?_ _ | refine Ext.trans ?_ (by with_reducible assumption)))) hb5
          go_wp2_with fail
          go_meet
          refine ⟨growL L4 fr true, Lib.hid ⟨own_lower own5 ?_, ?_⟩, Lib.hid e5⟩
          · exact Nat.le_trans hw0.size e4.size
          · have h1 := HL4.out
            rw [growL_len to_ L4 fr true (by omega) hc1 (by omega) (by omega), h1]
            have := gsteps_le to_ fr to_ true (Nat.le_refl _) (by omega) (by omega)
            omega
      case rest =>
      as_aux_lemma =>
      obtain ⟨p, HP, HE1⟩ := hcut
      obtain ⟨w1, rfl⟩ : ∃ W, W = wc := ⟨_, rfl⟩
      obtain ⟨A1, c1, rfl, hcm1, R1, hn1⟩ := own_rd HP.out.1
      have hA1 : A1 = none → p.length = 0 ∧ c1 = 0 := fun e => by
        have h0 : p.length = 0 := by
          rcases Nat.eq_zero_or_pos p.length with h | h
          · exact h
          · obtain ⟨ad, h1, _⟩ := R1.2.2 h; rw [e] at h1; cases h1
        rcases hn1 h0 with h1 | h1
        · exact ⟨h0, h1.2⟩
        · exact absurd e h1
      have HA1 := Lib.hid hA1
      have HR1 := Lib.hid R1
      obtain ⟨l, hl⟩ : ∃ l, p.length = l := ⟨_, rfl⟩
      have HPL := Lib.hid hl
      have hl200 : l ≤ 200 := by have := HP.out.2; omega
      rw [hl] at HR1 HA1
      rw [hl]
      have hl1c := HR1.out.2.1
      have hc1s : c1 ≤ 9223372036854775807 := by unfold maxLen at hcm1; omega
      have B9 := HB9.out.ext HE1.out
      have HC9 := Lib.hid B9
      have HC8 := Lib.hid (HB8.out.ext HE1.out)
      have HE2 := Lib.hid (HE0.out.trans HE1.out)
      have x6 := B9.cell 6
      have q6 := B9.frozen 6
      have hsz := HE2.out.size
      clear y6 hA1 R1 hn1 hl B9
      have HN0 := Lib.hid (own_nil w1 w.heap.size 3 1)
      have HONES : Hid (∀ u ∈ p.map (Value.int .i64), u.oneCell' = true) := Lib.hid fun u hu => by
        obtain ⟨x, _, rfl⟩ := List.mem_map.1 hu; rfl
      go_upto_region 21 with (at_builtin; refine wpl_appR (by rfl) _ _ _ (by rfl) w.heap.size 3 i0 _ 1 8 Tryz.underlying38 hi0 hz0 hz1 hz2 rfl (by omega) (.slice none 0 0) 0 [] (by rfl) HN0.out A1 l c1 _ (by rfl) HR1.out HA1.out HONES.out (by omega) (by omega) hsz ?_; intro v2 w2 own2 hg2 hn2; rw [Nat.zero_add, List.nil_append] at own2; obtain ⟨A2, c2, rfl, -, -, -⟩ := own_rd own2; have D9 := HC9.out.ext (gb_none hg2); have x62 := D9.cell 6; have q62 := D9.frozen 6)
      obtain ⟨v2, hv2⟩ : ∃ v, (Value.slice A2 l c2) = v := ⟨_, rfl⟩
      rw [hv2] at own2
      try rw [hv2]
      clear hv2
      have E2 : Ext w1 w2 := gb_none hg2
      have K9 := D9.set_ 6 v2
      have K8 := (HC8.out.ext E2).far (p := ⟨g0 + 1 + 1, 6, none⟩) (by show _ ≠ g0 + 1 + 1; omega) v2
      have KE := (HE2.out.trans E2).setCell (p := ⟨g0 + 1 + 1, 6, none⟩) (by have := HG.out; show _ ≤ g0 + 1 + 1; omega) v2
      have KO := own2.kept (gb_set w2 (g0 + 1 + 1) 6 v2) (.inr (own_type own2 D9 (by decide)))
      have HK9 := Lib.hid K9
      have HK8 := Lib.hid K8
      have HKE := Lib.hid KE
      have HKO := Lib.hid KO
      clear K9 K8 KE KO own2 hg2 hn2 D9 x62 q62 x6 q6 HN0
      generalize w2.setCell ⟨g0 + 1 + 1, 6, none⟩ v2 = W3 at *
      obtain ⟨A3, c3, rfl, hcm3, R3, -⟩ := own_rd HKO.out
      have HR3 := Lib.hid R3
      have hl3c := R3.2.1
      have hc3s : c3 ≤ 9223372036854775807 := by unfold maxLen at hcm3; omega
      have hne3 : ∀ ad, A3 = some ad → ad.block ≠ g0 + 1 + 1 := fun ad e k => own_type HKO.out HK9.out (by decide) (by rw [e]; show some ad.block = _; rw [k])
      have hne8 : ∀ ad, A3 = some ad → ad.block ≠ g0 + 1 := fun ad e k => own_type HKO.out HK8.out (by decide) (by rw [e]; show some ad.block = _; rw [k])
      have HNE3 : Hid (∀ ad, A3 = some ad → ad.block ≠ g0 + 1 + 1 ∧ ad.block ≠ g0 + 1 ∧ w.heap.size ≤ ad.block) := Lib.hid fun ad e => ⟨hne3 ad e, hne8 ad e, own_block HKO.out ad.block (by rw [e]; rfl)⟩
      have HF3 : Hid (RepAt w.heap.size W3 (g0 + 1 + 1) (g0 + 1)) := Lib.hid ⟨wh, ⟨0, 0, 0, 0⟩, none, 0, 0, [], A3, l, c3, p, HK9.out, Rd.nil _ _ _ _, Nat.zero_le _, fun h => absurd h (by omega), R3, hcm3, fun _ => HNE3.out⟩
      have y6 := HK9.out.cell 6
      clear R3 hne3 hne8
      by_cases h8 : how % 7 = 3
      · by_cases hl0 : 0 < l
        · have hl0' : (0 : Int) < (l : Int) := by omega
          obtain ⟨g3, hA3⟩ : ∃ g3, A3 = some ⟨g3, 0, none⟩ := by
            rcases own_form HKO.out with h | h
            · obtain ⟨ad3, h2, _⟩ := HR3.out.2.2 hl0
              rw [h] at h2; cases h2
            · exact h
          subst hA3
          obtain ⟨z, p', hzp⟩ : ∃ z p', p = z :: p' := by
            cases p with
            | nil => have := HPL.out; simp at this; omega
            | cons z p' => exact ⟨z, p', rfl⟩
          subst hzp
          have u0 : W3.cell? ⟨g3, 0, none⟩ = some (.int .i64 z) := by
            obtain ⟨ad, e, _, hh⟩ := HR3.out.2.2 hl0
            injection e with e
            subst e
            have := hh 0 _ rfl
            rwa [addG] at this
          have f0 := own_frozenG HKO.out 0
          have hog : w.heap.size ≤ g3 := own_block HKO.out g3 rfl
          have HN9 : Hid (g3 ≠ g0 + 1 + 1 ∧ g3 ≠ g0 + 1 ∧ w.heap.size ≤ g3) := Lib.hid (HNE3.out _ rfl)
          have HF4 : Hid (RepAt w.heap.size (W3.setCell ⟨g3, 0, none⟩ (.int .i64 1)) (g0 + 1 + 1) (g0 + 1)) := Lib.hid ⟨wh, ⟨0, 0, 0, 0⟩, none, 0, 0, [], some ⟨g3, 0, none⟩, l, c3, 1 :: p', HK9.out.far (p := ⟨g3, 0, none⟩) (Ne.symm HN9.out.1) _, Rd.nil _ _ _ _, Nat.zero_le _, fun h => absurd h (by omega), HR3.out.setG (by omega) _, hcm3, fun _ ad e => by injection e with e; subst e; exact HN9.out⟩
          have HF8 := Lib.hid (HK8.out.far (p := ⟨g3, 0, none⟩) (Ne.symm HN9.out.2.1) (.int .i64 1))
          have HFE := Lib.hid (HKE.out.setCell (p := ⟨g3, 0, none⟩) hog (.int .i64 1))
          clear HR3 HF3
          go_wp2_with fail
          go_meet
          exact ⟨HF4, HF8, HFE⟩
        · have hl0' : ¬ (0 : Int) < (l : Int) := by omega
          go_wp2_with fail
          go_meet
          exact ⟨HF3, HK8, HKE⟩
      · go_wp2_with fail
        go_meet
        exact ⟨HF3, HK8, HKE⟩
  case rest =>
  as_aux_lemma =>
  obtain ⟨HR9, HB8, HE1⟩ := hcut
  obtain ⟨w1, rfl⟩ : ∃ W, W = wc := ⟨_, rfl⟩
  have h11 : how % 11 = 5 ∨ (how % 11 ≠ 5 ∧ how % 11 = 6) ∨ (how % 11 ≠ 5 ∧ how % 11 ≠ 6) := by omega
  rcases h11 with h8 | ⟨h8, h9⟩ | ⟨h8, h9⟩
  · have HRX := Lib.hid (HR9.out.what 0)
    have H8X := Lib.hid (HB8.out.far (p := ⟨g0 + 1 + 1, 0, none⟩) (by show _ ≠ g0 + 1 + 1; omega) (.int .i64 0))
    have HEX := Lib.hid (HE1.out.setCell (p := ⟨g0 + 1 + 1, 0, none⟩) (by have := HG.out; show _ ≤ g0 + 1 + 1; omega) (.int .i64 0))
    have xc : w1.cell? ⟨g0 + 1 + 1, 0, none⟩ ≠ none := by
      obtain ⟨what, hd, A9, n9, c9, l9, A9', n9', c9', p9, b9, _⟩ := HR9.out
      have := b9.cell 0
      rw [this]; simp
    obtain ⟨uu, hu⟩ := Option.ne_none_iff_exists'.1 xc
    have fu : w1.frozen? ⟨g0 + 1 + 1, 0, none⟩ = false := by
      obtain ⟨what, hd, A9, n9, c9, l9, A9', n9', c9', p9, b9, _⟩ := HR9.out
      exact b9.frozen 0
    clear xc
    go_upto_region 25 with (fail)
    generalize w1.setCell ⟨g0 + 1 + 1, 0, none⟩ (.int .i64 0) = W5 at *
    clear hu fu
    obtain ⟨what, hd, A9, n9, c9, l9, A9', n9', c9', p9, b9, r1, r2, r3, r4, r5, r6⟩ := HRX.out
    obtain ⟨d0, d1, d2, d3⟩ := hd
    have HR1 := Lib.hid r1
    have HR2 := Lib.hid r2
    have HR3 := Lib.hid r3
    have HR4 := Lib.hid r4
    have HR5 := Lib.hid r5
    have HR6 := Lib.hid r6
    have y0 := b9.cell 0
    have y1 := b9.cell 1
    have y2 := b9.cell 2
    have y3 := b9.cell 3
    have y4 := b9.cell 4
    have y5 := b9.cell 5
    have y6 := b9.cell 6
    clear r1 r2 r3 r4 r5 r6 b9
    go_wp2_with (refine wpl_store7 (by rfl) 40 _ _ (by rfl) (g0 + 1) 40 _ _ _ _ _ _ _ what d0 d1 d2 d3 A9 A9' n9 c9 n9' c9' (by rfl) (by rfl) Tryz.sizeOf40 H8X.out ?_; intro w9 k1 k2; have K1 := Lib.hid k1; have K2 := Lib.hid k2; clear k1 k2)
    have p0 := K1.out.cell 0
    have p1 := K1.out.cell 1
    have p2 := K1.out.cell 2
    have p3 := K1.out.cell 3
    have p4 := K1.out.cell 4
    have p5 := K1.out.cell 5
    have p6 := K1.out.cell 6
    refine bodyPost_ret (by simp [results, Tryz.results7, go_sem, p0, p1, p2, p3, p4, p5, p6]; try rfl) rfl ?_
    have hge : w.heap.size ≤ g0 + 1 := by have := HG.out; omega
    exact ⟨⟨_, rfl, ⟨what, ⟨d0, d1, d2, d3⟩, l9, p9⟩, A9, n9, c9, A9', n9', c9', rfl, HR1.out.kept K2.out (fun hn ad e k => (HR3.out hn ad e).2.1 (by injection k with k; exact k.symm)), HR2.out, HR4.out.kept K2.out (fun hn ad e k => (HR6.out hn ad e).2.1 (by injection k with k; exact k.symm)), HR5.out, fun hn ad e => (HR3.out hn ad e).2.2, fun hn ad e => (HR6.out hn ad e).2.2⟩, HEX.out.gbn K2.out hge⟩
  · have HRX := Lib.hid (HR9.out.what (how % 4))
    have H8X := Lib.hid (HB8.out.far (p := ⟨g0 + 1 + 1, 0, none⟩) (by show _ ≠ g0 + 1 + 1; omega) (.int .i64 (how % 4)))
    have HEX := Lib.hid (HE1.out.setCell (p := ⟨g0 + 1 + 1, 0, none⟩) (by have := HG.out; show _ ≤ g0 + 1 + 1; omega) (.int .i64 (how % 4)))
    have xc : w1.cell? ⟨g0 + 1 + 1, 0, none⟩ ≠ none := by
      obtain ⟨what, hd, A9, n9, c9, l9, A9', n9', c9', p9, b9, _⟩ := HR9.out
      have := b9.cell 0
      rw [this]; simp
    obtain ⟨uu, hu⟩ := Option.ne_none_iff_exists'.1 xc
    have fu : w1.frozen? ⟨g0 + 1 + 1, 0, none⟩ = false := by
      obtain ⟨what, hd, A9, n9, c9, l9, A9', n9', c9', p9, b9, _⟩ := HR9.out
      exact b9.frozen 0
    clear xc
    go_upto_region 27 with (fail)
    generalize w1.setCell ⟨g0 + 1 + 1, 0, none⟩ (.int .i64 (how % 4)) = W5 at *
    clear hu fu
    obtain ⟨what, hd, A9, n9, c9, l9, A9', n9', c9', p9, b9, r1, r2, r3, r4, r5, r6⟩ := HRX.out
    obtain ⟨d0, d1, d2, d3⟩ := hd
    have HR1 := Lib.hid r1
    have HR2 := Lib.hid r2
    have HR3 := Lib.hid r3
    have HR4 := Lib.hid r4
    have HR5 := Lib.hid r5
    have HR6 := Lib.hid r6
    have y0 := b9.cell 0
    have y1 := b9.cell 1
    have y2 := b9.cell 2
    have y3 := b9.cell 3
    have y4 := b9.cell 4
    have y5 := b9.cell 5
    have y6 := b9.cell 6
    clear r1 r2 r3 r4 r5 r6 b9
    go_wp2_with (refine wpl_store7 (by rfl) 40 _ _ (by rfl) (g0 + 1) 40 _ _ _ _ _ _ _ what d0 d1 d2 d3 A9 A9' n9 c9 n9' c9' (by rfl) (by rfl) Tryz.sizeOf40 H8X.out ?_; intro w9 k1 k2; have K1 := Lib.hid k1; have K2 := Lib.hid k2; clear k1 k2)
    have p0 := K1.out.cell 0
    have p1 := K1.out.cell 1
    have p2 := K1.out.cell 2
    have p3 := K1.out.cell 3
    have p4 := K1.out.cell 4
    have p5 := K1.out.cell 5
    have p6 := K1.out.cell 6
    refine bodyPost_ret (by simp [results, Tryz.results7, go_sem, p0, p1, p2, p3, p4, p5, p6]; try rfl) rfl ?_
    have hge : w.heap.size ≤ g0 + 1 := by have := HG.out; omega
    exact ⟨⟨_, rfl, ⟨what, ⟨d0, d1, d2, d3⟩, l9, p9⟩, A9, n9, c9, A9', n9', c9', rfl, HR1.out.kept K2.out (fun hn ad e k => (HR3.out hn ad e).2.1 (by injection k with k; exact k.symm)), HR2.out, HR4.out.kept K2.out (fun hn ad e k => (HR6.out hn ad e).2.1 (by injection k with k; exact k.symm)), HR5.out, fun hn ad e => (HR3.out hn ad e).2.2, fun hn ad e => (HR6.out hn ad e).2.2⟩, HEX.out.gbn K2.out hge⟩
  · have HRX := HR9
    have H8X := HB8
    have HEX := HE1
    obtain ⟨what, hd, A9, n9, c9, l9, A9', n9', c9', p9, b9, r1, r2, r3, r4, r5, r6⟩ := HRX.out
    obtain ⟨d0, d1, d2, d3⟩ := hd
    have HR1 := Lib.hid r1
    have HR2 := Lib.hid r2
    have HR3 := Lib.hid r3
    have HR4 := Lib.hid r4
    have HR5 := Lib.hid r5
    have HR6 := Lib.hid r6
    have y0 := b9.cell 0
    have y1 := b9.cell 1
    have y2 := b9.cell 2
    have y3 := b9.cell 3
    have y4 := b9.cell 4
    have y5 := b9.cell 5
    have y6 := b9.cell 6
    clear r1 r2 r3 r4 r5 r6 b9
    go_wp2_with (refine wpl_store7 (by rfl) 40 _ _ (by rfl) (g0 + 1) 40 _ _ _ _ _ _ _ what d0 d1 d2 d3 A9 A9' n9 c9 n9' c9' (by rfl) (by rfl) Tryz.sizeOf40 H8X.out ?_; intro w9 k1 k2; have K1 := Lib.hid k1; have K2 := Lib.hid k2; clear k1 k2)
    have p0 := K1.out.cell 0
    have p1 := K1.out.cell 1
    have p2 := K1.out.cell 2
    have p3 := K1.out.cell 3
    have p4 := K1.out.cell 4
    have p5 := K1.out.cell 5
    have p6 := K1.out.cell 6
    refine bodyPost_ret (by simp [results, Tryz.results7, go_sem, p0, p1, p2, p3, p4, p5, p6]; try rfl) rfl ?_
    have hge : w.heap.size ≤ g0 + 1 := by have := HG.out; omega
    exact ⟨⟨_, rfl, ⟨what, ⟨d0, d1, d2, d3⟩, l9, p9⟩, A9, n9, c9, A9', n9', c9', rfl, HR1.out.kept K2.out (fun hn ad e k => (HR3.out hn ad e).2.1 (by injection k with k; exact k.symm)), HR2.out, HR4.out.kept K2.out (fun hn ad e k => (HR6.out hn ad e).2.1 (by injection k with k; exact k.symm)), HR5.out, fun hn ad e => (HR3.out hn ad e).2.2, fun hn ad e => (HR6.out hn ad e).2.2⟩, HEX.out.gbn K2.out hge⟩
end Go.Proofs.YtmknpehjncpekaaGreatDoor

/- The references' look at a proof that a tree has but grown. -/
namespace Go.Proofs.YtmknpehjncpekaaGreatDoor
open Go.RowKit Go.WideShapes
set_option linter.unusedVariables false
attribute [local go_sem ↓] Go.wp_at_zero Go.wp_at_succ

theorem errIs_self (k : Int) : errIs k k = true := by unfold errIs; simp
theorem Error_same (k : Int) (w : World) (hg : ErrG w) : Calls Tryz.prog 6 #[errR k, .int .i64 k] w fun e w' => e = .returned (.bool true) ∧ Ext w w' :=
  (Error_any k k w hg).mono fun e w' hh => ⟨hh.1.trans (by rw [errIs_self]), hh.2⟩
set_option maxRecDepth 100000 in
set_option maxHeartbeats 2000000 in
theorem RGrowCheck_any (r1 o r n : Int) (A : Option Addr) (m c : Nat) (ps : List Int) (w : World) (hr : Rd w 1 A m c (ps.map (Value.int .i64))) (hm : c ≤ maxLen) :
    Calls Tryz.prog 27 #[.int .i64 r1, .int .i64 o, .int .i64 r, .int .i64 n, .slice A m c] w fun e w' => e = .returned (.int .i64 (gcheck r1 o r n ps)) ∧ Ext w w' := by
  have hx := hr.lenI
  have hml : m ≤ c := hr.2.1
  by_cases ha : 1 ≤ o ∧ o ≤ n ∧ n ≤ 200
  · obtain ⟨a0, a1, a2⟩ := id ha
    obtain ⟨o, rfl⟩ := Int.eq_ofNat_of_zero_le (show 0 ≤ o by omega)
    obtain ⟨n, rfl⟩ := Int.eq_ofNat_of_zero_le (show 0 ≤ n by omega)
    by_cases hb : vld r1 = true ∧ vld r = true ∧ allV ps = true
    · obtain ⟨b0, b1, b2⟩ := id hb
      have hG : gcheck r1 o r n ps = if ps.length ≠ gsteps o n true then 3 else if groots r1 o n ps true ≠ (r1, r) then 8 else 0 := by
        unfold gcheck; rw [if_neg (not_not_intro ha), if_neg (not_not_intro hb), Int.toNat_natCast, Int.toNat_natCast]
      by_cases hc : m = gsteps o n true
      · rw [if_neg (by rw [hx]; exact not_not_intro hc)] at hG
        have hbc : ((m : Int) != ((gsteps o n true : Nat) : Int)) = false := by rw [← hc]; simp
        have HC := Lib.hid hc
        have HR := Lib.hid fun (W : World) (e : Ext w W) => RGrown_any n r1 o n A m c ps true W (Nat.le_refl _) (by omega) (by omega) (by omega) hc (hr.ext e) hm b0 b2
        generalize groots r1 o n ps true = g at *
        obtain ⟨ga, gb⟩ := g
        have H3 : (ga = r1 ∧ gb = r ∧ Hid (gcheck r1 o r n ps = 0)) ∨ (ga ≠ r1 ∧ Hid (gcheck r1 o r n ps = 8)) ∨ (ga = r1 ∧ gb ≠ r ∧ Hid (gcheck r1 o r n ps = 8)) := by
          by_cases e1 : ga = r1
          · by_cases e2 : gb = r
            · exact .inl ⟨e1, e2, by show _ = _; rw [hG, if_neg (by rw [e1, e2]; simp)]⟩
            · exact .inr (.inr ⟨e1, e2, by show _ = _; rw [hG, if_pos (by simp [e2])]⟩)
          · exact .inr (.inl ⟨e1, by show _ = _; rw [hG, if_pos (by simp [e1])]⟩)
        clear hx ha hb hG hc
        rcases H3 with ⟨rfl, rfl, HE⟩ | ⟨h1, HE⟩ | ⟨rfl, h2, HE⟩
        · go_enter Tryz.func27, Tryz.ntmps27
          go_wp2_with (first | (go_at_call 43; refine (RValid_any _ _).mono ?_; rintro e w' ⟨rfl, rfl⟩) | (go_at_call 44; refine (RAll_any A m c ps _ hr hm).mono ?_; rintro e w' ⟨rfl, rfl⟩) | (go_at_call 45; refine (RGrowSteps_any n o n true _ (Nat.le_refl _) (by omega) (by omega) (by omega)).mono ?_; rintro e w' ⟨rfl, rfl⟩))
          refine (HR.out _ (Ext.refl _)).mono ?_
          rintro _ w1 ⟨rfl, hb1⟩
          go_wp2_with fail
          go_ret
          exact ⟨ret_int (by rw [HE.out]), by (repeat (with_reducible first | exact Ext.refl _ | assumption | refine Ext.drew ?_ | refine Ext.drewN ?_ _ | refine Ext.alloc ?_ _ | refine Ext.trans ?_ (by with_reducible assumption)))⟩
        · have h1' : (ga != r1) = true := by simpa using h1
          clear h1
          go_enter Tryz.func27, Tryz.ntmps27
          go_wp2_with (first | (go_at_call 43; refine (RValid_any _ _).mono ?_; rintro e w' ⟨rfl, rfl⟩) | (go_at_call 44; refine (RAll_any A m c ps _ hr hm).mono ?_; rintro e w' ⟨rfl, rfl⟩) | (go_at_call 45; refine (RGrowSteps_any n o n true _ (Nat.le_refl _) (by omega) (by omega) (by omega)).mono ?_; rintro e w' ⟨rfl, rfl⟩))
          refine (HR.out _ (Ext.refl _)).mono ?_
          rintro _ w1 ⟨rfl, hb1⟩
          go_wp2_with fail
          go_ret
          exact ⟨ret_int (by rw [HE.out]), by (repeat (with_reducible first | exact Ext.refl _ | assumption | refine Ext.drew ?_ | refine Ext.drewN ?_ _ | refine Ext.alloc ?_ _ | refine Ext.trans ?_ (by with_reducible assumption)))⟩
        · have h2' : (gb != r) = true := by simpa using h2
          clear h2
          go_enter Tryz.func27, Tryz.ntmps27
          go_wp2_with (first | (go_at_call 43; refine (RValid_any _ _).mono ?_; rintro e w' ⟨rfl, rfl⟩) | (go_at_call 44; refine (RAll_any A m c ps _ hr hm).mono ?_; rintro e w' ⟨rfl, rfl⟩) | (go_at_call 45; refine (RGrowSteps_any n o n true _ (Nat.le_refl _) (by omega) (by omega) (by omega)).mono ?_; rintro e w' ⟨rfl, rfl⟩))
          refine (HR.out _ (Ext.refl _)).mono ?_
          rintro _ w1 ⟨rfl, hb1⟩
          go_wp2_with fail
          go_ret
          exact ⟨ret_int (by rw [HE.out]), by (repeat (with_reducible first | exact Ext.refl _ | assumption | refine Ext.drew ?_ | refine Ext.drewN ?_ _ | refine Ext.alloc ?_ _ | refine Ext.trans ?_ (by with_reducible assumption)))⟩
      · rw [if_pos (by rw [hx]; exact hc)] at hG
        have HE := Lib.hid hG
        have hbc : ((m : Int) != ((gsteps o n true : Nat) : Int)) = true := by simp; omega
        clear hx ha hb hG hc
        go_enter Tryz.func27, Tryz.ntmps27
        go_wp2_with (first | (go_at_call 43; refine (RValid_any _ _).mono ?_; rintro e w' ⟨rfl, rfl⟩) | (go_at_call 44; refine (RAll_any A m c ps _ hr hm).mono ?_; rintro e w' ⟨rfl, rfl⟩) | (go_at_call 45; refine (RGrowSteps_any n o n true _ (Nat.le_refl _) (by omega) (by omega) (by omega)).mono ?_; rintro e w' ⟨rfl, rfl⟩))
        go_ret
        exact ⟨ret_int (by rw [HE.out]), by (repeat (with_reducible first | exact Ext.refl _ | assumption | refine Ext.drew ?_ | refine Ext.drewN ?_ _ | refine Ext.alloc ?_ _ | refine Ext.trans ?_ (by with_reducible assumption)))⟩
    · have HE : Hid (gcheck r1 o r n ps = 1) := by show _ = _; unfold gcheck; rw [if_neg (not_not_intro ha), if_pos hb]
      have hb' : vld r1 = false ∨ (vld r1 = true ∧ vld r = false) ∨ (vld r1 = true ∧ vld r = true ∧ allV ps = false) := by
        cases x1 : vld r1
        · exact .inl rfl
        cases x2 : vld r
        · exact .inr (.inl ⟨rfl, rfl⟩)
        cases x3 : allV ps
        · exact .inr (.inr ⟨rfl, rfl, rfl⟩)
        exact absurd ⟨x1, x2, x3⟩ hb
      clear hb ha hx
      rcases hb' with b0 | ⟨b0, b1⟩ | ⟨b0, b1, b2⟩
      all_goals
        go_enter Tryz.func27, Tryz.ntmps27
        go_wp2_with (first | (go_at_call 43; refine (RValid_any _ _).mono ?_; rintro e w' ⟨rfl, rfl⟩) | (go_at_call 44; refine (RAll_any A m c ps _ hr hm).mono ?_; rintro e w' ⟨rfl, rfl⟩))
        go_ret
        exact ⟨ret_int (by rw [HE.out]), by (repeat (with_reducible first | exact Ext.refl _ | assumption | refine Ext.drew ?_ | refine Ext.drewN ?_ _ | refine Ext.alloc ?_ _ | refine Ext.trans ?_ (by with_reducible assumption)))⟩
  · have HE : Hid (gcheck r1 o r n ps = 1) := by show _ = _; unfold gcheck; rw [if_pos ha]
    have ha' : o < 1 ∨ (1 ≤ o ∧ n < o) ∨ (1 ≤ o ∧ o ≤ n ∧ 200 < n) := by omega
    clear ha hx
    rcases ha' with h | ⟨h, h1⟩ | ⟨h, h1, h2⟩
    all_goals
      go_enter Tryz.func27, Tryz.ntmps27
      go_wp2_with (first | (go_at_call 43; refine (RValid_any _ _).mono ?_; rintro e w' ⟨rfl, rfl⟩) | (go_at_call 44; refine (RAll_any A m c ps _ hr hm).mono ?_; rintro e w' ⟨rfl, rfl⟩))
      go_ret
      exact ⟨ret_int (by rw [HE.out]), by (repeat (with_reducible first | exact Ext.refl _ | assumption | refine Ext.drew ?_ | refine Ext.drewN ?_ _ | refine Ext.alloc ?_ _ | refine Ext.trans ?_ (by with_reducible assumption)))⟩
end Go.Proofs.YtmknpehjncpekaaGreatDoor

/- The references' mirror in memory: Want, Root, forget, settle, Hear. -/
namespace Go.Proofs.YtmknpehjncpekaaGreatDoor
open Go.RowKit Go.WideShapes
set_option linter.unusedVariables false
attribute [local go_sem ↓] Go.wp_at_zero Go.wp_at_succ

theorem info_entM : (Tryz.prog.info? 59).map (fun i => (i.zero, i.size, i.bytes)) = some (some (.agg #[.int .i64 0, .string ⟨#[]⟩]), 2, 24) := by kernel_rfl
/-- what an operation of the references' mirror leaves -/
def RPost (w : World) (P : Nat → Prop) (mb : Nat) (r : Mi × Int) (e : Ending) (w' : World) : Prop := e = .returned (.int .i64 r.2) ∧ MM 36 w' P mb r.1 ∧ Chg w w' P
theorem RPost.stay {w w' : World} {P : Nat → Prop} {mb : Nat} {va vw : Value} {m : Mi} {k : Int} (h : MiAt 36 w mb va vw m) (hP : ∀ g, MFoot mb va vw g → P g) (e : Ext w w') : RPost w P mb (m, k) (.returned (.int .i64 k)) w' := ⟨rfl, ⟨va, vw, h.ext e, hP⟩, e.chg P⟩
theorem MiAt.putR {w w' : World} {mb : Nat} {va vw va' vw' : Value} {m m' : Mi} {P : Nat → Prop} (h : MiAt 36 w mb va vw m) (hP : ∀ g, MFoot mb va vw g → P g) (hg : w.grownBy w' (some mb))
    (hb : Bk w' mb 36 (mcells m'.key va' m'.head m'.next vw')) (ho : w.ownsRow 0 59 2 va' m'.own.length (m'.own.flatMap Ent.cells)) (hw : w.ownsRow 0 59 2 vw' m'.waits.length (m'.waits.flatMap Ent.cells))
    (hap : ∀ g, va'.ownBlock = some g → vw'.ownBlock ≠ some g) (hgd : m'.Good) (hPa : ∀ g, va'.ownBlock = some g → P g) (hPw : ∀ g, vw'.ownBlock = some g → P g) :
    MM 36 w' P mb m' ∧ Chg w w' P := by
  refine ⟨⟨va', vw', ⟨hb, ho.kept hg (.inr (own_type ho h.bk (by decide))), hw.kept hg (.inr (own_type hw h.bk (by decide))), hap, hgd⟩, fun g hf => ?_⟩, (gb_chg hg).mono fun x _ hx => ?_⟩
  · rcases hf with rfl | hf | hf
    · exact hP _ (.inl rfl)
    · exact hPa g hf
    · exact hPw g hf
  · injection hx with hx
    subst hx
    exact hP _ (.inl rfl)

set_option maxRecDepth 100000 in
set_option maxHeartbeats 1000000 in
theorem RMWant_any (mb : Nat) (va vw : Value) (m : Mi) (w : World) (h : MiAt 36 w mb va vw m) :
    Calls Tryz.prog 8 #[.pointer (some ⟨mb, 0, none⟩)] w fun e w' => e = .returned m.want.val ∧ Ext w w' := by
  have B0 := Bk.at_ w 43 #[.int .i64 0, .int .i64 0, .int .i64 0] w.heap.size rfl
  have e0 : Ext w (w.alloc (.cells #[.int .i64 0, .int .i64 0, .int .i64 0] 43)) := (Ext.refl _).alloc _
  have hgd := h.good
  have h0 := h.ext e0
  clear h
  obtain ⟨n, hn⟩ : ∃ n, m.own.length = n := ⟨_, rfl⟩
  obtain ⟨k, hk⟩ : ∃ n, m.waits.length = n := ⟨_, rfl⟩
  obtain ⟨ns, hns⟩ : ∃ x, m.next.size = x := ⟨_, rfl⟩
  have HW1 : Hid (ns = 0 → m.want = ⟨1, 0, 0⟩) := Lib.hid fun e => if_pos (hns.trans e)
  have HW2 : Hid (ns ≠ 0 → (n : Int) + (k : Int) = ns → m.want = ⟨3, (n : Int), ns⟩) := Lib.hid fun e e2 => by
    unfold Mi.want Mi.have_; rw [hn, hk, hns, if_neg e, if_pos e2]
  have HW3 : Hid (ns ≠ 0 → (n : Int) + (k : Int) ≠ ns → m.want = ⟨2, (n : Int) + (k : Int), min ns ((n : Int) + (k : Int) + 16)⟩) := Lib.hid fun e e2 => by
    unfold Mi.want Mi.have_; rw [hn, hk, hns, if_neg e, if_neg e2]
  have hle := hgd.have_le
  have hnb := hgd.nsz
  have ow := h0.own
  have wa := h0.waits
  have hbk := h0.bk
  rw [hn] at ow hle
  rw [hk] at wa hle
  rw [hns] at hnb
  obtain ⟨A, c, rfl, hc, hr, -⟩ := own_rd ow
  obtain ⟨A', c', rfl, hc', hr', -⟩ := own_rd wa
  have c1 : (w.alloc (.cells #[.int .i64 0, .int .i64 0, .int .i64 0] 43)).cell? ⟨mb, 1, none⟩ = some (.slice A n c) := hbk.cell 1
  have c6 : (w.alloc (.cells #[.int .i64 0, .int .i64 0, .int .i64 0] 43)).cell? ⟨mb, 6, none⟩ = some (.int .i64 ns) := by rw [← hns]; exact hbk.cell 6
  have c10 : (w.alloc (.cells #[.int .i64 0, .int .i64 0, .int .i64 0] 43)).cell? ⟨mb, 10, none⟩ = some (.slice A' k c') := hbk.cell 10
  obtain ⟨wt, hwt⟩ : ∃ x, m.want = x := ⟨_, rfl⟩
  rw [hwt] at HW1 HW2 HW3
  rw [hwt]
  obtain ⟨hv, hhv⟩ : ∃ x : Int, (n : Int) + (k : Int) = x := ⟨_, rfl⟩
  have hw : IntKind.i64.wrap ((n : Int) + (k : Int)) = hv := by rw [← hhv]; exact IntWalk.i64_in _ (by omega)
  rw [hhv] at HW2 HW3
  have hv0 : 0 ≤ hv ∧ hv ≤ 200 := by omega
  have HHV := Lib.hid hhv
  obtain ⟨mn, hmn⟩ : ∃ x, min ns (hv + 16) = x := ⟨_, rfl⟩
  rw [hmn] at HW3
  have HMN := Lib.hid hmn
  clear hwt hns hn hk hgd h0 ow wa hr hr' hbk hle hhv hmn
  go_enter Tryz.func8, Tryz.ntmps8
  go_upto_region 1 with (fail)
  generalize (w.alloc (.cells #[.int .i64 0, .int .i64 0, .int .i64 0] 43)) = W0 at *
  obtain ⟨g0, hg0⟩ : ∃ g, w.heap.size = g := ⟨_, rfl⟩
  rw [hg0] at B0
  try rw [hg0]
  have HG := Lib.hid hg0
  have HE0 := Lib.hid e0
  have q0 := B0.frozen 0
  have q1 := B0.frozen 1
  have q2 := B0.frozen 2
  have y0 := B0.cell 0
  have y1 := B0.cell 1
  have y2 := B0.cell 2
  clear e0 hg0
  by_cases h0 : ns = 0
  · obtain rfl := HW1.out h0
    subst h0
    clear HW1 HW2 HW3
    go_wp2_with fail
    have P := B0.put3 (.int .i64 1) (.int .i64 0) (.int .i64 0)
    have p0 := P.cell 0
    have p1 := P.cell 1
    have p2 := P.cell 2
    refine bodyPost_ret (by simp [results, Tryz.results8, go_sem, p0, p1, p2]; try rfl) rfl ?_
    exact ⟨rfl, HE0.out.put3 (by rw [HG.out]; exact Nat.le_refl _) _ _ _⟩
  have hb0 : (ns == 0) = false := beq_eq_false_iff_ne.2 h0
  by_cases h1 : hv = ns
  · obtain rfl := HW2.out h0 h1
    subst h1
    clear HW1 HW2 HW3
    go_wp2_with fail
    go_quiet (fail)
    go_wp2_with fail
    have P := (B0.drewN (nq)).put3 (.int .i64 3) (.int .i64 n) (.int .i64 hv)
    have p0 := P.cell 0
    have p1 := P.cell 1
    have p2 := P.cell 2
    refine bodyPost_ret (by simp [results, Tryz.results8, go_sem, p0, p1, p2]; try rfl) rfl ?_
    exact ⟨rfl, (HE0.out.drewN (nq)).put3 (by rw [HG.out]; exact Nat.le_refl _) _ _ _⟩
  · obtain rfl := HW3.out h0 h1
    have hb1 : (hv == ns) = false := beq_eq_false_iff_ne.2 h1
    have hw16 : IntKind.i64.wrap (hv + 16) = hv + 16 := IntWalk.i64_in _ (by omega)
    clear HW1 HW2 HW3 h1
    by_cases h2 : ns < hv + 16
    · obtain rfl : mn = ns := by have := HMN.out; omega
      go_wp2_with fail
      go_quiet (fail)
      go_wp2_with fail
      have P := (B0.drewN (nq)).put3 (.int .i64 2) (.int .i64 hv) (.int .i64 mn)
      have p0 := P.cell 0
      have p1 := P.cell 1
      have p2 := P.cell 2
      refine bodyPost_ret (by simp [results, Tryz.results8, go_sem, p0, p1, p2]; try rfl) rfl ?_
      exact ⟨rfl, (HE0.out.drewN (nq)).put3 (by rw [HG.out]; exact Nat.le_refl _) _ _ _⟩
    · obtain rfl : mn = hv + 16 := by have := HMN.out; omega
      go_wp2_with fail
      go_quiet (fail)
      go_wp2_with fail
      have P := (B0.drewN (nq)).put3 (.int .i64 2) (.int .i64 hv) (.int .i64 (hv + 16))
      have p0 := P.cell 0
      have p1 := P.cell 1
      have p2 := P.cell 2
      refine bodyPost_ret (by simp [results, Tryz.results8, go_sem, p0, p1, p2]; try rfl) rfl ?_
      exact ⟨rfl, (HE0.out.drewN (nq)).put3 (by rw [HG.out]; exact Nat.le_refl _) _ _ _⟩

/-- the root of entries that are right, by the references -/
theorem RLeafRoot (A : Option Addr) (n c : Nat) (es : List Ent) (hk : entsOk es) :
    (∀ W, Rd W 2 A n c (es.flatMap Ent.cells) → c ≤ maxLen → Calls Tryz.prog 22 #[.slice A n c] W fun e w' => (∃ A2 c2, e = .returned (.slice A2 n c2) ∧ c2 ≤ maxLen ∧ Rd w' 1 A2 n c2 ((es.map Ent.leaf).map (Value.int .i64))) ∧ Ext W w') ∧
    (∀ W B d, Rd W 1 B n d ((es.map Ent.leaf).map (Value.int .i64)) → d ≤ maxLen → Calls Tryz.prog 35 #[.slice B n d] W fun e w' => e = .returned (.int .i64 (rootE es)) ∧ Ext W w') := by
  have hlo := leafs_of_ents hk
  refine ⟨fun W hr hm => ?_, fun W B d hB hd => ?_⟩
  · have hx := hr.lenE
    refine (REntryLeafs_ok A n c es W hr hm hk).mono fun e' w' hh => ?_
    obtain ⟨⟨v, q1, q2⟩, q3⟩ := hh
    obtain ⟨A2, c2, rfl, q4, q5⟩ := q2.rd
    rw [List.length_map, hx] at q1 q5
    exact ⟨⟨A2, c2, q1, q4, q5⟩, q3⟩
  · have hl := hB.lenI
    have h2 := hlo.1
    have := RRoot_any n B n d (es.map Ent.leaf) W (Nat.le_refl _) hB hd (by omega) hlo.2
    rw [← rootE_ok hk] at this
    exact this
set_option maxRecDepth 100000 in
theorem RMRoot_any (mb : Nat) (va vw : Value) (m : Mi) (w : World) (h : MiAt 36 w mb va vw m) :
    Calls Tryz.prog 16 #[.pointer (some ⟨mb, 0, none⟩)] w fun e w' => e = .returned (.int .i64 (rootE m.own)) ∧ Ext w w' := by
  have ow := h.own
  obtain ⟨n, hn⟩ : ∃ n, m.own.length = n := ⟨_, rfl⟩
  rw [hn] at ow
  obtain ⟨A, c, rfl, hc, hr, -⟩ := own_rd ow
  obtain ⟨H1, H2⟩ := RLeafRoot A n c m.own h.good.own
  have HL := Lib.hid (H1 w hr hc)
  have HRT := Lib.hid H2
  have y1 : w.cell? ⟨mb, 1, none⟩ = some (.slice A n c) := h.bk.cell 1
  obtain ⟨ro, hro⟩ : ∃ x, rootE m.own = x := ⟨_, rfl⟩
  rw [hro] at HRT
  rw [hro]
  clear h ow hr H1 H2 hro
  go_enter Tryz.func16, Tryz.ntmps16
  go_wp2_with fail
  refine HL.out.mono ?_
  rintro _ w1 ⟨⟨A2, c2, rfl, hc2, R2⟩, hb1⟩
  have HR2 := Lib.hid R2
  clear R2
  go_wp2_with fail
  refine (HRT.out _ _ _ HR2.out hc2).mono ?_
  rintro _ w2 ⟨rfl, hb2⟩
  go_wp2_with fail
  go_ret
  exact ⟨rfl, hb1.trans hb2⟩

set_option maxRecDepth 100000 in
set_option maxHeartbeats 1000000 in
theorem rforget_raw (mb : Nat) (key : Int) (va : Value) (h nx : Hd) (vw : Value) (w : World) (hb : Bk w mb 36 (mcells key va h nx vw)) :
    Calls Tryz.prog 25 #[.pointer (some ⟨mb, 0, none⟩)] w fun e w' => (∃ v, e = .returned v) ∧ Bk w' mb 36 (mcells key va h hd00 (.slice none 0 0)) ∧ w.grownBy w' (some mb) := by
  have y6 : w.cell? ⟨mb, 6, none⟩ = some (.int .i64 nx.size) := hb.cell 6
  have y7 : w.cell? ⟨mb, 7, none⟩ = some (.int .i64 nx.root) := hb.cell 7
  have y8 : w.cell? ⟨mb, 8, none⟩ = some (.int .i64 nx.time) := hb.cell 8
  have y9 : w.cell? ⟨mb, 9, none⟩ = some (.int .i64 nx.sign) := hb.cell 9
  have y10 : w.cell? ⟨mb, 10, none⟩ = some vw := hb.cell 10
  have q6 := hb.frozen 6
  have q7 := hb.frozen 7
  have q8 := hb.frozen 8
  have q9 := hb.frozen 9
  have q10 := hb.frozen 10
  have HB := Lib.hid hb
  clear hb
  go_enter Tryz.func25, Tryz.ntmps25
  go_wp2_with fail
  refine bodyPost_end (results_none rfl _ _ _) rfl ?_
  exact ⟨⟨_, rfl⟩, (((((HB.out.set_ 6 _).set_ 7 _).set_ 8 _).set_ 9 _).set_ 10 _),
    gb_trans (gb_trans (gb_trans (gb_trans (gb_set w mb 6 (.int .i64 0)) (gb_set _ mb 7 (.int .i64 0))) (gb_set _ mb 8 (.int .i64 0))) (gb_set _ mb 9 (.int .i64 0))) (gb_set _ mb 10 (.slice none 0 0))⟩
theorem rforget_any (P : Nat → Prop) (mb : Nat) (va vw : Value) (m : Mi) (w : World) (h : MiAt 36 w mb va vw m) (hP : ∀ g, MFoot mb va vw g → P g) :
    Calls Tryz.prog 25 #[.pointer (some ⟨mb, 0, none⟩)] w fun e w' => (∃ v, e = .returned v) ∧ MM 36 w' P mb m.forget ∧ Chg w w' P := by
  refine (rforget_raw mb m.key va m.head m.next vw w h.bk).mono fun e w' ⟨he, hb, hg⟩ => ?_
  obtain ⟨h1, h2⟩ := h.putR (m' := m.forget) (va' := va) (vw' := .slice none 0 0) hP hg hb h.own (own_nil _ _ _ _) (fun g _ hg => by simp [Value.ownBlock] at hg) h.good.forget (fun g hg => hP g (.inr (.inl hg))) (fun g hg => by simp [Value.ownBlock] at hg)
  exact ⟨he, h1, h2⟩
end Go.Proofs.YtmknpehjncpekaaGreatDoor
