/- the references' lsm: Copy. -/
import Derived.Test.YtcgfdhgceokcnaaGreatDoorJWalKeeps25
import Derived.Test.YtcgfdhgceokcnaaGreatDoorJWalKeeps22
import Derived.Test.YtcgfdhgceokcnaaGreatDoorJWalKeeps12
import Derived.Laws.AppendOwnNone
import Derived.Deep.RegionLaw
import Derived.Test.YtcgfdhgceokcnaaGreatDoorJWalKeeps14
import Derived.Deep.DeepCutAuto
import Derived.Test.YtcgfdhgceokcnaaGreatDoorJWalKeeps2
namespace Go.Proofs.YtcgfdhgceokcnaaGreatDoor
open Go.RowKit Go.WideShapes
set_option linter.unusedVariables false
attribute [local go_sem ↓] Go.wp_at_zero Go.wp_at_succ

theorem step_appsO {P : Program} {w : World} {ops : Array Oper} {o : Oper} {a : Act} {K : Act → World → Prop} {Q : Exit → Act → World → Prop} {E : Prop} (hgd : o.guard = none) (s x : Operand) (t : TypeId)
    (ho : o.op = .call { callee := .builtin .append, args := #[s, x], argTypes := #[t, t] })
    (base : Nat) (e : TypeId) (i : TypeInfo) (z : Value) (size bytes : Nat) (ht : P.underlying t = some (.slice e)) (hi : P.info? e = some i) (hz : i.zero = some z)
    (hsize : i.size = size) (hby : i.bytes = bytes) (hzs : z.cells.size = size) (hsz : 0 < size)
    (v : Value) (n : Nat) (xs : List Value) (hs : a.eval s = v) (hown : w.ownsRow base e size v n xs)
    (ad : Addr) (m c : Nat) (news : List Value) (hx : a.eval x = .slice (some ad) m c) (hl : news.length = m * size) (hnews : ∀ j u, news[j]? = some u → w.cell? (ad.add j) = some u) (h1 : ∀ u ∈ news, u.oneCell' = true)
    (h63 : n + m ≤ 1000000000) (hbytes : bytes ≤ 1000) (hbase : base ≤ w.heap.size)
    (h : ∀ v' w', w'.ownsRow base e size v' (n + m) (xs ++ news) → w.grownBy w' v.ownBlock → K (a.put o.dst v') w') :
    if Region.wanted o (yielded ops a.tmps) = true then Oper.wp P o a w K Q else E := by
  have hw : Region.wanted o (yielded ops a.tmps) = true := by simp [Region.wanted, hgd]
  rw [if_pos hw]
  exact wp_append_own (w := w) s x t ho base e i z size bytes ht hi hz hsize hby hzs hsz v n xs hs hown ad m c news hx hl hnews h1 (by simp only [maxLen]; omega)
    (by have := Nat.mul_le_mul (show n + m ≤ 1000000000 by omega) hbytes; omega) hbase fun v' w' h1 h2 _ => h v' w' h1 h2
theorem step_none {P : Program} {w : World} {ops : Array Oper} {o : Oper} {a : Act} {K : Act → World → Prop} {Q : Exit → Act → World → Prop} {E : Prop} (hgd : o.guard = none) (s x : Operand) (t : TypeId)
    (ho : o.op = .call { callee := .builtin .append, args := #[s, x], argTypes := #[t, t] })
    (base : Nat) (e : TypeId) (i : TypeInfo) (size : Nat) (ht : P.underlying t = some (.slice e)) (hi : P.info? e = some i)
    (v : Value) (n : Nat) (xs : List Value) (hs : a.eval s = v) (hown : w.ownsRow base e size v n xs) (hx : a.eval x = .slice none 0 0) (h : K (a.put o.dst v) w) :
    if Region.wanted o (yielded ops a.tmps) = true then Oper.wp P o a w K Q else E := by
  have hw : Region.wanted o (yielded ops a.tmps) = true := by simp [Region.wanted, hgd]
  rw [if_pos hw]
  have hrun := run_append_owned_none (P := P) (w := w) base t o.type e i size ht hi v n xs hown
  unfold Oper.wp
  simp [execOp, ho, resolve, invoke, builtin, hs, hx, hrun, Result.andThen]
  exact h
theorem besideR {w0 w w' : World} {b : Nat} (e : Ext w0 w) (hb0 : w0.heap.size ≤ b) (k : Chg w w' (fun g => g = b)) : Ext w0 w' := ((e.chg _).trans k fun g _ hg => hg).ext fun g hg hS => by
  have h1 : g = b := hS
  omega
theorem own_setR {w : World} {B n k b o : Nat} {e t : TypeId} {v u : Value} {xs : List Value} {cs : Array Value} (h : w.ownsRow B e k v n xs) (hb : Bk w b t cs) (hne : e ≠ t) : (w.setCell ⟨b, o, none⟩ u).ownsRow B e k v n xs :=
  own_chg h (set_chg w b o u) fun g hg e' => own_type h hb hne (by rw [← e']; exact hg)

set_option maxRecDepth 100000 in
set_option maxHeartbeats 40000000 in
theorem RCopy_any (mb : Nat) (lim : Int) (Y : List Pr) (T : List (List Pr)) (w : World) (h : RM w aF mb lim Y T) (hT8 : T.length ≤ 1000) (hY : Y.length ≤ 1000) :
    Calls Tryz.prog 38 #[.pointer (some ⟨mb, 0, none⟩)] w fun e w' => (∃ mb', e = .returned (.pointer (some ⟨mb', 0, none⟩)) ∧ w.heap.size ≤ mb' ∧ RM w' aF mb' lim Y T) ∧ Ext w w' := by
  obtain ⟨yv, lv, vs, hR, -⟩ := h
  obtain ⟨n, hn⟩ : ∃ n, T.length = n := ⟨_, rfl⟩
  obtain ⟨y, hy⟩ : ∃ y, Y.length = y := ⟨_, rfl⟩
  have ow := hR.lo
  have oy := hR.yo
  rw [hn] at ow hT8
  rw [hy] at oy hY
  obtain ⟨A3, c3, rfl, hc3, hr3, hnil3⟩ := own_rd ow
  obtain ⟨A1, c1', rfl, hc1, hr1, hnil1⟩ := own_rd oy
  have c0 : w.cell? ⟨mb, 0, none⟩ = some (.int .i64 lim) := hR.bk.cell 0
  have hml := hR.bk.lt
  have B1 := Bk.at_ w 41 #[.int .i64 lim, .slice none 0 0, .slice none 0 0] w.heap.size rfl
  have e1 : Ext w (w.alloc (.cells #[.int .i64 lim, .slice none 0 0, .slice none 0 0] 41)) := (Ext.refl _).alloc _
  have HR := Lib.hid hR
  have HN := Lib.hid hn
  have HY := Lib.hid hy
  have HR1 := Lib.hid hr1
  have HR3 := Lib.hid hr3
  have h1v : ∀ u ∈ vs, u.oneCell' = true := by
    intro u hu
    obtain ⟨es, he⟩ := hR.ls.mem hu
    obtain ⟨A, c, rfl, -, -, -⟩ := own_rd he
    rfl
  have H1V := Lib.hid h1v
  obtain ⟨i0, hi0, hz0, hzs, hzb⟩ := info_parts info_pair
  obtain ⟨j0, hj0, jz0, jzs, jzb⟩ := info_parts info_rowP
  clear ow oy hr1 hr3 hR hn hy h1v
  go_enter Tryz.func38, Tryz.ntmps38
  go_upto_region 2 with (fail)
  generalize w.alloc (.cells #[.int .i64 lim, .slice none 0 0, .slice none 0 0] 41) = W1 at *
  have hcw : w.heap.size ≤ w.heap.size := Nat.le_refl _
  have r1 : W1.cell? ⟨mb, 1, none⟩ = some (.slice A1 y c1') := (HR.out.bk.ext e1).cell 1
  have q1 : W1.cell? ⟨w.heap.size, 1, none⟩ = some (.slice none 0 0) := B1.cell 1
  have f1 : W1.frozen? ⟨w.heap.size, 1, none⟩ = false := B1.frozen 1
  have HB1 := Lib.hid B1
  have HE1 := Lib.hid e1
  have hb1 := e1.size
  clear B1
  go_cut [] (fun wc => ∃ yv', Hid (Bk wc w.heap.size 41 #[.int .i64 lim, yv', .slice none 0 0]) ∧ Hid (wc.ownsRow w.heap.size 31 3 yv' y (Y.flatMap Pr.cells)) ∧ Hid (Ext w wc))
  case first =>
    as_aux_lemma =>
    cases A1 with
    | none =>
      have hy0 : y = 0 := by
        rcases Nat.eq_zero_or_pos y with h | h
        · exact h
        · obtain ⟨ad, h1, _⟩ := HR1.out.2.2 h; cases h1
      subst hy0
      have hc0 : c1' = 0 := by
        rcases hnil1 rfl with ⟨-, h⟩ | h
        · exact h
        · exact absurd rfl h
      subst hc0
      have HYN : Hid (Y.flatMap Pr.cells = []) := Lib.hid (by rw [List.eq_nil_of_length_eq_zero HY.out]; rfl)
      clear hnil1 hnil3
      go_region_law (first
        | (refine step_none (by rfl) _ _ _ (by rfl) w.heap.size 31 i0 3 Tryz.underlying32 hi0 (.slice none 0 0) 0 [] (by rfl) (own_nil _ _ _ _) (by rfl) ?_)
        | fail)
      all_goals
        go_wp2_with fail
        go_meet
        exact ⟨_, Lib.hid ((HB1.out.set_ 1 (.slice none 0 0)).ext (Ext.refl _).drew), Lib.hid (by rw [HYN.out]; exact own_nil _ _ _ _), Lib.hid (besideR HE1.out hcw (set_chg W1 w.heap.size 1 (.slice none 0 0))).drew⟩
    | some ad =>
      have hcl : ∀ (j : Nat) u, (Y.flatMap Pr.cells)[j]? = some u → W1.cell? (ad.add j) = some u := fun j u hj => by
        have hp : 0 < y := by
          rcases Nat.eq_zero_or_pos y with h | h
          · have h1 := HR1.out.1
            have := (List.getElem?_eq_some_iff.1 hj).1
            omega
          · exact h
        obtain ⟨ad', h1, h2, h3⟩ := (HR1.out.ext e1).2.2 hp
        obtain rfl : ad = ad' := by injection h1
        exact h3 j u hj
      have HCL := Lib.hid hcl
      have hll : (Y.flatMap Pr.cells).length = y * 3 := HR1.out.1
      have HLL := Lib.hid hll
      clear hcl hll hnil1 hnil3
      go_region_law (first
        | (refine step_appsO (by rfl) _ _ _ (by rfl) w.heap.size 31 i0 _ 3 40 Tryz.underlying32 hi0 hz0 hzs hzb rfl (by omega) (.slice none 0 0) 0 [] (by rfl) (own_nil _ _ _ _) ad y c1' (Y.flatMap Pr.cells) (by rfl) HLL.out (fun j u hj => HCL.out j u hj) (cells_one Y) (by omega) (by omega) hb1 ?_; intro v5 w5 own5 hg5; obtain ⟨A5, c5, rfl, -, -, -⟩ := own_rd own5; have e5 : Ext W1 w5 := own_grown (own_nil _ W1.heap.size 31 3) hg5 W1 (Nat.le_refl _) (by (repeat (with_reducible first | exact Ext.refl _ | assumption | refine Ext.drew ?_ | refine Ext.drewN ?_ _ | refine Ext.alloc ?_ _ | refine Ext.trans ?_ (by with_reducible assumption)))); have B5 := HB1.out.ext e5; have f5 : w5.frozen? ⟨w.heap.size, 1, none⟩ = false := B5.frozen 1; have x5 : w5.cell? ⟨w.heap.size, 1, none⟩ = some (.slice none 0 0) := B5.cell 1)
        | fail)
      all_goals
        go_wp2_with fail
        go_meet
        rw [Nat.zero_add, List.nil_append] at own5
        exact ⟨_, Lib.hid (B5.set_ 1 (.slice A5 y c5)), Lib.hid (own_setR own5 B5 (by decide)), Lib.hid (besideR (HE1.out.trans e5) hcw (set_chg w5 w.heap.size 1 (.slice A5 y c5)))⟩
  case rest =>
  as_aux_lemma =>
  obtain ⟨yv', hbk, hyo, hec⟩ := hcut
  obtain ⟨A7, c7, rfl, -, -, -⟩ := own_rd hyo.out
  have r2 : wc.cell? ⟨mb, 2, none⟩ = some (.slice A3 n c3) := (HR.out.bk.ext hec.out).cell 2
  have q2 : wc.cell? ⟨w.heap.size, 2, none⟩ = some (.slice none 0 0) := hbk.out.cell 2
  have f2 : wc.frozen? ⟨w.heap.size, 2, none⟩ = false := hbk.out.frozen 2
  have hb2 := hec.out.size
  clear r1 q1 f1
  go_upto_region 3 with (fail)
  go_cut [] (fun wd => ∃ lv', Hid (Bk wd w.heap.size 41 #[.int .i64 lim, .slice A7 y c7, lv']) ∧ Hid (wd.ownsRow w.heap.size 31 3 (.slice A7 y c7) y (Y.flatMap Pr.cells)) ∧ Hid (wd.ownsRow w.heap.size 32 1 lv' n vs) ∧ Hid (Ext w wd))
  case first =>
    as_aux_lemma =>
    cases A3 with
    | none =>
      have hy0 : n = 0 := by
        rcases Nat.eq_zero_or_pos n with h | h
        · exact h
        · obtain ⟨ad, h1, _⟩ := HR3.out.2.2 h; cases h1
      subst hy0
      have hc0 : c3 = 0 := by
        rcases hnil3 rfl with ⟨-, h⟩ | h
        · exact h
        · exact absurd rfl h
      subst hc0
      have HYN : Hid (vs = []) := Lib.hid (List.eq_nil_of_length_eq_zero (by have := HR3.out.1; omega))
      clear hnil1 hnil3
      go_region_law (first
        | (refine step_none (by rfl) _ _ _ (by rfl) w.heap.size 32 j0 1 Tryz.underlying22 hj0 (.slice none 0 0) 0 [] (by rfl) (own_nil _ _ _ _) (by rfl) ?_)
        | fail)
      all_goals
        go_wp2_with fail
        go_meet
        exact ⟨_, Lib.hid ((hbk.out.set_ 2 (.slice none 0 0)).ext (Ext.refl _).drew), Lib.hid (own_ext (own_setR hyo.out hbk.out (by decide)) (Ext.refl _).drew), Lib.hid (by rw [HYN.out]; exact own_nil _ _ _ _), Lib.hid (besideR hec.out hcw (set_chg wc w.heap.size 2 (.slice none 0 0))).drew⟩
    | some ad =>
      have hcl : ∀ (j : Nat) u, vs[j]? = some u → wc.cell? (ad.add j) = some u := fun j u hj => by
        have hp : 0 < n := by
          rcases Nat.eq_zero_or_pos n with h | h
          · have h1 := HR3.out.1
            have := (List.getElem?_eq_some_iff.1 hj).1
            omega
          · exact h
        obtain ⟨ad', h1, h2, h3⟩ := (HR3.out.ext hec.out).2.2 hp
        obtain rfl : ad = ad' := by injection h1
        exact h3 j u hj
      have HCL := Lib.hid hcl
      have hll : vs.length = n * 1 := HR3.out.1
      have HLL := Lib.hid hll
      clear hcl hll hnil1 hnil3
      go_region_law (first
        | (refine step_appsO (by rfl) _ _ _ (by rfl) w.heap.size 32 j0 _ 1 24 Tryz.underlying22 hj0 jz0 jzs jzb rfl (by omega) (.slice none 0 0) 0 [] (by rfl) (own_nil _ _ _ _) ad n c3 vs (by rfl) HLL.out (fun j u hj => HCL.out j u hj) H1V.out (by omega) (by omega) hb2 ?_; intro v5 w5 own5 hg5; obtain ⟨A5, c5, rfl, -, -, -⟩ := own_rd own5; have e5 : Ext wc w5 := own_grown (own_nil _ wc.heap.size 32 1) hg5 wc (Nat.le_refl _) (by (repeat (with_reducible first | exact Ext.refl _ | assumption | refine Ext.drew ?_ | refine Ext.drewN ?_ _ | refine Ext.alloc ?_ _ | refine Ext.trans ?_ (by with_reducible assumption)))); have B5 := hbk.out.ext e5; have f5 : w5.frozen? ⟨w.heap.size, 2, none⟩ = false := B5.frozen 2; have x5 : w5.cell? ⟨w.heap.size, 2, none⟩ = some (.slice none 0 0) := B5.cell 2)
        | fail)
      all_goals
        go_wp2_with fail
        go_meet
        rw [Nat.zero_add, List.nil_append] at own5
        exact ⟨_, Lib.hid (B5.set_ 2 (.slice A5 n c5)), Lib.hid (own_setR (own_ext hyo.out e5) B5 (by decide)), Lib.hid (own_setR own5 B5 (by decide)), Lib.hid (besideR (hec.out.trans e5) hcw (set_chg w5 w.heap.size 2 (.slice A5 n c5)))⟩
  case rest =>
  as_aux_lemma =>
  obtain ⟨lv', hbk2, hyo2, hlo2, hec2⟩ := hcut
  go_wp2_with fail
  go_ret
  refine ⟨⟨_, rfl, Nat.le_refl _, .slice A7 y c7, lv', vs, ⟨hbk2.out, ?_, ?_, HR.out.ls.ext hec2.out⟩, fun _ _ => trivial⟩, hec2.out⟩
  · rw [HY.out]; exact own_lower hyo2.out (Nat.zero_le _)
  · rw [HN.out]; exact own_lower hlo2.out (Nat.zero_le _)

end Go.Proofs.YtcgfdhgceokcnaaGreatDoor

/- the references' lsm: Batch. -/
namespace Go.Proofs.YtcgfdhgceokcnaaGreatDoor
open Go.RowKit Go.WideShapes
set_option linter.unusedVariables false
attribute [local go_sem ↓] Go.wp_at_zero Go.wp_at_succ

/-- what Batch leaves -/
def RBatR (mb lim : Nat) (Y : List Pr) (T : List (List Pr)) (b : List Pr) (w : World) (e : Ending) (w' : World) : Prop :=
  ∃ k : Int, doK lim Y T b = k ∧ Ext w w' ∧ ∃ mb', e = .returned (.tuple #[.pointer (some ⟨mb', 0, none⟩), .int .i64 k]) ∧ (k = 0 → RM w' aF mb' lim (runB lim b Y T).1 (runB lim b Y T).2)
theorem ROp.heldR {w0 w w' : World} {G G' : Nat → Prop} {mb : Nat} {lim : Int} {Y : List Pr} {T : List (List Pr)} (h : ROp w w' G mb lim Y T G') (e : Ext w0 w) (hb : w0.heap.size ≤ mb) : Ext w0 w' := besideR e hb h.chg1
theorem RM.anyR {w : World} {G : Nat → Prop} {mb : Nat} {lim : Int} {Y : List Pr} {T : List (List Pr)} (h : RM w G mb lim Y T) : RM w aF mb lim Y T := by
  obtain ⟨yv, lv, vs, hR, hG⟩ := h
  exact ⟨yv, lv, vs, hR, fun _ _ => trivial⟩
/-- how far -/
structure RBI (w0 wr : World) (mb' lim : Nat) (b Y : List Pr) (T : List (List Pr)) (j : Nat) (Yj : List Pr) (Tj : List (List Pr)) : Prop where
  ext : Ext w0 wr
  rm : RM wr aF mb' lim Yj Tj
  run : RunI lim b Y T j Yj Tj
  ok : LsOk (Yj :: Tj)
  young : Yj.length < lim
  many : Tj.length ≤ 8

set_option maxRecDepth 100000 in
set_option maxHeartbeats 4000000 in
theorem RBatch_any (mb lim : Nat) (Y : List Pr) (T : List (List Pr)) (A : Option Addr) (n c : Nat) (b : List Pr) (w : World) (h : RM w aF mb lim Y T) (hr : Rd w 3 A n c (b.flatMap Pr.cells)) (hbl : b.length = n) (hc : c ≤ maxLen) (htot : totL (Y :: T) ≤ 900) (hlim : 1 ≤ lim ∧ lim ≤ 60) (hok : LsOk (Y :: T)) (hY : Y.length < lim) (hT : T.length ≤ 8) :
    Calls Tryz.prog 15 #[.pointer (some ⟨mb, 0, none⟩), .slice A n c] w fun e w' => RBatR mb lim Y T b w e w' := by
  have hn0 := hr.2.1
  have HBL := Lib.hid hbl
  unfold maxLen at hc
  by_cases h20 : n ≤ 20
  case neg =>
    have hk : doK lim Y T b = 4 := if_pos (by omega)
    have HK := Lib.hid hk
    have h20i : (20 : Int) < (n : Int) := by omega
    clear hk h hr hbl htot h20 hok
    go_enter Tryz.func15, Tryz.ntmps15
    go_wp2_with fail
    go_ret2
    exact ⟨4, HK.out, Ext.refl _, _, rfl, fun h => by cases h⟩
  case pos =>
    have h20i : ¬ (20 : Int) < (n : Int) := by omega
    have HR := Lib.hid hr
    have HRM := Lib.hid h
    have HTOT := Lib.hid htot
    have HOK := Lib.hid hok
    have h0 : Hid (∀ p ∈ b.take 0, badP p = false) := Lib.hid (by simp)
    clear h hr htot hbl hok
    go_enter Tryz.func15, Tryz.ntmps15
    go_wp2_with fail
    go_loopw [6] (fun u wr => ∃ i : Nat, u = .int .i64 i ∧ i ≤ n ∧ Ext w wr ∧ Hid (∀ p ∈ b.take i, badP p = false)) (fun u _ => n - (intOf u).toNat)
    case atStart => exact ⟨0, rfl, Nat.zero_le _, Ext.refl _, h0⟩
    case round =>
      obtain ⟨i, rfl, hi, hbw, hgood⟩ := hrel
      by_cases hci : i < n
      · obtain ⟨p, hp⟩ : ∃ p, b[i]? = some p := ⟨_, List.getElem?_eq_getElem (by rw [HBL.out]; exact hci)⟩
        obtain ⟨ad1, rfl, hb1, y0, y1, y2⟩ := (HR.out.ext hbw).getP hp
        have HBAD : Hid (badP p = true → doK lim Y T b = 3) := Lib.hid fun hq => doK_bad (by rw [HBL.out]; exact h20) (List.mem_of_getElem? hp) hq
        have HGOOD : Hid (badP p = false → ∀ q ∈ b.take (i + 1), badP q = false) := Lib.hid fun hq q hm => by
          rw [take_step hp, List.mem_append, List.mem_singleton] at hm
          rcases hm with hm | rfl
          · exact hgood.out q hm
          · exact hq
        obtain ⟨pk, pv, pg⟩ := p
        simp only at y0 y1 y2
        clear hp hgood y0
        cases pg with
        | false =>
          have HN := Lib.hid (HGOOD.out rfl)
          go_wp2_with fail
          go_roundw
          case rel => exact ⟨i + 1, by go_num, by omega, hbw, HN⟩
          case measure => simp [intOf]; omega
        | true =>
          by_cases hv : pv = ⟨#[]⟩
          · subst hv
            have HN := Lib.hid (HGOOD.out rfl)
            go_wp2_with fail
            go_roundw
            case rel => exact ⟨i + 1, by go_num, by omega, hbw, HN⟩
            case measure => simp [intOf]; omega
          · obtain ⟨q1, q2⟩ := str_someP (s := pv) (Nat.pos_of_ne_zero fun h => hv (str_noneP h))
            have hb3 := HBAD.out (by
              unfold badP
              simp only [Bool.true_and, decide_eq_true_eq]
              intro h0
              exact hv (str_noneP h0))
            have HB3 := Lib.hid hb3
            clear hb3
            go_wp2_with fail
            go_ret2
            exact ⟨3, HB3.out, hbw, _, rfl, fun h => by cases h⟩
      · obtain rfl : i = n := by omega
        have HGD := Lib.hid hgood.out
        rw [List.take_of_length_le (by rw [HBL.out]; exact Nat.le_refl _)] at HGD
        have HDK := Lib.hid (doK_run (lim := lim) (Y := Y) (T := T) (by rw [HBL.out]; exact h20) HGD.out)
        have HCP := Lib.hid (RCopy_any mb lim Y T wr (HRM.out.ext hbw) (by omega) (by omega))
        have hws := hbw.size
        clear hgood
        go_wp2_with fail
        refine HCP.out.mono ?_
        rintro _ w2 ⟨⟨mb', rfl, hms, hx⟩, hb2⟩
        have e2 := hbw.trans hb2
        have HI0 : Hid (RBI w w2 mb' lim b Y T 0 Y T) := Lib.hid ⟨e2, hx, ⟨rfl, rfl, HTOT.out⟩, HOK.out, hY, hT⟩
        clear hx HCP
        go_wp2_with fail
        go_loopw [8, 9] (fun u _ wq => ∃ (j : Nat) (Yj : List Pr) (Tj : List (List Pr)), u = .int .i64 j ∧ j ≤ i ∧ Hid (RBI w wq mb' lim b Y T j Yj Tj)) (fun u _ _ => i - (intOf u).toNat)
        case atStart => exact ⟨0, Y, T, rfl, Nat.zero_le _, HI0⟩
        case round =>
          obtain ⟨j, Yj, Tj, rfl, hj, hinv⟩ := hrel
          by_cases hcj : j < i
          · obtain ⟨p, hp⟩ : ∃ p, b[j]? = some p := ⟨_, List.getElem?_eq_getElem (by rw [HBL.out]; exact hcj)⟩
            obtain ⟨ad1, rfl, hb1, y0, y1, y2⟩ := (HR.out.ext hinv.out.ext).getP hp
            have hgp := badP_ok (HGD.out p (List.mem_of_getElem? hp))
            have hI := hinv.out
            have HC := Lib.hid (RPut_any aF mb' lim Yj Tj p wr hI.rm (by have h1 := hI.run.2.2; rw [totL_cons] at h1; omega) (by have := hI.many; omega) hlim.1 hI.ok.hd.1 (by have := hI.young; omega))
            obtain ⟨k, hk⟩ : ∃ k, putK Yj p = k := ⟨_, rfl⟩
            rw [hk] at HC
            have HBD : Hid (k ≠ 0 → doK lim Y T b = k) := Lib.hid fun h0 => HDK.out.trans (hI.run.bad hp hk h0)
            have HNX : Hid (k = 0 → ∀ w', Ext w w' → RM w' aF mb' lim (doY lim Yj p) (doT lim Yj Tj p) → RBI w w' mb' lim b Y T (j + 1) (doY lim Yj p) (doT lim Yj Tj p)) := Lib.hid fun h0 w' e hrm => ⟨e, hrm, hI.run.next hp (by rw [hk]; exact h0), do_ok hI.ok hgp, do_young hI.young, do_many hI.many⟩
            have HX := Lib.hid hI.ext
            obtain ⟨Yn, hYn⟩ : ∃ x, doY lim Yj p = x := ⟨_, rfl⟩
            obtain ⟨Tn, hTn⟩ : ∃ x, doT lim Yj Tj p = x := ⟨_, rfl⟩
            rw [hYn, hTn] at HC HNX
            obtain ⟨pk, pv, pg⟩ := p
            simp only at y0 y1 y2
            clear hI hinv hp hk hYn hTn hgp
            go_wp2_with fail
            refine HC.out.mono ?_
            rintro _ w3 ⟨rfl, G3, hop⟩
            have e3 := hop.heldR HX.out (by omega)
            have HM3 := Lib.hid hop.at_.anyR
            clear hop HC
            by_cases hk0 : k = 0
            · subst hk0
              have HN := Lib.hid (HNX.out rfl w3 e3 HM3.out)
              go_wp2_with fail
              go_roundw
              case rel => exact ⟨j + 1, Yn, Tn, by go_num, by omega, HN⟩
              case measure => simp [intOf]; omega
            · have HB := Lib.hid (HBD.out hk0)
              have HK0 := Lib.hid hk0
              have hkb : (k == 0) = false := beq_eq_false_iff_ne.2 hk0
              clear HNX HBD
              go_wp2_with fail
              go_ret2
              exact ⟨k, HB.out, e3, _, rfl, fun h => absurd h HK0.out⟩
          · obtain rfl : j = i := by omega
            have hI := hinv.out
            obtain ⟨hk1, hk2⟩ := hI.run.end_ (by rw [HBL.out]; exact Nat.le_refl _)
            have HK1 := Lib.hid hk1
            have HK2 := Lib.hid hk2
            have HL := Lib.hid hI.rm
            have HX := Lib.hid hI.ext
            clear hinv hI hk1 hk2
            go_wp2_with fail
            go_ret2
            exact ⟨0, HDK.out.trans HK1.out, HX.out, _, rfl, fun _ => by rw [HK2.out]; exact HL.out⟩
end Go.Proofs.YtcgfdhgceokcnaaGreatDoor

/- witsame.Error at its own number. -/
namespace Go.Proofs.YtcgfdhgceokcnaaGreatDoor
open Go.RowKit
theorem errIs_eq (k : Int) : errIs k k = true := by unfold errIs; simp
theorem Error_is (k : Int) (w : World) (hg : ErrG w) : Calls Tryz.prog 16 #[errR k, .int .i64 k] w fun e w' => e = .returned (.bool true) ∧ Ext w w' :=
  (Error_any k k w hg).mono fun e w' hh => ⟨hh.1.trans (by rw [errIs_eq]), hh.2⟩
end Go.Proofs.YtcgfdhgceokcnaaGreatDoor
