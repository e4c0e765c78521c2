/- wittop.follow: a mirror hears all of a log. -/
import Derived.Test.YtnphbkjkeipmmaaGreatDoorJRunBegins21
import Derived.Test.YtnphbkjkeipmmaaGreatDoorJRunBegins18
import Derived.Test.YtnphbkjkeipmmaaGreatDoorJRunBegins22
import Derived.Test.YtnphbkjkeipmmaaGreatDoorJRunBegins14
import Derived.Test.YtnphbkjkeipmmaaGreatDoorJRunBegins16
import Derived.Test.YtnphbkjkeipmmaaGreatDoorJRunBegins10
import Derived.Deep.DeepCutAuto
namespace Go.Proofs.YtnphbkjkeipmmaaGreatDoor
open Go.RowKit Go.WideShapes
set_option linter.unusedVariables false
attribute [local go_sem ↓] Go.wp_at_zero Go.wp_at_succ

/-- a mirror that heard so many of a log of n -/
def fol (key : Int) (es : List Ent) (h : Hd) (n a : Nat) : Mi := if a < n then pg key es 0 hd00 h a else st key es n h
theorem fol_lt {key : Int} {es : List Ent} {h : Hd} {n a : Nat} (k : a < n) : fol key es h n a = pg key es 0 hd00 h a := if_pos k
theorem fol_ge {key : Int} {es : List Ent} {h : Hd} {n a : Nat} (k : ¬ a < n) : fol key es h n a = st key es n h := if_neg k
/-- a part of a slice of entries -/
theorem Rd.partE {w : World} {ad : Addr} {n c a b : Nat} {es : List Ent} (h : Rd w 2 (some ad) n c (es.flatMap Ent.cells)) (hab : a ≤ b) (hb : b ≤ n) : Rd w 2 (some (ad.add (a * 2))) (b - a) (c - a) (((es.take b).drop a).flatMap Ent.cells) := by
  have hx := h.lenE
  have hc := h.2.1
  refine ⟨?_, by omega, fun hn => ?_⟩
  · rw [flat_len Ent.cells 2 (fun _ => rfl), List.length_drop, List.length_take, Nat.min_eq_left (by omega)]
  · obtain ⟨ad', e, hl, hcell⟩ := h.2.2 (by omega)
    injection e with e
    subst e
    refine ⟨_, rfl, by rw [blk_add]; exact hl, fun j u hu => ?_⟩
    rw [add_add']
    refine hcell _ u ?_
    obtain ⟨i, r, y, hi, hr, rfl, hy, hru⟩ := flat_get Ent.cells 2 (fun _ => rfl) _ _ _ hu
    have h1 : es[a + i]? = some y := by
      rw [List.getElem?_drop, List.getElem?_take] at hy
      split at hy
      · exact hy
      · cases hy
    have := flat_nth (f := Ent.cells) (k := 2) (fun _ => rfl) es (a + i) y r h1 hr
    rw [hru] at this
    rw [← this]
    congr 1
    rw [Nat.add_mul]; omega

theorem field_want (a b c : Int) (W : World) : (Instr.field 60 (.agg #[.int .i64 a, .int .i64 b, .int .i64 c]) 0).run Tryz.prog W = .ok (.int .i64 a) W := by kernel_rfl
/-- a mirror of none hears a head -/
theorem fol_head (P : Nat → Prop) (mb : Nat) (key : Int) (es : List Ent) (h : Hd) (n : Nat) (w0 W : World) (hE : Ext w0 W) (hD : DebG w0) (hPow : PowG w0) (hPn : ∀ g, W.heap.size ≤ g → P g) (hM : MM 75 W P mb (st key es 0 hd00)) (hn1 : 1 ≤ n) (hv : verK h key = 0) (hs : h.size = (n : Int)) :
    Calls Tryz.prog 104 #[.pointer (some ⟨mb, 0, none⟩), .agg #[.int .i64 1, .int .i64 h.size, .int .i64 h.root, .int .i64 h.time, .int .i64 h.sign, .slice none 0 0, .slice none 0 0]] W fun e w' => e = .returned .nilIface ∧ MM 75 w' P mb (pg key es 0 hd00 h 0) ∧ Chg W w' P := by
  have h1 := Hear_any P mb (st key es 0 hd00) ⟨1, h, [], []⟩ none 0 0 none 0 0 W hM hPn (hD.ext hE) (hPow.ext hE) (Rd.nil _ _ _ _) (Nat.zero_le _) (Rd.nil _ _ _ _) (Nat.zero_le _)
  rw [st_hear (Nat.zero_le _) hv (by rw [hs]; omega)] at h1
  exact h1
/-- and a page -/
theorem fol_some (P : Nat → Prop) (mb : Nat) (key : Int) (es : List Ent) (h : Hd) (ad : Addr) (n c a b : Nat) (w0 W : World) (hE : Ext w0 W) (hD : DebG w0) (hPow : PowG w0) (hPn : ∀ g, W.heap.size ≤ g → P g) (hM : MM 75 W P mb (pg key es 0 hd00 h a)) (ha : a < n) (hb : b = min n (a + 16))
    (hr : Rd W 2 (some ad) n c (es.flatMap Ent.cells)) (hm : c ≤ maxLen) (hk : entsOk es) (hs : h.size = (n : Int)) (hro : h.root = ofL (es.map Ent.leaf)) :
    Calls Tryz.prog 104 #[.pointer (some ⟨mb, 0, none⟩), .agg #[.int .i64 2, .int .i64 0, .int .i64 0, .int .i64 0, .int .i64 0, .slice (some (ad.add (a * 2))) (b - a) (c - a), .slice none 0 0]] W fun e w' => e = .returned .nilIface ∧ MM 75 w' P mb (fol key es h n b) ∧ Chg W w' P := by
  have hx := hr.lenE
  have htk : es.take n = es := List.take_of_length_le (by omega)
  have hnc := hr.2.1
  have hrW := hr.partE (a := a) (b := b) (by omega) (by omega)
  have h1 := Hear_any P mb (pg key es 0 hd00 h a) ⟨2, hd00, (es.take b).drop a, []⟩ (some (ad.add (a * 2))) (b - a) (c - a) none 0 0 W hM hPn (hD.ext hE) (hPow.ext hE) hrW (by omega) (Rd.nil _ _ _ _) (Nat.zero_le _)
  rw [pg_hear (Nat.zero_le _) ha (by omega) hs (by rw [htk]; exact hk) (by rw [htk]; exact hro) (by omega)] at h1
  have e2 : (if 0 = 0 ∧ b = n then st key es n h else pg key es 0 hd00 h b) = fol key es h n b := by
    by_cases h2 : b < n
    · rw [fol_lt h2, if_neg (by omega)]
    · rw [fol_ge h2, if_pos ⟨rfl, by omega⟩]
  rw [e2] at h1
  exact h1
/-- a head that tells nothing new -/
theorem st_same {key : Int} {es : List Ent} {o : Nat} {hd h : Hd} {l : List Ent} {ps : List Int} (ho : o ≤ es.length) (hk : entsOk (es.take o)) (hv : verK h key = 0) (hs : h.size = (o : Int)) (hr : h.root = ofL ((es.take o).map Ent.leaf)) (ht : h.time = 0) (hds : hd.size = (o : Int)) (hdt : 0 ≤ hd.time) :
    (st key es o hd).hear ⟨1, h, l, ps⟩ = (st key es o hd, 0) := by
  rw [hear_head rfl]
  have hlo : (st key es o hd).own.length = o := by show (es.take o).length = o; rw [List.length_take]; omega
  unfold Mi.hearH
  rw [hlo, if_neg (show ¬ verK h (st key es o hd).key ≠ 0 from not_not_intro hv), if_neg, if_neg (by omega), if_neg]
  · unfold betB
    show ¬ (decide (hd.size < h.size) || (decide (h.size = hd.size) && decide (hd.time < h.time))) = true
    have h1 : ¬ hd.size < h.size := by omega
    have h2 : ¬ hd.time < h.time := by omega
    simp [h1, h2]
  · rintro (h1 | ⟨_, h1⟩)
    · omega
    · exact h1 (by show h.root = rootE (es.take o); rw [rootE_ok hk, hr])
end Go.Proofs.YtnphbkjkeipmmaaGreatDoor

/- run: the log's reply to what the mirror wants. -/
namespace Go.Proofs.YtnphbkjkeipmmaaGreatDoor
open Go.RowKit Go.WideShapes
set_option linter.unusedVariables false
attribute [local go_sem ↓] Go.wp_at_zero Go.wp_at_succ

/-- a reply of what is new -/
def RpNew (b : Nat) (w : World) (r : Rp) (A : Option Addr) (n c : Nat) (A' : Option Addr) (n' c' : Nat) : Prop := w.ownsRow b 67 2 (.slice A n c) n (r.ents.flatMap Ent.cells) ∧ w.ownsRow b 3 1 (.slice A' n' c') n' (r.proof.map (Value.int .i64))
def ReplyR (w : World) (r : Rp) (e : Ending) (w' : World) : Prop := (∃ A n c A' n' c', e = .returned (.tuple #[replyV r.what r.head A n c A' n' c', .nilIface]) ∧ RpNew w.heap.size w' r A n c A' n' c') ∧ Ext w w'
set_option maxRecDepth 100000 in
set_option maxHeartbeats 4000000 in
theorem Reply_1 (db mb : Nat) (ve va vw : Value) (d : Dk) (w : World) (h : DAt 45 75 w db ve mb va vw d) (hD : DebG w) (hP : PowG w) :
    Calls Tryz.prog 102 #[.pointer (some ⟨db, 0, none⟩), .agg #[.int .i64 1, .int .i64 0, .int .i64 0]] w (ReplyR w ⟨1, shH d.es 7 0, [], []⟩) := by
  obtain ⟨A, c, hva, hc1, hrd, -⟩ := own_rd h.own
  have hk := shK_ok h.good.es
  have HSH : Hid (∀ W, Ext w W → Calls Tryz.prog 83 #[.slice A d.es.length c, .int .i64 7, .int .i64 0] W fun e w' => e = .returned (.tuple #[(shH d.es 7 0).val, .nilIface]) ∧ Ext W w') := Lib.hid fun W e => by
    have := SHead_any A d.es.length c d.es 7 0 W (hrd.ext e) hc1 (hD.ext e) (hP.ext e)
    rw [hk, errR_0] at this
    exact this
  have HVA := Lib.hid hva
  have HD := Lib.hid h
  obtain ⟨zh, hzh⟩ : ∃ x, shH d.es 7 0 = x := ⟨_, rfl⟩
  rw [hzh] at HSH ⊢
  obtain ⟨z0, z1, z2, z3⟩ := zh
  simp only [Hd.val] at HSH
  obtain ⟨n, hn⟩ : ∃ n, d.es.length = n := ⟨_, rfl⟩
  rw [hn] at HSH HVA
  clear hva hc1 hrd hk hzh hD hP h hn
  have B6 := ((Bk.at_ w 60 #[.int .i64 1, .int .i64 0, .int .i64 0] w.heap.size rfl).alloc (.cells #[.int .i64 0, .int .i64 0, .int .i64 0, .int .i64 0, .int .i64 0, .slice none 0 0, .slice none 0 0] 87)).alloc (.cells #[.int .i64 1, .int .i64 0, .int .i64 0, .int .i64 0, .int .i64 0, .slice none 0 0, .slice none 0 0] 87)
  have B8 := (Bk.at_ (w.alloc (.cells #[.int .i64 1, .int .i64 0, .int .i64 0] 60)) 87 #[.int .i64 0, .int .i64 0, .int .i64 0, .int .i64 0, .int .i64 0, .slice none 0 0, .slice none 0 0] (w.heap.size + 1) (by simp)).alloc (.cells #[.int .i64 1, .int .i64 0, .int .i64 0, .int .i64 0, .int .i64 0, .slice none 0 0, .slice none 0 0] 87)
  have B9 := Bk.at_ ((w.alloc (.cells #[.int .i64 1, .int .i64 0, .int .i64 0] 60)).alloc (.cells #[.int .i64 0, .int .i64 0, .int .i64 0, .int .i64 0, .int .i64 0, .slice none 0 0, .slice none 0 0] 87)) 87 #[.int .i64 1, .int .i64 0, .int .i64 0, .int .i64 0, .int .i64 0, .slice none 0 0, .slice none 0 0] (w.heap.size + 1 + 1) (by simp)
  have e0 : Ext w (((w.alloc (.cells #[.int .i64 1, .int .i64 0, .int .i64 0] 60)).alloc (.cells #[.int .i64 0, .int .i64 0, .int .i64 0, .int .i64 0, .int .i64 0, .slice none 0 0, .slice none 0 0] 87)).alloc (.cells #[.int .i64 1, .int .i64 0, .int .i64 0, .int .i64 0, .int .i64 0, .slice none 0 0, .slice none 0 0] 87)) := (((Ext.refl w).alloc _).alloc _).alloc _
  go_enter Tryz.func102, Tryz.ntmps102
  go_upto_region 9 with (fail)
  generalize (((w.alloc (.cells #[.int .i64 1, .int .i64 0, .int .i64 0] 60)).alloc (.cells #[.int .i64 0, .int .i64 0, .int .i64 0, .int .i64 0, .int .i64 0, .slice none 0 0, .slice none 0 0] 87)).alloc (.cells #[.int .i64 1, .int .i64 0, .int .i64 0, .int .i64 0, .int .i64 0, .slice none 0 0, .slice none 0 0] 87)) = W0 at *
  obtain ⟨g0, hg0⟩ : ∃ g, w.heap.size = g := ⟨_, rfl⟩
  rw [hg0] at B6 B8 B9
  try rw [hg0]
  have HG := Lib.hid hg0
  have HE0 := Lib.hid e0
  have HB6 := Lib.hid B6
  have HB8 := Lib.hid B8
  have HB9 := Lib.hid B9
  clear hg0 e0 B6 B8 B9
  have b0 : W0.cell? ⟨db, 0, none⟩ = some (.slice A n c) := by rw [← HVA.out]; exact (HD.out.ext HE0.out).bk.cell 0
  go_wp2_with fail
  refine (HSH.out _ HE0.out).mono ?_
  rintro _ w1 ⟨rfl, hb1⟩
  have B9 := HB9.out.ext hb1
  have B8 := HB8.out.ext hb1
  have x1 := B9.cell 1
  have x2 := B9.cell 2
  have x3 := B9.cell 3
  have x4 := B9.cell 4
  have q1 := B9.frozen 1
  have q2 := B9.frozen 2
  have q3 := B9.frozen 3
  have q4 := B9.frozen 4
  have C9 : Bk ((((w1.setCell ⟨g0 + 1 + 1, 1, none⟩ (.int .i64 z0)).setCell ⟨g0 + 1 + 1, 2, none⟩ (.int .i64 z1)).setCell ⟨g0 + 1 + 1, 3, none⟩ (.int .i64 z2)).setCell ⟨g0 + 1 + 1, 4, none⟩ (.int .i64 z3)) (g0 + 1 + 1) 87 #[.int .i64 1, .int .i64 z0, .int .i64 z1, .int .i64 z2, .int .i64 z3, .slice none 0 0, .slice none 0 0] := (((B9.set_ 1 _).set_ 2 _).set_ 3 _).set_ 4 _
  have C8 : Bk ((((w1.setCell ⟨g0 + 1 + 1, 1, none⟩ (.int .i64 z0)).setCell ⟨g0 + 1 + 1, 2, none⟩ (.int .i64 z1)).setCell ⟨g0 + 1 + 1, 3, none⟩ (.int .i64 z2)).setCell ⟨g0 + 1 + 1, 4, none⟩ (.int .i64 z3)) (g0 + 1) 87 #[.int .i64 0, .int .i64 0, .int .i64 0, .int .i64 0, .int .i64 0, .slice none 0 0, .slice none 0 0] := (((B8.far (by simp) _).far (by simp) _).far (by simp) _).far (by simp) _
  have E9 : Ext w ((((w1.setCell ⟨g0 + 1 + 1, 1, none⟩ (.int .i64 z0)).setCell ⟨g0 + 1 + 1, 2, none⟩ (.int .i64 z1)).setCell ⟨g0 + 1 + 1, 3, none⟩ (.int .i64 z2)).setCell ⟨g0 + 1 + 1, 4, none⟩ (.int .i64 z3)) := ((((HE0.out.trans hb1).setCell (by have := HG.out; show _ ≤ g0 + 1 + 1; omega) _).setCell (by have := HG.out; show _ ≤ g0 + 1 + 1; omega) _).setCell (by have := HG.out; show _ ≤ g0 + 1 + 1; omega) _).setCell (by have := HG.out; show _ ≤ g0 + 1 + 1; omega) _
  have HC8 := Lib.hid C8
  have HC9 := Lib.hid C9
  have HE9 := Lib.hid E9
  clear hb1 B8 B9 C8 C9 E9 HB6 HB8 HB9
  go_upto_region 12 with (fail)
  generalize ((((w1.setCell ⟨g0 + 1 + 1, 1, none⟩ (.int .i64 z0)).setCell ⟨g0 + 1 + 1, 2, none⟩ (.int .i64 z1)).setCell ⟨g0 + 1 + 1, 3, none⟩ (.int .i64 z2)).setCell ⟨g0 + 1 + 1, 4, none⟩ (.int .i64 z3)) = W3 at *
  clear x1 x2 x3 x4 q1 q2 q3 q4 b0
  have y0 := HC9.out.cell 0
  have y1 := HC9.out.cell 1
  have y2 := HC9.out.cell 2
  have y3 := HC9.out.cell 3
  have y4 := HC9.out.cell 4
  have y5 := HC9.out.cell 5
  have y6 := HC9.out.cell 6
  go_wp2_with (refine wpl_store7 (by rfl) 87 _ _ (by rfl) (g0 + 1) 87 _ _ _ _ _ _ _ 1 z0 z1 z2 z3 none none 0 0 0 0 (by rfl) (by rfl) Tryz.sizeOf87 HC8.out ?_; intro w9 k1 k2; have K1 := Lib.hid k1; have K2 := Lib.hid k2; clear k1 k2)
  have p0 := K1.out.cell 0
  have p1 := K1.out.cell 1
  have p2 := K1.out.cell 2
  have p3 := K1.out.cell 3
  have p4 := K1.out.cell 4
  have p5 := K1.out.cell 5
  have p6 := K1.out.cell 6
  refine bodyPost_ret (by simp [results, Tryz.results102, go_sem, p0, p1, p2, p3, p4, p5, p6]; try rfl) rfl ?_
  have hge : w.heap.size ≤ g0 + 1 := by have := HG.out; omega
  refine ⟨⟨none, 0, 0, none, 0, 0, rfl, own_nil _ _ _ _, own_nil _ _ _ _⟩, HE9.out.gbn K2.out hge⟩
set_option maxRecDepth 100000 in
set_option maxHeartbeats 4000000 in
theorem Reply_2 (db mb : Nat) (ve va vw : Value) (d : Dk) (a b : Nat) (w : World) (h : DAt 45 75 w db ve mb va vw d) (hab : a < b) (hb : b ≤ d.es.length) :
    Calls Tryz.prog 102 #[.pointer (some ⟨db, 0, none⟩), .agg #[.int .i64 2, .int .i64 a, .int .i64 b]] w (ReplyR w ⟨2, hd00, (d.es.take b).drop a, []⟩) := by
  obtain ⟨A, c, hva, hc1, hrd, -⟩ := own_rd h.own
  have hl := h.good.es.1
  have HL : Hid ((((d.es.take b).drop a).flatMap Ent.cells).length = (b - a) * 2) := by
    show _ = _
    rw [flat_len Ent.cells 2 (fun _ => rfl), List.length_drop, List.length_take, Nat.min_eq_left hb]
  obtain ⟨n, hn⟩ : ∃ n, d.es.length = n := ⟨_, rfl⟩
  rw [hn] at hva hrd hb hl
  obtain ⟨ad, hA, hbA, hcA0⟩ := hrd.2.2 (by omega)
  subst hA
  have hpt := hrd.partE (a := a) (b := b) (by omega) hb
  have hnc := hrd.2.1
  have hcs : c ≤ 9223372036854775807 := by unfold maxLen at hc1; omega
  have HPT := Lib.hid hpt
  have HVA := Lib.hid hva
  have HD := Lib.hid h
  have habi : (a : Int) ≤ (b : Int) := by omega
  have hbn : (b : Int) ≤ (n : Int) := by omega
  have hbc : (b : Int) ≤ (c : Int) := by omega
  obtain ⟨i0, hi0, hz0, hzs, hzb⟩ := info_parts info_ent
  clear hva hc1 hrd h hn hpt hcA0
  have B6 := ((Bk.at_ w 60 #[.int .i64 2, .int .i64 a, .int .i64 b] w.heap.size rfl).alloc (.cells #[.int .i64 0, .int .i64 0, .int .i64 0, .int .i64 0, .int .i64 0, .slice none 0 0, .slice none 0 0] 87)).alloc (.cells #[.int .i64 2, .int .i64 0, .int .i64 0, .int .i64 0, .int .i64 0, .slice none 0 0, .slice none 0 0] 87)
  have B8 := (Bk.at_ (w.alloc (.cells #[.int .i64 2, .int .i64 a, .int .i64 b] 60)) 87 #[.int .i64 0, .int .i64 0, .int .i64 0, .int .i64 0, .int .i64 0, .slice none 0 0, .slice none 0 0] (w.heap.size + 1) (by simp)).alloc (.cells #[.int .i64 2, .int .i64 0, .int .i64 0, .int .i64 0, .int .i64 0, .slice none 0 0, .slice none 0 0] 87)
  have B9 := Bk.at_ ((w.alloc (.cells #[.int .i64 2, .int .i64 a, .int .i64 b] 60)).alloc (.cells #[.int .i64 0, .int .i64 0, .int .i64 0, .int .i64 0, .int .i64 0, .slice none 0 0, .slice none 0 0] 87)) 87 #[.int .i64 2, .int .i64 0, .int .i64 0, .int .i64 0, .int .i64 0, .slice none 0 0, .slice none 0 0] (w.heap.size + 1 + 1) (by simp)
  have e0 : Ext w (((w.alloc (.cells #[.int .i64 2, .int .i64 a, .int .i64 b] 60)).alloc (.cells #[.int .i64 0, .int .i64 0, .int .i64 0, .int .i64 0, .int .i64 0, .slice none 0 0, .slice none 0 0] 87)).alloc (.cells #[.int .i64 2, .int .i64 0, .int .i64 0, .int .i64 0, .int .i64 0, .slice none 0 0, .slice none 0 0] 87)) := (((Ext.refl w).alloc _).alloc _).alloc _
  go_enter Tryz.func102, Tryz.ntmps102
  go_upto_region 11 with (fail)
  generalize (((w.alloc (.cells #[.int .i64 2, .int .i64 a, .int .i64 b] 60)).alloc (.cells #[.int .i64 0, .int .i64 0, .int .i64 0, .int .i64 0, .int .i64 0, .slice none 0 0, .slice none 0 0] 87)).alloc (.cells #[.int .i64 2, .int .i64 0, .int .i64 0, .int .i64 0, .int .i64 0, .slice none 0 0, .slice none 0 0] 87)) = W0 at *
  obtain ⟨g0, hg0⟩ : ∃ g, w.heap.size = g := ⟨_, rfl⟩
  rw [hg0] at B6 B8 B9
  try rw [hg0]
  have HG := Lib.hid hg0
  have HE0 := Lib.hid e0
  have HB6 := Lib.hid B6
  have HB8 := Lib.hid B8
  have HB9 := Lib.hid B9
  clear hg0 e0 B6 B8 B9
  have b0 : ∀ x : WE W0, x.W.cell? ⟨db, 0, none⟩ = some (.slice (some ad) n c) := fun x => by rw [← HVA.out]; exact (HD.out.ext (HE0.out.trans x.h)).bk.cell 0
  have u1 : ∀ x : WE W0, x.W.cell? ⟨g0, 1, none⟩ = some (.int .i64 a) := fun x => (HB6.out.ext x.h).cell 1
  have u2 : ∀ x : WE W0, x.W.cell? ⟨g0, 2, none⟩ = some (.int .i64 b) := fun x => (HB6.out.ext x.h).cell 2
  have y5 : ∀ x : WE W0, x.W.cell? ⟨g0 + 1 + 1, 5, none⟩ = some (.slice none 0 0) := fun x => (HB9.out.ext x.h).cell 5
  (refine wp_region_ext_tail (w0 := W0) 11 (by kernel_rfl) (by kernel_rfl) (by (repeat (with_reducible first | exact Ext.refl _ | assumption | refine Ext.drew ?_ | refine Ext.drewN ?_ _ | refine Ext.alloc ?_ _ | refine Ext.trans ?_ (by with_reducible assumption)))) ?_; simp only [List.take_succ_cons, List.take_zero, List.drop_succ_cons, List.drop_zero]; (repeat (go_big_quiet_step (fail))); refine wpQuiet_nil ?_)
  rintro _ ⟨xq, rfl⟩
  obtain ⟨w6, hw6⟩ : ∃ w, xq.W = w := ⟨_, rfl⟩
  have hb6 : Ext W0 w6 := by rw [← hw6]; exact xq.h
  rw [hw6]
  clear hw6 b0 u1 u2 y5
  have hsz6 := Nat.le_trans HE0.out.size hb6.size
  go_upto_region 12 with (at_builtin; refine wpl_apps (by rfl) _ _ _ (by rfl) w.heap.size 67 i0 _ 2 24 Tryz.underlying27 hi0 hz0 hzs hzb rfl (by omega) (.slice none 0 0) 0 [] (by rfl) (own_nil _ _ _ _) (ad.add (a * 2)) (b - a) (c - a) (((d.es.take b).drop a).flatMap Ent.cells) (by rfl) HL.out (fun j u hu => by obtain ⟨ad', e1, _, e3⟩ := (HPT.out.ext (HE0.out.trans hb6)).2.2 (by omega); injection e1 with e1; subst e1; exact e3 j u hu) (ones_ents _) (by omega) (by omega) (by omega) hsz6 ?_; intro g cap w5 own5 hg5 hH5 hl5; rw [Nat.zero_add, List.nil_append] at own5; have B5 := (HB9.out.ext hb6).ext (gb_none hg5); have v5 : w5.cell? ⟨g0 + 1 + 1, 5, none⟩ = some (.slice none 0 0) := B5.cell 5; have q5 := B5.frozen 5)
  have E5 : Ext W0 w5 := hb6.trans (gb_none hg5)
  have K9 := B5.set_ 5 (.slice (some ⟨g, 0, none⟩) (b - a) cap)
  have K8 := (HB8.out.ext E5).far (p := ⟨g0 + 1 + 1, 5, none⟩) (by show _ ≠ g0 + 1 + 1; omega) (.slice (some ⟨g, 0, none⟩) (b - a) cap)
  have KE := (HE0.out.trans E5).setCell (p := ⟨g0 + 1 + 1, 5, none⟩) (by have := HG.out; show _ ≤ g0 + 1 + 1; omega) (.slice (some ⟨g, 0, none⟩) (b - a) cap)
  have KO := own5.kept (gb_set w5 (g0 + 1 + 1) 5 (.slice (some ⟨g, 0, none⟩) (b - a) cap)) (.inr (own_type own5 B5 (by decide)))
  have HC9 := Lib.hid K9
  have HC8 := Lib.hid K8
  have HE9 := Lib.hid KE
  have HKO := Lib.hid KO
  clear K9 K8 KE KO own5 hg5 hH5 B5
  generalize w5.setCell ⟨g0 + 1 + 1, 5, none⟩ (.slice (some ⟨g, 0, none⟩) (b - a) cap) = W3 at *
  clear v5 q5
  have y0 := HC9.out.cell 0
  have y1 := HC9.out.cell 1
  have y2 := HC9.out.cell 2
  have y3 := HC9.out.cell 3
  have y4 := HC9.out.cell 4
  have y5 := HC9.out.cell 5
  have y6 := HC9.out.cell 6
  go_wp2_with (refine wpl_store7 (by rfl) 87 _ _ (by rfl) (g0 + 1) 87 _ _ _ _ _ _ _ 2 0 0 0 0 (some ⟨g, 0, none⟩) none (b - a) cap 0 0 (by rfl) (by rfl) Tryz.sizeOf87 HC8.out ?_; intro w9 k1 k2; have K1 := Lib.hid k1; have K2 := Lib.hid k2; clear k1 k2)
  have p0 := K1.out.cell 0
  have p1 := K1.out.cell 1
  have p2 := K1.out.cell 2
  have p3 := K1.out.cell 3
  have p4 := K1.out.cell 4
  have p5 := K1.out.cell 5
  have p6 := K1.out.cell 6
  refine bodyPost_ret (by simp [results, Tryz.results102, go_sem, p0, p1, p2, p3, p4, p5, p6]; try rfl) rfl ?_
  have hge : w.heap.size ≤ g0 + 1 := by have := HG.out; omega
  refine ⟨⟨(some ⟨g, 0, none⟩), (b - a), cap, none, 0, 0, rfl, HKO.out.kept K2.out (.inr (own_type HKO.out HC8.out (by decide))), own_nil _ _ _ _⟩, HE9.out.gbn K2.out hge⟩
set_option maxRecDepth 100000 in
set_option maxHeartbeats 4000000 in
theorem Reply_3 (db mb : Nat) (ve va vw : Value) (d : Dk) (o t : Nat) (w : World) (h : DAt 45 75 w db ve mb va vw d) (ho : 1 ≤ o) (hot : o < t) (ht : t ≤ d.es.length) :
    Calls Tryz.prog 102 #[.pointer (some ⟨db, 0, none⟩), .agg #[.int .i64 3, .int .i64 o, .int .i64 t]] w (ReplyR w ⟨3, hd00, [], gmV (d.es.map Ent.leaf) o t⟩) := by
  obtain ⟨A, c, hva, hc1, hrd, -⟩ := own_rd h.own
  have hlf := leafs_of_ents h.good.es
  have hlen : (d.es.map Ent.leaf).length = d.es.length := List.length_map ..
  have hgk : gmK (d.es.map Ent.leaf) o t = 0 := gmK_ok hlf ⟨by omega, by omega, by rw [hlen]; omega⟩
  obtain ⟨n, hn⟩ : ∃ n, d.es.length = n := ⟨_, rfl⟩
  have HLF : Hid (∀ W, Ext w W → Calls Tryz.prog 84 #[.slice A n c] W fun e w' => (∃ A2 c2, e = .returned (.tuple #[.slice A2 n c2, .nilIface]) ∧ c2 ≤ maxLen ∧ Rd w' 1 A2 n c2 ((d.es.map Ent.leaf).map (Value.int .i64))) ∧ Ext W w') := Lib.hid fun W e => by
    rw [hn] at hrd
    have h1 := Leafs_ok A n c d.es W (hrd.ext e) hc1 h.good.es
    rw [hn] at h1
    refine h1.mono fun e' w' hh => ?_
    obtain ⟨⟨v, q1, q2⟩, q3⟩ := hh
    obtain ⟨A2, c2, rfl, q4, q5, _⟩ := own_rd q2
    exact ⟨⟨A2, c2, q1, q4, q5⟩, q3⟩
  have HGM : Hid (∀ W A2 c2, Rd W 1 A2 n c2 ((d.es.map Ent.leaf).map (Value.int .i64)) → c2 ≤ maxLen → Calls Tryz.prog 88 #[.slice A2 n c2, .int .i64 o, .int .i64 t] W fun e w' => (∃ A3 n3 c3, e = .returned (.tuple #[.slice A3 n3 c3, .nilIface]) ∧ w'.ownsRow W.heap.size 3 1 (.slice A3 n3 c3) n3 ((gmV (d.es.map Ent.leaf) o t).map (Value.int .i64))) ∧ Ext W w') := Lib.hid fun W A2 c2 h1 h2 => by
    refine (GMake_any A2 n c2 (d.es.map Ent.leaf) o t W h1 h2).mono fun e' w' hh => ?_
    obtain ⟨⟨v, q1, q2⟩, q3⟩ := hh
    rw [hgk, errR_0] at q1
    obtain ⟨A3, c3, rfl, _, _, _⟩ := own_rd q2
    exact ⟨⟨A3, _, c3, q1, q2⟩, q3⟩
  rw [hn] at hva
  have HVA := Lib.hid hva
  have HD := Lib.hid h
  clear hva hc1 hrd h hlf hlen hgk hn
  have B6 := ((Bk.at_ w 60 #[.int .i64 3, .int .i64 o, .int .i64 t] w.heap.size rfl).alloc (.cells #[.int .i64 0, .int .i64 0, .int .i64 0, .int .i64 0, .int .i64 0, .slice none 0 0, .slice none 0 0] 87)).alloc (.cells #[.int .i64 3, .int .i64 0, .int .i64 0, .int .i64 0, .int .i64 0, .slice none 0 0, .slice none 0 0] 87)
  have B8 := (Bk.at_ (w.alloc (.cells #[.int .i64 3, .int .i64 o, .int .i64 t] 60)) 87 #[.int .i64 0, .int .i64 0, .int .i64 0, .int .i64 0, .int .i64 0, .slice none 0 0, .slice none 0 0] (w.heap.size + 1) (by simp)).alloc (.cells #[.int .i64 3, .int .i64 0, .int .i64 0, .int .i64 0, .int .i64 0, .slice none 0 0, .slice none 0 0] 87)
  have B9 := Bk.at_ ((w.alloc (.cells #[.int .i64 3, .int .i64 o, .int .i64 t] 60)).alloc (.cells #[.int .i64 0, .int .i64 0, .int .i64 0, .int .i64 0, .int .i64 0, .slice none 0 0, .slice none 0 0] 87)) 87 #[.int .i64 3, .int .i64 0, .int .i64 0, .int .i64 0, .int .i64 0, .slice none 0 0, .slice none 0 0] (w.heap.size + 1 + 1) (by simp)
  have e0 : Ext w (((w.alloc (.cells #[.int .i64 3, .int .i64 o, .int .i64 t] 60)).alloc (.cells #[.int .i64 0, .int .i64 0, .int .i64 0, .int .i64 0, .int .i64 0, .slice none 0 0, .slice none 0 0] 87)).alloc (.cells #[.int .i64 3, .int .i64 0, .int .i64 0, .int .i64 0, .int .i64 0, .slice none 0 0, .slice none 0 0] 87)) := (((Ext.refl w).alloc _).alloc _).alloc _
  go_enter Tryz.func102, Tryz.ntmps102
  go_upto_region 4 with (fail)
  generalize (((w.alloc (.cells #[.int .i64 3, .int .i64 o, .int .i64 t] 60)).alloc (.cells #[.int .i64 0, .int .i64 0, .int .i64 0, .int .i64 0, .int .i64 0, .slice none 0 0, .slice none 0 0] 87)).alloc (.cells #[.int .i64 3, .int .i64 0, .int .i64 0, .int .i64 0, .int .i64 0, .slice none 0 0, .slice none 0 0] 87)) = W0 at *
  obtain ⟨g0, hg0⟩ : ∃ g, w.heap.size = g := ⟨_, rfl⟩
  rw [hg0] at B6 B8 B9
  try rw [hg0]
  have HG := Lib.hid hg0
  have HE0 := Lib.hid e0
  have HB6 := Lib.hid B6
  have HB8 := Lib.hid B8
  have HB9 := Lib.hid B9
  clear hg0 e0 B6 B8 B9
  have b0 : W0.cell? ⟨db, 0, none⟩ = some (.slice A n c) := by rw [← HVA.out]; exact (HD.out.ext HE0.out).bk.cell 0
  go_wp2_with fail
  refine (HLF.out _ HE0.out).mono ?_
  rintro _ w1 ⟨⟨A2, c2, rfl, hc2, hr2⟩, hb1⟩
  have HC2 := Lib.hid hc2
  have HR2 := Lib.hid hr2
  have HB1 := Lib.hid hb1
  have u1 : w1.cell? ⟨g0, 1, none⟩ = some (.int .i64 o) := (HB6.out.ext hb1).cell 1
  have u2 : w1.cell? ⟨g0, 2, none⟩ = some (.int .i64 t) := (HB6.out.ext hb1).cell 2
  clear b0 hb1 hc2 hr2
  go_wp2_with fail
  refine (HGM.out _ _ _ HR2.out HC2.out).mono ?_
  rintro _ w2 ⟨⟨A3, n3, c3, rfl, own3⟩, hb2⟩
  have E2 : Ext W0 w2 := HB1.out.trans hb2
  have B9 := HB9.out.ext E2
  have x6 := B9.cell 6
  have q6 := B9.frozen 6
  have HC9 := Lib.hid (B9.set_ 6 (.slice A3 n3 c3))
  have HC8 := Lib.hid ((HB8.out.ext E2).far (p := ⟨g0 + 1 + 1, 6, none⟩) (by show _ ≠ g0 + 1 + 1; omega) (.slice A3 n3 c3))
  have HE9 := Lib.hid ((HE0.out.trans E2).setCell (p := ⟨g0 + 1 + 1, 6, none⟩) (by have := HG.out; show _ ≤ g0 + 1 + 1; omega) (.slice A3 n3 c3))
  have HKO := Lib.hid ((own_lower own3 (show w.heap.size ≤ w1.heap.size from Nat.le_trans HE0.out.size HB1.out.size)).kept (gb_set w2 (g0 + 1 + 1) 6 (.slice A3 n3 c3)) (.inr (own_type own3 B9 (by decide))))
  clear E2 B9 own3 hb2 u1 u2
  go_upto_region 12 with (fail)
  generalize w2.setCell ⟨g0 + 1 + 1, 6, none⟩ (.slice A3 n3 c3) = W3 at *
  clear x6 q6
  have y0 := HC9.out.cell 0
  have y1 := HC9.out.cell 1
  have y2 := HC9.out.cell 2
  have y3 := HC9.out.cell 3
  have y4 := HC9.out.cell 4
  have y5 := HC9.out.cell 5
  have y6 := HC9.out.cell 6
  go_wp2_with (refine wpl_store7 (by rfl) 87 _ _ (by rfl) (g0 + 1) 87 _ _ _ _ _ _ _ 3 0 0 0 0 none A3 0 0 n3 c3 (by rfl) (by rfl) Tryz.sizeOf87 HC8.out ?_; intro w9 k1 k2; have K1 := Lib.hid k1; have K2 := Lib.hid k2; clear k1 k2)
  have p0 := K1.out.cell 0
  have p1 := K1.out.cell 1
  have p2 := K1.out.cell 2
  have p3 := K1.out.cell 3
  have p4 := K1.out.cell 4
  have p5 := K1.out.cell 5
  have p6 := K1.out.cell 6
  refine bodyPost_ret (by simp [results, Tryz.results102, go_sem, p0, p1, p2, p3, p4, p5, p6]; try rfl) rfl ?_
  have hge : w.heap.size ≤ g0 + 1 := by have := HG.out; omega
  refine ⟨⟨none, 0, 0, A3, n3, c3, rfl, own_nil _ _ _ _, HKO.out.kept K2.out (.inr (own_type HKO.out HC8.out (by decide)))⟩, HE9.out.gbn K2.out hge⟩
theorem Reply_any (db mb : Nat) (ve va vw : Value) (d : Dk) (w : World) (h : DAt 45 75 w db ve mb va vw d) (hD : DebG w) (hP : PowG w) :
    Calls Tryz.prog 102 #[.pointer (some ⟨db, 0, none⟩), d.m.want.val] w (ReplyR w (replyD d.es d.m.want).1) := by
  rcases want_three h.good with hw | ⟨a, b, hw, h1, h2⟩ | ⟨o, t, hw, h1, h2, h3⟩
  · rw [reply_1 h.good hw, hw]
    exact Reply_1 db mb ve va vw d w h hD hP
  · rw [reply_2 h.good hw, hw]
    exact Reply_2 db mb ve va vw d a b w h h1 h2
  · rw [reply_3 h.good hw, hw]
    exact Reply_3 db mb ve va vw d o t w h h1 h2 h3
end Go.Proofs.YtnphbkjkeipmmaaGreatDoor

/- run.spoil. -/
namespace Go.Proofs.YtnphbkjkeipmmaaGreatDoor
open Go.RowKit Go.WideShapes
set_option linter.unusedVariables false
attribute [local go_sem ↓] Go.wp_at_zero Go.wp_at_succ

/-- a reply at a block, of what can be read -/
def RpB (w0 w : World) (rb : Nat) (r : Rp) : Prop := ∃ A n c A' n' c', Bk w rb 87 #[.int .i64 r.what, .int .i64 r.head.size, .int .i64 r.head.root, .int .i64 r.head.time, .int .i64 r.head.sign, .slice A n c, .slice A' n' c'] ∧
  Rd w 2 A n c (r.ents.flatMap Ent.cells) ∧ c ≤ maxLen ∧ Rd w 1 A' n' c' (r.proof.map (Value.int .i64)) ∧ c' ≤ maxLen ∧ Ext w0 w
theorem own_A {w : World} {b size n c : Nat} {e : TypeId} {A : Option Addr} {xs : List Value} (h : w.ownsRow b e size (.slice A n c) n xs) : c ≤ maxLen ∧ Rd w size A n c xs := by
  obtain ⟨A1, c1, hv, h1, h2, _⟩ := own_rd h
  injection hv with a _ b
  subst a b
  exact ⟨h1, h2⟩
theorem Rd.emp {w w' : World} {s n c : Nat} {A : Option Addr} (h : Rd w s A n c []) (hs : 0 < s) : Rd w' s A n c [] := by
  have h1 := h.1
  have h0 : n = 0 := by
    rcases Nat.eq_zero_or_pos n with e | e
    · exact e
    · have := Nat.mul_pos e hs; simp at h1; omega
  exact ⟨h.1, h.2.1, fun hn => absurd hn (by omega)⟩
set_option maxRecDepth 100000 in
set_option maxHeartbeats 4000000 in
theorem Spoil_1 (w0 : World) (rb n c n2 c2 : Nat) (A A2 : Option Addr) (h : Hd) (w : World) (hA : Rd w 2 A n c []) (hA2 : Rd w 1 A2 n2 c2 []) (hc : c ≤ maxLen) (hc2 : c2 ≤ maxLen) (hb : Bk w rb 87 #[.int .i64 1, .int .i64 h.size, .int .i64 h.root, .int .i64 h.time, .int .i64 h.sign, .slice A n c, .slice A2 n2 c2]) (h0 : Ext w0 w) (hr : w0.heap.size ≤ rb) (hz : 0 ≤ h.root ∧ h.root ≤ 2147483647) :
    Calls Tryz.prog 103 #[.pointer (some ⟨rb, 0, none⟩)] w fun e w' => (∃ v, e = .returned v) ∧ RpB w0 w' rb ⟨1, spoilH h, [], []⟩ := by
  obtain ⟨z0, z1, z2, z3⟩ := h
  dsimp only at hb hz
  have hw : IntKind.i64.wrap (z1 - 1) = z1 - 1 := IntWalk.i64_in _ (by omega)
  have HB := Lib.hid hb
  have H0 := Lib.hid h0
  have x0 := hb.cell 0
  have x2 := hb.cell 2
  have q2 := hb.frozen 2
  have B1 := hb.set_ 2 (.int .i64 (z1 - 1))
  have E1 := h0.setCell (p := ⟨rb, 2, none⟩) hr (.int .i64 (z1 - 1))
  by_cases hl : z1 - 1 < 0
  · have hs : spoilH ⟨z0, z1, z2, z3⟩ = ⟨z0, 1, z2, z3⟩ := by unfold spoilH; dsimp only; rw [if_pos hl]
    have HF : Hid (RpB w0 ((w.setCell ⟨rb, 2, none⟩ (.int .i64 (z1 - 1))).setCell ⟨rb, 2, none⟩ (.int .i64 1)) rb ⟨1, spoilH ⟨z0, z1, z2, z3⟩, [], []⟩) := Lib.hid (by
      rw [hs]
      exact ⟨A, n, c, A2, n2, c2, B1.set_ 2 _, hA.emp (by decide), hc, hA2.emp (by decide), hc2, E1.setCell (p := ⟨rb, 2, none⟩) hr _⟩)
    have x2' := B1.cell 2
    have q2' := B1.frozen 2
    clear hs hb h0 B1 E1 hA hA2 hc hc2
    go_enter Tryz.func103, Tryz.ntmps103
    go_wp2_with fail
    refine bodyPost_end (results_none rfl _ _ _) rfl ?_
    exact ⟨⟨_, rfl⟩, HF.out⟩
  · have hs : spoilH ⟨z0, z1, z2, z3⟩ = ⟨z0, z1 - 1, z2, z3⟩ := by unfold spoilH; dsimp only; rw [if_neg hl]
    have HF : Hid (RpB w0 (w.setCell ⟨rb, 2, none⟩ (.int .i64 (z1 - 1))) rb ⟨1, spoilH ⟨z0, z1, z2, z3⟩, [], []⟩) := Lib.hid (by
      rw [hs]
      exact ⟨A, n, c, A2, n2, c2, B1, hA.emp (by decide), hc, hA2.emp (by decide), hc2, E1⟩)
    have x2' := B1.cell 2
    clear hs hb h0 B1 E1 hA hA2 hc hc2
    go_enter Tryz.func103, Tryz.ntmps103
    go_wp2_with fail
    refine bodyPost_end (results_none rfl _ _ _) rfl ?_
    exact ⟨⟨_, rfl⟩, HF.out⟩
/-- the first i spoilt -/
def spoilI (es : List Ent) (i : Nat) : List Ent := spoilE (es.take i) ++ es.drop i
theorem spoilI_len (es : List Ent) (i : Nat) : (spoilI es i).length = es.length := by
  unfold spoilI spoilE
  rw [List.length_append, List.length_map, List.length_take, List.length_drop]
  omega
theorem spoilI_succ {es : List Ent} {i : Nat} (h : i < es.length) : ((spoilI es i).flatMap Ent.cells).set (i * 2) (.int .i64 0) = (spoilI es (i + 1)).flatMap Ent.cells := by
  obtain ⟨e, he⟩ : ∃ e, es[i]'h = e := ⟨_, rfl⟩
  have h1 : es.drop i = e :: es.drop (i + 1) := by rw [List.drop_eq_getElem_cons h, he]
  have h2 : es.take (i + 1) = es.take i ++ [e] := by rw [List.take_succ_eq_append_getElem h, he]
  have hlen : ((spoilE (es.take i)).flatMap Ent.cells).length = i * 2 := by
    rw [flat_len Ent.cells 2 (fun _ => rfl)]
    unfold spoilE
    rw [List.length_map, List.length_take, Nat.min_eq_left (by omega)]
  unfold spoilI
  rw [h1, h2, List.flatMap_append, List.flatMap_cons]
  have h3 : spoilE (es.take i ++ [e]) = spoilE (es.take i) ++ [⟨0, e.data⟩] := by unfold spoilE; rw [List.map_append]; rfl
  rw [h3, List.append_assoc, List.flatMap_append, List.flatMap_append, List.set_append_right _ _ (by rw [hlen]; exact Nat.le_refl _), hlen, Nat.sub_self]
  rfl
set_option maxRecDepth 100000 in
set_option maxHeartbeats 4000000 in
theorem Spoil_2 (w0 : World) (rb n c n2 c2 : Nat) (A A2 : Option Addr) (es : List Ent) (w : World) (hA2 : Rd w 1 A2 n2 c2 []) (hc2 : c2 ≤ maxLen) (hb : Bk w rb 87 #[.int .i64 2, .int .i64 0, .int .i64 0, .int .i64 0, .int .i64 0, .slice A n c, .slice A2 n2 c2]) (h0 : Ext w0 w) (hr : w0.heap.size ≤ rb) (hn : 0 < n) (hn2 : n ≤ 200)
    (ho : w.ownsRow w0.heap.size 67 2 (.slice A n c) n (es.flatMap Ent.cells)) :
    Calls Tryz.prog 103 #[.pointer (some ⟨rb, 0, none⟩)] w fun e w' => (∃ v, e = .returned v) ∧ RpB w0 w' rb ⟨2, hd00, spoilE es, []⟩ := by
  obtain ⟨hcm, hrd⟩ := own_A ho
  have hx := hrd.lenE
  have hnc := hrd.2.1
  have hcs : c ≤ 9223372036854775807 := by unfold maxLen at hcm; omega
  obtain ⟨ga, rfl⟩ : ∃ ga, A = some ⟨ga, 0, none⟩ := by
    rcases own_form ho with h | h
    · obtain ⟨ad3, h2, _⟩ := hrd.2.2 hn
      rw [h] at h2; cases h2
    · exact h
  have hge : w0.heap.size ≤ ga := own_block ho ga rfl
  have hne : ga ≠ rb := fun e => own_type ho hb (by decide) (by rw [e]; rfl)
  have HFZ : Hid (∀ i, w.frozen? ⟨ga, i, none⟩ = false) := Lib.hid fun i => own_frozenG ho i
  have x0 := hb.cell 0
  have x5 := hb.cell 5
  have HB := Lib.hid hb
  have H0 := Lib.hid h0
  have HX := Lib.hid hx
  have HCM := Lib.hid hcm
  have HA2 : Hid (∀ W, Rd W 1 A2 n2 c2 []) := Lib.hid fun W => hA2.emp (by decide)
  have HC2 := Lib.hid hc2
  have HRD : Hid (Rd w 2 (some ⟨ga, 0, none⟩) n c ((spoilI es 0).flatMap Ent.cells)) := hrd
  clear hb h0 hx hrd ho hcm hA2 hc2
  go_enter Tryz.func103, Tryz.ntmps103
  go_wp2_with fail
  go_loopw [50] (fun x wr => ∃ i : Nat, x = .int .i64 i ∧ i ≤ n ∧ Hid (Ext w0 wr) ∧ Hid (Bk wr rb 87 #[.int .i64 2, .int .i64 0, .int .i64 0, .int .i64 0, .int .i64 0, .slice (some ⟨ga, 0, none⟩) n c, .slice A2 n2 c2]) ∧ Hid (Rd wr 2 (some ⟨ga, 0, none⟩) n c ((spoilI es i).flatMap Ent.cells)) ∧ Hid (∀ i, wr.frozen? ⟨ga, i, none⟩ = false)) (fun x _ => n - (intOf x).toNat)
  case atStart => exact ⟨0, rfl, Nat.zero_le _, H0, HB, HRD, HFZ⟩
  case round =>
    obtain ⟨i, rfl, hi, HEr, HBr, HRr, HFr⟩ := hrel
    have y5 := HBr.out.cell 5
    by_cases hc : i < n
    · have hg := List.getElem?_eq_getElem (l := spoilI es i) (i := i) (by rw [spoilI_len, HX.out]; exact hc)
      obtain ⟨ad, e1, hb, c0, c1⟩ := HRr.out.getE hg
      injection e1 with e1
      subst e1
      rw [addG] at c0
      have f0 := HFr.out (i * 2)
      have hic : (i : Int) < (n : Int) := by omega
      have HNB := Lib.hid (HBr.out.far (p := ⟨ga, i * 2, none⟩) (Ne.symm hne) (.int .i64 0))
      have HNE := Lib.hid (HEr.out.setCell (p := ⟨ga, i * 2, none⟩) hge (.int .i64 0))
      have hst := HRr.out.setG (i := i * 2) (by omega) (.int .i64 0)
      rw [spoilI_succ (by rw [HX.out]; exact hc)] at hst
      have HNR := Lib.hid hst
      have HNF : Hid (∀ j, (wr.setCell ⟨ga, i * 2, none⟩ (.int .i64 0)).frozen? ⟨ga, j, none⟩ = false) := Lib.hid fun j => by rw [World.frozen?_setCell]; exact HFr.out j
      clear hg hb c1 hst
      go_wp2_with fail
      go_roundw
      case rel => exact ⟨i + 1, by go_num, by omega, HNE, HNB, HNR, HNF⟩
      case measure => simp [intOf]; omega
    · obtain rfl : i = n := by omega
      have hsp : spoilI es i = spoilE es := by unfold spoilI; rw [← HX.out, List.take_length, List.drop_length, List.append_nil]
      have hrr := HRr.out
      rw [hsp] at hrr
      have HFIN : Hid (RpB w0 wr rb ⟨2, hd00, spoilE es, []⟩) := Lib.hid ⟨some ⟨ga, 0, none⟩, i, c, A2, n2, c2, HBr.out, hrr, HCM.out, HA2.out _, HC2.out, HEr.out⟩
      clear hsp hrr
      go_wp2_with fail
      refine bodyPost_end (results_none rfl _ _ _) rfl ?_
      exact ⟨⟨_, rfl⟩, HFIN.out⟩
set_option maxRecDepth 100000 in
set_option maxHeartbeats 4000000 in
theorem Spoil_3 (w0 : World) (rb n c n2 c2 : Nat) (A A2 : Option Addr) (p : List Int) (w : World) (hA2 : Rd w 2 A2 n2 c2 []) (hc2 : c2 ≤ maxLen) (hb : Bk w rb 87 #[.int .i64 3, .int .i64 0, .int .i64 0, .int .i64 0, .int .i64 0, .slice A2 n2 c2, .slice A n c]) (h0 : Ext w0 w) (hr : w0.heap.size ≤ rb)
    (ho : w.ownsRow w0.heap.size 3 1 (.slice A n c) n (p.map (Value.int .i64))) :
    Calls Tryz.prog 103 #[.pointer (some ⟨rb, 0, none⟩)] w fun e w' => (∃ v, e = .returned v) ∧ RpB w0 w' rb ⟨3, hd00, [], spoilP p⟩ := by
  obtain ⟨hcm, hrd⟩ := own_A ho
  have hx := hrd.lenI
  have hnc := hrd.2.1
  have hcs : c ≤ 9223372036854775807 := by unfold maxLen at hcm; omega
  have x0 := hb.cell 0
  have x6 := hb.cell 6
  have q6 := hb.frozen 6
  cases p with
  | nil =>
    obtain rfl : n = 0 := by rw [← hx]; rfl
    have hrb := hb.lt
    have B1 := (hb.set_ 6 (.slice (some ⟨w.heap.size, 0, none⟩) 1 1)).alloc (.cells #[.int .i64 0] 3)
    have B2 := Bk.at_ (w.setCell ⟨rb, 6, none⟩ (.slice (some ⟨w.heap.size, 0, none⟩) 1 1)) 3 #[.int .i64 0] w.heap.size (by simp)
    have E1 := (h0.setCell (p := ⟨rb, 6, none⟩) hr (.slice (some ⟨w.heap.size, 0, none⟩) 1 1)).alloc (.cells #[.int .i64 0] 3)
    have x6a : (w.alloc (.cells #[.int .i64 0] 3)).cell? ⟨rb, 6, none⟩ = some (.slice A 0 c) := (hb.alloc _).cell 6
    have q6a := (hb.alloc (.cells #[.int .i64 0] 3)).frozen 6
    have HB1 := Lib.hid B1
    have HB2 := Lib.hid B2
    have HE := Lib.hid E1
    have HFIN : Hid (RpB w0 ((w.setCell ⟨rb, 6, none⟩ (.slice (some ⟨w.heap.size, 0, none⟩) 1 1)).alloc (.cells #[.int .i64 0] 3)) rb ⟨3, hd00, [], spoilP []⟩) := Lib.hid ⟨A2, n2, c2, some ⟨w.heap.size, 0, none⟩, 1, 1, HB1.out, hA2.emp (by decide), hc2, ⟨rfl, Nat.le_refl _, fun _ => ⟨_, rfl, HB2.out.lt, fun j u hu => by
      match j, hu with
      | 0, hu =>
        simp [spoilP] at hu
        subst hu
        rw [addG]
        exact HB2.out.cell 0⟩⟩, by unfold maxLen; omega, HE.out⟩
    clear B1 B2 E1 hb h0 ho hrd hx HB1 HB2 HE hA2 hc2
    go_enter Tryz.func103, Tryz.ntmps103
    go_wp2_with fail
    refine bodyPost_end (results_none rfl _ _ _) rfl ?_
    exact ⟨⟨_, rfl⟩, HFIN.out⟩
  | cons z p =>
    have hn : 0 < n := by rw [← hx]; simp
    obtain ⟨ga, rfl⟩ : ∃ ga, A = some ⟨ga, 0, none⟩ := by
      rcases own_form ho with h | h
      · obtain ⟨ad3, h2, _⟩ := hrd.2.2 hn
        rw [h] at h2; cases h2
      · exact h
    have hge : w0.heap.size ≤ ga := own_block ho ga rfl
    have hne : ga ≠ rb := fun e => own_type ho hb (by decide) (by rw [e]; rfl)
    have f0 := own_frozenG ho 0
    have z0 : w.cell? ⟨ga, 0, none⟩ = some (.int .i64 z) := by
      obtain ⟨ad, e, _, hh⟩ := hrd.2.2 hn
      injection e with e
      subst e
      have := hh 0 _ rfl
      rwa [addG] at this
    have hn0 : ((n : Int) == 0) = false := beq_eq_false_iff_ne.2 (by omega)
    have hnp : (0 : Int) < (n : Int) := by omega
    have HFIN : Hid (RpB w0 (w.setCell ⟨ga, 0, none⟩ (.int .i64 0)) rb ⟨3, hd00, [], spoilP (z :: p)⟩) := Lib.hid ⟨A2, n2, c2, some ⟨ga, 0, none⟩, n, c, hb.far (p := ⟨ga, 0, none⟩) (Ne.symm hne) _, hA2.emp (by decide), hc2, hrd.setG (i := 0) (by omega) _, hcm, h0.setCell (p := ⟨ga, 0, none⟩) hge _⟩
    clear hb h0 ho hrd hx hA2 hc2
    go_enter Tryz.func103, Tryz.ntmps103
    go_wp2_with fail
    refine bodyPost_end (results_none rfl _ _ _) rfl ?_
    exact ⟨⟨_, rfl⟩, HFIN.out⟩
/-- spoil, of the log's own reply -/
theorem Spoil_any (d : Dk) (hg : d.Good) (w0 : World) (rb : Nat) (A A' : Option Addr) (n c n' c' : Nat) (w : World)
    (hb : Bk w rb 87 #[.int .i64 (replyD d.es d.m.want).1.what, .int .i64 (replyD d.es d.m.want).1.head.size, .int .i64 (replyD d.es d.m.want).1.head.root, .int .i64 (replyD d.es d.m.want).1.head.time, .int .i64 (replyD d.es d.m.want).1.head.sign, .slice A n c, .slice A' n' c'])
    (ho : RpNew w0.heap.size w (replyD d.es d.m.want).1 A n c A' n' c') (h0 : Ext w0 w) (hr : w0.heap.size ≤ rb) :
    Calls Tryz.prog 103 #[.pointer (some ⟨rb, 0, none⟩)] w fun e w' => (∃ v, e = .returned v) ∧ RpB w0 w' rb (spoilR (replyD d.es d.m.want).1) := by
  obtain ⟨o1, o2⟩ := ho
  obtain ⟨k1, r1⟩ := own_A o1
  obtain ⟨k2, r2⟩ := own_A o2
  rcases want_three hg with hw | ⟨a, b, hw, h1, h2⟩ | ⟨o, t, hw, h1, h2, h3⟩
  · rw [reply_1 hg hw] at hb r1 r2 ⊢
    obtain ⟨_, _, hv, _⟩ := sh_parts (shK_ok hg.es)
    obtain ⟨_, hok, _⟩ := verK_zero hv
    obtain ⟨_, _, _, _, hro, _⟩ := Hd.ok_parts hok
    have hz := vld_true hro
    exact Spoil_1 w0 rb n c n' c' A A' (shH d.es 7 0) w r1 r2 k1 k2 hb h0 hr ⟨hz.1, by have := hz.2; omega⟩
  · rw [reply_2 hg hw] at hb r1 r2 o1 ⊢
    have hl := o1.1
    rw [flat_len Ent.cells 2 (fun _ => rfl), List.length_drop, List.length_take, Nat.min_eq_left h2] at hl
    have := hg.es.1
    exact Spoil_2 w0 rb n c n' c' A A' _ w r2 k2 hb h0 hr (by omega) (by omega) o1
  · rw [reply_3 hg hw] at hb r1 r2 o2 ⊢
    exact Spoil_3 w0 rb n' c' n c A' A _ w r1 k1 hb h0 hr o2
end Go.Proofs.YtnphbkjkeipmmaaGreatDoor
