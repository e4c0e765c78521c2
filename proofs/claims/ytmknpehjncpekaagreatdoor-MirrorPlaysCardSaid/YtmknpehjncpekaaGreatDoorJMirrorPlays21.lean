/- What the laws of a mirror share: plain, and how rows and replies are read. -/
import Derived.Test.YtmknpehjncpekaaGreatDoorJMirrorPlays19
import Derived.Test.YtmknpehjncpekaaGreatDoorJMirrorPlays17
import Derived.Test.YtmknpehjncpekaaGreatDoorJMirrorPlays1
import Derived.Test.YtmknpehjncpekaaGreatDoorJMirrorPlays4
namespace Go.Proofs.YtmknpehjncpekaaGreatDoor
open Go.RowKit Go.WideShapes
set_option linter.unusedVariables false

theorem Mi.want_nat {m : Mi} (h : m.Good) : ∃ wh fr to_ : Nat, m.want = ⟨(wh : Int), (fr : Int), (to_ : Int)⟩ ∧ (wh = 1 ∨ wh = 2 ∨ wh = 3) ∧ fr ≤ 200 ∧ to_ ≤ 200 := by
  have h1 := h.nsz
  have h2 := h.have_le
  unfold Mi.want Mi.have_
  by_cases e : m.next.size = 0
  · rw [if_pos e]; exact ⟨1, 0, 0, rfl, .inl rfl, by omega, by omega⟩
  rw [if_neg e]
  obtain ⟨ns, hns⟩ := Int.eq_ofNat_of_zero_le h1.1
  rw [hns] at h1 e ⊢
  by_cases e2 : (m.own.length : Int) + (m.waits.length : Int) = (ns : Int)
  · rw [if_pos e2]; exact ⟨3, m.own.length, ns, rfl, .inr (.inr rfl), by omega, by omega⟩
  · rw [if_neg e2]
    refine ⟨2, m.own.length + m.waits.length, min ns (m.own.length + m.waits.length + 16), ?_, .inr (.inl rfl), by omega, by omega⟩
    have e3 : min (ns : Int) ((m.own.length : Int) + (m.waits.length : Int) + 16) = ((min ns (m.own.length + m.waits.length + 16) : Nat) : Int) := by omega
    rw [e3]
    simp
theorem shK_ok {es : List Ent} {key now : Int} (hk : entsOk es) (hkey : keyI key = true) (hn : 0 ≤ now ∧ now ≤ 1000000) : shK es key now = 0 := by
  have h1 := leafs_of_ents hk
  have h2 := hk.1
  unfold shK
  rw [if_neg (not_not_intro (entsErr_ok hk))]
  exact (lg_ok (n := es.length) (r := ofL (es.map Ent.leaf)) (t := now) (key := key) (by omega) (vld_root h1) hn hkey).1
theorem flatE_take : ∀ (es : List Ent) (k : Nat), (es.flatMap Ent.cells).take (k * 2) = (es.take k).flatMap Ent.cells
  | [], k => by simp
  | e :: es, 0 => by simp
  | e :: es, k + 1 => by
    rw [List.flatMap_cons, List.take_succ_cons, List.flatMap_cons, ← flatE_take es k, show (k + 1) * 2 = k * 2 + 2 by omega]
    rfl
theorem RdE_take {w : World} {A : Option Addr} {n c k : Nat} {es : List Ent} (h : Rd w 2 A n c (es.flatMap Ent.cells)) (hk : k ≤ n) : Rd w 2 A k c ((es.take k).flatMap Ent.cells) := by
  have := h.take hk
  rwa [flatE_take] at this
theorem Rd.getRow {w : World} {A : Option Addr} {n c : Nat} {rs : List (RowG Int)} (h : Rd w 1 A n c (rs.flatMap RowG.cells)) {j : Nat} {r : RowG Int} (hr : rs[j]? = some r) : ∃ ad, A = some ad ∧ ad.block < w.heap.size ∧ w.cell? (ad.add j) = some (.slice r.A r.n r.c) := by
  rw [flat_rows] at h
  have h1 := h.at_ (j := j) (u := .slice r.A r.n r.c) (by rw [List.getElem?_map, hr]; rfl)
  exact h1
theorem flatP_nth : ∀ (l : List RpG) (j : Nat) (x : RpG) (i : Nat), l[j]? = some x → i < 7 → (l.flatMap RpG.cells)[j * 7 + i]? = x.cells[i]?
  | [], j, x, i, h, _ => by simp at h
  | y :: l, 0, x, i, h, hi => by
    obtain rfl : y = x := by simpa using h
    rw [List.flatMap_cons, Nat.zero_mul, Nat.zero_add, List.getElem?_append_left (by simpa [RpG.cells] using hi)]
  | y :: l, j + 1, x, i, h, hi => by
    rw [List.flatMap_cons, List.getElem?_append_right (by simp [RpG.cells]; omega), show (j + 1) * 7 + i - y.cells.length = j * 7 + i by simp [RpG.cells]; omega]
    exact flatP_nth l j x i (by simpa using h) hi
theorem flatP_len (l : List RpG) : (l.flatMap RpG.cells).length = l.length * 7 := by
  induction l with
  | nil => rfl
  | cons x l ih => rw [List.flatMap_cons, List.length_append, ih, List.length_cons]; simp [RpG.cells]; omega
theorem Rd.lenP {w : World} {A : Option Addr} {n c : Nat} {ys : List RpG} (h : Rd w 7 A n c (ys.flatMap RpG.cells)) : ys.length = n := by
  have := h.1
  rw [flatP_len] at this
  omega
/-- a reply in a row: its cells -/
def CellsP (w : World) (a : Addr) (r : RpG) : Prop := w.cell? a = some (.int .i64 r.what) ∧ w.cell? ⟨a.block, a.off + 1, none⟩ = some (.int .i64 r.head.size) ∧ w.cell? ⟨a.block, a.off + 2, none⟩ = some (.int .i64 r.head.root) ∧ w.cell? ⟨a.block, a.off + 3, none⟩ = some (.int .i64 r.head.time) ∧ w.cell? ⟨a.block, a.off + 4, none⟩ = some (.int .i64 r.head.sign) ∧ w.cell? ⟨a.block, a.off + 5, none⟩ = some (.slice r.ents.A r.ents.n r.ents.c) ∧ w.cell? ⟨a.block, a.off + 6, none⟩ = some (.slice r.proof.A r.proof.n r.proof.c)
theorem Rd.getRp {w : World} {A : Option Addr} {n c : Nat} {ys : List RpG} (h : Rd w 7 A n c (ys.flatMap RpG.cells)) {j : Nat} {r : RpG} (hr : ys[j]? = some r) : ∃ ad, A = some ad ∧ ad.block < w.heap.size ∧ CellsP w (ad.add (j * 7)) r := by
  have k := fun i (hi : i < 7) => flatP_nth ys j r i hr hi
  obtain ⟨ad, e, hb, c0⟩ := h.at_ (k 0 (by omega))
  have get : ∀ i u, i < 7 → r.cells[i]? = some u → w.cell? (ad.add (j * 7 + i)) = some u := fun i u hi hu => by
    obtain ⟨ad', e', _, hc⟩ := h.at_ ((k i hi).trans hu)
    rw [e] at e'
    injection e' with e'
    rw [e']; exact hc
  have g1 := get 1 _ (by omega) rfl
  have g2 := get 2 _ (by omega) rfl
  have g3 := get 3 _ (by omega) rfl
  have g4 := get 4 _ (by omega) rfl
  have g5 := get 5 _ (by omega) rfl
  have g6 := get 6 _ (by omega) rfl
  rw [← add_add'] at g1 g2 g3 g4 g5 g6
  exact ⟨ad, e, hb, c0, g1, g2, g3, g4, g5, g6⟩
theorem CellsP.ext {w w' : World} {a : Addr} {r : RpG} (h : CellsP w a r) (e : Ext w w') (hb : a.block < w.heap.size) : CellsP w' a r := by
  obtain ⟨h0, h1, h2, h3, h4, h5, h6⟩ := h
  exact ⟨(e.cell hb).trans h0, (e.cell (p := ⟨a.block, a.off + 1, none⟩) hb).trans h1, (e.cell (p := ⟨a.block, a.off + 2, none⟩) hb).trans h2, (e.cell (p := ⟨a.block, a.off + 3, none⟩) hb).trans h3, (e.cell (p := ⟨a.block, a.off + 4, none⟩) hb).trans h4, (e.cell (p := ⟨a.block, a.off + 5, none⟩) hb).trans h5, (e.cell (p := ⟨a.block, a.off + 6, none⟩) hb).trans h6⟩
end Go.Proofs.YtmknpehjncpekaaGreatDoor

/- One cell of a row of one's own is written. -/
namespace Go.Proofs.YtmknpehjncpekaaGreatDoor
open Go.RowKit
set_option linter.unusedVariables false

theorem addG (g j : Nat) : (⟨g, 0, none⟩ : Addr).add j = ⟨g, j, none⟩ := by
  unfold Addr.add
  by_cases h : j = 0
  · subst h; simp
  · simp [h]
theorem Rd.setG {w : World} {g n c i s : Nat} {xs : List Value} (h : Rd w s (some ⟨g, 0, none⟩) n c xs) (hi : i < n * s) (v : Value) : Rd (w.setCell ⟨g, i, none⟩ v) s (some ⟨g, 0, none⟩) n c (xs.set i v) := by
  have hl := h.1
  refine ⟨by rw [List.length_set, hl], h.2.1, fun hn => ?_⟩
  obtain ⟨ad, e, hb, hc⟩ := h.2.2 hn
  obtain rfl : (⟨g, 0, none⟩ : Addr) = ad := by injection e
  refine ⟨_, rfl, Nat.lt_of_lt_of_le hb (gb_set w g i v).size, fun j u hu => ?_⟩
  rw [addG]
  by_cases e2 : i = j
  · subst e2
    rw [List.getElem?_set_self (by omega)] at hu
    injection hu with hu
    subst hu
    have h2 := hc i _ (List.getElem?_eq_getElem (by omega))
    rw [addG] at h2
    exact World.cell?_setCell_same' _ _ _ (by rw [h2]; rfl)
  · rw [List.getElem?_set_ne e2] at hu
    have h2 := hc j u hu
    rw [addG] at h2
    refine Eq.trans ?_ h2
    apply World.cell?_setCell_other
    intro e3
    injection e3 with _ e3
    exact e2 e3
theorem own_frozenG {w : World} {b n size g c : Nat} {e : TypeId} {xs : List Value} (h : w.ownsRow b e size (.slice (some ⟨g, 0, none⟩) n c) n xs) (i : Nat) : w.frozen? ⟨g, i, none⟩ = false := by
  rcases h.2 with ⟨h1, _⟩ | ⟨g1, cap, cur, hv, _, hh, _⟩
  · cases h1
  · obtain rfl : g = g1 := by injection hv with a _ _; injection a with a; injection a
    exact Bk.frozen (t := e) (cs := cur) hh i
theorem own_form {w : World} {b n k size c : Nat} {e : TypeId} {A : Option Addr} {xs : List Value} (h : w.ownsRow b e size (.slice A k c) n xs) : A = none ∨ ∃ g, A = some ⟨g, 0, none⟩ := by
  rcases h.2 with ⟨h1, _⟩ | ⟨g1, cap, cur, hv, _, hh, _⟩
  · injection h1 with a _ _; exact .inl a
  · injection hv with a _ _; exact .inr ⟨g1, a⟩
end Go.Proofs.YtmknpehjncpekaaGreatDoor

/- A reply is stored whole. -/
namespace Go.Proofs.YtmknpehjncpekaaGreatDoor
open Go.RowKit Go.WideShapes
set_option linter.unusedVariables false

set_option maxRecDepth 100000 in
set_option maxHeartbeats 4000000 in
theorem store7_run {P : Program} {w : World} (t : TypeId) (g : Nat) (T : TypeId) (c0 c1 c2 c3 c4 c5 c6 : Value) (z0 z1 z2 z3 z4 : Int) (A A' : Option Addr) (n c n' c' : Nat)
    (hsz : ∀ w : World, (sizeOf t).run P w = .ok 7 w) (hb : Bk w g T #[c0, c1, c2, c3, c4, c5, c6]) :
    ∃ w', (Instr.storeAt t (.pointer (some ⟨g, 0, none⟩)) (.agg #[.int .i64 z0, .int .i64 z1, .int .i64 z2, .int .i64 z3, .int .i64 z4, .slice A n c, .slice A' n' c'])).run P w = .ok () w' ∧ Bk w' g T #[.int .i64 z0, .int .i64 z1, .int .i64 z2, .int .i64 z3, .int .i64 z4, .slice A n c, .slice A' n' c'] ∧ w.grownBy w' (some g) := by
  have q0 := hb.frozen 0
  have q1 := hb.frozen 1
  have q2 := hb.frozen 2
  have q3 := hb.frozen 3
  have q4 := hb.frozen 4
  have q5 := hb.frozen 5
  have q6 := hb.frozen 6
  have y0 : w.cell? ⟨g, 0, none⟩ = some c0 := hb.cell 0
  have y1 : w.cell? ⟨g, 1, none⟩ = some c1 := hb.cell 1
  have y2 : w.cell? ⟨g, 2, none⟩ = some c2 := hb.cell 2
  have y3 : w.cell? ⟨g, 3, none⟩ = some c3 := hb.cell 3
  have y4 : w.cell? ⟨g, 4, none⟩ = some c4 := hb.cell 4
  have y5 : w.cell? ⟨g, 5, none⟩ = some c5 := hb.cell 5
  have y6 : w.cell? ⟨g, 6, none⟩ = some c6 := hb.cell 6
  refine ⟨((((((w.setCell ⟨g, 0, none⟩ (.int .i64 z0)).setCell ⟨g, 1, none⟩ (.int .i64 z1)).setCell ⟨g, 2, none⟩ (.int .i64 z2)).setCell ⟨g, 3, none⟩ (.int .i64 z3)).setCell ⟨g, 4, none⟩ (.int .i64 z4)).setCell ⟨g, 5, none⟩ (.slice A n c)).setCell ⟨g, 6, none⟩ (.slice A' n' c'), ?_, ((((((hb.set_ 0 (.int .i64 z0)).set_ 1 (.int .i64 z1)).set_ 2 (.int .i64 z2)).set_ 3 (.int .i64 z3)).set_ 4 (.int .i64 z4)).set_ 5 (.slice A n c)).set_ 6 (.slice A' n' c'),
    gb_trans (gb_trans (gb_trans (gb_trans (gb_trans (gb_trans (gb_set w g 0 _) (gb_set _ g 1 _)) (gb_set _ g 2 _)) (gb_set _ g 3 _)) (gb_set _ g 4 _)) (gb_set _ g 5 _)) (gb_set _ g 6 _)⟩
  simp [go_sem, hsz, q0, q1, q2, q3, q4, q5, q6, y0, y1, y2, y3, y4, y5, y6]
theorem wpl_store7 {P : Program} {w : World} {ops : Array Oper} {rest : List Oper} {o : Oper} {a : Act} {Q : Exit → Act → World → Prop} (hg : o.guard = none) (t : TypeId) (p x : Operand) (hop : o.op = .store t p x)
    (g : Nat) (T : TypeId) (c0 c1 c2 c3 c4 c5 c6 : Value) (z0 z1 z2 z3 z4 : Int) (A A' : Option Addr) (n c n' c' : Nat)
    (hp : a.eval p = .pointer (some ⟨g, 0, none⟩)) (hx : a.eval x = .agg #[.int .i64 z0, .int .i64 z1, .int .i64 z2, .int .i64 z3, .int .i64 z4, .slice A n c, .slice A' n' c'])
    (hsz : ∀ w : World, (sizeOf t).run P w = .ok 7 w) (hb : Bk w g T #[c0, c1, c2, c3, c4, c5, c6])
    (hK : ∀ w', Bk w' g T #[.int .i64 z0, .int .i64 z1, .int .i64 z2, .int .i64 z3, .int .i64 z4, .slice A n c, .slice A' n' c'] → w.grownBy w' (some g) → wpList P ops Q rest (a.put o.dst undef) w') :
    wpList P ops Q (o :: rest) a w := by
  refine wpList_plain hg fun K' hK' => ?_
  obtain ⟨w', h1, h2, h3⟩ := store7_run (P := P) t g T c0 c1 c2 c3 c4 c5 c6 z0 z1 z2 z3 z4 A A' n c n' c' hsz hb
  unfold Oper.wp
  simp [execOp, hop, hp, hx, h1, Result.andThen]
  exact hK' _ _ (hK w' h2 h3)
end Go.Proofs.YtmknpehjncpekaaGreatDoor
