/- A desk in memory: a row of entries, and a mirror. -/
import Derived.Test.YtnphbkjkeipmmaaGreatDoorJRunBegins20
import Derived.Test.YtnphbkjkeipmmaaGreatDoorJRunBegins21
import Derived.Test.YtnphbkjkeipmmaaGreatDoorJRunBegins4
import Derived.Test.YtnphbkjkeipmmaaGreatDoorJRunBegins18
namespace Go.Proofs.YtnphbkjkeipmmaaGreatDoor
open Go.RowKit Go.WideShapes
set_option linter.unusedVariables false
attribute [local go_sem ↓] Go.wp_at_zero Go.wp_at_succ

def DFoot (db : Nat) (ve : Value) (mb : Nat) (va vw : Value) (g : Nat) : Prop := g = db ∨ ve.ownBlock = some g ∨ MFoot mb va vw g
/-- a desk at a block (T: the desk's type, Tm: the mirror's) -/
structure DAt (T Tm : TypeId) (w : World) (db : Nat) (ve : Value) (mb : Nat) (va vw : Value) (d : Dk) : Prop where
  bk : Bk w db T #[ve, .pointer (some ⟨mb, 0, none⟩)]
  own : w.ownsRow 0 67 2 ve d.es.length (d.es.flatMap Ent.cells)
  mir : MiAt Tm w mb va vw d.m
  apart : ∀ g, ve.ownBlock = some g → ¬ MFoot mb va vw g
  good : d.Good
  nt : T ≠ Tm ∧ T ≠ 67 ∧ Tm ≠ 67
/-- a desk that lies in some blocks -/
def DD (T Tm : TypeId) (w : World) (S : Nat → Prop) (db : Nat) (d : Dk) : Prop := ∃ ve mb va vw, DAt T Tm w db ve mb va vw d ∧ ∀ g, DFoot db ve mb va vw g → S g
section
variable {T Tm : TypeId} {w w' w0 : World} {S S' : Nat → Prop} {db mb : Nat} {ve va vw : Value} {d : Dk}
theorem DAt.lt (h : DAt T Tm w db ve mb va vw d) {g : Nat} (hg : DFoot db ve mb va vw g) : g < w.heap.size := by
  rcases hg with rfl | hg | rfl | hg | hg
  · exact h.bk.lt
  · exact (h.own.lt _ hg).2
  · exact h.mir.bk.lt
  · exact (h.mir.own.lt _ hg).2
  · exact (h.mir.waits.lt _ hg).2
theorem DAt.chg (h : DAt T Tm w db ve mb va vw d) (k : Chg w w' S') (hS : ∀ g, DFoot db ve mb va vw g → ¬ S' g) : DAt T Tm w' db ve mb va vw d :=
  ⟨h.bk.chg k (hS _ (.inl rfl)), own_chg h.own k fun g hg => hS g (.inr (.inl hg)), h.mir.chg k fun g hg => hS g (.inr (.inr hg)), h.apart, h.good, h.nt⟩
theorem DAt.ext (h : DAt T Tm w db ve mb va vw d) (k : Ext w w') : DAt T Tm w' db ve mb va vw d := h.chg (k.chg fun _ => False) fun _ _ h => h
/-- the desk's block is none of the others' -/
theorem DAt.db_ne (h : DAt T Tm w db ve mb va vw d) : ve.ownBlock ≠ some db ∧ ¬ MFoot mb va vw db := by
  obtain ⟨n1, n2, n3⟩ := h.nt
  refine ⟨own_type h.own h.bk n2.symm, fun hg => ?_⟩
  rcases hg with hg | hg | hg
  · exact bk_ne h.bk h.mir.bk n1 hg
  · exact own_type h.mir.own h.bk n2.symm hg
  · exact own_type h.mir.waits h.bk n2.symm hg
theorem DD.ext (h : DD T Tm w S db d) (k : Ext w w') : DD T Tm w' S db d := by
  obtain ⟨ve, mb, va, vw, h1, h2⟩ := h
  exact ⟨ve, mb, va, vw, h1.ext k, h2⟩
theorem DD.chg (h : DD T Tm w S db d) (k : Chg w w' S') (hS : ∀ g, S g → g < w.heap.size → ¬ S' g) : DD T Tm w' S db d := by
  obtain ⟨ve, mb, va, vw, h1, h2⟩ := h
  exact ⟨ve, mb, va, vw, h1.chg k fun g hg => hS g (h2 g hg) (h1.lt hg), h2⟩
theorem DD.good (h : DD T Tm w S db d) : d.Good := by
  obtain ⟨_, _, _, _, h1, _⟩ := h
  exact h1.good
/-- where the mirror may write -/
def MSet (w : World) (mb : Nat) (va vw : Value) (g : Nat) : Prop := MFoot mb va vw g ∨ w.heap.size ≤ g
theorem DAt.mm (h : DAt T Tm w db ve mb va vw d) : MM Tm w (MSet w mb va vw) mb d.m := ⟨va, vw, h.mir, fun g hg => .inl hg⟩
/-- the mirror alone was written -/
theorem DAt.heard (h : DAt T Tm w db ve mb va vw d) (hS : ∀ g, DFoot db ve mb va vw g → S g) (hN : ∀ g, w.heap.size ≤ g → S g) {m' : Mi} (hm : MM Tm w' (MSet w mb va vw) mb m') (k : Chg w w' (MSet w mb va vw)) (hg : ({ d with m := m' } : Dk).Good) :
    DD T Tm w' S db { d with m := m' } ∧ Chg w w' S := by
  obtain ⟨va', vw', h1, h2⟩ := hm
  have hdb := h.db_ne
  have hbl := h.bk.lt
  refine ⟨⟨ve, mb, va', vw', ⟨h.bk.chg k ?_, own_chg h.own k fun g hg => ?_, h1, fun g hg hf => ?_, hg, h.nt⟩, fun g hf => ?_⟩, k.mono fun g _ hx => ?_⟩
  · rintro (e | e)
    · exact hdb.2 e
    · omega
  · rintro (e | e)
    · exact h.apart g hg e
    · have := (h.own.lt g hg).2; omega
  · rcases h2 g hf with e | e
    · exact h.apart g hg e
    · have := (h.own.lt g hg).2; omega
  · rcases hf with rfl | hf | hf
    · exact hS _ (.inl rfl)
    · exact hS _ (.inr (.inl hf))
    · rcases h2 g hf with e | e
      · exact hS _ (.inr (.inr e))
      · exact hN _ e
  · rcases hx with e | e
    · exact hS _ (.inr (.inr e))
    · exact hN _ e
/-- an entry was appended: to the row, then the desk's own block was written -/
theorem DAt.added (h : DAt T Tm w db ve mb va vw d) (hS : ∀ g, DFoot db ve mb va vw g → S g) (hN : ∀ g, w.heap.size ≤ g → S g) {e : Ent} {g cap : Nat} {W w5 w6 : World} (k0 : Ext w W)
    (own5 : w5.ownsRow 0 67 2 (.slice (some ⟨g, 0, none⟩) (d.es.length + 1) cap) (d.es.length + 1) (d.es.flatMap Ent.cells ++ e.cells)) (hg5 : W.grownBy w5 ve.ownBlock) (hH5' : ve.ownBlock = some g ∨ g = W.heap.size)
    (hset : w5.grownBy w6 (some db)) (hb : Bk w6 db T #[.slice (some ⟨g, 0, none⟩) (d.es.length + 1) cap, .pointer (some ⟨mb, 0, none⟩)]) (hgd : ({ d with es := d.es ++ [e] } : Dk).Good) :
    DD T Tm w6 S db { d with es := d.es ++ [e] } ∧ Chg w w6 S := by
  have hH5 : ve.ownBlock = some g ∨ w.heap.size ≤ g := hH5'.imp id fun e => by rw [e]; exact k0.size
  have hdb := h.db_ne
  have hbl := h.bk.lt
  have hgdb : g ≠ db := by
    rintro rfl
    rcases hH5 with e | e
    · exact hdb.1 e
    · omega
  have hgm : ¬ MFoot mb va vw g := fun hf => by
    rcases hH5 with e | e
    · exact h.apart g e hf
    · have := h.lt (.inr (.inr hf)); omega
  have C1 : Chg w w5 (fun x => ve.ownBlock = some x) := (k0.chg _).trans ((gb_chg hg5).mono fun x _ e => e) fun _ _ h => h
  have C2 : Chg w5 w6 (fun x => some db = some x) := gb_chg hset
  have hown := own_chg own5 C2 fun x hx e => by
    have e1 : g = x := by simpa [Value.ownBlock] using hx
    injection e with e
    exact hgdb (e1.trans e.symm)
  have hmir := (h.mir.chg C1 fun x hx e => h.apart x e hx).chg C2 fun x hx e => by
    injection e with e
    subst e
    exact hdb.2 hx
  refine ⟨⟨_, mb, va, vw, ⟨hb, ?_, hmir, fun x hx hf => ?_, hgd, h.nt⟩, fun x hf => ?_⟩, (C1.mono fun x _ hx => ?_).trans (C2.mono fun x _ hx => ?_) fun _ _ h => h⟩
  · show World.ownsRow _ _ _ _ _ (d.es ++ [e]).length ((d.es ++ [e]).flatMap Ent.cells)
    rw [List.length_append, List.flatMap_append, List.flatMap_singleton]
    exact hown
  · have e1 : g = x := by simpa [Value.ownBlock] using hx
    subst e1
    exact hgm hf
  · rcases hf with rfl | hf | hf
    · exact hS _ (.inl rfl)
    · have e1 : g = x := by simpa [Value.ownBlock] using hf
      subst e1
      rcases hH5 with e | e
      · exact hS _ (.inr (.inl e))
      · exact hN _ e
    · exact hS _ (.inr (.inr hf))
  · exact hS _ (.inr (.inl hx))
  · injection hx with hx
    subst hx
    exact hS _ (.inl rfl)
/-- what an operation leaves -/
def DOp (T Tm : TypeId) (w : World) (S : Nat → Prop) (db : Nat) (d : Dk) (w' : World) : Prop := DD T Tm w' S db d ∧ Chg w w' S
theorem DOp.stay (h : DD T Tm w S db d) (k : Ext w w') : DOp T Tm w S db d w' := ⟨h.ext k, k.chg S⟩
theorem DOp.from_ (h : DOp T Tm w S db d w') (k : Ext w0 w) : DOp T Tm w0 S db d w' := ⟨h.1, (k.chg S).trans h.2 fun _ _ h => h⟩
theorem DOp.ext {w2 : World} (h : DOp T Tm w S db d w') (k : Ext w' w2) : DOp T Tm w S db d w2 := ⟨h.1.ext k, h.2.trans (k.chg S) fun _ _ h => h⟩
end
end Go.Proofs.YtnphbkjkeipmmaaGreatDoor

/- One cell of a row of one's own is written. -/
namespace Go.Proofs.YtnphbkjkeipmmaaGreatDoor
open Go.RowKit
set_option linter.unusedVariables false

theorem addG (g j : Nat) : (⟨g, 0, none⟩ : Addr).add j = ⟨g, j, none⟩ := by
  unfold Addr.add
  by_cases h : j = 0
  · subst h; simp
  · simp [h]
theorem Rd.setG {w : World} {g n c i s : Nat} {xs : List Value} (h : Rd w s (some ⟨g, 0, none⟩) n c xs) (hi : i < n * s) (v : Value) : Rd (w.setCell ⟨g, i, none⟩ v) s (some ⟨g, 0, none⟩) n c (xs.set i v) := by
  have hl := h.1
  refine ⟨by rw [List.length_set, hl], h.2.1, fun hn => ?_⟩
  obtain ⟨ad, e, hb, hc⟩ := h.2.2 hn
  obtain rfl : (⟨g, 0, none⟩ : Addr) = ad := by injection e
  refine ⟨_, rfl, Nat.lt_of_lt_of_le hb (gb_set w g i v).size, fun j u hu => ?_⟩
  rw [addG]
  by_cases e2 : i = j
  · subst e2
    rw [List.getElem?_set_self (by omega)] at hu
    injection hu with hu
    subst hu
    have h2 := hc i _ (List.getElem?_eq_getElem (by omega))
    rw [addG] at h2
    exact World.cell?_setCell_same' _ _ _ (by rw [h2]; rfl)
  · rw [List.getElem?_set_ne e2] at hu
    have h2 := hc j u hu
    rw [addG] at h2
    refine Eq.trans ?_ h2
    apply World.cell?_setCell_other
    intro e3
    injection e3 with _ e3
    exact e2 e3
theorem own_frozenG {w : World} {b n size g c : Nat} {e : TypeId} {xs : List Value} (h : w.ownsRow b e size (.slice (some ⟨g, 0, none⟩) n c) n xs) (i : Nat) : w.frozen? ⟨g, i, none⟩ = false := by
  rcases h.2 with ⟨h1, _⟩ | ⟨g1, cap, cur, hv, _, hh, _⟩
  · cases h1
  · obtain rfl : g = g1 := by injection hv with a _ _; injection a with a; injection a
    exact Bk.frozen (t := e) (cs := cur) hh i
theorem own_form {w : World} {b n k size c : Nat} {e : TypeId} {A : Option Addr} {xs : List Value} (h : w.ownsRow b e size (.slice A k c) n xs) : A = none ∨ ∃ g, A = some ⟨g, 0, none⟩ := by
  rcases h.2 with ⟨h1, _⟩ | ⟨g1, cap, cur, hv, _, hh, _⟩
  · injection h1 with a _ _; exact .inl a
  · injection hv with a _ _; exact .inr ⟨g1, a⟩
end Go.Proofs.YtnphbkjkeipmmaaGreatDoor

/- A reply is stored whole. -/
namespace Go.Proofs.YtnphbkjkeipmmaaGreatDoor
open Go.RowKit Go.WideShapes
set_option linter.unusedVariables false

set_option maxRecDepth 100000 in
set_option maxHeartbeats 4000000 in
theorem store7_run {P : Program} {w : World} (t : TypeId) (g : Nat) (T : TypeId) (c0 c1 c2 c3 c4 c5 c6 : Value) (z0 z1 z2 z3 z4 : Int) (A A' : Option Addr) (n c n' c' : Nat)
    (hsz : ∀ w : World, (sizeOf t).run P w = .ok 7 w) (hb : Bk w g T #[c0, c1, c2, c3, c4, c5, c6]) :
    ∃ w', (Instr.storeAt t (.pointer (some ⟨g, 0, none⟩)) (.agg #[.int .i64 z0, .int .i64 z1, .int .i64 z2, .int .i64 z3, .int .i64 z4, .slice A n c, .slice A' n' c'])).run P w = .ok () w' ∧ Bk w' g T #[.int .i64 z0, .int .i64 z1, .int .i64 z2, .int .i64 z3, .int .i64 z4, .slice A n c, .slice A' n' c'] ∧ w.grownBy w' (some g) := by
  have q0 := hb.frozen 0
  have q1 := hb.frozen 1
  have q2 := hb.frozen 2
  have q3 := hb.frozen 3
  have q4 := hb.frozen 4
  have q5 := hb.frozen 5
  have q6 := hb.frozen 6
  have y0 : w.cell? ⟨g, 0, none⟩ = some c0 := hb.cell 0
  have y1 : w.cell? ⟨g, 1, none⟩ = some c1 := hb.cell 1
  have y2 : w.cell? ⟨g, 2, none⟩ = some c2 := hb.cell 2
  have y3 : w.cell? ⟨g, 3, none⟩ = some c3 := hb.cell 3
  have y4 : w.cell? ⟨g, 4, none⟩ = some c4 := hb.cell 4
  have y5 : w.cell? ⟨g, 5, none⟩ = some c5 := hb.cell 5
  have y6 : w.cell? ⟨g, 6, none⟩ = some c6 := hb.cell 6
  refine ⟨((((((w.setCell ⟨g, 0, none⟩ (.int .i64 z0)).setCell ⟨g, 1, none⟩ (.int .i64 z1)).setCell ⟨g, 2, none⟩ (.int .i64 z2)).setCell ⟨g, 3, none⟩ (.int .i64 z3)).setCell ⟨g, 4, none⟩ (.int .i64 z4)).setCell ⟨g, 5, none⟩ (.slice A n c)).setCell ⟨g, 6, none⟩ (.slice A' n' c'), ?_, ((((((hb.set_ 0 (.int .i64 z0)).set_ 1 (.int .i64 z1)).set_ 2 (.int .i64 z2)).set_ 3 (.int .i64 z3)).set_ 4 (.int .i64 z4)).set_ 5 (.slice A n c)).set_ 6 (.slice A' n' c'),
    gb_trans (gb_trans (gb_trans (gb_trans (gb_trans (gb_trans (gb_set w g 0 _) (gb_set _ g 1 _)) (gb_set _ g 2 _)) (gb_set _ g 3 _)) (gb_set _ g 4 _)) (gb_set _ g 5 _)) (gb_set _ g 6 _)⟩
  simp [go_sem, hsz, q0, q1, q2, q3, q4, q5, q6, y0, y1, y2, y3, y4, y5, y6]
theorem wpl_store7 {P : Program} {w : World} {ops : Array Oper} {rest : List Oper} {o : Oper} {a : Act} {Q : Exit → Act → World → Prop} (hg : o.guard = none) (t : TypeId) (p x : Operand) (hop : o.op = .store t p x)
    (g : Nat) (T : TypeId) (c0 c1 c2 c3 c4 c5 c6 : Value) (z0 z1 z2 z3 z4 : Int) (A A' : Option Addr) (n c n' c' : Nat)
    (hp : a.eval p = .pointer (some ⟨g, 0, none⟩)) (hx : a.eval x = .agg #[.int .i64 z0, .int .i64 z1, .int .i64 z2, .int .i64 z3, .int .i64 z4, .slice A n c, .slice A' n' c'])
    (hsz : ∀ w : World, (sizeOf t).run P w = .ok 7 w) (hb : Bk w g T #[c0, c1, c2, c3, c4, c5, c6])
    (hK : ∀ w', Bk w' g T #[.int .i64 z0, .int .i64 z1, .int .i64 z2, .int .i64 z3, .int .i64 z4, .slice A n c, .slice A' n' c'] → w.grownBy w' (some g) → wpList P ops Q rest (a.put o.dst undef) w') :
    wpList P ops Q (o :: rest) a w := by
  refine wpList_plain hg fun K' hK' => ?_
  obtain ⟨w', h1, h2, h3⟩ := store7_run (P := P) t g T c0 c1 c2 c3 c4 c5 c6 z0 z1 z2 z3 z4 A A' n c n' c' hsz hb
  unfold Oper.wp
  simp [execOp, hop, hp, hx, h1, Result.andThen]
  exact hK' _ _ (hK w' h2 h3)
end Go.Proofs.YtnphbkjkeipmmaaGreatDoor
