/- lsm: what is gone; a level that is built. -/
import Derived.Test.YtcgfdhgceokcnaaGreatDoorJWalKeeps17
import Derived.Test.YtcgfdhgceokcnaaGreatDoorJWalKeeps19
namespace Go.Proofs.YtcgfdhgceokcnaaGreatDoor
open Go.RowKit Go.WideShapes
set_option linter.unusedVariables false
attribute [local go_sem ↓] Go.wp_at_zero Go.wp_at_succ

theorem gone_any (p : Pr) (w : World) : Calls Tryz.prog 69 #[p.val] w fun e w' => e = .returned (.bool p.gone) ∧ Ext w w' := by
  obtain ⟨pk, pv, pg⟩ := p
  have B := Bk.at_ w 31 #[.string pk, .string pv, .bool pg] w.heap.size rfl
  have e0 : Ext w (w.alloc (.cells #[.string pk, .string pv, .bool pg] 31)) := (Ext.refl _).alloc _
  have c2 : (w.alloc (.cells #[.string pk, .string pv, .bool pg] 31)).cell? ⟨w.heap.size, 2, none⟩ = some (.bool pg) := B.cell 2
  go_enter Tryz.func69, Tryz.ntmps69
  go_wp2_with fail
  go_ret
  exact ⟨rfl, e0⟩

set_option maxRecDepth 100000 in
set_option maxHeartbeats 1000000 in
theorem IndexGone_any (A : Option Addr) (n c : Nat) (es : List Pr) (w : World) (hr : Rd w 3 A n c (es.flatMap Pr.cells)) (hm : c ≤ maxLen) :
    Calls Tryz.prog 101 #[.slice A n c, .func (.func 69) #[] #[]] w fun e w' => (((∀ p ∈ es, p.gone = false) ∧ e = .returned (.int .i64 (-1))) ∨ ∃ (i : Nat) (p : Pr), es[i]? = some p ∧ p.gone = true ∧ (∀ q ∈ es.take i, q.gone = false) ∧ e = .returned (.int .i64 i)) ∧ Ext w w' := by
  have hl := hr.2.1
  have HX := Lib.hid hr.lenP
  have hrun : ∀ (v : Value) (w : World), (callFunc 69 #[v]).run Tryz.prog w = .ok (.enter 69 #[v]) w := fun v w => by kernel_rfl
  have H0 : Hid (∀ q ∈ es.take 0, q.gone = false) := Lib.hid fun q hq => by simp at hq
  unfold maxLen at hm
  go_enter Tryz.func101, Tryz.ntmps101
  go_wp2_with fail
  go_loopw [5, 8] (fun _ x wr => ∃ j : Nat, x = .int .i64 j ∧ j ≤ n ∧ Ext w wr ∧ Hid (∀ q ∈ es.take j, q.gone = false)) (fun _ x _ => n - (intOf x).toNat)
  case atStart => exact ⟨0, rfl, Nat.zero_le _, Ext.refl _, H0⟩
  case round =>
    obtain ⟨j, rfl, hj, hbw, hall⟩ := hrel
    by_cases hc : j < n
    · have hgj := List.getElem?_eq_getElem (l := es) (i := j) (by rw [HX.out]; exact hc)
      obtain ⟨ad, rfl, hb, c0, c1, c2⟩ := (hr.ext hbw).getP hgj
      have hnext : es.take (j + 1) = es.take j ++ [es[j]'(by rw [HX.out]; exact hc)] := List.take_succ_eq_append_getElem (by rw [HX.out]; exact hc)
      generalize es[j]'(by rw [HX.out]; exact hc) = p at *
      obtain ⟨pk, pv, pg⟩ := p
      have HNX := Lib.hid hnext
      have HG := Lib.hid hgj
      simp only at c0 c1 c2
      clear hnext hgj
      go_wp2_with fail
      refine (gone_any ⟨pk, pv, pg⟩ _).mono ?_
      rintro _ w1 ⟨rfl, hb1⟩
      have e1 := hbw.trans hb1
      cases pg with
      | true =>
        go_wp2_with fail
        go_ret
        exact ⟨.inr ⟨j, _, HG.out, rfl, hall.out, rfl⟩, e1⟩
      | false =>
        have HA : Hid (∀ q ∈ es.take (j + 1), q.gone = false) := Lib.hid fun q hq => by
          rw [HNX.out] at hq
          rcases List.mem_append.1 hq with h | h
          · exact hall.out q h
          · obtain rfl : q = ⟨pk, pv, false⟩ := by simpa using h
            rfl
        go_wp2_with fail
        go_roundw
        case rel => exact ⟨j + 1, by go_num, by omega, e1, HA⟩
        case measure => simp [intOf]; omega
    · have hfin : Hid (∀ p ∈ es, p.gone = false) := Lib.hid fun p hp => hall.out p (by rw [List.take_of_length_le (by rw [HX.out]; omega)]; exact hp)
      go_wp2_with fail
      go_ret
      exact ⟨.inl ⟨hfin.out, rfl⟩, hbw⟩

theorem TbAt.chg {w w' : World} {B tb : Nat} {v : Value} {es : List Pr} {S : Nat → Prop} (h : TbAt w B tb v es) (k : Chg w w' S) (h1 : ¬ S tb) (h2 : ∀ g, v.ownBlock = some g → ¬ S g) : TbAt w' B tb v es :=
  ⟨h.bk.chg k h1, own_chg h.own k h2, h.asc, h.ok, h.len⟩
theorem TbAt.lower {w : World} {B B' tb : Nat} {v : Value} {es : List Pr} (h : TbAt w B tb v es) (hB : B' ≤ B) : TbAt w B' tb v es := ⟨h.bk, own_lower h.own hB, h.asc, h.ok, h.len⟩

/-- a level that is built of pairs that are right -/
theorem built_any (A : Option Addr) (n c : Nat) (es : List Pr) (w : World) (hr : Rd w 3 A n c (es.flatMap Pr.cells)) (hm : c ≤ maxLen) (hn : n ≤ 1000) (hk : tblK es = 0) :
    Calls Tryz.prog 129 #[.slice A n c] w fun e w' => (∃ tb v, e = .returned (.tuple #[.agg #[.string (tabB es), .pointer (some ⟨tb, 0, none⟩)], .nilIface]) ∧ TbAt w' w.heap.size tb v es ∧ w.heap.size ≤ tb) ∧ Ext w w' := by
  obtain ⟨hE, hN, hG⟩ := errR_rules
  have HX := Lib.hid hr.lenP
  have HK := Lib.hid hk
  have htr : tabR es = tabB es := if_pos hk
  have hsz : (tabB es).size ≤ 500000000 := by
    have h1 := bodyB_len (tblK_zero.1 hk).2
    rw [HX.out] at h1
    rw [tabB_size]
    omega
  have HTR := Lib.hid htr
  have HSZ := Lib.hid hsz
  obtain ⟨tb, HTB⟩ : ∃ x, Hid (tabB es = x) := ⟨_, rfl⟩
  rw [HTB.out] at HTR HSZ
  have B0 := Bk.at_ w 89 #[.string ⟨#[]⟩, .pointer none] w.heap.size rfl
  have e0 : Ext w (w.alloc (.cells #[.string ⟨#[]⟩, .pointer none] 89)) := (Ext.refl _).alloc _
  have hr0 := hr.ext e0
  clear hk htr hsz
  go_enter Tryz.func129, Tryz.ntmps129
  go_wp2_with fail
  generalize w.alloc (.cells #[.string ⟨#[]⟩, .pointer none] 89) = W1 at *
  refine (Build_any A n c es _ hr0 hm (by omega)).mono ?_
  rw [HTR.out, HK.out, errR_0]
  rintro _ w2 ⟨rfl, hb2⟩
  go_wp2_with fail
  refine (Open_any tb _ HSZ.out).mono ?_
  rintro e w3 ⟨ho | ho, hb3⟩
  · obtain ⟨es', t3, v3, hop, rfl, T3, hlt⟩ := ho
    obtain rfl : es' = es := opn_uniq hop ⟨HK.out, HTB.out⟩
    have e3 := (e0.trans hb2).trans hb3
    have B3 := (B0.ext hb2).ext hb3
    have HT3 := Lib.hid T3
    have y0 : w3.cell? ⟨w.heap.size, 0, none⟩ = some (.string ⟨#[]⟩) := B3.cell 0
    have y1 : w3.cell? ⟨w.heap.size, 1, none⟩ = some (.pointer none) := B3.cell 1
    have f0 := B3.frozen 0
    have f1 := B3.frozen 1
    have e2 := e0.trans hb2
    have HB3 := Lib.hid B3
    clear T3 hop B3
    go_wp2_with fail
    have hlt1 : w.heap.size < w2.heap.size := hb2.lt B0.lt
    have T7 : TbAt ((w3.setCell ⟨w.heap.size, 0, none⟩ (.string tb)).setCell ⟨w.heap.size, 1, none⟩ (.pointer (some ⟨t3, 0, none⟩))) w.heap.size t3 v3 es' := by
      refine TbAt.lower (HT3.out.chg (gb_chg (gb_trans (gb_set w3 w.heap.size 0 _) (gb_set _ w.heap.size 1 _))) ?_ fun g hg => ?_) (Nat.le_of_lt hlt1)
      · intro e; injection e with e; omega
      · have := own_block HT3.out.own g hg
        intro e; injection e with e; omega
    have B7 := (HB3.out.set_ 0 (.string tb)).set_ 1 (.pointer (some ⟨t3, 0, none⟩))
    have x0 : ((w3.setCell ⟨w.heap.size, 0, none⟩ (.string tb)).setCell ⟨w.heap.size, 1, none⟩ (.pointer (some ⟨t3, 0, none⟩))).cell? ⟨w.heap.size, 0, none⟩ = some (.string tb) := (B7.cell 0).trans rfl
    have x1 : ((w3.setCell ⟨w.heap.size, 0, none⟩ (.string tb)).setCell ⟨w.heap.size, 1, none⟩ (.pointer (some ⟨t3, 0, none⟩))).cell? ⟨w.heap.size, 1, none⟩ = some (.pointer (some ⟨t3, 0, none⟩)) := (B7.cell 1).trans rfl
    have e7 := (e3.setCell (p := ⟨w.heap.size, 0, none⟩) (Nat.le_refl _) (.string tb)).setCell (p := ⟨w.heap.size, 1, none⟩) (Nat.le_refl _) (.pointer (some ⟨t3, 0, none⟩))
    refine bodyPost_ret (by simp [results, Tryz.results129, go_sem, x0, x1]; try rfl) rfl ?_
    exact ⟨⟨t3, v3, by rw [HTB.out], T7, by omega⟩, e7⟩
  · exact absurd ⟨HK.out, HTB.out⟩ (ho.1 es)
end Go.Proofs.YtcgfdhgceokcnaaGreatDoor

/- slices.DeleteFunc of what is gone, in a row that is owned. -/
namespace Go.Proofs.YtcgfdhgceokcnaaGreatDoor
open Go.RowKit Go.WideShapes
set_option linter.unusedVariables false
attribute [local go_sem ↓] Go.wp_at_zero Go.wp_at_succ

theorem wpList_clear_run {P : Program} (w : World) {ops : Array Oper} {rest : List Oper} {o : Oper} {a : Act} {Q : Exit → Act → World → Prop} (hgd : o.guard = none) (x : Operand) (t : TypeId)
    (ho : o.op = .call { callee := .builtin .clear, args := #[x], argTypes := #[t] }) (v : Value) (hx : a.eval x = v) {v' : Value} {w' : World}
    (hr : (Builtin.clear_ #[t] o.type #[v]).run P w = .ok v' w') (h : wpList P ops Q rest (a.put o.dst v') w') : wpList P ops Q (o :: rest) a w :=
  wpList_plain hgd fun K hK => by
    unfold Oper.wp execOp
    simp only [ho, resolve, invoke, builtin, Sem.run_bind, Sem.run_pure, Result.andThen_ok, List.map_toArray, List.map_cons, List.map_nil, hx, hr]
    exact hK _ _ h
theorem run_clear_rowK {P : Program} (w : World) (t ty e : TypeId) (z : Value) (ht : P.underlying t = some (.slice e)) (hv : ∀ w, (zeroValue e).run P w = .ok z w) (k g o n c : Nat) (hz : z.cells.size = k) (h1 : ∀ u ∈ z.cells.toList, u.oneCell' = true) (hn : 0 < n)
    (cur : Array Value) (tt : TypeId) (hg : w.heap[g]? = some (.cells cur tt (0, 0))) (hfit : o + n * k ≤ cur.size) :
    ∃ cur' : Array Value, (Builtin.clear_ #[t] ty #[.slice (some ⟨g, o, none⟩) n c]).run P w = .ok (.tuple #[]) (w.setRow g cur') ∧ cur'.size = cur.size ∧ cur'.toList.take o = cur.toList.take o := by
  have hl : (Builtin.zeroCells z.cells n).toList.length = n * k := by rw [Array.length_toList, zsize, hz, Nat.mul_comm]
  have h1' : ∀ u ∈ (Builtin.zeroCells z.cells n).toList, u.oneCell' = true := fun u hu => by
    unfold Builtin.zeroCells at hu
    rw [Array.toList_map, List.mem_map] at hu
    obtain ⟨i, hi, rfl⟩ := hu
    refine h1 _ ?_
    have hi' : i < n * z.cells.size := by simpa using hi
    have hp : 0 < z.cells.size := by
      rcases Nat.eq_zero_or_pos z.cells.size with h | h
      · rw [h] at hi'; omega
      · exact h
    rw [getElem!_pos z.cells (i % z.cells.size) (Nat.mod_lt _ hp)]
    simp
  have hst := run_storeCells_at P g o tt (Builtin.zeroCells z.cells n).toList 0 cur w hg (by rw [hl]; omega) h1'
  refine ⟨(cur.toList.take o ++ (Builtin.zeroCells z.cells n).toList ++ cur.toList.drop (o + n * k)).toArray, ?_, ?_, ?_⟩
  · rw [Nat.add_zero, hl] at hst
    cases n with
    | zero => omega
    | succ n => simp [Builtin.clear_, run_underlying ht, hv, hst]
  · rw [List.size_toArray, List.length_append, List.length_append, hl, List.length_take, List.length_drop, Array.length_toList]
    omega
  · show List.take o (cur.toList.take o ++ (Builtin.zeroCells z.cells n).toList ++ cur.toList.drop (o + n * k)) = _
    rw [List.append_assoc, List.take_append_of_le_length (by rw [List.length_take, Array.length_toList]; omega), List.take_take, Nat.min_self]
def ngL (es : List Pr) : List Pr := es.filter fun p => !p.gone
theorem ngL_all {es : List Pr} (h : ∀ p ∈ es, p.gone = false) : ngL es = es := List.filter_eq_self.2 fun p hp => by rw [h p hp]; rfl
theorem ngL_snoc (es : List Pr) (p : Pr) : ngL (es ++ [p]) = ngL es ++ if p.gone = true then [] else [p] := by
  unfold ngL
  rw [List.filter_append]
  congr 1
  obtain ⟨k, v, g⟩ := p
  cases g <;> rfl
theorem ngL_len (es : List Pr) : (ngL es).length ≤ es.length := List.length_filter_le _ _
end Go.Proofs.YtcgfdhgceokcnaaGreatDoor

/- slices.DeleteFunc of what is gone, walked. -/
namespace Go.Proofs.YtcgfdhgceokcnaaGreatDoor
open Go.RowKit Go.WideShapes
set_option linter.unusedVariables false
attribute [local go_sem ↓] Go.wp_at_zero Go.wp_at_succ

theorem own_part {w : World} {base n i c g : Nat} {e : TypeId} {xs ys : List Value} {k : Nat} (h : w.ownsRow base e k (.slice (some ⟨g, 0, none⟩) n c) n xs) (hi : i ≤ n) (hy : xs.take (i * k) = ys) : w.ownsRow base e k (.slice (some ⟨g, 0, none⟩) i c) i ys := by
  subst hy
  rcases h.2 with ⟨h1, _⟩ | ⟨g', cap, cur, h1, hb, hg, hn, hm, hs, ht⟩
  · cases h1
  · injection h1 with h1 h2 h3
    injection h1 with h1
    injection h1 with h1
    subst h1 h3
    have hle : i * k ≤ n * k := Nat.mul_le_mul_right _ hi
    refine ⟨by rw [List.length_take, h.1, Nat.min_eq_left hle], .inr ⟨g, c, cur, rfl, hb, hg, by omega, hm, hs, ?_⟩⟩
    rw [← ht, List.take_take, Nat.min_eq_left hle]

set_option maxRecDepth 100000 in
theorem own_cleared {w : World} {base n i c g : Nat} {xs ys : List Value} (h : w.ownsRow base 31 3 (.slice (some ⟨g, 0, none⟩) n c) n xs) (hi : i < n) (hy : xs.take (i * 3) = ys) (ty : TypeId) (c2 : Nat) :
    ∃ w', ((Builtin.clear_ #[32] ty #[.slice (some ⟨g, i * 3, none⟩) (n - i) c2]).run Tryz.prog w = .ok (.tuple #[]) w') ∧ w'.ownsRow base 31 3 (.slice (some ⟨g, 0, none⟩) i c) i ys ∧ w.grownBy w' (some g) := by
  subst hy
  rcases h.2 with ⟨h1, _⟩ | ⟨g', cap, cur, h1, hb, hg, hn, hm, hs, ht⟩
  · cases h1
  · injection h1 with h1 h2 h3
    injection h1 with h1
    injection h1 with h1
    subst h1 h3
    have hle : i * 3 ≤ n * 3 := Nat.mul_le_mul_right _ (Nat.le_of_lt hi)
    have hcc : n * 3 ≤ c * 3 := Nat.mul_le_mul_right _ hn
    have hcl := run_clear_rowK (P := Tryz.prog) w 32 ty 31 (.agg #[.string ⟨#[]⟩, .string ⟨#[]⟩, .bool false]) Tryz.underlying32 (fun w => by kernel_rfl) 3 g (i * 3) (n - i) c2 rfl (by intro u hu; simp [Value.cells] at hu; rcases hu with rfl | rfl | rfl <;> rfl) (by omega) cur _ hg (by omega)
    obtain ⟨cur', hr, hs', ht'⟩ := hcl
    refine ⟨w.setRow g cur', hr, ?_, ?_⟩
    · refine ⟨by rw [List.length_take, h.1, Nat.min_eq_left hle], .inr ⟨g, c, cur', rfl, hb, setRow_heap w g cur _ _ (0, 0) hg, by omega, hm, by omega, ?_⟩⟩
      rw [ht', ← ht, List.take_take, Nat.min_eq_left hle]
    · exact ⟨rfl, rfl, rfl, by simp, fun k hk hne => setRow_other _ _ _ _ fun e => hne (by rw [e])⟩
theorem own_set3 {w : World} {B g n c lo : Nat} {es : List Pr} {p : Pr} (ho : w.ownsRow B 31 3 (.slice (some ⟨g, 0, none⟩) n c) n (es.flatMap Pr.cells)) (hx : es.length = n) (hlo : lo < n) :
    (((w.setCell ⟨g, lo * 3, none⟩ (.string p.key)).setCell ⟨g, lo * 3 + 1, none⟩ (.string p.value)).setCell ⟨g, lo * 3 + 2, none⟩ (.bool p.gone)).ownsRow B 31 3 (.slice (some ⟨g, 0, none⟩) n c) n ((es.set lo p).flatMap Pr.cells) ∧
    w.grownBy (((w.setCell ⟨g, lo * 3, none⟩ (.string p.key)).setCell ⟨g, lo * 3 + 1, none⟩ (.string p.value)).setCell ⟨g, lo * 3 + 2, none⟩ (.bool p.gone)) (some g) := by
  have o1 := ho.stored (lo * 3) (.string p.key)
  have o2 := o1.1.stored (lo * 3 + 1) (.string p.value)
  have o3 := o2.1.stored (lo * 3 + 2) (.bool p.gone)
  refine ⟨?_, gb_trans (gb_trans o1.2 o2.2) o3.2⟩
  rw [← cells_set es lo p (by omega)]
  exact o3.1
theorem own_cells {w : World} {B g n c j : Nat} {es : List Pr} {p : Pr} (ho : w.ownsRow B 31 3 (.slice (some ⟨g, 0, none⟩) n c) n (es.flatMap Pr.cells)) (hx : es.length = n) (hp : es[j]? = some p) :
    w.cell? ⟨g, j * 3, none⟩ = some (.string p.key) ∧ w.cell? ⟨g, j * 3 + 1, none⟩ = some (.string p.value) ∧ w.cell? ⟨g, j * 3 + 2, none⟩ = some (.bool p.gone) ∧ w.frozen? ⟨g, j * 3, none⟩ = false ∧ w.frozen? ⟨g, j * 3 + 1, none⟩ = false ∧ w.frozen? ⟨g, j * 3 + 2, none⟩ = false := by
  have hj : j < n := by rw [← hx]; exact (List.getElem?_eq_some_iff.1 hp).1
  exact ⟨(ho.cellAt (j * 3) (by omega)).trans (flat_nthP (f := Pr.cells) (k := 3) (fun _ => rfl) es j p 0 hp (by omega)),
    (ho.cellAt (j * 3 + 1) (by omega)).trans (flat_nthP (f := Pr.cells) (k := 3) (fun _ => rfl) es j p 1 hp (by omega)),
    (ho.cellAt (j * 3 + 2) (by omega)).trans (flat_nthP (f := Pr.cells) (k := 3) (fun _ => rfl) es j p 2 hp (by omega)),
    ho.frozenAt (j * 3), ho.frozenAt (j * 3 + 1), ho.frozenAt (j * 3 + 2)⟩
/-- what the loop knows: of the first j those that are not gone lie ahead -/
def DelI (es e2 : List Pr) (n i j : Nat) : Prop := e2.length = n ∧ e2.take i = ngL (es.take j) ∧ e2.drop j = es.drop j
theorem del_get {es e2 : List Pr} {n i j : Nat} (h : DelI es e2 n i j) {p : Pr} (hp : e2[j]? = some p) : es[j]? = some p := by
  have h1 := congrArg (fun l : List Pr => l[0]?) h.2.2
  simp only [List.getElem?_drop, Nat.add_zero] at h1
  rw [← h1, hp]
theorem drop_step {a b : List Pr} {j : Nat} (h : a.drop j = b.drop j) : a.drop (j + 1) = b.drop (j + 1) := by
  have := congrArg (List.drop 1) h
  simpa [List.drop_drop, Nat.add_comm] using this
theorem take_step {es : List Pr} {j : Nat} {p : Pr} (h : es[j]? = some p) : es.take (j + 1) = es.take j ++ [p] := by
  obtain ⟨h1, h2⟩ := List.getElem?_eq_some_iff.1 h
  rw [List.take_succ_eq_append_getElem h1, h2]
theorem del_skip {es e2 : List Pr} {n i j : Nat} (h : DelI es e2 n i j) {p : Pr} (hp : e2[j]? = some p) (hg : p.gone = true) : DelI es e2 n i (j + 1) := by
  refine ⟨h.1, ?_, drop_step h.2.2⟩
  rw [take_step (del_get h hp), ngL_snoc, hg, if_pos rfl, List.append_nil]
  exact h.2.1
theorem del_keep {es e2 : List Pr} {n i j : Nat} (h : DelI es e2 n i j) {p : Pr} (hp : e2[j]? = some p) (hg : p.gone = false) (hij : i < j) : DelI es (e2.set i p) n (i + 1) (j + 1) := by
  have hln := h.1
  have hj := (List.getElem?_eq_some_iff.1 hp).1
  refine ⟨by rw [List.length_set]; exact h.1, ?_, ?_⟩
  · have hs : (e2.set i p)[i]? = some p := List.getElem?_set_self (by omega)
    rw [take_step (del_get h hp), ngL_snoc, hg, if_neg (by decide), take_step hs, List.take_set_of_le (Nat.le_refl _), h.2.1]
  · rw [List.drop_set_of_lt (by omega)]
    exact drop_step h.2.2
theorem del_end {es e2 : List Pr} {n i : Nat} (h : DelI es e2 n i n) (hx : es.length = n) : e2.take i = ngL es := by
  have := h.2.1
  rwa [List.take_of_length_le (l := es) (by omega)] at this

set_option maxRecDepth 100000 in
set_option maxHeartbeats 2000000 in
theorem DeleteGone_any (base n : Nat) (v : Value) (es : List Pr) (w : World) (hn : n ≤ 1000000) (hx : es.length = n) (hown : w.ownsRow base 31 3 v n (es.flatMap Pr.cells)) :
    Calls Tryz.prog 68 #[v, .func (.func 69) #[] #[]] w fun e w' => (∃ v', e = .returned v' ∧ w'.ownsRow base 31 3 v' (ngL es).length ((ngL es).flatMap Pr.cells)) ∧ w.grownBy w' v.ownBlock := by
  obtain ⟨A, c, rfl, hc, hr, hnil⟩ := own_rd hown
  have HX := Lib.hid hx
  have HO := Lib.hid hown
  have hl := hr.2.1
  have hI := IndexGone_any A n c es w hr hc
  have HI := Lib.hid hI
  clear hx hown hnil hr hI
  unfold maxLen at hc
  go_enter Tryz.func68, Tryz.ntmps68
  go_wp2_with fail
  refine HI.out.mono ?_
  rintro e w1 ⟨⟨hall, rfl⟩ | ⟨i, p, hp, hpg, hall, rfl⟩, hb1⟩
  · have HF : Hid (w1.ownsRow base 31 3 (.slice A n c) (ngL es).length ((ngL es).flatMap Pr.cells)) := by
      rw [ngL_all hall, HX.out]
      exact own_ext HO.out hb1
    clear hall
    go_wp2_with fail
    go_ret
    exact ⟨⟨_, rfl, HF.out⟩, hb1.gb _⟩
  · have hin : i < n := by rw [← HX.out]; exact (List.getElem?_eq_some_iff.1 hp).1
    obtain ⟨g, rfl⟩ : ∃ g, A = some ⟨g, 0, none⟩ := by
      rcases HO.out.2 with ⟨h1, h2⟩ | ⟨g, cap, cur, h1, _⟩
      · omega
      · injection h1 with h1; exact ⟨g, h1⟩
    have hz : ngL (es.take (i + 1)) = es.take i := by
      rw [List.take_succ_eq_append_getElem (by rw [HX.out]; exact hin), ngL_snoc, ngL_all hall]
      have h1 : es[i]'(by rw [HX.out]; exact hin) = p := by
        rw [List.getElem?_eq_getElem (by rw [HX.out]; exact hin)] at hp
        injection hp
      rw [h1, hpg, if_pos rfl, List.append_nil]
    have H0 : Hid (w1.ownsRow base 31 3 (.slice (some ⟨g, 0, none⟩) n c) n (es.flatMap Pr.cells)) := own_ext HO.out hb1
    have H1 : Hid (DelI es es n i (i + 1)) := Lib.hid ⟨HX.out, hz.symm, rfl⟩
    have hrun : ∀ (v : Value) (w : World), (callFunc 69 #[v]).run Tryz.prog w = .ok (.enter 69 #[v]) w := fun v w => by kernel_rfl
    have hm1 : ((i : Int) == -1) = false := beq_eq_false_iff_ne.2 (by omega)
    clear hall hz hp hpg
    go_wp2_with fail
    go_loopw [5, 6, 7] (fun x y _ wr => ∃ (i j : Nat) (e2 : List Pr), x = .int .i64 i ∧ y = .int .i64 j ∧ i < j ∧ j ≤ n ∧ w.grownBy wr (some g) ∧ Hid (wr.ownsRow base 31 3 (.slice (some ⟨g, 0, none⟩) n c) n (e2.flatMap Pr.cells)) ∧ Hid (DelI es e2 n i j)) (fun _ y _ _ => n - (intOf y).toNat)
    case atStart => exact ⟨_, _, es, rfl, by go_num, by omega, by omega, hb1.gb _, H0, H1⟩
    case round =>
      obtain ⟨i, j, e2, rfl, rfl, hij, hj, hgb, hown, hinv⟩ := hrel
      by_cases hc2 : j < n
      · have hjl : j < e2.length := by rw [hinv.out.1]; exact hc2
        have hgj : e2[j]? = some (e2[j]'hjl) := List.getElem?_eq_getElem hjl
        generalize e2[j]'hjl = p at *
        have HJ := Lib.hid hgj
        obtain ⟨c0, c1, c2, -, -, -⟩ := own_cells hown.out hinv.out.1 hgj
        obtain ⟨pk, pv, pg⟩ := p
        simp only at c0 c1 c2
        have P3 := Bk.at_ wr 31 #[.string pk, .string pv, .bool pg] wr.heap.size rfl
        have g3 : w.grownBy (wr.alloc (.cells #[.string pk, .string pv, .bool pg] 31)) (some g) := gb_alloc hgb _
        have o3 := World.ownsRow.alloc hown.out (.cells #[.string pk, .string pv, .bool pg] 31)
        clear hgj
        go_wp2_with fail
        refine (gone_any ⟨pk, pv, pg⟩ _).mono ?_
        rintro _ w5 ⟨rfl, hb5⟩
        have own5 := own_ext o3 hb5
        have g5 := gb_trans g3 (hb5.gb (some g))
        have P5 := P3.ext hb5
        have O5 := Lib.hid own5
        cases pg with
        | true =>
          have HD := Lib.hid (del_skip hinv.out HJ.out rfl)
          clear own5 P3 o3 g3
          go_wp2_with fail
          go_roundw
          case rel => exact ⟨i, j + 1, e2, rfl, by go_num, by omega, by omega, g5, O5, HD⟩
          case measure => simp [intOf]; omega
        | false =>
          have HD := Lib.hid (del_keep hinv.out HJ.out rfl hij)
          obtain ⟨q, hq⟩ : ∃ q, e2[i]? = some q := ⟨_, List.getElem?_eq_getElem (by omega)⟩
          obtain ⟨q0, q1, q2, f0, f1, f2⟩ := own_cells own5 hinv.out.1 hq
          have y0 : w5.cell? ⟨wr.heap.size, 0, none⟩ = some (.string pk) := P5.cell 0
          have y1 : w5.cell? ⟨wr.heap.size, 1, none⟩ = some (.string pv) := P5.cell 1
          have y2 : w5.cell? ⟨wr.heap.size, 2, none⟩ = some (.bool false) := P5.cell 2
          have hgb : g ≠ wr.heap.size := fun e => by
            have h3 := hown.out.lt g rfl
            omega
          have O7 := Lib.hid (own_set3 (lo := i) (p := ⟨pk, pv, false⟩) own5 hinv.out.1 (by omega))
          clear own5 P3 o3 g3 P5 c0 c1 c2 hq
          go_wp2_with fail
          go_roundw
          case rel => exact ⟨i + 1, j + 1, _, by go_num, by go_num, by omega, by omega, gb_trans g5 O7.out.2, O7.out.1, HD⟩
          case measure => simp [intOf]; omega
      · obtain rfl : j = n := by omega
        have HE := Lib.hid (del_end hinv.out HX.out)
        have hin2 : i < j := hij
        obtain ⟨w7, hcl, o7, g7⟩ := own_cleared hown.out hij ((flat_take (f := Pr.cells) (k := 3) (fun _ => rfl) e2 i).trans (congrArg _ HE.out)) 0 (c - i)
        have HO7 := Lib.hid o7
        have hlen : i = (ngL es).length := by
          rw [← HE.out, List.length_take, hinv.out.1]
          omega
        have HLN := Lib.hid hlen
        clear o7 hlen
        go_wp2_with fail
        go_ret
        exact ⟨⟨_, rfl, by rw [← HLN.out]; exact HO7.out⟩, gb_trans hgb g7⟩
end Go.Proofs.YtcgfdhgceokcnaaGreatDoor

/- lsm.live: lists laid over one another. -/
namespace Go.Proofs.YtcgfdhgceokcnaaGreatDoor
open Go.RowKit Go.WideShapes
set_option linter.unusedVariables false
attribute [local go_sem ↓] Go.wp_at_zero Go.wp_at_succ

/-- lists of pairs, each as a slice that can be read -/
def RdLs (w : World) (vs : List Value) (T : List (List Pr)) : Prop :=
  vs.length = T.length ∧ ∀ (i : Nat) (v : Value) (es : List Pr), vs[i]? = some v → T[i]? = some es → ∃ A c, v = .slice A es.length c ∧ c ≤ maxLen ∧ Rd w 3 A es.length c (es.flatMap Pr.cells)
theorem RdLs.ext {w w' : World} {vs : List Value} {T : List (List Pr)} (h : RdLs w vs T) (k : Ext w w') : RdLs w' vs T :=
  ⟨h.1, fun i v es hv hT => by
    obtain ⟨A, c, e, hc, hr⟩ := h.2 i v es hv hT
    exact ⟨A, c, e, hc, hr.ext k⟩⟩

/-- of so many lists, and of the next one so many pairs -/
def outL (T : List (List Pr)) (i j : Nat) : List Pr := ((T.take i).flatten ++ ((T[i]?.getD []).take j)).foldl addL []
theorem outL_zero (T : List (List Pr)) (i : Nat) : outL T i 0 = ((T.take i).flatten).foldl addL [] := by simp [outL]
theorem outL_step {T : List (List Pr)} {i j : Nat} {es : List Pr} {p : Pr} (h : T[i]? = some es) (hp : es[j]? = some p) : outL T i (j + 1) = addL (outL T i j) p := by
  unfold outL
  rw [h, Option.getD_some, take_step hp, ← List.append_assoc, List.foldl_append]
  rfl
theorem outL_end {T : List (List Pr)} {i : Nat} {es : List Pr} (h : T[i]? = some es) : outL T i es.length = outL T (i + 1) 0 := by
  obtain ⟨h1, h2⟩ := List.getElem?_eq_some_iff.1 h
  unfold outL
  rw [h, Option.getD_some, List.take_of_length_le (Nat.le_refl _), List.take_zero, List.append_nil, List.take_succ_eq_append_getElem h1, h2, List.flatten_append]
  simp
theorem outL_all {T : List (List Pr)} : ngL (outL T T.length 0) = liveL T := by
  unfold outL liveL mergeL
  rw [List.take_of_length_le (Nat.le_refl _), List.take_zero, List.append_nil]
  rfl
theorem outL_asc (T : List (List Pr)) (i j : Nat) : Asc (outL T i j) := fold_asc _ _ Asc.nil
theorem outL_len {T : List (List Pr)} {i j : Nat} : (outL T i j).length ≤ (T.take i).flatten.length + j := by
  have h := fold_len ((T.take i).flatten ++ ((T[i]?.getD []).take j)) []
  unfold outL
  rw [List.length_append, List.length_take] at h
  simp only [List.length_nil] at h
  omega
theorem take_tot : ∀ {T : List (List Pr)} {i : Nat} {es : List Pr}, T[i]? = some es → (T.take i).flatten.length + es.length ≤ totL T
  | [], i, es, h => by simp at h
  | l :: T, 0, es, h => by
    obtain rfl : l = es := by simpa using h
    rw [totL_cons]
    simp
  | l :: T, i + 1, es, h => by
    have ih := take_tot (T := T) (i := i) (es := es) (by simpa using h)
    rw [totL_cons, List.take_succ_cons, List.flatten_cons, List.length_append]
    omega

set_option maxRecDepth 100000 in
set_option maxHeartbeats 2000000 in
theorem live_any (A : Option Addr) (n c : Nat) (vs : List Value) (T : List (List Pr)) (w : World) (hr : Rd w 1 A n c vs) (hm : c ≤ maxLen) (hl : RdLs w vs T) (htot : totL T ≤ 1000) :
    Calls Tryz.prog 35 #[.slice A n c] w fun e w' => (∃ v', e = .returned v' ∧ w'.ownsRow w.heap.size 31 3 v' (liveL T).length ((liveL T).flatMap Pr.cells)) ∧ Ext w w' := by
  have hvl : vs.length = n := by have := hr.1; omega
  have hTl : T.length = n := hl.1.symm.trans hvl
  have HT := Lib.hid hTl
  have HV := Lib.hid hvl
  have HL := Lib.hid hl
  have HTOT := Lib.hid htot
  have hnc := hr.2.1
  have H0 : Hid (w.ownsRow w.heap.size 31 3 (.slice none 0 0) (outL T 0 0).length ((outL T 0 0).flatMap Pr.cells)) := own_nil _ _ _ _
  clear hl hvl hTl htot
  unfold maxLen at hm
  go_enter Tryz.func35, Tryz.ntmps35
  go_wp2_with fail
  go_loopw [3, 5, 7, 8, 9, 12] (fun o _ _ _ _ x wr => ∃ i : Nat, x = .int .i64 i ∧ i ≤ n ∧ Ext w wr ∧ Hid (wr.ownsRow w.heap.size 31 3 o (outL T i 0).length ((outL T i 0).flatMap Pr.cells))) (fun _ _ _ _ _ x _ => n - (intOf x).toNat)
  case atStart => exact ⟨0, rfl, Nat.zero_le _, Ext.refl _, H0⟩
  case round =>
    obtain ⟨i, rfl, hi, hbw, hown⟩ := hrel
    by_cases hc : i < n
    · obtain ⟨ev, hev⟩ : ∃ v, vs[i]? = some v := ⟨_, List.getElem?_eq_getElem (by rw [HV.out]; exact hc)⟩
      obtain ⟨es, hes⟩ : ∃ es, T[i]? = some es := ⟨_, List.getElem?_eq_getElem (by rw [HT.out]; exact hc)⟩
      obtain ⟨ad, rfl, hb, c0⟩ := (hr.ext hbw).at_ hev
      obtain ⟨A1, c1, rfl, hc1, hr1⟩ := HL.out.2 i _ es hev hes
      obtain ⟨m, hm1⟩ : ∃ m, es.length = m := ⟨_, rfl⟩
      have HES := Lib.hid hes
      have HM := Lib.hid hm1
      have hm3 : m ≤ 1000 := by
        have h1 := take_tot hes
        have h2 := HTOT.out
        omega
      have hmc := hr1.2.1
      rw [hm1] at c0 hr1 hmc
      have HR1 := Lib.hid hr1
      unfold maxLen at hc1
      clear hes hm1 hev hr1
      go_wp2_with fail
      go_loopw [3, 7, 8, 9, 18] (fun o _ _ _ x wr => ∃ j : Nat, x = .int .i64 j ∧ j ≤ m ∧ Ext w wr ∧ Hid (wr.ownsRow w.heap.size 31 3 o (outL T i j).length ((outL T i j).flatMap Pr.cells))) (fun _ _ _ _ x _ => m - (intOf x).toNat)
      case atStart => exact ⟨0, rfl, Nat.zero_le _, hbw, hown⟩
      case round =>
        obtain ⟨j, rfl, hj, hbw2, hown2⟩ := hrel
        by_cases hc2 : j < m
        · obtain ⟨p, hp⟩ : ∃ p, es[j]? = some p := ⟨_, List.getElem?_eq_getElem (by rw [HM.out]; exact hc2)⟩
          obtain ⟨ad1, rfl, hb1, y0, y1, y2⟩ := (HR1.out.ext hbw2).getP hp
          have hst := outL_step HES.out hp
          have hol := outL_len (T := T) (i := i) (j := j)
          have hasc := outL_asc T i j
          have htt := take_tot HES.out
          rw [HM.out] at htt
          have htt2 := HTOT.out
          generalize outL T i j = O at *
          obtain ⟨k, hk⟩ : ∃ k, O.length = k := ⟨_, rfl⟩
          rw [hk] at hol
          have hk1 : k ≤ 1000 := by omega
          have ow := hown2.out
          rw [hk] at ow
          obtain ⟨A2, c2, rfl, hc3, hr2, -⟩ := own_rd ow
          obtain ⟨pk, pv, pg⟩ := p
          simp only at y0 y1 y2
          have HST := Lib.hid hst
          have HK := Lib.hid hk
          have HASC := Lib.hid hasc
          have HOW := Lib.hid ow
          have P3 := Bk.at_ wr 31 #[.string pk, .string pv, .bool pg] wr.heap.size rfl
          have e3 : Ext w (wr.alloc (.cells #[.string pk, .string pv, .bool pg] 31)) := hbw2.alloc _
          have e3r : Ext wr (wr.alloc (.cells #[.string pk, .string pv, .bool pg] 31)) := (Ext.refl _).alloc _
          have z0 : (wr.alloc (.cells #[.string pk, .string pv, .bool pg] 31)).cell? ⟨wr.heap.size, 0, none⟩ = some (.string pk) := P3.cell 0
          have HR2 := Lib.hid (hr2.ext e3r)
          clear hst hk hasc ow hown2 hr2 htt htt2 hol hp
          go_upto_region 8 with (fail)
          generalize wr.alloc (.cells #[.string pk, .string pv, .bool pg] 31) = W3 at *
          go_wp2_with fail
          refine (Find_any A2 k c2 O pk _ HR2.out hc3 (by omega) HASC.out).mono ?_
          obtain ⟨lo, HLO⟩ : ∃ x, Hid (lowN O pk = x) := ⟨_, rfl⟩
          obtain ⟨hb9, HHB⟩ : ∃ x, Hid (hasB O pk = x) := ⟨_, rfl⟩
          rw [HLO.out, HHB.out]
          rintro _ w4 ⟨rfl, hb4⟩
          have e4 := e3.trans hb4
          have P4 := P3.ext hb4
          have OW4 := Lib.hid (own_ext (own_ext HOW.out e3r) hb4)
          cases hb9 with
          | true =>
            have HN : Hid (w4.ownsRow w.heap.size 31 3 (.slice A2 k c2) (outL T i (j + 1)).length ((outL T i (j + 1)).flatMap Pr.cells)) := by
              show World.ownsRow _ _ _ _ _ _ _
              rw [HST.out, show addL O ⟨pk, pv, pg⟩ = O from if_pos HHB.out, HK.out]
              exact OW4.out
            clear P3 z0
            go_wp2_with fail
            go_roundw
            case rel => exact ⟨j + 1, by go_num, by omega, e4, HN⟩
            case measure => simp [intOf]; omega
          | false =>
            have hlo : lo ≤ k := by rw [← HLO.out, ← HK.out]; exact lowN_le _ _
            have q0 : w4.cell? ⟨wr.heap.size, 0, none⟩ = some (.string pk) := P4.cell 0
            have q1 : w4.cell? ⟨wr.heap.size, 1, none⟩ = some (.string pv) := P4.cell 1
            have q2 : w4.cell? ⟨wr.heap.size, 2, none⟩ = some (.bool pg) := P4.cell 2
            clear P3 z0 P4
            go_wp2_with fail
            have P5 := Bk.at_ w4 31 #[.string pk, .string pv, .bool pg] w4.heap.size rfl
            have e5 : Ext w4 (w4.alloc (.cells #[.string pk, .string pv, .bool pg] 31)) := (Ext.refl _).alloc _
            refine (Insert_own w.heap.size k lo w4.heap.size (.slice A2 k c2) (O.flatMap Pr.cells) #[.string pk, .string pv, .bool pg] _ hlo (by omega) (e4.trans e5).size (own_ext OW4.out e5) rfl P5 ?_ (cells_one O) ?_).mono ?_
            · intro e'
              have := OW4.out.lt _ e'
              omega
            · intro u hu
              simp at hu
              rcases hu with rfl | rfl | rfl <;> rfl
            · rintro _ w6 ⟨g, cap, rfl, own6, hg6, -⟩
              have HN : Hid (w6.ownsRow w.heap.size 31 3 (.slice (some ⟨g, 0, none⟩) (k + 1) cap) (outL T i (j + 1)).length ((outL T i (j + 1)).flatMap Pr.cells)) := by
                show World.ownsRow _ _ _ _ _ _ _
                rw [HST.out, show addL O ⟨pk, pv, pg⟩ = insL O lo ⟨pk, pv, pg⟩ from (if_neg (by rw [HHB.out]; decide)).trans (by rw [HLO.out]), ins_len (by rw [HK.out]; exact hlo), HK.out, ← cells_ins]
                exact own6
              have e6 := own_grown (own_ext OW4.out e5) hg6 w (Nat.le_refl _) (e4.trans e5)
              clear own6 hg6 P5
              go_wp2_with fail
              go_roundw
              case rel => exact ⟨j + 1, by go_num, by omega, e6, HN⟩
              case measure => simp [intOf]; omega
        · obtain rfl : j = m := by omega
          have HN := Lib.hid hown2.out
          rw [← HM.out, outL_end HES.out] at HN
          clear hown2 hc2
          go_wp2_with fail
          go_roundw
          case rel => exact ⟨i + 1, by go_num, by omega, hbw2, HN⟩
          case measure => simp [intOf]; omega
    · obtain rfl : i = n := by omega
      have hOl := outL_all (T := T)
      have hol := outL_len (T := T) (i := T.length) (j := 0)
      rw [HT.out] at hOl hol
      have h3 : (T.take i).flatten.length ≤ totL T := by
        rw [List.take_of_length_le (by rw [HT.out]; exact Nat.le_refl _), List.length_flatten]; exact Nat.le_refl _
      have h4 := HTOT.out
      have HOL := Lib.hid hOl
      generalize outL T i 0 = O at *
      have HC := Lib.hid (DeleteGone_any w.heap.size O.length _ O wr (by omega) rfl hown.out)
      have HOW := Lib.hid hown.out
      clear hown hOl hol h3 h4
      go_wp2_with fail
      refine HC.out.mono ?_
      rintro _ w5 ⟨⟨v', rfl, ho⟩, hg⟩
      rw [HOL.out] at ho
      have HO := Lib.hid ho
      have e5 := own_grown HOW.out hg w (Nat.le_refl _) hbw
      clear ho
      go_wp2_with fail
      go_ret
      exact ⟨⟨v', rfl, HO.out⟩, e5⟩
end Go.Proofs.YtcgfdhgceokcnaaGreatDoor

/- an lsm in memory; what is young. -/
namespace Go.Proofs.YtcgfdhgceokcnaaGreatDoor
open Go.RowKit Go.WideShapes
set_option linter.unusedVariables false
attribute [local go_sem ↓] Go.wp_at_zero Go.wp_at_succ

/-- a level's table -/
structure Tb where
  blk : Nat
  row : Value
  es : List Pr
def Tb.cells (t : Tb) : List Value := [.string (tabB t.es), .pointer (some ⟨t.blk, 0, none⟩)]
structure LAt (w : World) (x : Nat) (lim : Int) (sb : Nat) (sv : Value) (Y : List Pr) (lv : Value) (ts : List Tb) : Prop where
  bk : Bk w x 82 #[.int .i64 lim, .pointer (some ⟨sb, 0, none⟩), lv]
  st : StAt w 0 sb sv Y
  own : w.ownsRow 0 89 2 lv ts.length (ts.flatMap Tb.cells)
  tab : ∀ t ∈ ts, TbAt w 0 t.blk t.row t.es
  sep : ∀ t ∈ ts, ∀ g, t.row.ownBlock = some g → sv.ownBlock ≠ some g
  len : ts.length ≤ 8
/-- the blocks that it lies in -/
def LFoot (x sb : Nat) (sv lv : Value) (ts : List Tb) (g : Nat) : Prop := g = x ∨ g = sb ∨ sv.ownBlock = some g ∨ lv.ownBlock = some g ∨ ∃ t ∈ ts, g = t.blk ∨ t.row.ownBlock = some g
theorem LAt.chg {w w' : World} {x sb : Nat} {lim : Int} {sv lv : Value} {Y : List Pr} {ts : List Tb} {S : Nat → Prop} (h : LAt w x lim sb sv Y lv ts) (k : Chg w w' S) (hS : ∀ g, LFoot x sb sv lv ts g → ¬ S g) : LAt w' x lim sb sv Y lv ts :=
  ⟨h.bk.chg k (hS x (.inl rfl)), h.st.chg k (hS sb (.inr (.inl rfl))) fun g hg => hS g (.inr (.inr (.inl hg))), own_chg h.own k fun g hg => hS g (.inr (.inr (.inr (.inl hg)))),
    fun t ht => (h.tab t ht).chg k (hS _ (.inr (.inr (.inr (.inr ⟨t, ht, .inl rfl⟩))))) fun g hg => hS g (.inr (.inr (.inr (.inr ⟨t, ht, .inr hg⟩)))), h.sep, h.len⟩
theorem LAt.ext {w w' : World} {x sb : Nat} {lim : Int} {sv lv : Value} {Y : List Pr} {ts : List Tb} (h : LAt w x lim sb sv Y lv ts) (k : Ext w w') : LAt w' x lim sb sv Y lv ts :=
  h.chg (k.chg fun _ => False) fun _ _ h => h
theorem LAt.lt {w : World} {x sb : Nat} {lim : Int} {sv lv : Value} {Y : List Pr} {ts : List Tb} (h : LAt w x lim sb sv Y lv ts) {g : Nat} (hg : LFoot x sb sv lv ts g) : g < w.heap.size := by
  rcases hg with rfl | rfl | hg | hg | ⟨t, ht, rfl | hg⟩
  · exact h.bk.lt
  · exact h.st.bk.lt
  · exact (h.st.own.lt _ hg).2
  · exact (h.own.lt _ hg).2
  · exact (h.tab t ht).bk.lt
  · exact ((h.tab t ht).own.lt _ hg).2
/-- what is young is written -/
theorem LAt.young {w w' : World} {x sb : Nat} {lim : Int} {sv lv v' : Value} {Y Y' : List Pr} {ts : List Tb} (h : LAt w x lim sb sv Y lv ts) (k : Chg w w' (fun k => k = sb ∨ sv.ownBlock = some k)) (hs : StAt w' 0 sb v' Y') (hv : ∀ g, v'.ownBlock = some g → sv.ownBlock = some g ∨ w.heap.size ≤ g) : LAt w' x lim sb v' Y' lv ts := by
  refine ⟨h.bk.chg k ?_, hs, own_chg h.own k ?_, fun t ht => (h.tab t ht).chg k ?_ ?_, fun t ht g hg hg' => ?_, h.len⟩
  · rintro (e | e)
    · exact bk_ne h.bk h.st.bk (by decide) e
    · exact own_type h.st.own h.bk (by decide) e
  · rintro g hg (e | e)
    · subst e; exact own_type h.own h.st.bk (by decide) hg
    · exact own_own h.own h.st.own (by decide) hg e
  · rintro (e | e)
    · exact bk_ne (h.tab t ht).bk h.st.bk (by decide) e
    · exact own_type h.st.own (h.tab t ht).bk (by decide) e
  · rintro g hg (e | e)
    · subst e; exact own_type (h.tab t ht).own h.st.bk (by decide) hg
    · exact h.sep t ht g hg e
  · rcases hv g hg' with e | e
    · exact h.sep t ht g hg e
    · have := ((h.tab t ht).own.lt _ hg).2
      omega
/-- the blocks of its own, that it writes -/
def LOwn (x sb : Nat) (sv lv : Value) (g : Nat) : Prop := g = x ∨ g = sb ∨ sv.ownBlock = some g ∨ lv.ownBlock = some g
theorem LOwn.foot {x sb : Nat} {sv lv : Value} {ts : List Tb} {g : Nat} (h : LOwn x sb sv lv g) : LFoot x sb sv lv ts g := by
  rcases h with h | h | h | h
  · exact .inl h
  · exact .inr (.inl h)
  · exact .inr (.inr (.inl h))
  · exact .inr (.inr (.inr (.inl h)))
/-- an lsm with its blocks F, of which those in H are held: it may read them, and does not write them -/
def LMH (w : World) (F H : Nat → Prop) (x : Nat) (lim : Int) (Y : List Pr) (T : List (List Pr)) : Prop :=
  ∃ sb sv lv ts, LAt w x lim sb sv Y lv ts ∧ ts.map Tb.es = T ∧ (∀ g, LFoot x sb sv lv ts g → F g) ∧ ∀ g, LOwn x sb sv lv g → ¬ H g
abbrev nH : Nat → Prop := fun _ => False
abbrev LM (w : World) (F : Nat → Prop) (x : Nat) (lim : Int) (Y : List Pr) (T : List (List Pr)) : Prop := LMH w F nH x lim Y T
theorem LMH.chg {w w' : World} {F H S : Nat → Prop} {x : Nat} {lim : Int} {Y : List Pr} {T : List (List Pr)} (h : LMH w F H x lim Y T) (k : Chg w w' S) (hS : ∀ g, F g → ¬ S g) : LMH w' F H x lim Y T := by
  obtain ⟨sb, sv, lv, ts, hL, hT, hF, hH⟩ := h
  exact ⟨sb, sv, lv, ts, hL.chg k fun g hg => hS g (hF g hg), hT, hF, hH⟩
theorem LMH.ext {w w' : World} {F H : Nat → Prop} {x : Nat} {lim : Int} {Y : List Pr} {T : List (List Pr)} (h : LMH w F H x lim Y T) (k : Ext w w') : LMH w' F H x lim Y T := by
  obtain ⟨sb, sv, lv, ts, hL, hT, hF, hH⟩ := h
  exact ⟨sb, sv, lv, ts, hL.ext k, hT, hF, hH⟩
theorem LMH.free {w : World} {F H : Nat → Prop} {x : Nat} {lim : Int} {Y : List Pr} {T : List (List Pr)} (h : LMH w F H x lim Y T) : LM w F x lim Y T := by
  obtain ⟨sb, sv, lv, ts, hL, hT, hF, hH⟩ := h
  exact ⟨sb, sv, lv, ts, hL, hT, hF, fun g _ h => h⟩
theorem LMH.many {w : World} {F H : Nat → Prop} {x : Nat} {lim : Int} {Y : List Pr} {T : List (List Pr)} (h : LMH w F H x lim Y T) : Y.length ≤ 60 ∧ T.length ≤ 8 ∧ LsOk (Y :: T) := by
  obtain ⟨sb, sv, lv, ts, hL, rfl, hF, -⟩ := h
  refine ⟨hL.st.len, by rw [List.length_map]; exact hL.len, LsOk.cons ⟨hL.st.asc, hL.st.ok⟩ fun l hl => ?_⟩
  obtain ⟨t, ht, rfl⟩ := List.mem_map.1 hl
  exact ⟨(hL.tab t ht).asc, (hL.tab t ht).ok⟩
/-- what an operation leaves: it wrote its own blocks alone, and none that is held -/
structure LOH (w w' : World) (F H : Nat → Prop) (x : Nat) (lim : Int) (Y : List Pr) (T : List (List Pr)) (F' : Nat → Prop) : Prop where
  at_ : LMH w' F' H x lim Y T
  chg : Chg w w' (fun g => F g ∧ ¬ H g)
  new : ∀ g, F' g → F g ∨ w.heap.size ≤ g
structure LOp (w w' : World) (F : Nat → Prop) (x : Nat) (lim : Int) (Y : List Pr) (T : List (List Pr)) (F' : Nat → Prop) : Prop where
  at_ : LM w' F' x lim Y T
  chg : Chg w w' F
  new : ∀ g, F' g → F g ∨ w.heap.size ≤ g
theorem LOH.free {w w' : World} {F H F' : Nat → Prop} {x : Nat} {lim : Int} {Y : List Pr} {T : List (List Pr)} (h : LOH w w' F H x lim Y T F') : LOp w w' F x lim Y T F' :=
  ⟨h.at_.free, h.chg.mono fun _ _ hg => hg.1, h.new⟩
theorem LMH.op {w w' : World} {F H : Nat → Prop} {x : Nat} {lim : Int} {Y : List Pr} {T : List (List Pr)} (h : LMH w F H x lim Y T) (k : Ext w w') : LOH w w' F H x lim Y T F := ⟨h.ext k, k.chg _, fun g hg => .inl hg⟩
theorem LOH.trans {w w1 w2 : World} {F H F1 F2 : Nat → Prop} {x : Nat} {lim : Int} {Y Y' : List Pr} {T T' : List (List Pr)} (h : LOH w w1 F H x lim Y T F1) (k : LOH w1 w2 F1 H x lim Y' T' F2) : LOH w w2 F H x lim Y' T' F2 :=
  ⟨k.at_, h.chg.trans k.chg fun g hg hF => ⟨(h.new g hF.1).resolve_right (by omega), hF.2⟩, fun g hg => (k.new g hg).elim (fun e => h.new g e) fun e => .inr (Nat.le_trans h.chg.size e)⟩
theorem LOp.trans {w w1 w2 : World} {F F1 F2 : Nat → Prop} {x : Nat} {lim : Int} {Y Y' : List Pr} {T T' : List (List Pr)} (h : LOp w w1 F x lim Y T F1) (k : LOp w1 w2 F1 x lim Y' T' F2) : LOp w w2 F x lim Y' T' F2 :=
  ⟨k.at_, h.chg.trans k.chg fun g hg hF => (h.new g hF).resolve_right (by omega), fun g hg => (k.new g hg).elim (fun e => h.new g e) fun e => .inr (Nat.le_trans h.chg.size e)⟩
theorem LOp.keep {w0 w w' : World} {F F' : Nat → Prop} {x : Nat} {lim : Int} {Y : List Pr} {T : List (List Pr)} (h : LOp w w' F x lim Y T F') (e : Ext w0 w) (hF : ∀ g, F g → w0.heap.size ≤ g) : Ext w0 w' ∧ ∀ g, F' g → w0.heap.size ≤ g := by
  refine ⟨((e.chg F).trans h.chg fun g _ hg => hg).ext fun g hg hS => ?_, fun g hg => ?_⟩
  · have := hF g hS; omega
  · rcases h.new g hg with e' | e'
    · exact hF g e'
    · have := e.size; omega

def LNewR (n : Int) (w : World) (e : Ending) (w' : World) : Prop :=
    ((n < 1 ∨ 60 < n) ∧ e = .returned (.tuple #[.pointer none, errR 1]) ∧ w = w') ∨ ((1 ≤ n ∧ n ≤ 60) ∧ ∃ x F, e = .returned (.tuple #[.pointer (some ⟨x, 0, none⟩), .nilIface]) ∧ LM w' F x n [] [] ∧ (∀ g, F g → w.heap.size ≤ g) ∧ Ext w w')
set_option maxRecDepth 100000 in
theorem LNew_any (n : Int) (w : World) : Calls Tryz.prog 30 #[.int .i64 n] w fun e w' => LNewR n w e w' := by
  by_cases hn : 1 ≤ n ∧ n ≤ 60
  · obtain ⟨h1, h2⟩ := hn
    have h1' : ¬ n < 1 := by omega
    have h2' : ¬ 60 < n := by omega
    go_enter Tryz.func30, Tryz.ntmps30
    go_wp2_with fail
    refine (SNew_any 0 _ (Nat.zero_le _)).mono ?_
    rintro _ w1 ⟨rfl, hs, hb⟩
    have HS := Lib.hid hs
    have B2 := Bk.at_ w1 82 #[.int .i64 n, .pointer (some ⟨w.heap.size, 0, none⟩), .slice none 0 0] w1.heap.size rfl
    have e2 : Ext w1 (w1.alloc (.cells #[.int .i64 n, .pointer (some ⟨w.heap.size, 0, none⟩), .slice none 0 0] 82)) := (Ext.refl _).alloc _
    clear hs
    go_wp2_with fail
    go_ret2
    refine .inr ⟨⟨h1, h2⟩, w1.heap.size, _, rfl, ⟨_, _, _, [], ⟨B2, HS.out.ext e2, own_nil _ _ _ _, fun t ht => by simp at ht, fun t ht => by simp at ht, Nat.zero_le _⟩, rfl, fun g hg => hg, fun g _ h => h⟩, fun g hg => ?_, hb.trans e2⟩
    have := hb.size
    rcases hg with rfl | rfl | hg | hg | ⟨t, ht, _⟩
    · exact this
    · exact Nat.le_refl _
    · simp [Value.ownBlock] at hg
    · simp [Value.ownBlock] at hg
    · simp at ht
  · have hn' : n < 1 ∨ (¬ n < 1 ∧ 60 < n) := by omega
    clear hn
    rcases hn' with h | ⟨h, h2⟩
    all_goals
      go_enter Tryz.func30, Tryz.ntmps30
      go_wp2_with fail
      go_ret2
      exact .inl ⟨by omega, rfl, rfl⟩
set_option maxRecDepth 100000 in
set_option maxHeartbeats 2000000 in
theorem lputH_any (F H : Nat → Prop) (x : Nat) (lim : Int) (Y : List Pr) (T : List (List Pr)) (p : Pr) (w : World) (h : LMH w F H x lim Y T) (hHl : ∀ g, H g → g < w.heap.size) (hp : p.gone = true → p.value.size = 0) :
    Calls Tryz.prog 91 #[.pointer (some ⟨x, 0, none⟩), p.val] w fun e w' => e = .returned (errR (putK Y p)) ∧ ∃ F', LOH w w' F H x lim (storeL Y p) T F' := by
  obtain ⟨sb, sv, lv, ts, hL, hT, hF, hH⟩ := h
  have HH := Lib.hid hH
  have HHL := Lib.hid hHl
  obtain ⟨pk, pv, pg⟩ := p
  have B1 := Bk.at_ w 31 #[.string pk, .string pv, .bool pg] w.heap.size rfl
  have e1 : Ext w (w.alloc (.cells #[.string pk, .string pv, .bool pg] 31)) := (Ext.refl _).alloc _
  have y0 : (w.alloc (.cells #[.string pk, .string pv, .bool pg] 31)).cell? ⟨w.heap.size, 0, none⟩ = some (.string pk) := B1.cell 0
  have y1 : (w.alloc (.cells #[.string pk, .string pv, .bool pg] 31)).cell? ⟨w.heap.size, 1, none⟩ = some (.string pv) := B1.cell 1
  have y2 : (w.alloc (.cells #[.string pk, .string pv, .bool pg] 31)).cell? ⟨w.heap.size, 2, none⟩ = some (.bool pg) := B1.cell 2
  have hL1 := hL.ext e1
  have x1 : (w.alloc (.cells #[.string pk, .string pv, .bool pg] 31)).cell? ⟨x, 1, none⟩ = some (.pointer (some ⟨sb, 0, none⟩)) := hL1.bk.cell 1
  have HT := Lib.hid hT
  have HF := Lib.hid hF
  have HL1 := Lib.hid hL1
  have hL2 := hL.ext e1.drew
  have HL2 := Lib.hid hL2
  have hfin : ∀ (w' : World) (v' : Value), StAt w' 0 sb v' (storeL Y ⟨pk, pv, pg⟩) → Chg (w.alloc (.cells #[.string pk, .string pv, .bool pg] 31)).drew w' (fun k => k = sb ∨ sv.ownBlock = some k) → (∀ g, v'.ownBlock = some g → sv.ownBlock = some g ∨ (w.alloc (.cells #[.string pk, .string pv, .bool pg] 31)).drew.heap.size ≤ g) → ∃ F', LOH w w' F H x lim (storeL Y ⟨pk, pv, pg⟩) T F' := fun w' v' hs k hv => by
    refine ⟨LFoot x sb v' lv ts, ⟨⟨sb, v', lv, ts, HL2.out.young k hs hv, HT.out, fun g hg => hg, fun g hg => ?_⟩, ((e1.drew.chg (fun g => F g ∧ ¬ H g)).trans (k.mono fun g _ hg => ?_) fun g _ hg => hg), fun g hg => ?_⟩⟩
    · rcases hg with hg | hg | hg | hg
      · exact HH.out g (.inl hg)
      · exact HH.out g (.inr (.inl hg))
      · rcases hv g hg with h | h
        · exact HH.out g (.inr (.inr (.inl h)))
        · intro hh
          have := e1.drew.size
          have := HHL.out g hh
          omega
      · exact HH.out g (.inr (.inr (.inr hg)))
    · rcases hg with rfl | hg
      · exact ⟨HF.out _ (.inr (.inl rfl)), HH.out _ (.inr (.inl rfl))⟩
      · exact ⟨HF.out _ (.inr (.inr (.inl hg))), HH.out _ (.inr (.inr (.inl hg)))⟩
    · rcases hg with rfl | rfl | hg | hg | ht
      · exact .inl (HF.out _ (.inl rfl))
      · exact .inl (HF.out _ (.inr (.inl rfl)))
      · rcases hv g hg with h | h
        · exact .inl (HF.out _ (.inr (.inr (.inl h))))
        · have := e1.drew.size
          exact .inr (by omega)
      · exact .inl (HF.out _ (.inr (.inr (.inr (.inl hg)))))
      · exact .inl (HF.out _ (.inr (.inr (.inr (.inr ht)))))
  have HFIN := Lib.hid hfin
  clear hT hF hL1 hL2 hL hfin hH hHl
  cases pg with
  | true =>
    have hv0 : pv = ⟨#[]⟩ := str_noneP (hp rfl)
    subst hv0
    have HC := Lib.hid (SDrop_any 0 sb sv Y pk _ HL2.out.st (Nat.zero_le _))
    clear hp
    go_enter Tryz.func91, Tryz.ntmps91
    go_wp2_with fail
    generalize w.alloc (.cells #[.string pk, .string ⟨#[]⟩, .bool true] 31) = W1 at *
    go_region_with (go_at_call 111; refine HC.out.mono ?_; rintro _ w2 ⟨rfl, hh⟩; have HHc := Lib.hid hh; clear hh)
    all_goals
      go_wp2_with fail
      go_ret
      obtain ⟨v', hs, k, hv⟩ := HHc.out
      exact ⟨rfl, HFIN.out _ v' hs k hv⟩
  | false =>
    have HC := Lib.hid (SPut_any 0 sb sv Y pk pv _ HL2.out.st (Nat.zero_le _))
    clear hp
    go_enter Tryz.func91, Tryz.ntmps91
    go_wp2_with fail
    generalize w.alloc (.cells #[.string pk, .string pv, .bool false] 31) = W1 at *
    go_region_with (go_at_call 112; refine HC.out.mono ?_; rintro _ w2 ⟨rfl, hh⟩; have HHc := Lib.hid hh; clear hh)
    all_goals
      go_wp2_with fail
      go_ret
      obtain ⟨v', hs, k, hv⟩ := HHc.out
      exact ⟨rfl, HFIN.out _ v' hs k hv⟩
theorem lput_any (F : Nat → Prop) (x : Nat) (lim : Int) (Y : List Pr) (T : List (List Pr)) (p : Pr) (w : World) (h : LM w F x lim Y T) (hp : p.gone = true → p.value.size = 0) :
    Calls Tryz.prog 91 #[.pointer (some ⟨x, 0, none⟩), p.val] w fun e w' => e = .returned (errR (putK Y p)) ∧ ∃ F', LOp w w' F x lim (storeL Y p) T F' :=
  (lputH_any F nH x lim Y T p w h (fun _ h => absurd h id) hp).mono fun _ _ ⟨he, F', ho⟩ => ⟨he, F', ho.free⟩
end Go.Proofs.YtcgfdhgceokcnaaGreatDoor

/- lsm: the lists of all levels; merge. -/
namespace Go.Proofs.YtcgfdhgceokcnaaGreatDoor
open Go.RowKit Go.WideShapes
set_option linter.unusedVariables false
attribute [local go_sem ↓] Go.wp_at_zero Go.wp_at_succ

theorem info_rowP : (Tryz.prog.info? 32).map (fun i => (i.zero, i.size, i.bytes)) = some (some (.slice none 0 0), 1, 24) := by kernel_rfl
theorem Rd.getT {w : World} {A : Option Addr} {n c : Nat} {ts : List Tb} (h : Rd w 2 A n c (ts.flatMap Tb.cells)) {j : Nat} {t : Tb} (ht : ts[j]? = some t) :
    ∃ ad, A = some ad ∧ ad.block < w.heap.size ∧ w.cell? (ad.add (j * 2)) = some (.string (tabB t.es)) ∧ w.cell? ⟨(ad.add (j * 2)).block, (ad.add (j * 2)).off + 1, none⟩ = some (.pointer (some ⟨t.blk, 0, none⟩)) := by
  have h0 := flat_nthP (f := Tb.cells) (k := 2) (fun _ => rfl) ts j t 0 ht (by omega)
  have h1 := flat_nthP (f := Tb.cells) (k := 2) (fun _ => rfl) ts j t 1 ht (by omega)
  obtain ⟨ad, e1, hb, hc0⟩ := h.at_ h0
  obtain ⟨ad', e2, _, hc1⟩ := h.at_ h1
  rw [e1] at e2
  obtain rfl : ad = ad' := by injection e2
  rw [← add_add'] at hc1
  exact ⟨ad, e1, hb, hc0, hc1⟩
/-- lists of pairs, each in a row that is owned -/
def OwLs (w : World) (vs : List Value) (T : List (List Pr)) : Prop :=
  vs.length = T.length ∧ ∀ (i : Nat) (v : Value) (es : List Pr), vs[i]? = some v → T[i]? = some es → w.ownsRow 0 31 3 v es.length (es.flatMap Pr.cells)
theorem OwLs.ext {w w' : World} {vs : List Value} {T : List (List Pr)} (h : OwLs w vs T) (k : Ext w w') : OwLs w' vs T := ⟨h.1, fun i v es hv hT => own_ext (h.2 i v es hv hT) k⟩
theorem OwLs.rd {w : World} {vs : List Value} {T : List (List Pr)} (h : OwLs w vs T) : RdLs w vs T := ⟨h.1, fun i v es hv hT => by
  obtain ⟨A, c, e, hc, hr, _⟩ := own_rd (h.2 i v es hv hT)
  exact ⟨A, c, e, hc, hr⟩⟩
theorem OwLs.grown {w w' : World} {vs us : List Value} {T : List (List Pr)} {o : Value} {base n : Nat} (h : OwLs w vs T) (ho : w.ownsRow base 32 1 o n us) (k : w.grownBy w' o.ownBlock) : OwLs w' vs T :=
  ⟨h.1, fun i v es hv hT => own_chg (h.2 i v es hv hT) (gb_chg k) fun g hg hg' => own_own (h.2 i v es hv hT) ho (by decide) hg hg'⟩
theorem OwLs.snoc {w : World} {vs : List Value} {T : List (List Pr)} (h : OwLs w vs T) {v : Value} {es : List Pr} (hr : w.ownsRow 0 31 3 v es.length (es.flatMap Pr.cells)) : OwLs w (vs ++ [v]) (T ++ [es]) := by
  refine ⟨by rw [List.length_append, List.length_append, h.1]; rfl, fun i u fs hv hT => ?_⟩
  by_cases hi : i < vs.length
  · rw [List.getElem?_append_left hi] at hv
    rw [List.getElem?_append_left (by rw [← h.1]; exact hi)] at hT
    exact h.2 i u fs hv hT
  · rw [List.getElem?_append_right (by omega)] at hv
    rw [List.getElem?_append_right (by rw [← h.1]; omega), ← h.1] at hT
    have hl := (List.getElem?_eq_some_iff.1 hv).1
    have h0 : i - vs.length = 0 := by simp at hl; omega
    rw [h0] at hv hT
    obtain rfl : v = u := by simpa using hv
    obtain rfl : es = fs := by simpa using hT
    exact hr
theorem OwLs.nil (w : World) : OwLs w [] [] := ⟨rfl, fun i v es h => by simp at h⟩

set_option maxRecDepth 100000 in
set_option maxHeartbeats 2000000 in
theorem lists_any (F : Nat → Prop) (x : Nat) (lim : Int) (Y : List Pr) (T : List (List Pr)) (w : World) (h : LM w F x lim Y T) :
    Calls Tryz.prog 37 #[.pointer (some ⟨x, 0, none⟩)] w fun e w' => (∃ v vs, e = .returned v ∧ w'.ownsRow w.heap.size 32 1 v T.length vs ∧ OwLs w' vs T) ∧ Ext w w' := by
  obtain ⟨sb, sv, lv, ts, hL, rfl, -, -⟩ := h
  obtain ⟨n, hn⟩ : ∃ n, ts.length = n := ⟨_, rfl⟩
  have hn8 : n ≤ 8 := by rw [← hn]; exact hL.len
  have ow := hL.own
  rw [hn] at ow
  obtain ⟨A, c, rfl, hc, hr, -⟩ := own_rd ow
  have hnc := hr.2.1
  have c2 : w.cell? ⟨x, 2, none⟩ = some (.slice A n c) := hL.bk.cell 2
  have HN := Lib.hid hn
  have HL := Lib.hid hL
  have H0 : Hid (w.ownsRow w.heap.size 32 1 (.slice none 0 0) 0 []) := own_nil _ _ _ _
  have H1 : Hid (OwLs w [] ((ts.map Tb.es).take 0)) := OwLs.nil w
  clear ow hn hL
  rw [List.length_map, HN.out]
  unfold maxLen at hc
  go_enter Tryz.func37, Tryz.ntmps37
  go_wp2_with fail
  go_loopw [2, 4, 10] (fun o _ y wr => ∃ (i : Nat) (vs : List Value), y = .int .i64 i ∧ i ≤ n ∧ Ext w wr ∧ Hid (wr.ownsRow w.heap.size 32 1 o i vs) ∧ Hid (OwLs wr vs ((ts.map Tb.es).take i))) (fun _ _ y _ => n - (intOf y).toNat)
  case atStart => exact ⟨0, [], rfl, Nat.zero_le _, Ext.refl _, H0, H1⟩
  case round =>
    obtain ⟨i, vs, rfl, hi, hbw, hown, hrd⟩ := hrel
    by_cases hc3 : i < n
    · obtain ⟨t, ht⟩ : ∃ t, ts[i]? = some t := ⟨_, List.getElem?_eq_getElem (by rw [HN.out]; exact hc3)⟩
      obtain ⟨ad, rfl, hb, y0, y1⟩ := (hr.ext hbw).getT ht
      have HTB := Lib.hid ((HL.out.tab t (List.mem_of_getElem? ht)).ext hbw)
      have HTT : Hid ((ts.map Tb.es).take (i + 1) = (ts.map Tb.es).take i ++ [t.es]) := by
        show _ = _
        have h1 : (ts.map Tb.es)[i]? = some t.es := by rw [List.getElem?_map, ht]; rfl
        obtain ⟨h2, h3⟩ := List.getElem?_eq_some_iff.1 h1
        rw [List.take_succ_eq_append_getElem h2, h3]
      obtain ⟨tb, tv, te⟩ := t
      simp only at y0 y1
      obtain ⟨bs, HBS⟩ : ∃ b, Hid (tabB te = b) := ⟨_, rfl⟩
      rw [HBS.out] at y0
      have B3 := Bk.at_ wr 89 #[.string bs, .pointer (some ⟨tb, 0, none⟩)] wr.heap.size rfl
      have e3 : Ext wr (wr.alloc (.cells #[.string bs, .pointer (some ⟨tb, 0, none⟩)] 89)) := (Ext.refl _).alloc _
      have z1 : (wr.alloc (.cells #[.string bs, .pointer (some ⟨tb, 0, none⟩)] 89)).cell? ⟨wr.heap.size, 1, none⟩ = some (.pointer (some ⟨tb, 0, none⟩)) := B3.cell 1
      have HT3 := Lib.hid (HTB.out.ext e3)
      have O3 := Lib.hid (own_ext hown.out e3)
      have R3 := Lib.hid (hrd.out.ext e3)
      have e3w := hbw.trans e3
      clear ht hown hrd HTB B3
      go_wp2_with fail
      refine (TAll_any 0 tb tv te _ HT3.out).mono ?_
      rintro _ w4 ⟨⟨v4, rfl, o4⟩, hb4⟩
      have e4 := e3w.trans hb4
      obtain ⟨A4, c4, rfl, hc4, hr4, -⟩ := own_rd o4
      have O4 := Lib.hid (own_ext O3.out hb4)
      have R4 := Lib.hid ((R3.out.ext hb4).snoc (own_lower o4 (Nat.zero_le _)))
      rw [← HTT.out] at R4
      generalize te.length = m4 at *
      have e5 : Ext w4 (w4.alloc (.cells #[.slice A4 m4 c4] 32)) := (Ext.refl _).alloc _
      have O5 := Lib.hid (own_ext O4.out e5)
      have R5 := Lib.hid (R4.out.ext e5)
      have e5w := e4.trans e5
      have hb5 := e5w.size
      obtain ⟨i0, hi0, hz0, hzs, hzb⟩ := info_parts info_rowP
      clear o4 hr4 z1 O3 R3 O4 R4
      go_wp2_with (at_builtin; go_loud (refine wpList_append_own _ rfl _ _ 22 rfl w.heap.size 32 i0 _ 1 24 Tryz.underlying22 hi0 hz0 hzs hzb rfl (by omega) u2 i _ rfl O5.out ⟨w4.heap.size, 0, none⟩ 1 1 [.slice A4 m4 c4] (by rfl) rfl (news_new w4 _ _ _ rfl) (by intro u hu; simp at hu; subst hu; rfl) (by unfold maxLen; omega) (by omega) hb5 ?_); intro v6 w6 own6 hg6 hH6; clear hH6; have e6 := own_grown O5.out hg6 w (Nat.le_refl _) e5w)
      have R6 := Lib.hid (R5.out.grown O5.out hg6)
      go_roundw
      case rel => exact ⟨i + 1, _, by go_num, by omega, e6, own6, R6⟩
      case measure => simp [intOf]; omega
    · obtain rfl : i = n := by omega
      have HO := Lib.hid hown.out
      have HR := Lib.hid hrd.out
      rw [List.take_of_length_le (by rw [List.length_map, HN.out]; exact Nat.le_refl _)] at HR
      clear hown hrd
      go_wp2_with fail
      go_ret
      exact ⟨⟨_, _, rfl, HO.out, HR.out⟩, hbw⟩
end Go.Proofs.YtcgfdhgceokcnaaGreatDoor

/- lsm: Merge. -/
namespace Go.Proofs.YtcgfdhgceokcnaaGreatDoor
open Go.RowKit Go.WideShapes
set_option linter.unusedVariables false
attribute [local go_sem ↓] Go.wp_at_zero Go.wp_at_succ

/-- the levels are others -/
theorem LAt.relevel {w w' : World} {x sb : Nat} {lim : Int} {sv lv lv' : Value} {Y : List Pr} {ts ts' : List Tb} (h : LAt w x lim sb sv Y lv ts) (k : Chg w w' (fun k => k = x)) (hb : Bk w' x 82 #[.int .i64 lim, .pointer (some ⟨sb, 0, none⟩), lv'])
    (ho : w'.ownsRow 0 89 2 lv' ts'.length (ts'.flatMap Tb.cells)) (ht : ∀ t ∈ ts', TbAt w' 0 t.blk t.row t.es) (hs : ∀ t ∈ ts', ∀ g, t.row.ownBlock = some g → sv.ownBlock ≠ some g) (hl : ts'.length ≤ 8) : LAt w' x lim sb sv Y lv' ts' :=
  ⟨hb, h.st.chg k (bk_ne h.st.bk h.bk (by decide)) (fun g hg e => own_type h.st.own h.bk (by decide) (by rw [← e]; exact hg)), ho, ht, hs, hl⟩
theorem own_one (w : World) (t : Tb) : (w.alloc (.cells #[.string (tabB t.es), .pointer (some ⟨t.blk, 0, none⟩)] 89)).ownsRow 0 89 2 (.slice (some ⟨w.heap.size, 0, none⟩) 1 1) 1 ([t].flatMap Tb.cells) :=
  ⟨rfl, .inr ⟨w.heap.size, 1, #[.string (tabB t.es), .pointer (some ⟨t.blk, 0, none⟩)], rfl, Nat.zero_le _, Bk.at_ w _ _ w.heap.size rfl, Nat.le_refl _, by unfold maxLen; omega, rfl, rfl⟩⟩

set_option maxRecDepth 100000 in
set_option maxHeartbeats 2000000 in
theorem LMergeH_any (F H : Nat → Prop) (x : Nat) (lim : Int) (Y : List Pr) (T : List (List Pr)) (w : World) (h : LMH w F H x lim Y T) (hHl : ∀ g, H g → g < w.heap.size) (htot : totL T ≤ 1000) :
    Calls Tryz.prog 128 #[.pointer (some ⟨x, 0, none⟩)] w fun e w' => e = .returned (errR (mgK T)) ∧ ∃ F', LOH w w' F H x lim Y (mergeT T) F' := by
  obtain ⟨hE, hN, hG⟩ := errR_rules
  have HM := Lib.hid h
  have HMY := Lib.hid h.many
  have HLI := Lib.hid (lists_any F x lim Y T w h.free)
  obtain ⟨sb, sv, lv, ts, hL, hT, hF, hH⟩ := h
  have HH := Lib.hid hH
  have HHL := Lib.hid hHl
  have HSV := Lib.hid (fun g (hg : sv.ownBlock = some g) => (hL.st.own.lt g hg).2)
  obtain ⟨n, hn⟩ : ∃ n, ts.length = n := ⟨_, rfl⟩
  have hTn : T.length = n := by rw [← hT, List.length_map, hn]
  have ow := hL.own
  rw [hn] at ow
  obtain ⟨A, c, rfl, hc, hr, -⟩ := own_rd ow
  have HL := Lib.hid hL
  have HT := Lib.hid hT
  have HF := Lib.hid hF
  have c2 : w.cell? ⟨x, 2, none⟩ = some (.slice A n c) := hL.bk.cell 2
  have HTN := Lib.hid hTn
  have HTOT := Lib.hid htot
  clear ow hr hL hT hF hn hTn htot hH hHl
  by_cases h0 : n = 0
  · subst h0
    have hk : mgK T = 6 := if_pos HTN.out
    have hmt : mergeT T = T := by rw [List.length_eq_zero_iff.1 HTN.out]; rfl
    rw [hk, hmt]
    clear hk hmt
    go_enter Tryz.func128, Tryz.ntmps128
    go_wp2_with fail
    go_ret
    exact ⟨rfl, F, HM.out.op (Ext.refl _)⟩
  · have hk : mgK T = 0 := if_neg (by rw [HTN.out]; exact h0)
    rw [hk, errR_0]
    have h0i : ¬ (n : Int) = 0 := by omega
    obtain ⟨L, hLL⟩ : ∃ L, liveL T = L := ⟨_, rfl⟩
    have HLL := Lib.hid hLL
    have hlen := live_len T
    rw [hLL] at hlen
    have hl2 : L.length ≤ 1000 := by have := HTOT.out; omega
    have HOK := Lib.hid (live_ok HMY.out.2.2.tl)
    rw [hLL] at HOK
    clear hk hLL hlen h0
    go_enter Tryz.func128, Tryz.ntmps128
    go_wp2_with fail
    refine HLI.out.mono ?_
    rintro _ w1 ⟨⟨v1, vs, rfl, o1, R1⟩, hb1⟩
    obtain ⟨A1, c1, rfl, hc1, hr1, -⟩ := own_rd o1
    have HC := Lib.hid (live_any A1 T.length c1 vs T w1 hr1 hc1 R1.rd HTOT.out)
    rw [HLL.out] at HC
    clear o1 R1 hr1 HLI
    generalize T.length = m at *
    go_wp2_with fail
    refine HC.out.mono ?_
    rintro _ w2 ⟨⟨v2, rfl, o2⟩, hb2⟩
    obtain ⟨k, hk⟩ : ∃ k, L.length = k := ⟨_, rfl⟩
    rw [hk] at o2 hl2
    obtain ⟨A2, c2', rfl, hc2, hr2, -⟩ := own_rd o2
    have HK := Lib.hid hk
    have HR2 := Lib.hid hr2
    have e2 := hb1.trans hb2
    have L2 := HL.out.ext e2
    have fr2 : w2.frozen? ⟨x, 2, none⟩ = false := L2.bk.frozen 2
    have s2 : w2.cell? ⟨x, 2, none⟩ = some (.slice A n c) := L2.bk.cell 2
    have HL2 := Lib.hid L2
    have hnc2 := hr2.2.1
    clear o2 hk hr2 HC L2
    by_cases hk0 : k = 0
    · subst hk0
      have hLn : L = [] := List.length_eq_zero_iff.1 HK.out
      have hmt : mergeT T = [] := by unfold mergeT; rw [if_pos (HLL.out.trans hLn)]
      have HMT := Lib.hid hmt
      clear hLn hmt
      go_wp2_with fail
      go_ret
      have g3 := gb_chg (gb_set w2 x 2 (.slice none 0 0))
      have k3 : Chg w2 (w2.setCell ⟨x, 2, none⟩ (.slice none 0 0)) (fun k => k = x) := g3.mono fun g _ hg => by injection hg with hg; exact hg.symm
      have B3 := HL2.out.bk.set_ 2 (.slice none 0 0)
      refine ⟨rfl, LFoot x sb sv (.slice none 0 0) [], ⟨⟨sb, sv, _, [], HL2.out.relevel k3 B3 (own_nil _ _ _ _) (fun t ht => by simp at ht) (fun t ht => by simp at ht) (Nat.zero_le _), HMT.out.symm, fun g hg => hg, fun g hg => ?_⟩, ((e2.chg (fun g => F g ∧ ¬ H g)).trans (k3.mono fun g _ hg => ⟨HF.out g (.inl hg), HH.out g (.inl hg)⟩) fun g _ hg => hg), fun g hg => .inl ?_⟩⟩
      · rcases hg with hg | hg | hg | hg
        · exact HH.out g (.inl hg)
        · exact HH.out g (.inr (.inl hg))
        · exact HH.out g (.inr (.inr (.inl hg)))
        · simp [Value.ownBlock] at hg
      · rcases hg with rfl | rfl | hg | hg | ⟨t, ht, _⟩
        · exact HF.out _ (.inl rfl)
        · exact HF.out _ (.inr (.inl rfl))
        · exact HF.out _ (.inr (.inr (.inl hg)))
        · simp [Value.ownBlock] at hg
        · simp at ht
    · have hk0i : ¬ (k : Int) = 0 := by omega
      have hLn : L ≠ [] := fun e => hk0 (by rw [← HK.out, e]; rfl)
      have hmt : mergeT T = [L] := by unfold mergeT; rw [HLL.out, if_neg hLn]
      have HMT := Lib.hid hmt
      have HB := Lib.hid (built_any A2 k c2' L w2 HR2.out hc2 (by omega) (tblK_zero.2 HOK.out))
      clear hLn hmt hk0
      go_wp2_with fail
      refine HB.out.mono ?_
      rintro _ w3 ⟨⟨tb, tv, rfl, tb3, htb⟩, hb3⟩
      have HTB := Lib.hid tb3
      obtain ⟨bs, HBS⟩ : ∃ b, Hid (tabB L = b) := ⟨_, rfl⟩
      rw [HBS.out]
      have B4 := Bk.at_ w3 89 #[.string bs, .pointer (some ⟨tb, 0, none⟩)] w3.heap.size rfl
      have e4 : Ext w3 (w3.alloc (.cells #[.string bs, .pointer (some ⟨tb, 0, none⟩)] 89)) := (Ext.refl _).alloc _
      have z0 : (w3.alloc (.cells #[.string bs, .pointer (some ⟨tb, 0, none⟩)] 89)).cell? ⟨w3.heap.size, 0, none⟩ = some (.string bs) := B4.cell 0
      have z1 : (w3.alloc (.cells #[.string bs, .pointer (some ⟨tb, 0, none⟩)] 89)).cell? ⟨w3.heap.size, 1, none⟩ = some (.pointer (some ⟨tb, 0, none⟩)) := B4.cell 1
      have HT4 := Lib.hid (HTB.out.ext e4)
      have HL4 := Lib.hid ((HL2.out.ext hb3).ext e4)
      have e4w := (e2.trans hb3).trans e4
      have htb2 : w.heap.size ≤ tb := by have := e2.size; omega
      have htv : ∀ g, tv.ownBlock = some g → w.heap.size ≤ g := fun g hg => by
        have h1 := own_block tb3.own g hg
        have := e2.size
        omega
      have HTV := Lib.hid htv
      clear tb3 B4 s2 fr2 htv htb
      go_upto_region 8 with (fail)
      generalize w3.alloc (.cells #[.string bs, .pointer (some ⟨tb, 0, none⟩)] 89) = W4 at *
      have e5 : Ext W4 (W4.alloc (.cells #[.string bs, .pointer (some ⟨tb, 0, none⟩)] 89)) := (Ext.refl _).alloc _
      have L5 := HL4.out.ext e5
      have HL5 := Lib.hid L5
      have x2 : (W4.alloc (.cells #[.string bs, .pointer (some ⟨tb, 0, none⟩)] 89)).cell? ⟨x, 2, none⟩ = some (.slice A n c) := L5.bk.cell 2
      have f2 : (W4.alloc (.cells #[.string bs, .pointer (some ⟨tb, 0, none⟩)] 89)).frozen? ⟨x, 2, none⟩ = false := L5.bk.frozen 2
      have o5 := own_one W4 ⟨tb, tv, L⟩
      simp only at o5
      rw [HBS.out] at o5
      have O5 := Lib.hid o5
      have T5 := Lib.hid (HT4.out.ext e5)
      have e5w := e4w.trans e5
      have hw4 := e4w.size
      clear L5 o5
      go_wp2_with fail
      go_ret
      generalize hW5 : W4.alloc (.cells #[.string bs, .pointer (some ⟨tb, 0, none⟩)] 89) = W5 at *
      have k6 : Chg W5 (W5.setCell ⟨x, 2, none⟩ (.slice (some ⟨W4.heap.size, 0, none⟩) 1 1)) (fun k => k = x) := (gb_chg (gb_set W5 x 2 _)).mono fun g _ hg => by injection hg with hg; exact hg.symm
      have B6 := HL5.out.bk.set_ 2 (.slice (some ⟨W4.heap.size, 0, none⟩) 1 1)
      have hxlt := HL.out.bk.lt
      have hsv : ∀ g, sv.ownBlock = some g → g < w.heap.size := fun g hg => (HL.out.st.own.lt _ hg).2
      refine ⟨rfl, LFoot x sb sv (.slice (some ⟨W4.heap.size, 0, none⟩) 1 1) [⟨tb, tv, L⟩], ⟨⟨sb, sv, _, [⟨tb, tv, L⟩], HL5.out.relevel k6 B6 ?_ ?_ ?_ (by simp), HMT.out.symm, fun g hg => hg, ?_⟩, ((e5w.chg (fun g => F g ∧ ¬ H g)).trans (k6.mono fun g _ hg => ⟨HF.out g (.inl hg), HH.out g (.inl hg)⟩) fun g _ hg => hg), fun g hg => ?_⟩⟩
      · exact own_chg O5.out k6 fun g hg e => own_type O5.out HL5.out.bk (by decide) (by rw [← e]; exact hg)
      · intro t ht
        obtain rfl : t = ⟨tb, tv, L⟩ := by simpa using ht
        exact TbAt.lower (T5.out.chg k6 (bk_ne T5.out.bk HL5.out.bk (by decide)) (fun g hg e => own_type T5.out.own HL5.out.bk (by decide) (by rw [← e]; exact hg))) (Nat.zero_le _)
      · intro t ht g hg hg'
        obtain rfl : t = ⟨tb, tv, L⟩ := by simpa using ht
        have h1 := HTV.out g hg
        have h2 := hsv g hg'
        omega
      · intro g hg
        rcases hg with hg | hg | hg | hg
        · exact HH.out g (.inl hg)
        · exact HH.out g (.inr (.inl hg))
        · exact HH.out g (.inr (.inr (.inl hg)))
        · obtain rfl : W4.heap.size = g := by simpa [Value.ownBlock] using hg
          intro hh
          have := HHL.out _ hh
          omega
      · rcases hg with rfl | rfl | hg | hg | ⟨t, ht, hg⟩
        · exact .inl (HF.out _ (.inl rfl))
        · exact .inl (HF.out _ (.inr (.inl rfl)))
        · exact .inl (HF.out _ (.inr (.inr (.inl hg))))
        · obtain rfl : W4.heap.size = g := by simpa [Value.ownBlock] using hg
          exact .inr hw4
        · obtain rfl : t = ⟨tb, tv, L⟩ := by simpa using ht
          rcases hg with rfl | hg
          · exact .inr htb2
          · exact .inr (HTV.out g hg)
theorem LMerge_any (F : Nat → Prop) (x : Nat) (lim : Int) (Y : List Pr) (T : List (List Pr)) (w : World) (h : LM w F x lim Y T) (htot : totL T ≤ 1000) :
    Calls Tryz.prog 128 #[.pointer (some ⟨x, 0, none⟩)] w fun e w' => e = .returned (errR (mgK T)) ∧ ∃ F', LOp w w' F x lim Y (mergeT T) F' :=
  (LMergeH_any F nH x lim Y T w h (fun _ h => absurd h id) htot).mono fun _ _ ⟨he, F', ho⟩ => ⟨he, F', ho.free⟩
end Go.Proofs.YtcgfdhgceokcnaaGreatDoor
