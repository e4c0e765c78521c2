/- lsm: what is gone; a level that is built. -/
import Derived.Test.YtnafegofmbhahaaDoorLsmM
import Derived.Test.YtnafegofmbhahaaDoorTab7
import Derived.Test.YtnafegofmbhahaaDoorInsertL
namespace Go.Proofs.YtnafegofmbhahaaDoor
open Go.RowKit Go.WideShapes
set_option linter.unusedVariables false
attribute [local go_sem ↓] Go.wp_at_zero Go.wp_at_succ

theorem gone_any (p : Pr) (w : World) : Calls Tryd.prog 110 #[p.val] w fun e w' => e = .returned (.bool p.gone) ∧ Ext w w' := by
  obtain ⟨pk, pv, pg⟩ := p
  have B := Bk.at_ w 25 #[.string pk, .string pv, .bool pg] w.heap.size rfl
  have e0 : Ext w (w.alloc (.cells #[.string pk, .string pv, .bool pg] 25)) := (Ext.refl _).alloc _
  have c2 : (w.alloc (.cells #[.string pk, .string pv, .bool pg] 25)).cell? ⟨w.heap.size, 2, none⟩ = some (.bool pg) := B.cell 2
  go_enter Tryd.func110, Tryd.ntmps110
  go_wp2_with fail
  go_ret
  exact ⟨rfl, e0⟩

set_option maxRecDepth 100000 in
set_option maxHeartbeats 1000000 in
theorem IndexGone_any (A : Option Addr) (n c : Nat) (es : List Pr) (w : World) (hr : Rd w 3 A n c (es.flatMap Pr.cells)) (hm : c ≤ maxLen) :
    Calls Tryd.prog 124 #[.slice A n c, .func (.func 110) #[] #[]] w fun e w' => (((∀ p ∈ es, p.gone = false) ∧ e = .returned (.int .i64 (-1))) ∨ ∃ (i : Nat) (p : Pr), es[i]? = some p ∧ p.gone = true ∧ (∀ q ∈ es.take i, q.gone = false) ∧ e = .returned (.int .i64 i)) ∧ Ext w w' := by
  have hl := hr.2.1
  have HX := Lib.hid hr.lenP
  have hrun : ∀ (v : Value) (w : World), (callFunc 110 #[v]).run Tryd.prog w = .ok (.enter 110 #[v]) w := fun v w => by kernel_rfl
  have H0 : Hid (∀ q ∈ es.take 0, q.gone = false) := Lib.hid fun q hq => by simp at hq
  unfold maxLen at hm
  go_enter Tryd.func124, Tryd.ntmps124
  go_wp2_with fail
  go_loopw [5, 8] (fun _ x wr => ∃ j : Nat, x = .int .i64 j ∧ j ≤ n ∧ Ext w wr ∧ Hid (∀ q ∈ es.take j, q.gone = false)) (fun _ x _ => n - (intOf x).toNat)
  case atStart => exact ⟨0, rfl, Nat.zero_le _, Ext.refl _, H0⟩
  case round =>
    obtain ⟨j, rfl, hj, hbw, hall⟩ := hrel
    by_cases hc : j < n
    · have hgj := List.getElem?_eq_getElem (l := es) (i := j) (by rw [HX.out]; exact hc)
      obtain ⟨ad, rfl, hb, c0, c1, c2⟩ := (hr.ext hbw).getP hgj
      have hnext : es.take (j + 1) = es.take j ++ [es[j]'(by rw [HX.out]; exact hc)] := List.take_succ_eq_append_getElem (by rw [HX.out]; exact hc)
      generalize es[j]'(by rw [HX.out]; exact hc) = p at *
      obtain ⟨pk, pv, pg⟩ := p
      have HNX := Lib.hid hnext
      have HG := Lib.hid hgj
      simp only at c0 c1 c2
      clear hnext hgj
      go_wp2_with fail
      refine (gone_any ⟨pk, pv, pg⟩ _).mono ?_
      rintro _ w1 ⟨rfl, hb1⟩
      have e1 := hbw.trans hb1
      cases pg with
      | true =>
        go_wp2_with fail
        go_ret
        exact ⟨.inr ⟨j, _, HG.out, rfl, hall.out, rfl⟩, e1⟩
      | false =>
        have HA : Hid (∀ q ∈ es.take (j + 1), q.gone = false) := Lib.hid fun q hq => by
          rw [HNX.out] at hq
          rcases List.mem_append.1 hq with h | h
          · exact hall.out q h
          · obtain rfl : q = ⟨pk, pv, false⟩ := by simpa using h
            rfl
        go_wp2_with fail
        go_roundw
        case rel => exact ⟨j + 1, by go_num, by omega, e1, HA⟩
        case measure => simp [intOf]; omega
    · have hfin : Hid (∀ p ∈ es, p.gone = false) := Lib.hid fun p hp => hall.out p (by rw [List.take_of_length_le (by rw [HX.out]; omega)]; exact hp)
      go_wp2_with fail
      go_ret
      exact ⟨.inl ⟨hfin.out, rfl⟩, hbw⟩

theorem TbAt.chg {w w' : World} {B tb : Nat} {v : Value} {es : List Pr} {S : Nat → Prop} (h : TbAt w B tb v es) (k : Chg w w' S) (h1 : ¬ S tb) (h2 : ∀ g, v.ownBlock = some g → ¬ S g) : TbAt w' B tb v es :=
  ⟨h.bk.chg k h1, own_chg h.own k h2, h.asc, h.ok, h.len⟩
theorem TbAt.lower {w : World} {B B' tb : Nat} {v : Value} {es : List Pr} (h : TbAt w B tb v es) (hB : B' ≤ B) : TbAt w B' tb v es := ⟨h.bk, own_lower h.own hB, h.asc, h.ok, h.len⟩

/-- a level that is built of pairs that are right -/
theorem built_any (A : Option Addr) (n c : Nat) (es : List Pr) (w : World) (hr : Rd w 3 A n c (es.flatMap Pr.cells)) (hm : c ≤ maxLen) (hn : n ≤ 1000) (hk : tblK es = 0) :
    Calls Tryd.prog 89 #[.slice A n c] w fun e w' => (∃ tb v, e = .returned (.tuple #[.agg #[.string (tabB es), .pointer (some ⟨tb, 0, none⟩)], .nilIface]) ∧ TbAt w' w.heap.size tb v es ∧ w.heap.size ≤ tb) ∧ Ext w w' := by
  obtain ⟨hE, hN, hG⟩ := errR_rules
  have HX := Lib.hid hr.lenP
  have HK := Lib.hid hk
  have htr : tabR es = tabB es := if_pos hk
  have hsz : (tabB es).size ≤ 500000000 := by
    have h1 := bodyB_len (tblK_zero.1 hk).2
    rw [HX.out] at h1
    rw [tabB_size]
    omega
  have HTR := Lib.hid htr
  have HSZ := Lib.hid hsz
  obtain ⟨tb, HTB⟩ : ∃ x, Hid (tabB es = x) := ⟨_, rfl⟩
  rw [HTB.out] at HTR HSZ
  have B0 := Bk.at_ w 118 #[.string ⟨#[]⟩, .pointer none] w.heap.size rfl
  have e0 : Ext w (w.alloc (.cells #[.string ⟨#[]⟩, .pointer none] 118)) := (Ext.refl _).alloc _
  have hr0 := hr.ext e0
  clear hk htr hsz
  go_enter Tryd.func89, Tryd.ntmps89
  go_wp2_with fail
  generalize w.alloc (.cells #[.string ⟨#[]⟩, .pointer none] 118) = W1 at *
  refine (Build_any A n c es _ hr0 hm (by omega)).mono ?_
  rw [HTR.out, HK.out, errR_0]
  rintro _ w2 ⟨rfl, hb2⟩
  go_wp2_with fail
  refine (Open_any tb _ HSZ.out).mono ?_
  rintro e w3 ⟨ho | ho, hb3⟩
  · obtain ⟨es', t3, v3, hop, rfl, T3, hlt⟩ := ho
    obtain rfl : es' = es := opn_uniq hop ⟨HK.out, HTB.out⟩
    have e3 := (e0.trans hb2).trans hb3
    have B3 := (B0.ext hb2).ext hb3
    have HT3 := Lib.hid T3
    have y0 : w3.cell? ⟨w.heap.size, 0, none⟩ = some (.string ⟨#[]⟩) := B3.cell 0
    have y1 : w3.cell? ⟨w.heap.size, 1, none⟩ = some (.pointer none) := B3.cell 1
    have f0 := B3.frozen 0
    have f1 := B3.frozen 1
    have e2 := e0.trans hb2
    have HB3 := Lib.hid B3
    clear T3 hop B3
    go_wp2_with fail
    have hlt1 : w.heap.size < w2.heap.size := hb2.lt B0.lt
    have T7 : TbAt ((w3.setCell ⟨w.heap.size, 0, none⟩ (.string tb)).setCell ⟨w.heap.size, 1, none⟩ (.pointer (some ⟨t3, 0, none⟩))) w.heap.size t3 v3 es' := by
      refine TbAt.lower (HT3.out.chg (gb_chg (gb_trans (gb_set w3 w.heap.size 0 _) (gb_set _ w.heap.size 1 _))) ?_ fun g hg => ?_) (Nat.le_of_lt hlt1)
      · intro e; injection e with e; omega
      · have := own_block HT3.out.own g hg
        intro e; injection e with e; omega
    have B7 := (HB3.out.set_ 0 (.string tb)).set_ 1 (.pointer (some ⟨t3, 0, none⟩))
    have x0 : ((w3.setCell ⟨w.heap.size, 0, none⟩ (.string tb)).setCell ⟨w.heap.size, 1, none⟩ (.pointer (some ⟨t3, 0, none⟩))).cell? ⟨w.heap.size, 0, none⟩ = some (.string tb) := (B7.cell 0).trans rfl
    have x1 : ((w3.setCell ⟨w.heap.size, 0, none⟩ (.string tb)).setCell ⟨w.heap.size, 1, none⟩ (.pointer (some ⟨t3, 0, none⟩))).cell? ⟨w.heap.size, 1, none⟩ = some (.pointer (some ⟨t3, 0, none⟩)) := (B7.cell 1).trans rfl
    have e7 := (e3.setCell (p := ⟨w.heap.size, 0, none⟩) (Nat.le_refl _) (.string tb)).setCell (p := ⟨w.heap.size, 1, none⟩) (Nat.le_refl _) (.pointer (some ⟨t3, 0, none⟩))
    refine bodyPost_ret (by simp [results, Tryd.results89, go_sem, x0, x1]; try rfl) rfl ?_
    exact ⟨⟨t3, v3, by rw [HTB.out], T7, by omega⟩, e7⟩
  · exact absurd ⟨HK.out, HTB.out⟩ (ho.1 es)
end Go.Proofs.YtnafegofmbhahaaDoor

/- slices.DeleteFunc of what is gone, in a row that is owned. -/
namespace Go.Proofs.YtnafegofmbhahaaDoor
open Go.RowKit Go.WideShapes
set_option linter.unusedVariables false
attribute [local go_sem ↓] Go.wp_at_zero Go.wp_at_succ

theorem wpList_clear_run {P : Program} (w : World) {ops : Array Oper} {rest : List Oper} {o : Oper} {a : Act} {Q : Exit → Act → World → Prop} (hgd : o.guard = none) (x : Operand) (t : TypeId)
    (ho : o.op = .call { callee := .builtin .clear, args := #[x], argTypes := #[t] }) (v : Value) (hx : a.eval x = v) {v' : Value} {w' : World}
    (hr : (Builtin.clear_ #[t] o.type #[v]).run P w = .ok v' w') (h : wpList P ops Q rest (a.put o.dst v') w') : wpList P ops Q (o :: rest) a w :=
  wpList_plain hgd fun K hK => by
    unfold Oper.wp execOp
    simp only [ho, resolve, invoke, builtin, Sem.run_bind, Sem.run_pure, Result.andThen_ok, List.map_toArray, List.map_cons, List.map_nil, hx, hr]
    exact hK _ _ h
theorem run_clear_rowK {P : Program} (w : World) (t ty e : TypeId) (z : Value) (ht : P.underlying t = some (.slice e)) (hv : ∀ w, (zeroValue e).run P w = .ok z w) (k g o n c : Nat) (hz : z.cells.size = k) (h1 : ∀ u ∈ z.cells.toList, u.oneCell' = true) (hn : 0 < n)
    (cur : Array Value) (tt : TypeId) (hg : w.heap[g]? = some (.cells cur tt (0, 0))) (hfit : o + n * k ≤ cur.size) :
    ∃ cur' : Array Value, (Builtin.clear_ #[t] ty #[.slice (some ⟨g, o, none⟩) n c]).run P w = .ok (.tuple #[]) (w.setRow g cur') ∧ cur'.size = cur.size ∧ cur'.toList.take o = cur.toList.take o := by
  have hl : (Builtin.zeroCells z.cells n).toList.length = n * k := by rw [Array.length_toList, zsize, hz, Nat.mul_comm]
  have h1' : ∀ u ∈ (Builtin.zeroCells z.cells n).toList, u.oneCell' = true := fun u hu => by
    unfold Builtin.zeroCells at hu
    rw [Array.toList_map, List.mem_map] at hu
    obtain ⟨i, hi, rfl⟩ := hu
    refine h1 _ ?_
    have hi' : i < n * z.cells.size := by simpa using hi
    have hp : 0 < z.cells.size := by
      rcases Nat.eq_zero_or_pos z.cells.size with h | h
      · rw [h] at hi'; omega
      · exact h
    rw [getElem!_pos z.cells (i % z.cells.size) (Nat.mod_lt _ hp)]
    simp
  have hst := run_storeCells_at P g o tt (Builtin.zeroCells z.cells n).toList 0 cur w hg (by rw [hl]; omega) h1'
  refine ⟨(cur.toList.take o ++ (Builtin.zeroCells z.cells n).toList ++ cur.toList.drop (o + n * k)).toArray, ?_, ?_, ?_⟩
  · rw [Nat.add_zero, hl] at hst
    cases n with
    | zero => omega
    | succ n => simp [Builtin.clear_, run_underlying ht, hv, hst]
  · rw [List.size_toArray, List.length_append, List.length_append, hl, List.length_take, List.length_drop, Array.length_toList]
    omega
  · show List.take o (cur.toList.take o ++ (Builtin.zeroCells z.cells n).toList ++ cur.toList.drop (o + n * k)) = _
    rw [List.append_assoc, List.take_append_of_le_length (by rw [List.length_take, Array.length_toList]; omega), List.take_take, Nat.min_self]
def ngL (es : List Pr) : List Pr := es.filter fun p => !p.gone
theorem ngL_all {es : List Pr} (h : ∀ p ∈ es, p.gone = false) : ngL es = es := List.filter_eq_self.2 fun p hp => by rw [h p hp]; rfl
theorem ngL_snoc (es : List Pr) (p : Pr) : ngL (es ++ [p]) = ngL es ++ if p.gone = true then [] else [p] := by
  unfold ngL
  rw [List.filter_append]
  congr 1
  obtain ⟨k, v, g⟩ := p
  cases g <;> rfl
theorem ngL_len (es : List Pr) : (ngL es).length ≤ es.length := List.length_filter_le _ _
end Go.Proofs.YtnafegofmbhahaaDoor

/- slices.DeleteFunc of what is gone, walked. -/
namespace Go.Proofs.YtnafegofmbhahaaDoor
open Go.RowKit Go.WideShapes
set_option linter.unusedVariables false
attribute [local go_sem ↓] Go.wp_at_zero Go.wp_at_succ

theorem own_part {w : World} {base n i c g : Nat} {e : TypeId} {xs ys : List Value} {k : Nat} (h : w.ownsRow base e k (.slice (some ⟨g, 0, none⟩) n c) n xs) (hi : i ≤ n) (hy : xs.take (i * k) = ys) : w.ownsRow base e k (.slice (some ⟨g, 0, none⟩) i c) i ys := by
  subst hy
  rcases h.2 with ⟨h1, _⟩ | ⟨g', cap, cur, h1, hb, hg, hn, hm, hs, ht⟩
  · cases h1
  · injection h1 with h1 h2 h3
    injection h1 with h1
    injection h1 with h1
    subst h1 h3
    have hle : i * k ≤ n * k := Nat.mul_le_mul_right _ hi
    refine ⟨by rw [List.length_take, h.1, Nat.min_eq_left hle], .inr ⟨g, c, cur, rfl, hb, hg, by omega, hm, hs, ?_⟩⟩
    rw [← ht, List.take_take, Nat.min_eq_left hle]

set_option maxRecDepth 100000 in
theorem own_cleared {w : World} {base n i c g : Nat} {xs ys : List Value} (h : w.ownsRow base 25 3 (.slice (some ⟨g, 0, none⟩) n c) n xs) (hi : i < n) (hy : xs.take (i * 3) = ys) (ty : TypeId) (c2 : Nat) :
    ∃ w', ((Builtin.clear_ #[22] ty #[.slice (some ⟨g, i * 3, none⟩) (n - i) c2]).run Tryd.prog w = .ok (.tuple #[]) w') ∧ w'.ownsRow base 25 3 (.slice (some ⟨g, 0, none⟩) i c) i ys ∧ w.grownBy w' (some g) := by
  subst hy
  rcases h.2 with ⟨h1, _⟩ | ⟨g', cap, cur, h1, hb, hg, hn, hm, hs, ht⟩
  · cases h1
  · injection h1 with h1 h2 h3
    injection h1 with h1
    injection h1 with h1
    subst h1 h3
    have hle : i * 3 ≤ n * 3 := Nat.mul_le_mul_right _ (Nat.le_of_lt hi)
    have hcc : n * 3 ≤ c * 3 := Nat.mul_le_mul_right _ hn
    have hcl := run_clear_rowK (P := Tryd.prog) w 22 ty 25 (.agg #[.string ⟨#[]⟩, .string ⟨#[]⟩, .bool false]) Tryd.underlying22 (fun w => by kernel_rfl) 3 g (i * 3) (n - i) c2 rfl (by intro u hu; simp [Value.cells] at hu; rcases hu with rfl | rfl | rfl <;> rfl) (by omega) cur _ hg (by omega)
    obtain ⟨cur', hr, hs', ht'⟩ := hcl
    refine ⟨w.setRow g cur', hr, ?_, ?_⟩
    · refine ⟨by rw [List.length_take, h.1, Nat.min_eq_left hle], .inr ⟨g, c, cur', rfl, hb, setRow_heap w g cur _ _ (0, 0) hg, by omega, hm, by omega, ?_⟩⟩
      rw [ht', ← ht, List.take_take, Nat.min_eq_left hle]
    · exact ⟨rfl, rfl, rfl, by simp, fun k hk hne => setRow_other _ _ _ _ fun e => hne (by rw [e])⟩
theorem own_set3 {w : World} {B g n c lo : Nat} {es : List Pr} {p : Pr} (ho : w.ownsRow B 25 3 (.slice (some ⟨g, 0, none⟩) n c) n (es.flatMap Pr.cells)) (hx : es.length = n) (hlo : lo < n) :
    (((w.setCell ⟨g, lo * 3, none⟩ (.string p.key)).setCell ⟨g, lo * 3 + 1, none⟩ (.string p.value)).setCell ⟨g, lo * 3 + 2, none⟩ (.bool p.gone)).ownsRow B 25 3 (.slice (some ⟨g, 0, none⟩) n c) n ((es.set lo p).flatMap Pr.cells) ∧
    w.grownBy (((w.setCell ⟨g, lo * 3, none⟩ (.string p.key)).setCell ⟨g, lo * 3 + 1, none⟩ (.string p.value)).setCell ⟨g, lo * 3 + 2, none⟩ (.bool p.gone)) (some g) := by
  have o1 := ho.stored (lo * 3) (.string p.key)
  have o2 := o1.1.stored (lo * 3 + 1) (.string p.value)
  have o3 := o2.1.stored (lo * 3 + 2) (.bool p.gone)
  refine ⟨?_, gb_trans (gb_trans o1.2 o2.2) o3.2⟩
  rw [← cells_set es lo p (by omega)]
  exact o3.1
theorem own_cells {w : World} {B g n c j : Nat} {es : List Pr} {p : Pr} (ho : w.ownsRow B 25 3 (.slice (some ⟨g, 0, none⟩) n c) n (es.flatMap Pr.cells)) (hx : es.length = n) (hp : es[j]? = some p) :
    w.cell? ⟨g, j * 3, none⟩ = some (.string p.key) ∧ w.cell? ⟨g, j * 3 + 1, none⟩ = some (.string p.value) ∧ w.cell? ⟨g, j * 3 + 2, none⟩ = some (.bool p.gone) ∧ w.frozen? ⟨g, j * 3, none⟩ = false ∧ w.frozen? ⟨g, j * 3 + 1, none⟩ = false ∧ w.frozen? ⟨g, j * 3 + 2, none⟩ = false := by
  have hj : j < n := by rw [← hx]; exact (List.getElem?_eq_some_iff.1 hp).1
  exact ⟨(ho.cellAt (j * 3) (by omega)).trans (flat_nthP (f := Pr.cells) (k := 3) (fun _ => rfl) es j p 0 hp (by omega)),
    (ho.cellAt (j * 3 + 1) (by omega)).trans (flat_nthP (f := Pr.cells) (k := 3) (fun _ => rfl) es j p 1 hp (by omega)),
    (ho.cellAt (j * 3 + 2) (by omega)).trans (flat_nthP (f := Pr.cells) (k := 3) (fun _ => rfl) es j p 2 hp (by omega)),
    ho.frozenAt (j * 3), ho.frozenAt (j * 3 + 1), ho.frozenAt (j * 3 + 2)⟩
/-- what the loop knows: of the first j those that are not gone lie ahead -/
def DelI (es e2 : List Pr) (n i j : Nat) : Prop := e2.length = n ∧ e2.take i = ngL (es.take j) ∧ e2.drop j = es.drop j
theorem del_get {es e2 : List Pr} {n i j : Nat} (h : DelI es e2 n i j) {p : Pr} (hp : e2[j]? = some p) : es[j]? = some p := by
  have h1 := congrArg (fun l : List Pr => l[0]?) h.2.2
  simp only [List.getElem?_drop, Nat.add_zero] at h1
  rw [← h1, hp]
theorem drop_step {a b : List Pr} {j : Nat} (h : a.drop j = b.drop j) : a.drop (j + 1) = b.drop (j + 1) := by
  have := congrArg (List.drop 1) h
  simpa [List.drop_drop, Nat.add_comm] using this
theorem take_step {es : List Pr} {j : Nat} {p : Pr} (h : es[j]? = some p) : es.take (j + 1) = es.take j ++ [p] := by
  obtain ⟨h1, h2⟩ := List.getElem?_eq_some_iff.1 h
  rw [List.take_succ_eq_append_getElem h1, h2]
theorem del_skip {es e2 : List Pr} {n i j : Nat} (h : DelI es e2 n i j) {p : Pr} (hp : e2[j]? = some p) (hg : p.gone = true) : DelI es e2 n i (j + 1) := by
  refine ⟨h.1, ?_, drop_step h.2.2⟩
  rw [take_step (del_get h hp), ngL_snoc, hg, if_pos rfl, List.append_nil]
  exact h.2.1
theorem del_keep {es e2 : List Pr} {n i j : Nat} (h : DelI es e2 n i j) {p : Pr} (hp : e2[j]? = some p) (hg : p.gone = false) (hij : i < j) : DelI es (e2.set i p) n (i + 1) (j + 1) := by
  have hln := h.1
  have hj := (List.getElem?_eq_some_iff.1 hp).1
  refine ⟨by rw [List.length_set]; exact h.1, ?_, ?_⟩
  · have hs : (e2.set i p)[i]? = some p := List.getElem?_set_self (by omega)
    rw [take_step (del_get h hp), ngL_snoc, hg, if_neg (by decide), take_step hs, List.take_set_of_le (Nat.le_refl _), h.2.1]
  · rw [List.drop_set_of_lt (by omega)]
    exact drop_step h.2.2
theorem del_end {es e2 : List Pr} {n i : Nat} (h : DelI es e2 n i n) (hx : es.length = n) : e2.take i = ngL es := by
  have := h.2.1
  rwa [List.take_of_length_le (l := es) (by omega)] at this

set_option maxRecDepth 100000 in
set_option maxHeartbeats 2000000 in
theorem DeleteGone_any (base n : Nat) (v : Value) (es : List Pr) (w : World) (hn : n ≤ 1000000) (hx : es.length = n) (hown : w.ownsRow base 25 3 v n (es.flatMap Pr.cells)) :
    Calls Tryd.prog 109 #[v, .func (.func 110) #[] #[]] w fun e w' => (∃ v', e = .returned v' ∧ w'.ownsRow base 25 3 v' (ngL es).length ((ngL es).flatMap Pr.cells)) ∧ w.grownBy w' v.ownBlock := by
  obtain ⟨A, c, rfl, hc, hr, hnil⟩ := own_rd hown
  have HX := Lib.hid hx
  have HO := Lib.hid hown
  have hl := hr.2.1
  have hI := IndexGone_any A n c es w hr hc
  have HI := Lib.hid hI
  clear hx hown hnil hr hI
  unfold maxLen at hc
  go_enter Tryd.func109, Tryd.ntmps109
  go_wp2_with fail
  refine HI.out.mono ?_
  rintro e w1 ⟨⟨hall, rfl⟩ | ⟨i, p, hp, hpg, hall, rfl⟩, hb1⟩
  · have HF : Hid (w1.ownsRow base 25 3 (.slice A n c) (ngL es).length ((ngL es).flatMap Pr.cells)) := by
      rw [ngL_all hall, HX.out]
      exact own_ext HO.out hb1
    clear hall
    go_wp2_with fail
    go_ret
    exact ⟨⟨_, rfl, HF.out⟩, hb1.gb _⟩
  · have hin : i < n := by rw [← HX.out]; exact (List.getElem?_eq_some_iff.1 hp).1
    obtain ⟨g, rfl⟩ : ∃ g, A = some ⟨g, 0, none⟩ := by
      rcases HO.out.2 with ⟨h1, h2⟩ | ⟨g, cap, cur, h1, _⟩
      · omega
      · injection h1 with h1; exact ⟨g, h1⟩
    have hz : ngL (es.take (i + 1)) = es.take i := by
      rw [List.take_succ_eq_append_getElem (by rw [HX.out]; exact hin), ngL_snoc, ngL_all hall]
      have h1 : es[i]'(by rw [HX.out]; exact hin) = p := by
        rw [List.getElem?_eq_getElem (by rw [HX.out]; exact hin)] at hp
        injection hp
      rw [h1, hpg, if_pos rfl, List.append_nil]
    have H0 : Hid (w1.ownsRow base 25 3 (.slice (some ⟨g, 0, none⟩) n c) n (es.flatMap Pr.cells)) := own_ext HO.out hb1
    have H1 : Hid (DelI es es n i (i + 1)) := Lib.hid ⟨HX.out, hz.symm, rfl⟩
    have hrun : ∀ (v : Value) (w : World), (callFunc 110 #[v]).run Tryd.prog w = .ok (.enter 110 #[v]) w := fun v w => by kernel_rfl
    have hm1 : ((i : Int) == -1) = false := beq_eq_false_iff_ne.2 (by omega)
    clear hall hz hp hpg
    go_wp2_with fail
    go_loopw [5, 6, 7] (fun x y _ wr => ∃ (i j : Nat) (e2 : List Pr), x = .int .i64 i ∧ y = .int .i64 j ∧ i < j ∧ j ≤ n ∧ w.grownBy wr (some g) ∧ Hid (wr.ownsRow base 25 3 (.slice (some ⟨g, 0, none⟩) n c) n (e2.flatMap Pr.cells)) ∧ Hid (DelI es e2 n i j)) (fun _ y _ _ => n - (intOf y).toNat)
    case atStart => exact ⟨_, _, es, rfl, by go_num, by omega, by omega, hb1.gb _, H0, H1⟩
    case round =>
      obtain ⟨i, j, e2, rfl, rfl, hij, hj, hgb, hown, hinv⟩ := hrel
      by_cases hc2 : j < n
      · have hjl : j < e2.length := by rw [hinv.out.1]; exact hc2
        have hgj : e2[j]? = some (e2[j]'hjl) := List.getElem?_eq_getElem hjl
        generalize e2[j]'hjl = p at *
        have HJ := Lib.hid hgj
        obtain ⟨c0, c1, c2, -, -, -⟩ := own_cells hown.out hinv.out.1 hgj
        obtain ⟨pk, pv, pg⟩ := p
        simp only at c0 c1 c2
        have P3 := Bk.at_ wr 25 #[.string pk, .string pv, .bool pg] wr.heap.size rfl
        have g3 : w.grownBy (wr.alloc (.cells #[.string pk, .string pv, .bool pg] 25)) (some g) := gb_alloc hgb _
        have o3 := World.ownsRow.alloc hown.out (.cells #[.string pk, .string pv, .bool pg] 25)
        clear hgj
        go_wp2_with fail
        refine (gone_any ⟨pk, pv, pg⟩ _).mono ?_
        rintro _ w5 ⟨rfl, hb5⟩
        have own5 := own_ext o3 hb5
        have g5 := gb_trans g3 (hb5.gb (some g))
        have P5 := P3.ext hb5
        have O5 := Lib.hid own5
        cases pg with
        | true =>
          have HD := Lib.hid (del_skip hinv.out HJ.out rfl)
          clear own5 P3 o3 g3
          go_wp2_with fail
          go_roundw
          case rel => exact ⟨i, j + 1, e2, rfl, by go_num, by omega, by omega, g5, O5, HD⟩
          case measure => simp [intOf]; omega
        | false =>
          have HD := Lib.hid (del_keep hinv.out HJ.out rfl hij)
          obtain ⟨q, hq⟩ : ∃ q, e2[i]? = some q := ⟨_, List.getElem?_eq_getElem (by omega)⟩
          obtain ⟨q0, q1, q2, f0, f1, f2⟩ := own_cells own5 hinv.out.1 hq
          have y0 : w5.cell? ⟨wr.heap.size, 0, none⟩ = some (.string pk) := P5.cell 0
          have y1 : w5.cell? ⟨wr.heap.size, 1, none⟩ = some (.string pv) := P5.cell 1
          have y2 : w5.cell? ⟨wr.heap.size, 2, none⟩ = some (.bool false) := P5.cell 2
          have hgb : g ≠ wr.heap.size := fun e => by
            have h3 := hown.out.lt g rfl
            omega
          have O7 := Lib.hid (own_set3 (lo := i) (p := ⟨pk, pv, false⟩) own5 hinv.out.1 (by omega))
          clear own5 P3 o3 g3 P5 c0 c1 c2 hq
          go_wp2_with fail
          go_roundw
          case rel => exact ⟨i + 1, j + 1, _, by go_num, by go_num, by omega, by omega, gb_trans g5 O7.out.2, O7.out.1, HD⟩
          case measure => simp [intOf]; omega
      · obtain rfl : j = n := by omega
        have HE := Lib.hid (del_end hinv.out HX.out)
        have hin2 : i < j := hij
        obtain ⟨w7, hcl, o7, g7⟩ := own_cleared hown.out hij ((flat_take (f := Pr.cells) (k := 3) (fun _ => rfl) e2 i).trans (congrArg _ HE.out)) 0 (c - i)
        have HO7 := Lib.hid o7
        have hlen : i = (ngL es).length := by
          rw [← HE.out, List.length_take, hinv.out.1]
          omega
        have HLN := Lib.hid hlen
        clear o7 hlen
        go_wp2_with fail
        go_ret
        exact ⟨⟨_, rfl, by rw [← HLN.out]; exact HO7.out⟩, gb_trans hgb g7⟩
end Go.Proofs.YtnafegofmbhahaaDoor
