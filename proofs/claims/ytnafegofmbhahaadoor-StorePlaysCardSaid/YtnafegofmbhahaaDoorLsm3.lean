/- slices.DeleteFunc of what is gone, walked. -/
import Derived.Test.YtnafegofmbhahaaDoorLsm2
namespace Go.Proofs.YtnafegofmbhahaaDoor
open Go.RowKit Go.WideShapes
set_option linter.unusedVariables false
attribute [local go_sem ↓] Go.wp_at_zero Go.wp_at_succ

theorem own_part {w : World} {base n i c g : Nat} {e : TypeId} {xs ys : List Value} {k : Nat} (h : w.ownsRow base e k (.slice (some ⟨g, 0, none⟩) n c) n xs) (hi : i ≤ n) (hy : xs.take (i * k) = ys) : w.ownsRow base e k (.slice (some ⟨g, 0, none⟩) i c) i ys := by
  subst hy
  rcases h.2 with ⟨h1, _⟩ | ⟨g', cap, cur, h1, hb, hg, hn, hm, hs, ht⟩
  · cases h1
  · injection h1 with h1 h2 h3
    injection h1 with h1
    injection h1 with h1
    subst h1 h3
    have hle : i * k ≤ n * k := Nat.mul_le_mul_right _ hi
    refine ⟨by rw [List.length_take, h.1, Nat.min_eq_left hle], .inr ⟨g, c, cur, rfl, hb, hg, by omega, hm, hs, ?_⟩⟩
    rw [← ht, List.take_take, Nat.min_eq_left hle]

set_option maxRecDepth 100000 in
theorem own_cleared {w : World} {base n i c g : Nat} {xs ys : List Value} (h : w.ownsRow base 25 3 (.slice (some ⟨g, 0, none⟩) n c) n xs) (hi : i < n) (hy : xs.take (i * 3) = ys) (ty : TypeId) (c2 : Nat) :
    ∃ w', ((Builtin.clear_ #[22] ty #[.slice (some ⟨g, i * 3, none⟩) (n - i) c2]).run Tryd.prog w = .ok (.tuple #[]) w') ∧ w'.ownsRow base 25 3 (.slice (some ⟨g, 0, none⟩) i c) i ys ∧ w.grownBy w' (some g) := by
  subst hy
  rcases h.2 with ⟨h1, _⟩ | ⟨g', cap, cur, h1, hb, hg, hn, hm, hs, ht⟩
  · cases h1
  · injection h1 with h1 h2 h3
    injection h1 with h1
    injection h1 with h1
    subst h1 h3
    have hle : i * 3 ≤ n * 3 := Nat.mul_le_mul_right _ (Nat.le_of_lt hi)
    have hcc : n * 3 ≤ c * 3 := Nat.mul_le_mul_right _ hn
    have hcl := run_clear_rowK (P := Tryd.prog) w 22 ty 25 (.agg #[.string ⟨#[]⟩, .string ⟨#[]⟩, .bool false]) Tryd.underlying22 (fun w => by kernel_rfl) 3 g (i * 3) (n - i) c2 rfl (by intro u hu; simp [Value.cells] at hu; rcases hu with rfl | rfl | rfl <;> rfl) (by omega) cur _ hg (by omega)
    obtain ⟨cur', hr, hs', ht'⟩ := hcl
    refine ⟨w.setRow g cur', hr, ?_, ?_⟩
    · refine ⟨by rw [List.length_take, h.1, Nat.min_eq_left hle], .inr ⟨g, c, cur', rfl, hb, setRow_heap w g cur _ _ (0, 0) hg, by omega, hm, by omega, ?_⟩⟩
      rw [ht', ← ht, List.take_take, Nat.min_eq_left hle]
    · exact ⟨rfl, rfl, rfl, by simp, fun k hk hne => setRow_other _ _ _ _ fun e => hne (by rw [e])⟩
theorem own_set3 {w : World} {B g n c lo : Nat} {es : List Pr} {p : Pr} (ho : w.ownsRow B 25 3 (.slice (some ⟨g, 0, none⟩) n c) n (es.flatMap Pr.cells)) (hx : es.length = n) (hlo : lo < n) :
    (((w.setCell ⟨g, lo * 3, none⟩ (.string p.key)).setCell ⟨g, lo * 3 + 1, none⟩ (.string p.value)).setCell ⟨g, lo * 3 + 2, none⟩ (.bool p.gone)).ownsRow B 25 3 (.slice (some ⟨g, 0, none⟩) n c) n ((es.set lo p).flatMap Pr.cells) ∧
    w.grownBy (((w.setCell ⟨g, lo * 3, none⟩ (.string p.key)).setCell ⟨g, lo * 3 + 1, none⟩ (.string p.value)).setCell ⟨g, lo * 3 + 2, none⟩ (.bool p.gone)) (some g) := by
  have o1 := ho.stored (lo * 3) (.string p.key)
  have o2 := o1.1.stored (lo * 3 + 1) (.string p.value)
  have o3 := o2.1.stored (lo * 3 + 2) (.bool p.gone)
  refine ⟨?_, gb_trans (gb_trans o1.2 o2.2) o3.2⟩
  rw [← cells_set es lo p (by omega)]
  exact o3.1
theorem own_cells {w : World} {B g n c j : Nat} {es : List Pr} {p : Pr} (ho : w.ownsRow B 25 3 (.slice (some ⟨g, 0, none⟩) n c) n (es.flatMap Pr.cells)) (hx : es.length = n) (hp : es[j]? = some p) :
    w.cell? ⟨g, j * 3, none⟩ = some (.string p.key) ∧ w.cell? ⟨g, j * 3 + 1, none⟩ = some (.string p.value) ∧ w.cell? ⟨g, j * 3 + 2, none⟩ = some (.bool p.gone) ∧ w.frozen? ⟨g, j * 3, none⟩ = false ∧ w.frozen? ⟨g, j * 3 + 1, none⟩ = false ∧ w.frozen? ⟨g, j * 3 + 2, none⟩ = false := by
  have hj : j < n := by rw [← hx]; exact (List.getElem?_eq_some_iff.1 hp).1
  exact ⟨(ho.cellAt (j * 3) (by omega)).trans (flat_nthP (f := Pr.cells) (k := 3) (fun _ => rfl) es j p 0 hp (by omega)),
    (ho.cellAt (j * 3 + 1) (by omega)).trans (flat_nthP (f := Pr.cells) (k := 3) (fun _ => rfl) es j p 1 hp (by omega)),
    (ho.cellAt (j * 3 + 2) (by omega)).trans (flat_nthP (f := Pr.cells) (k := 3) (fun _ => rfl) es j p 2 hp (by omega)),
    ho.frozenAt (j * 3), ho.frozenAt (j * 3 + 1), ho.frozenAt (j * 3 + 2)⟩
/-- what the loop knows: of the first j those that are not gone lie ahead -/
def DelI (es e2 : List Pr) (n i j : Nat) : Prop := e2.length = n ∧ e2.take i = ngL (es.take j) ∧ e2.drop j = es.drop j
theorem del_get {es e2 : List Pr} {n i j : Nat} (h : DelI es e2 n i j) {p : Pr} (hp : e2[j]? = some p) : es[j]? = some p := by
  have h1 := congrArg (fun l : List Pr => l[0]?) h.2.2
  simp only [List.getElem?_drop, Nat.add_zero] at h1
  rw [← h1, hp]
theorem drop_step {a b : List Pr} {j : Nat} (h : a.drop j = b.drop j) : a.drop (j + 1) = b.drop (j + 1) := by
  have := congrArg (List.drop 1) h
  simpa [List.drop_drop, Nat.add_comm] using this
theorem take_step {es : List Pr} {j : Nat} {p : Pr} (h : es[j]? = some p) : es.take (j + 1) = es.take j ++ [p] := by
  obtain ⟨h1, h2⟩ := List.getElem?_eq_some_iff.1 h
  rw [List.take_succ_eq_append_getElem h1, h2]
theorem del_skip {es e2 : List Pr} {n i j : Nat} (h : DelI es e2 n i j) {p : Pr} (hp : e2[j]? = some p) (hg : p.gone = true) : DelI es e2 n i (j + 1) := by
  refine ⟨h.1, ?_, drop_step h.2.2⟩
  rw [take_step (del_get h hp), ngL_snoc, hg, if_pos rfl, List.append_nil]
  exact h.2.1
theorem del_keep {es e2 : List Pr} {n i j : Nat} (h : DelI es e2 n i j) {p : Pr} (hp : e2[j]? = some p) (hg : p.gone = false) (hij : i < j) : DelI es (e2.set i p) n (i + 1) (j + 1) := by
  have hln := h.1
  have hj := (List.getElem?_eq_some_iff.1 hp).1
  refine ⟨by rw [List.length_set]; exact h.1, ?_, ?_⟩
  · have hs : (e2.set i p)[i]? = some p := List.getElem?_set_self (by omega)
    rw [take_step (del_get h hp), ngL_snoc, hg, if_neg (by decide), take_step hs, List.take_set_of_le (Nat.le_refl _), h.2.1]
  · rw [List.drop_set_of_lt (by omega)]
    exact drop_step h.2.2
theorem del_end {es e2 : List Pr} {n i : Nat} (h : DelI es e2 n i n) (hx : es.length = n) : e2.take i = ngL es := by
  have := h.2.1
  rwa [List.take_of_length_le (l := es) (by omega)] at this

set_option maxRecDepth 100000 in
set_option maxHeartbeats 2000000 in
theorem DeleteGone_any (base n : Nat) (v : Value) (es : List Pr) (w : World) (hn : n ≤ 1000000) (hx : es.length = n) (hown : w.ownsRow base 25 3 v n (es.flatMap Pr.cells)) :
    Calls Tryd.prog 109 #[v, .func (.func 110) #[] #[]] w fun e w' => (∃ v', e = .returned v' ∧ w'.ownsRow base 25 3 v' (ngL es).length ((ngL es).flatMap Pr.cells)) ∧ w.grownBy w' v.ownBlock := by
  obtain ⟨A, c, rfl, hc, hr, hnil⟩ := own_rd hown
  have HX := Lib.hid hx
  have HO := Lib.hid hown
  have hl := hr.2.1
  have hI := IndexGone_any A n c es w hr hc
  have HI := Lib.hid hI
  clear hx hown hnil hr hI
  unfold maxLen at hc
  go_enter Tryd.func109, Tryd.ntmps109
  go_wp2_with fail
  refine HI.out.mono ?_
  rintro e w1 ⟨⟨hall, rfl⟩ | ⟨i, p, hp, hpg, hall, rfl⟩, hb1⟩
  · have HF : Hid (w1.ownsRow base 25 3 (.slice A n c) (ngL es).length ((ngL es).flatMap Pr.cells)) := by
      rw [ngL_all hall, HX.out]
      exact own_ext HO.out hb1
    clear hall
    go_wp2_with fail
    go_ret
    exact ⟨⟨_, rfl, HF.out⟩, hb1.gb _⟩
  · have hin : i < n := by rw [← HX.out]; exact (List.getElem?_eq_some_iff.1 hp).1
    obtain ⟨g, rfl⟩ : ∃ g, A = some ⟨g, 0, none⟩ := by
      rcases HO.out.2 with ⟨h1, h2⟩ | ⟨g, cap, cur, h1, _⟩
      · omega
      · injection h1 with h1; exact ⟨g, h1⟩
    have hz : ngL (es.take (i + 1)) = es.take i := by
      rw [List.take_succ_eq_append_getElem (by rw [HX.out]; exact hin), ngL_snoc, ngL_all hall]
      have h1 : es[i]'(by rw [HX.out]; exact hin) = p := by
        rw [List.getElem?_eq_getElem (by rw [HX.out]; exact hin)] at hp
        injection hp
      rw [h1, hpg, if_pos rfl, List.append_nil]
    have H0 : Hid (w1.ownsRow base 25 3 (.slice (some ⟨g, 0, none⟩) n c) n (es.flatMap Pr.cells)) := own_ext HO.out hb1
    have H1 : Hid (DelI es es n i (i + 1)) := Lib.hid ⟨HX.out, hz.symm, rfl⟩
    have hrun : ∀ (v : Value) (w : World), (callFunc 110 #[v]).run Tryd.prog w = .ok (.enter 110 #[v]) w := fun v w => by kernel_rfl
    have hm1 : ((i : Int) == -1) = false := beq_eq_false_iff_ne.2 (by omega)
    clear hall hz hp hpg
    go_wp2_with fail
    go_loopw [5, 6, 7] (fun x y _ wr => ∃ (i j : Nat) (e2 : List Pr), x = .int .i64 i ∧ y = .int .i64 j ∧ i < j ∧ j ≤ n ∧ w.grownBy wr (some g) ∧ Hid (wr.ownsRow base 25 3 (.slice (some ⟨g, 0, none⟩) n c) n (e2.flatMap Pr.cells)) ∧ Hid (DelI es e2 n i j)) (fun _ y _ _ => n - (intOf y).toNat)
    case atStart => exact ⟨_, _, es, rfl, by go_num, by omega, by omega, hb1.gb _, H0, H1⟩
    case round =>
      obtain ⟨i, j, e2, rfl, rfl, hij, hj, hgb, hown, hinv⟩ := hrel
      by_cases hc2 : j < n
      · have hjl : j < e2.length := by rw [hinv.out.1]; exact hc2
        have hgj : e2[j]? = some (e2[j]'hjl) := List.getElem?_eq_getElem hjl
        generalize e2[j]'hjl = p at *
        have HJ := Lib.hid hgj
        obtain ⟨c0, c1, c2, -, -, -⟩ := own_cells hown.out hinv.out.1 hgj
        obtain ⟨pk, pv, pg⟩ := p
        simp only at c0 c1 c2
        have P3 := Bk.at_ wr 25 #[.string pk, .string pv, .bool pg] wr.heap.size rfl
        have g3 : w.grownBy (wr.alloc (.cells #[.string pk, .string pv, .bool pg] 25)) (some g) := gb_alloc hgb _
        have o3 := World.ownsRow.alloc hown.out (.cells #[.string pk, .string pv, .bool pg] 25)
        clear hgj
        go_wp2_with fail
        refine (gone_any ⟨pk, pv, pg⟩ _).mono ?_
        rintro _ w5 ⟨rfl, hb5⟩
        have own5 := own_ext o3 hb5
        have g5 := gb_trans g3 (hb5.gb (some g))
        have P5 := P3.ext hb5
        have O5 := Lib.hid own5
        cases pg with
        | true =>
          have HD := Lib.hid (del_skip hinv.out HJ.out rfl)
          clear own5 P3 o3 g3
          go_wp2_with fail
          go_roundw
          case rel => exact ⟨i, j + 1, e2, rfl, by go_num, by omega, by omega, g5, O5, HD⟩
          case measure => simp [intOf]; omega
        | false =>
          have HD := Lib.hid (del_keep hinv.out HJ.out rfl hij)
          obtain ⟨q, hq⟩ : ∃ q, e2[i]? = some q := ⟨_, List.getElem?_eq_getElem (by omega)⟩
          obtain ⟨q0, q1, q2, f0, f1, f2⟩ := own_cells own5 hinv.out.1 hq
          have y0 : w5.cell? ⟨wr.heap.size, 0, none⟩ = some (.string pk) := P5.cell 0
          have y1 : w5.cell? ⟨wr.heap.size, 1, none⟩ = some (.string pv) := P5.cell 1
          have y2 : w5.cell? ⟨wr.heap.size, 2, none⟩ = some (.bool false) := P5.cell 2
          have hgb : g ≠ wr.heap.size := fun e => by
            have h3 := hown.out.lt g rfl
            omega
          have O7 := Lib.hid (own_set3 (lo := i) (p := ⟨pk, pv, false⟩) own5 hinv.out.1 (by omega))
          clear own5 P3 o3 g3 P5 c0 c1 c2 hq
          go_wp2_with fail
          go_roundw
          case rel => exact ⟨i + 1, j + 1, _, by go_num, by go_num, by omega, by omega, gb_trans g5 O7.out.2, O7.out.1, HD⟩
          case measure => simp [intOf]; omega
      · obtain rfl : j = n := by omega
        have HE := Lib.hid (del_end hinv.out HX.out)
        have hin2 : i < j := hij
        obtain ⟨w7, hcl, o7, g7⟩ := own_cleared hown.out hij ((flat_take (f := Pr.cells) (k := 3) (fun _ => rfl) e2 i).trans (congrArg _ HE.out)) 0 (c - i)
        have HO7 := Lib.hid o7
        have hlen : i = (ngL es).length := by
          rw [← HE.out, List.length_take, hinv.out.1]
          omega
        have HLN := Lib.hid hlen
        clear o7 hlen
        go_wp2_with fail
        go_ret
        exact ⟨⟨_, rfl, by rw [← HLN.out]; exact HO7.out⟩, gb_trans hgb g7⟩
end Go.Proofs.YtnafegofmbhahaaDoor
