/- table.first, walked. -/
import Derived.Test.YtnafegofmbhahaaDoorTab4
import Derived.BigRegion
namespace Go.Proofs.YtnafegofmbhahaaDoor
open Go.RowKit Go.WideShapes
set_option linter.unusedVariables false
attribute [local go_sem ↓] Go.wp_at_zero Go.wp_at_succ

set_option maxRecDepth 100000 in
set_option maxHeartbeats 2000000 in
theorem First_any (b : ByteArray) (w : World) (hb : b.size ≤ 140737488355328) :
    Calls Tryd.prog 69 #[.string b] w fun e w' => ((∃ p left, Fst b p left ∧ e = .returned (.tuple #[p.val, .string left, .bool true])) ∨ ((∀ p left, ¬ Fst b p left) ∧ e = .returned (.tuple #[Value.agg #[.string ⟨#[]⟩, .string ⟨#[]⟩, .bool false], .string b, .bool false]))) ∧ Ext w w' := by
  have B0 := Bk.at_ w 25 #[.string ⟨#[]⟩, .string ⟨#[]⟩, .bool false] w.heap.size rfl
  have e0 : Ext w (w.alloc (.cells #[.string ⟨#[]⟩, .string ⟨#[]⟩, .bool false] 25)) := (Ext.refl _).alloc _
  have f0 := B0.frozen 0
  have f1 := B0.frozen 1
  have f2 := B0.frozen 2
  have p0 : (w.alloc (.cells #[.string ⟨#[]⟩, .string ⟨#[]⟩, .bool false] 25)).cell? ⟨w.heap.size, 0, none⟩ = some (.string ⟨#[]⟩) := B0.cell 0
  have p1 : (w.alloc (.cells #[.string ⟨#[]⟩, .string ⟨#[]⟩, .bool false] 25)).cell? ⟨w.heap.size, 1, none⟩ = some (.string ⟨#[]⟩) := B0.cell 1
  have p2 : (w.alloc (.cells #[.string ⟨#[]⟩, .string ⟨#[]⟩, .bool false] 25)).cell? ⟨w.heap.size, 2, none⟩ = some (.bool false) := B0.cell 2
  have hlt := B0.lt
  have HB0 := Lib.hid B0
  clear B0
  by_cases hz : b.size = 0
  · have hno : Hid (∀ p left, ¬ Fst b p left) := Lib.hid fun p left h => by have := (fst_ok h).1; omega
    obtain rfl := str_noneP hz
    clear hz
    go_enter Tryd.func69, Tryd.ntmps69
    go_wp2_with fail
    refine bodyPost_ret (by simp [results, Tryd.results69, go_sem, p0, p1, p2]; try rfl) rfl ?_
    exact ⟨.inr ⟨hno.out, rfl⟩, e0⟩
  · have hp : 0 < b.size := Nat.pos_of_ne_zero hz
    obtain ⟨s1, s2⟩ := str_someP hp
    have g0 : ∀ h : 0 < b.size, b[0]'h = byT b 0 := fun h => byT_get b 0 h
    have hoki : fOk b ↔ 3 + (byT b 0).toNat ≤ b.size ∧ (fG b).toNat ≤ 1 ∧ fN b ≤ (fRest b).size := ⟨fun h => h.2, fun h => ⟨hp, h⟩⟩
    have hfp : fP b = ⟨b.extract 1 (1 + (byT b 0).toNat), (fRest b).extract 0 (fN b), decide ((fG b).toNat = 1)⟩ := rfl
    have hfl : fL b = (fRest b).extract (fN b) (fRest b).size := rfl
    have hfr : fRest b = b.extract (1 + (byT b 0).toNat + 2) b.size := rfl
    have hfg : ∀ h : 1 + (byT b 0).toNat < b.size, b[1 + (byT b 0).toNat]'h = fG b := fun h => byT_get b _ h
    have hfn : ∀ h : 1 + (byT b 0).toNat + 1 < b.size, b[1 + (byT b 0).toNat + 1]'h = byT b (1 + (byT b 0).toNat + 1) := fun h => byT_get b _ h
    have hfN : fN b = (byT b (1 + (byT b 0).toNat + 1)).toNat := rfl
    have HOK := Lib.hid hoki
    have HFP := Lib.hid hfp
    have HFL := Lib.hid hfl
    obtain ⟨k, HKK⟩ : ∃ k, Hid (byT b 0 = k) := ⟨_, rfl⟩
    rw [HKK.out] at g0 HOK HFP hfr hfg hfn hfN
    obtain ⟨nb, HNB⟩ : ∃ x, Hid (byT b (1 + k.toNat + 1) = x) := ⟨_, rfl⟩
    rw [HNB.out] at hfn hfN
    obtain ⟨g, HGG⟩ : ∃ g, Hid (fG b = g) := ⟨_, rfl⟩
    have HNN := Lib.hid hfN
    clear hfN
    obtain ⟨rs, HRR⟩ : ∃ x, Hid (fRest b = x) := ⟨_, rfl⟩
    rw [HGG.out, HNN.out, HRR.out] at HOK
    rw [HGG.out, HNN.out, HRR.out] at HFP
    rw [HNN.out, HRR.out] at HFL
    rw [HGG.out] at hfg
    rw [HRR.out] at hfr
    have hk := k.toNat_lt
    have hnb := nb.toNat_lt
    have w1 : IntKind.i64.wrap (3 + (k.toNat : Int)) = 3 + (k.toNat : Int) := IntWalk.i64_in _ (by omega)
    clear hoki hfp hfl hz
    by_cases hA : b.size < 3 + k.toNat
    · have hno : Hid (∀ p left, ¬ Fst b p left) := Lib.hid fun p left h => by have := (HOK.out.1 (fst_ok h)).1; omega
      have hAi : (b.size : Int) < 3 + (k.toNat : Int) := by omega
      clear hfg hfn hfr
      go_enter Tryd.func69, Tryd.ntmps69
      go_wp2_with fail
      refine bodyPost_ret (by simp [results, Tryd.results69, go_sem, p0, p1, p2]; try rfl) rfl ?_
      exact ⟨.inr ⟨hno.out, rfl⟩, e0⟩
    · have hAi : ¬ (b.size : Int) < 3 + (k.toNat : Int) := by omega
      have w2 : IntKind.i64.wrap (1 + (k.toNat : Int)) = 1 + (k.toNat : Int) := IntWalk.i64_in _ (by omega)
      have w3 : IntKind.i64.wrap (1 + (k.toNat : Int) + 2) = 1 + (k.toNat : Int) + 2 := IntWalk.i64_in _ (by omega)
      have w4 : IntKind.i64.wrap (1 + (k.toNat : Int) + 1) = 1 + (k.toNat : Int) + 1 := IntWalk.i64_in _ (by omega)
      have t2 : (1 + (k.toNat : Int)).toNat = 1 + k.toNat := by omega
      have t3 : (1 + (k.toNat : Int) + 2).toNat = 1 + k.toNat + 2 := by omega
      have t4 : (1 + (k.toNat : Int) + 1).toNat = 1 + k.toNat + 1 := by omega
      have i1 : (1 : Int) ≤ 1 + (k.toNat : Int) := by omega
      have i2 : 1 + (k.toNat : Int) ≤ (b.size : Int) := by omega
      have i3 : 1 + (k.toNat : Int) < (b.size : Int) := by omega
      have i4 : 0 ≤ 1 + (k.toNat : Int) := by omega
      have i5 : 1 + (k.toNat : Int) + 2 ≤ (b.size : Int) := by omega
      have i6 : 1 + (k.toNat : Int) + 1 < (b.size : Int) := by omega
      have i7 : 0 ≤ 1 + (k.toNat : Int) + 2 := by omega
      have i8 : 0 ≤ 1 + (k.toNat : Int) + 1 := by omega
      have i9 : 1 + k.toNat < b.size := by omega
      have i10 : 1 + k.toNat + 1 < b.size := by omega
      have j1 := hfg i9
      have j2 := hfn i10
      go_enter Tryd.func69, Tryd.ntmps69
      have hrs : rs.size = b.size - (1 + k.toNat + 2) := by rw [hfr, ByteArray.size_extract]; omega
      have HRS := Lib.hid hrs
      have HFR := Lib.hid hfr
      have HKB := Lib.hid (show 3 + k.toNat ≤ b.size by omega)
      clear hrs hfr
      obtain ⟨gb, HGB⟩ : ∃ x, Hid (((g.toNat : Int) == 1) = x) := ⟨_, rfl⟩
      go_wp2_with fail
      go_region
      have B1 := Bk.at_ (w.alloc (.cells #[.string ⟨#[]⟩, .string ⟨#[]⟩, .bool false] 25)) 25 #[.string (b.extract 1 (1 + k.toNat)), .string ⟨#[]⟩, .bool gb] (w.heap.size + 1) (by simp)
      have B00 := HB0.out.alloc (.cells #[.string (b.extract 1 (1 + k.toNat)), .string ⟨#[]⟩, .bool gb] 25)
      have e1 : Ext w ((w.alloc (.cells #[.string ⟨#[]⟩, .string ⟨#[]⟩, .bool false] 25)).alloc (.cells #[.string (b.extract 1 (1 + k.toNat)), .string ⟨#[]⟩, .bool gb] 25)).drew := (e0.alloc _).drew
      have B1' := B1.drew
      have B00' := B00.drew
      rw [HGB.out]
      generalize ((w.alloc (.cells #[.string ⟨#[]⟩, .string ⟨#[]⟩, .bool false] 25)).alloc (.cells #[.string (b.extract 1 (1 + k.toNat)), .string ⟨#[]⟩, .bool gb] 25)).drew = W6 at *
      clear B1 B00 HB0 e0 f0 f1 f2 p0 p1 p2 hlt
      have z0 : W6.cell? ⟨w.heap.size, 0, none⟩ = some (.string ⟨#[]⟩) := B00'.cell 0
      have z1 : W6.cell? ⟨w.heap.size, 1, none⟩ = some (.string ⟨#[]⟩) := B00'.cell 1
      have z2 : W6.cell? ⟨w.heap.size, 2, none⟩ = some (.bool false) := B00'.cell 2
      have f0 := B00'.frozen 0
      have f1 := B00'.frozen 1
      have f2 := B00'.frozen 2
      have c0 : W6.cell? ⟨w.heap.size + 1, 0, none⟩ = some (.string (b.extract 1 (1 + k.toNat))) := B1'.cell 0
      have c1 : W6.cell? ⟨w.heap.size + 1, 1, none⟩ = some (.string ⟨#[]⟩) := B1'.cell 1
      have c2 : W6.cell? ⟨w.heap.size + 1, 2, none⟩ = some (.bool gb) := B1'.cell 2
      have d1 := B1'.frozen 1
      have hl1 := B1'.lt
      have HB1 := Lib.hid B1'
      have HB0 := Lib.hid B00'
      clear B1' B00'
      by_cases hg : g.toNat ≤ 1
      · have hgi : (g.toNat : Int) ≤ 1 := by omega
        by_cases hn : nb.toNat ≤ rs.size
        · have hni : (nb.toNat : Int) ≤ ((b.size - (1 + k.toNat + 2) : Nat) : Int) := by have := HRS.out; omega
          go_wp2_with fail
          go_region
          have hsz2 : b.size - (1 + k.toNat + 2) = rs.size := HRS.out.symm
          have hfst : Fst b ⟨b.extract 1 (1 + k.toNat), rs.extract 0 nb.toNat, gb⟩ (rs.extract nb.toNat rs.size) := by
            have h := fst_of (HOK.out.2 ⟨HKB.out, hg, hn⟩)
            rw [HFP.out, HFL.out] at h
            have hgb : decide (g.toNat = 1) = gb := by
              rw [← HGB.out]
              by_cases h1 : g.toNat = 1
              · rw [decide_eq_true h1, h1]; rfl
              · rw [decide_eq_false h1]
                exact (beq_eq_false_iff_ne.2 (fun h => h1 (by omega))).symm
            rw [hgb] at h
            exact h
          have HFST := Lib.hid hfst
          rw [← HFR.out, hsz2]
          clear hfst hsz2
          generalize rs.extract 0 nb.toNat = vv at *
          generalize rs.extract nb.toNat rs.size = lf at *
          generalize b.extract 1 (1 + k.toNat) = kk at *
          have B7 := (((HB0.out.far (p := ⟨w.heap.size + 1, 1, none⟩) (by show w.heap.size ≠ w.heap.size + 1; omega) (.string vv)).set_ 0 (.string kk)).set_ 1 (.string vv)).set_ 2 (.bool gb)
          have x0 : ((((W6.setCell ⟨w.heap.size + 1, 1, none⟩ (.string vv)).setCell ⟨w.heap.size, 0, none⟩ (.string kk)).setCell ⟨w.heap.size, 1, none⟩ (.string vv)).setCell ⟨w.heap.size, 2, none⟩ (.bool gb)).drew.cell? ⟨w.heap.size, 0, none⟩ = some (.string kk) := (B7.cell 0).trans rfl
          have x1 : ((((W6.setCell ⟨w.heap.size + 1, 1, none⟩ (.string vv)).setCell ⟨w.heap.size, 0, none⟩ (.string kk)).setCell ⟨w.heap.size, 1, none⟩ (.string vv)).setCell ⟨w.heap.size, 2, none⟩ (.bool gb)).drew.cell? ⟨w.heap.size, 1, none⟩ = some (.string vv) := (B7.cell 1).trans rfl
          have x2 : ((((W6.setCell ⟨w.heap.size + 1, 1, none⟩ (.string vv)).setCell ⟨w.heap.size, 0, none⟩ (.string kk)).setCell ⟨w.heap.size, 1, none⟩ (.string vv)).setCell ⟨w.heap.size, 2, none⟩ (.bool gb)).drew.cell? ⟨w.heap.size, 2, none⟩ = some (.bool gb) := (B7.cell 2).trans rfl
          have e7 := ((((e1.setCell (p := ⟨w.heap.size + 1, 1, none⟩) (Nat.le_succ _) (.string vv)).setCell (p := ⟨w.heap.size, 0, none⟩) (Nat.le_refl _) (.string kk)).setCell (p := ⟨w.heap.size, 1, none⟩) (Nat.le_refl _) (.string vv)).setCell (p := ⟨w.heap.size, 2, none⟩) (Nat.le_refl _) (.bool gb)).drew
          go_wp2_with fail
          refine bodyPost_ret (by simp [results, Tryd.results69, go_sem, x0, x1, x2]; try rfl) rfl ?_
          exact ⟨.inl ⟨_, _, HFST.out, rfl⟩, e7⟩
        · have hni : ¬ (nb.toNat : Int) ≤ ((b.size - (1 + k.toNat + 2) : Nat) : Int) := by have := HRS.out; omega
          go_wp2_with fail
          have hno : Hid (∀ p left, ¬ Fst b p left) := Lib.hid fun p left h => hn (HOK.out.1 (fst_ok h)).2.2
          have B7 := ((HB0.out.set_ 0 (.string ⟨#[]⟩)).set_ 1 (.string ⟨#[]⟩)).set_ 2 (.bool false)
          have x0 : (((W6.setCell ⟨w.heap.size, 0, none⟩ (.string ⟨#[]⟩)).setCell ⟨w.heap.size, 1, none⟩ (.string ⟨#[]⟩)).setCell ⟨w.heap.size, 2, none⟩ (.bool false)).cell? ⟨w.heap.size, 0, none⟩ = some (.string ⟨#[]⟩) := (B7.cell 0).trans rfl
          have x1 : (((W6.setCell ⟨w.heap.size, 0, none⟩ (.string ⟨#[]⟩)).setCell ⟨w.heap.size, 1, none⟩ (.string ⟨#[]⟩)).setCell ⟨w.heap.size, 2, none⟩ (.bool false)).cell? ⟨w.heap.size, 1, none⟩ = some (.string ⟨#[]⟩) := (B7.cell 1).trans rfl
          have x2 : (((W6.setCell ⟨w.heap.size, 0, none⟩ (.string ⟨#[]⟩)).setCell ⟨w.heap.size, 1, none⟩ (.string ⟨#[]⟩)).setCell ⟨w.heap.size, 2, none⟩ (.bool false)).cell? ⟨w.heap.size, 2, none⟩ = some (.bool false) := (B7.cell 2).trans rfl
          have e7 := ((e1.setCell (p := ⟨w.heap.size, 0, none⟩) (Nat.le_refl _) (.string ⟨#[]⟩)).setCell (p := ⟨w.heap.size, 1, none⟩) (Nat.le_refl _) (.string ⟨#[]⟩)).setCell (p := ⟨w.heap.size, 2, none⟩) (Nat.le_refl _) (.bool false)
          refine bodyPost_ret (by simp [results, Tryd.results69, go_sem, x0, x1, x2]; try rfl) rfl ?_
          exact ⟨.inr ⟨hno.out, rfl⟩, e7⟩
      · have hgi : ¬ (g.toNat : Int) ≤ 1 := by omega
        go_wp2_with fail
        have hno : Hid (∀ p left, ¬ Fst b p left) := Lib.hid fun p left h => hg (HOK.out.1 (fst_ok h)).2.1
        have B7 := ((HB0.out.set_ 0 (.string ⟨#[]⟩)).set_ 1 (.string ⟨#[]⟩)).set_ 2 (.bool false)
        have x0 : (((W6.setCell ⟨w.heap.size, 0, none⟩ (.string ⟨#[]⟩)).setCell ⟨w.heap.size, 1, none⟩ (.string ⟨#[]⟩)).setCell ⟨w.heap.size, 2, none⟩ (.bool false)).cell? ⟨w.heap.size, 0, none⟩ = some (.string ⟨#[]⟩) := (B7.cell 0).trans rfl
        have x1 : (((W6.setCell ⟨w.heap.size, 0, none⟩ (.string ⟨#[]⟩)).setCell ⟨w.heap.size, 1, none⟩ (.string ⟨#[]⟩)).setCell ⟨w.heap.size, 2, none⟩ (.bool false)).cell? ⟨w.heap.size, 1, none⟩ = some (.string ⟨#[]⟩) := (B7.cell 1).trans rfl
        have x2 : (((W6.setCell ⟨w.heap.size, 0, none⟩ (.string ⟨#[]⟩)).setCell ⟨w.heap.size, 1, none⟩ (.string ⟨#[]⟩)).setCell ⟨w.heap.size, 2, none⟩ (.bool false)).cell? ⟨w.heap.size, 2, none⟩ = some (.bool false) := (B7.cell 2).trans rfl
        have e7 := ((e1.setCell (p := ⟨w.heap.size, 0, none⟩) (Nat.le_refl _) (.string ⟨#[]⟩)).setCell (p := ⟨w.heap.size, 1, none⟩) (Nat.le_refl _) (.string ⟨#[]⟩)).setCell (p := ⟨w.heap.size, 2, none⟩) (Nat.le_refl _) (.bool false)
        refine bodyPost_ret (by simp [results, Tryd.results69, go_sem, x0, x1, x2]; try rfl) rfl ?_
        exact ⟨.inr ⟨hno.out, rfl⟩, e7⟩
end Go.Proofs.YtnafegofmbhahaaDoor
