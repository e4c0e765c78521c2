/- table.first. -/
import Derived.Test.YtcgfdhgceokcnaaDoorJWalWhole14
import Derived.BigRegion
namespace Go.Proofs.YtcgfdhgceokcnaaDoor
open Go.RowKit Go.WideShapes
set_option linter.unusedVariables false
attribute [local go_sem ↓] Go.wp_at_zero Go.wp_at_succ

def byT (s : ByteArray) (i : Nat) : UInt8 := s.data.toList.getD i 0
theorem byT_get (s : ByteArray) (i : Nat) (h : i < s.size) : s[i]'h = byT s i := by
  have h2 : i < s.data.toList.length := by simpa using h
  unfold byT
  rw [List.getD_eq_getElem?_getD, List.getElem?_eq_getElem h2]
  simp
  rfl
/-- a text begins with a pair -/
def Fst (b : ByteArray) (p : Pr) (left : ByteArray) : Prop := p.key.size < 256 ∧ p.value.size < 256 ∧ b.data.toList = pairB p ++ left.data.toList
def fKey (b : ByteArray) : ByteArray := b.extract 1 (1 + (byT b 0).toNat)
def fRest (b : ByteArray) : ByteArray := b.extract (1 + (byT b 0).toNat + 2) b.size
def fN (b : ByteArray) : Nat := (byT b (1 + (byT b 0).toNat + 1)).toNat
def fG (b : ByteArray) : UInt8 := byT b (1 + (byT b 0).toNat)
def fOk (b : ByteArray) : Prop := 0 < b.size ∧ 3 + (byT b 0).toNat ≤ b.size ∧ (fG b).toNat ≤ 1 ∧ fN b ≤ (fRest b).size
def fP (b : ByteArray) : Pr := ⟨fKey b, (fRest b).extract 0 (fN b), decide ((fG b).toNat = 1)⟩
def fL (b : ByteArray) : ByteArray := (fRest b).extract (fN b) (fRest b).size
theorem list_size' (s : ByteArray) : s.data.toList.length = s.size := rfl
theorem ex_list' (s : ByteArray) (a b : Nat) : (s.extract a b).data.toList = (s.data.toList.drop a).take (b - a) := Lib.extract_data s a b
theorem ex_end' (s : ByteArray) (a : Nat) : (s.extract a s.size).data.toList = s.data.toList.drop a := by
  rw [ex_list', List.take_of_length_le (by rw [List.length_drop, list_size']; exact Nat.le_refl _)]
theorem byteOf_nat (k : UInt8) {n : Nat} (h : n = k.toNat) : byteOf (n : Int) = k := by rw [h]; exact byteOf_toNat k
theorem byteOf_size {n : Nat} (h : n < 256) : (byteOf (n : Int)).toNat = n := by
  have := toNat_byteOf (n : Int) (by omega) (by omega)
  omega
theorem gone_byte {g : UInt8} (h : g.toNat ≤ 1) : byteOf (goneN (decide (g.toNat = 1))) = g := by
  by_cases h1 : g.toNat = 1
  · rw [decide_eq_true h1]
    exact byteOf_nat g (n := 1) h1.symm
  · rw [decide_eq_false h1]
    exact byteOf_nat g (n := 0) (by omega)
theorem list_parts (l : List UInt8) (k : Nat) (h : 3 + k ≤ l.length) : l = l.getD 0 0 :: ((l.drop 1).take k ++ (l.getD (1 + k) 0 :: l.getD (1 + k + 1) 0 :: l.drop (1 + k + 2))) := by
  have e0 : l = l.getD 0 0 :: l.drop 1 := by
    cases l with
    | nil => simp at h
    | cons a l => rfl
  have e1 : l.drop 1 = (l.drop 1).take k ++ l.drop (1 + k) := by
    conv => lhs; rw [← List.take_append_drop k (l.drop 1)]
    rw [List.drop_drop]
  have e2 : l.drop (1 + k) = l.getD (1 + k) 0 :: l.drop (1 + k + 1) := by
    rw [List.drop_eq_getElem_cons (by omega : 1 + k < l.length), List.getD_eq_getElem?_getD, List.getElem?_eq_getElem (by omega : 1 + k < l.length)]
    rfl
  have e3 : l.drop (1 + k + 1) = l.getD (1 + k + 1) 0 :: l.drop (1 + k + 2) := by
    rw [List.drop_eq_getElem_cons (by omega : 1 + k + 1 < l.length), List.getD_eq_getElem?_getD, List.getElem?_eq_getElem (by omega : 1 + k + 1 < l.length)]
    rfl
  have e4 : l.drop 1 = (l.drop 1).take k ++ (l.getD (1 + k) 0 :: l.getD (1 + k + 1) 0 :: l.drop (1 + k + 2)) := by
    rw [← e3, ← e2]; exact e1
  exact e0.trans (congrArg (l.getD 0 0 :: ·) e4)
theorem fst_of {b : ByteArray} (h : fOk b) : Fst b (fP b) (fL b) := by
  obtain ⟨h0, h1, h2, h3⟩ := h
  have hk := (byT b 0).toNat_lt
  have hn : fN b < 256 := UInt8.toNat_lt _
  have hks : (fKey b).size = (byT b 0).toNat := by unfold fKey; rw [ByteArray.size_extract]; omega
  have hvs : ((fRest b).extract 0 (fN b)).size = fN b := by rw [ByteArray.size_extract]; omega
  refine ⟨by show (fKey b).size < 256; omega, by show ((fRest b).extract 0 (fN b)).size < 256; omega, ?_⟩
  have hl := list_parts b.data.toList (byT b 0).toNat (by rw [list_size']; exact h1)
  refine hl.trans ?_
  have hr : (fRest b).data.toList = b.data.toList.drop (1 + (byT b 0).toNat + 2) := ex_end' _ _
  have hv : ((fRest b).extract 0 (fN b)).data.toList ++ (fL b).data.toList = b.data.toList.drop (1 + (byT b 0).toNat + 2) := by
    unfold fL
    rw [ex_list', ex_end', List.drop_zero, Nat.sub_zero, List.take_append_drop, hr]
  have hkl : (fKey b).data.toList = (b.data.toList.drop 1).take (byT b 0).toNat := by
    unfold fKey; rw [ex_list', show 1 + (byT b 0).toNat - 1 = (byT b 0).toNat by omega]
  show _ = (byteOf (fKey b).size :: ((fKey b).data.toList ++ (byteOf (goneN (decide ((fG b).toNat = 1))) :: byteOf ((fRest b).extract 0 (fN b)).size :: ((fRest b).extract 0 (fN b)).data.toList))) ++ (fL b).data.toList
  rw [hks, hvs, byteOf_nat (byT b 0) rfl, gone_byte h2, show byteOf ((fN b : Nat) : Int) = byT b (1 + (byT b 0).toNat + 1) from byteOf_nat _ rfl, hkl, List.cons_append, List.append_assoc, List.cons_append, List.cons_append, hv]
  rfl
theorem getD_mid (a : UInt8) (K r : List UInt8) (i : Nat) : (a :: (K ++ r)).getD (1 + K.length + i) 0 = r.getD i 0 := by
  rw [show 1 + K.length + i = (K.length + i) + 1 by omega, List.getD_cons_succ, List.getD_eq_getElem?_getD, List.getElem?_append_right (by omega), show K.length + i - K.length = i by omega, List.getD_eq_getElem?_getD]
theorem pairB_cons (p : Pr) (x : List UInt8) : pairB p ++ x = byteOf p.key.size :: (p.key.data.toList ++ (byteOf (goneN p.gone) :: byteOf p.value.size :: (p.value.data.toList ++ x))) := by
  unfold pairB
  simp
theorem fst_ok {b : ByteArray} {p : Pr} {left : ByteArray} (h : Fst b p left) : fOk b := by
  obtain ⟨h1, h2, h3⟩ := h
  have hlen := congrArg List.length h3
  rw [List.length_append, pairB_len, list_size', list_size'] at hlen
  rw [pairB_cons] at h3
  have hk : byT b 0 = byteOf p.key.size := by unfold byT; rw [h3]; rfl
  have hkn : (byT b 0).toNat = p.key.size := by rw [hk, byteOf_size h1]
  have hkl : p.key.data.toList.length = p.key.size := list_size' _
  have hg : fG b = byteOf (goneN p.gone) := by
    unfold fG byT
    rw [show (b.data.toList.getD 0 0).toNat = p.key.size from hkn, h3, ← hkl]
    exact getD_mid _ _ _ 0
  have hn : fN b = p.value.size := by
    have : byT b (1 + (byT b 0).toNat + 1) = byteOf p.value.size := by
      rw [hkn]
      unfold byT
      rw [h3, ← hkl]
      exact getD_mid _ _ _ 1
    unfold fN
    rw [this, byteOf_size h2]
  refine ⟨by omega, by omega, ?_, ?_⟩
  · rw [hg]
    unfold goneN
    split <;> decide
  · rw [hn]
    unfold fRest
    rw [ByteArray.size_extract, hkn]
    omega
theorem byteOf_inj {a b : Nat} (ha : a < 256) (hb : b < 256) (h : byteOf (a : Int) = byteOf (b : Int)) : a = b := by
  rw [← byteOf_size ha, ← byteOf_size hb, h]
theorem fst_uniq {x y : List UInt8} {p q : Pr} (hp : p.key.size < 256 ∧ p.value.size < 256) (hq : q.key.size < 256 ∧ q.value.size < 256) (h : pairB p ++ x = pairB q ++ y) : p = q ∧ x = y := by
  rw [pairB_cons, pairB_cons] at h
  injection h with h1 h2
  have hk := byteOf_inj hp.1 hq.1 h1
  obtain ⟨h3, h4⟩ := List.append_inj h2 (by rw [list_size', list_size']; exact hk)
  injection h4 with h5 h6
  injection h6 with h7 h8
  have hv := byteOf_inj hp.2 hq.2 h7
  obtain ⟨h9, h10⟩ := List.append_inj h8 (by rw [list_size', list_size']; exact hv)
  obtain ⟨pk, pv, pg⟩ := p
  obtain ⟨qk, qv, qg⟩ := q
  have e1 : pk = qk := bytes_ext h3
  have e2 : pv = qv := bytes_ext h9
  have e3 : pg = qg := by
    cases pg <;> cases qg <;> first | rfl | (exact absurd (show byteOf 0 = byteOf 1 from h5) (by decide)) | (exact absurd (show byteOf 1 = byteOf 0 from h5) (by decide))
  subst e1 e2 e3
  exact ⟨rfl, h10⟩
end Go.Proofs.YtcgfdhgceokcnaaDoor

/- table.first, walked. -/
namespace Go.Proofs.YtcgfdhgceokcnaaDoor
open Go.RowKit Go.WideShapes
set_option linter.unusedVariables false
attribute [local go_sem ↓] Go.wp_at_zero Go.wp_at_succ

set_option maxRecDepth 100000 in
set_option maxHeartbeats 2000000 in
theorem First_any (b : ByteArray) (w : World) (hb : b.size ≤ 140737488355328) :
    Calls Tryd.prog 74 #[.string b] w fun e w' => ((∃ p left, Fst b p left ∧ e = .returned (.tuple #[p.val, .string left, .bool true])) ∨ ((∀ p left, ¬ Fst b p left) ∧ e = .returned (.tuple #[Value.agg #[.string ⟨#[]⟩, .string ⟨#[]⟩, .bool false], .string b, .bool false]))) ∧ Ext w w' := by
  have B0 := Bk.at_ w 30 #[.string ⟨#[]⟩, .string ⟨#[]⟩, .bool false] w.heap.size rfl
  have e0 : Ext w (w.alloc (.cells #[.string ⟨#[]⟩, .string ⟨#[]⟩, .bool false] 30)) := (Ext.refl _).alloc _
  have f0 := B0.frozen 0
  have f1 := B0.frozen 1
  have f2 := B0.frozen 2
  have p0 : (w.alloc (.cells #[.string ⟨#[]⟩, .string ⟨#[]⟩, .bool false] 30)).cell? ⟨w.heap.size, 0, none⟩ = some (.string ⟨#[]⟩) := B0.cell 0
  have p1 : (w.alloc (.cells #[.string ⟨#[]⟩, .string ⟨#[]⟩, .bool false] 30)).cell? ⟨w.heap.size, 1, none⟩ = some (.string ⟨#[]⟩) := B0.cell 1
  have p2 : (w.alloc (.cells #[.string ⟨#[]⟩, .string ⟨#[]⟩, .bool false] 30)).cell? ⟨w.heap.size, 2, none⟩ = some (.bool false) := B0.cell 2
  have hlt := B0.lt
  have HB0 := Lib.hid B0
  clear B0
  by_cases hz : b.size = 0
  · have hno : Hid (∀ p left, ¬ Fst b p left) := Lib.hid fun p left h => by have := (fst_ok h).1; omega
    obtain rfl := str_noneP hz
    clear hz
    go_enter Tryd.func74, Tryd.ntmps74
    go_wp2_with fail
    refine bodyPost_ret (by simp [results, Tryd.results74, go_sem, p0, p1, p2]; try rfl) rfl ?_
    exact ⟨.inr ⟨hno.out, rfl⟩, e0⟩
  · have hp : 0 < b.size := Nat.pos_of_ne_zero hz
    obtain ⟨s1, s2⟩ := str_someP hp
    have g0 : ∀ h : 0 < b.size, b[0]'h = byT b 0 := fun h => byT_get b 0 h
    have hoki : fOk b ↔ 3 + (byT b 0).toNat ≤ b.size ∧ (fG b).toNat ≤ 1 ∧ fN b ≤ (fRest b).size := ⟨fun h => h.2, fun h => ⟨hp, h⟩⟩
    have hfp : fP b = ⟨b.extract 1 (1 + (byT b 0).toNat), (fRest b).extract 0 (fN b), decide ((fG b).toNat = 1)⟩ := rfl
    have hfl : fL b = (fRest b).extract (fN b) (fRest b).size := rfl
    have hfr : fRest b = b.extract (1 + (byT b 0).toNat + 2) b.size := rfl
    have hfg : ∀ h : 1 + (byT b 0).toNat < b.size, b[1 + (byT b 0).toNat]'h = fG b := fun h => byT_get b _ h
    have hfn : ∀ h : 1 + (byT b 0).toNat + 1 < b.size, b[1 + (byT b 0).toNat + 1]'h = byT b (1 + (byT b 0).toNat + 1) := fun h => byT_get b _ h
    have hfN : fN b = (byT b (1 + (byT b 0).toNat + 1)).toNat := rfl
    have HOK := Lib.hid hoki
    have HFP := Lib.hid hfp
    have HFL := Lib.hid hfl
    obtain ⟨k, HKK⟩ : ∃ k, Hid (byT b 0 = k) := ⟨_, rfl⟩
    rw [HKK.out] at g0 HOK HFP hfr hfg hfn hfN
    obtain ⟨nb, HNB⟩ : ∃ x, Hid (byT b (1 + k.toNat + 1) = x) := ⟨_, rfl⟩
    rw [HNB.out] at hfn hfN
    obtain ⟨g, HGG⟩ : ∃ g, Hid (fG b = g) := ⟨_, rfl⟩
    have HNN := Lib.hid hfN
    clear hfN
    obtain ⟨rs, HRR⟩ : ∃ x, Hid (fRest b = x) := ⟨_, rfl⟩
    rw [HGG.out, HNN.out, HRR.out] at HOK
    rw [HGG.out, HNN.out, HRR.out] at HFP
    rw [HNN.out, HRR.out] at HFL
    rw [HGG.out] at hfg
    rw [HRR.out] at hfr
    have hk := k.toNat_lt
    have hnb := nb.toNat_lt
    have w1 : IntKind.i64.wrap (3 + (k.toNat : Int)) = 3 + (k.toNat : Int) := IntWalk.i64_in _ (by omega)
    clear hoki hfp hfl hz
    by_cases hA : b.size < 3 + k.toNat
    · have hno : Hid (∀ p left, ¬ Fst b p left) := Lib.hid fun p left h => by have := (HOK.out.1 (fst_ok h)).1; omega
      have hAi : (b.size : Int) < 3 + (k.toNat : Int) := by omega
      clear hfg hfn hfr
      go_enter Tryd.func74, Tryd.ntmps74
      go_wp2_with fail
      refine bodyPost_ret (by simp [results, Tryd.results74, go_sem, p0, p1, p2]; try rfl) rfl ?_
      exact ⟨.inr ⟨hno.out, rfl⟩, e0⟩
    · have hAi : ¬ (b.size : Int) < 3 + (k.toNat : Int) := by omega
      have w2 : IntKind.i64.wrap (1 + (k.toNat : Int)) = 1 + (k.toNat : Int) := IntWalk.i64_in _ (by omega)
      have w3 : IntKind.i64.wrap (1 + (k.toNat : Int) + 2) = 1 + (k.toNat : Int) + 2 := IntWalk.i64_in _ (by omega)
      have w4 : IntKind.i64.wrap (1 + (k.toNat : Int) + 1) = 1 + (k.toNat : Int) + 1 := IntWalk.i64_in _ (by omega)
      have t2 : (1 + (k.toNat : Int)).toNat = 1 + k.toNat := by omega
      have t3 : (1 + (k.toNat : Int) + 2).toNat = 1 + k.toNat + 2 := by omega
      have t4 : (1 + (k.toNat : Int) + 1).toNat = 1 + k.toNat + 1 := by omega
      have i1 : (1 : Int) ≤ 1 + (k.toNat : Int) := by omega
      have i2 : 1 + (k.toNat : Int) ≤ (b.size : Int) := by omega
      have i3 : 1 + (k.toNat : Int) < (b.size : Int) := by omega
      have i4 : 0 ≤ 1 + (k.toNat : Int) := by omega
      have i5 : 1 + (k.toNat : Int) + 2 ≤ (b.size : Int) := by omega
      have i6 : 1 + (k.toNat : Int) + 1 < (b.size : Int) := by omega
      have i7 : 0 ≤ 1 + (k.toNat : Int) + 2 := by omega
      have i8 : 0 ≤ 1 + (k.toNat : Int) + 1 := by omega
      have i9 : 1 + k.toNat < b.size := by omega
      have i10 : 1 + k.toNat + 1 < b.size := by omega
      have j1 := hfg i9
      have j2 := hfn i10
      go_enter Tryd.func74, Tryd.ntmps74
      have hrs : rs.size = b.size - (1 + k.toNat + 2) := by rw [hfr, ByteArray.size_extract]; omega
      have HRS := Lib.hid hrs
      have HFR := Lib.hid hfr
      have HKB := Lib.hid (show 3 + k.toNat ≤ b.size by omega)
      clear hrs hfr
      obtain ⟨gb, HGB⟩ : ∃ x, Hid (((g.toNat : Int) == 1) = x) := ⟨_, rfl⟩
      go_wp2_with fail
      go_region
      have B1 := Bk.at_ (w.alloc (.cells #[.string ⟨#[]⟩, .string ⟨#[]⟩, .bool false] 30)) 30 #[.string (b.extract 1 (1 + k.toNat)), .string ⟨#[]⟩, .bool gb] (w.heap.size + 1) (by simp)
      have B00 := HB0.out.alloc (.cells #[.string (b.extract 1 (1 + k.toNat)), .string ⟨#[]⟩, .bool gb] 30)
      have e1 : Ext w ((w.alloc (.cells #[.string ⟨#[]⟩, .string ⟨#[]⟩, .bool false] 30)).alloc (.cells #[.string (b.extract 1 (1 + k.toNat)), .string ⟨#[]⟩, .bool gb] 30)).drew := (e0.alloc _).drew
      have B1' := B1.drew
      have B00' := B00.drew
      rw [HGB.out]
      generalize ((w.alloc (.cells #[.string ⟨#[]⟩, .string ⟨#[]⟩, .bool false] 30)).alloc (.cells #[.string (b.extract 1 (1 + k.toNat)), .string ⟨#[]⟩, .bool gb] 30)).drew = W6 at *
      clear B1 B00 HB0 e0 f0 f1 f2 p0 p1 p2 hlt
      have z0 : W6.cell? ⟨w.heap.size, 0, none⟩ = some (.string ⟨#[]⟩) := B00'.cell 0
      have z1 : W6.cell? ⟨w.heap.size, 1, none⟩ = some (.string ⟨#[]⟩) := B00'.cell 1
      have z2 : W6.cell? ⟨w.heap.size, 2, none⟩ = some (.bool false) := B00'.cell 2
      have f0 := B00'.frozen 0
      have f1 := B00'.frozen 1
      have f2 := B00'.frozen 2
      have c0 : W6.cell? ⟨w.heap.size + 1, 0, none⟩ = some (.string (b.extract 1 (1 + k.toNat))) := B1'.cell 0
      have c1 : W6.cell? ⟨w.heap.size + 1, 1, none⟩ = some (.string ⟨#[]⟩) := B1'.cell 1
      have c2 : W6.cell? ⟨w.heap.size + 1, 2, none⟩ = some (.bool gb) := B1'.cell 2
      have d1 := B1'.frozen 1
      have hl1 := B1'.lt
      have HB1 := Lib.hid B1'
      have HB0 := Lib.hid B00'
      clear B1' B00'
      by_cases hg : g.toNat ≤ 1
      · have hgi : (g.toNat : Int) ≤ 1 := by omega
        by_cases hn : nb.toNat ≤ rs.size
        · have hni : (nb.toNat : Int) ≤ ((b.size - (1 + k.toNat + 2) : Nat) : Int) := by have := HRS.out; omega
          go_wp2_with fail
          go_region
          have hsz2 : b.size - (1 + k.toNat + 2) = rs.size := HRS.out.symm
          have hfst : Fst b ⟨b.extract 1 (1 + k.toNat), rs.extract 0 nb.toNat, gb⟩ (rs.extract nb.toNat rs.size) := by
            have h := fst_of (HOK.out.2 ⟨HKB.out, hg, hn⟩)
            rw [HFP.out, HFL.out] at h
            have hgb : decide (g.toNat = 1) = gb := by
              rw [← HGB.out]
              by_cases h1 : g.toNat = 1
              · rw [decide_eq_true h1, h1]; rfl
              · rw [decide_eq_false h1]
                exact (beq_eq_false_iff_ne.2 (fun h => h1 (by omega))).symm
            rw [hgb] at h
            exact h
          have HFST := Lib.hid hfst
          rw [← HFR.out, hsz2]
          clear hfst hsz2
          generalize rs.extract 0 nb.toNat = vv at *
          generalize rs.extract nb.toNat rs.size = lf at *
          generalize b.extract 1 (1 + k.toNat) = kk at *
          have B7 := (((HB0.out.far (p := ⟨w.heap.size + 1, 1, none⟩) (by show w.heap.size ≠ w.heap.size + 1; omega) (.string vv)).set_ 0 (.string kk)).set_ 1 (.string vv)).set_ 2 (.bool gb)
          have x0 : ((((W6.setCell ⟨w.heap.size + 1, 1, none⟩ (.string vv)).setCell ⟨w.heap.size, 0, none⟩ (.string kk)).setCell ⟨w.heap.size, 1, none⟩ (.string vv)).setCell ⟨w.heap.size, 2, none⟩ (.bool gb)).drew.cell? ⟨w.heap.size, 0, none⟩ = some (.string kk) := (B7.cell 0).trans rfl
          have x1 : ((((W6.setCell ⟨w.heap.size + 1, 1, none⟩ (.string vv)).setCell ⟨w.heap.size, 0, none⟩ (.string kk)).setCell ⟨w.heap.size, 1, none⟩ (.string vv)).setCell ⟨w.heap.size, 2, none⟩ (.bool gb)).drew.cell? ⟨w.heap.size, 1, none⟩ = some (.string vv) := (B7.cell 1).trans rfl
          have x2 : ((((W6.setCell ⟨w.heap.size + 1, 1, none⟩ (.string vv)).setCell ⟨w.heap.size, 0, none⟩ (.string kk)).setCell ⟨w.heap.size, 1, none⟩ (.string vv)).setCell ⟨w.heap.size, 2, none⟩ (.bool gb)).drew.cell? ⟨w.heap.size, 2, none⟩ = some (.bool gb) := (B7.cell 2).trans rfl
          have e7 := ((((e1.setCell (p := ⟨w.heap.size + 1, 1, none⟩) (Nat.le_succ _) (.string vv)).setCell (p := ⟨w.heap.size, 0, none⟩) (Nat.le_refl _) (.string kk)).setCell (p := ⟨w.heap.size, 1, none⟩) (Nat.le_refl _) (.string vv)).setCell (p := ⟨w.heap.size, 2, none⟩) (Nat.le_refl _) (.bool gb)).drew
          go_wp2_with fail
          refine bodyPost_ret (by simp [results, Tryd.results74, go_sem, x0, x1, x2]; try rfl) rfl ?_
          exact ⟨.inl ⟨_, _, HFST.out, rfl⟩, e7⟩
        · have hni : ¬ (nb.toNat : Int) ≤ ((b.size - (1 + k.toNat + 2) : Nat) : Int) := by have := HRS.out; omega
          go_wp2_with fail
          have hno : Hid (∀ p left, ¬ Fst b p left) := Lib.hid fun p left h => hn (HOK.out.1 (fst_ok h)).2.2
          have B7 := ((HB0.out.set_ 0 (.string ⟨#[]⟩)).set_ 1 (.string ⟨#[]⟩)).set_ 2 (.bool false)
          have x0 : (((W6.setCell ⟨w.heap.size, 0, none⟩ (.string ⟨#[]⟩)).setCell ⟨w.heap.size, 1, none⟩ (.string ⟨#[]⟩)).setCell ⟨w.heap.size, 2, none⟩ (.bool false)).cell? ⟨w.heap.size, 0, none⟩ = some (.string ⟨#[]⟩) := (B7.cell 0).trans rfl
          have x1 : (((W6.setCell ⟨w.heap.size, 0, none⟩ (.string ⟨#[]⟩)).setCell ⟨w.heap.size, 1, none⟩ (.string ⟨#[]⟩)).setCell ⟨w.heap.size, 2, none⟩ (.bool false)).cell? ⟨w.heap.size, 1, none⟩ = some (.string ⟨#[]⟩) := (B7.cell 1).trans rfl
          have x2 : (((W6.setCell ⟨w.heap.size, 0, none⟩ (.string ⟨#[]⟩)).setCell ⟨w.heap.size, 1, none⟩ (.string ⟨#[]⟩)).setCell ⟨w.heap.size, 2, none⟩ (.bool false)).cell? ⟨w.heap.size, 2, none⟩ = some (.bool false) := (B7.cell 2).trans rfl
          have e7 := ((e1.setCell (p := ⟨w.heap.size, 0, none⟩) (Nat.le_refl _) (.string ⟨#[]⟩)).setCell (p := ⟨w.heap.size, 1, none⟩) (Nat.le_refl _) (.string ⟨#[]⟩)).setCell (p := ⟨w.heap.size, 2, none⟩) (Nat.le_refl _) (.bool false)
          refine bodyPost_ret (by simp [results, Tryd.results74, go_sem, x0, x1, x2]; try rfl) rfl ?_
          exact ⟨.inr ⟨hno.out, rfl⟩, e7⟩
      · have hgi : ¬ (g.toNat : Int) ≤ 1 := by omega
        go_wp2_with fail
        have hno : Hid (∀ p left, ¬ Fst b p left) := Lib.hid fun p left h => hg (HOK.out.1 (fst_ok h)).2.1
        have B7 := ((HB0.out.set_ 0 (.string ⟨#[]⟩)).set_ 1 (.string ⟨#[]⟩)).set_ 2 (.bool false)
        have x0 : (((W6.setCell ⟨w.heap.size, 0, none⟩ (.string ⟨#[]⟩)).setCell ⟨w.heap.size, 1, none⟩ (.string ⟨#[]⟩)).setCell ⟨w.heap.size, 2, none⟩ (.bool false)).cell? ⟨w.heap.size, 0, none⟩ = some (.string ⟨#[]⟩) := (B7.cell 0).trans rfl
        have x1 : (((W6.setCell ⟨w.heap.size, 0, none⟩ (.string ⟨#[]⟩)).setCell ⟨w.heap.size, 1, none⟩ (.string ⟨#[]⟩)).setCell ⟨w.heap.size, 2, none⟩ (.bool false)).cell? ⟨w.heap.size, 1, none⟩ = some (.string ⟨#[]⟩) := (B7.cell 1).trans rfl
        have x2 : (((W6.setCell ⟨w.heap.size, 0, none⟩ (.string ⟨#[]⟩)).setCell ⟨w.heap.size, 1, none⟩ (.string ⟨#[]⟩)).setCell ⟨w.heap.size, 2, none⟩ (.bool false)).cell? ⟨w.heap.size, 2, none⟩ = some (.bool false) := (B7.cell 2).trans rfl
        have e7 := ((e1.setCell (p := ⟨w.heap.size, 0, none⟩) (Nat.le_refl _) (.string ⟨#[]⟩)).setCell (p := ⟨w.heap.size, 1, none⟩) (Nat.le_refl _) (.string ⟨#[]⟩)).setCell (p := ⟨w.heap.size, 2, none⟩) (Nat.le_refl _) (.bool false)
        refine bodyPost_ret (by simp [results, Tryd.results74, go_sem, x0, x1, x2]; try rfl) rfl ?_
        exact ⟨.inr ⟨hno.out, rfl⟩, e7⟩
end Go.Proofs.YtcgfdhgceokcnaaDoor

/- table.Open: plain. -/
namespace Go.Proofs.YtcgfdhgceokcnaaDoor
open Go.RowKit Go.WideShapes
set_option linter.unusedVariables false

/-- a table of pairs -/
def opn (es : List Pr) (b : ByteArray) : Prop := tblK es = 0 ∧ tabB es = b
def Ok256 (es : List Pr) : Prop := ∀ p ∈ es, p.key.size < 256 ∧ p.value.size < 256
def cutB (b : ByteArray) : ByteArray := b.extract 0 (b.size - 8)
theorem ok256_of {es : List Pr} (h : ∀ p ∈ es, PrOk p) : Ok256 es := fun p hp => by
  have h1 := h p hp
  have h2 := (keyK_zero.1 h1.1).2
  have h3 := h1.2.1
  omega
theorem tabB_list (es : List Pr) : (tabB es).data.toList = bodyB es ++ (fourB es.length ++ fourB (sumL (tabhB es))) := by
  unfold tabB tabhB
  simp
theorem tabB_size (es : List Pr) : (tabB es).size = (bodyB es).length + 8 := by
  rw [← list_size', tabB_list, List.length_append, List.length_append]
  rfl
theorem opn_cut {es : List Pr} {b : ByteArray} (h : opn es b) : 8 ≤ b.size ∧ (cutB b).data.toList = bodyB es := by
  obtain ⟨_, rfl⟩ := h
  have hs := tabB_size es
  refine ⟨by omega, ?_⟩
  unfold cutB
  rw [ex_list', List.drop_zero, Nat.sub_zero, hs, tabB_list, show (bodyB es).length + 8 - 8 = (bodyB es).length by omega, List.take_left']
  rfl
theorem body_compl : ∀ {es es0 : List Pr} {rest : List UInt8}, Ok256 es → Ok256 es0 → bodyB es0 = bodyB es ++ rest → ∃ t, es0 = es ++ t ∧ rest = bodyB t
  | [], es0, rest, _, _, h => ⟨es0, rfl, by simpa [bodyB] using h.symm⟩
  | p :: es, [], rest, _, _, h => by
    have h1 := congrArg List.length h
    simp only [bodyB, List.flatMap_nil, List.flatMap_cons, List.length_nil, List.length_append, pairB_len] at h1
    omega
  | p :: es, q :: es0, rest, hp, hq, h => by
    have h1 : pairB q ++ bodyB es0 = pairB p ++ (bodyB es ++ rest) := by
      have := h
      simp only [bodyB, List.flatMap_cons, List.append_assoc] at this ⊢
      exact this
    obtain ⟨rfl, h2⟩ := fst_uniq (hq q (List.mem_cons_self ..)) (hp p (List.mem_cons_self ..)) h1
    obtain ⟨t, rfl, h3⟩ := body_compl (fun r hr => hp r (List.mem_cons_of_mem _ hr)) (fun r hr => hq r (List.mem_cons_of_mem _ hr)) h2
    exact ⟨t, rfl, h3⟩
theorem body_count (es : List Pr) : 3 * es.length ≤ (bodyB es).length := by
  induction es with
  | nil => simp [bodyB]
  | cons p es ih =>
    unfold bodyB at ih ⊢
    rw [List.flatMap_cons, List.length_append, pairB_len, List.length_cons]
    omega
theorem open_stuck {b rest : ByteArray} {es : List Pr} (h256 : Ok256 es) (h : (cutB b).data.toList = bodyB es ++ rest.data.toList) (hne : 0 < rest.size) (hno : ∀ p left, ¬ Fst rest p left) : ∀ es0, ¬ opn es0 b := by
  intro es0 ho
  have h0 := ok256_of (tblK_zero.1 ho.1).2
  obtain ⟨t, rfl, h2⟩ := body_compl h256 h0 ((opn_cut ho).2.symm.trans h)
  cases t with
  | nil =>
    have h3 : rest.data.toList.length = 0 := by rw [h2]; rfl
    rw [list_size'] at h3
    omega
  | cons q t =>
    refine hno q ⟨(bodyB t).toArray⟩ ⟨(h0 q (by simp)).1, (h0 q (by simp)).2, ?_⟩
    rw [h2]
    rfl
theorem open_last {b rest : ByteArray} {es : List Pr} (h256 : Ok256 es) (h : (cutB b).data.toList = bodyB es ++ rest.data.toList) (hne : rest.size = 0) (hno : ¬ opn es b) : ∀ es0, ¬ opn es0 b := by
  intro es0 ho
  have h0 := ok256_of (tblK_zero.1 ho.1).2
  obtain ⟨t, rfl, h2⟩ := body_compl h256 h0 ((opn_cut ho).2.symm.trans h)
  cases t with
  | nil => rw [List.append_nil] at ho; exact hno ho
  | cons q t =>
    have h3 := congrArg List.length h2
    rw [list_size'] at h3
    unfold bodyB at h3
    rw [List.flatMap_cons, List.length_append, pairB_len] at h3
    omega
theorem open_step {b rest left : ByteArray} {es : List Pr} {p : Pr} (h256 : Ok256 es) (h : (cutB b).data.toList = bodyB es ++ rest.data.toList) (hf : Fst rest p left) : Ok256 (es ++ [p]) ∧ (cutB b).data.toList = bodyB (es ++ [p]) ++ left.data.toList ∧ left.size < rest.size := by
  refine ⟨fun q hq => ?_, ?_, ?_⟩
  · rcases List.mem_append.1 hq with hq | hq
    · exact h256 q hq
    · obtain rfl : q = p := by simpa using hq
      exact ⟨hf.1, hf.2.1⟩
  · rw [h, hf.2.2, bodyB_snoc, List.append_assoc]
  · have := congrArg List.length hf.2.2
    rw [List.length_append, pairB_len, list_size', list_size'] at this
    omega
theorem open_count {b rest : ByteArray} {es : List Pr} (h : (cutB b).data.toList = bodyB es ++ rest.data.toList) : 3 * es.length ≤ b.size ∧ rest.size ≤ b.size := by
  have h1 := congrArg List.length h
  rw [List.length_append, list_size', list_size'] at h1
  have h2 := body_count es
  have h3 : (cutB b).size ≤ b.size := by unfold cutB; rw [ByteArray.size_extract]; omega
  omega
theorem opn_uniq {es es0 : List Pr} {b : ByteArray} (h : opn es b) (h0 : opn es0 b) : es = es0 := by
  have k := ok256_of (tblK_zero.1 h.1).2
  have k0 := ok256_of (tblK_zero.1 h0.1).2
  obtain ⟨t, rfl, h2⟩ := body_compl (rest := []) k k0 (by rw [List.append_nil, ← (opn_cut h).2, ← (opn_cut h0).2])
  cases t with
  | nil => simp
  | cons q t =>
    have h3 := congrArg List.length h2
    unfold bodyB at h3
    rw [List.flatMap_cons, List.length_append, pairB_len] at h3
    simp at h3
    omega
end Go.Proofs.YtcgfdhgceokcnaaDoor
