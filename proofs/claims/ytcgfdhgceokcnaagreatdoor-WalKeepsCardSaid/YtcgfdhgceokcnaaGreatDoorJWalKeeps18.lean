/- table.Build. -/
import Derived.Test.YtcgfdhgceokcnaaGreatDoorJWalKeeps17
import Derived.Test.YtcgfdhgceokcnaaGreatDoorJWalKeeps1
import Derived.BigRegion
namespace Go.Proofs.YtcgfdhgceokcnaaGreatDoor
open Go.RowKit Go.WideShapes
set_option linter.unusedVariables false
attribute [local go_sem ↓] Go.wp_at_zero Go.wp_at_succ

def goneN (b : Bool) : Int := if b = true then 1 else 0
def pairB (p : Pr) : List UInt8 := byteOf p.key.size :: (p.key.data.toList ++ (byteOf (goneN p.gone) :: byteOf p.value.size :: p.value.data.toList))
def bodyB (es : List Pr) : List UInt8 := es.flatMap pairB
def tabhB (es : List Pr) : List UInt8 := bodyB es ++ fourB es.length
def tabB (es : List Pr) : ByteArray := ⟨(tabhB es ++ fourB (sumL (tabhB es))).toArray⟩
def tabR (es : List Pr) : ByteArray := if tblK es = 0 then tabB es else ⟨#[]⟩
theorem pairB_len (p : Pr) : (pairB p).length = p.key.size + p.value.size + 3 := by
  unfold pairB
  simp only [List.length_cons, List.length_append]
  show p.key.size + (p.value.size + 1 + 1) + 1 = _
  omega
theorem bodyB_snoc (es : List Pr) (p : Pr) : bodyB (es ++ [p]) = bodyB es ++ pairB p := by simp [bodyB]
theorem bodyB_len {es : List Pr} (h : ∀ p ∈ es, PrOk p) : (bodyB es).length ≤ 403 * es.length := by
  induction es with
  | nil => simp [bodyB]
  | cons p es ih =>
    have h1 := ih fun q hq => h q (List.mem_cons_of_mem _ hq)
    have h2 := h p (List.mem_cons_self ..)
    have h3 := (keyK_zero.1 h2.1).2
    unfold bodyB at h1 ⊢
    rw [List.flatMap_cons, List.length_append, pairB_len, List.length_cons]
    have := h2.2.1
    omega
theorem pair_cells {p : Pr} (h : PrOk p) (l : List UInt8) :
    bcells (l ++ pairB p) = bcells l ++ [.int .u8 (p.key.size : Int)] ++ Lib.strCells p.key ++ [.int .u8 (goneN p.gone), .int .u8 (p.value.size : Int)] ++ Lib.strCells p.value := by
  have h3 := (keyK_zero.1 h.1).2
  have h4 := h.2.1
  have hg : 0 ≤ goneN p.gone ∧ goneN p.gone < 256 := by unfold goneN; split <;> omega
  rw [bcells_append]
  unfold pairB bcells Lib.strCells
  simp only [List.map_cons, List.map_append]
  rw [toNat_byteOf _ (by omega) (by omega), toNat_byteOf _ hg.1 hg.2, toNat_byteOf _ (by omega) (by omega)]
  simp
theorem str_b {w : World} {base : Nat} {v : Value} {l : List UInt8} (h : OwnB w base v l) (hn : 0 < l.length) :
    ∃ ad c, v = .slice (some ad) l.length c ∧ (convert 61 9 v).run Tryz.prog w = .ok (.string ⟨l.toArray⟩) w := by
  obtain ⟨A, c, rfl, -, R, -⟩ := own_rd h
  obtain ⟨ad, rfl, -, hc⟩ := R.2.2 hn
  refine ⟨ad, c, rfl, ?_⟩
  have e : bcells l = (l.map fun b => (b.toNat : Int)).map (Value.int .u8) := by simp [bcells]
  have h2 := run_conv_cells w 61 9 5 ad c (l.map fun b => (b.toNat : Int)) Tryz.underlying61 Tryz.underlying5 Tryz.underlying9 (by rw [← e]; exact hc)
  rw [List.length_map] at h2
  rw [h2, List.map_map]
  have h3 : (byteOf ∘ fun (b : UInt8) => (b.toNat : Int)) = id := by funext b; exact byteOf_toNat b
  rw [h3, List.map_id]

set_option maxRecDepth 100000 in
set_option maxHeartbeats 2000000 in
theorem Build_any (A : Option Addr) (n c : Nat) (es : List Pr) (w : World) (hr : Rd w 3 A n c (es.flatMap Pr.cells)) (hm : c ≤ maxLen) (hn : n ≤ 200000000) :
    Calls Tryz.prog 141 #[.slice A n c] w fun e w' => e = .returned (.tuple #[.string (tabR es), errR (tblK es)]) ∧ Ext w w' := by
  obtain ⟨hE, hN, hG⟩ := errR_rules
  have hms : c ≤ 9223372036854775807 := by unfold maxLen at hm; omega
  have hl := hr.2.1
  have HX := Lib.hid hr.lenP
  obtain ⟨k, HK⟩ : ∃ x, Hid (tblK es = x) := ⟨_, rfl⟩
  obtain ⟨rs, HRS⟩ : ∃ x, Hid (tabR es = x) := ⟨_, rfl⟩
  rw [HRS.out, HK.out]
  go_enter Tryz.func141, Tryz.ntmps141
  go_wp2_with fail
  refine (TabCheck_any A n c es _ hr hm).mono ?_
  rw [HK.out]
  rintro _ w1 ⟨rfl, hb1⟩
  by_cases hk : k = 0
  · subst hk
    rw [errR_0]
    have HOK := Lib.hid (tblK_zero.1 HK.out).2
    have hrs : rs = tabB es := by rw [← HRS.out]; exact if_pos HK.out
    subst hrs
    clear HRS
    have hr1 := hr.ext hb1
    have H0 : Hid (OwnB w1 w1.heap.size (.slice none 0 0) (bodyB (es.take 0))) := own_nil _ _ _ _
    clear hr
    go_wp2_with fail
    go_loopw [5, 7, 8, 16] (fun b _ _ x wr => ∃ j : Nat, x = .int .i64 j ∧ j ≤ n ∧ Ext w1 wr ∧ Hid (OwnB wr w1.heap.size b (bodyB (es.take j)))) (fun _ _ _ x _ => n - (intOf x).toNat)
    case atStart => exact ⟨0, rfl, Nat.zero_le _, Ext.refl _, H0⟩
    case round =>
      obtain ⟨j, rfl, hj, hbw, hown⟩ := hrel
      by_cases hc : j < n
      · have hgj := List.getElem?_eq_getElem (l := es) (i := j) (by rw [HX.out]; exact hc)
        obtain ⟨ad, rfl, hb, c0, c1, c2⟩ := (hr1.ext hbw).getP hgj
        have hok := HOK.out _ (List.mem_of_getElem? hgj)
        have hlen : (bodyB (es.take j)).length ≤ 403 * j := by
          have h1 := bodyB_len (es := es.take j) fun q hq => HOK.out q (List.mem_of_mem_take hq)
          have h2 : (es.take j).length ≤ j := by rw [List.length_take]; omega
          omega
        have hnext : bodyB (es.take (j + 1)) = bodyB (es.take j) ++ pairB (es[j]'(by rw [HX.out]; exact hc)) := by
          rw [List.take_succ_eq_append_getElem (by rw [HX.out]; exact hc), bodyB_snoc]
        generalize es[j]'(by rw [HX.out]; exact hc) = p at *
        have hpl := pairB_len p
        have hpc := pair_cells hok (bodyB (es.take j))
        obtain ⟨pk, pv, pg⟩ := p
        have hk3 := (keyK_zero.1 hok.1).2
        have hv3 := hok.2.1
        simp only at c0 c1 c2 hpl hpc hk3 hv3
        obtain ⟨L, HL⟩ : ∃ L, Hid (bodyB (es.take j) = L) := ⟨_, rfl⟩
        rw [HL.out] at hlen hpc hown hnext
        have HNX := Lib.hid hnext
        have HPL := Lib.hid hpl
        have HPC := Lib.hid hpc
        obtain ⟨gb, HGB⟩ : ∃ x, Hid (goneN pg = x) := ⟨_, rfl⟩
        rw [HGB.out] at HPC
        have PB : Bk (wr.alloc (.cells #[.string pk, .string pv, .bool pg] 31)) wr.heap.size 31 #[.string pk, .string pv, .bool pg] := Bk.at_ _ _ _ _ rfl
        have e3 : Ext w1 (wr.alloc (.cells #[.string pk, .string pv, .bool pg] 31)) := hbw.alloc _
        have own3 := World.ownsRow.alloc hown.out (.cells #[.string pk, .string pv, .bool pg] 31)
        clear hgj hnext hpl hpc hok hown
        go_upto_if 21 with (fail)
        generalize wr.alloc (.cells #[.string pk, .string pv, .bool pg] 31) = W3 at *
        obtain ⟨g, HGN⟩ : ∃ g, wr.heap.size = g := ⟨_, rfl⟩
        rw [HGN] at PB
        rw [HGN]
        clear HGN hbw c0 c1 c2 hb
        go_cut [8] (fun v wc => v = .int .u8 gb ∧ W3 = wc)
        case first =>
          as_aux_lemma =>
          have hgb := HGB.out
          cases pg with
          | true =>
            have : gb = 1 := by rw [← hgb]; rfl
            subst this
            go_wp2_with fail
            go_meet
            exact ⟨rfl, rfl⟩
          | false =>
            have : gb = 0 := by rw [← hgb]; rfl
            subst this
            go_wp2_with fail
            go_meet
            exact ⟨rfl, rfl⟩
        case rest =>
        as_aux_lemma =>
        obtain ⟨rfl, rfl⟩ := hcut
        have hk256 : (pk.size : Int) % 256 = (pk.size : Int) := by omega
        have hv256 : (pv.size : Int) % 256 = (pv.size : Int) := by omega
        have hbase : w1.heap.size ≤ W3.heap.size := e3.size
        have x0 : W3.cell? ⟨g, 0, none⟩ = some (.string pk) := PB.cell 0
        have x1 : W3.cell? ⟨g, 1, none⟩ = some (.string pv) := PB.cell 1
        have glt := PB.lt
        obtain ⟨i0, hi0, hz0, hz1, hz2⟩ := info_parts info_u8t
        have PA := PB.alloc (.cells #[.int .u8 (pk.size : Int)] 5)
        have eA : Ext w1 (W3.alloc (.cells #[.int .u8 (pk.size : Int)] 5)) := e3.alloc _
        have oA := World.ownsRow.alloc own3 (.cells #[.int .u8 (pk.size : Int)] 5)
        have hbA := eA.size
        have HPA := Lib.hid PA
        have HOA := Lib.hid oA
        clear PB PA oA own3
        go_wp2_with (first
          | (at_builtin; refine Lib.wpList_append_own_string _ rfl _ _ 61 9 rfl w1.heap.size 5 i0 Tryz.underlying61 Tryz.underlying9 hi0 hz0 hz1 hz2 v6 _ _ rfl HO6.out pv rfl (by unfold maxLen; omega) (by omega) hb6 ?_; intro v7 w7 own7 hg7 hH7; clear hH7; have e7 := own_grown HO6.out hg7 w1 (Nat.le_refl _) e6)
          | (at_builtin; refine wpList_append_own _ rfl _ _ 61 rfl w1.heap.size 5 i0 _ 1 1 Tryz.underlying61 hi0 hz0 hz1 hz2 rfl (by omega) v5 _ _ rfl HOB.out ⟨w5.heap.size, 0, none⟩ 2 2 [.int .u8 gb, .int .u8 (pv.size : Int)] (by rfl) rfl (news_new w5 _ _ _ rfl) (by intro u hu; simp at hu; rcases hu with rfl | rfl <;> rfl) (by unfold maxLen; omega) (by omega) hbB ?_; intro v6 w6 own6 hg6 hH6; clear hH6; have e6 := own_grown HOB.out hg6 w1 (Nat.le_refl _) eB; have P6 := HPB.out.kept hg6 (own_type HOB.out HPB.out (by decide)); have x1 : w6.cell? ⟨g, 1, none⟩ = some (.string pv) := P6.cell 1; have hb6 := e6.size; have HO6 := Lib.hid own6; clear own6 P6)
          | (at_builtin; refine Lib.wpList_append_own_string _ rfl _ _ 61 9 rfl w1.heap.size 5 i0 Tryz.underlying61 Tryz.underlying9 hi0 hz0 hz1 hz2 v4 _ _ rfl HO4.out pk rfl (by unfold maxLen; omega) (by omega) hb4 ?_; intro v5 w5 own5 hg5 hH5; clear hH5; have e5 := own_grown HO4.out hg5 w1 (Nat.le_refl _) e4; have P5 := HP4.out.kept hg5 (own_type HO4.out HP4.out (by decide)); have x1 : w5.cell? ⟨g, 1, none⟩ = some (.string pv) := P5.cell 1; have eB : Ext w1 (w5.alloc (.cells #[.int .u8 gb, .int .u8 (pv.size : Int)] 5)) := e5.alloc _; have HPB := Lib.hid (P5.alloc (.cells #[.int .u8 gb, .int .u8 (pv.size : Int)] 5)); have HOB := Lib.hid (World.ownsRow.alloc own5 (.cells #[.int .u8 gb, .int .u8 (pv.size : Int)] 5)); have hbB := eB.size; clear P5 own5)
          | (at_builtin; refine wpList_append_own _ rfl _ _ 61 rfl w1.heap.size 5 i0 _ 1 1 Tryz.underlying61 hi0 hz0 hz1 hz2 rfl (by omega) u5 _ _ rfl HOA.out ⟨W3.heap.size, 0, none⟩ 1 1 [.int .u8 (pk.size : Int)] (by rfl) rfl (news_new W3 _ _ _ rfl) (by intro u hu; simp at hu; subst hu; rfl) (by unfold maxLen; omega) (by omega) hbA ?_; intro v4 w4 own4 hg4 hH4; clear hH4; have e4 := own_grown HOA.out hg4 w1 (Nat.le_refl _) eA; have P4 := HPA.out.kept hg4 (own_type HOA.out HPA.out (by decide)); have x0 : w4.cell? ⟨g, 0, none⟩ = some (.string pk) := P4.cell 0; have hb4 := e4.size; have HP4 := Lib.hid P4; have HO4 := Lib.hid own4; clear own4 P4))
        go_roundw
        case rel => exact ⟨j + 1, by go_num, by omega, e7, by
          show OwnB w7 _ _ _
          unfold OwnB
          rw [HNX.out, HPC.out, List.length_append, HPL.out]
          rw [show L.length + (pk.size + pv.size + 3) = L.length + 1 + pk.size + 2 + pv.size by omega]
          exact own7⟩
        case measure => simp [intOf]; omega
      · obtain rfl : j = n := by omega
        have hlen : (bodyB es).length ≤ 403 * j := by
          have h1 := bodyB_len HOK.out
          rw [HX.out] at h1
          exact h1
        rw [List.take_of_length_le (by rw [HX.out]; exact Nat.le_refl _)] at hown
        have hhl : (tabhB es).length = (bodyB es).length + 4 := by unfold tabhB; rw [List.length_append]; rfl
        have hhd : bodyB es ++ fourB (j : Int) = tabhB es := by unfold tabhB; rw [HX.out]
        have hfin : tabB es = ⟨(tabhB es ++ fourB (sumL (tabhB es))).toArray⟩ := rfl
        have HFIN := Lib.hid hfin
        have hfl : (tabhB es ++ fourB (sumL (tabhB es))).length = (tabhB es).length + 4 := by rw [List.length_append]; rfl
        have hsb := sumL_bd (tabhB es)
        have HHD := Lib.hid hhd
        obtain ⟨hd, HD⟩ : ∃ x, Hid (tabhB es = x) := ⟨_, rfl⟩
        obtain ⟨tb, HTB⟩ : ∃ x, Hid (tabB es = x) := ⟨_, rfl⟩
        rw [HD.out] at hhl hfl hsb HFIN HHD
        rw [HTB.out] at HFIN
        have E1 := hb1.trans hbw
        clear hhd hfin
        go_wp2_with fail
        refine (TFour_any (j : Int) _ w1.heap.size (bodyB es) wr (by omega) (by omega) hbw.size (by omega) hown.out).mono ?_
        rw [HHD.out]
        rintro _ w2 ⟨⟨v2, rfl, o2⟩, hg2⟩
        have E2 := own_grown hown.out hg2 w1 (Nat.le_refl _) hbw
        obtain ⟨ad2, c2, -, hcv2⟩ := str_b o2 (by omega)
        have HO2 := Lib.hid o2
        have HHL := Lib.hid hhl
        have HFL := Lib.hid hfl
        clear o2 hhl hfl
        go_wp2_with fail
        refine (Sum_any ⟨hd.toArray⟩ w2 (by unfold maxLen; show hd.toArray.size ≤ _; rw [List.size_toArray]; have := HHL.out; omega)).mono ?_
        obtain ⟨sm, HSM⟩ : ∃ x, Hid (sumL hd = x) := ⟨_, rfl⟩
        rw [HSM.out] at hsb HFIN HFL
        rw [show sumL (⟨hd.toArray⟩ : ByteArray).data.toList = sm from HSM.out]
        rintro _ w3 ⟨rfl, hb3⟩
        have O3 := Lib.hid (own_ext HO2.out hb3)
        have E3 := E2.trans hb3
        go_wp2_with fail
        refine (TFour_any sm _ w1.heap.size hd w3 hsb.1 (by omega) E3.size (by have := HHL.out; omega) O3.out).mono ?_
        rintro _ w4 ⟨⟨v4, rfl, o4⟩, hg4⟩
        have E4 := own_grown O3.out hg4 w1 (Nat.le_refl _) E3
        obtain ⟨ad4, c4, -, hcv4⟩ := str_b o4 (by have := HFL.out; omega)
        rw [← HFIN.out] at hcv4
        clear o4
        go_wp2_with fail
        go_ret2
        exact ⟨by rw [HTB.out]; rfl, hb1.trans E4⟩
  · have HKK := Lib.hid (isOk_no hk)
    have hrs : rs = ⟨#[]⟩ := by rw [← HRS.out]; exact if_neg (by rw [HK.out]; exact hk)
    subst hrs
    have hko := HKK.out
    clear hk HRS
    go_wp2_with fail
    go_ret2
    exact ⟨rfl, hb1⟩
end Go.Proofs.YtcgfdhgceokcnaaGreatDoor

/- table.first. -/
namespace Go.Proofs.YtcgfdhgceokcnaaGreatDoor
open Go.RowKit Go.WideShapes
set_option linter.unusedVariables false
attribute [local go_sem ↓] Go.wp_at_zero Go.wp_at_succ

def byT (s : ByteArray) (i : Nat) : UInt8 := s.data.toList.getD i 0
theorem byT_get (s : ByteArray) (i : Nat) (h : i < s.size) : s[i]'h = byT s i := by
  have h2 : i < s.data.toList.length := by simpa using h
  unfold byT
  rw [List.getD_eq_getElem?_getD, List.getElem?_eq_getElem h2]
  simp
  rfl
/-- a text begins with a pair -/
def Fst (b : ByteArray) (p : Pr) (left : ByteArray) : Prop := p.key.size < 256 ∧ p.value.size < 256 ∧ b.data.toList = pairB p ++ left.data.toList
def fKey (b : ByteArray) : ByteArray := b.extract 1 (1 + (byT b 0).toNat)
def fRest (b : ByteArray) : ByteArray := b.extract (1 + (byT b 0).toNat + 2) b.size
def fN (b : ByteArray) : Nat := (byT b (1 + (byT b 0).toNat + 1)).toNat
def fG (b : ByteArray) : UInt8 := byT b (1 + (byT b 0).toNat)
def fOk (b : ByteArray) : Prop := 0 < b.size ∧ 3 + (byT b 0).toNat ≤ b.size ∧ (fG b).toNat ≤ 1 ∧ fN b ≤ (fRest b).size
def fP (b : ByteArray) : Pr := ⟨fKey b, (fRest b).extract 0 (fN b), decide ((fG b).toNat = 1)⟩
def fL (b : ByteArray) : ByteArray := (fRest b).extract (fN b) (fRest b).size
theorem list_size' (s : ByteArray) : s.data.toList.length = s.size := rfl
theorem ex_list' (s : ByteArray) (a b : Nat) : (s.extract a b).data.toList = (s.data.toList.drop a).take (b - a) := Lib.extract_data s a b
theorem ex_end' (s : ByteArray) (a : Nat) : (s.extract a s.size).data.toList = s.data.toList.drop a := by
  rw [ex_list', List.take_of_length_le (by rw [List.length_drop, list_size']; exact Nat.le_refl _)]
theorem byteOf_nat (k : UInt8) {n : Nat} (h : n = k.toNat) : byteOf (n : Int) = k := by rw [h]; exact byteOf_toNat k
theorem byteOf_size {n : Nat} (h : n < 256) : (byteOf (n : Int)).toNat = n := by
  have := toNat_byteOf (n : Int) (by omega) (by omega)
  omega
theorem gone_byte {g : UInt8} (h : g.toNat ≤ 1) : byteOf (goneN (decide (g.toNat = 1))) = g := by
  by_cases h1 : g.toNat = 1
  · rw [decide_eq_true h1]
    exact byteOf_nat g (n := 1) h1.symm
  · rw [decide_eq_false h1]
    exact byteOf_nat g (n := 0) (by omega)
theorem list_parts (l : List UInt8) (k : Nat) (h : 3 + k ≤ l.length) : l = l.getD 0 0 :: ((l.drop 1).take k ++ (l.getD (1 + k) 0 :: l.getD (1 + k + 1) 0 :: l.drop (1 + k + 2))) := by
  have e0 : l = l.getD 0 0 :: l.drop 1 := by
    cases l with
    | nil => simp at h
    | cons a l => rfl
  have e1 : l.drop 1 = (l.drop 1).take k ++ l.drop (1 + k) := by
    conv => lhs; rw [← List.take_append_drop k (l.drop 1)]
    rw [List.drop_drop]
  have e2 : l.drop (1 + k) = l.getD (1 + k) 0 :: l.drop (1 + k + 1) := by
    rw [List.drop_eq_getElem_cons (by omega : 1 + k < l.length), List.getD_eq_getElem?_getD, List.getElem?_eq_getElem (by omega : 1 + k < l.length)]
    rfl
  have e3 : l.drop (1 + k + 1) = l.getD (1 + k + 1) 0 :: l.drop (1 + k + 2) := by
    rw [List.drop_eq_getElem_cons (by omega : 1 + k + 1 < l.length), List.getD_eq_getElem?_getD, List.getElem?_eq_getElem (by omega : 1 + k + 1 < l.length)]
    rfl
  have e4 : l.drop 1 = (l.drop 1).take k ++ (l.getD (1 + k) 0 :: l.getD (1 + k + 1) 0 :: l.drop (1 + k + 2)) := by
    rw [← e3, ← e2]; exact e1
  exact e0.trans (congrArg (l.getD 0 0 :: ·) e4)
theorem fst_of {b : ByteArray} (h : fOk b) : Fst b (fP b) (fL b) := by
  obtain ⟨h0, h1, h2, h3⟩ := h
  have hk := (byT b 0).toNat_lt
  have hn : fN b < 256 := UInt8.toNat_lt _
  have hks : (fKey b).size = (byT b 0).toNat := by unfold fKey; rw [ByteArray.size_extract]; omega
  have hvs : ((fRest b).extract 0 (fN b)).size = fN b := by rw [ByteArray.size_extract]; omega
  refine ⟨by show (fKey b).size < 256; omega, by show ((fRest b).extract 0 (fN b)).size < 256; omega, ?_⟩
  have hl := list_parts b.data.toList (byT b 0).toNat (by rw [list_size']; exact h1)
  refine hl.trans ?_
  have hr : (fRest b).data.toList = b.data.toList.drop (1 + (byT b 0).toNat + 2) := ex_end' _ _
  have hv : ((fRest b).extract 0 (fN b)).data.toList ++ (fL b).data.toList = b.data.toList.drop (1 + (byT b 0).toNat + 2) := by
    unfold fL
    rw [ex_list', ex_end', List.drop_zero, Nat.sub_zero, List.take_append_drop, hr]
  have hkl : (fKey b).data.toList = (b.data.toList.drop 1).take (byT b 0).toNat := by
    unfold fKey; rw [ex_list', show 1 + (byT b 0).toNat - 1 = (byT b 0).toNat by omega]
  show _ = (byteOf (fKey b).size :: ((fKey b).data.toList ++ (byteOf (goneN (decide ((fG b).toNat = 1))) :: byteOf ((fRest b).extract 0 (fN b)).size :: ((fRest b).extract 0 (fN b)).data.toList))) ++ (fL b).data.toList
  rw [hks, hvs, byteOf_nat (byT b 0) rfl, gone_byte h2, show byteOf ((fN b : Nat) : Int) = byT b (1 + (byT b 0).toNat + 1) from byteOf_nat _ rfl, hkl, List.cons_append, List.append_assoc, List.cons_append, List.cons_append, hv]
  rfl
theorem getD_mid (a : UInt8) (K r : List UInt8) (i : Nat) : (a :: (K ++ r)).getD (1 + K.length + i) 0 = r.getD i 0 := by
  rw [show 1 + K.length + i = (K.length + i) + 1 by omega, List.getD_cons_succ, List.getD_eq_getElem?_getD, List.getElem?_append_right (by omega), show K.length + i - K.length = i by omega, List.getD_eq_getElem?_getD]
theorem pairB_cons (p : Pr) (x : List UInt8) : pairB p ++ x = byteOf p.key.size :: (p.key.data.toList ++ (byteOf (goneN p.gone) :: byteOf p.value.size :: (p.value.data.toList ++ x))) := by
  unfold pairB
  simp
theorem fst_ok {b : ByteArray} {p : Pr} {left : ByteArray} (h : Fst b p left) : fOk b := by
  obtain ⟨h1, h2, h3⟩ := h
  have hlen := congrArg List.length h3
  rw [List.length_append, pairB_len, list_size', list_size'] at hlen
  rw [pairB_cons] at h3
  have hk : byT b 0 = byteOf p.key.size := by unfold byT; rw [h3]; rfl
  have hkn : (byT b 0).toNat = p.key.size := by rw [hk, byteOf_size h1]
  have hkl : p.key.data.toList.length = p.key.size := list_size' _
  have hg : fG b = byteOf (goneN p.gone) := by
    unfold fG byT
    rw [show (b.data.toList.getD 0 0).toNat = p.key.size from hkn, h3, ← hkl]
    exact getD_mid _ _ _ 0
  have hn : fN b = p.value.size := by
    have : byT b (1 + (byT b 0).toNat + 1) = byteOf p.value.size := by
      rw [hkn]
      unfold byT
      rw [h3, ← hkl]
      exact getD_mid _ _ _ 1
    unfold fN
    rw [this, byteOf_size h2]
  refine ⟨by omega, by omega, ?_, ?_⟩
  · rw [hg]
    unfold goneN
    split <;> decide
  · rw [hn]
    unfold fRest
    rw [ByteArray.size_extract, hkn]
    omega
theorem byteOf_inj {a b : Nat} (ha : a < 256) (hb : b < 256) (h : byteOf (a : Int) = byteOf (b : Int)) : a = b := by
  rw [← byteOf_size ha, ← byteOf_size hb, h]
theorem fst_uniq {x y : List UInt8} {p q : Pr} (hp : p.key.size < 256 ∧ p.value.size < 256) (hq : q.key.size < 256 ∧ q.value.size < 256) (h : pairB p ++ x = pairB q ++ y) : p = q ∧ x = y := by
  rw [pairB_cons, pairB_cons] at h
  injection h with h1 h2
  have hk := byteOf_inj hp.1 hq.1 h1
  obtain ⟨h3, h4⟩ := List.append_inj h2 (by rw [list_size', list_size']; exact hk)
  injection h4 with h5 h6
  injection h6 with h7 h8
  have hv := byteOf_inj hp.2 hq.2 h7
  obtain ⟨h9, h10⟩ := List.append_inj h8 (by rw [list_size', list_size']; exact hv)
  obtain ⟨pk, pv, pg⟩ := p
  obtain ⟨qk, qv, qg⟩ := q
  have e1 : pk = qk := bytes_ext h3
  have e2 : pv = qv := bytes_ext h9
  have e3 : pg = qg := by
    cases pg <;> cases qg <;> first | rfl | (exact absurd (show byteOf 0 = byteOf 1 from h5) (by decide)) | (exact absurd (show byteOf 1 = byteOf 0 from h5) (by decide))
  subst e1 e2 e3
  exact ⟨rfl, h10⟩
end Go.Proofs.YtcgfdhgceokcnaaGreatDoor

/- table.first, walked. -/
namespace Go.Proofs.YtcgfdhgceokcnaaGreatDoor
open Go.RowKit Go.WideShapes
set_option linter.unusedVariables false
attribute [local go_sem ↓] Go.wp_at_zero Go.wp_at_succ

set_option maxRecDepth 100000 in
set_option maxHeartbeats 2000000 in
theorem First_any (b : ByteArray) (w : World) (hb : b.size ≤ 140737488355328) :
    Calls Tryz.prog 158 #[.string b] w fun e w' => ((∃ p left, Fst b p left ∧ e = .returned (.tuple #[p.val, .string left, .bool true])) ∨ ((∀ p left, ¬ Fst b p left) ∧ e = .returned (.tuple #[Value.agg #[.string ⟨#[]⟩, .string ⟨#[]⟩, .bool false], .string b, .bool false]))) ∧ Ext w w' := by
  have B0 := Bk.at_ w 31 #[.string ⟨#[]⟩, .string ⟨#[]⟩, .bool false] w.heap.size rfl
  have e0 : Ext w (w.alloc (.cells #[.string ⟨#[]⟩, .string ⟨#[]⟩, .bool false] 31)) := (Ext.refl _).alloc _
  have f0 := B0.frozen 0
  have f1 := B0.frozen 1
  have f2 := B0.frozen 2
  have p0 : (w.alloc (.cells #[.string ⟨#[]⟩, .string ⟨#[]⟩, .bool false] 31)).cell? ⟨w.heap.size, 0, none⟩ = some (.string ⟨#[]⟩) := B0.cell 0
  have p1 : (w.alloc (.cells #[.string ⟨#[]⟩, .string ⟨#[]⟩, .bool false] 31)).cell? ⟨w.heap.size, 1, none⟩ = some (.string ⟨#[]⟩) := B0.cell 1
  have p2 : (w.alloc (.cells #[.string ⟨#[]⟩, .string ⟨#[]⟩, .bool false] 31)).cell? ⟨w.heap.size, 2, none⟩ = some (.bool false) := B0.cell 2
  have hlt := B0.lt
  have HB0 := Lib.hid B0
  clear B0
  by_cases hz : b.size = 0
  · have hno : Hid (∀ p left, ¬ Fst b p left) := Lib.hid fun p left h => by have := (fst_ok h).1; omega
    obtain rfl := str_noneP hz
    clear hz
    go_enter Tryz.func158, Tryz.ntmps158
    go_wp2_with fail
    refine bodyPost_ret (by simp [results, Tryz.results158, go_sem, p0, p1, p2]; try rfl) rfl ?_
    exact ⟨.inr ⟨hno.out, rfl⟩, e0⟩
  · have hp : 0 < b.size := Nat.pos_of_ne_zero hz
    obtain ⟨s1, s2⟩ := str_someP hp
    have g0 : ∀ h : 0 < b.size, b[0]'h = byT b 0 := fun h => byT_get b 0 h
    have hoki : fOk b ↔ 3 + (byT b 0).toNat ≤ b.size ∧ (fG b).toNat ≤ 1 ∧ fN b ≤ (fRest b).size := ⟨fun h => h.2, fun h => ⟨hp, h⟩⟩
    have hfp : fP b = ⟨b.extract 1 (1 + (byT b 0).toNat), (fRest b).extract 0 (fN b), decide ((fG b).toNat = 1)⟩ := rfl
    have hfl : fL b = (fRest b).extract (fN b) (fRest b).size := rfl
    have hfr : fRest b = b.extract (1 + (byT b 0).toNat + 2) b.size := rfl
    have hfg : ∀ h : 1 + (byT b 0).toNat < b.size, b[1 + (byT b 0).toNat]'h = fG b := fun h => byT_get b _ h
    have hfn : ∀ h : 1 + (byT b 0).toNat + 1 < b.size, b[1 + (byT b 0).toNat + 1]'h = byT b (1 + (byT b 0).toNat + 1) := fun h => byT_get b _ h
    have hfN : fN b = (byT b (1 + (byT b 0).toNat + 1)).toNat := rfl
    have HOK := Lib.hid hoki
    have HFP := Lib.hid hfp
    have HFL := Lib.hid hfl
    obtain ⟨k, HKK⟩ : ∃ k, Hid (byT b 0 = k) := ⟨_, rfl⟩
    rw [HKK.out] at g0 HOK HFP hfr hfg hfn hfN
    obtain ⟨nb, HNB⟩ : ∃ x, Hid (byT b (1 + k.toNat + 1) = x) := ⟨_, rfl⟩
    rw [HNB.out] at hfn hfN
    obtain ⟨g, HGG⟩ : ∃ g, Hid (fG b = g) := ⟨_, rfl⟩
    have HNN := Lib.hid hfN
    clear hfN
    obtain ⟨rs, HRR⟩ : ∃ x, Hid (fRest b = x) := ⟨_, rfl⟩
    rw [HGG.out, HNN.out, HRR.out] at HOK
    rw [HGG.out, HNN.out, HRR.out] at HFP
    rw [HNN.out, HRR.out] at HFL
    rw [HGG.out] at hfg
    rw [HRR.out] at hfr
    have hk := k.toNat_lt
    have hnb := nb.toNat_lt
    have w1 : IntKind.i64.wrap (3 + (k.toNat : Int)) = 3 + (k.toNat : Int) := IntWalk.i64_in _ (by omega)
    clear hoki hfp hfl hz
    by_cases hA : b.size < 3 + k.toNat
    · have hno : Hid (∀ p left, ¬ Fst b p left) := Lib.hid fun p left h => by have := (HOK.out.1 (fst_ok h)).1; omega
      have hAi : (b.size : Int) < 3 + (k.toNat : Int) := by omega
      clear hfg hfn hfr
      go_enter Tryz.func158, Tryz.ntmps158
      go_wp2_with fail
      refine bodyPost_ret (by simp [results, Tryz.results158, go_sem, p0, p1, p2]; try rfl) rfl ?_
      exact ⟨.inr ⟨hno.out, rfl⟩, e0⟩
    · have hAi : ¬ (b.size : Int) < 3 + (k.toNat : Int) := by omega
      have w2 : IntKind.i64.wrap (1 + (k.toNat : Int)) = 1 + (k.toNat : Int) := IntWalk.i64_in _ (by omega)
      have w3 : IntKind.i64.wrap (1 + (k.toNat : Int) + 2) = 1 + (k.toNat : Int) + 2 := IntWalk.i64_in _ (by omega)
      have w4 : IntKind.i64.wrap (1 + (k.toNat : Int) + 1) = 1 + (k.toNat : Int) + 1 := IntWalk.i64_in _ (by omega)
      have t2 : (1 + (k.toNat : Int)).toNat = 1 + k.toNat := by omega
      have t3 : (1 + (k.toNat : Int) + 2).toNat = 1 + k.toNat + 2 := by omega
      have t4 : (1 + (k.toNat : Int) + 1).toNat = 1 + k.toNat + 1 := by omega
      have i1 : (1 : Int) ≤ 1 + (k.toNat : Int) := by omega
      have i2 : 1 + (k.toNat : Int) ≤ (b.size : Int) := by omega
      have i3 : 1 + (k.toNat : Int) < (b.size : Int) := by omega
      have i4 : 0 ≤ 1 + (k.toNat : Int) := by omega
      have i5 : 1 + (k.toNat : Int) + 2 ≤ (b.size : Int) := by omega
      have i6 : 1 + (k.toNat : Int) + 1 < (b.size : Int) := by omega
      have i7 : 0 ≤ 1 + (k.toNat : Int) + 2 := by omega
      have i8 : 0 ≤ 1 + (k.toNat : Int) + 1 := by omega
      have i9 : 1 + k.toNat < b.size := by omega
      have i10 : 1 + k.toNat + 1 < b.size := by omega
      have j1 := hfg i9
      have j2 := hfn i10
      go_enter Tryz.func158, Tryz.ntmps158
      have hrs : rs.size = b.size - (1 + k.toNat + 2) := by rw [hfr, ByteArray.size_extract]; omega
      have HRS := Lib.hid hrs
      have HFR := Lib.hid hfr
      have HKB := Lib.hid (show 3 + k.toNat ≤ b.size by omega)
      clear hrs hfr
      obtain ⟨gb, HGB⟩ : ∃ x, Hid (((g.toNat : Int) == 1) = x) := ⟨_, rfl⟩
      go_wp2_with fail
      go_region
      have B1 := Bk.at_ (w.alloc (.cells #[.string ⟨#[]⟩, .string ⟨#[]⟩, .bool false] 31)) 31 #[.string (b.extract 1 (1 + k.toNat)), .string ⟨#[]⟩, .bool gb] (w.heap.size + 1) (by simp)
      have B00 := HB0.out.alloc (.cells #[.string (b.extract 1 (1 + k.toNat)), .string ⟨#[]⟩, .bool gb] 31)
      have e1 : Ext w ((w.alloc (.cells #[.string ⟨#[]⟩, .string ⟨#[]⟩, .bool false] 31)).alloc (.cells #[.string (b.extract 1 (1 + k.toNat)), .string ⟨#[]⟩, .bool gb] 31)).drew := (e0.alloc _).drew
      have B1' := B1.drew
      have B00' := B00.drew
      rw [HGB.out]
      generalize ((w.alloc (.cells #[.string ⟨#[]⟩, .string ⟨#[]⟩, .bool false] 31)).alloc (.cells #[.string (b.extract 1 (1 + k.toNat)), .string ⟨#[]⟩, .bool gb] 31)).drew = W6 at *
      clear B1 B00 HB0 e0 f0 f1 f2 p0 p1 p2 hlt
      have z0 : W6.cell? ⟨w.heap.size, 0, none⟩ = some (.string ⟨#[]⟩) := B00'.cell 0
      have z1 : W6.cell? ⟨w.heap.size, 1, none⟩ = some (.string ⟨#[]⟩) := B00'.cell 1
      have z2 : W6.cell? ⟨w.heap.size, 2, none⟩ = some (.bool false) := B00'.cell 2
      have f0 := B00'.frozen 0
      have f1 := B00'.frozen 1
      have f2 := B00'.frozen 2
      have c0 : W6.cell? ⟨w.heap.size + 1, 0, none⟩ = some (.string (b.extract 1 (1 + k.toNat))) := B1'.cell 0
      have c1 : W6.cell? ⟨w.heap.size + 1, 1, none⟩ = some (.string ⟨#[]⟩) := B1'.cell 1
      have c2 : W6.cell? ⟨w.heap.size + 1, 2, none⟩ = some (.bool gb) := B1'.cell 2
      have d1 := B1'.frozen 1
      have hl1 := B1'.lt
      have HB1 := Lib.hid B1'
      have HB0 := Lib.hid B00'
      clear B1' B00'
      by_cases hg : g.toNat ≤ 1
      · have hgi : (g.toNat : Int) ≤ 1 := by omega
        by_cases hn : nb.toNat ≤ rs.size
        · have hni : (nb.toNat : Int) ≤ ((b.size - (1 + k.toNat + 2) : Nat) : Int) := by have := HRS.out; omega
          go_wp2_with fail
          go_region
          have hsz2 : b.size - (1 + k.toNat + 2) = rs.size := HRS.out.symm
          have hfst : Fst b ⟨b.extract 1 (1 + k.toNat), rs.extract 0 nb.toNat, gb⟩ (rs.extract nb.toNat rs.size) := by
            have h := fst_of (HOK.out.2 ⟨HKB.out, hg, hn⟩)
            rw [HFP.out, HFL.out] at h
            have hgb : decide (g.toNat = 1) = gb := by
              rw [← HGB.out]
              by_cases h1 : g.toNat = 1
              · rw [decide_eq_true h1, h1]; rfl
              · rw [decide_eq_false h1]
                exact (beq_eq_false_iff_ne.2 (fun h => h1 (by omega))).symm
            rw [hgb] at h
            exact h
          have HFST := Lib.hid hfst
          rw [← HFR.out, hsz2]
          clear hfst hsz2
          generalize rs.extract 0 nb.toNat = vv at *
          generalize rs.extract nb.toNat rs.size = lf at *
          generalize b.extract 1 (1 + k.toNat) = kk at *
          have B7 := (((HB0.out.far (p := ⟨w.heap.size + 1, 1, none⟩) (by show w.heap.size ≠ w.heap.size + 1; omega) (.string vv)).set_ 0 (.string kk)).set_ 1 (.string vv)).set_ 2 (.bool gb)
          have x0 : ((((W6.setCell ⟨w.heap.size + 1, 1, none⟩ (.string vv)).setCell ⟨w.heap.size, 0, none⟩ (.string kk)).setCell ⟨w.heap.size, 1, none⟩ (.string vv)).setCell ⟨w.heap.size, 2, none⟩ (.bool gb)).drew.cell? ⟨w.heap.size, 0, none⟩ = some (.string kk) := (B7.cell 0).trans rfl
          have x1 : ((((W6.setCell ⟨w.heap.size + 1, 1, none⟩ (.string vv)).setCell ⟨w.heap.size, 0, none⟩ (.string kk)).setCell ⟨w.heap.size, 1, none⟩ (.string vv)).setCell ⟨w.heap.size, 2, none⟩ (.bool gb)).drew.cell? ⟨w.heap.size, 1, none⟩ = some (.string vv) := (B7.cell 1).trans rfl
          have x2 : ((((W6.setCell ⟨w.heap.size + 1, 1, none⟩ (.string vv)).setCell ⟨w.heap.size, 0, none⟩ (.string kk)).setCell ⟨w.heap.size, 1, none⟩ (.string vv)).setCell ⟨w.heap.size, 2, none⟩ (.bool gb)).drew.cell? ⟨w.heap.size, 2, none⟩ = some (.bool gb) := (B7.cell 2).trans rfl
          have e7 := ((((e1.setCell (p := ⟨w.heap.size + 1, 1, none⟩) (Nat.le_succ _) (.string vv)).setCell (p := ⟨w.heap.size, 0, none⟩) (Nat.le_refl _) (.string kk)).setCell (p := ⟨w.heap.size, 1, none⟩) (Nat.le_refl _) (.string vv)).setCell (p := ⟨w.heap.size, 2, none⟩) (Nat.le_refl _) (.bool gb)).drew
          go_wp2_with fail
          refine bodyPost_ret (by simp [results, Tryz.results158, go_sem, x0, x1, x2]; try rfl) rfl ?_
          exact ⟨.inl ⟨_, _, HFST.out, rfl⟩, e7⟩
        · have hni : ¬ (nb.toNat : Int) ≤ ((b.size - (1 + k.toNat + 2) : Nat) : Int) := by have := HRS.out; omega
          go_wp2_with fail
          have hno : Hid (∀ p left, ¬ Fst b p left) := Lib.hid fun p left h => hn (HOK.out.1 (fst_ok h)).2.2
          have B7 := ((HB0.out.set_ 0 (.string ⟨#[]⟩)).set_ 1 (.string ⟨#[]⟩)).set_ 2 (.bool false)
          have x0 : (((W6.setCell ⟨w.heap.size, 0, none⟩ (.string ⟨#[]⟩)).setCell ⟨w.heap.size, 1, none⟩ (.string ⟨#[]⟩)).setCell ⟨w.heap.size, 2, none⟩ (.bool false)).cell? ⟨w.heap.size, 0, none⟩ = some (.string ⟨#[]⟩) := (B7.cell 0).trans rfl
          have x1 : (((W6.setCell ⟨w.heap.size, 0, none⟩ (.string ⟨#[]⟩)).setCell ⟨w.heap.size, 1, none⟩ (.string ⟨#[]⟩)).setCell ⟨w.heap.size, 2, none⟩ (.bool false)).cell? ⟨w.heap.size, 1, none⟩ = some (.string ⟨#[]⟩) := (B7.cell 1).trans rfl
          have x2 : (((W6.setCell ⟨w.heap.size, 0, none⟩ (.string ⟨#[]⟩)).setCell ⟨w.heap.size, 1, none⟩ (.string ⟨#[]⟩)).setCell ⟨w.heap.size, 2, none⟩ (.bool false)).cell? ⟨w.heap.size, 2, none⟩ = some (.bool false) := (B7.cell 2).trans rfl
          have e7 := ((e1.setCell (p := ⟨w.heap.size, 0, none⟩) (Nat.le_refl _) (.string ⟨#[]⟩)).setCell (p := ⟨w.heap.size, 1, none⟩) (Nat.le_refl _) (.string ⟨#[]⟩)).setCell (p := ⟨w.heap.size, 2, none⟩) (Nat.le_refl _) (.bool false)
          refine bodyPost_ret (by simp [results, Tryz.results158, go_sem, x0, x1, x2]; try rfl) rfl ?_
          exact ⟨.inr ⟨hno.out, rfl⟩, e7⟩
      · have hgi : ¬ (g.toNat : Int) ≤ 1 := by omega
        go_wp2_with fail
        have hno : Hid (∀ p left, ¬ Fst b p left) := Lib.hid fun p left h => hg (HOK.out.1 (fst_ok h)).2.1
        have B7 := ((HB0.out.set_ 0 (.string ⟨#[]⟩)).set_ 1 (.string ⟨#[]⟩)).set_ 2 (.bool false)
        have x0 : (((W6.setCell ⟨w.heap.size, 0, none⟩ (.string ⟨#[]⟩)).setCell ⟨w.heap.size, 1, none⟩ (.string ⟨#[]⟩)).setCell ⟨w.heap.size, 2, none⟩ (.bool false)).cell? ⟨w.heap.size, 0, none⟩ = some (.string ⟨#[]⟩) := (B7.cell 0).trans rfl
        have x1 : (((W6.setCell ⟨w.heap.size, 0, none⟩ (.string ⟨#[]⟩)).setCell ⟨w.heap.size, 1, none⟩ (.string ⟨#[]⟩)).setCell ⟨w.heap.size, 2, none⟩ (.bool false)).cell? ⟨w.heap.size, 1, none⟩ = some (.string ⟨#[]⟩) := (B7.cell 1).trans rfl
        have x2 : (((W6.setCell ⟨w.heap.size, 0, none⟩ (.string ⟨#[]⟩)).setCell ⟨w.heap.size, 1, none⟩ (.string ⟨#[]⟩)).setCell ⟨w.heap.size, 2, none⟩ (.bool false)).cell? ⟨w.heap.size, 2, none⟩ = some (.bool false) := (B7.cell 2).trans rfl
        have e7 := ((e1.setCell (p := ⟨w.heap.size, 0, none⟩) (Nat.le_refl _) (.string ⟨#[]⟩)).setCell (p := ⟨w.heap.size, 1, none⟩) (Nat.le_refl _) (.string ⟨#[]⟩)).setCell (p := ⟨w.heap.size, 2, none⟩) (Nat.le_refl _) (.bool false)
        refine bodyPost_ret (by simp [results, Tryz.results158, go_sem, x0, x1, x2]; try rfl) rfl ?_
        exact ⟨.inr ⟨hno.out, rfl⟩, e7⟩
end Go.Proofs.YtcgfdhgceokcnaaGreatDoor
