/- table.Build. -/
import Derived.Test.YtnafegofmbhahaaDoorTab2
import Derived.Test.YtnafegofmbhahaaDoorMixS
namespace Go.Proofs.YtnafegofmbhahaaDoor
open Go.RowKit Go.WideShapes
set_option linter.unusedVariables false
attribute [local go_sem ↓] Go.wp_at_zero Go.wp_at_succ

def goneN (b : Bool) : Int := if b = true then 1 else 0
def pairB (p : Pr) : List UInt8 := byteOf p.key.size :: (p.key.data.toList ++ (byteOf (goneN p.gone) :: byteOf p.value.size :: p.value.data.toList))
def bodyB (es : List Pr) : List UInt8 := es.flatMap pairB
def headB (es : List Pr) : List UInt8 := bodyB es ++ fourB es.length
def tabB (es : List Pr) : ByteArray := ⟨(headB es ++ fourB (sumL (headB es))).toArray⟩
def tabR (es : List Pr) : ByteArray := if tblK es = 0 then tabB es else ⟨#[]⟩
theorem pairB_len (p : Pr) : (pairB p).length = p.key.size + p.value.size + 3 := by
  unfold pairB
  simp only [List.length_cons, List.length_append]
  show p.key.size + (p.value.size + 1 + 1) + 1 = _
  omega
theorem bodyB_snoc (es : List Pr) (p : Pr) : bodyB (es ++ [p]) = bodyB es ++ pairB p := by simp [bodyB]
theorem bodyB_len {es : List Pr} (h : ∀ p ∈ es, PrOk p) : (bodyB es).length ≤ 403 * es.length := by
  induction es with
  | nil => simp [bodyB]
  | cons p es ih =>
    have h1 := ih fun q hq => h q (List.mem_cons_of_mem _ hq)
    have h2 := h p (List.mem_cons_self ..)
    have h3 := (keyK_zero.1 h2.1).2
    unfold bodyB at h1 ⊢
    rw [List.flatMap_cons, List.length_append, pairB_len, List.length_cons]
    have := h2.2.1
    omega
theorem pair_cells {p : Pr} (h : PrOk p) (l : List UInt8) :
    bcells (l ++ pairB p) = bcells l ++ [.int .u8 (p.key.size : Int)] ++ Lib.strCells p.key ++ [.int .u8 (goneN p.gone), .int .u8 (p.value.size : Int)] ++ Lib.strCells p.value := by
  have h3 := (keyK_zero.1 h.1).2
  have h4 := h.2.1
  have hg : 0 ≤ goneN p.gone ∧ goneN p.gone < 256 := by unfold goneN; split <;> omega
  rw [bcells_append]
  unfold pairB bcells Lib.strCells
  simp only [List.map_cons, List.map_append]
  rw [toNat_byteOf _ (by omega) (by omega), toNat_byteOf _ hg.1 hg.2, toNat_byteOf _ (by omega) (by omega)]
  simp
theorem str_b {w : World} {base : Nat} {v : Value} {l : List UInt8} (h : OwnB w base v l) (hn : 0 < l.length) :
    ∃ ad c, v = .slice (some ad) l.length c ∧ (convert 93 9 v).run Tryd.prog w = .ok (.string ⟨l.toArray⟩) w := by
  obtain ⟨A, c, rfl, -, R, -⟩ := own_rd h
  obtain ⟨ad, rfl, -, hc⟩ := R.2.2 hn
  refine ⟨ad, c, rfl, ?_⟩
  have e : bcells l = (l.map fun b => (b.toNat : Int)).map (Value.int .u8) := by simp [bcells]
  have h2 := run_conv_cells w 93 9 5 ad c (l.map fun b => (b.toNat : Int)) Tryd.underlying93 Tryd.underlying5 Tryd.underlying9 (by rw [← e]; exact hc)
  rw [List.length_map] at h2
  rw [h2, List.map_map]
  have h3 : (byteOf ∘ fun (b : UInt8) => (b.toNat : Int)) = id := by funext b; exact byteOf_toNat b
  rw [h3, List.map_id]

set_option maxRecDepth 100000 in
set_option maxHeartbeats 2000000 in
theorem Build_any (A : Option Addr) (n c : Nat) (es : List Pr) (w : World) (hr : Rd w 3 A n c (es.flatMap Pr.cells)) (hm : c ≤ maxLen) (hn : n ≤ 200000000) :
    Calls Tryd.prog 12 #[.slice A n c] w fun e w' => e = .returned (.tuple #[.string (tabR es), errR (tblK es)]) ∧ Ext w w' := by
  obtain ⟨hE, hN, hG⟩ := errR_rules
  have hms : c ≤ 9223372036854775807 := by unfold maxLen at hm; omega
  have hl := hr.2.1
  have HX := Lib.hid hr.lenP
  obtain ⟨k, HK⟩ : ∃ x, Hid (tblK es = x) := ⟨_, rfl⟩
  obtain ⟨rs, HRS⟩ : ∃ x, Hid (tabR es = x) := ⟨_, rfl⟩
  rw [HRS.out, HK.out]
  go_enter Tryd.func12, Tryd.ntmps12
  go_wp2_with fail
  refine (TabCheck_any A n c es _ hr hm).mono ?_
  rw [HK.out]
  rintro _ w1 ⟨rfl, hb1⟩
  by_cases hk : k = 0
  · subst hk
    rw [errR_0]
    have HOK := Lib.hid (tblK_zero.1 HK.out).2
    have hrs : rs = tabB es := by rw [← HRS.out]; exact if_pos HK.out
    subst hrs
    clear HRS
    have hr1 := hr.ext hb1
    have H0 : Hid (OwnB w1 w1.heap.size (.slice none 0 0) (bodyB (es.take 0))) := own_nil _ _ _ _
    clear hr
    go_wp2_with fail
    go_loopw [5, 7, 8, 16] (fun b _ _ x wr => ∃ j : Nat, x = .int .i64 j ∧ j ≤ n ∧ Ext w1 wr ∧ Hid (OwnB wr w1.heap.size b (bodyB (es.take j)))) (fun _ _ _ x _ => n - (intOf x).toNat)
    case atStart => exact ⟨0, rfl, Nat.zero_le _, Ext.refl _, H0⟩
    case round =>
      obtain ⟨j, rfl, hj, hbw, hown⟩ := hrel
      by_cases hc : j < n
      · have hgj := List.getElem?_eq_getElem (l := es) (i := j) (by rw [HX.out]; exact hc)
        obtain ⟨ad, rfl, hb, c0, c1, c2⟩ := (hr1.ext hbw).getP hgj
        have hok := HOK.out _ (List.mem_of_getElem? hgj)
        have hlen : (bodyB (es.take j)).length ≤ 403 * j := by
          have h1 := bodyB_len (es := es.take j) fun q hq => HOK.out q (List.mem_of_mem_take hq)
          have h2 : (es.take j).length ≤ j := by rw [List.length_take]; omega
          omega
        have hnext : bodyB (es.take (j + 1)) = bodyB (es.take j) ++ pairB (es[j]'(by rw [HX.out]; exact hc)) := by
          rw [List.take_succ_eq_append_getElem (by rw [HX.out]; exact hc), bodyB_snoc]
        generalize es[j]'(by rw [HX.out]; exact hc) = p at *
        have hpl := pairB_len p
        have hpc := pair_cells hok (bodyB (es.take j))
        obtain ⟨pk, pv, pg⟩ := p
        have hk3 := (keyK_zero.1 hok.1).2
        have hv3 := hok.2.1
        simp only at c0 c1 c2 hpl hpc hk3 hv3
        obtain ⟨L, HL⟩ : ∃ L, Hid (bodyB (es.take j) = L) := ⟨_, rfl⟩
        rw [HL.out] at hlen hpc hown hnext
        have HNX := Lib.hid hnext
        have HPL := Lib.hid hpl
        have HPC := Lib.hid hpc
        obtain ⟨gb, HGB⟩ : ∃ x, Hid (goneN pg = x) := ⟨_, rfl⟩
        rw [HGB.out] at HPC
        have PB : Bk (wr.alloc (.cells #[.string pk, .string pv, .bool pg] 25)) wr.heap.size 25 #[.string pk, .string pv, .bool pg] := Bk.at_ _ _ _ _ rfl
        have e3 : Ext w1 (wr.alloc (.cells #[.string pk, .string pv, .bool pg] 25)) := hbw.alloc _
        have own3 := World.ownsRow.alloc hown.out (.cells #[.string pk, .string pv, .bool pg] 25)
        clear hgj hnext hpl hpc hok hown
        go_upto_if 21 with (fail)
        generalize wr.alloc (.cells #[.string pk, .string pv, .bool pg] 25) = W3 at *
        obtain ⟨g, HGN⟩ : ∃ g, wr.heap.size = g := ⟨_, rfl⟩
        rw [HGN] at PB
        rw [HGN]
        clear HGN hbw c0 c1 c2 hb
        go_cut [8] (fun v wc => v = .int .u8 gb ∧ W3 = wc)
        case first =>
          as_aux_lemma =>
          have hgb := HGB.out
          cases pg with
          | true =>
            have : gb = 1 := by rw [← hgb]; rfl
            subst this
            go_wp2_with fail
            go_meet
            exact ⟨rfl, rfl⟩
          | false =>
            have : gb = 0 := by rw [← hgb]; rfl
            subst this
            go_wp2_with fail
            go_meet
            exact ⟨rfl, rfl⟩
        case rest =>
        as_aux_lemma =>
        obtain ⟨rfl, rfl⟩ := hcut
        have hk256 : (pk.size : Int) % 256 = (pk.size : Int) := by omega
        have hv256 : (pv.size : Int) % 256 = (pv.size : Int) := by omega
        have hbase : w1.heap.size ≤ W3.heap.size := e3.size
        have x0 : W3.cell? ⟨g, 0, none⟩ = some (.string pk) := PB.cell 0
        have x1 : W3.cell? ⟨g, 1, none⟩ = some (.string pv) := PB.cell 1
        have glt := PB.lt
        obtain ⟨i0, hi0, hz0, hz1, hz2⟩ := info_parts info_u8t
        have PA := PB.alloc (.cells #[.int .u8 (pk.size : Int)] 5)
        have eA : Ext w1 (W3.alloc (.cells #[.int .u8 (pk.size : Int)] 5)) := e3.alloc _
        have oA := World.ownsRow.alloc own3 (.cells #[.int .u8 (pk.size : Int)] 5)
        have hbA := eA.size
        have HPA := Lib.hid PA
        have HOA := Lib.hid oA
        clear PB PA oA own3
        go_wp2_with (first
          | (at_builtin; refine Lib.wpList_append_own_string _ rfl _ _ 93 9 rfl w1.heap.size 5 i0 Tryd.underlying93 Tryd.underlying9 hi0 hz0 hz1 hz2 v6 _ _ rfl HO6.out pv rfl (by unfold maxLen; omega) (by omega) hb6 ?_; intro v7 w7 own7 hg7 hH7; clear hH7; have e7 := own_grown HO6.out hg7 w1 (Nat.le_refl _) e6)
          | (at_builtin; refine wpList_append_own _ rfl _ _ 93 rfl w1.heap.size 5 i0 _ 1 1 Tryd.underlying93 hi0 hz0 hz1 hz2 rfl (by omega) v5 _ _ rfl HOB.out ⟨w5.heap.size, 0, none⟩ 2 2 [.int .u8 gb, .int .u8 (pv.size : Int)] (by rfl) rfl (news_new w5 _ _ _ rfl) (by intro u hu; simp at hu; rcases hu with rfl | rfl <;> rfl) (by unfold maxLen; omega) (by omega) hbB ?_; intro v6 w6 own6 hg6 hH6; clear hH6; have e6 := own_grown HOB.out hg6 w1 (Nat.le_refl _) eB; have P6 := HPB.out.kept hg6 (own_type HOB.out HPB.out (by decide)); have x1 : w6.cell? ⟨g, 1, none⟩ = some (.string pv) := P6.cell 1; have hb6 := e6.size; have HO6 := Lib.hid own6; clear own6 P6)
          | (at_builtin; refine Lib.wpList_append_own_string _ rfl _ _ 93 9 rfl w1.heap.size 5 i0 Tryd.underlying93 Tryd.underlying9 hi0 hz0 hz1 hz2 v4 _ _ rfl HO4.out pk rfl (by unfold maxLen; omega) (by omega) hb4 ?_; intro v5 w5 own5 hg5 hH5; clear hH5; have e5 := own_grown HO4.out hg5 w1 (Nat.le_refl _) e4; have P5 := HP4.out.kept hg5 (own_type HO4.out HP4.out (by decide)); have x1 : w5.cell? ⟨g, 1, none⟩ = some (.string pv) := P5.cell 1; have eB : Ext w1 (w5.alloc (.cells #[.int .u8 gb, .int .u8 (pv.size : Int)] 5)) := e5.alloc _; have HPB := Lib.hid (P5.alloc (.cells #[.int .u8 gb, .int .u8 (pv.size : Int)] 5)); have HOB := Lib.hid (World.ownsRow.alloc own5 (.cells #[.int .u8 gb, .int .u8 (pv.size : Int)] 5)); have hbB := eB.size; clear P5 own5)
          | (at_builtin; refine wpList_append_own _ rfl _ _ 93 rfl w1.heap.size 5 i0 _ 1 1 Tryd.underlying93 hi0 hz0 hz1 hz2 rfl (by omega) u5 _ _ rfl HOA.out ⟨W3.heap.size, 0, none⟩ 1 1 [.int .u8 (pk.size : Int)] (by rfl) rfl (news_new W3 _ _ _ rfl) (by intro u hu; simp at hu; subst hu; rfl) (by unfold maxLen; omega) (by omega) hbA ?_; intro v4 w4 own4 hg4 hH4; clear hH4; have e4 := own_grown HOA.out hg4 w1 (Nat.le_refl _) eA; have P4 := HPA.out.kept hg4 (own_type HOA.out HPA.out (by decide)); have x0 : w4.cell? ⟨g, 0, none⟩ = some (.string pk) := P4.cell 0; have hb4 := e4.size; have HP4 := Lib.hid P4; have HO4 := Lib.hid own4; clear own4 P4))
        go_roundw
        case rel => exact ⟨j + 1, by go_num, by omega, e7, by
          show OwnB w7 _ _ _
          unfold OwnB
          rw [HNX.out, HPC.out, List.length_append, HPL.out]
          rw [show L.length + (pk.size + pv.size + 3) = L.length + 1 + pk.size + 2 + pv.size by omega]
          exact own7⟩
        case measure => simp [intOf]; omega
      · obtain rfl : j = n := by omega
        have hlen : (bodyB es).length ≤ 403 * j := by
          have h1 := bodyB_len HOK.out
          rw [HX.out] at h1
          exact h1
        rw [List.take_of_length_le (by rw [HX.out]; exact Nat.le_refl _)] at hown
        have hhl : (headB es).length = (bodyB es).length + 4 := by unfold headB; rw [List.length_append]; rfl
        have hhd : bodyB es ++ fourB (j : Int) = headB es := by unfold headB; rw [HX.out]
        have hfin : tabB es = ⟨(headB es ++ fourB (sumL (headB es))).toArray⟩ := rfl
        have HFIN := Lib.hid hfin
        have hfl : (headB es ++ fourB (sumL (headB es))).length = (headB es).length + 4 := by rw [List.length_append]; rfl
        have hsb := sumL_bd (headB es)
        have HHD := Lib.hid hhd
        obtain ⟨hd, HD⟩ : ∃ x, Hid (headB es = x) := ⟨_, rfl⟩
        obtain ⟨tb, HTB⟩ : ∃ x, Hid (tabB es = x) := ⟨_, rfl⟩
        rw [HD.out] at hhl hfl hsb HFIN HHD
        rw [HTB.out] at HFIN
        have E1 := hb1.trans hbw
        clear hhd hfin
        go_wp2_with fail
        refine (TFour_any (j : Int) _ w1.heap.size (bodyB es) wr (by omega) (by omega) hbw.size (by omega) hown.out).mono ?_
        rw [HHD.out]
        rintro _ w2 ⟨⟨v2, rfl, o2⟩, hg2⟩
        have E2 := own_grown hown.out hg2 w1 (Nat.le_refl _) hbw
        obtain ⟨ad2, c2, -, hcv2⟩ := str_b o2 (by omega)
        have HO2 := Lib.hid o2
        have HHL := Lib.hid hhl
        have HFL := Lib.hid hfl
        clear o2 hhl hfl
        go_wp2_with fail
        refine (Sum_any ⟨hd.toArray⟩ w2 (by unfold maxLen; show hd.toArray.size ≤ _; rw [List.size_toArray]; have := HHL.out; omega)).mono ?_
        obtain ⟨sm, HSM⟩ : ∃ x, Hid (sumL hd = x) := ⟨_, rfl⟩
        rw [HSM.out] at hsb HFIN HFL
        rw [show sumL (⟨hd.toArray⟩ : ByteArray).data.toList = sm from HSM.out]
        rintro _ w3 ⟨rfl, hb3⟩
        have O3 := Lib.hid (own_ext HO2.out hb3)
        have E3 := E2.trans hb3
        go_wp2_with fail
        refine (TFour_any sm _ w1.heap.size hd w3 hsb.1 (by omega) E3.size (by have := HHL.out; omega) O3.out).mono ?_
        rintro _ w4 ⟨⟨v4, rfl, o4⟩, hg4⟩
        have E4 := own_grown O3.out hg4 w1 (Nat.le_refl _) E3
        obtain ⟨ad4, c4, -, hcv4⟩ := str_b o4 (by have := HFL.out; omega)
        rw [← HFIN.out] at hcv4
        clear o4
        go_wp2_with fail
        go_ret2
        exact ⟨by rw [HTB.out]; rfl, hb1.trans E4⟩
  · have HKK := Lib.hid (isOk_no hk)
    have hrs : rs = ⟨#[]⟩ := by rw [← HRS.out]; exact if_neg (by rw [HK.out]; exact hk)
    subst hrs
    have hko := HKK.out
    clear hk HRS
    go_wp2_with fail
    go_ret2
    exact ⟨rfl, hb1⟩
end Go.Proofs.YtnafegofmbhahaaDoor
