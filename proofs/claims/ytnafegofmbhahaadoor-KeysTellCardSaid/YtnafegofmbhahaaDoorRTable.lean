/- the references' sum of bytes. -/
import Derived.Test.YtnafegofmbhahaaDoorTab3
import Derived.Lib.SlicesS
import Derived.Deep.DeepCutAuto
import Derived.Deep.CutRange
namespace Go.Proofs.YtnafegofmbhahaaDoor
open Go.RowKit Go.WideShapes
set_option linter.unusedVariables false
attribute [local go_sem ↓] Go.wp_at_zero Go.wp_at_succ

theorem sumL_takeS (s : ByteArray) (k : Nat) (h : k < s.size) : sumL (s.data.toList.take (k + 1)) = (sumL (s.data.toList.take k) * 131 + (s[k].toNat : Int) + 1) % 2147483647 := sumL_take s.data.toList k h
set_option maxRecDepth 100000 in
theorem RSum_any (s : ByteArray) (w : World) (hs : s.size ≤ maxLen) :
    Calls Tryd.prog 74 #[.string s] w fun e w' => e = .returned (.int .i64 (sumL s.data.toList)) ∧ w = w' := by
  unfold maxLen at hs
  go_enter Tryd.func74, Tryd.ntmps74
  go_wp2_with fail
  go_loop [3, 4] (fun n i => ∃ k : Nat, k ≤ s.size ∧ i = .int .i64 k ∧ n = .int .i64 (sumL (s.data.toList.take k))) (fun _ i => s.size - (intOf i).toNat)
  case atStart => exact ⟨0, Nat.zero_le _, rfl, rfl⟩
  case round =>
    obtain ⟨k, hk, rfl, rfl⟩ := hrel
    by_cases hlt : k < s.size
    · obtain ⟨hb0, hb1⟩ := sumL_bd (s.data.toList.take k)
      have HS := Lib.hid (sumL_takeS s k hlt)
      have hb2 : s[k].toNat < 256 := UInt8.toNat_lt _
      generalize sumL (s.data.toList.take k) = t at *
      go_wp2_with fail
      go_round
      case rel => exact ⟨k + 1, by omega, by go_num, by rw [HS.out]⟩
      case measure => simp [intOf]; omega
    · go_wp2_with fail
      go_ret
      exact ⟨ret_int (by rw [List.take_of_length_le (by simp; omega)]), rfl⟩

end Go.Proofs.YtnafegofmbhahaaDoor

/- the references' table: four, Table. -/
namespace Go.Proofs.YtnafegofmbhahaaDoor
open Go.RowKit Go.WideShapes
set_option linter.unusedVariables false
attribute [local go_sem ↓] Go.wp_at_zero Go.wp_at_succ

theorem strT_len (s : ByteArray) : (Lib.strCells s).length = s.size * 1 := by unfold Lib.strCells; rw [List.length_map, Nat.mul_one]; rfl
theorem strT_one (s : ByteArray) : ∀ u ∈ Lib.strCells s, u.oneCell' = true := by
  intro u hu
  unfold Lib.strCells at hu
  rw [List.mem_map] at hu
  obtain ⟨x, _, rfl⟩ := hu
  rfl
theorem convT (w : World) (s : ByteArray) (cap : Nat) (e : TypeId) (m : Nat × Nat) (H : Nat) (hH : w.heap.size = H) : ∀ j u, (Lib.strCells s)[j]? = some u → (w.alloc (.cells (bytesRow s cap) e m)).cell? ((⟨H, 0, none⟩ : Addr).add j) = some u := by
  intro j u hu
  subst hH
  unfold Lib.strCells at hu
  rw [List.getElem?_map, Option.map_eq_some_iff] at hu
  obtain ⟨b, hb, rfl⟩ := hu
  obtain ⟨h1, h2⟩ := List.getElem?_eq_some_iff.1 hb
  have hj : j < s.data.size := by simpa using h1
  rw [add_mk, Nat.zero_add, World.cell?_alloc_mark]
  rw [bytesRow_at s cap j hj]
  have : s.data[j] = b := by simpa using h2
  rw [this]

set_option maxRecDepth 100000 in
set_option maxHeartbeats 1000000 in
theorem RFour_any (n : Int) (v : Value) (base : Nat) (l : List UInt8) (w0 w : World) (h0 : 0 ≤ n) (h1 : n < 2147483648) (hw : Ext w0 w) (hb : w0.heap.size ≤ base) (hbw : base ≤ w.heap.size) (hm : l.length ≤ 100000000000) (hown : OwnB w base v l) :
    Calls Tryd.prog 73 #[v, .int .i64 n] w fun e w' => (∃ v', e = .returned v' ∧ OwnB w' base v' (l ++ fourB n)) ∧ Ext w0 w' ∧ base ≤ w'.heap.size := by
  obtain ⟨i0, hi0, hz0, hz1, hz2⟩ := info_parts info_u8t
  have HF := Lib.hid (four_cells n h0 h1)
  have hq1 : n.tdiv 16777216 = n / 16777216 := Int.tdiv_eq_ediv_of_nonneg h0
  have hq2 : n.tdiv 65536 = n / 65536 := Int.tdiv_eq_ediv_of_nonneg h0
  have hq3 : n.tdiv 256 = n / 256 := Int.tdiv_eq_ediv_of_nonneg h0
  have hr2 : (n / 65536).tmod 256 = n / 65536 % 256 := Int.tmod_eq_emod_of_nonneg (by omega)
  have hr3 : (n / 256).tmod 256 = n / 256 % 256 := Int.tmod_eq_emod_of_nonneg (by omega)
  have hr4 : n.tmod 256 = n % 256 := Int.tmod_eq_emod_of_nonneg h0
  have e3 : Ext w (w.alloc (.cells #[.int .u8 (n / 16777216)] 5)) := (Ext.refl _).alloc _
  have O3 := Lib.hid (own_ext hown e3)
  have f3 := hw.trans e3
  have hb3 := Nat.le_trans hbw e3.size
  clear hown
  go_enter Tryd.func73, Tryd.ntmps73
  go_upto_region 2 with (at_builtin; go_loud (refine wpList_append_own _ rfl _ _ 93 rfl base 5 i0 _ 1 1 Tryd.underlying93 hi0 hz0 hz1 hz2 rfl (by omega) v l.length (bcells l) rfl O3.out ⟨w.heap.size, 0, none⟩ 1 1 [.int .u8 (n / 16777216)] (by rfl) rfl (news_new w _ _ _ rfl) (by intro u hu; simp at hu; subst hu; rfl) (by unfold maxLen; omega) (by omega) hb3 ?_); intro v1 w1 own1 hg1 hH1; clear hH1)
  have g1 := own_grown O3.out hg1 w0 hb f3
  have hs1 : base ≤ w1.heap.size := Nat.le_trans hb3 hg1.size
  have e4 : Ext w1 (w1.alloc (.cells #[.int .u8 (n / 65536 % 256)] 5)) := (Ext.refl _).alloc _
  have O4 := Lib.hid (own_ext own1 e4)
  have f4 := g1.trans e4
  have hb4 := Nat.le_trans hs1 e4.size
  clear own1
  go_upto_region 3 with (at_builtin; go_loud (refine wpList_append_own _ rfl _ _ 93 rfl base 5 i0 _ 1 1 Tryd.underlying93 hi0 hz0 hz1 hz2 rfl (by omega) v1 (l.length + 1) ((bcells l) ++ [.int .u8 (n / 16777216)]) rfl O4.out ⟨w1.heap.size, 0, none⟩ 1 1 [.int .u8 (n / 65536 % 256)] (by rfl) rfl (news_new w1 _ _ _ rfl) (by intro u hu; simp at hu; subst hu; rfl) (by unfold maxLen; omega) (by omega) hb4 ?_); intro v2 w2 own2 hg2 hH2; clear hH2)
  have g2 := own_grown O4.out hg2 w0 hb f4
  have hs2 : base ≤ w2.heap.size := Nat.le_trans hb4 hg2.size
  have e5 : Ext w2 (w2.alloc (.cells #[.int .u8 (n / 256 % 256)] 5)) := (Ext.refl _).alloc _
  have O5 := Lib.hid (own_ext own2 e5)
  have f5 := g2.trans e5
  have hb5 := Nat.le_trans hs2 e5.size
  clear own2
  go_upto_region 4 with (at_builtin; go_loud (refine wpList_append_own _ rfl _ _ 93 rfl base 5 i0 _ 1 1 Tryd.underlying93 hi0 hz0 hz1 hz2 rfl (by omega) v2 ((l.length + 1) + 1) (((bcells l) ++ [.int .u8 (n / 16777216)]) ++ [.int .u8 (n / 65536 % 256)]) rfl O5.out ⟨w2.heap.size, 0, none⟩ 1 1 [.int .u8 (n / 256 % 256)] (by rfl) rfl (news_new w2 _ _ _ rfl) (by intro u hu; simp at hu; subst hu; rfl) (by unfold maxLen; omega) (by omega) hb5 ?_); intro v3 w3 own3 hg3 hH3; clear hH3)
  have g3 := own_grown O5.out hg3 w0 hb f5
  have hs3 : base ≤ w3.heap.size := Nat.le_trans hb5 hg3.size
  have e6 : Ext w3 (w3.alloc (.cells #[.int .u8 (n % 256)] 5)) := (Ext.refl _).alloc _
  have O6 := Lib.hid (own_ext own3 e6)
  have f6 := g3.trans e6
  have hb6 := Nat.le_trans hs3 e6.size
  clear own3
  go_wp2_with (at_builtin; go_loud (refine wpList_append_own _ rfl _ _ 93 rfl base 5 i0 _ 1 1 Tryd.underlying93 hi0 hz0 hz1 hz2 rfl (by omega) v3 (((l.length + 1) + 1) + 1) ((((bcells l) ++ [.int .u8 (n / 16777216)]) ++ [.int .u8 (n / 65536 % 256)]) ++ [.int .u8 (n / 256 % 256)]) rfl O6.out ⟨w3.heap.size, 0, none⟩ 1 1 [.int .u8 (n % 256)] (by rfl) rfl (news_new w3 _ _ _ rfl) (by intro u hu; simp at hu; subst hu; rfl) (by unfold maxLen; omega) (by omega) hb6 ?_); intro v4 w4 own4 hg4 hH4; clear hH4)
  have g4 := own_grown O6.out hg4 w0 hb f6
  have hs4 : base ≤ w4.heap.size := Nat.le_trans hb6 hg4.size
  have O9 := Lib.hid own4
  clear own4
  go_ret
  refine ⟨⟨v4, rfl, ?_⟩, g4, hs4⟩
  unfold OwnB
  rw [bcells_append, HF.out, List.length_append]
  have := O9.out
  simp only [List.append_assoc, List.cons_append, List.nil_append, Nat.add_assoc] at this
  exact this

set_option maxRecDepth 100000 in
set_option maxHeartbeats 2000000 in
theorem RTable_any (A : Option Addr) (n c : Nat) (es : List Pr) (w : World) (hr : Rd w 3 A n c (es.flatMap Pr.cells)) (hm : c ≤ maxLen) (hn : n ≤ 200000000) (hok : ∀ p ∈ es, PrOk p) :
    Calls Tryd.prog 20 #[.slice A n c] w fun e w' => e = .returned (.string (tabB es)) ∧ Ext w w' := by
  have hms : c ≤ 9223372036854775807 := by unfold maxLen at hm; omega
  have hl := hr.2.1
  have HX := Lib.hid hr.lenP
  have HOK := Lib.hid hok
  obtain ⟨rs, HRS⟩ : ∃ x, Hid (tabB es = x) := ⟨_, rfl⟩
  rw [HRS.out]
  obtain ⟨base, hbase⟩ : ∃ b, w.heap.size = b := ⟨_, rfl⟩
  have hbs : w.heap.size ≤ base := Nat.le_of_eq hbase
  have H0 : Hid (OwnB w base (.slice none 0 0) (bodyB (es.take 0))) := own_nil _ _ _ _
  obtain ⟨i0, hi0, hz0, hz1, hz2⟩ := info_parts info_u8t
  clear hok
  go_enter Tryd.func20, Tryd.ntmps20
  go_wp2_with fail
  go_loopw [3, 4] (fun b x wr => ∃ j : Nat, x = .int .i64 j ∧ j ≤ n ∧ Ext w wr ∧ Hid (OwnB wr base b (bodyB (es.take j)))) (fun _ x _ => n - (intOf x).toNat)
  case atStart => exact ⟨0, rfl, Nat.zero_le _, Ext.refl _, H0⟩
  case round =>
    obtain ⟨j, rfl, hj, hbw, hown⟩ := hrel
    by_cases hc : j < n
    · have hgj := List.getElem?_eq_getElem (l := es) (i := j) (by rw [HX.out]; exact hc)
      obtain ⟨ad, rfl, hb0, d0, d1, d2⟩ := hr.getP hgj
      have hok := HOK.out _ (List.mem_of_getElem? hgj)
      have hlen : (bodyB (es.take j)).length ≤ 403 * j := by
        have h1 := bodyB_len (es := es.take j) fun q hq => HOK.out q (List.mem_of_mem_take hq)
        have h2 : (es.take j).length ≤ j := by rw [List.length_take]; omega
        omega
      have hnext : bodyB (es.take (j + 1)) = bodyB (es.take j) ++ pairB (es[j]'(by rw [HX.out]; exact hc)) := by
        rw [List.take_succ_eq_append_getElem (by rw [HX.out]; exact hc), bodyB_snoc]
      generalize es[j]'(by rw [HX.out]; exact hc) = p at *
      have hpl := pairB_len p
      have hpc := pair_cells hok (bodyB (es.take j))
      obtain ⟨pk, pv, pg⟩ := p
      have hk3 := (keyK_zero.1 hok.1).2
      have hv3 := hok.2.1
      simp only at d0 d1 d2 hpl hpc hk3 hv3
      have hlt : (ad.add (j * 3)).block < w.heap.size := by rw [blk_add]; exact hb0
      obtain ⟨L, HL⟩ : ∃ L, Hid (bodyB (es.take j) = L) := ⟨_, rfl⟩
      rw [HL.out] at hlen hpc hown hnext
      have HNX := Lib.hid hnext
      have HPL := Lib.hid hpl
      obtain ⟨gb, HGB⟩ : ∃ x, Hid (goneN pg = x) := ⟨_, rfl⟩
      rw [HGB.out] at hpc
      have HPC := Lib.hid hpc
      have D0 := Lib.hid d0
      have D1 := Lib.hid d1
      have D2 := Lib.hid d2
      have y0 := (hbw.cell (p := ad.add (j * 3)) hlt).trans d0
      have hk256 : (pk.size : Int) % 256 = (pk.size : Int) := by omega
      have hv256 : (pv.size : Int) % 256 = (pv.size : Int) := by omega
      have hbr : base ≤ wr.heap.size := by rw [← hbase]; exact hbw.size
      have ow := hown.out
      unfold OwnB at ow
      have eA : Ext wr (wr.alloc (.cells #[.int .u8 (pk.size : Int)] 5)) := (Ext.refl _).alloc _
      have OA := Lib.hid (own_ext ow eA)
      have fA := hbw.trans eA
      have hbA := Nat.le_trans hbr eA.size
      clear hgj hnext hpl hpc hok hown d0 d1 d2 ow
      go_upto_region 6 with (at_builtin; go_loud (refine wpList_append_own _ rfl _ _ 93 rfl base 5 i0 _ 1 1 Tryd.underlying93 hi0 hz0 hz1 hz2 rfl (by omega) u3 L.length (bcells L) rfl OA.out ⟨wr.heap.size, 0, none⟩ 1 1 [.int .u8 (pk.size : Int)] (by rfl) rfl (news_new wr _ _ _ rfl) (by intro u hu; simp at hu; subst hu; rfl) (by unfold maxLen; omega) (by omega) hbA ?_); intro v1 w1 own1 hg1 hH1; clear hH1)
      have g1 := own_grown OA.out hg1 w hbs fA
      have hs1 : base ≤ w1.heap.size := Nat.le_trans hbA hg1.size
      have y0' := (g1.cell (p := ad.add (j * 3)) hlt).trans D0.out
      have O1 := Lib.hid own1
      clear own1 y0
      have hconv3 := run_bytes_of_string (P := Tryd.prog) w1 9 93 5 pk Tryd.underlying9 Tryd.underlying93 Tryd.underlying5
      have hcells3 := convT w1.drew pk (grownCap w1 pk.size 0 5) 5 ((bytesRow pk (grownCap w1 pk.size 0 5)).size, (bytesRow pk (grownCap w1 pk.size 0 5)).size + 1) w1.heap.size rfl
      have eC3 : Ext w1 (w1.drew.alloc (.cells (bytesRow pk (grownCap w1 pk.size 0 5)) 5 ((bytesRow pk (grownCap w1 pk.size 0 5)).size, (bytesRow pk (grownCap w1 pk.size 0 5)).size + 1))) := (Ext.refl _).drew.alloc _
      have OC3 := Lib.hid (own_ext O1.out eC3)
      have fC3 := g1.trans eC3
      have hbC3 := Nat.le_trans hs1 eC3.size
      generalize w1.drew.alloc (.cells (bytesRow pk (grownCap w1 pk.size 0 5)) 5 ((bytesRow pk (grownCap w1 pk.size 0 5)).size, (bytesRow pk (grownCap w1 pk.size 0 5)).size + 1)) = wC3 at *
      generalize grownCap w1 pk.size 0 5 = cp3 at *
      have HC3 := Lib.hid hcells3
      clear hcells3
      go_upto_region 7 with (at_builtin; go_loud (refine wpList_append_own _ rfl _ _ 93 rfl base 5 i0 _ 1 1 Tryd.underlying93 hi0 hz0 hz1 hz2 rfl (by omega) v1 (L.length + 1) _ rfl OC3.out ⟨w1.heap.size, 0, none⟩ pk.size cp3 (Lib.strCells pk) rfl (strT_len pk) HC3.out (strT_one pk) (by unfold maxLen; omega) (by omega) hbC3 ?_); intro v3 w3 own3 hg3 hH3; clear hH3)
      have g3 := own_grown OC3.out hg3 w hbs fC3
      have hs3 : base ≤ w3.heap.size := Nat.le_trans hbC3 hg3.size
      have O3 := Lib.hid own3
      have y2 := (g3.cell (p := ⟨(ad.add (j * 3)).block, (ad.add (j * 3)).off + 2, none⟩) hlt).trans D2.out
      clear own3 y0'
      go_upto_if 34 with (fail)
      go_cut [3] (fun o wx => Ext w wx ∧ base ≤ wx.heap.size ∧ Hid (wx.ownsRow base 5 1 o (L.length + 1 + pk.size + 1) (bcells L ++ [.int .u8 (pk.size : Int)] ++ Lib.strCells pk ++ [.int .u8 gb])))
      case first =>
        as_aux_lemma =>
        have hgb := HGB.out
        cases pg with
        | true =>
          obtain rfl : gb = 1 := by rw [← hgb]; rfl
          have eB : Ext w3 (w3.alloc (.cells #[.int .u8 1] 5)) := (Ext.refl _).alloc _
          have OB := Lib.hid (own_ext O3.out eB)
          have fB := g3.trans eB
          have hbB := Nat.le_trans hs3 eB.size
          go_wp2_with (at_builtin; go_loud (refine wpList_append_own _ rfl _ _ 93 rfl base 5 i0 _ 1 1 Tryd.underlying93 hi0 hz0 hz1 hz2 rfl (by omega) v3 (L.length + 1 + pk.size) _ rfl OB.out ⟨w3.heap.size, 0, none⟩ 1 1 [.int .u8 1] (by rfl) rfl (news_new w3 _ _ _ rfl) (by intro u hu; simp at hu; subst hu; rfl) (by unfold maxLen; omega) (by omega) hbB ?_); intro v4 w4 own4 hg4 hH4; clear hH4)
          have g4 := own_grown OB.out hg4 w hbs fB
          have O4 := Lib.hid own4
          clear own4
          go_meet
          exact ⟨g4, Nat.le_trans hbB hg4.size, O4⟩
        | false =>
          obtain rfl : gb = 0 := by rw [← hgb]; rfl
          have eB : Ext w3 (w3.alloc (.cells #[.int .u8 0] 5)) := (Ext.refl _).alloc _
          have OB := Lib.hid (own_ext O3.out eB)
          have fB := g3.trans eB
          have hbB := Nat.le_trans hs3 eB.size
          go_wp2_with (at_builtin; go_loud (refine wpList_append_own _ rfl _ _ 93 rfl base 5 i0 _ 1 1 Tryd.underlying93 hi0 hz0 hz1 hz2 rfl (by omega) v3 (L.length + 1 + pk.size) _ rfl OB.out ⟨w3.heap.size, 0, none⟩ 1 1 [.int .u8 0] (by rfl) rfl (news_new w3 _ _ _ rfl) (by intro u hu; simp at hu; subst hu; rfl) (by unfold maxLen; omega) (by omega) hbB ?_); intro v4 w4 own4 hg4 hH4; clear hH4)
          have g4 := own_grown OB.out hg4 w hbs fB
          have O4 := Lib.hid own4
          clear own4
          go_meet
          exact ⟨g4, Nat.le_trans hbB hg4.size, O4⟩
      case rest =>
      as_aux_lemma =>
      obtain ⟨g4, hs4, O4⟩ := hcut
      have y1 := (g4.cell (p := ⟨(ad.add (j * 3)).block, (ad.add (j * 3)).off + 1, none⟩) hlt).trans D1.out
      have eB : Ext wc (wc.alloc (.cells #[.int .u8 (pv.size : Int)] 5)) := (Ext.refl _).alloc _
      have OB := Lib.hid (own_ext O4.out eB)
      have fB := g4.trans eB
      have hbB := Nat.le_trans hs4 eB.size
      clear y2
      go_upto_region 11 with (at_builtin; go_loud (refine wpList_append_own _ rfl _ _ 93 rfl base 5 i0 _ 1 1 Tryd.underlying93 hi0 hz0 hz1 hz2 rfl (by omega) u3 (L.length + 1 + pk.size + 1) _ rfl OB.out ⟨wc.heap.size, 0, none⟩ 1 1 [.int .u8 (pv.size : Int)] (by rfl) rfl (news_new wc _ _ _ rfl) (by intro u hu; simp at hu; subst hu; rfl) (by unfold maxLen; omega) (by omega) hbB ?_); intro v5 w5 own5 hg5 hH5; clear hH5)
      have g5 := own_grown OB.out hg5 w hbs fB
      have hs5 : base ≤ w5.heap.size := Nat.le_trans hbB hg5.size
      have y1' := (g5.cell (p := ⟨(ad.add (j * 3)).block, (ad.add (j * 3)).off + 1, none⟩) hlt).trans D1.out
      have O5 := Lib.hid own5
      clear own5 y1
      have hconv7 := run_bytes_of_string (P := Tryd.prog) w5 9 93 5 pv Tryd.underlying9 Tryd.underlying93 Tryd.underlying5
      have hcells7 := convT w5.drew pv (grownCap w5 pv.size 0 5) 5 ((bytesRow pv (grownCap w5 pv.size 0 5)).size, (bytesRow pv (grownCap w5 pv.size 0 5)).size + 1) w5.heap.size rfl
      have eC7 : Ext w5 (w5.drew.alloc (.cells (bytesRow pv (grownCap w5 pv.size 0 5)) 5 ((bytesRow pv (grownCap w5 pv.size 0 5)).size, (bytesRow pv (grownCap w5 pv.size 0 5)).size + 1))) := (Ext.refl _).drew.alloc _
      have OC7 := Lib.hid (own_ext O5.out eC7)
      have fC7 := g5.trans eC7
      have hbC7 := Nat.le_trans hs5 eC7.size
      generalize w5.drew.alloc (.cells (bytesRow pv (grownCap w5 pv.size 0 5)) 5 ((bytesRow pv (grownCap w5 pv.size 0 5)).size, (bytesRow pv (grownCap w5 pv.size 0 5)).size + 1)) = wC7 at *
      generalize grownCap w5 pv.size 0 5 = cp7 at *
      have HC7 := Lib.hid hcells7
      clear hcells7
      go_wp2_with (at_builtin; go_loud (refine wpList_append_own _ rfl _ _ 93 rfl base 5 i0 _ 1 1 Tryd.underlying93 hi0 hz0 hz1 hz2 rfl (by omega) v5 (L.length + 1 + pk.size + 1 + 1) _ rfl OC7.out ⟨w5.heap.size, 0, none⟩ pv.size cp7 (Lib.strCells pv) rfl (strT_len pv) HC7.out (strT_one pv) (by unfold maxLen; omega) (by omega) hbC7 ?_); intro v7 w7 own7 hg7 hH7; clear hH7)
      have g7 := own_grown OC7.out hg7 w hbs fC7
      have hs7 : base ≤ w7.heap.size := Nat.le_trans hbC7 hg7.size
      have O7 : Hid (OwnB w7 base v7 (bodyB (es.take (j + 1)))) := by
        show OwnB w7 _ _ _
        unfold OwnB
        rw [HNX.out, HPC.out, List.length_append, HPL.out]
        rw [show L.length + (pk.size + pv.size + 3) = L.length + 1 + pk.size + 1 + 1 + pv.size by omega]
        have := own7
        simp only [List.append_assoc, List.cons_append, List.nil_append] at this ⊢
        exact this
      clear own7
      go_roundw
      case rel => exact ⟨j + 1, by go_num, by omega, g7, O7⟩
      case measure => simp [intOf]; omega
    · obtain rfl : j = n := by omega
      have hlen : (bodyB es).length ≤ 403 * j := by
        have h1 := bodyB_len HOK.out
        rw [HX.out] at h1
        exact h1
      rw [List.take_of_length_le (by rw [HX.out]; exact Nat.le_refl _)] at hown
      have hhl : (headB es).length = (bodyB es).length + 4 := by unfold headB; rw [List.length_append]; rfl
      have hhd : bodyB es ++ fourB (j : Int) = headB es := by unfold headB; rw [HX.out]
      have hfin : tabB es = ⟨(headB es ++ fourB (sumL (headB es))).toArray⟩ := rfl
      have hfl : (headB es ++ fourB (sumL (headB es))).length = (headB es).length + 4 := by rw [List.length_append]; rfl
      have hsb := sumL_bd (headB es)
      have HHD := Lib.hid hhd
      obtain ⟨hd, HD⟩ : ∃ x, Hid (headB es = x) := ⟨_, rfl⟩
      rw [HD.out] at hhl hfl hsb hfin HHD
      rw [HRS.out] at hfin
      have HFIN := Lib.hid hfin
      have hbr : base ≤ wr.heap.size := by rw [← hbase]; exact hbw.size
      have HHL := Lib.hid hhl
      have HFL := Lib.hid hfl
      obtain ⟨bl, hbl⟩ : ∃ x, (bodyB es).length = x := ⟨_, rfl⟩
      rw [hbl] at HHL hlen
      have HF1 := Lib.hid (RFour_any (j : Int) _ base (bodyB es) w wr (by omega) (by omega) hbw hbs hbr (by omega) hown.out)
      rw [HHD.out] at HF1
      clear hhd hfin hbl hown hc hj hhl hfl
      go_wp2_with fail
      refine HF1.out.mono ?_
      rintro _ w2 ⟨⟨v2, rfl, o2⟩, g2, hs2⟩
      obtain ⟨ad2, c2, -, hcv2⟩ := str_b o2 (by have := HHL.out; omega)
      have HO2 := Lib.hid o2
      clear o2 HF1
      go_wp2_with fail
      refine (RSum_any ⟨hd.toArray⟩ w2 (by unfold maxLen; show hd.toArray.size ≤ _; rw [List.size_toArray]; have := HHL.out; omega)).mono ?_
      obtain ⟨sm, HSM⟩ : ∃ x, Hid (sumL hd = x) := ⟨_, rfl⟩
      rw [HSM.out] at hsb HFIN HFL
      rw [show sumL (⟨hd.toArray⟩ : ByteArray).data.toList = sm from HSM.out]
      rintro _ _ ⟨rfl, rfl⟩
      have HF2 := Lib.hid (RFour_any sm _ base hd w w2 hsb.1 (by omega) g2 hbs hs2 (by have := HHL.out; omega) HO2.out)
      go_wp2_with fail
      refine HF2.out.mono ?_
      rintro _ w4 ⟨⟨v4, rfl, o4⟩, g4, hs4⟩
      obtain ⟨ad4, c4, -, hcv4⟩ := str_b o4 (by have := HFL.out; omega)
      rw [← HFIN.out] at hcv4
      clear o4
      go_wp2_with fail
      go_ret
      exact ⟨rfl, g4⟩
end Go.Proofs.YtnafegofmbhahaaDoor
