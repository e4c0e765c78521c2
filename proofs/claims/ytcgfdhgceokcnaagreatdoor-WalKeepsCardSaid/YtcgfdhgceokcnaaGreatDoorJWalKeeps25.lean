/- the references' sum of bytes. -/
import Derived.Test.YtcgfdhgceokcnaaGreatDoorJWalKeeps18
import Derived.Lib.SlicesS
import Derived.Deep.DeepCutAuto
import Derived.Deep.CutRange
import Derived.Test.YtcgfdhgceokcnaaGreatDoorJWalKeeps24
import Derived.Test.YtcgfdhgceokcnaaGreatDoorJWalKeeps21
import Derived.BigQuiet
namespace Go.Proofs.YtcgfdhgceokcnaaGreatDoor
open Go.RowKit Go.WideShapes
set_option linter.unusedVariables false
attribute [local go_sem ↓] Go.wp_at_zero Go.wp_at_succ

theorem sumL_takeT (s : ByteArray) (k : Nat) (h : k < s.size) : sumL (s.data.toList.take (k + 1)) = (sumL (s.data.toList.take k) * 131 + (s[k].toNat : Int) + 1) % 2147483647 := sumL_take s.data.toList k h
set_option maxRecDepth 100000 in
theorem RTSum_any (s : ByteArray) (w : World) (hs : s.size ≤ maxLen) :
    Calls Tryz.prog 78 #[.string s] w fun e w' => e = .returned (.int .i64 (sumL s.data.toList)) ∧ w = w' := by
  unfold maxLen at hs
  go_enter Tryz.func78, Tryz.ntmps78
  go_wp2_with fail
  go_loop [3, 4] (fun n i => ∃ k : Nat, k ≤ s.size ∧ i = .int .i64 k ∧ n = .int .i64 (sumL (s.data.toList.take k))) (fun _ i => s.size - (intOf i).toNat)
  case atStart => exact ⟨0, Nat.zero_le _, rfl, rfl⟩
  case round =>
    obtain ⟨k, hk, rfl, rfl⟩ := hrel
    by_cases hlt : k < s.size
    · obtain ⟨hb0, hb1⟩ := sumL_bd (s.data.toList.take k)
      have HS := Lib.hid (sumL_takeT s k hlt)
      have hb2 : s[k].toNat < 256 := UInt8.toNat_lt _
      generalize sumL (s.data.toList.take k) = t at *
      go_wp2_with fail
      go_round
      case rel => exact ⟨k + 1, by omega, by go_num, by rw [HS.out]⟩
      case measure => simp [intOf]; omega
    · go_wp2_with fail
      go_ret
      exact ⟨ret_int (by rw [List.take_of_length_le (by simp; omega)]), rfl⟩

end Go.Proofs.YtcgfdhgceokcnaaGreatDoor

/- the references' table: four, Table. -/
namespace Go.Proofs.YtcgfdhgceokcnaaGreatDoor
open Go.RowKit Go.WideShapes
set_option linter.unusedVariables false
attribute [local go_sem ↓] Go.wp_at_zero Go.wp_at_succ

theorem strT_len (s : ByteArray) : (Lib.strCells s).length = s.size * 1 := by unfold Lib.strCells; rw [List.length_map, Nat.mul_one]; rfl
theorem strT_one (s : ByteArray) : ∀ u ∈ Lib.strCells s, u.oneCell' = true := by
  intro u hu
  unfold Lib.strCells at hu
  rw [List.mem_map] at hu
  obtain ⟨x, _, rfl⟩ := hu
  rfl
theorem convT (w : World) (s : ByteArray) (cap : Nat) (e : TypeId) (m : Nat × Nat) (H : Nat) (hH : w.heap.size = H) : ∀ j u, (Lib.strCells s)[j]? = some u → (w.alloc (.cells (bytesRow s cap) e m)).cell? ((⟨H, 0, none⟩ : Addr).add j) = some u := by
  intro j u hu
  subst hH
  unfold Lib.strCells at hu
  rw [List.getElem?_map, Option.map_eq_some_iff] at hu
  obtain ⟨b, hb, rfl⟩ := hu
  obtain ⟨h1, h2⟩ := List.getElem?_eq_some_iff.1 hb
  have hj : j < s.data.size := by simpa using h1
  rw [add_mk, Nat.zero_add, World.cell?_alloc_mark]
  rw [bytesRow_at s cap j hj]
  have : s.data[j] = b := by simpa using h2
  rw [this]

set_option maxRecDepth 100000 in
set_option maxHeartbeats 1000000 in
theorem RFour_any (n : Int) (v : Value) (base : Nat) (l : List UInt8) (w0 w : World) (h0 : 0 ≤ n) (h1 : n < 2147483648) (hw : Ext w0 w) (hb : w0.heap.size ≤ base) (hbw : base ≤ w.heap.size) (hm : l.length ≤ 100000000000) (hown : OwnB w base v l) :
    Calls Tryz.prog 77 #[v, .int .i64 n] w fun e w' => (∃ v', e = .returned v' ∧ OwnB w' base v' (l ++ fourB n)) ∧ Ext w0 w' ∧ base ≤ w'.heap.size := by
  obtain ⟨i0, hi0, hz0, hz1, hz2⟩ := info_parts info_u8t
  have HF := Lib.hid (four_cells n h0 h1)
  have hq1 : n.tdiv 16777216 = n / 16777216 := Int.tdiv_eq_ediv_of_nonneg h0
  have hq2 : n.tdiv 65536 = n / 65536 := Int.tdiv_eq_ediv_of_nonneg h0
  have hq3 : n.tdiv 256 = n / 256 := Int.tdiv_eq_ediv_of_nonneg h0
  have hr2 : (n / 65536).tmod 256 = n / 65536 % 256 := Int.tmod_eq_emod_of_nonneg (by omega)
  have hr3 : (n / 256).tmod 256 = n / 256 % 256 := Int.tmod_eq_emod_of_nonneg (by omega)
  have hr4 : n.tmod 256 = n % 256 := Int.tmod_eq_emod_of_nonneg h0
  have e3 : Ext w (w.alloc (.cells #[.int .u8 (n / 16777216)] 5)) := (Ext.refl _).alloc _
  have O3 := Lib.hid (own_ext hown e3)
  have f3 := hw.trans e3
  have hb3 := Nat.le_trans hbw e3.size
  clear hown
  go_enter Tryz.func77, Tryz.ntmps77
  go_upto_region 2 with (at_builtin; go_loud (refine wpList_append_own _ rfl _ _ 61 rfl base 5 i0 _ 1 1 Tryz.underlying61 hi0 hz0 hz1 hz2 rfl (by omega) v l.length (bcells l) rfl O3.out ⟨w.heap.size, 0, none⟩ 1 1 [.int .u8 (n / 16777216)] (by rfl) rfl (news_new w _ _ _ rfl) (by intro u hu; simp at hu; subst hu; rfl) (by unfold maxLen; omega) (by omega) hb3 ?_); intro v1 w1 own1 hg1 hH1; clear hH1)
  have g1 := own_grown O3.out hg1 w0 hb f3
  have hs1 : base ≤ w1.heap.size := Nat.le_trans hb3 hg1.size
  have e4 : Ext w1 (w1.alloc (.cells #[.int .u8 (n / 65536 % 256)] 5)) := (Ext.refl _).alloc _
  have O4 := Lib.hid (own_ext own1 e4)
  have f4 := g1.trans e4
  have hb4 := Nat.le_trans hs1 e4.size
  clear own1
  go_upto_region 3 with (at_builtin; go_loud (refine wpList_append_own _ rfl _ _ 61 rfl base 5 i0 _ 1 1 Tryz.underlying61 hi0 hz0 hz1 hz2 rfl (by omega) v1 (l.length + 1) ((bcells l) ++ [.int .u8 (n / 16777216)]) rfl O4.out ⟨w1.heap.size, 0, none⟩ 1 1 [.int .u8 (n / 65536 % 256)] (by rfl) rfl (news_new w1 _ _ _ rfl) (by intro u hu; simp at hu; subst hu; rfl) (by unfold maxLen; omega) (by omega) hb4 ?_); intro v2 w2 own2 hg2 hH2; clear hH2)
  have g2 := own_grown O4.out hg2 w0 hb f4
  have hs2 : base ≤ w2.heap.size := Nat.le_trans hb4 hg2.size
  have e5 : Ext w2 (w2.alloc (.cells #[.int .u8 (n / 256 % 256)] 5)) := (Ext.refl _).alloc _
  have O5 := Lib.hid (own_ext own2 e5)
  have f5 := g2.trans e5
  have hb5 := Nat.le_trans hs2 e5.size
  clear own2
  go_upto_region 4 with (at_builtin; go_loud (refine wpList_append_own _ rfl _ _ 61 rfl base 5 i0 _ 1 1 Tryz.underlying61 hi0 hz0 hz1 hz2 rfl (by omega) v2 ((l.length + 1) + 1) (((bcells l) ++ [.int .u8 (n / 16777216)]) ++ [.int .u8 (n / 65536 % 256)]) rfl O5.out ⟨w2.heap.size, 0, none⟩ 1 1 [.int .u8 (n / 256 % 256)] (by rfl) rfl (news_new w2 _ _ _ rfl) (by intro u hu; simp at hu; subst hu; rfl) (by unfold maxLen; omega) (by omega) hb5 ?_); intro v3 w3 own3 hg3 hH3; clear hH3)
  have g3 := own_grown O5.out hg3 w0 hb f5
  have hs3 : base ≤ w3.heap.size := Nat.le_trans hb5 hg3.size
  have e6 : Ext w3 (w3.alloc (.cells #[.int .u8 (n % 256)] 5)) := (Ext.refl _).alloc _
  have O6 := Lib.hid (own_ext own3 e6)
  have f6 := g3.trans e6
  have hb6 := Nat.le_trans hs3 e6.size
  clear own3
  go_wp2_with (at_builtin; go_loud (refine wpList_append_own _ rfl _ _ 61 rfl base 5 i0 _ 1 1 Tryz.underlying61 hi0 hz0 hz1 hz2 rfl (by omega) v3 (((l.length + 1) + 1) + 1) ((((bcells l) ++ [.int .u8 (n / 16777216)]) ++ [.int .u8 (n / 65536 % 256)]) ++ [.int .u8 (n / 256 % 256)]) rfl O6.out ⟨w3.heap.size, 0, none⟩ 1 1 [.int .u8 (n % 256)] (by rfl) rfl (news_new w3 _ _ _ rfl) (by intro u hu; simp at hu; subst hu; rfl) (by unfold maxLen; omega) (by omega) hb6 ?_); intro v4 w4 own4 hg4 hH4; clear hH4)
  have g4 := own_grown O6.out hg4 w0 hb f6
  have hs4 : base ≤ w4.heap.size := Nat.le_trans hb6 hg4.size
  have O9 := Lib.hid own4
  clear own4
  go_ret
  refine ⟨⟨v4, rfl, ?_⟩, g4, hs4⟩
  unfold OwnB
  rw [bcells_append, HF.out, List.length_append]
  have := O9.out
  simp only [List.append_assoc, List.cons_append, List.nil_append, Nat.add_assoc] at this
  exact this

set_option maxRecDepth 100000 in
set_option maxHeartbeats 2000000 in
theorem RTable_any (A : Option Addr) (n c : Nat) (es : List Pr) (w : World) (hr : Rd w 3 A n c (es.flatMap Pr.cells)) (hm : c ≤ maxLen) (hn : n ≤ 200000000) (hok : ∀ p ∈ es, PrOk p) :
    Calls Tryz.prog 42 #[.slice A n c] w fun e w' => e = .returned (.string (tabB es)) ∧ Ext w w' := by
  have hms : c ≤ 9223372036854775807 := by unfold maxLen at hm; omega
  have hl := hr.2.1
  have HX := Lib.hid hr.lenP
  have HOK := Lib.hid hok
  obtain ⟨rs, HRS⟩ : ∃ x, Hid (tabB es = x) := ⟨_, rfl⟩
  rw [HRS.out]
  obtain ⟨base, hbase⟩ : ∃ b, w.heap.size = b := ⟨_, rfl⟩
  have hbs : w.heap.size ≤ base := Nat.le_of_eq hbase
  have H0 : Hid (OwnB w base (.slice none 0 0) (bodyB (es.take 0))) := own_nil _ _ _ _
  obtain ⟨i0, hi0, hz0, hz1, hz2⟩ := info_parts info_u8t
  clear hok
  go_enter Tryz.func42, Tryz.ntmps42
  go_wp2_with fail
  go_loopw [3, 4] (fun b x wr => ∃ j : Nat, x = .int .i64 j ∧ j ≤ n ∧ Ext w wr ∧ Hid (OwnB wr base b (bodyB (es.take j)))) (fun _ x _ => n - (intOf x).toNat)
  case atStart => exact ⟨0, rfl, Nat.zero_le _, Ext.refl _, H0⟩
  case round =>
    obtain ⟨j, rfl, hj, hbw, hown⟩ := hrel
    by_cases hc : j < n
    · have hgj := List.getElem?_eq_getElem (l := es) (i := j) (by rw [HX.out]; exact hc)
      obtain ⟨ad, rfl, hb0, d0, d1, d2⟩ := hr.getP hgj
      have hok := HOK.out _ (List.mem_of_getElem? hgj)
      have hlen : (bodyB (es.take j)).length ≤ 403 * j := by
        have h1 := bodyB_len (es := es.take j) fun q hq => HOK.out q (List.mem_of_mem_take hq)
        have h2 : (es.take j).length ≤ j := by rw [List.length_take]; omega
        omega
      have hnext : bodyB (es.take (j + 1)) = bodyB (es.take j) ++ pairB (es[j]'(by rw [HX.out]; exact hc)) := by
        rw [List.take_succ_eq_append_getElem (by rw [HX.out]; exact hc), bodyB_snoc]
      generalize es[j]'(by rw [HX.out]; exact hc) = p at *
      have hpl := pairB_len p
      have hpc := pair_cells hok (bodyB (es.take j))
      obtain ⟨pk, pv, pg⟩ := p
      have hk3 := (keyK_zero.1 hok.1).2
      have hv3 := hok.2.1
      simp only at d0 d1 d2 hpl hpc hk3 hv3
      have hlt : (ad.add (j * 3)).block < w.heap.size := by rw [blk_add]; exact hb0
      obtain ⟨L, HL⟩ : ∃ L, Hid (bodyB (es.take j) = L) := ⟨_, rfl⟩
      rw [HL.out] at hlen hpc hown hnext
      have HNX := Lib.hid hnext
      have HPL := Lib.hid hpl
      obtain ⟨gb, HGB⟩ : ∃ x, Hid (goneN pg = x) := ⟨_, rfl⟩
      rw [HGB.out] at hpc
      have HPC := Lib.hid hpc
      have D0 := Lib.hid d0
      have D1 := Lib.hid d1
      have D2 := Lib.hid d2
      have y0 := (hbw.cell (p := ad.add (j * 3)) hlt).trans d0
      have hk256 : (pk.size : Int) % 256 = (pk.size : Int) := by omega
      have hv256 : (pv.size : Int) % 256 = (pv.size : Int) := by omega
      have hbr : base ≤ wr.heap.size := by rw [← hbase]; exact hbw.size
      have ow := hown.out
      unfold OwnB at ow
      have eA : Ext wr (wr.alloc (.cells #[.int .u8 (pk.size : Int)] 5)) := (Ext.refl _).alloc _
      have OA := Lib.hid (own_ext ow eA)
      have fA := hbw.trans eA
      have hbA := Nat.le_trans hbr eA.size
      clear hgj hnext hpl hpc hok hown d0 d1 d2 ow
      go_upto_region 6 with (at_builtin; go_loud (refine wpList_append_own _ rfl _ _ 61 rfl base 5 i0 _ 1 1 Tryz.underlying61 hi0 hz0 hz1 hz2 rfl (by omega) u3 L.length (bcells L) rfl OA.out ⟨wr.heap.size, 0, none⟩ 1 1 [.int .u8 (pk.size : Int)] (by rfl) rfl (news_new wr _ _ _ rfl) (by intro u hu; simp at hu; subst hu; rfl) (by unfold maxLen; omega) (by omega) hbA ?_); intro v1 w1 own1 hg1 hH1; clear hH1)
      have g1 := own_grown OA.out hg1 w hbs fA
      have hs1 : base ≤ w1.heap.size := Nat.le_trans hbA hg1.size
      have y0' := (g1.cell (p := ad.add (j * 3)) hlt).trans D0.out
      have O1 := Lib.hid own1
      clear own1 y0
      have hconv3 := run_bytes_of_string (P := Tryz.prog) w1 9 61 5 pk Tryz.underlying9 Tryz.underlying61 Tryz.underlying5
      have hcells3 := convT w1.drew pk (grownCap w1 pk.size 0 5) 5 ((bytesRow pk (grownCap w1 pk.size 0 5)).size, (bytesRow pk (grownCap w1 pk.size 0 5)).size + 1) w1.heap.size rfl
      have eC3 : Ext w1 (w1.drew.alloc (.cells (bytesRow pk (grownCap w1 pk.size 0 5)) 5 ((bytesRow pk (grownCap w1 pk.size 0 5)).size, (bytesRow pk (grownCap w1 pk.size 0 5)).size + 1))) := (Ext.refl _).drew.alloc _
      have OC3 := Lib.hid (own_ext O1.out eC3)
      have fC3 := g1.trans eC3
      have hbC3 := Nat.le_trans hs1 eC3.size
      generalize w1.drew.alloc (.cells (bytesRow pk (grownCap w1 pk.size 0 5)) 5 ((bytesRow pk (grownCap w1 pk.size 0 5)).size, (bytesRow pk (grownCap w1 pk.size 0 5)).size + 1)) = wC3 at *
      generalize grownCap w1 pk.size 0 5 = cp3 at *
      have HC3 := Lib.hid hcells3
      clear hcells3
      go_upto_region 7 with (at_builtin; go_loud (refine wpList_append_own _ rfl _ _ 61 rfl base 5 i0 _ 1 1 Tryz.underlying61 hi0 hz0 hz1 hz2 rfl (by omega) v1 (L.length + 1) _ rfl OC3.out ⟨w1.heap.size, 0, none⟩ pk.size cp3 (Lib.strCells pk) rfl (strT_len pk) HC3.out (strT_one pk) (by unfold maxLen; omega) (by omega) hbC3 ?_); intro v3 w3 own3 hg3 hH3; clear hH3)
      have g3 := own_grown OC3.out hg3 w hbs fC3
      have hs3 : base ≤ w3.heap.size := Nat.le_trans hbC3 hg3.size
      have O3 := Lib.hid own3
      have y2 := (g3.cell (p := ⟨(ad.add (j * 3)).block, (ad.add (j * 3)).off + 2, none⟩) hlt).trans D2.out
      clear own3 y0'
      go_upto_if 34 with (fail)
      go_cut [3] (fun o wx => Ext w wx ∧ base ≤ wx.heap.size ∧ Hid (wx.ownsRow base 5 1 o (L.length + 1 + pk.size + 1) (bcells L ++ [.int .u8 (pk.size : Int)] ++ Lib.strCells pk ++ [.int .u8 gb])))
      case first =>
        as_aux_lemma =>
        have hgb := HGB.out
        cases pg with
        | true =>
          obtain rfl : gb = 1 := by rw [← hgb]; rfl
          have eB : Ext w3 (w3.alloc (.cells #[.int .u8 1] 5)) := (Ext.refl _).alloc _
          have OB := Lib.hid (own_ext O3.out eB)
          have fB := g3.trans eB
          have hbB := Nat.le_trans hs3 eB.size
          go_wp2_with (at_builtin; go_loud (refine wpList_append_own _ rfl _ _ 61 rfl base 5 i0 _ 1 1 Tryz.underlying61 hi0 hz0 hz1 hz2 rfl (by omega) v3 (L.length + 1 + pk.size) _ rfl OB.out ⟨w3.heap.size, 0, none⟩ 1 1 [.int .u8 1] (by rfl) rfl (news_new w3 _ _ _ rfl) (by intro u hu; simp at hu; subst hu; rfl) (by unfold maxLen; omega) (by omega) hbB ?_); intro v4 w4 own4 hg4 hH4; clear hH4)
          have g4 := own_grown OB.out hg4 w hbs fB
          have O4 := Lib.hid own4
          clear own4
          go_meet
          exact ⟨g4, Nat.le_trans hbB hg4.size, O4⟩
        | false =>
          obtain rfl : gb = 0 := by rw [← hgb]; rfl
          have eB : Ext w3 (w3.alloc (.cells #[.int .u8 0] 5)) := (Ext.refl _).alloc _
          have OB := Lib.hid (own_ext O3.out eB)
          have fB := g3.trans eB
          have hbB := Nat.le_trans hs3 eB.size
          go_wp2_with (at_builtin; go_loud (refine wpList_append_own _ rfl _ _ 61 rfl base 5 i0 _ 1 1 Tryz.underlying61 hi0 hz0 hz1 hz2 rfl (by omega) v3 (L.length + 1 + pk.size) _ rfl OB.out ⟨w3.heap.size, 0, none⟩ 1 1 [.int .u8 0] (by rfl) rfl (news_new w3 _ _ _ rfl) (by intro u hu; simp at hu; subst hu; rfl) (by unfold maxLen; omega) (by omega) hbB ?_); intro v4 w4 own4 hg4 hH4; clear hH4)
          have g4 := own_grown OB.out hg4 w hbs fB
          have O4 := Lib.hid own4
          clear own4
          go_meet
          exact ⟨g4, Nat.le_trans hbB hg4.size, O4⟩
      case rest =>
      as_aux_lemma =>
      obtain ⟨g4, hs4, O4⟩ := hcut
      have y1 := (g4.cell (p := ⟨(ad.add (j * 3)).block, (ad.add (j * 3)).off + 1, none⟩) hlt).trans D1.out
      have eB : Ext wc (wc.alloc (.cells #[.int .u8 (pv.size : Int)] 5)) := (Ext.refl _).alloc _
      have OB := Lib.hid (own_ext O4.out eB)
      have fB := g4.trans eB
      have hbB := Nat.le_trans hs4 eB.size
      clear y2
      go_upto_region 11 with (at_builtin; go_loud (refine wpList_append_own _ rfl _ _ 61 rfl base 5 i0 _ 1 1 Tryz.underlying61 hi0 hz0 hz1 hz2 rfl (by omega) u3 (L.length + 1 + pk.size + 1) _ rfl OB.out ⟨wc.heap.size, 0, none⟩ 1 1 [.int .u8 (pv.size : Int)] (by rfl) rfl (news_new wc _ _ _ rfl) (by intro u hu; simp at hu; subst hu; rfl) (by unfold maxLen; omega) (by omega) hbB ?_); intro v5 w5 own5 hg5 hH5; clear hH5)
      have g5 := own_grown OB.out hg5 w hbs fB
      have hs5 : base ≤ w5.heap.size := Nat.le_trans hbB hg5.size
      have y1' := (g5.cell (p := ⟨(ad.add (j * 3)).block, (ad.add (j * 3)).off + 1, none⟩) hlt).trans D1.out
      have O5 := Lib.hid own5
      clear own5 y1
      have hconv7 := run_bytes_of_string (P := Tryz.prog) w5 9 61 5 pv Tryz.underlying9 Tryz.underlying61 Tryz.underlying5
      have hcells7 := convT w5.drew pv (grownCap w5 pv.size 0 5) 5 ((bytesRow pv (grownCap w5 pv.size 0 5)).size, (bytesRow pv (grownCap w5 pv.size 0 5)).size + 1) w5.heap.size rfl
      have eC7 : Ext w5 (w5.drew.alloc (.cells (bytesRow pv (grownCap w5 pv.size 0 5)) 5 ((bytesRow pv (grownCap w5 pv.size 0 5)).size, (bytesRow pv (grownCap w5 pv.size 0 5)).size + 1))) := (Ext.refl _).drew.alloc _
      have OC7 := Lib.hid (own_ext O5.out eC7)
      have fC7 := g5.trans eC7
      have hbC7 := Nat.le_trans hs5 eC7.size
      generalize w5.drew.alloc (.cells (bytesRow pv (grownCap w5 pv.size 0 5)) 5 ((bytesRow pv (grownCap w5 pv.size 0 5)).size, (bytesRow pv (grownCap w5 pv.size 0 5)).size + 1)) = wC7 at *
      generalize grownCap w5 pv.size 0 5 = cp7 at *
      have HC7 := Lib.hid hcells7
      clear hcells7
      go_wp2_with (at_builtin; go_loud (refine wpList_append_own _ rfl _ _ 61 rfl base 5 i0 _ 1 1 Tryz.underlying61 hi0 hz0 hz1 hz2 rfl (by omega) v5 (L.length + 1 + pk.size + 1 + 1) _ rfl OC7.out ⟨w5.heap.size, 0, none⟩ pv.size cp7 (Lib.strCells pv) rfl (strT_len pv) HC7.out (strT_one pv) (by unfold maxLen; omega) (by omega) hbC7 ?_); intro v7 w7 own7 hg7 hH7; clear hH7)
      have g7 := own_grown OC7.out hg7 w hbs fC7
      have hs7 : base ≤ w7.heap.size := Nat.le_trans hbC7 hg7.size
      have O7 : Hid (OwnB w7 base v7 (bodyB (es.take (j + 1)))) := by
        show OwnB w7 _ _ _
        unfold OwnB
        rw [HNX.out, HPC.out, List.length_append, HPL.out]
        rw [show L.length + (pk.size + pv.size + 3) = L.length + 1 + pk.size + 1 + 1 + pv.size by omega]
        have := own7
        simp only [List.append_assoc, List.cons_append, List.nil_append] at this ⊢
        exact this
      clear own7
      go_roundw
      case rel => exact ⟨j + 1, by go_num, by omega, g7, O7⟩
      case measure => simp [intOf]; omega
    · obtain rfl : j = n := by omega
      have hlen : (bodyB es).length ≤ 403 * j := by
        have h1 := bodyB_len HOK.out
        rw [HX.out] at h1
        exact h1
      rw [List.take_of_length_le (by rw [HX.out]; exact Nat.le_refl _)] at hown
      have hhl : (tabhB es).length = (bodyB es).length + 4 := by unfold tabhB; rw [List.length_append]; rfl
      have hhd : bodyB es ++ fourB (j : Int) = tabhB es := by unfold tabhB; rw [HX.out]
      have hfin : tabB es = ⟨(tabhB es ++ fourB (sumL (tabhB es))).toArray⟩ := rfl
      have hfl : (tabhB es ++ fourB (sumL (tabhB es))).length = (tabhB es).length + 4 := by rw [List.length_append]; rfl
      have hsb := sumL_bd (tabhB es)
      have HHD := Lib.hid hhd
      obtain ⟨hd, HD⟩ : ∃ x, Hid (tabhB es = x) := ⟨_, rfl⟩
      rw [HD.out] at hhl hfl hsb hfin HHD
      rw [HRS.out] at hfin
      have HFIN := Lib.hid hfin
      have hbr : base ≤ wr.heap.size := by rw [← hbase]; exact hbw.size
      have HHL := Lib.hid hhl
      have HFL := Lib.hid hfl
      obtain ⟨bl, hbl⟩ : ∃ x, (bodyB es).length = x := ⟨_, rfl⟩
      rw [hbl] at HHL hlen
      have HF1 := Lib.hid (RFour_any (j : Int) _ base (bodyB es) w wr (by omega) (by omega) hbw hbs hbr (by omega) hown.out)
      rw [HHD.out] at HF1
      clear hhd hfin hbl hown hc hj hhl hfl
      go_wp2_with fail
      refine HF1.out.mono ?_
      rintro _ w2 ⟨⟨v2, rfl, o2⟩, g2, hs2⟩
      obtain ⟨ad2, c2, -, hcv2⟩ := str_b o2 (by have := HHL.out; omega)
      have HO2 := Lib.hid o2
      clear o2 HF1
      go_wp2_with fail
      refine (RTSum_any ⟨hd.toArray⟩ w2 (by unfold maxLen; show hd.toArray.size ≤ _; rw [List.size_toArray]; have := HHL.out; omega)).mono ?_
      obtain ⟨sm, HSM⟩ : ∃ x, Hid (sumL hd = x) := ⟨_, rfl⟩
      rw [HSM.out] at hsb HFIN HFL
      rw [show sumL (⟨hd.toArray⟩ : ByteArray).data.toList = sm from HSM.out]
      rintro _ _ ⟨rfl, rfl⟩
      have HF2 := Lib.hid (RFour_any sm _ base hd w w2 hsb.1 (by omega) g2 hbs hs2 (by have := HHL.out; omega) HO2.out)
      go_wp2_with fail
      refine HF2.out.mono ?_
      rintro _ w4 ⟨⟨v4, rfl, o4⟩, g4, hs4⟩
      obtain ⟨ad4, c4, -, hcv4⟩ := str_b o4 (by have := HFL.out; omega)
      rw [← HFIN.out] at hcv4
      clear o4
      go_wp2_with fail
      go_ret
      exact ⟨rfl, g4⟩
end Go.Proofs.YtcgfdhgceokcnaaGreatDoor

/- the references' lsm in memory; Merge, Flush. -/
namespace Go.Proofs.YtcgfdhgceokcnaaGreatDoor
open Go.RowKit Go.WideShapes
set_option linter.unusedVariables false
attribute [local go_sem ↓] Go.wp_at_zero Go.wp_at_succ

structure RAt (w : World) (mb : Nat) (lim : Int) (Y : List Pr) (T : List (List Pr)) (yv lv : Value) (vs : List Value) : Prop where
  bk : Bk w mb 41 #[.int .i64 lim, yv, lv]
  yo : w.ownsRow 0 31 3 yv Y.length (Y.flatMap Pr.cells)
  lo : w.ownsRow 0 32 1 lv T.length vs
  ls : OwLs w vs T
def RFoot (mb : Nat) (yv lv : Value) (vs : List Value) (g : Nat) : Prop := g = mb ∨ yv.ownBlock = some g ∨ lv.ownBlock = some g ∨ ∃ v ∈ vs, v.ownBlock = some g
theorem OwLs.mem {w : World} {vs : List Value} {T : List (List Pr)} (h : OwLs w vs T) {v : Value} (hv : v ∈ vs) : ∃ es, w.ownsRow 0 31 3 v es.length ((es : List Pr).flatMap Pr.cells) := by
  obtain ⟨i, hi⟩ := List.getElem?_of_mem hv
  obtain ⟨es, hes⟩ : ∃ es, T[i]? = some es := ⟨_, List.getElem?_eq_getElem (by rw [← h.1]; exact (List.getElem?_eq_some_iff.1 hi).1)⟩
  exact ⟨es, h.2 i v es hi hes⟩
theorem RAt.lt {w : World} {mb : Nat} {lim : Int} {Y : List Pr} {T : List (List Pr)} {yv lv : Value} {vs : List Value} (h : RAt w mb lim Y T yv lv vs) {g : Nat} (hg : RFoot mb yv lv vs g) : g < w.heap.size := by
  rcases hg with rfl | hg | hg | ⟨v, hv, hg⟩
  · exact h.bk.lt
  · exact (h.yo.lt _ hg).2
  · exact (h.lo.lt _ hg).2
  · obtain ⟨es, he⟩ := h.ls.mem hv
    exact (he.lt _ hg).2
theorem OwLs.chg {w w' : World} {vs : List Value} {T : List (List Pr)} {S : Nat → Prop} (h : OwLs w vs T) (k : Chg w w' S) (hS : ∀ v ∈ vs, ∀ g, v.ownBlock = some g → ¬ S g) : OwLs w' vs T :=
  ⟨h.1, fun i v es hv hT => own_chg (h.2 i v es hv hT) k (hS v (List.mem_of_getElem? hv))⟩
theorem RAt.chg {w w' : World} {mb : Nat} {lim : Int} {Y : List Pr} {T : List (List Pr)} {yv lv : Value} {vs : List Value} {S : Nat → Prop} (h : RAt w mb lim Y T yv lv vs) (k : Chg w w' S) (hS : ∀ g, RFoot mb yv lv vs g → ¬ S g) : RAt w' mb lim Y T yv lv vs :=
  ⟨h.bk.chg k (hS _ (.inl rfl)), own_chg h.yo k fun g hg => hS g (.inr (.inl hg)), own_chg h.lo k fun g hg => hS g (.inr (.inr (.inl hg))), h.ls.chg k fun v hv g hg => hS g (.inr (.inr (.inr ⟨v, hv, hg⟩)))⟩
theorem RAt.ext {w w' : World} {mb : Nat} {lim : Int} {Y : List Pr} {T : List (List Pr)} {yv lv : Value} {vs : List Value} (h : RAt w mb lim Y T yv lv vs) (k : Ext w w') : RAt w' mb lim Y T yv lv vs :=
  h.chg (k.chg fun _ => False) fun _ _ h => h
/-- its block is written, the rows are others, or the same -/
theorem RAt.made {w w' : World} {mb : Nat} {lim : Int} {Y Y' : List Pr} {T T' : List (List Pr)} {yv lv yv' lv' : Value} {vs vs' : List Value} (h : RAt w mb lim Y T yv lv vs) (k : Chg w w' (fun g => g = mb)) (hb : Bk w' mb 41 #[.int .i64 lim, yv', lv'])
    (hy : w.ownsRow 0 31 3 yv' Y'.length (Y'.flatMap Pr.cells)) (hl : w.ownsRow 0 32 1 lv' T'.length vs') (hs : OwLs w vs' T') : RAt w' mb lim Y' T' yv' lv' vs' :=
  ⟨hb, own_chg hy k fun g hg e => own_type hy h.bk (by decide) (by rw [← e]; exact hg), own_chg hl k fun g hg e => own_type hl h.bk (by decide) (by rw [← e]; exact hg),
    hs.chg k fun v hv g hg e => by
      obtain ⟨es, he⟩ := hs.mem hv
      exact own_type he h.bk (by decide) (by rw [← e]; exact hg)⟩
def RM (w : World) (G : Nat → Prop) (mb : Nat) (lim : Int) (Y : List Pr) (T : List (List Pr)) : Prop :=
  ∃ yv lv vs, RAt w mb lim Y T yv lv vs ∧ ∀ g, RFoot mb yv lv vs g → G g
theorem RM.chg {w w' : World} {G S : Nat → Prop} {mb : Nat} {lim : Int} {Y : List Pr} {T : List (List Pr)} (h : RM w G mb lim Y T) (k : Chg w w' S) (hS : ∀ g, G g → ¬ S g) : RM w' G mb lim Y T := by
  obtain ⟨yv, lv, vs, hR, hG⟩ := h
  exact ⟨yv, lv, vs, hR.chg k fun g hg => hS g (hG g hg), hG⟩
theorem RM.ext {w w' : World} {G : Nat → Prop} {mb : Nat} {lim : Int} {Y : List Pr} {T : List (List Pr)} (h : RM w G mb lim Y T) (k : Ext w w') : RM w' G mb lim Y T := by
  obtain ⟨yv, lv, vs, hR, hG⟩ := h
  exact ⟨yv, lv, vs, hR.ext k, hG⟩
structure ROp (w w' : World) (G : Nat → Prop) (mb : Nat) (lim : Int) (Y : List Pr) (T : List (List Pr)) (G' : Nat → Prop) : Prop where
  at_ : RM w' G' mb lim Y T
  chg1 : Chg w w' (fun g => g = mb)
  foot : G mb
  new : ∀ g, G' g → G g ∨ w.heap.size ≤ g
theorem ROp.chg {w w' : World} {G G' : Nat → Prop} {mb : Nat} {lim : Int} {Y : List Pr} {T : List (List Pr)} (h : ROp w w' G mb lim Y T G') : Chg w w' G := h.chg1.mono fun g _ hg => by rw [hg]; exact h.foot
theorem RM.foot {w : World} {G : Nat → Prop} {mb : Nat} {lim : Int} {Y : List Pr} {T : List (List Pr)} (h : RM w G mb lim Y T) : G mb := by
  obtain ⟨yv, lv, vs, hR, hG⟩ := h
  exact hG mb (.inl rfl)
theorem RM.op {w w' : World} {G : Nat → Prop} {mb : Nat} {lim : Int} {Y : List Pr} {T : List (List Pr)} (h : RM w G mb lim Y T) (k : Ext w w') : ROp w w' G mb lim Y T G := ⟨h.ext k, k.chg _, h.foot, fun g hg => .inl hg⟩
theorem ROp.trans {w w1 w2 : World} {G G1 G2 : Nat → Prop} {mb : Nat} {lim : Int} {Y Y' : List Pr} {T T' : List (List Pr)} (h : ROp w w1 G mb lim Y T G1) (k : ROp w1 w2 G1 mb lim Y' T' G2) : ROp w w2 G mb lim Y' T' G2 :=
  ⟨k.at_, h.chg1.trans k.chg1 fun g _ hg => hg, h.foot, fun g hg => (k.new g hg).elim (fun e => h.new g e) fun e => .inr (Nat.le_trans h.chg1.size e)⟩
/-- from what was made to what is left -/
theorem ROp.mk' {w w1 w' : World} {G : Nat → Prop} {mb : Nat} {lim : Int} {Y' : List Pr} {T' : List (List Pr)} {yv lv yv' lv' : Value} {vs vs' : List Value} (hG : ∀ g, RFoot mb yv lv vs g → G g) (e : Ext w w1) (k : Chg w1 w' (fun g => g = mb)) (hR : RAt w' mb lim Y' T' yv' lv' vs')
    (hy : ∀ g, yv'.ownBlock = some g → G g ∨ w.heap.size ≤ g) (hl : ∀ g, lv'.ownBlock = some g → G g ∨ w.heap.size ≤ g) (hs : ∀ v ∈ vs', ∀ g, v.ownBlock = some g → G g ∨ w.heap.size ≤ g) : ROp w w' G mb lim Y' T' (RFoot mb yv' lv' vs') :=
  ⟨⟨yv', lv', vs', hR, fun g hg => hg⟩, (e.chg _).trans k fun g _ hg => hg, hG _ (.inl rfl), fun g hg => by
    rcases hg with rfl | hg | hg | ⟨v, hv, hg⟩
    · exact .inl (hG _ (.inl rfl))
    · exact hy g hg
    · exact hl g hg
    · exact hs v hv g hg⟩
theorem set_chg (w : World) (b o : Nat) (v : Value) : Chg w (w.setCell ⟨b, o, none⟩ v) (fun g => g = b) := (gb_chg (gb_set w b o v)).mono fun g _ hg => by injection hg with hg; exact hg.symm

set_option maxRecDepth 100000 in
set_option maxHeartbeats 2000000 in
theorem RMerge_any (G : Nat → Prop) (mb : Nat) (lim : Int) (Y : List Pr) (T : List (List Pr)) (w : World) (h : RM w G mb lim Y T) (htot : totL T ≤ 1000) (hT8 : T.length ≤ 1000) :
    Calls Tryz.prog 103 #[.pointer (some ⟨mb, 0, none⟩)] w fun e w' => e = .returned (.int .i64 (mgK T)) ∧ ∃ G', ROp w w' G mb lim Y (mergeT T) G' := by
  have HM := Lib.hid h
  obtain ⟨yv, lv, vs, hR, hG⟩ := h
  obtain ⟨n, hn⟩ : ∃ n, T.length = n := ⟨_, rfl⟩
  have ow := hR.lo
  rw [hn] at ow
  obtain ⟨A, c, rfl, hc, hr, -⟩ := own_rd ow
  have HR := Lib.hid hR
  have HG := Lib.hid hG
  have HN := Lib.hid hn
  have c2 : w.cell? ⟨mb, 2, none⟩ = some (.slice A n c) := hR.bk.cell 2
  have HLC := Lib.hid (RLive_any A n c vs T w hr hc hR.ls.rd htot)
  clear ow hR hG hn htot hr
  by_cases h0 : n = 0
  · subst h0
    have hk : mgK T = 6 := if_pos HN.out
    have hmt : mergeT T = T := by rw [List.length_eq_zero_iff.1 HN.out]; rfl
    rw [hk, hmt]
    clear hk hmt
    go_enter Tryz.func103, Tryz.ntmps103
    go_wp2_with fail
    go_ret
    exact ⟨rfl, G, HM.out.op (Ext.refl _)⟩
  · have hk : mgK T = 0 := if_neg (by rw [HN.out]; exact h0)
    rw [hk]
    have h0i : ¬ (n : Int) = 0 := by omega
    obtain ⟨L, hLL⟩ : ∃ L, liveL T = L := ⟨_, rfl⟩
    have HLL := Lib.hid hLL
    rw [hLL] at HLC
    clear hk hLL h0
    go_enter Tryz.func103, Tryz.ntmps103
    go_wp2_with fail
    refine HLC.out.mono ?_
    rintro _ w2 ⟨⟨v2, rfl, o2⟩, hb2⟩
    obtain ⟨k, hk⟩ : ∃ k, L.length = k := ⟨_, rfl⟩
    rw [hk] at o2
    obtain ⟨A2, c2', rfl, hc2, -, -⟩ := own_rd o2
    have HK := Lib.hid hk
    have HO2 := Lib.hid o2
    have R2 := HR.out.ext hb2
    have HR2 := Lib.hid R2
    have fr2 : w2.frozen? ⟨mb, 2, none⟩ = false := R2.bk.frozen 2
    have s2 : w2.cell? ⟨mb, 2, none⟩ = some (.slice A n c) := R2.bk.cell 2
    clear o2 hk HLC R2
    by_cases hk0 : k = 0
    · subst hk0
      have hmt : mergeT T = [] := by unfold mergeT; rw [if_pos (HLL.out.trans (List.length_eq_zero_iff.1 HK.out))]
      have HMT := Lib.hid hmt
      clear hmt
      go_wp2_with fail
      go_ret
      have k3 := set_chg w2 mb 2 (.slice none 0 0)
      have B3 := HR2.out.bk.set_ 2 (.slice none 0 0)
      refine ⟨rfl, _, ROp.mk' HG.out hb2 k3 (by rw [HMT.out]; exact HR2.out.made k3 B3 HR2.out.yo (own_nil _ _ _ _) (OwLs.nil _)) (fun g hg => .inl (HG.out g (.inr (.inl hg)))) (fun g hg => by simp [Value.ownBlock] at hg) (fun v hv => by simp at hv)⟩
    · have hk0i : (0 : Int) < (k : Int) := by omega
      have hLn : L ≠ [] := fun e => hk0 (by rw [← HK.out, e]; rfl)
      have hmt : mergeT T = [L] := by unfold mergeT; rw [HLL.out, if_neg hLn]
      have HMT := Lib.hid hmt
      have k3 := set_chg w2 mb 2 (.slice none 0 0)
      have B3 := HR2.out.bk.set_ 2 (.slice none 0 0)
      have HB3 := Lib.hid B3
      have HK3 := Lib.hid k3
      clear hLn hmt k3 B3
      go_upto_region 6 with (fail)
      have hO3 : Hid ((w2.setCell ⟨mb, 2, none⟩ (.slice none 0 0)).ownsRow 0 31 3 (.slice A2 k c2') k (L.flatMap Pr.cells)) := Lib.hid (own_chg (own_lower HO2.out (Nat.zero_le _)) HK3.out fun g hg e => own_type HO2.out HR2.out.bk (by decide) (by rw [← e]; exact hg))
      have HY3 : Hid ((w2.setCell ⟨mb, 2, none⟩ (.slice none 0 0)).ownsRow 0 31 3 yv Y.length (Y.flatMap Pr.cells)) := Lib.hid (own_chg HR2.out.yo HK3.out fun g hg e => own_type HR2.out.yo HR2.out.bk (by decide) (by rw [← e]; exact hg))
      generalize w2.setCell ⟨mb, 2, none⟩ (.slice none 0 0) = w3 at *
      have e4 : Ext w3 (w3.alloc (.cells #[.slice A2 k c2'] 32)) := (Ext.refl _).alloc _
      have ON : Hid ((w3.alloc (.cells #[.slice A2 k c2'] 32)).ownsRow w3.heap.size 32 1 (.slice none 0 0) 0 []) := own_nil _ _ _ _
      have x2 : w3.cell? ⟨mb, 2, none⟩ = some (.slice none 0 0) := HB3.out.cell 2
      obtain ⟨i0, hi0, hz0, hzs, hzb⟩ := info_parts info_rowP
      have hb4 := e4.size
      clear s2 fr2
      go_wp2_with (at_builtin; go_loud (refine wpList_append_own _ rfl _ _ 22 rfl w3.heap.size 32 i0 _ 1 24 Tryz.underlying22 hi0 hz0 hzs hzb rfl (by omega) (.slice none 0 0) 0 [] rfl ON.out ⟨w3.heap.size, 0, none⟩ 1 1 [.slice A2 k c2'] (by rfl) rfl (news_new w3 _ _ _ rfl) (by intro u hu; simp at hu; subst hu; rfl) (by unfold maxLen; omega) (by omega) hb4 ?_); intro v5 w5 own5 hg5 hH5; clear hH5; obtain ⟨A5, c5, rfl, -, -, -⟩ := own_rd own5; have e5 := own_grown ON.out hg5 w3 (Nat.le_refl _) e4; have B5 := HB3.out.ext e5; have x5 : w5.cell? ⟨mb, 2, none⟩ = some (.slice none 0 0) := B5.cell 2; have f5 : w5.frozen? ⟨mb, 2, none⟩ = false := B5.frozen 2)
      go_ret
      have k6 := set_chg w5 mb 2 (.slice A5 1 c5)
      have B6 := B5.set_ 2 (.slice A5 1 c5)
      have hw23 : w2.heap.size ≤ w3.heap.size := HK3.out.size
      have hw2 := hb2.size
      have hv5 := own_block own5
      have OL : OwLs w5 [.slice A2 k c2'] [L] := (OwLs.nil w5).cons (own_ext hO3.out e5) HK.out
      refine ⟨rfl, RFoot mb yv (.slice A5 1 c5) [.slice A2 k c2'], ?_⟩
      have hRA : RAt (w5.setCell ⟨mb, 2, none⟩ (.slice A5 1 c5)) mb lim Y [L] yv (.slice A5 1 c5) [.slice A2 k c2'] := by
        refine ⟨B6, own_chg (own_ext HY3.out e5) k6 fun g hg e => own_type (own_ext HY3.out e5) B5 (by decide) (by rw [← e]; exact hg), own_chg (own_lower own5 (Nat.zero_le _)) k6 fun g hg e => own_type own5 B5 (by decide) (by rw [← e]; exact hg), OL.chg k6 fun v hv g hg e => ?_⟩
        obtain ⟨es, he⟩ := OL.mem hv
        exact own_type he B5 (by decide) (by rw [← e]; exact hg)
      refine ⟨⟨yv, (.slice A5 1 c5), _, by rw [HMT.out]; exact hRA, fun g hg => hg⟩, ?_, HG.out _ (.inl rfl), fun g hg => ?_⟩
      · have k36 : Chg w2 (w5.setCell ⟨mb, 2, none⟩ (.slice A5 1 c5)) (fun g => g = mb) := (HK3.out.trans (e5.chg _) fun g _ hg => hg).trans k6 fun g _ hg => hg
        exact (hb2.chg _).trans k36 fun g _ hg => hg
      · rcases hg with rfl | hg | hg | ⟨v, hv, hg⟩
        · exact .inl (HG.out _ (.inl rfl))
        · exact .inl (HG.out g (.inr (.inl hg)))
        · have := hv5 g hg
          exact .inr (by omega)
        · obtain rfl : v = .slice A2 k c2' := by simpa using hv
          have := own_block HO2.out g hg
          exact .inr this
end Go.Proofs.YtcgfdhgceokcnaaGreatDoor

/- the references' lsm: Flush, Put. -/
namespace Go.Proofs.YtcgfdhgceokcnaaGreatDoor
open Go.RowKit Go.WideShapes
set_option linter.unusedVariables false
attribute [local go_sem ↓] Go.wp_at_zero Go.wp_at_succ

set_option maxRecDepth 100000 in
set_option maxHeartbeats 2000000 in
theorem RFlush_any (G : Nat → Prop) (mb : Nat) (lim : Int) (Y : List Pr) (T : List (List Pr)) (w : World) (h : RM w G mb lim Y T) (htot : totL T ≤ 1000) (hT8 : T.length ≤ 1000) :
    Calls Tryz.prog 73 #[.pointer (some ⟨mb, 0, none⟩)] w fun e w' => e = .returned (.int .i64 (flK Y)) ∧ ∃ G', ROp w w' G mb lim (flY Y) (flT Y T) G' := by
  have HM := Lib.hid h
  have HME := Lib.hid (RMerge_any G mb lim Y T w h htot hT8)
  obtain ⟨yv, lv, vs, hR, -⟩ := h
  obtain ⟨n, hn⟩ : ∃ n, T.length = n := ⟨_, rfl⟩
  obtain ⟨y, hy⟩ : ∃ y, Y.length = y := ⟨_, rfl⟩
  have ow := hR.lo
  have oy := hR.yo
  rw [hn] at ow
  rw [hy] at oy
  obtain ⟨A, c, rfl, hc, -, -⟩ := own_rd ow
  obtain ⟨Ay, cy, rfl, hcy, -, -⟩ := own_rd oy
  have HN := Lib.hid hn
  have HY := Lib.hid hy
  have HFL := Lib.hid (flush_many (T := T))
  have c1 : w.cell? ⟨mb, 1, none⟩ = some (.slice Ay y cy) := hR.bk.cell 1
  have c2 : w.cell? ⟨mb, 2, none⟩ = some (.slice A n c) := hR.bk.cell 2
  clear ow oy hR hn hy htot
  by_cases hy0 : y = 0
  · subst hy0
    have hk : flK Y = 6 := if_pos HY.out
    rw [hk, flY_nil HY.out, flT_nil HY.out]
    clear hk
    go_enter Tryz.func73, Tryz.ntmps73
    go_wp2_with fail
    go_ret
    exact ⟨rfl, G, HM.out.op (Ext.refl _)⟩
  · have hk : flK Y = 0 := if_neg (by rw [HY.out]; exact hy0)
    have hfl : flT Y T = Y :: flushT T := flT_cons (by rw [HY.out]; exact hy0)
    have hfy : flY Y = [] := rfl
    rw [hk, hfl, hfy]
    have hyi : ¬ (y : Int) = 0 := by omega
    clear hk hfl hfy hy0
    go_enter Tryz.func73, Tryz.ntmps73
    go_upto_if 15 with (fail)
    go_cut [2] (fun v wc => v = .int .i64 0 ∧ ∃ G1, ROp w wc G mb lim Y (flushT T) G1)
    case first =>
      as_aux_lemma =>
      by_cases h8 : 8 ≤ n
      · have h8i : (8 : Int) ≤ (n : Int) := by omega
        have hft : flushT T = mergeT T := if_pos (by rw [HN.out]; exact h8)
        have HFT := Lib.hid hft
        clear hft
        go_wp2_with fail
        refine HME.out.mono ?_
        rintro _ w1 ⟨rfl, hop⟩
        have HOP := Lib.hid hop
        clear hop
        go_wp2_with fail
        go_meet
        exact ⟨rfl, by rw [HFT.out]; exact HOP.out⟩
      · have h8i : ¬ (8 : Int) ≤ (n : Int) := by omega
        have hft : flushT T = T := if_neg (by rw [HN.out]; exact h8)
        have HFT := Lib.hid hft
        clear hft
        go_wp2_with fail
        go_meet
        exact ⟨rfl, G, by rw [HFT.out]; exact HM.out.op (Ext.refl _)⟩
    case rest =>
    as_aux_lemma =>
    obtain ⟨rfl, G1, hop⟩ := hcut
    obtain ⟨yv1, lv1, vs1, hR1, hG1⟩ := id hop.at_
    have HOP := Lib.hid hop
    have HG1 := Lib.hid hG1
    obtain ⟨n1, hn1⟩ : ∃ n, (flushT T).length = n := ⟨_, rfl⟩
    have hn17 : n1 ≤ 7 := by rw [← hn1]; exact HFL.out
    have ow := hR1.lo
    have oy := hR1.yo
    rw [hn1] at ow
    rw [HY.out] at oy
    obtain ⟨A1, c1', rfl, hc1, hr1, hnil⟩ := own_rd ow
    obtain ⟨Ay1, cy1, rfl, hcy1, -, -⟩ := own_rd oy
    have HN1 := Lib.hid hn1
    have HR1 := Lib.hid hR1
    have x1 : wc.cell? ⟨mb, 1, none⟩ = some (.slice Ay1 y cy1) := hR1.bk.cell 1
    have x2 : wc.cell? ⟨mb, 2, none⟩ = some (.slice A1 n1 c1') := hR1.bk.cell 2
    have hxl := hR1.bk.lt
    have hvl : vs1.length = n1 := by have := hR1.ls.1; omega
    have HVL := Lib.hid hvl
    have HRD := Lib.hid hr1
    have e3 : Ext wc (wc.alloc (.cells #[.slice Ay1 y cy1] 32)) := (Ext.refl _).alloc _
    have O3 := Lib.hid (own_row1 wc (.slice Ay1 y cy1) rfl)
    have hfin : ∀ (A9 : Option Addr) (c9 : Nat) (w5 : World), Ext wc w5 → w5.ownsRow wc.heap.size 32 1 (.slice A9 (1 + n1) c9) (1 + n1) ([.slice Ay1 y cy1] ++ vs1) →
        ∃ G', ROp w ((w5.setCell ⟨mb, 2, none⟩ (.slice A9 (1 + n1) c9)).setCell ⟨mb, 1, none⟩ (.slice none 0 0)) G mb lim [] (Y :: flushT T) G' := by
      intro A9 c9 w5 e5 o5
      have R5 := HR1.out.ext e5
      have k6 := set_chg w5 mb 2 (.slice A9 (1 + n1) c9)
      have k7 := set_chg (w5.setCell ⟨mb, 2, none⟩ (.slice A9 (1 + n1) c9)) mb 1 (.slice none 0 0)
      have B7 := (R5.bk.set_ 2 (.slice A9 (1 + n1) c9)).set_ 1 (.slice none 0 0)
      have k := k6.trans k7 fun g _ hg => hg
      have OL : OwLs w5 (.slice Ay1 y cy1 :: vs1) (Y :: flushT T) := R5.ls.cons R5.yo rfl
      have RA := R5.made (Y' := []) (T' := Y :: flushT T) (vs' := .slice Ay1 y cy1 :: vs1) k B7 (own_nil _ _ _ _) (by have h := own_lower o5 (Nat.zero_le _); rw [List.length_cons, HN1.out, show n1 + 1 = 1 + n1 from Nat.add_comm _ _]; exact h) OL
      refine ⟨_, HOP.out.trans (ROp.mk' HG1.out e5 k RA (fun g hg => by simp [Value.ownBlock] at hg) (fun g hg => .inr (own_block o5 g hg)) fun v hv g hg => ?_)⟩
      rcases List.mem_cons.1 hv with rfl | hv
      · exact .inl (HG1.out g (.inr (.inl hg)))
      · exact .inl (HG1.out g (.inr (.inr (.inr ⟨v, hv, hg⟩))))
    have HFIN := Lib.hid hfin
    obtain ⟨i0, hi0, hz0, hzs, hzb⟩ := info_parts info_rowP
    have hb3 := e3.size
    clear hop hG1 ow oy hn1 hR1 hvl hfin HM HME hr1
    go_upto_region 6 with (fail)
    have B3 := Lib.hid ((HR1.out.ext e3).bk)
    have z2 : (wc.alloc (.cells #[.slice Ay1 y cy1] 32)).cell? ⟨mb, 2, none⟩ = some (.slice A1 n1 c1') := B3.out.cell 2
    have RD3 := Lib.hid (HRD.out.ext e3)
    generalize wc.alloc (.cells #[.slice Ay1 y cy1] 32) = w3 at *
    obtain ⟨gb, hgb⟩ : ∃ gb, wc.heap.size = gb := ⟨_, rfl⟩
    rw [hgb] at O3 HFIN hb3
    try rw [hgb]
    clear x1 x2
    cases A1 with
    | none =>
      have h0 : n1 = 0 := by
        rcases Nat.eq_zero_or_pos n1 with h | h
        · exact h
        · obtain ⟨ad', h1, _⟩ := HRD.out.2.2 h
          cases h1
      subst h0
      obtain rfl : c1' = 0 := by
        rcases hnil rfl with h | h
        · exact h.2
        · exact absurd rfl h
      have hx0 : vs1 = [] := List.eq_nil_of_length_eq_zero HVL.out
      have HF := Lib.hid (HFIN.out _ 1 w3 e3 (by rw [hx0]; exact O3.out))
      have f2 : w3.frozen? ⟨mb, 2, none⟩ = false := B3.out.frozen 2
      have f1 : w3.frozen? ⟨mb, 1, none⟩ = false := B3.out.frozen 1
      have z1 : w3.cell? ⟨mb, 1, none⟩ = some (.slice Ay1 y cy1) := B3.out.cell 1
      clear hx0 hnil
      go_wp2_with (at_builtin; go_loud (refine wpList_append_own_none rfl _ _ 22 rfl gb 32 i0 1 Tryz.underlying22 hi0 _ _ _ rfl O3.out rfl ?_))
      go_ret
      exact ⟨rfl, HF.out⟩
    | some ad =>
      have hcl : ∀ (j : Nat) u, vs1[j]? = some u → w3.cell? (ad.add j) = some u := fun j u hj => by
        obtain ⟨ad', he, -, h3⟩ := RD3.out.at_ hj
        obtain rfl : ad = ad' := by injection he
        exact h3
      have h1c : ∀ u ∈ vs1, u.oneCell' = true := fun u hu => by
        obtain ⟨es, he⟩ := HR1.out.ls.mem hu
        obtain ⟨A, c, rfl, -, -, -⟩ := own_rd he
        rfl
      have HCL := Lib.hid hcl
      have H1C := Lib.hid h1c
      have hl1 : vs1.length = n1 * 1 := by have := HVL.out; omega
      have O3b := Lib.hid (own_lower O3.out (Nat.le_refl _))
      have hgw : wc.heap.size ≤ gb := Nat.le_of_eq hgb
      clear hcl h1c hnil
      go_wp2_with (at_builtin; go_loud (refine wpList_append_own _ rfl _ _ 22 rfl gb 32 i0 _ 1 24 Tryz.underlying22 hi0 hz0 hzs hzb rfl (by omega) _ _ _ rfl O3.out ad n1 _ vs1 rfl hl1 HCL.out H1C.out (by unfold maxLen; omega) (by omega) hb3 ?_); intro v9 w9 own9 hg9 hH9; clear hH9; obtain ⟨A9, c9, rfl, -, -, -⟩ := own_rd own9; have e9 := own_grown O3.out hg9 wc hgw e3; have HF := Lib.hid (HFIN.out A9 c9 w9 e9 own9); have B9 := (HR1.out.ext e9).bk; have f2 : w9.frozen? ⟨mb, 2, none⟩ = false := B9.frozen 2; have f1 : w9.frozen? ⟨mb, 1, none⟩ = false := B9.frozen 1; have z1 : w9.cell? ⟨mb, 1, none⟩ = some (.slice Ay1 y cy1) := B9.cell 1; have z3 : w9.cell? ⟨mb, 2, none⟩ = some (.slice (some ad) n1 c1') := B9.cell 2; clear own9 hg9)
      go_ret
      exact ⟨rfl, HF.out⟩

set_option maxRecDepth 100000 in
set_option maxHeartbeats 2000000 in
theorem RPut_any (G : Nat → Prop) (mb lim : Nat) (Y : List Pr) (T : List (List Pr)) (p : Pr) (w : World) (h : RM w G mb lim Y T) (htot : totL T ≤ 1000) (hT8 : T.length ≤ 1000) (hlim : 1 ≤ lim) (hY : Asc Y) (hy60 : Y.length ≤ 1000) :
    Calls Tryz.prog 39 #[.pointer (some ⟨mb, 0, none⟩), p.val] w fun e w' => e = .returned (.int .i64 (putK Y p)) ∧ ∃ G', ROp w w' G mb lim (doY lim Y p) (doT lim Y T p) G' := by
  have HM := Lib.hid h
  obtain ⟨yv, lv, vs, hR, hG⟩ := h
  have oy := hR.yo
  obtain ⟨y, hy⟩ : ∃ y, Y.length = y := ⟨_, rfl⟩
  rw [hy] at oy
  obtain ⟨Ay, cy, rfl, hcy, -, -⟩ := own_rd oy
  have HYY := Lib.hid hy
  obtain ⟨pk, pv, pg⟩ := p
  have B1 := Bk.at_ w 31 #[.string pk, .string pv, .bool pg] w.heap.size rfl
  have e1 : Ext w (w.alloc (.cells #[.string pk, .string pv, .bool pg] 31)) := (Ext.refl _).alloc _
  have HR := Lib.hid hR
  have HG := Lib.hid hG
  have R1 := hR.ext e1
  have p0 : (w.alloc (.cells #[.string pk, .string pv, .bool pg] 31)).cell? ⟨w.heap.size, 0, none⟩ = some (.string pk) := B1.cell 0
  have p1 : (w.alloc (.cells #[.string pk, .string pv, .bool pg] 31)).cell? ⟨w.heap.size, 1, none⟩ = some (.string pv) := B1.cell 1
  have p2 : (w.alloc (.cells #[.string pk, .string pv, .bool pg] 31)).cell? ⟨w.heap.size, 2, none⟩ = some (.bool pg) := B1.cell 2
  have c1 : (w.alloc (.cells #[.string pk, .string pv, .bool pg] 31)).cell? ⟨mb, 1, none⟩ = some (.slice Ay y cy) := R1.bk.cell 1
  have HC := Lib.hid (RSPut_any 0 _ Y ⟨pk, pv, pg⟩ (w.alloc (.cells #[.string pk, .string pv, .bool pg] 31)).drew (own_ext R1.yo (Ext.refl _).drew) (Nat.zero_le _) hY (by omega))
  have e1d := e1.drew
  obtain ⟨k, hk⟩ : ∃ k, putK Y ⟨pk, pv, pg⟩ = k := ⟨_, rfl⟩
  have HK := Lib.hid hk
  have HTOT := Lib.hid htot
  rw [hk] at HC ⊢
  have hpv : (⟨pk, pv, pg⟩ : Pr).val = Value.agg #[.string pk, .string pv, .bool pg] := rfl
  rw [hpv] at HC
  clear oy hR hG hk htot B1 R1 hY hpv hy
  go_enter Tryz.func39, Tryz.ntmps39
  go_upto_region 1 with (fail)
  generalize w.alloc (.cells #[.string pk, .string pv, .bool pg] 31) = W1 at *
  go_cut [5, 6] from 7 to 15 (fun a b wc => ∃ v', a = v' ∧ b = .int .i64 k ∧ Ext w wc ∧ Hid (wc.ownsRow 0 31 3 v' (storeL Y ⟨pk, pv, pg⟩).length ((storeL Y ⟨pk, pv, pg⟩).flatMap Pr.cells)) ∧ Hid (∀ g, v'.ownBlock = some g → (Value.slice Ay y cy).ownBlock = some g ∨ w.heap.size ≤ g))
  case first =>
    as_aux_lemma =>
    go_region_with (go_at_call 72; with_reducible refine HC.out.mono ?_; rintro _ w2 ⟨⟨v2, rfl, o2, hf2⟩, hb2⟩)
    all_goals
      have HO2 := Lib.hid o2
      have HF2 : Hid (∀ g, v2.ownBlock = some g → (Value.slice Ay y cy).ownBlock = some g ∨ w.heap.size ≤ g) := Lib.hid fun g hg => (hf2 g hg).imp id fun h => Nat.le_trans e1d.size h
      clear o2 hf2
      go_wp2_with fail
      go_meet
      exact ⟨v2, rfl, rfl, e1d.trans hb2, HO2, HF2⟩
  case rest =>
  as_aux_lemma =>
  obtain ⟨v2, rfl, rfl, e2, HO2, HF2⟩ := hcut
  obtain ⟨S, hS⟩ : ∃ S, storeL Y ⟨pk, pv, pg⟩ = S := ⟨_, rfl⟩
  have HS := Lib.hid hS
  rw [hS] at HO2
  have R2 := HR.out.ext e2
  clear hS c1 p0 p1 p2 HC
  by_cases hk0 : k = 0
  · subst hk0
    obtain ⟨s, hs⟩ : ∃ s, S.length = s := ⟨_, rfl⟩
    have oS := HO2.out
    rw [hs] at oS
    obtain ⟨A2, c2', rfl, hc2, -, -⟩ := own_rd oS
    have HSL := Lib.hid hs
    have HSO := Lib.hid oS
    have x1 : wc.cell? ⟨mb, 1, none⟩ = some (.slice Ay y cy) := R2.bk.cell 1
    have f1 : wc.frozen? ⟨mb, 1, none⟩ = false := R2.bk.frozen 1
    have HR2 := Lib.hid R2
    have k3 := set_chg wc mb 1 (.slice A2 s c2')
    have B3 := R2.bk.set_ 1 (.slice A2 s c2')
    have RA : RAt (wc.setCell ⟨mb, 1, none⟩ (.slice A2 s c2')) mb lim S T (.slice A2 s c2') lv vs := R2.made k3 B3 (by rw [hs]; exact oS) R2.lo R2.ls
    have HOP3 : Hid (ROp w (wc.setCell ⟨mb, 1, none⟩ (.slice A2 s c2')) G mb lim S T (RFoot mb (.slice A2 s c2') lv vs)) := Lib.hid (ROp.mk' HG.out e2 k3 RA (fun g hg => (HF2.out g hg).imp (fun h => HG.out g (.inr (.inl h))) id) (fun g hg => .inl (HG.out g (.inr (.inr (.inl hg))))) (fun v hv g hg => .inl (HG.out g (.inr (.inr (.inr ⟨v, hv, hg⟩))))))
    have hB3 : Bk (wc.setCell ⟨mb, 1, none⟩ (.slice A2 s c2')) mb 41 #[.int .i64 (lim : Int), .slice A2 s c2', lv] := B3
    have HB3 := Lib.hid hB3
    clear hs oS R2 k3 B3 RA hB3
    go_upto_region 5 with (fail)
    generalize wc.setCell ⟨mb, 1, none⟩ (.slice A2 s c2') = w3 at *
    have z0 : w3.cell? ⟨mb, 0, none⟩ = some (.int .i64 (lim : Int)) := HB3.out.cell 0
    have z1 : w3.cell? ⟨mb, 1, none⟩ = some (.slice A2 s c2') := HB3.out.cell 1
    clear x1 f1
    obtain ⟨tb, htb⟩ : ∃ tb : Bool, decide (lim ≤ s) = tb := ⟨_, rfl⟩
    have HTB := Lib.hid htb
    clear htb
    go_cut [32] from 23 to 32 (fun v wd => v = .bool tb ∧ Ext w3 wd)
    case first =>
      as_aux_lemma =>
      by_cases hc : lim ≤ s
      · obtain rfl : tb = true := by rw [← HTB.out]; exact decide_eq_true hc
        have hci : (lim : Int) ≤ (s : Int) := by omega
        clear hc
        go_quiet (fail)
        go_wp2_with fail
        go_meet
        exact ⟨rfl, by (repeat (with_reducible first | exact Ext.refl _ | assumption | refine Ext.drew ?_ | refine Ext.drewN ?_ _ | refine Ext.alloc ?_ _ | refine Ext.trans ?_ (by with_reducible assumption)))⟩
      · obtain rfl : tb = false := by rw [← HTB.out]; exact decide_eq_false hc
        have hci : ¬ (lim : Int) ≤ (s : Int) := by omega
        clear hc
        go_quiet (fail)
        go_wp2_with fail
        go_meet
        exact ⟨rfl, by (repeat (with_reducible first | exact Ext.refl _ | assumption | refine Ext.drew ?_ | refine Ext.drewN ?_ _ | refine Ext.alloc ?_ _ | refine Ext.trans ?_ (by with_reducible assumption)))⟩
    case rest =>
    as_aux_lemma =>
    obtain ⟨rfl, e4⟩ := hcut
    have HO4 := Lib.hid (HOP3.out.trans (HOP3.out.at_.op e4))
    clear z0 z1
    cases tb with
    | true =>
      have hc : lim ≤ s := of_decide_eq_true HTB.out
      have hfk : flK S = 0 := if_neg (by rw [HSL.out]; omega)
      have hY' : doY lim Y ⟨pk, pv, pg⟩ = flY S := by unfold doY flY; rw [if_pos ⟨HK.out, by rw [HS.out, HSL.out]; exact hc⟩]
      have hT' : doT lim Y T ⟨pk, pv, pg⟩ = flT S T := by
        rw [flT_cons (by rw [HSL.out]; omega)]
        unfold doT
        rw [if_pos ⟨HK.out, by rw [HS.out, HSL.out]; exact hc⟩, HS.out]
      have HYD := Lib.hid hY'
      have HTD := Lib.hid hT'
      have HFC := Lib.hid (RFlush_any _ mb lim S T _ HO4.out.at_ HTOT.out hT8)
      rw [hfk] at HFC
      clear hY' hT' hfk hc
      go_wp2_with fail
      refine HFC.out.mono ?_
      rintro _ w5 ⟨rfl, G5, hop5⟩
      have HO5 := Lib.hid hop5
      clear hop5
      go_wp2_with fail
      go_ret
      exact ⟨rfl, G5, by rw [HYD.out, HTD.out]; exact HO4.out.trans HO5.out⟩
    | false =>
      have hc : ¬ lim ≤ s := of_decide_eq_false HTB.out
      have hY' : doY lim Y ⟨pk, pv, pg⟩ = S := by unfold doY; rw [if_neg (fun h => hc (by rw [← HSL.out, ← HS.out]; exact h.2)), HS.out]
      have hT' : doT lim Y T ⟨pk, pv, pg⟩ = T := by unfold doT; rw [if_neg (fun h => hc (by rw [← HSL.out, ← HS.out]; exact h.2))]
      have HYD := Lib.hid hY'
      have HTD := Lib.hid hT'
      clear hY' hT' hc
      go_wp2_with fail
      go_ret
      exact ⟨rfl, _, by rw [HYD.out, HTD.out]; exact HO4.out⟩
  · have hb := do_bad (lim := lim) (T := T) (p := ⟨pk, pv, pg⟩) (by rw [HK.out]; exact hk0)
    have hs : S = Y := by rw [← HS.out]; exact store_bad (by rw [HK.out]; exact hk0)
    have HB := Lib.hid hb
    clear hb hs R2
    go_wp2_with fail
    go_ret
    exact ⟨rfl, G, by rw [HB.out.1, HB.out.2]; exact HM.out.op e2⟩
end Go.Proofs.YtcgfdhgceokcnaaGreatDoor

/- the references' lsm: All, Tables; and whether texts are the same. -/
namespace Go.Proofs.YtcgfdhgceokcnaaGreatDoor
open Go.RowKit Go.WideShapes
set_option linter.unusedVariables false
attribute [local go_sem ↓] Go.wp_at_zero Go.wp_at_succ

set_option maxRecDepth 100000 in
set_option maxHeartbeats 2000000 in
theorem RLAll_any (G : Nat → Prop) (mb : Nat) (lim : Int) (Y : List Pr) (T : List (List Pr)) (w : World) (h : RM w G mb lim Y T) (htot : totL (Y :: T) ≤ 1000) (hT8 : T.length ≤ 1000) :
    Calls Tryz.prog 18 #[.pointer (some ⟨mb, 0, none⟩)] w fun e w' => (∃ v', e = .returned v' ∧ w'.ownsRow w.heap.size 31 3 v' (liveL (Y :: T)).length ((liveL (Y :: T)).flatMap Pr.cells)) ∧ Ext w w' := by
  have HTOT := Lib.hid htot
  obtain ⟨yv, lv, vs, hR, -⟩ := h
  obtain ⟨n, hn⟩ : ∃ n, T.length = n := ⟨_, rfl⟩
  obtain ⟨yl, hyl⟩ : ∃ y, Y.length = y := ⟨_, rfl⟩
  have ow := hR.lo
  have oy := hR.yo
  rw [hn] at ow hT8
  rw [hyl] at oy
  obtain ⟨A3, c3, rfl, hc3, hr3, hnil⟩ := own_rd ow
  obtain ⟨A1, c1', rfl, hc1, -, -⟩ := own_rd oy
  have HYL := Lib.hid hyl
  have HN := Lib.hid hn
  have HR := Lib.hid hR
  have c1 : w.cell? ⟨mb, 1, none⟩ = some (.slice A1 yl c1') := hR.bk.cell 1
  have hlen : vs.length = n := by have := hr3.1; omega
  have e2 : Ext w (w.alloc (.cells #[.slice A1 yl c1'] 32)) := (Ext.refl _).alloc _
  have O2 := Lib.hid (own_row1 w (.slice A1 yl c1') rfl)
  have R2 := hR.ext e2
  have c2 : (w.alloc (.cells #[.slice A1 yl c1'] 32)).cell? ⟨mb, 2, none⟩ = some (.slice A3 n c3) := R2.bk.cell 2
  have HR2 := Lib.hid R2
  have hr2 := hr3.ext e2
  clear ow oy hn hyl hR R2 htot
  obtain ⟨base, hbase⟩ : ∃ b, w.heap.size = b := ⟨_, rfl⟩
  go_enter Tryz.func18, Tryz.ntmps18
  go_upto_region 2 with (fail)
  generalize w.alloc (.cells #[.slice A1 yl c1'] 32) = w3 at *
  rw [hbase] at O2
  try rw [hbase]
  have hbw : w.heap.size ≤ base := Nat.le_of_eq hbase
  have hfin : ∀ (v9 : Value) (w9 : World), w9.ownsRow base 32 1 v9 (1 + n) ([.slice A1 yl c1'] ++ vs) → w3.grownBy w9 (Value.slice (some ⟨base, 0, none⟩) 1 1).ownBlock →
      ∃ A9 c9, v9 = .slice A9 (1 + n) c9 ∧ Ext w w9 ∧ Calls Tryz.prog 41 #[.slice A9 (1 + n) c9] w9 fun e w' => (∃ v', e = .returned v' ∧ w'.ownsRow w.heap.size 31 3 v' (liveL (Y :: T)).length ((liveL (Y :: T)).flatMap Pr.cells)) ∧ Ext w9 w' := fun v9 w9 h9 hg9 => by
    obtain ⟨A9, c9, rfl, hc9, hr9, -⟩ := own_rd h9
    have e9 := own_grown O2.out hg9 w hbw e2
    have R9 := HR.out.ext e9
    have OL : OwLs w9 (.slice A1 yl c1' :: vs) (Y :: T) := R9.ls.cons R9.yo rfl
    refine ⟨A9, c9, rfl, e9, (RLive_any A9 (1 + n) c9 _ (Y :: T) w9 hr9 hc9 OL.rd HTOT.out).mono ?_⟩
    rintro e w' ⟨⟨v', he, ho⟩, hb⟩
    exact ⟨⟨v', he, own_lower ho e9.size⟩, hb⟩
  have HFIN := Lib.hid hfin
  obtain ⟨i0, hi0, hz0, hzs, hzb⟩ := info_parts info_rowP
  have hb3s : base ≤ w3.heap.size := by rw [← hbase]; exact e2.size
  clear hfin c1 hr3
  cases A3 with
  | none =>
    have h0 : n = 0 := by
      rcases Nat.eq_zero_or_pos n with h | h
      · exact h
      · obtain ⟨ad', h1, _⟩ := hr2.2.2 h
        cases h1
    subst h0
    obtain rfl : c3 = 0 := by
      rcases hnil rfl with h | h
      · exact h.2
      · exact absurd rfl h
    have hx0 : vs = [] := List.eq_nil_of_length_eq_zero hlen
    obtain ⟨A9, c9, h9, E9, HC9⟩ := HFIN.out _ w3 (by rw [hx0]; exact O2.out) ((Ext.refl w3).gb _)
    injection h9 with h9a h9b h9c
    subst h9a h9c
    have HC9' := Lib.hid HC9
    clear HC9 h9b hnil hr2 hx0
    go_wp2_with (at_builtin; go_loud (refine wpList_append_own_none rfl _ _ 22 rfl base 32 i0 1 Tryz.underlying22 hi0 _ _ _ rfl O2.out rfl ?_))
    refine HC9'.out.mono ?_
    rintro _ w10 ⟨⟨v10, rfl, ho⟩, hb10⟩
    have HO := Lib.hid ho
    clear ho
    go_wp2_with fail
    go_ret
    exact ⟨⟨_, rfl, HO.out⟩, E9.trans hb10⟩
  | some ad =>
    have hcl : ∀ (j : Nat) u, vs[j]? = some u → w3.cell? (ad.add j) = some u := fun j u hj => by
      obtain ⟨ad', he, -, h3⟩ := hr2.at_ hj
      obtain rfl : ad = ad' := by injection he
      exact h3
    have h1c : ∀ u ∈ vs, u.oneCell' = true := fun u hu => by
      obtain ⟨es, he⟩ := HR.out.ls.mem hu
      obtain ⟨A, c, rfl, -, -, -⟩ := own_rd he
      rfl
    have HCL := Lib.hid hcl
    have H1C := Lib.hid h1c
    have hl1 : vs.length = n * 1 := by omega
    clear hcl h1c hnil hr2 hlen
    go_wp2_with (at_builtin; go_loud (refine wpList_append_own _ rfl _ _ 22 rfl base 32 i0 _ 1 24 Tryz.underlying22 hi0 hz0 hzs hzb rfl (by omega) _ _ _ rfl O2.out ad n _ vs rfl hl1 HCL.out H1C.out (by unfold maxLen; omega) (by omega) hb3s ?_); intro v9 w9 own9 hg9 hH9; clear hH9; obtain ⟨A9, c9, rfl, E9, HC9⟩ := HFIN.out v9 w9 own9 hg9)
    refine HC9.mono ?_
    rintro _ w10 ⟨⟨v10, rfl, ho⟩, hb10⟩
    have HO := Lib.hid ho
    clear ho
    go_wp2_with fail
    go_ret
    exact ⟨⟨_, rfl, HO.out⟩, E9.trans hb10⟩

set_option maxRecDepth 100000 in
set_option maxHeartbeats 2000000 in
theorem RTables_any (G : Nat → Prop) (mb : Nat) (lim : Int) (Y : List Pr) (T : List (List Pr)) (w : World) (h : RM w G mb lim Y T) (hT8 : T.length ≤ 1000) (hok : LsOk T) (htot : totL T ≤ 1000) :
    Calls Tryz.prog 21 #[.pointer (some ⟨mb, 0, none⟩)] w fun e w' => (∃ v, e = .returned v ∧ w'.ownsRow w.heap.size 9 1 v T.length (T.map tabV)) ∧ Ext w w' := by
  obtain ⟨yv, lv, vs, hR, -⟩ := h
  obtain ⟨n, hn⟩ : ∃ n, T.length = n := ⟨_, rfl⟩
  have ow := hR.lo
  rw [hn] at ow hT8
  obtain ⟨A, c, rfl, hc, hr, -⟩ := own_rd ow
  have hnc := hr.2.1
  have HR := Lib.hid hR
  have HN := Lib.hid hn
  have HOK := Lib.hid hok
  have HTOT := Lib.hid htot
  have HRD := Lib.hid hr
  have H0 : Hid (w.ownsRow w.heap.size 9 1 (.slice none 0 0) 0 ((T.take 0).map tabV)) := own_nil _ _ _ _
  clear ow hn hR hok htot hr
  rw [HN.out]
  unfold maxLen at hc
  go_enter Tryz.func21, Tryz.ntmps21
  go_wp2_with fail
  go_loopw [3, 4, 5] (fun o y _ wr => ∃ (i : Nat), y = .int .i64 i ∧ i ≤ n ∧ Ext w wr ∧ Hid (wr.ownsRow w.heap.size 9 1 o i ((T.take i).map tabV))) (fun _ y _ _ => n - (intOf y).toNat)
  case atStart => exact ⟨0, rfl, Nat.zero_le _, Ext.refl _, H0⟩
  case round =>
    obtain ⟨i, rfl, hi, hbw, hown⟩ := hrel
    have c2 : wr.cell? ⟨mb, 2, none⟩ = some (.slice A n c) := (HR.out.ext hbw).bk.cell 2
    by_cases hc3 : i < n
    · obtain ⟨es, hes⟩ : ∃ es, T[i]? = some es := ⟨_, List.getElem?_eq_getElem (by rw [HN.out]; exact hc3)⟩
      obtain ⟨ev, hev⟩ : ∃ v, vs[i]? = some v := ⟨_, List.getElem?_eq_getElem (by rw [HR.out.ls.1, HN.out]; exact hc3)⟩
      obtain ⟨ad, rfl, hb, y0⟩ := (HRD.out.ext hbw).at_ hev
      obtain ⟨A1, c1, rfl, hc1, hr1, -⟩ := own_rd ((HR.out.ext hbw).ls.2 i _ es hev hes)
      have hl1 := take_tot hes
      have htt := HTOT.out
      have HTC := Lib.hid (RTable_any A1 es.length c1 es wr hr1 hc1 (by omega) ((HOK.out es (List.mem_of_getElem? hes)).2))
      have HTT : Hid ((T.take (i + 1)).map tabV = (T.take i).map tabV ++ [.string (tabB es)]) := by
        show _ = _
        obtain ⟨h2, h3⟩ := List.getElem?_eq_some_iff.1 hes
        rw [List.take_succ_eq_append_getElem h2, h3, List.map_append]; rfl
      obtain ⟨bs, HBS⟩ : ∃ b, Hid (tabB es = b) := ⟨_, rfl⟩
      rw [HBS.out] at HTT HTC
      generalize es.length = ne at *
      clear hev hes hr1
      go_wp2_with fail
      refine HTC.out.mono ?_
      rintro _ w3 ⟨rfl, hb3⟩
      have e3w := hbw.trans hb3
      have O3 := Lib.hid (own_ext hown.out hb3)
      have e5 : Ext w3 (w3.alloc (.cells #[.string bs] 9)) := (Ext.refl _).alloc _
      have O5 := Lib.hid (own_ext O3.out e5)
      have e5w := e3w.trans e5
      have hb5 := e5w.size
      obtain ⟨i0, hi0, hz0, hzs, hzb⟩ := info_parts info_strT
      clear O3 hown c2
      go_wp2_with (at_builtin; go_loud (refine wpList_append_own _ rfl _ _ 48 rfl w.heap.size 9 i0 _ 1 16 Tryz.underlying48 hi0 hz0 hzs hzb rfl (by omega) u3 i _ rfl O5.out ⟨w3.heap.size, 0, none⟩ 1 1 [.string bs] (by rfl) rfl (news_new w3 _ _ _ rfl) (by intro u hu; simp at hu; subst hu; rfl) (by unfold maxLen; omega) (by omega) hb5 ?_); intro v6 w6 own6 hg6 hH6; clear hH6; have e6 := own_grown O5.out hg6 w (Nat.le_refl _) e5w)
      have R6 : Hid (w6.ownsRow w.heap.size 9 1 v6 (i + 1) ((T.take (i + 1)).map tabV)) := by
        show World.ownsRow _ _ _ _ _ _ _
        rw [HTT.out]; exact own6
      clear own6
      go_roundw
      case rel => exact ⟨i + 1, by go_num, by omega, e6, R6⟩
      case measure => simp [intOf]; omega
    · obtain rfl : i = n := by omega
      have HO := Lib.hid hown.out
      rw [List.take_of_length_le (by rw [HN.out]; exact Nat.le_refl _)] at HO
      clear hown
      go_wp2_with fail
      go_ret
      exact ⟨⟨_, rfl, HO.out⟩, hbw⟩

theorem str_at {w : World} {A : Option Addr} {n c : Nat} {T : List (List Pr)} (h : Rd w 1 A n c (T.map tabV)) {i : Nat} {es : List Pr} (he : T[i]? = some es) : ∃ ad, A = some ad ∧ w.cell? (ad.add i) = some (.string (tabB es)) := by
  obtain ⟨ad, e, _, hc⟩ := h.at_ (j := i) (u := .string (tabB es)) (by rw [List.getElem?_map, he]; rfl)
  exact ⟨ad, e, hc⟩
set_option maxRecDepth 100000 in
theorem Texts_same (A A' : Option Addr) (n c c' : Nat) (T : List (List Pr)) (w : World) (hn : T.length = n) (hr : Rd w 1 A n c (T.map tabV)) (hr' : Rd w 1 A' n c' (T.map tabV)) (hm : n ≤ 1000) :
    Calls Tryz.prog 19 #[.slice A n c, .slice A' n c'] w fun e w' => e = .returned (.bool true) ∧ Ext w w' := by
  have hl := hr.2.1
  have hl' := hr'.2.1
  have HN := Lib.hid hn
  have HR := Lib.hid hr
  have HR' := Lib.hid hr'
  clear hn hr hr'
  go_enter Tryz.func19, Tryz.ntmps19
  go_wp2_with fail
  go_loopw [5] (fun x wr => ∃ j : Nat, x = .int .i64 j ∧ j ≤ n ∧ Ext w wr) (fun x _ => n - (intOf x).toNat)
  case atStart => exact ⟨0, rfl, Nat.zero_le _, Ext.refl _⟩
  case round =>
    obtain ⟨j, rfl, hj, hbw⟩ := hrel
    by_cases hc : j < n
    · obtain ⟨es, hes⟩ : ∃ es, T[j]? = some es := ⟨_, List.getElem?_eq_getElem (by rw [HN.out]; exact hc)⟩
      obtain ⟨ad, rfl, y0⟩ := str_at (HR.out.ext hbw) hes
      obtain ⟨ad', rfl, y0'⟩ := str_at (HR'.out.ext hbw) hes
      generalize tabB es = bs at *
      clear hes
      go_wp2_with fail
      go_quiet (fail)
      go_wp2_with fail
      go_roundw
      case rel => exact ⟨j + 1, by go_num, by omega, by (repeat (with_reducible first | exact Ext.refl _ | assumption | refine Ext.drew ?_ | refine Ext.drewN ?_ _ | refine Ext.alloc ?_ _ | refine Ext.trans ?_ (by with_reducible assumption)))⟩
      case measure => simp [intOf]; omega
    · go_wp2_with fail
      go_ret
      exact ⟨rfl, hbw⟩
end Go.Proofs.YtcgfdhgceokcnaaGreatDoor

/- WalKeeps: what is kept beside what is written. -/
namespace Go.Proofs.YtcgfdhgceokcnaaGreatDoor
open Go.RowKit Go.WideShapes
set_option linter.unusedVariables false

section
variable {w w' : World} {b x mb B n k : Nat} {lim : Int} {Y : List Pr} {T : List (List Pr)} {e : TypeId} {v : Value} {xs : List Value} {cs : Array Value}
theorem LM.row (h : LM w aF x lim Y T) (ho : w.ownsRow B e n v k xs) (hne : e ≠ 82 ∧ e ≠ 122 ∧ e ≠ 31 ∧ e ≠ 89 ∧ e ≠ 131) (c : Chg w w' (fun g => v.ownBlock = some g)) : LM w' aF x lim Y T := by
  obtain ⟨sb, sv, lv, ts, hL, hT, hF, hH⟩ := h
  obtain ⟨h1, h2, h3, h4, h5⟩ := hne
  refine ⟨sb, sv, lv, ts, hL.chg c fun g hg e' => ?_, hT, hF, hH⟩
  have e'' : v.ownBlock = some g := e'
  rcases hg with rfl | rfl | hg | hg | ⟨t, ht, rfl | hg⟩
  · exact own_type ho hL.bk h1 e''
  · exact own_type ho hL.st.bk h2 e''
  · exact own_own ho hL.st.own h3 e'' hg
  · exact own_own ho hL.own h4 e'' hg
  · exact own_type ho (hL.tab t ht).bk h5 e''
  · exact own_own ho (hL.tab t ht).own h3 e'' hg
theorem RM.row (h : RM w aF mb lim Y T) (ho : w.ownsRow B e n v k xs) (hne : e ≠ 41 ∧ e ≠ 31 ∧ e ≠ 32) (c : Chg w w' (fun g => v.ownBlock = some g)) : RM w' aF mb lim Y T := by
  obtain ⟨yv, lv, vs, hR, hF⟩ := h
  obtain ⟨h1, h2, h3⟩ := hne
  refine ⟨yv, lv, vs, hR.chg c fun g hg e' => ?_, hF⟩
  have e'' : v.ownBlock = some g := e'
  rcases hg with rfl | hg | hg | ⟨u, hu, hg⟩
  · exact own_type ho hR.bk h1 e''
  · exact own_own ho hR.yo h2 e'' hg
  · exact own_own ho hR.lo h3 e'' hg
  · obtain ⟨es, he⟩ := hR.ls.mem hu
    exact own_own ho he h2 e'' hg
theorem RM.blk (h : RM w aF mb lim Y T) (hb : Bk w b 72 cs) (c : Chg w w' (fun g => g = b)) : RM w' aF mb lim Y T := by
  obtain ⟨yv, lv, vs, hR, hF⟩ := h
  refine ⟨yv, lv, vs, hR.chg c fun g hg e' => ?_, hF⟩
  have e'' : g = b := e'
  subst e''
  rcases hg with e | hg | hg | ⟨u, hu, hg⟩
  · exact bk_ne hR.bk hb (by decide) e.symm
  · exact own_type hR.yo hb (by decide) hg
  · exact own_type hR.lo hb (by decide) hg
  · obtain ⟨es, he⟩ := hR.ls.mem hu
    exact own_type he hb (by decide) hg
end
def ptrV (d : Nat) : Value := .pointer (some ⟨d, 0, none⟩)
def markV (bs : List (List Pr)) (i : Nat) : Value := .int .i64 (markN bs i : Nat)
def marksV (bs : List (List Pr)) (k : Nat) : List Value := (List.range k).map (markV bs)
theorem marks_get (bs : List (List Pr)) {i k : Nat} (h : i < k) : (marksV bs k)[i]? = some (markV bs i) := by
  unfold marksV
  rw [List.getElem?_map, List.getElem?_range h]
  rfl
theorem marks_take (bs : List (List Pr)) {j k : Nat} (h : j + 1 ≤ k) : (marksV bs k).take (j + 1) = marksV (bs.take j) (j + 1) := by
  unfold marksV
  rw [← List.map_take, List.take_range, Nat.min_eq_left h]
  refine List.map_congr_left fun i hi => ?_
  rw [List.mem_range] at hi
  unfold markV
  rw [mark_take (by omega)]
theorem marks_snoc (bs : List (List Pr)) (p : List Pr) : marksV (bs ++ [p]) (bs.length + 1 + 1) = marksV bs (bs.length + 1) ++ [.int .i64 ((recsL (bs ++ [p])).length : Nat)] := by
  unfold marksV
  rw [List.range_succ, List.map_append]
  congr 1
  · refine List.map_congr_left fun i hi => ?_
    rw [List.mem_range] at hi
    unfold markV markN
    rw [List.take_append_of_le_length (by omega)]
  · show [markV (bs ++ [p]) (bs.length + 1)] = _
    unfold markV markN
    rw [List.take_of_length_le (by simp)]
/-- the wal; the references, one for each of the first batches; the marks -/
structure KI (w0 w : World) (b lim : Nat) (z : WS) (bd bm : List (List Pr)) (vD vM : Value) (ds : List Nat) : Prop where
  ext : Ext w0 w
  wg : WG w b lim z
  dn : w.ownsRow w0.heap.size 39 1 vD (bd.length + 1) (ds.map ptrV)
  mr : w.ownsRow w0.heap.size 3 1 vM (bm.length + 1) (marksV bm (bm.length + 1))
  rf : ∀ (i d : Nat), ds[i]? = some d → RM w aF d lim (stZ lim (bd.take i)).1 (stZ lim (bd.take i)).2
section
variable {w0 w w' : World} {b lim : Nat} {z z' : WS} {bd bm : List (List Pr)} {vD vM vD' vM' : Value} {ds : List Nat}
theorem KI.len (h : KI w0 w b lim z bd bm vD vM ds) : ds.length = bd.length + 1 := by
  have := h.dn.1
  rw [List.length_map] at this
  omega
theorem KI.ext' (h : KI w0 w b lim z bd bm vD vM ds) (e : Ext w w') : KI w0 w' b lim z bd bm vD vM ds :=
  ⟨h.ext.trans e, h.wg.ext e, own_ext h.dn e, own_ext h.mr e, fun i d hd => (h.rf i d hd).ext e⟩
/-- the wal's block was written -/
theorem KI.wal (h : KI w0 w b lim z bd bm vD vM ds) (hb0 : w0.heap.size ≤ b) (hw : WG w' b lim z') (k : Chg w w' (fun g => g = b)) : KI w0 w' b lim z' bd bm vD vM ds := by
  obtain ⟨h1, h2, x, s, hb, hs, hl⟩ := h.wg
  exact ⟨beside h.ext hb0 k, hw, own_chg h.dn k fun g hg e => own_type h.dn hb (by decide) (by rw [← (show g = b from e)]; exact hg), own_chg h.mr k fun g hg e => own_type h.mr hb (by decide) (by rw [← (show g = b from e)]; exact hg), fun i d hd => (h.rf i d hd).blk hb k⟩
theorem WG.row {B n k : Nat} {e : TypeId} {v : Value} {xs : List Value} (h : WG w b lim z) (ho : w.ownsRow B e n v k xs) (hw : e ≠ 72) (hne : e ≠ 82 ∧ e ≠ 122 ∧ e ≠ 31 ∧ e ≠ 89 ∧ e ≠ 131) (c : Chg w w' (fun g => v.ownBlock = some g)) : WG w' b lim z := by
  obtain ⟨h1, h2, x, s, hb, hs, hl⟩ := h
  exact ⟨h1, h2, x, s, hb.chg c fun e => own_type ho hb hw e, hs, LM.row hl ho hne c⟩
/-- a reference is put behind the others -/
theorem KI.appD (h : KI w0 w b lim z bd bm vD vM ds) {d : Nat} {p : List Pr} (hd : RM w aF d lim (stZ lim (bd ++ [p])).1 (stZ lim (bd ++ [p])).2) (ho : w'.ownsRow w0.heap.size 39 1 vD' (bd.length + 1 + 1) (ds.map ptrV ++ [ptrV d])) (g : w.grownBy w' vD.ownBlock) : KI w0 w' b lim z (bd ++ [p]) bm vD' vM (ds ++ [d]) := by
  have c := gb_chg g
  have hn : (39 : TypeId) ≠ 82 ∧ (39 : TypeId) ≠ 122 ∧ (39 : TypeId) ≠ 31 ∧ (39 : TypeId) ≠ 89 ∧ (39 : TypeId) ≠ 131 := by decide
  have hn2 : (39 : TypeId) ≠ 41 ∧ (39 : TypeId) ≠ 31 ∧ (39 : TypeId) ≠ 32 := by decide
  have hl := h.len
  refine ⟨own_grown h.dn g w0 (Nat.le_refl _) h.ext, h.wg.row h.dn (by decide) hn c, ?_, own_chg h.mr c fun g' hg e => own_own h.dn h.mr (by decide) e hg, fun i d' hd' => ?_⟩
  · rw [List.length_append, List.length_singleton, List.map_append]
    exact ho
  · rcases Nat.lt_or_ge i ds.length with h1 | h1
    · rw [List.getElem?_append_left h1] at hd'
      rw [List.take_append_of_le_length (by omega)]
      exact (h.rf i d' hd').row h.dn hn2 c
    · rw [List.getElem?_append_right h1] at hd'
      have hi0 : i - ds.length = 0 := by
        rcases Nat.eq_zero_or_pos (i - ds.length) with h2 | h2
        · exact h2
        · rw [List.getElem?_eq_none (by simp; omega)] at hd'; cases hd'
      rw [hi0] at hd'
      obtain rfl : d = d' := by simpa using hd'
      rw [List.take_of_length_le (by rw [List.length_append, List.length_singleton]; omega)]
      exact hd.row h.dn hn2 c
/-- a mark is put behind the others -/
theorem KI.appM {p : List Pr} (h : KI w0 w b lim z (bm ++ [p]) bm vD vM ds) (ho : w'.ownsRow w0.heap.size 3 1 vM' (bm.length + 1 + 1) (marksV bm (bm.length + 1) ++ [.int .i64 ((recsL (bm ++ [p])).length : Nat)])) (g : w.grownBy w' vM.ownBlock) : KI w0 w' b lim z (bm ++ [p]) (bm ++ [p]) vD vM' ds := by
  have c := gb_chg g
  have hn : (3 : TypeId) ≠ 82 ∧ (3 : TypeId) ≠ 122 ∧ (3 : TypeId) ≠ 31 ∧ (3 : TypeId) ≠ 89 ∧ (3 : TypeId) ≠ 131 := by decide
  have hn2 : (3 : TypeId) ≠ 41 ∧ (3 : TypeId) ≠ 31 ∧ (3 : TypeId) ≠ 32 := by decide
  refine ⟨own_grown h.mr g w0 (Nat.le_refl _) h.ext, h.wg.row h.mr (by decide) hn c, own_chg h.dn c fun g' hg e => own_own h.mr h.dn (by decide) e hg, ?_, fun i d hd => (h.rf i d hd).row h.mr hn2 c⟩
  rw [← marks_snoc] at ho
  rw [List.length_append, List.length_singleton]
  exact ho
end
/-- how a Put ends -/
theorem put_cases {lim : Nat} {z : WS} (h : WS.Ok lim z) (p : List Pr) :
    ((z.put lim p).1 = 0 ∧ doK lim (stZ lim z.bs).1 (stZ lim z.bs).2 p = 0 ∧ (z.put lim p).2.bs = z.bs ++ [p] ∧ (z.put lim p).2.bytes.length = (recsL (z.bs ++ [p])).length ∧ z.bytes.length + 2 ≤ (z.put lim p).2.bytes.length) ∨
    ((z.put lim p).1 ≠ 0 ∧ (z.put lim p).2.bs = z.bs ∧ ((z.put lim p).1 = 6 ∨ (z.put lim p).1 = doK lim (stZ lim z.bs).1 (stZ lim z.bs).2 p)) := by
  cases hst : z.stop with
  | true => rw [WS.put_stop hst]; exact .inr ⟨(by show (6 : Int) ≠ 0; decide), rfl, .inl rfl⟩
  | false =>
    by_cases hk : doK lim (stZ lim z.bs).1 (stZ lim z.bs).2 p = 0
    · by_cases hl : z.left = 0
      · rw [WS.put_half hst hk hl]; exact .inr ⟨(by show (6 : Int) ≠ 0; decide), rfl, .inl rfl⟩
      · rw [WS.put_ok hst hk hl]
        have ht := h.go hst
        have h2 := rec_ge p
        refine .inl ⟨rfl, hk, rfl, ?_, ?_⟩
        · unfold WS.bytes
          show (recsL (z.bs ++ [p]) ++ z.t).length = _
          rw [ht, List.append_nil]
        · unfold WS.bytes
          show (recsL z.bs ++ z.t).length + 2 ≤ (recsL (z.bs ++ [p]) ++ z.t).length
          rw [ht, List.append_nil, List.append_nil, recs_snoc, List.length_append]
          omega
    · rw [WS.put_bad hst rfl hk]; exact .inr ⟨hk, rfl, .inr rfl⟩
end Go.Proofs.YtcgfdhgceokcnaaGreatDoor
