import Derived.Test.YtnafegofmbhahaaDoorTab8
import Derived.Test.YtnafegofmbhahaaDoorLettW
import Derived.Test.YtnafegofmbhahaaDoorError
import Derived.Test.YtnafegofmbhahaaDoorQuiet
import Derived.BigQuiet
import Derived.Deep.DeepCutAuto
import Derived.Deep.CutRange
namespace Go.Proofs.YtnafegofmbhahaaDoor.tableEmpty
open Go.RowKit Go.WideShapes
set_option linter.unusedVariables false
attribute [local go_sem ↓] Go.wp_at_zero Go.wp_at_succ

def vV : ByteArray := ⟨#[118]⟩
def zzz : ByteArray := ⟨#[122, 122, 122]⟩
theorem lett_tbl {n : Nat} (hn : n ≤ 100) : tblK (lettP vV n) = 0 := tblK_zero.2 ⟨lettP_asc vV hn, lettP_ok (by decide) n⟩
theorem lett_size4 {n : Nat} (hn : n ≤ 100) : (tabB (lettP vV n)).size ≤ 500000000 := by
  have h1 := bodyB_len (tblK_zero.1 (lett_tbl hn)).2
  rw [lettP_len] at h1
  rw [tabB_size]; omega
theorem zzz_no {n : Nat} (hn : n ≤ 100) : tgK (lettP vV n) zzz = 5 := by
  obtain ⟨_, h⟩ := lettP_low vV (k := n) (key := zzz) fun i hi => by
    unfold kLt
    rw [lett_list]
    exact lett_zzz i (by omega)
  exact if_neg (by rw [h]; decide)
theorem at_yes {n j : Nat} (hn : n ≤ 100) (hj : j < n) : tgK (lettP vV n) (lett j) = 0 ∧ pairV (lettP vV n) (lett j) = ⟨lett j, vV, false⟩ := by
  obtain ⟨h1, h2⟩ := lettP_has vV hn hj
  refine ⟨if_pos h2, ?_⟩
  unfold pairV getE
  rw [if_pos h2, h1, lettP_get vV hj]; rfl
theorem kAt_lett {n j : Nat} (hj : j < n) : kAt (lettP vV n) j = lett j := kAt_some (lettP_get vV hj)
theorem lett_aa : lett 0 = ⟨#[97, 97]⟩ := by decide

set_option maxRecDepth 100000 in
set_option maxHeartbeats 2000000 in
theorem walk (n0 at_ : Int) (w : World) (z0 : (Lit.int IntKind.i64 n0).wf = true) (z1 : (Lit.int IntKind.i64 at_).wf = true) (hg : ErrG w) :
    Calls Tryd.prog 3 #[.int .i64 n0, .int .i64 at_] w fun e w' => e = .returned (.bool true) ∧ Ext w w' := by
  obtain ⟨hE, hN, hG⟩ := errR_rules
  by_cases hn : 0 ≤ n0 ∧ n0 ≤ 60
  · obtain ⟨n, rfl⟩ : ∃ n : Nat, n0 = (n : Int) := ⟨n0.toNat, by omega⟩
    have hn60 : n ≤ 60 := by omega
    have hnI : (n : Int) ≤ 60 := by omega
    clear hn z0 z1
    have H0 : Hid (w.ownsRow w.heap.size 25 3 (.slice none 0 0) 0 ((lettP vV 0).flatMap Pr.cells)) := own_nil _ _ _ _
    go_enter Tryd.func3, Tryd.ntmps3
    go_wp2_with fail
    go_loopw [5, 6] (fun o x wr => ∃ i : Nat, x = .int .i64 i ∧ i ≤ n ∧ Ext w wr ∧ Hid (wr.ownsRow w.heap.size 25 3 o i ((lettP vV i).flatMap Pr.cells))) (fun _ x _ => n - (intOf x).toNat)
    case atStart => exact ⟨0, rfl, Nat.zero_le _, Ext.refl _, H0⟩
    case round =>
      obtain ⟨i, rfl, hi, hbw, hown⟩ := hrel
      by_cases hc : i < n
      · have hci : (i : Int) < (n : Int) := by omega
        go_wp2_with fail
        refine (Lett_any i _ (by omega)).mono ?_
        obtain ⟨k, HK⟩ : ∃ k, Hid (lett i = k) := ⟨_, rfl⟩
        rw [HK.out]
        rintro _ w2 ⟨rfl, hb2⟩
        have hnl : (lettP vV (i + 1)).flatMap Pr.cells = (lettP vV i).flatMap Pr.cells ++ [.string k, .string ⟨#[118]⟩, .bool false] := by
          rw [lettP_snoc, List.flatMap_append, HK.out]; rfl
        have HNL := Lib.hid hnl
        have e2 := hbw.trans hb2
        have e3 : Ext w2 (w2.alloc (.cells #[.string k, .string ⟨#[118]⟩, .bool false] 25)) := (Ext.refl _).alloc _
        have O3 := Lib.hid (own_ext (own_ext hown.out hb2) e3)
        have e3w := e2.trans e3
        have hb3 := e3w.size
        obtain ⟨i0, hi0, hz0, hzs, hzb⟩ := info_parts info_pair
        clear hnl hown
        go_wp2_with (at_builtin; go_loud (refine wpList_append_own _ rfl _ _ 22 rfl w.heap.size 25 i0 _ 3 40 Tryd.underlying22 hi0 hz0 hzs hzb rfl (by omega) u5 i _ rfl O3.out ⟨w2.heap.size, 0, none⟩ 1 1 [.string k, .string ⟨#[118]⟩, .bool false] (by rfl) rfl (news_new w2 _ _ _ rfl) (by intro u hu; simp at hu; rcases hu with rfl | rfl | rfl <;> rfl) (by unfold maxLen; omega) (by omega) hb3 ?_); intro v4 w4 own4 hg4 hH4; clear hH4; have e4 := own_grown O3.out hg4 w (Nat.le_refl _) e3w)
        have R4 : Hid (w4.ownsRow w.heap.size 25 3 v4 (i + 1) ((lettP vV (i + 1)).flatMap Pr.cells)) := by
          show World.ownsRow _ _ _ _ _ _ _
          rw [HNL.out]; exact own4
        clear own4
        go_roundw
        case rel => exact ⟨i + 1, by go_num, by omega, e4, R4⟩
        case measure => simp [intOf]; omega
      · obtain rfl : i = n := by omega
        have hci : ¬ (i : Int) < (i : Int) := by omega
        obtain ⟨A, c, rfl, hcm, hr, -⟩ := own_rd hown.out
        have HR := Lib.hid hr
        have hicl := hr.2.1
        obtain ⟨L, hL⟩ : ∃ L, lettP vV i = L := ⟨_, rfl⟩
        have HT := Lib.hid (lett_tbl (n := i) (by omega))
        have HZ := Lib.hid (lett_size4 (n := i) (by omega))
        have HZZ := Lib.hid (zzz_no (n := i) (by omega))
        have HLEN := Lib.hid (lettP_len vV i)
        have HGET := Lib.hid fun (j : Nat) (hj : j < i) => lettP_get vV (k := i) hj
        have HAT := Lib.hid fun (j : Nat) (hj : j < i) => at_yes (n := i) (j := j) (by omega) hj
        have HKA := Lib.hid fun (j : Nat) (hj : j < i) => kAt_lett (n := i) hj
        rw [hL] at HT HZ HZZ HLEN HR HGET HAT HKA
        have HB := Lib.hid (Build_any A i c L wr HR.out hcm (by omega))
        rw [HT.out, show tabR L = tabB L from if_pos HT.out, errR_0] at HB
        have HOP : Hid (opn L (tabB L)) := ⟨HT.out, rfl⟩
        obtain ⟨bs, hbs⟩ : ∃ b, tabB L = b := ⟨_, rfl⟩
        rw [hbs] at HB HZ HOP
        clear hr hown hL hbs hc hi
        go_wp2_with fail
        refine HB.out.mono ?_
        rintro _ w1 ⟨rfl, hb1⟩
        go_wp2_with fail
        refine (Open_any bs w1 HZ.out).mono ?_
        rintro e w2 ⟨ho | ho, hb2⟩
        · obtain ⟨es, tb, v, hop, rfl, T2, -⟩ := ho
          obtain rfl : es = L := opn_uniq hop HOP.out
          have HT2 := Lib.hid T2
          have e2 := (hbw.trans hb1).trans hb2
          have HR2 := Lib.hid ((HR.out.ext hb1).ext hb2)
          clear T2 hop HB
          go_wp2_with fail
          refine (TAll_any _ tb v es _ HT2.out).mono ?_
          rintro _ w3 ⟨⟨v3, rfl, o3⟩, hb3⟩
          obtain ⟨A3, c3, rfl, -, -, -⟩ := own_rd o3
          have e3 := e2.trans hb3
          have HT3 := Lib.hid (HT2.out.ext hb3)
          have HR3 := Lib.hid (HR2.out.ext hb3)
          rw [HLEN.out]
          have HG := Lib.hid (TGet_any _ tb v es zzz _ HT3.out)
          rw [HZZ.out] at HG
          clear o3
          obtain ⟨⟨qk, qv, qg⟩, hq⟩ : ∃ q, pairV es zzz = q := ⟨_, rfl⟩
          rw [hq] at HG
          clear hq
          go_wp2_with fail
          refine HG.out.mono ?_
          rintro _ w4 ⟨rfl, hb4⟩
          have e5 : Ext w4 (w4.alloc (.cells #[.string qk, .string qv, .bool qg] 25)) := (Ext.refl _).alloc _
          have e5w := (e3.trans hb4).trans e5
          have HT5 := Lib.hid ((HT3.out.ext hb4).ext e5)
          have HR5 := Lib.hid ((HR3.out.ext hb4).ext e5)
          clear HG
          go_upto_region 15 with (fail)
          generalize w4.alloc (.cells #[.string qk, .string qv, .bool qg] 25) = W5 at *
          go_wp2_with fail
          refine (Error_is 5 _ (hg.ext e5w)).mono ?_
          rintro _ w6 ⟨rfl, hb6⟩
          have e6 := e5w.trans hb6
          have HT6 := Lib.hid (HT5.out.ext hb6)
          have HR6 := Lib.hid (HR5.out.ext hb6)
          by_cases h0 : i = 0
          · subst h0
            have hes : es = [] := List.length_eq_zero_iff.1 HLEN.out
            have HF := Lib.hid (TFirst_any _ tb v es _ HT6.out)
            rw [show kAt es 0 = ⟨#[]⟩ by rw [hes]; rfl] at HF
            clear hes
            go_wp2_with fail
            refine HF.out.mono ?_
            rintro _ w7 ⟨rfl, hb7⟩
            have HLA := Lib.hid (TLast_any _ tb v es _ (HT6.out.ext hb7))
            rw [show kAt es (es.length - 1) = ⟨#[]⟩ by rw [List.length_eq_zero_iff.1 HLEN.out]; rfl] at HLA
            go_wp2_with fail
            refine HLA.out.mono ?_
            rintro _ w8 ⟨rfl, hb8⟩
            go_wp2_with fail
            go_ret
            exact ⟨rfl, (e6.trans hb7).trans hb8⟩
          · have h0i : ¬ (i : Int) = 0 := by omega
            by_cases hat : 0 ≤ at_ ∧ at_ < i
            · obtain ⟨ha0, ha1⟩ := hat
              obtain ⟨j, rfl⟩ : ∃ j : Nat, at_ = (j : Int) := ⟨at_.toNat, by omega⟩
              have hj : j < i := by omega
              have hji : (j : Int) < (i : Int) := ha1
              have hjn : ¬ (j : Int) < 0 := by omega
              have hjm : ¬ (i : Int) ≤ (j : Int) := by omega
              clear ha0 ha1
              go_wp2_with fail
              refine (Lett_any j _ (by omega)).mono ?_
              rintro _ w7 ⟨rfl, hb7⟩
              have HG := Lib.hid (TGet_any _ tb v es (lett j) _ (HT6.out.ext hb7))
              rw [(HAT.out j hj).1, (HAT.out j hj).2, errR_0] at HG
              have hgj := HGET.out j hj
              obtain ⟨k, hk⟩ : ∃ k, lett j = k := ⟨_, rfl⟩
              rw [hk] at HG hgj ⊢
              clear hk
              go_wp2_with fail
              refine HG.out.mono ?_
              rintro _ w8 ⟨rfl, hb8⟩
              have B9 := Bk.at_ w8 25 #[.string k, .string vV, .bool false] w8.heap.size rfl
              have e9 : Ext w8 (w8.alloc (.cells #[.string k, .string vV, .bool false] 25)) := (Ext.refl _).alloc _
              have hpv : (⟨k, vV, false⟩ : Pr).val = Value.agg #[.string k, .string vV, .bool false] := rfl
              rw [hpv]
              have e9w := ((e6.trans hb7).trans hb8).trans e9
              have HT9 := Lib.hid (((HT6.out.ext hb7).ext hb8).ext e9)
              have HR9 := Lib.hid (((HR6.out.ext hb7).ext hb8).ext e9)
              go_upto_region 21 with (fail)
              generalize w8.alloc (.cells #[.string k, .string vV, .bool false] 25) = W9 at *
              obtain ⟨ad, rfl, hbl, d0, d1, d2⟩ := HR9.out.getP hgj
              simp only at d0 d1 d2
              have hal : (ad.add (j * 3)).block < W9.heap.size := by
                rw [blk_add]; exact hbl
              have cd0 : ∀ x : WE W9, x.W.cell? (ad.add (j * 3)) = some (.string k) := fun x => (Ext.cell (p := ad.add (j * 3)) x.h hal).trans d0
              have cd1 : ∀ x : WE W9, x.W.cell? ⟨(ad.add (j * 3)).block, (ad.add (j * 3)).off + 1, none⟩ = some (.string vV) := fun x => (Ext.cell (p := ⟨(ad.add (j * 3)).block, (ad.add (j * 3)).off + 1, none⟩) x.h hal).trans d1
              have cd2 : ∀ x : WE W9, x.W.cell? ⟨(ad.add (j * 3)).block, (ad.add (j * 3)).off + 2, none⟩ = some (.bool false) := fun x => (Ext.cell (p := ⟨(ad.add (j * 3)).block, (ad.add (j * 3)).off + 2, none⟩) x.h hal).trans d2
              have HB9 := Lib.hid B9
              have cp0 : ∀ x : WE W9, x.W.cell? ⟨w8.heap.size, 0, none⟩ = some (.string k) := fun x => (HB9.out.ext x.h).cell 0
              have cp1 : ∀ x : WE W9, x.W.cell? ⟨w8.heap.size, 1, none⟩ = some (.string vV) := fun x => (HB9.out.ext x.h).cell 1
              have cp2 : ∀ x : WE W9, x.W.cell? ⟨w8.heap.size, 2, none⟩ = some (.bool false) := fun x => (HB9.out.ext x.h).cell 2
              obtain ⟨m, hm⟩ : ∃ m, i - 1 = m := ⟨_, rfl⟩
              have hmi : m < i := by omega
              have hw1 : IntKind.i64.wrap ((i : Int) - 1) = (m : Int) := by rw [IntWalk.i64_in _ (by omega)]; omega
              have hFi : ∀ x : WE W9, Calls Tryd.prog 17 #[.pointer (some ⟨tb, 0, none⟩)] x.W fun e w' => e = .returned (.string ⟨#[97, 97]⟩) ∧ Ext x.W w' := fun x => by
                have := TFirst_any _ tb v es x.W (HT9.out.ext x.h)
                rwa [HKA.out 0 (by omega), lett_aa] at this
              have hLa : ∀ x : WE W9, Calls Tryd.prog 18 #[.pointer (some ⟨tb, 0, none⟩)] x.W fun e w' => e = .returned (.string (lett m)) ∧ Ext x.W w' := fun x => by
                have := TLast_any _ tb v es x.W (HT9.out.ext x.h)
                rwa [HLEN.out, hm, HKA.out m hmi] at this
              have HFI := Lib.hid hFi
              have HLA := Lib.hid hLa
              have HLE := Lib.hid fun x : WE W9 => Lett_any m x.W (by omega)
              generalize lett m = km at *
              clear d0 d1 d2 B9 hFi hLa hm HR HR2 HR3 HR5 HR6 HR9 hbl hal hgj
              (refine wp_region_ext (w0 := W9) (by kernel_rfl) (by kernel_rfl) (by (repeat (with_reducible first | exact Ext.refl _ | assumption | refine Ext.drew ?_ | refine Ext.drewN ?_ _ | refine Ext.alloc ?_ _ | refine Ext.trans ?_ (by with_reducible assumption)))) ?_; (repeat (go_big_quiet_step ((first | (go_at_call 17; exact quietE (HFI.out _)) | (go_at_call 18; exact quietE (HLA.out _)) | (go_at_call 11; exact quietE (HLE.out _)))))); refine wpQuiet_nil ?_)
              intro w10 hb10
              go_wp2_with fail
              go_ret
              exact ⟨rfl, e9w.trans hb10⟩
            · have hat' : at_ < 0 ∨ (¬ at_ < 0 ∧ (i : Int) ≤ at_) := by omega
              clear hat
              rcases hat' with h | ⟨h, h2⟩
              all_goals
                go_wp2_with fail
                go_ret
                exact ⟨rfl, e6⟩
        · exact absurd HOP.out (ho.1 L)
  · have hn' : n0 < 0 ∨ (¬ n0 < 0 ∧ 60 < n0) := by omega
    clear hn
    rcases hn' with h | ⟨h, h2⟩
    all_goals
      go_enter Tryd.func3, Tryd.ntmps3
      go_wp2_with fail
      go_ret
      exact ⟨rfl, Ext.refl _⟩
end Go.Proofs.YtnafegofmbhahaaDoor.tableEmpty
