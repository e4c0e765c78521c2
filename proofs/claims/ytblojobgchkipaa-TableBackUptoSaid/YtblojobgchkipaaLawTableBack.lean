import Derived.Test.YtblojobgchkipaaTab7
import Derived.Test.YtblojobgchkipaaPairsAny
import Derived.Test.YtblojobgchkipaaPoke
import Derived.Deep.DeepCutAuto
import Derived.Deep.CutRange
namespace Go.Proofs.Ytblojobgchkipaa.tableBack
open Go.RowKit Go.WideShapes
set_option linter.unusedVariables false
attribute [local go_sem ↓] Go.wp_at_zero Go.wp_at_succ

def pAX : Pr := ⟨⟨#[97]⟩, ⟨#[120]⟩, false⟩
theorem one_ok : tblK [pAX] = 0 := by
  rw [tblK_zero]
  refine ⟨fun i j p q hi hj hij => ?_, fun p hp => ?_⟩
  · have := (List.getElem?_eq_some_iff.1 hi).1
    have := (List.getElem?_eq_some_iff.1 hj).1
    simp at *
    omega
  · obtain rfl : p = pAX := by simpa using hp
    exact ⟨by decide, by decide, fun h => by cases h⟩
theorem one_tab : tabR [pAX] = tabB [pAX] := if_pos one_ok
theorem one_size : (tabB [pAX]).size = 13 := by rw [tabB_size]; rfl
theorem one_get : pairV [pAX] ⟨#[97]⟩ = pAX := rfl
theorem one_key : tgK [pAX] ⟨#[97]⟩ = 0 := rfl

theorem isOk_eq {k : Int} (h : isOk k = true) : k = 0 := Decidable.byContradiction fun hk => by rw [isOk_no hk] at h; cases h

set_option maxRecDepth 100000 in
set_option maxHeartbeats 2000000 in
theorem walk (A : Option Addr) (n c : Nat) (l : List Pr) (b : ByteArray) (at_ to_ : Int) (w : World) (hx : l.length = n) (m : c ≤ maxLen) (R : Rd w 3 A n c (l.flatMap Pr.cells)) (hn : n ≤ 1048576) (hb : b.size ≤ 1048576) (ht : 0 ≤ to_ ∧ to_ < 256) :
    Calls Try.prog 3 #[.slice A n c, .string b, .int .i64 at_, .int .u8 to_] w fun e w' => e = .returned (.bool true) ∧ Ext w w' := by
  obtain ⟨hE, hN, hG⟩ := errR_rules
  have hms : c ≤ 9223372036854775807 := by unfold maxLen at m; omega
  have HX := Lib.hid hx
  have HL := Lib.hid R.2.1
  have HR := Lib.hid R
  clear hx
  obtain ⟨ea, HEA⟩ : ∃ es : List Pr, Hid ([pAX] = es) := ⟨_, rfl⟩
  have H1 := Lib.hid one_ok
  have H2 := Lib.hid one_tab
  have H3 := Lib.hid one_size
  have H4 := Lib.hid one_get
  have H5 := Lib.hid one_key
  rw [HEA.out] at H1 H2 H3 H4 H5
  obtain ⟨z, HZ⟩ : ∃ x, Hid (tabB ea = x) := ⟨_, rfl⟩
  rw [HZ.out] at H2 H3
  have hz := H3.out
  go_enter Try.func3, Try.ntmps3
  have rP : Rd (w.alloc (.cells #[.string ⟨#[97]⟩, .string ⟨#[120]⟩, .bool false] 28)) 3 (some ⟨w.heap.size, 0, none⟩) 1 1 (([pAX] : List Pr).flatMap Pr.cells) :=
    ⟨rfl, Nat.le_refl _, fun _ => ⟨_, rfl, by simp, fun j u hu => news_new w 28 [.string ⟨#[97]⟩, .string ⟨#[120]⟩, .bool false] _ rfl j u hu⟩⟩
  rw [HEA.out] at rP
  have e1 : Ext w (w.alloc (.cells #[.string ⟨#[97]⟩, .string ⟨#[120]⟩, .bool false] 28)) := (Ext.refl _).alloc _
  go_wp2_with fail
  generalize w.alloc (.cells #[.string ⟨#[97]⟩, .string ⟨#[120]⟩, .bool false] 28) = W1 at *
  refine (Build_any _ 1 1 ea _ rP (by simp only [maxLen]; omega) (by omega)).mono ?_
  rw [H2.out, H1.out, errR_0]
  rintro _ w1 ⟨rfl, hb1⟩
  go_wp2_with fail
  refine (Open_any z _ (by omega)).mono ?_
  rintro e w2 ⟨ho | ho, hb2⟩
  · obtain ⟨es, tb, v, hop, rfl, T2, -⟩ := ho
    obtain rfl : es = ea := opn_uniq hop ⟨H1.out, HZ.out⟩
    have HT2 := Lib.hid T2
    have e2 := (e1.trans hb1).trans hb2
    clear T2 hop e1 hb1 hb2 rP
    go_wp2_with fail
    refine (TGet_any _ tb v es ⟨#[97]⟩ _ HT2.out).mono ?_
    rw [H4.out, H5.out, errR_0]
    rintro _ w3 ⟨rfl, hb3⟩
    have e3 := e2.trans hb3
    have P4 := Bk.at_ w3 28 #[.string ⟨#[97]⟩, .string ⟨#[120]⟩, .bool false] w3.heap.size rfl
    have e4 : Ext w (w3.alloc (.cells #[.string ⟨#[97]⟩, .string ⟨#[120]⟩, .bool false] 28)) := e3.alloc _
    have y1 : (w3.alloc (.cells #[.string ⟨#[97]⟩, .string ⟨#[120]⟩, .bool false] 28)).cell? ⟨w3.heap.size, 1, none⟩ = some (.string ⟨#[120]⟩) := P4.cell 1
    clear e2 hb3 P4 e3
    have hpv : pAX.val = Value.agg #[.string ⟨#[97]⟩, .string ⟨#[120]⟩, .bool false] := rfl
    rw [hpv]
    go_wp2_with fail
    generalize w3.alloc (.cells #[.string ⟨#[97]⟩, .string ⟨#[120]⟩, .bool false] 28) = W4 at *
    clear y1 HT2
    refine (Build_any A n c l _ (HR.out.ext e4) m (by omega)).mono ?_
    obtain ⟨k, HK⟩ : ∃ x, Hid (tblK l = x) := ⟨_, rfl⟩
    obtain ⟨s, HS⟩ : ∃ x, Hid (tabR l = x) := ⟨_, rfl⟩
    rw [HK.out, HS.out]
    rintro _ w5 ⟨rfl, hb5⟩
    have e5 := e4.trans hb5
    clear e4 hb5
    go_upto_if 61 with (fail)
    go_cut [15, 16, 17, 18, 19, 20] (fun _ _ _ _ _ _ wc => Ext w wc)
    case first =>
      as_aux_lemma =>
      cases hok : isOk k with
      | false =>
        go_wp2_with fail
        go_meet
        exact e5
      | true =>
        have hk : k = 0 := isOk_eq hok
        have HK := Lib.hid (show tblK l = 0 from HK.out.trans hk)
        have hs : s = tabB l := by rw [← HS.out]; exact if_pos HK.out
        have hsz : s.size ≤ 500000000 := by
          have h1 := bodyB_len (tblK_zero.1 HK.out).2
          rw [HX.out] at h1
          rw [hs, tabB_size]
          omega
        have HOP : Hid (opn l s) := ⟨HK.out, hs.symm⟩
        clear hs hk
        go_wp2_with fail
        refine (Open_any s _ hsz).mono ?_
        rintro e w6 ⟨ho | ho, hb6⟩
        · obtain ⟨es', tb6, v6, hop, rfl, T6, -⟩ := ho
          obtain rfl : es' = l := opn_uniq hop HOP.out
          have e6 := e5.trans hb6
          have hT := Lib.hid T6
          clear T6 hop hb6 e5
          go_wp2_with fail
          refine (TAll_any _ tb6 v6 es' _ hT.out).mono ?_
          rintro _ w7 ⟨⟨v7, rfl, o7⟩, hb7⟩
          obtain ⟨A7, c7, rfl, hc7, R7, -⟩ := own_rd o7
          rw [HX.out] at R7
          rw [HX.out]
          have e7 := e6.trans hb7
          clear o7 e6 hb7 hT
          go_wp2_with fail
          refine (Pairs_same A7 A n c7 c es' _ R7 (HR.out.ext e7) (by omega)).mono ?_
          rintro _ w8 ⟨rfl, hb8⟩
          have e8 := e7.trans hb8
          clear R7 e7 hb8
          by_cases hin : 0 ≤ at_ ∧ at_ < (s.size : Int)
          · obtain ⟨j, rfl⟩ : ∃ j : Nat, at_ = (j : Int) := ⟨at_.toNat, by omega⟩
            have hj : j < s.size := by omega
            have gj : ∀ h : j < s.size, s[j]'h = byT s j := fun h => byT_get s j h
            have hji : (j : Int) < (s.size : Int) := hin.2
            by_cases hq : ((byT s j).toNat : Int) = to_
            · have hbq : (((byT s j).toNat : Int) == to_) = true := by rw [hq]; simp
              clear hin hq
              go_wp2_with fail
              go_meet
              exact e8
            · have hbq : (((byT s j).toNat : Int) == to_) = false := beq_eq_false_iff_ne.2 hq
              have HPN := Lib.hid (poke_ne hj ht hq)
              have hconv := run_bytes_of_string (P := Try.prog) w8 9 36 5 s Try.underlying9 Try.underlying36 Try.underlying5
              obtain ⟨pc1, pc2, pc3⟩ := poke_conv s j (grownCap w8 s.size 0 5) to_ w8 hj
              have hps := poke_size s j to_
              have e9 : Ext w ((w8.drew.alloc (.cells (bytesRow s (grownCap w8 s.size 0 5)) 5 ((bytesRow s (grownCap w8 s.size 0 5)).size, (bytesRow s (grownCap w8 s.size 0 5)).size + 1))).setCell ⟨w8.heap.size, j, none⟩ (.int .u8 to_)) := (e8.drew.alloc _).setCell (p := ⟨w8.heap.size, j, none⟩) e8.size _
              have hl9 : w8.heap.size < (w8.drew.alloc (.cells (bytesRow s (grownCap w8 s.size 0 5)) 5 ((bytesRow s (grownCap w8 s.size 0 5)).size, (bytesRow s (grownCap w8 s.size 0 5)).size + 1))).heap.size := by simp
              obtain ⟨ps, HPS⟩ : ∃ x, Hid (poke s j to_ = x) := ⟨_, rfl⟩
              rw [HPS.out] at HPN pc3 hps
              generalize bytesRow s (grownCap w8 s.size 0 5) = C at *
              generalize grownCap w8 s.size 0 5 = cp at *
              have pd1 : (w8.alloc (.cells C 5 (C.size, C.size + 1))).cell? ⟨w8.heap.size, j, none⟩ = some (.int .u8 (byT s j).toNat) := pc1
              have pd2 : (w8.alloc (.cells C 5 (C.size, C.size + 1))).frozen? ⟨w8.heap.size, j, none⟩ = false := pc2
              have pd3 : (convert 36 9 (.slice (some ⟨w8.heap.size, 0, none⟩) s.size cp)).run Try.prog (((w8.alloc (.cells C 5 (C.size, C.size + 1))).setCell ⟨w8.heap.size, j, none⟩ (.int .u8 to_)).drew) = .ok (.string ps) (((w8.alloc (.cells C 5 (C.size, C.size + 1))).setCell ⟨w8.heap.size, j, none⟩ (.int .u8 to_)).drew) := pc3
              clear hq hin
              go_wp2_with fail
              refine (Open_any ps _ (by omega)).mono ?_
              rintro e w10 ⟨ho | ho, hb10⟩
              · obtain ⟨es2, tb10, v10, hop, rfl, T10, -⟩ := ho
                have hne : es2 ≠ es' := fun e => HPN.out (by rw [← hop.2, e]; exact HOP.out.2)
                have HNE := Lib.hid hne
                have e10 := e9.trans hb10
                have hT := Lib.hid T10
                have hl10 : es2.length ≤ 200000000 := T10.len
                clear T10 hop hb10 hne pc1 pc2 pc3 pd1 pd2 pd3
                go_wp2_with fail
                refine (TAll_any _ tb10 v10 es2 _ hT.out).mono ?_
                rintro _ w11 ⟨⟨v11, rfl, o11⟩, hb11⟩
                obtain ⟨A11, c11, rfl, hc11, R11, -⟩ := own_rd o11
                have e11 := e10.trans hb11
                clear o11 e10 hb11 hT
                go_wp2_with fail
                refine (Pairs_not A11 A es2.length n c11 c es2 es' _ R11 (HR.out.ext e11) (by omega) (by omega) HNE.out).mono ?_
                rintro _ w12 ⟨rfl, hb12⟩
                go_wp2_with fail
                go_meet
                exact e11.trans hb12
              · obtain ⟨hno, rfl⟩ := ho
                have hE2 : isOk 2 = false := rfl
                clear hno
                go_wp2_with fail
                go_meet
                exact e9.trans hb10
          · have hin2 : ¬ 0 ≤ at_ ∨ (0 ≤ at_ ∧ ¬ at_ < (s.size : Int)) := by omega
            clear hin
            rcases hin2 with h | ⟨h, h2⟩
            · go_wp2_with fail
              go_meet
              exact e8
            · go_wp2_with fail
              go_meet
              exact e8
        · exact absurd HOP.out (ho.1 l)
    case rest =>
    as_aux_lemma =>
    clear HS HK e5
    go_wp2_with fail
    refine (Open_any b _ (by omega)).mono ?_
    rintro e w6 ⟨ho | ho, hb6⟩
    · obtain ⟨es', tb6, v6, hop, rfl, T6, -⟩ := ho
      have e6 := hcut.trans hb6
      have hl6 := T6.len
      have hT := Lib.hid T6
      have H6 := Lib.hid hop
      have hl7 : 3 * es'.length ≤ b.size := by
        have h1 := tabB_size es'
        rw [hop.2] at h1
        have h2 := body_count es'
        omega
      clear T6 hop hb6
      go_wp2_with fail
      refine (TAll_any _ tb6 v6 es' _ hT.out).mono ?_
      rintro _ w7 ⟨⟨v7, rfl, o7⟩, hb7⟩
      obtain ⟨A7, c7, rfl, hc7, R7, -⟩ := own_rd o7
      have e7 := e6.trans hb7
      clear o7
      go_wp2_with fail
      refine (Build_any A7 es'.length c7 es' _ R7 hc7 (by omega)).mono ?_
      rw [show tabR es' = b from (if_pos H6.out.1).trans H6.out.2, H6.out.1, errR_0]
      rintro _ w8 ⟨rfl, hb8⟩
      go_wp2_with fail
      go_ret
      exact ⟨rfl, e7.trans hb8⟩
    · obtain ⟨hno, rfl⟩ := ho
      have hE2 : isOk 2 = false := rfl
      go_wp2_with fail
      go_ret
      exact ⟨rfl, hcut.trans hb6⟩
  · exfalso
    exact ho.1 ea ⟨H1.out, HZ.out⟩
end Go.Proofs.Ytblojobgchkipaa.tableBack
