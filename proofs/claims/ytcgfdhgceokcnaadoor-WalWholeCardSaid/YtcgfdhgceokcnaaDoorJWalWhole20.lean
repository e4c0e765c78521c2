/- wal.Do: a batch done to a copy. -/
import Derived.Test.YtcgfdhgceokcnaaDoorJWalWhole18
import Derived.Test.YtcgfdhgceokcnaaDoorJWalWhole19
import Derived.Test.YtcgfdhgceokcnaaDoorJWalWhole9
import Derived.Test.YtcgfdhgceokcnaaDoorJWalWhole2
import Derived.Lib.QuietBelow
import Derived.Test.YtcgfdhgceokcnaaDoorJWalWhole13
import Derived.Deep.QuietTactic
import Derived.BigQuiet
namespace Go.Proofs.YtcgfdhgceokcnaaDoor
open Go.RowKit Go.WideShapes
set_option linter.unusedVariables false
attribute [local go_sem ↓] Go.wp_at_zero Go.wp_at_succ

theorem run_at {lim : Nat} {b : List Pr} {j : Nat} {p : Pr} (h : b[j]? = some p) (Y : List Pr) (T : List (List Pr)) :
    (putK Y p = 0 → runK lim (b.drop j) Y T = runK lim (b.drop (j + 1)) (doY lim Y p) (doT lim Y T p) ∧ runB lim (b.drop j) Y T = runB lim (b.drop (j + 1)) (doY lim Y p) (doT lim Y T p)) ∧ (putK Y p ≠ 0 → runK lim (b.drop j) Y T = putK Y p) := by
  obtain ⟨hlt, rfl⟩ := List.getElem?_eq_some_iff.1 h
  rw [List.drop_eq_getElem_cons hlt]
  exact ⟨fun hk => ⟨if_pos hk, if_pos hk⟩, fun hk => if_neg hk⟩
theorem doK_run {lim : Nat} {b Y : List Pr} {T : List (List Pr)} (h : b.length ≤ 20) (hb : ∀ p ∈ b, badP p = false) : doK lim Y T b = runK lim b Y T := by
  unfold doK
  rw [if_neg (by omega), if_neg]
  intro h2
  obtain ⟨p, hp, hq⟩ := List.any_eq_true.1 h2
  rw [hb p hp] at hq
  cases hq
theorem doK_bad {lim : Nat} {b Y : List Pr} {T : List (List Pr)} (h : b.length ≤ 20) {p : Pr} (hp : p ∈ b) (hb : badP p = true) : doK lim Y T b = 3 := by
  unfold doK
  rw [if_neg (by omega), if_pos (List.any_eq_true.2 ⟨p, hp, hb⟩)]
/-- what Do leaves -/
def DoR (x lim : Nat) (Y : List Pr) (T : List (List Pr)) (b : List Pr) (w : World) (e : Ending) (w' : World) : Prop :=
  ∃ k : Int, doK lim Y T b = k ∧ Ext w w' ∧ ((k ≠ 0 ∧ e = .returned (.tuple #[.pointer (some ⟨x, 0, none⟩), errR k])) ∨ (k = 0 ∧ ∃ x', e = .returned (.tuple #[.pointer (some ⟨x', 0, none⟩), .nilIface]) ∧ LM w' aF x' lim (runB lim b Y T).1 (runB lim b Y T).2))
/-- how far the batch is done -/
def RunI (lim : Nat) (b Y : List Pr) (T : List (List Pr)) (j : Nat) (Yj : List Pr) (Tj : List (List Pr)) : Prop :=
  runK lim b Y T = runK lim (b.drop j) Yj Tj ∧ runB lim b Y T = runB lim (b.drop j) Yj Tj ∧ totL (Yj :: Tj) ≤ 900 + j
theorem RunI.next {lim : Nat} {b Y Yj : List Pr} {T Tj : List (List Pr)} {j : Nat} (h : RunI lim b Y T j Yj Tj) {p : Pr} (hp : b[j]? = some p) (hk : putK Yj p = 0) : RunI lim b Y T (j + 1) (doY lim Yj p) (doT lim Yj Tj p) := by
  obtain ⟨h1, h2, h3⟩ := h
  obtain ⟨k1, k2⟩ := (run_at hp Yj Tj).1 hk
  have := do_tot lim Yj Tj p
  exact ⟨h1.trans k1, h2.trans k2, by omega⟩
theorem RunI.bad {lim : Nat} {b Y Yj : List Pr} {T Tj : List (List Pr)} {j : Nat} (h : RunI lim b Y T j Yj Tj) {p : Pr} (hp : b[j]? = some p) {k : Int} (he : putK Yj p = k) (hk : k ≠ 0) : runK lim b Y T = k := by
  rw [h.1, (run_at hp Yj Tj).2 (by rw [he]; exact hk), he]
theorem RunI.end_ {lim : Nat} {b Y Yj : List Pr} {T Tj : List (List Pr)} {j : Nat} (h : RunI lim b Y T j Yj Tj) (hj : b.length ≤ j) : runK lim b Y T = 0 ∧ runB lim b Y T = (Yj, Tj) := by
  obtain ⟨h1, h2, -⟩ := h
  rw [List.drop_of_length_le hj] at h1 h2
  exact ⟨h1, h2⟩

set_option maxRecDepth 100000 in
set_option maxHeartbeats 4000000 in
theorem WDo_any (x lim : Nat) (Y : List Pr) (T : List (List Pr)) (A : Option Addr) (n c : Nat) (b : List Pr) (w : World) (h : LM w aF x lim Y T) (hr : Rd w 3 A n c (b.flatMap Pr.cells)) (hbl : b.length = n) (hc : c ≤ maxLen) (htot : totL (Y :: T) ≤ 900) (hlim : 1 ≤ lim) :
    Calls Tryd.prog 12 #[.pointer (some ⟨x, 0, none⟩), .slice A n c] w fun e w' => DoR x lim Y T b w e w' := by
  obtain ⟨hE, hN, hG⟩ := errR_rules
  have hn0 := hr.2.1
  have HBL := Lib.hid hbl
  unfold maxLen at hc
  by_cases h20 : n ≤ 20
  case neg =>
    have hk : doK lim Y T b = 4 := if_pos (by omega)
    have HK := Lib.hid hk
    have h20i : (20 : Int) < (n : Int) := by omega
    clear hk h hr hbl htot h20
    go_enter Tryd.func12, Tryd.ntmps12
    go_wp2_with fail
    go_ret2
    exact ⟨4, HK.out, Ext.refl _, .inl ⟨by decide, rfl⟩⟩
  case pos =>
    have h20i : ¬ (20 : Int) < (n : Int) := by omega
    have HR := Lib.hid hr
    have HLM := Lib.hid h
    have HTOT := Lib.hid htot
    have h0 : Hid (∀ p ∈ b.take 0, badP p = false) := Lib.hid (by simp)
    clear h hr htot hbl
    go_enter Tryd.func12, Tryd.ntmps12
    go_wp2_with fail
    go_loopw [7, 19] (fun _ u wr => ∃ i : Nat, u = .int .i64 i ∧ i ≤ n ∧ Ext w wr ∧ Hid (∀ p ∈ b.take i, badP p = false)) (fun _ u _ => n - (intOf u).toNat)
    case atStart => exact ⟨0, rfl, Nat.zero_le _, Ext.refl _, h0⟩
    case round =>
      obtain ⟨i, rfl, hi, hbw, hgood⟩ := hrel
      by_cases hci : i < n
      · obtain ⟨p, hp⟩ : ∃ p, b[i]? = some p := ⟨_, List.getElem?_eq_getElem (by rw [HBL.out]; exact hci)⟩
        obtain ⟨ad1, rfl, hb1, y0, y1, y2⟩ := (HR.out.ext hbw).getP hp
        have HBAD : Hid (badP p = true → doK lim Y T b = 3) := Lib.hid fun hq => doK_bad (by rw [HBL.out]; exact h20) (List.mem_of_getElem? hp) hq
        have HGOOD : Hid (badP p = false → ∀ q ∈ b.take (i + 1), badP q = false) := Lib.hid fun hq q hm => by
          rw [take_step hp, List.mem_append, List.mem_singleton] at hm
          rcases hm with hm | rfl
          · exact hgood.out q hm
          · exact hq
        obtain ⟨pk, pv, pg⟩ := p
        simp only at y0 y1 y2
        have P3 := Bk.at_ wr 30 #[.string pk, .string pv, .bool pg] wr.heap.size rfl
        have e3r : Ext w (wr.alloc (.cells #[.string pk, .string pv, .bool pg] 30)) := hbw.alloc _
        have z1 : (wr.alloc (.cells #[.string pk, .string pv, .bool pg] 30)).cell? ⟨wr.heap.size, 1, none⟩ = some (.string pv) := P3.cell 1
        have z2 : (wr.alloc (.cells #[.string pk, .string pv, .bool pg] 30)).cell? ⟨wr.heap.size, 2, none⟩ = some (.bool pg) := P3.cell 2
        clear P3 hp hgood
        go_upto_region 6 with (fail)
        generalize wr.alloc (.cells #[.string pk, .string pv, .bool pg] 30) = W3 at *
        cases pg with
        | false =>
          have HN := Lib.hid (HGOOD.out rfl)
          go_wp2_with fail
          go_roundw
          case rel => exact ⟨i + 1, by go_num, by omega, e3r, HN⟩
          case measure => simp [intOf]; omega
        | true =>
          by_cases hv : pv = ⟨#[]⟩
          · subst hv
            have HN := Lib.hid (HGOOD.out rfl)
            go_wp2_with fail
            go_roundw
            case rel => exact ⟨i + 1, by go_num, by omega, e3r, HN⟩
            case measure => simp [intOf]; omega
          · obtain ⟨q1, q2⟩ := str_someP (s := pv) (Nat.pos_of_ne_zero fun h => hv (str_noneP h))
            have hb3 := HBAD.out (by
              unfold badP
              simp only [Bool.true_and, decide_eq_true_eq]
              intro h0
              exact hv (str_noneP h0))
            have HB3 := Lib.hid hb3
            clear hb3
            go_wp2_with fail
            go_ret2
            exact ⟨3, HB3.out, e3r, .inl ⟨by decide, rfl⟩⟩
      · obtain rfl : i = n := by omega
        have HGD := Lib.hid hgood.out
        rw [List.take_of_length_le (by rw [HBL.out]; exact Nat.le_refl _)] at HGD
        have HDK := Lib.hid (doK_run (lim := lim) (Y := Y) (T := T) (by rw [HBL.out]; exact h20) HGD.out)
        have HCP := Lib.hid (LCopy_any x lim Y T wr (HLM.out.ext hbw))
        clear hgood
        go_wp2_with fail
        refine HCP.out.mono ?_
        rintro _ w2 ⟨⟨x', rfl, hx⟩, hb2⟩
        have e2 := hbw.trans hb2
        have hx2 : Hid (LMH w2 aF (fun g => g < w.heap.size) x' lim Y T) := Lib.hid (hx.weak fun g hg => Nat.lt_of_lt_of_le hg hbw.size)
        have hR0 : Hid (RunI lim b Y T 0 Y T) := Lib.hid ⟨rfl, rfl, HTOT.out⟩
        clear hx
        go_wp2_with fail
        go_loopw [10, 11, 37] (fun _ _ u wq => ∃ (j : Nat) (Yj : List Pr) (Tj : List (List Pr)), u = .int .i64 j ∧ j ≤ i ∧ Ext w wq ∧ Hid (LMH wq aF (fun g => g < w.heap.size) x' lim Yj Tj) ∧ Hid (RunI lim b Y T j Yj Tj)) (fun _ _ u _ => i - (intOf u).toNat)
        case atStart => exact ⟨0, Y, T, rfl, Nat.zero_le _, e2, hx2, hR0⟩
        case round =>
          obtain ⟨j, Yj, Tj, rfl, hj, hbq, hlm, hrun⟩ := hrel
          by_cases hcj : j < i
          · obtain ⟨p, hp⟩ : ∃ p, b[j]? = some p := ⟨_, List.getElem?_eq_getElem (by rw [HBL.out]; exact hcj)⟩
            obtain ⟨ad1, rfl, hb1, y0, y1, y2⟩ := (HR.out.ext hbq).getP hp
            have hgp := badP_ok (HGD.out p (List.mem_of_getElem? hp))
            have HP := Lib.hid hp
            obtain ⟨pk, pv, pg⟩ := p
            simp only at y0 y1 y2 hgp
            have P3 := Bk.at_ wr 30 #[.string pk, .string pv, .bool pg] wr.heap.size rfl
            have e3r : Ext w (wr.alloc (.cells #[.string pk, .string pv, .bool pg] 30)) := hbq.alloc _
            have z0 : (wr.alloc (.cells #[.string pk, .string pv, .bool pg] 30)).cell? ⟨wr.heap.size, 0, none⟩ = some (.string pk) := P3.cell 0
            have z1 : (wr.alloc (.cells #[.string pk, .string pv, .bool pg] 30)).cell? ⟨wr.heap.size, 1, none⟩ = some (.string pv) := P3.cell 1
            have z2 : (wr.alloc (.cells #[.string pk, .string pv, .bool pg] 30)).cell? ⟨wr.heap.size, 2, none⟩ = some (.bool pg) := P3.cell 2
            have hl3 := hlm.out.ext ((Ext.refl _).alloc (.cells #[.string pk, .string pv, .bool pg] 30))
            have HL3 := Lib.hid hl3
            clear P3 hp hlm hl3
            go_upto_region 13 with (fail)
            generalize wr.alloc (.cells #[.string pk, .string pv, .bool pg] 30) = W3 at *
            cases pg with
            | true =>
              have hv0 : pv = ⟨#[]⟩ := str_noneP (hgp rfl)
              subst hv0
              have HC := Lib.hid (LDropH_any aF (fun g => g < w.heap.size) x' lim Yj Tj pk W3 HL3.out (fun g hg => Nat.lt_of_lt_of_le hg e3r.size) (by have h1 := hrun.out.2.2; rw [totL_cons] at h1; omega) hlim)
              obtain ⟨k, hk⟩ : ∃ k, putK Yj ⟨pk, ⟨#[]⟩, true⟩ = k := ⟨_, rfl⟩
              rw [hk] at HC
              have HK := Lib.hid hk
              clear hk
              go_wp2_with fail
              refine HC.out.mono ?_
              rintro _ w4 ⟨rfl, F4, hop⟩
              have e4 := hop.held e3r (fun g hg => hg)
              have L4 := Lib.hid hop.at_.any
              clear hop
              by_cases hk0 : k = 0
              · subst hk0
                have HN := Lib.hid (hrun.out.next HP.out HK.out)
                rw [errR_0]
                go_wp2_with fail
                go_roundw
                case rel => exact ⟨j + 1, _, _, by go_num, by omega, e4, L4, HN⟩
                case measure => simp [intOf]; omega
              · have hok := isOk_no hk0
                have HBD := Lib.hid (HDK.out.trans (hrun.out.bad HP.out HK.out hk0))
                have HK0 := Lib.hid hk0
                clear hk0
                go_wp2_with fail
                go_ret2
                exact ⟨k, HBD.out, e4, .inl ⟨HK0.out, rfl⟩⟩
            | false =>
              have HC := Lib.hid (LPutH_any aF (fun g => g < w.heap.size) x' lim Yj Tj pk pv W3 HL3.out (fun g hg => Nat.lt_of_lt_of_le hg e3r.size) (by have h1 := hrun.out.2.2; rw [totL_cons] at h1; omega) hlim)
              obtain ⟨k, hk⟩ : ∃ k, putK Yj ⟨pk, pv, false⟩ = k := ⟨_, rfl⟩
              rw [hk] at HC
              have HK := Lib.hid hk
              clear hk
              go_wp2_with fail
              refine HC.out.mono ?_
              rintro _ w4 ⟨rfl, F4, hop⟩
              have e4 := hop.held e3r (fun g hg => hg)
              have L4 := Lib.hid hop.at_.any
              clear hop
              by_cases hk0 : k = 0
              · subst hk0
                have HN := Lib.hid (hrun.out.next HP.out HK.out)
                rw [errR_0]
                go_wp2_with fail
                go_roundw
                case rel => exact ⟨j + 1, _, _, by go_num, by omega, e4, L4, HN⟩
                case measure => simp [intOf]; omega
              · have hok := isOk_no hk0
                have HBD := Lib.hid (HDK.out.trans (hrun.out.bad HP.out HK.out hk0))
                have HK0 := Lib.hid hk0
                clear hk0
                go_wp2_with fail
                go_ret2
                exact ⟨k, HBD.out, e4, .inl ⟨HK0.out, rfl⟩⟩
          · obtain rfl : j = i := by omega
            obtain ⟨hk1, hk2⟩ := hrun.out.end_ (by rw [HBL.out]; exact Nat.le_refl _)
            have HK1 := Lib.hid hk1
            have HK2 := Lib.hid hk2
            have HL := Lib.hid hlm.out.free
            clear hlm hrun hk1 hk2
            go_wp2_with fail
            go_ret2
            exact ⟨0, HDK.out.trans HK1.out, hbq, .inr ⟨rfl, x', rfl, by rw [HK2.out]; exact HL.out⟩⟩
end Go.Proofs.YtcgfdhgceokcnaaDoor

/- strconv.Itoa, of any number. -/
namespace Go.Proofs.YtcgfdhgceokcnaaDoor
open Go.RowKit Go.WideShapes
set_option linter.unusedVariables false

theorem ext_grow (w : World) (k : Nat) (os : Array Obj) : Ext w (Sort.grow (w.drewN k) os) := below_regrown w (w.drawn + k) os
theorem ItoaI_any (v : Int) (w : World) (h0 : -9223372036854775808 ≤ v) (h1 : v ≤ 9223372036854775807) (hp : PowG w) :
    Calls Tryd.prog 34 #[.int .i64 v] w fun e w' => e = .returned (.string ⟨(Lib.itoa v).toArray⟩) ∧ Ext w w' :=
  (Tryd.strconv_Itoa v h0 h1 w hp).mono fun e w' ⟨he, k, os, hw⟩ => ⟨he, by rw [hw]; exact ext_grow w k os⟩
end Go.Proofs.YtcgfdhgceokcnaaDoor

/- witsame.Pairs of pairs that are the same. -/
namespace Go.Proofs.YtcgfdhgceokcnaaDoor
open Go.RowKit
set_option linter.unusedVariables false
attribute [local go_sem ↓] Go.wp_at_zero Go.wp_at_succ

end Go.Proofs.YtcgfdhgceokcnaaDoor
