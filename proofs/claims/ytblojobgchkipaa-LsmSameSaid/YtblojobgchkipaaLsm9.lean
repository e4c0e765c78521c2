/- lsm: do, Put, Drop. -/
import Derived.Test.YtblojobgchkipaaLsm8
namespace Go.Proofs.Ytblojobgchkipaa
open Go.RowKit Go.WideShapes
set_option linter.unusedVariables false
attribute [local go_sem ↓] Go.wp_at_zero Go.wp_at_succ

set_option maxRecDepth 100000 in
set_option maxHeartbeats 2000000 in
theorem ldo_any (F : Nat → Prop) (x lim : Nat) (Y : List Pr) (T : List (List Pr)) (p : Pr) (w : World) (h : LM w F x lim Y T) (htot : totL T ≤ 1000) (hlim : 1 ≤ lim) (hp : p.gone = true → p.value.size = 0) :
    Calls Try.prog 51 #[.pointer (some ⟨x, 0, none⟩), p.val] w fun e w' => e = .returned (errR (putK Y p)) ∧ ∃ F', LOp w w' F x lim (doY lim Y p) (doT lim Y T p) F' := by
  obtain ⟨hE, hN, hG⟩ := errR_rules
  obtain ⟨pk, pv, pg⟩ := p
  have B1 := Bk.at_ w 28 #[.string pk, .string pv, .bool pg] w.heap.size rfl
  have e1 : Ext w (w.alloc (.cells #[.string pk, .string pv, .bool pg] 28)) := (Ext.refl _).alloc _
  have h1 := h.ext e1
  have HPC := Lib.hid (lput_any F x lim Y T ⟨pk, pv, pg⟩ _ h1 hp)
  have HOP0 := Lib.hid (h.op e1)
  obtain ⟨k, hk⟩ : ∃ k, putK Y ⟨pk, pv, pg⟩ = k := ⟨_, rfl⟩
  have HK := Lib.hid hk
  rw [hk] at HPC ⊢
  have HTOT := Lib.hid htot
  clear hk h h1 hp htot
  go_enter Try.func51, Try.ntmps51
  go_wp2_with fail
  refine HPC.out.mono ?_
  rintro _ w1 ⟨rfl, F1, hop⟩
  have HOP := Lib.hid (HOP0.out.trans hop)
  clear hop HPC B1
  by_cases hk0 : k = 0
  · subst hk0
    rw [errR_0]
    obtain ⟨S, hS⟩ : ∃ S, storeL Y ⟨pk, pv, pg⟩ = S := ⟨_, rfl⟩
    have HS := Lib.hid hS
    have hop := HOP.out
    rw [hS] at hop
    have HOP := Lib.hid hop
    obtain ⟨sb, sv, lv, ts, hL, -, -⟩ := hop.at_
    have c0 : ∀ x_1 : WE w1, x_1.W.cell? ⟨x, 0, none⟩ = some (.int .i64 (lim : Int)) := fun x_1 => (hL.ext x_1.h).bk.cell 0
    have c1 : ∀ x_1 : WE w1, x_1.W.cell? ⟨x, 1, none⟩ = some (.pointer (some ⟨sb, 0, none⟩)) := fun x_1 => (hL.ext x_1.h).bk.cell 1
    have HSL := Lib.hid fun x_1 : WE w1 => SLen_any 0 sb sv S x_1.W (hL.ext x_1.h).st
    have HFL := Lib.hid fun W (e : Ext w1 W) => LFlush_any F1 x lim S T W (hop.at_.ext e) HTOT.out
    clear hS hop hL
    obtain ⟨n, hn⟩ : ∃ n, S.length = n := ⟨_, rfl⟩
    rw [hn] at HSL
    have HN := Lib.hid hn
    clear hn
    go_upto_region 4 with (fail)
    (refine wp_region_ext (w0 := w1) (by kernel_rfl) (by kernel_rfl) (by (repeat (with_reducible first | exact Ext.refl _ | assumption | refine Ext.drew ?_ | refine Ext.drewN ?_ _ | refine Ext.alloc ?_ _ | refine Ext.trans ?_ (by with_reducible assumption)))) ?_; (repeat (go_big_quiet_step ((go_at_call 21; exact quietS (HSL.out _))))); refine wpQuiet_nil ?_)
    intro w2 hb2
    clear c0 c1
    by_cases hc : lim ≤ n
    · have hci : (lim : Int) ≤ (n : Int) := by omega
      have hfk : flK S = 0 := if_neg (by rw [HN.out]; omega)
      have hY : doY lim Y ⟨pk, pv, pg⟩ = flY S := by unfold doY flY; rw [if_pos ⟨HK.out, by rw [HS.out, HN.out]; exact hc⟩]
      have hT : doT lim Y T ⟨pk, pv, pg⟩ = flT S T := by
        rw [flT_cons (by rw [HN.out]; omega)]
        unfold doT
        rw [if_pos ⟨HK.out, by rw [HS.out, HN.out]; exact hc⟩, HS.out]
      have HY := Lib.hid hY
      have HT := Lib.hid hT
      have HC := Lib.hid (HFL.out w2 hb2)
      rw [hfk, errR_0] at HC
      clear hY hT hfk hc
      go_wp2_with fail
      refine HC.out.mono ?_
      rintro _ w3 ⟨rfl, F3, hop3⟩
      have HO3 := Lib.hid hop3
      clear hop3
      go_wp2_with fail
      go_ret
      exact ⟨rfl, F3, by rw [HY.out, HT.out]; exact (HOP.out.trans (HOP.out.at_.op hb2)).trans HO3.out⟩
    · have hci : ¬ (lim : Int) ≤ (n : Int) := by omega
      have hY : doY lim Y ⟨pk, pv, pg⟩ = S := by unfold doY; rw [if_neg (fun h => hc (by rw [← HN.out, ← HS.out]; exact h.2)), HS.out]
      have hT : doT lim Y T ⟨pk, pv, pg⟩ = T := by unfold doT; rw [if_neg (fun h => hc (by rw [← HN.out, ← HS.out]; exact h.2))]
      have HY := Lib.hid hY
      have HT := Lib.hid hT
      clear hY hT hc
      go_wp2_with fail
      go_ret
      exact ⟨rfl, F1, by rw [HY.out, HT.out]; exact HOP.out.trans (HOP.out.at_.op hb2)⟩
  · have hok := isOk_no hk0
    have hb := do_bad (lim := lim) (T := T) (p := ⟨pk, pv, pg⟩) (by rw [HK.out]; exact hk0)
    have hs : storeL Y ⟨pk, pv, pg⟩ = Y := store_bad (by rw [HK.out]; exact hk0)
    have HB := Lib.hid hb
    have HS := Lib.hid hs
    clear hb hs hk0
    go_wp2_with fail
    go_ret
    refine ⟨rfl, F1, ?_⟩
    rw [HB.out.1, HB.out.2]
    have h1 := HOP.out
    rw [HS.out] at h1
    exact h1

set_option maxRecDepth 100000 in
theorem LPut_any (F : Nat → Prop) (x lim : Nat) (Y : List Pr) (T : List (List Pr)) (key value : ByteArray) (w : World) (h : LM w F x lim Y T) (htot : totL T ≤ 1000) (hlim : 1 ≤ lim) :
    Calls Try.prog 26 #[.pointer (some ⟨x, 0, none⟩), .string key, .string value] w fun e w' => e = .returned (errR (putK Y ⟨key, value, false⟩)) ∧ ∃ F', LOp w w' F x lim (doY lim Y ⟨key, value, false⟩) (doT lim Y T ⟨key, value, false⟩) F' := by
  have HC := Lib.hid (ldo_any F x lim Y T ⟨key, value, false⟩ w h htot hlim (fun e => by cases e))
  clear h
  go_enter Try.func26, Try.ntmps26
  go_wp2_with fail
  refine HC.out.mono ?_
  rintro _ w1 ⟨rfl, hh⟩
  have HH := Lib.hid hh
  clear hh
  go_wp2_with fail
  go_ret
  exact ⟨rfl, HH.out⟩
set_option maxRecDepth 100000 in
theorem LDrop_any (F : Nat → Prop) (x lim : Nat) (Y : List Pr) (T : List (List Pr)) (key : ByteArray) (w : World) (h : LM w F x lim Y T) (htot : totL T ≤ 1000) (hlim : 1 ≤ lim) :
    Calls Try.prog 30 #[.pointer (some ⟨x, 0, none⟩), .string key] w fun e w' => e = .returned (errR (putK Y ⟨key, ⟨#[]⟩, true⟩)) ∧ ∃ F', LOp w w' F x lim (doY lim Y ⟨key, ⟨#[]⟩, true⟩) (doT lim Y T ⟨key, ⟨#[]⟩, true⟩) F' := by
  have HC := Lib.hid (ldo_any F x lim Y T ⟨key, ⟨#[]⟩, true⟩ w h htot hlim (fun e => rfl))
  clear h
  go_enter Try.func30, Try.ntmps30
  go_wp2_with fail
  refine HC.out.mono ?_
  rintro _ w1 ⟨rfl, hh⟩
  have HH := Lib.hid hh
  clear hh
  go_wp2_with fail
  go_ret
  exact ⟨rfl, HH.out⟩
end Go.Proofs.Ytblojobgchkipaa
