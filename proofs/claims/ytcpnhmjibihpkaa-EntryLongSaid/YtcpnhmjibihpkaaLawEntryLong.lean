import Derived.Test.YtcpnhmjibihpkaaEntry
import Derived.BigQuiet
namespace Go.Proofs.Ytcpnhmjibihpkaa.entryLong
open Go.RowKit Go.WideShapes
set_option linter.unusedVariables false

theorem abc : (⟨0, ⟨#[97, 98, 99]⟩⟩ : Ent).ok := by decide
set_option maxRecDepth 100000 in
set_option maxHeartbeats 1000000 in
theorem walk_ok (t : Int) (s : ByteArray) (w : World) (h : (⟨t, s⟩ : Ent).ok) :
    Calls Try.prog 5 #[.agg #[.int .i64 t, .string s]] w fun e w' => e = .returned (.bool true) ∧ Ext w w' := by
  have HH := Lib.hid h
  have hs : s.size ≤ 200 := h.2.2
  clear h
  have z3 : ((⟨0, ⟨#[97, 98, 99]⟩⟩ : Ent).bytes).size = 7 := by decide
  obtain ⟨b, hb⟩ : ∃ b, b = (⟨t, s⟩ : Ent).bytes := ⟨_, rfl⟩
  have hsz : b.size = 4 + s.size := by rw [hb]; exact Ent.bytes_size _
  have hex : b.extract 4 (4 + s.size) = s := by rw [hb]; exact Ent.bytes_tail _
  have HB := Lib.hid hb
  clear hb
  go_enter Try.func5, Try.ntmps5
  go_wp2_with fail
  refine (Encode_ok 0 ⟨#[97, 98, 99]⟩ _ abc).mono ?_
  rintro e w1 ⟨rfl, hb1⟩
  have B1 : Bk w1 w.heap.size 33 #[.int .i64 t, .string s] := by (repeat (with_reducible first | assumption | (refine Bk.at_ _ _ _ _ ?_; simp; done) | refine Bk.drew ?_ | refine Bk.drewN ?_ _ | refine Bk.alloc ?_ _ | refine Bk.ext ?_ (by with_reducible assumption)))
  have q := B1.cell
  go_wp2_with fail
  refine (Encode_ok t s _ HH.out).mono ?_
  rintro e w2 ⟨rfl, hb2⟩
  rw [← HB.out]
  have B2 := B1.ext hb2
  clear q
  have q := B2.cell
  go_wp2_with fail
  go_quiet (fail)
  go_wp2_with fail
  go_ret
  exact ⟨rfl, by (repeat (with_reducible first | exact Ext.refl _ | assumption | refine Ext.drew ?_ | refine Ext.drewN ?_ _ | refine Ext.alloc ?_ _ | refine Ext.trans ?_ (by with_reducible assumption)))⟩
set_option maxRecDepth 100000 in
set_option maxHeartbeats 1000000 in
theorem walk_bad (t : Int) (s : ByteArray) (w : World) (h : ¬ (⟨t, s⟩ : Ent).ok) :
    Calls Try.prog 5 #[.agg #[.int .i64 t, .string s]] w fun e w' => e = .returned (.bool true) ∧ Ext w w' := by
  have HH := Lib.hid h
  have z3 : ((⟨0, ⟨#[97, 98, 99]⟩⟩ : Ent).bytes).size = 7 := by decide
  have h' : (t < 0) ∨ (0 ≤ t ∧ 1000000 < t) ∨ (0 ≤ t ∧ t ≤ 1000000 ∧ 200 < s.size) := by
    unfold Ent.ok at h
    dsimp only at h
    omega
  clear h
  rcases h' with h | ⟨h, h'⟩ | ⟨h, h', h''⟩
  all_goals
    go_enter Try.func5, Try.ntmps5
    go_wp2_with fail
    refine (Encode_ok 0 ⟨#[97, 98, 99]⟩ _ abc).mono ?_
    rintro e w1 ⟨rfl, hb1⟩
    have B1 : Bk w1 w.heap.size 33 #[.int .i64 t, .string s] := by (repeat (with_reducible first | assumption | (refine Bk.at_ _ _ _ _ ?_; simp; done) | refine Bk.drew ?_ | refine Bk.drewN ?_ _ | refine Bk.alloc ?_ _ | refine Bk.ext ?_ (by with_reducible assumption)))
    have q := B1.cell
    go_wp2_with fail
    refine (Encode_bad t s _ HH.out).mono ?_
    rintro e w2 ⟨rfl, hb2⟩
    have B2 := B1.ext hb2
    clear q
    have q := B2.cell
    simp only [errV]
    go_wp2_with fail
    go_ret
    exact ⟨ret_bool (by simp only [Bool.or_eq_true, decide_eq_true_eq] <;> omega), by (repeat (with_reducible first | exact Ext.refl _ | assumption | refine Ext.drew ?_ | refine Ext.drewN ?_ _ | refine Ext.alloc ?_ _ | refine Ext.trans ?_ (by with_reducible assumption)))⟩
theorem walk (e : Ent) (w : World) (g : e.good) :
    Calls Try.prog 5 #[.agg e.cells.toArray] w fun e w' => e = .returned (.bool true) ∧ Ext w w' := by
  by_cases h : e.ok
  · exact walk_ok e.time e.data w h
  · exact walk_bad e.time e.data w h
end Go.Proofs.Ytcpnhmjibihpkaa.entryLong
