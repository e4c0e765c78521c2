import Derived.Test.YtcgfdhgceokcnaaGreatDoorRows
import Derived.Test.YtcgfdhgceokcnaaGreatDoorJWalKeeps0
import Derived.WalkSpells
import Derived.WalkLawsBesides
namespace Go.Proofs.YtcgfdhgceokcnaaGreatDoor
open Go.ChangeShapes Go.WideShapes Go.ChangeAt Go.RowKit Go.Deep Go.Joins
set_option linter.unusedVariables false

theorem own : ownKnob Tryz.prog.godebug = none := by kernel_rfl
theorem laidOut : laidOutB Tryz.prog = true := by kernel_rfl
section
variable {H : Type} {enc : TypeId × Value → H} {w : World} {base : Nat} {spare : Nat → Bool} {held : Bool}
theorem dec_ent {n : Nat} {cs : List Value} {x : DataW H × List MemPlace} (h : DataW.trod enc Tryz.prog w base spare held n 60 cs = some x) : ∃ y : Ent, cs = y.cells ∧ y.good := by
  obtain ⟨hl, m, hf⟩ := fields_of Tryz.underlying60 (by kernel_rfl) (by kernel_rfl) h
  match cs, hl with
  | [c0, c1], _ =>
    obtain ⟨v0, y0, e0, t0⟩ := hf 0 _ rfl
    obtain ⟨v1, y1, e1, t1⟩ := hf 1 _ rfl
    simp at e0 e1
    subst e0 e1
    obtain ⟨z, hz, _, wz⟩ := DataW.trod_int Tryz.underlying3 t0
    obtain ⟨s, hs, _, ws⟩ := DataW.trod_string Tryz.underlying9 t1
    simp at hz hs
    subst hz hs
    exact ⟨⟨z, s⟩, rfl, wz, ws⟩
theorem dec_pair {n : Nat} {cs : List Value} {x : DataW H × List MemPlace} (h : DataW.trod enc Tryz.prog w base spare held n 31 cs = some x) : ∃ y : Pr, cs = y.cells ∧ y.good := by
  obtain ⟨hl, m, hf⟩ := fields_of Tryz.underlying31 (by kernel_rfl) (by kernel_rfl) h
  match cs, hl with
  | [c0, c1, c2], _ =>
    obtain ⟨v0, y0, e0, t0⟩ := hf 0 _ rfl
    obtain ⟨v1, y1, e1, t1⟩ := hf 1 _ rfl
    obtain ⟨v2, y2, e2, t2⟩ := hf 2 _ rfl
    simp at e0 e1 e2
    subst e0 e1 e2
    obtain ⟨a, ha, _, wa⟩ := DataW.trod_string Tryz.underlying9 t0
    obtain ⟨s, hs, _, ws⟩ := DataW.trod_string Tryz.underlying9 t1
    obtain ⟨b, hb, _⟩ := DataW.trod_bool Tryz.underlying4 t2
    simp at ha hs hb
    subst ha hs hb
    exact ⟨⟨a, s, b⟩, rfl, wa, ws⟩
end
end Go.Proofs.YtcgfdhgceokcnaaGreatDoor

namespace Go.Proofs.YtcgfdhgceokcnaaGreatDoor
open Go.RowKit
set_option linter.unusedVariables false


set_option maxRecDepth 100000 in
theorem Sum_any (s : ByteArray) (w : World) (hs : s.size ≤ maxLen) :
    Calls Tryz.prog 80 #[.string s] w fun e w' => e = .returned (.int .i64 (sumL s.data.toList)) ∧ Ext w w' := by
  unfold maxLen at hs
  have hconv := run_bytes_of_string (P := Tryz.prog) w 9 61 5 s Tryz.underlying9 Tryz.underlying61 Tryz.underlying5
  go_enter Tryz.func80, Tryz.ntmps80
  go_wp2
  clear hconv
  have hd := fun (j : Nat) (hj : j < s.data.size) => bytesRow_at s (grownCap w s.size 0 5) j hj
  generalize hC : bytesRow s (grownCap w s.size 0 5) = C at *
  generalize hcp : grownCap w s.size 0 5 = cp at *
  clear hC hcp
  go_loop [3, 9] (fun n i => ∃ k : Nat, k ≤ s.size ∧ i = .int .i64 k ∧ n = .int .i64 (sumL (s.data.toList.take k))) (fun _ i => s.size - (intOf i).toNat)
  case atStart => exact ⟨0, Nat.zero_le _, rfl, rfl⟩
  case round =>
    obtain ⟨k, hk, rfl, rfl⟩ := hrel
    by_cases hlt : k < s.size
    · obtain ⟨hb0, hb1⟩ := sumL_bd (s.data.toList.take k)
      have hb2 : s.data[k].toNat < 256 := UInt8.toNat_lt _
      have hx := (World.cell?_alloc_mark w C 5 (C.size, C.size + 1) k).trans (hd k hlt)
      have hst := sumL_take s.data.toList k hlt
      have HS := Lib.hid hst
      clear hst hd
      go_wp2
      go_round
      case rel => exact ⟨k + 1, by omega, by go_num, by rw [HS.out]; rfl⟩
      case measure => simp [intOf]; omega
    · go_wp2
      go_ret
      exact ⟨ret_int (by rw [List.take_of_length_le (by simp; omega)]), by (repeat (with_reducible first | exact Ext.refl _ | assumption | refine Ext.drew ?_ | refine Ext.drewN ?_ _ | refine Ext.alloc ?_ _ | refine Ext.trans ?_ (by with_reducible assumption)))⟩

end Go.Proofs.YtcgfdhgceokcnaaGreatDoor

namespace Go.Proofs.YtcgfdhgceokcnaaGreatDoor
open Go.RowKit
set_option linter.unusedVariables false

/-- an error of package api -/
def errV (n : Int) : Value := .iface 73 (.int .i64 n)
/-- an error by its number: 0 is none -/
def errR (n : Int) : Value := if n = 0 then .nilIface else errV n
theorem errR_0 : errR 0 = .nilIface := rfl
theorem errR_ne {n : Int} (h : n ≠ 0) : errR n = errV n := if_neg h
/-- is there an error? -/
def isOk (k : Int) : Bool := decide (k = 0)
theorem isOk_yes {k : Int} (h : k = 0) : isOk k = true := decide_eq_true h
theorem isOk_no {k : Int} (h : k ≠ 0) : isOk k = false := decide_eq_false h
theorem isOk_true {k : Int} (h : isOk k = true) : k = 0 := of_decide_eq_true h
theorem isOk_false {k : Int} (h : isOk k = false) : k ≠ 0 := of_decide_eq_false h
theorem eql_errR (k : Int) (w : World) : (binOp .eql 26 (errR k) .nilIface).run Tryz.prog w = .ok (.bool (isOk k)) w := by
  by_cases h : k = 0
  · rw [isOk_yes h, h, errR_0]; kernel_rfl
  · rw [errR_ne h, isOk_no h]
    exact run_eql_held_nil _ 26 _ _ (by kernel_rfl)
theorem neq_errR (k : Int) (w : World) : (binOp .neq 26 (errR k) .nilIface).run Tryz.prog w = .ok (.bool (!isOk k)) w := by
  by_cases h : k = 0
  · rw [isOk_yes h, h, errR_0]; kernel_rfl
  · rw [errR_ne h, isOk_no h]
    exact run_neq_held_nil _ 26 _ _ (by kernel_rfl)
theorem guard_errR (op : BinOp) (t : TypeId) (x : Operand) (c : Value) (k : Int) : eqGuard op t x (.const c) (errR k) .nilIface = pure () := by
  by_cases h : k = 0
  · rw [h, errR_0]; exact eqGuard_nil_constR _ _ _ _
  · rw [errR_ne h]; exact eqGuard_at_iface _ _ _ _ _ _ _
/-- what the walk wants of them -/
theorem errR_rules : (∀ (k : Int) (w : World), (binOp .eql 26 (errR k) .nilIface).run Tryz.prog w = .ok (.bool (isOk k)) w) ∧ (∀ (k : Int) (w : World), (binOp .neq 26 (errR k) .nilIface).run Tryz.prog w = .ok (.bool (!isOk k)) w) ∧ (∀ (op : BinOp) (t : TypeId) (x : Operand) (c : Value) (k : Int), eqGuard op t x (.const c) (errR k) .nilIface = pure ()) := ⟨eql_errR, neq_errR, guard_errR⟩

end Go.Proofs.YtcgfdhgceokcnaaGreatDoor
