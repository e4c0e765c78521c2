import Derived.Test.YtmknpehjncpekaaGreatDoorRows
import Derived.Test.YtmknpehjncpekaaGreatDoorJMirrorPlays0
import Derived.WalkSpells
import Derived.WalkLawsBesides
namespace Go.Proofs.YtmknpehjncpekaaGreatDoor
open Go.ChangeShapes Go.WideShapes Go.ChangeAt Go.RowKit Go.Deep Go.Joins
set_option linter.unusedVariables false

theorem own : ownKnob Tryz.prog.godebug = none := by kernel_rfl
theorem laidOut : laidOutB Tryz.prog = true := by kernel_rfl
section
variable {H : Type} {enc : TypeId × Value → H} {w : World} {base : Nat} {spare : Nat → Bool} {held : Bool}
theorem dec_ent {n : Nat} {cs : List Value} {x : DataW H × List MemPlace} (h : DataW.trod enc Tryz.prog w base spare held n 59 cs = some x) : ∃ y : Ent, cs = y.cells ∧ y.good := by
  obtain ⟨hl, m, hf⟩ := fields_of Tryz.underlying59 (by kernel_rfl) (by kernel_rfl) h
  match cs, hl with
  | [c0, c1], _ =>
    obtain ⟨v0, y0, e0, t0⟩ := hf 0 _ rfl
    obtain ⟨v1, y1, e1, t1⟩ := hf 1 _ rfl
    simp at e0 e1
    subst e0 e1
    obtain ⟨z, hz, _, wz⟩ := DataW.trod_int Tryz.underlying3 t0
    obtain ⟨s, hs, _, ws⟩ := DataW.trod_string Tryz.underlying9 t1
    simp at hz hs
    subst hz hs
    exact ⟨⟨z, s⟩, rfl, wz, ws⟩
theorem dec_head {n : Nat} {cs : List Value} {x : DataW H × List MemPlace} (h : DataW.trod enc Tryz.prog w base spare held n 34 cs = some x) : ∃ y : Hd, cs = y.cells ∧ y.good := by
  obtain ⟨hl, m, hf⟩ := fields_of Tryz.underlying34 (by kernel_rfl) (by kernel_rfl) h
  match cs, hl with
  | [c0, c1, c2, c3], _ =>
    obtain ⟨v0, y0, e0, t0⟩ := hf 0 _ rfl
    obtain ⟨v1, y1, e1, t1⟩ := hf 1 _ rfl
    obtain ⟨v2, y2, e2, t2⟩ := hf 2 _ rfl
    obtain ⟨v3, y3, e3, t3⟩ := hf 3 _ rfl
    simp at e0 e1 e2 e3
    subst e0 e1 e2 e3
    obtain ⟨a, ha, _, wa⟩ := DataW.trod_int Tryz.underlying3 t0
    obtain ⟨b, hb, _, wb⟩ := DataW.trod_int Tryz.underlying3 t1
    obtain ⟨c, hc, _, wc⟩ := DataW.trod_int Tryz.underlying3 t2
    obtain ⟨d, hd, _, wd⟩ := DataW.trod_int Tryz.underlying3 t3
    simp at ha hb hc hd
    subst ha hb hc hd
    exact ⟨⟨a, b, c, d⟩, rfl, wa, wb, wc, wd⟩
end
end Go.Proofs.YtmknpehjncpekaaGreatDoor

/- Arguments opened: replies. -/
namespace Go.Proofs.YtmknpehjncpekaaGreatDoor
set_option linter.unusedVariables false
open Go.ChangeShapes Go.WideShapes Go.ChangeAt Go.RowKit Go.Deep Go.Joins

/-- a reply and where its slices lie -/
structure RpG where
  what : Int
  head : Hd
  ents : RowG Ent
  proof : RowG Int
instance : Inhabited RpG := ⟨⟨0, default, default, default⟩⟩
def RpG.cells (r : RpG) : List Value := [.int .i64 r.what, .int .i64 r.head.size, .int .i64 r.head.root, .int .i64 r.head.time, .int .i64 r.head.sign, .slice r.ents.A r.ents.n r.ents.c, .slice r.proof.A r.proof.n r.proof.c]
def RpG.good (w : World) (r : RpG) : Prop := r.ents.good w 2 Ent.cells Ent.good ∧ r.proof.good w 1 icells igood
section
variable {H : Type} {enc : TypeId × Value → H} {w : World} {spare : Nat → Bool} {held : Bool}
set_option maxRecDepth 100000 in
theorem dec_reply {n : Nat} {cs : List Value} {x : DataW H × List MemPlace} (h : DataW.trod enc Tryz.prog w 0 spare held n 40 cs = some x) : ∃ y : RpG, cs = y.cells ∧ y.good w := by
  obtain ⟨xs, m, _, _, hlen, hxl, hf⟩ := DataW.trod_struct Tryz.underlying40 h
  have hC : Tryz.prog.cellsOf 40 = 7 := by kernel_rfl
  have hC1 : Tryz.prog.cellsOf 3 = 1 := by kernel_rfl
  have hC2 : Tryz.prog.cellsOf 34 = 4 := by kernel_rfl
  have hC3 : Tryz.prog.cellsOf 22 = 1 := by kernel_rfl
  have hC4 : Tryz.prog.cellsOf 38 = 1 := by kernel_rfl
  rw [hC] at hlen
  have hx4 : xs.length = 4 := hxl
  match cs, hlen, xs, hx4, hf with
  | [c0, c1, c2, c3, c4, c5, c6], _, [x0, x1, x2, x3], _, hf =>
    have t0 : DataW.trod enc Tryz.prog w 0 spare held m 3 (List.take (Tryz.prog.cellsOf 3) (List.drop 0 [c0, c1, c2, c3, c4, c5, c6])) = some x0 := hf 0 _ rfl
    rw [hC1] at t0
    have t1 : DataW.trod enc Tryz.prog w 0 spare held m 34 (List.take (Tryz.prog.cellsOf 34) (List.drop 1 [c0, c1, c2, c3, c4, c5, c6])) = some x1 := hf 1 _ rfl
    rw [hC2] at t1
    have t2 : DataW.trod enc Tryz.prog w 0 spare held m 22 (List.take (Tryz.prog.cellsOf 22) (List.drop 5 [c0, c1, c2, c3, c4, c5, c6])) = some x2 := hf 2 _ rfl
    rw [hC3] at t2
    have t3 : DataW.trod enc Tryz.prog w 0 spare held m 38 (List.take (Tryz.prog.cellsOf 38) (List.drop 6 [c0, c1, c2, c3, c4, c5, c6])) = some x3 := hf 3 _ rfl
    rw [hC4] at t3
    have t0' : DataW.trod enc Tryz.prog w 0 spare held m 3 [c0] = some x0 := t0
    have t1' : DataW.trod enc Tryz.prog w 0 spare held m 34 [c1, c2, c3, c4] = some x1 := t1
    have t2' : DataW.trod enc Tryz.prog w 0 spare held m 22 [c5] = some x2 := t2
    have t3' : DataW.trod enc Tryz.prog w 0 spare held m 38 [c6] = some x3 := t3
    obtain ⟨z, hz, _⟩ := dec_int Tryz.underlying3 t0'
    obtain ⟨y1, hy1, _⟩ := dec_head t1'
    obtain ⟨y2, hy2, g2⟩ := dec_row 2 (by decide) Ent.cells Ent.good (fun _ => rfl) Tryz.underlying22 (by kernel_rfl) (fun _ _ _ hy => dec_ent hy) t2'
    obtain ⟨y3, hy3, g3⟩ := dec_row 1 (by decide) icells igood (fun _ => rfl) Tryz.underlying38 (by kernel_rfl) (fun _ _ _ hy => dec_int Tryz.underlying3 hy) t3'
    refine ⟨⟨z, y1, y2, y3⟩, ?_, g2, g3⟩
    simp [Hd.cells, RowG.cells] at hz hy1 hy2 hy3
    obtain ⟨rfl, rfl, rfl, rfl⟩ := hy1
    subst hz hy2 hy3
    rfl
end
end Go.Proofs.YtmknpehjncpekaaGreatDoor

namespace Go.Proofs.YtmknpehjncpekaaGreatDoor
open Go.RowKit
set_option linter.unusedVariables false


set_option maxRecDepth 100000 in
theorem Sum_any (s : ByteArray) (w : World) (hs : s.size ≤ maxLen) :
    Calls Tryz.prog 56 #[.string s] w fun e w' => e = .returned (.int .i64 (sumL s.data.toList)) ∧ Ext w w' := by
  unfold maxLen at hs
  have hconv := run_bytes_of_string (P := Tryz.prog) w 9 105 5 s Tryz.underlying9 Tryz.underlying105 Tryz.underlying5
  go_enter Tryz.func56, Tryz.ntmps56
  go_wp2
  clear hconv
  have hd := fun (j : Nat) (hj : j < s.data.size) => bytesRow_at s (grownCap w s.size 0 5) j hj
  generalize hC : bytesRow s (grownCap w s.size 0 5) = C at *
  generalize hcp : grownCap w s.size 0 5 = cp at *
  clear hC hcp
  go_loop [3, 9] (fun n i => ∃ k : Nat, k ≤ s.size ∧ i = .int .i64 k ∧ n = .int .i64 (sumL (s.data.toList.take k))) (fun _ i => s.size - (intOf i).toNat)
  case atStart => exact ⟨0, Nat.zero_le _, rfl, rfl⟩
  case round =>
    obtain ⟨k, hk, rfl, rfl⟩ := hrel
    by_cases hlt : k < s.size
    · obtain ⟨hb0, hb1⟩ := sumL_bd (s.data.toList.take k)
      have hb2 : s.data[k].toNat < 256 := UInt8.toNat_lt _
      have hx := (World.cell?_alloc_mark w C 5 (C.size, C.size + 1) k).trans (hd k hlt)
      have hst := sumL_take s.data.toList k hlt
      have HS := Lib.hid hst
      clear hst hd
      go_wp2
      go_round
      case rel => exact ⟨k + 1, by omega, by go_num, by rw [HS.out]; rfl⟩
      case measure => simp [intOf]; omega
    · go_wp2
      go_ret
      exact ⟨ret_int (by rw [List.take_of_length_le (by simp; omega)]), by (repeat (with_reducible first | exact Ext.refl _ | assumption | refine Ext.drew ?_ | refine Ext.drewN ?_ _ | refine Ext.alloc ?_ _ | refine Ext.trans ?_ (by with_reducible assumption)))⟩

end Go.Proofs.YtmknpehjncpekaaGreatDoor
