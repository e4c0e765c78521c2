import Derived.Test.YtdefdcaeiojmeaaGreatDoorRows
import Derived.Test.YtdefdcaeiojmeaaGreatDoorJMirrorPlays0
namespace Go.Proofs.YtdefdcaeiojmeaaGreatDoor
open Go.ChangeShapes Go.WideShapes Go.ChangeAt Go.RowKit Go.Deep Go.Joins
set_option linter.unusedVariables false

theorem own : ownKnob Tryz.prog.godebug = none := by kernel_rfl
theorem laidOut : laidOutB Tryz.prog = true := by kernel_rfl
section
variable {H : Type} {enc : TypeId × Value → H} {w : World} {base : Nat} {spare : Nat → Bool} {held : Bool}
theorem dec_ent {n : Nat} {cs : List Value} {x : DataW H × List MemPlace} (h : DataW.trod enc Tryz.prog w base spare held n 83 cs = some x) : ∃ y : Ent, cs = y.cells ∧ y.good := by
  obtain ⟨hl, m, hf⟩ := fields_of Tryz.underlying83 (by kernel_rfl) (by kernel_rfl) h
  match cs, hl with
  | [c0, c1], _ =>
    obtain ⟨v0, y0, e0, t0⟩ := hf 0 _ rfl
    obtain ⟨v1, y1, e1, t1⟩ := hf 1 _ rfl
    simp at e0 e1
    subst e0 e1
    obtain ⟨z, hz, _, wz⟩ := DataW.trod_int Tryz.underlying3 t0
    obtain ⟨s, hs, _, ws⟩ := DataW.trod_string Tryz.underlying9 t1
    simp at hz hs
    subst hz hs
    exact ⟨⟨z, s⟩, rfl, wz, ws⟩
theorem dec_head {n : Nat} {cs : List Value} {x : DataW H × List MemPlace} (h : DataW.trod enc Tryz.prog w base spare held n 40 cs = some x) : ∃ y : Hd, cs = y.cells ∧ y.good := by
  obtain ⟨hl, m, hf⟩ := fields_of Tryz.underlying40 (by kernel_rfl) (by kernel_rfl) h
  match cs, hl with
  | [c0, c1, c2, c3], _ =>
    obtain ⟨v0, y0, e0, t0⟩ := hf 0 _ rfl
    obtain ⟨v1, y1, e1, t1⟩ := hf 1 _ rfl
    obtain ⟨v2, y2, e2, t2⟩ := hf 2 _ rfl
    obtain ⟨v3, y3, e3, t3⟩ := hf 3 _ rfl
    simp at e0 e1 e2 e3
    subst e0 e1 e2 e3
    obtain ⟨a, ha, _, wa⟩ := DataW.trod_int Tryz.underlying3 t0
    obtain ⟨b, hb, _, wb⟩ := DataW.trod_int Tryz.underlying3 t1
    obtain ⟨c, hc, _, wc⟩ := DataW.trod_int Tryz.underlying3 t2
    obtain ⟨d, hd, _, wd⟩ := DataW.trod_int Tryz.underlying3 t3
    simp at ha hb hc hd
    subst ha hb hc hd
    exact ⟨⟨a, b, c, d⟩, rfl, wa, wb, wc, wd⟩
theorem dec_tile {n : Nat} {cs : List Value} {x : DataW H × List MemPlace} (h : DataW.trod enc Tryz.prog w base spare held n 36 cs = some x) : ∃ y : Tl, cs = y.cells ∧ y.good := by
  obtain ⟨hl, m, hf⟩ := fields_of Tryz.underlying36 (by kernel_rfl) (by kernel_rfl) h
  match cs, hl with
  | [c0, c1, c2], _ =>
    obtain ⟨v0, y0, e0, t0⟩ := hf 0 _ rfl
    obtain ⟨v1, y1, e1, t1⟩ := hf 1 _ rfl
    obtain ⟨v2, y2, e2, t2⟩ := hf 2 _ rfl
    simp at e0 e1 e2
    subst e0 e1 e2
    obtain ⟨a, ha, _, wa⟩ := DataW.trod_int Tryz.underlying3 t0
    obtain ⟨b, hb, _, wb⟩ := DataW.trod_int Tryz.underlying3 t1
    obtain ⟨c, hc, _, wc⟩ := DataW.trod_int Tryz.underlying3 t2
    simp at ha hb hc
    subst ha hb hc
    exact ⟨⟨a, b, c⟩, rfl, wa, wb, wc⟩
end
end Go.Proofs.YtdefdcaeiojmeaaGreatDoor

/- Arguments opened: replies. -/
namespace Go.Proofs.YtdefdcaeiojmeaaGreatDoor
set_option linter.unusedVariables false
open Go.ChangeShapes Go.WideShapes Go.ChangeAt Go.RowKit Go.Deep Go.Joins

/-- a reply and where its slices lie -/
structure RpG where
  what : Int
  head : Hd
  ents : RowG Ent
  proof : RowG Int
instance : Inhabited RpG := ⟨⟨0, default, default, default⟩⟩
def RpG.cells (r : RpG) : List Value := [.int .i64 r.what, .int .i64 r.head.size, .int .i64 r.head.root, .int .i64 r.head.time, .int .i64 r.head.sign, .slice r.ents.A r.ents.n r.ents.c, .slice r.proof.A r.proof.n r.proof.c]
def RpG.good (w : World) (r : RpG) : Prop := r.ents.good w 2 Ent.cells Ent.good ∧ r.proof.good w 1 icells igood
section
variable {H : Type} {enc : TypeId × Value → H} {w : World} {spare : Nat → Bool} {held : Bool}
set_option maxRecDepth 100000 in
theorem dec_reply {n : Nat} {cs : List Value} {x : DataW H × List MemPlace} (h : DataW.trod enc Tryz.prog w 0 spare held n 74 cs = some x) : ∃ y : RpG, cs = y.cells ∧ y.good w := by
  obtain ⟨xs, m, _, _, hlen, hxl, hf⟩ := DataW.trod_struct Tryz.underlying74 h
  have hC : Tryz.prog.cellsOf 74 = 7 := by kernel_rfl
  have hC1 : Tryz.prog.cellsOf 3 = 1 := by kernel_rfl
  have hC2 : Tryz.prog.cellsOf 40 = 4 := by kernel_rfl
  have hC3 : Tryz.prog.cellsOf 22 = 1 := by kernel_rfl
  have hC4 : Tryz.prog.cellsOf 24 = 1 := by kernel_rfl
  rw [hC] at hlen
  have hx4 : xs.length = 4 := hxl
  match cs, hlen, xs, hx4, hf with
  | [c0, c1, c2, c3, c4, c5, c6], _, [x0, x1, x2, x3], _, hf =>
    have t0 : DataW.trod enc Tryz.prog w 0 spare held m 3 (List.take (Tryz.prog.cellsOf 3) (List.drop 0 [c0, c1, c2, c3, c4, c5, c6])) = some x0 := hf 0 _ rfl
    rw [hC1] at t0
    have t1 : DataW.trod enc Tryz.prog w 0 spare held m 40 (List.take (Tryz.prog.cellsOf 40) (List.drop 1 [c0, c1, c2, c3, c4, c5, c6])) = some x1 := hf 1 _ rfl
    rw [hC2] at t1
    have t2 : DataW.trod enc Tryz.prog w 0 spare held m 22 (List.take (Tryz.prog.cellsOf 22) (List.drop 5 [c0, c1, c2, c3, c4, c5, c6])) = some x2 := hf 2 _ rfl
    rw [hC3] at t2
    have t3 : DataW.trod enc Tryz.prog w 0 spare held m 24 (List.take (Tryz.prog.cellsOf 24) (List.drop 6 [c0, c1, c2, c3, c4, c5, c6])) = some x3 := hf 3 _ rfl
    rw [hC4] at t3
    have t0' : DataW.trod enc Tryz.prog w 0 spare held m 3 [c0] = some x0 := t0
    have t1' : DataW.trod enc Tryz.prog w 0 spare held m 40 [c1, c2, c3, c4] = some x1 := t1
    have t2' : DataW.trod enc Tryz.prog w 0 spare held m 22 [c5] = some x2 := t2
    have t3' : DataW.trod enc Tryz.prog w 0 spare held m 24 [c6] = some x3 := t3
    obtain ⟨z, hz, _⟩ := dec_int Tryz.underlying3 t0'
    obtain ⟨y1, hy1, _⟩ := dec_head t1'
    obtain ⟨y2, hy2, g2⟩ := dec_row 2 (by decide) Ent.cells Ent.good (fun _ => rfl) Tryz.underlying22 (by kernel_rfl) (fun _ _ _ hy => dec_ent hy) t2'
    obtain ⟨y3, hy3, g3⟩ := dec_row 1 (by decide) icells igood (fun _ => rfl) Tryz.underlying24 (by kernel_rfl) (fun _ _ _ hy => dec_int Tryz.underlying3 hy) t3'
    refine ⟨⟨z, y1, y2, y3⟩, ?_, g2, g3⟩
    simp [Hd.cells, RowG.cells] at hz hy1 hy2 hy3
    obtain ⟨rfl, rfl, rfl, rfl⟩ := hy1
    subst hz hy2 hy3
    rfl
end
end Go.Proofs.YtdefdcaeiojmeaaGreatDoor

/- what a bound on what is read gives. -/
namespace Go.Proofs.YtdefdcaeiojmeaaGreatDoor
open Go.ChangeShapes Go.WideShapes Go.ChangeAt Go.RowKit Go.Deep Go.Joins
set_option linter.unusedVariables false

theorem bulk_pos {H : Type} (d : DataW H) : 1 ≤ Rows.uptoBulk d := by
  cases d with
  | lit l => cases l <;> simp [Rows.uptoBulk]
  | nil => simp [Rows.uptoBulk]
  | ptr d => simp [Rows.uptoBulk]
  | slice e r => simp [Rows.uptoBulk]
  | agg e => simp [Rows.uptoBulk]
  | iface t d => simp [Rows.uptoBulk]
  | map e => simp [Rows.uptoBulk]
  | held h => simp [Rows.uptoBulk]
theorem bulk_len {H : Type} : ∀ l : List (DataW H), l.length ≤ Rows.uptoBulkAll l
  | [] => Nat.zero_le _
  | d :: l => by
    have h1 := bulk_pos d
    have h2 := bulk_len l
    simp only [Rows.uptoBulkAll, List.length_cons]
    omega
theorem bulk_slice {P : Program} {w : World} {H : Type} {enc : TypeId × Value → H} {spare : Nat → Bool} {held : Bool} {t e : TypeId} (ht : P.underlying t = some (.slice e)) {A : Option Addr} {n c : Nat} {d : DataW H} {p : List MemPlace} (h : DataW.Trod enc P w 0 spare held t (.slice A n c) d p) : n ≤ Rows.uptoBulk d := by
  obtain ⟨fuel, hf⟩ := h
  rcases open_slice ht hf with ⟨hcs, hx⟩ | ⟨a, len', cap', m, k, D, Pl, hcs, _, hl, hm, hmm, hx, hi⟩
  · simp [Value.cells] at hcs
    omega
  · simp [Value.cells] at hcs
    obtain ⟨rfl, rfl, rfl⟩ := hcs
    injection hx with h1 h2
    subst h1
    have h3 := bulk_len ((List.range n).map D)
    rw [List.length_map, List.length_range] at h3
    simp only [Rows.uptoBulk]
    omega
theorem bulk_string {H : Type} (s : ByteArray) : Rows.uptoBulk (DataW.lit (H := H) (.string s.data.toList)) = s.size + 1 := by
  have e : s.data.toList.length = s.size := by rw [Array.length_toList]; rfl
  simp only [Rows.uptoBulk]
  omega
end Go.Proofs.YtdefdcaeiojmeaaGreatDoor
