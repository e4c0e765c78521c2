/- The references' entries. -/
import Derived.Test.YtnphbkjkeipmmaaGreatDoorJRunBegins27
import Derived.Lib.SlicesS
import Derived.BigRegion
import Derived.Handy
import Derived.Test.YtnphbkjkeipmmaaGreatDoorJRunBegins16
import Derived.Test.YtnphbkjkeipmmaaGreatDoorJRunBegins13
import Derived.Test.YtnphbkjkeipmmaaGreatDoorJRunBegins8
namespace Go.Proofs.YtnphbkjkeipmmaaGreatDoor
open Go.RowKit Go.WideShapes
set_option linter.unusedVariables false
attribute [local go_sem ↓] Go.wp_at_zero Go.wp_at_succ

theorem encK_ways (t : Int) (s : ByteArray) : (t < 0 ∧ encK ⟨t, s⟩ = 1) ∨ (0 ≤ t ∧ 1000000 < t ∧ encK ⟨t, s⟩ = 1) ∨ (0 ≤ t ∧ t ≤ 1000000 ∧ 200 < s.size ∧ encK ⟨t, s⟩ = 4) ∨ (0 ≤ t ∧ t ≤ 1000000 ∧ s.size ≤ 200 ∧ encK ⟨t, s⟩ = 0) := by
  by_cases h : (⟨t, s⟩ : Ent).ok
  · have hk : encK ⟨t, s⟩ = 0 := if_pos h
    obtain ⟨h0, h1, h2⟩ := h
    exact .inr (.inr (.inr ⟨h0, h1, h2, hk⟩))
  · have hk : encK ⟨t, s⟩ = Ent.err ⟨t, s⟩ := if_neg h
    unfold Ent.ok at h
    simp only at h
    by_cases h2 : t < 0 ∨ 1000000 < t
    · have he : Ent.err ⟨t, s⟩ = 1 := if_pos h2
      rw [he] at hk
      omega
    · have he : Ent.err ⟨t, s⟩ = 4 := if_neg h2
      rw [he] at hk
      omega

set_option maxRecDepth 100000 in
theorem REntry_any (t : Int) (s : ByteArray) (w : World) :
    Calls Tryz.prog 23 #[.agg #[.int .i64 t, .string s]] w fun e w' => e = .returned (.int .i64 (encK ⟨t, s⟩)) ∧ Ext w w' := by
  have HW := Lib.hid (encK_ways t s)
  generalize encK ⟨t, s⟩ = k at *
  go_enter Tryz.func23, Tryz.ntmps23
  go_upto_region 1 with (fail)
  have B0 : Bk (w.alloc (.cells #[.int .i64 t, .string s] 67)) w.heap.size 67 #[.int .i64 t, .string s] := Bk.at_ _ _ _ _ rfl
  have X0 : Ext w (w.alloc (.cells #[.int .i64 t, .string s] 67)) := by (repeat (with_reducible first | exact Ext.refl _ | assumption | refine Ext.drew ?_ | refine Ext.drewN ?_ _ | refine Ext.alloc ?_ _ | refine Ext.trans ?_ (by with_reducible assumption)))
  generalize w.alloc (.cells #[.int .i64 t, .string s] 67) = w0 at *
  have b0 := B0.cell 0
  have b1 := B0.cell 1
  rcases HW.out with ⟨h, rfl⟩ | ⟨h, h', rfl⟩ | ⟨h, h', h'', rfl⟩ | ⟨h, h', h'', rfl⟩
  all_goals
    go_wp2_with fail
    go_ret
    exact ⟨rfl, X0⟩
end Go.Proofs.YtnphbkjkeipmmaaGreatDoor

/- The references' entries: one taken off bytes. -/
namespace Go.Proofs.YtnphbkjkeipmmaaGreatDoor
open Go.RowKit Go.WideShapes
set_option linter.unusedVariables false
attribute [local go_sem ↓] Go.wp_at_zero Go.wp_at_succ

theorem w_s1 {a b : Nat} (ha : a < 256) (hb : b < 256) : wrap64 ((a : Int) * 65536 + (b : Int) * 256) = (a : Int) * 65536 + (b : Int) * 256 := by unfold wrap64; omega
theorem w_s2 {a b c : Nat} (ha : a < 256) (hb : b < 256) (hc : c < 256) : wrap64 ((a : Int) * 65536 + (b : Int) * 256 + (c : Int)) = (a : Int) * 65536 + (b : Int) * 256 + (c : Int) := by unfold wrap64; omega

end Go.Proofs.YtnphbkjkeipmmaaGreatDoor

/- The references' entries: their bytes. -/
namespace Go.Proofs.YtnphbkjkeipmmaaGreatDoor
open Go.RowKit Go.WideShapes
set_option linter.unusedVariables false
attribute [local go_sem ↓] Go.wp_at_zero Go.wp_at_succ

theorem four_one (t : Int) (h0 : 0 ≤ t) (h1 : t ≤ 1000000) : wrap64 (t.tdiv 65536) % 256 = t / 65536 % 256 := by
  rw [Int.tdiv_eq_ediv_of_nonneg h0]
  unfold wrap64
  omega
theorem four_two (t : Int) (h0 : 0 ≤ t) (h1 : t ≤ 1000000) : (wrap64 (t.tdiv 256)).tmod 256 % 256 = t / 256 % 256 := by
  rw [Int.tdiv_eq_ediv_of_nonneg h0]
  have : wrap64 (t / 256) = t / 256 := by unfold wrap64; omega
  rw [this, Int.tmod_eq_emod_of_nonneg (by omega)]
  omega
theorem four_three (t : Int) (h0 : 0 ≤ t) (h1 : t ≤ 1000000) : t.tmod 256 % 256 = t % 256 := by
  rw [Int.tmod_eq_emod_of_nonneg h0]
  omega
theorem bytes_of {t : Int} {s : ByteArray} {a b c d : Int} (ha : a = t / 65536 % 256) (hb : b = t / 256 % 256) (hc : c = t % 256) (hd : d = (s.size : Int) % 256) :
    (([a, b, c, d] : List Int) ++ s.data.toList.map fun (b : UInt8) => (b.toNat : Int)).map byteOf = (⟨t, s⟩ : Ent).bytes.data.toList := by
  subst ha hb hc hd
  rw [List.map_append, List.map_map, Ent.bytes_list]
  have : (byteOf ∘ fun (b : UInt8) => (b.toNat : Int)) = id := by funext b; exact byteOf_toNat b
  rw [this, List.map_id]; rfl
theorem bytes_cells (s : ByteArray) (a b c d : Int) : List.map (Value.int .u8) [a, b, c, d] ++ newsS s = (([a, b, c, d] : List Int) ++ s.data.toList.map fun (b : UInt8) => (b.toNat : Int)).map (Value.int .u8) := by rw [List.map_append, newsS_int]
theorem ba_list (s : ByteArray) : (⟨s.data.toList.toArray⟩ : ByteArray) = s := ba_ext (by rw [toList_mk])

set_option maxRecDepth 100000 in
theorem RBytes_any (t : Int) (s : ByteArray) (w : World) (h : (⟨t, s⟩ : Ent).ok) :
    Calls Tryz.prog 64 #[.agg #[.int .i64 t, .string s]] w fun e w' => e = .returned (.string (⟨t, s⟩ : Ent).bytes) ∧ Ext w w' := by
  obtain ⟨h0, h1, hs⟩ := h
  dsimp only at h0 h1 hs
  obtain ⟨a, HA⟩ : ∃ a, Hid (wrap64 (t.tdiv 65536) % 256 = a) := ⟨_, rfl⟩
  obtain ⟨b, HB⟩ : ∃ a, Hid ((wrap64 (t.tdiv 256)).tmod 256 % 256 = a) := ⟨_, rfl⟩
  obtain ⟨c, HC⟩ : ∃ a, Hid (t.tmod 256 % 256 = a) := ⟨_, rfl⟩
  obtain ⟨d, HD⟩ : ∃ a, Hid ((s.size : Int) = a) := ⟨_, rfl⟩
  have HL := Lib.hid (bytes_of (s := s) (HA.out.symm.trans (four_one t h0 h1)) (HB.out.symm.trans (four_two t h0 h1)) (HC.out.symm.trans (four_three t h0 h1)) (HD.out.symm.trans (by omega)))
  have HSZ := Lib.hid (Ent.bytes_size ⟨t, s⟩)
  obtain ⟨i0, hi0, hz0', hz1, hz2⟩ := info_parts info_u8
  obtain ⟨g, hg⟩ : ∃ g, g = w.heap.size + 1 := ⟨_, rfl⟩
  clear h0 h1
  go_enter Tryz.func64, Tryz.ntmps64
  go_upto_region 2 with (fail)
  rw [HA.out, HB.out, HC.out, HD.out]
  have B0 : Bk (w.alloc (.cells #[.int .i64 t, .string s] 67)) w.heap.size 67 #[.int .i64 t, .string s] := Bk.at_ _ _ _ _ rfl
  have X0 : Ext w (w.alloc (.cells #[.int .i64 t, .string s] 67)) := by (repeat (with_reducible first | exact Ext.refl _ | assumption | refine Ext.drew ?_ | refine Ext.drewN ?_ _ | refine Ext.alloc ?_ _ | refine Ext.trans ?_ (by with_reducible assumption)))
  have hsz : (w.alloc (.cells #[.int .i64 t, .string s] 67)).heap.size = w.heap.size + 1 := by simp
  rw [← hg] at hsz ⊢
  generalize w.alloc (.cells #[.int .i64 t, .string s] 67) = w0 at *
  have own0 : (w0.alloc (.cells #[.int .u8 a, .int .u8 b, .int .u8 c, .int .u8 d] 5)).ownsRow w0.heap.size 5 1 (.slice (some ⟨w0.heap.size, 0, none⟩) 4 4) 4 (([a, b, c, d] : List Int).map (Value.int .u8)) :=
    World.ownsRow_lit w0 #[.int .u8 a, .int .u8 b, .int .u8 c, .int .u8 d] 4 (by simp) (by simp [maxLen]) rfl
  rw [hsz] at own0
  have B1 := B0.alloc (.cells #[.int .u8 a, .int .u8 b, .int .u8 c, .int .u8 d] 5)
  have E0 : Ext w (w0.alloc (.cells #[.int .u8 a, .int .u8 b, .int .u8 c, .int .u8 d] 5)) := by (repeat (with_reducible first | exact Ext.refl _ | assumption | refine Ext.drew ?_ | refine Ext.drewN ?_ _ | refine Ext.alloc ?_ _ | refine Ext.trans ?_ (by with_reducible assumption)))
  have hz0 : g < (w0.alloc (.cells #[.int .u8 a, .int .u8 b, .int .u8 c, .int .u8 d] 5)).heap.size := by simp [hsz]
  generalize w0.alloc (.cells #[.int .u8 a, .int .u8 b, .int .u8 c, .int .u8 d] 5) = w1 at *
  have hconv := run_bytes_of_string (P := Tryz.prog) w1 9 47 5 s Tryz.underlying9 Tryz.underlying47 Tryz.underlying5
  have hcells := conv_cells w1.drew s (grownCap w1 s.size 0 5) 5 ((bytesRow s (grownCap w1 s.size 0 5)).size, (bytesRow s (grownCap w1 s.size 0 5)).size + 1) w1.heap.size rfl
  have E1 : Ext w (w1.drew.alloc (.cells (bytesRow s (grownCap w1 s.size 0 5)) 5 ((bytesRow s (grownCap w1 s.size 0 5)).size, (bytesRow s (grownCap w1 s.size 0 5)).size + 1))) := by (repeat (with_reducible first | exact Ext.refl _ | assumption | refine Ext.drew ?_ | refine Ext.drewN ?_ _ | refine Ext.alloc ?_ _ | refine Ext.trans ?_ (by with_reducible assumption)))
  have E12 : Ext w1 (w1.drew.alloc (.cells (bytesRow s (grownCap w1 s.size 0 5)) 5 ((bytesRow s (grownCap w1 s.size 0 5)).size, (bytesRow s (grownCap w1 s.size 0 5)).size + 1))) := by (repeat (with_reducible first | exact Ext.refl _ | assumption | refine Ext.drew ?_ | refine Ext.drewN ?_ _ | refine Ext.alloc ?_ _ | refine Ext.trans ?_ (by with_reducible assumption)))
  have own1 : (w1.drew.alloc (.cells (bytesRow s (grownCap w1 s.size 0 5)) 5 ((bytesRow s (grownCap w1 s.size 0 5)).size, (bytesRow s (grownCap w1 s.size 0 5)).size + 1))).ownsRow g 5 1 (.slice (some ⟨g, 0, none⟩) 4 4) 4 (([a, b, c, d] : List Int).map (Value.int .u8)) := (World.ownsRow.drew own0).alloc _
  generalize w1.drew.alloc (.cells (bytesRow s (grownCap w1 s.size 0 5)) 5 ((bytesRow s (grownCap w1 s.size 0 5)).size, (bytesRow s (grownCap w1 s.size 0 5)).size + 1)) = w2 at *
  generalize grownCap w1 s.size 0 5 = cp at *
  have hs2 := E12.size
  have b0 := B1.cell 0
  have b1 := B1.cell 1
  have HC2 := Lib.hid hcells
  have hw1 : w.heap.size + 1 ≤ w1.heap.size := by omega
  clear hcells
  go_wp2_with (at_builtin; refine wpl_appa (by rfl) _ _ _ (by rfl) g 5 i0 _ 1 1 Tryz.underlying47 hi0 hz0' hz1 hz2 rfl (by omega) (.slice (some ⟨g, 0, none⟩) 4 4) 4 _ (by rfl) own1 ⟨w1.heap.size, 0, none⟩ s.size cp (newsS s) (by rfl) (newsS_len s) HC2.out (newsS_one s) (by omega) (by omega) (by omega) ?_; intro v3 w3 own3 hx3; have E3 := hx3 w (by omega) E1; obtain ⟨ad3, c3, rfl, hcv3⟩ := str_of_own own3 (by omega) (bytes_cells s a b c d) HL.out)
  rw [ba_list] at hcv3
  generalize (⟨t, s⟩ : Ent).bytes = y at *
  go_wp2_with fail
  go_ret
  exact ⟨rfl, E3⟩
end Go.Proofs.YtnphbkjkeipmmaaGreatDoor

/- The references' entries: all walks. -/
namespace Go.Proofs.YtnphbkjkeipmmaaGreatDoor
open Go.RowKit Go.WideShapes
set_option linter.unusedVariables false
attribute [local go_sem ↓] Go.wp_at_zero Go.wp_at_succ

/-! ### Check, both ways -/
theorem eCheck_any (t : Int) (s : ByteArray) (w : World) :
    Calls Tryz.prog 81 #[.agg #[.int .i64 t, .string s]] w fun e w' => e = .returned (errR (encK ⟨t, s⟩)) ∧ Ext w w' := by
  by_cases h : (⟨t, s⟩ : Ent).ok
  · refine (eCheck_ok t s w h).mono fun e w' hh => ⟨hh.1.trans ?_, hh.2⟩
    unfold encK; rw [if_pos h]; rfl
  · refine (eCheck_bad t s w h).mono fun e w' hh => ⟨hh.1.trans ?_, hh.2⟩
    unfold encK; rw [if_neg h, errR_ne (Ent.err_ne _)]

/-! ### Decode -/
def decO (s : ByteArray) : Option Ent := match takeE s with
  | some (e, r) => if r.size = 0 then some e else none
  | none => none
def decE (s : ByteArray) : Ent := (decO s).getD ⟨0, ⟨#[]⟩⟩
def decB (s : ByteArray) : Bool := (decO s).isSome
def decK (s : ByteArray) : Int := if decB s then 0 else 2
theorem dec_some {s r : ByteArray} {e : Ent} (h : takeE s = some (e, r)) (hr : r.size = 0) : decE s = e ∧ decB s = true ∧ decK s = 0 := by
  have : decO s = some e := by unfold decO; rw [h]; exact if_pos hr
  have hb : decB s = true := by unfold decB; rw [this]; rfl
  exact ⟨by unfold decE; rw [this]; rfl, hb, by unfold decK; rw [hb]; rfl⟩
theorem dec_none' {s : ByteArray} (h : decO s = none) : decE s = ⟨0, ⟨#[]⟩⟩ ∧ decB s = false ∧ decK s = 2 := by
  have hb : decB s = false := by unfold decB; rw [h]; rfl
  exact ⟨by unfold decE; rw [h]; rfl, hb, by unfold decK; rw [hb]; rfl⟩
theorem dec_none {s : ByteArray} (h : takeE s = none) : decE s = ⟨0, ⟨#[]⟩⟩ ∧ decB s = false ∧ decK s = 2 := dec_none' (by unfold decO; rw [h])
theorem dec_rest {s r : ByteArray} {e : Ent} (h : takeE s = some (e, r)) (hr : r.size ≠ 0) : decE s = ⟨0, ⟨#[]⟩⟩ ∧ decB s = false ∧ decK s = 2 := dec_none' (by unfold decO; rw [h]; exact if_neg hr)

def RUnpPost (s : ByteArray) (w : World) (e : Ending) (w' : World) : Prop :=
  match unpackE s with
  | some es => ∃ v, e = .returned (.tuple #[v, .bool true]) ∧ w'.ownsRow w.heap.size 67 2 v es.length (es.flatMap Ent.cells)
  | none => ∃ v, e = .returned (.tuple #[v, .bool false])
theorem RUnpPost.none {s : ByteArray} {w w' : World} {e : Ending} {v : Value} (h : unpackE s = none) (k : e = .returned (.tuple #[v, .bool false])) : RUnpPost s w e w' := by
  unfold RUnpPost; rw [h]; exact ⟨v, k⟩
theorem RUnpPost.some {s : ByteArray} {w w' : World} {v : Value} {es : List Ent} (h : unpackE s = some es) (k : w'.ownsRow w.heap.size 67 2 v es.length (es.flatMap Ent.cells)) : RUnpPost s w (.returned (.tuple #[v, .bool true])) w' := by
  unfold RUnpPost; rw [h]; exact ⟨_, rfl, k⟩

end Go.Proofs.YtnphbkjkeipmmaaGreatDoor

/- The references' entries: many. -/
namespace Go.Proofs.YtnphbkjkeipmmaaGreatDoor
open Go.RowKit Go.WideShapes
set_option linter.unusedVariables false
attribute [local go_sem ↓] Go.wp_at_zero Go.wp_at_succ

theorem first_step {es : List Ent} {j : Nat} {e : Ent} (h : es[j]? = some e) : firstErr (es.drop j) = if encK e = 0 then firstErr (es.drop (j + 1)) else encK e := by
  obtain ⟨hl, rfl⟩ := List.getElem?_eq_some_iff.1 h
  rw [List.drop_eq_getElem_cons hl, firstErr]
  by_cases hk : (es[j]).ok
  · rw [if_pos hk, if_pos (encK_zero.2 hk)]
  · rw [if_neg hk, if_neg (fun hh => hk (encK_zero.1 hh))]
    unfold encK; rw [if_neg hk]
theorem first_end {es : List Ent} : firstErr (es.drop es.length) = 0 := by rw [List.drop_length]; rfl

set_option maxRecDepth 100000 in
theorem REntries_any (A : Option Addr) (n c : Nat) (es : List Ent) (w : World) (hr : Rd w 2 A n c (es.flatMap Ent.cells)) (hm : c ≤ maxLen) :
    Calls Tryz.prog 58 #[.slice A n c] w fun e w' => e = .returned (.int .i64 (entsErr es)) ∧ Ext w w' := by
  have hx := hr.lenE
  have hlc := hr.2.1
  by_cases h2 : 200 < n
  · have HF : Hid (entsErr es = 4) := by show _ = _; unfold entsErr; rw [if_pos (by omega)]
    clear hx
    go_enter Tryz.func58, Tryz.ntmps58
    go_wp2_with fail
    go_ret
    exact ⟨ret_int HF.out.symm, by (repeat (with_reducible first | exact Ext.refl _ | assumption | refine Ext.drew ?_ | refine Ext.drewN ?_ _ | refine Ext.alloc ?_ _ | refine Ext.trans ?_ (by with_reducible assumption)))⟩
  · have HX := Lib.hid hx
    have HF : Hid (entsErr es = firstErr es) := by show _ = _; unfold entsErr; rw [if_neg (by omega)]
    clear hx
    go_enter Tryz.func58, Tryz.ntmps58
    go_wp2_with fail
    go_loopw [3] (fun x wr => ∃ j : Nat, x = .int .i64 j ∧ j ≤ n ∧ Ext w wr ∧ Hid (firstErr (es.drop j) = firstErr es)) (fun x _ => n - (intOf x).toNat)
    case atStart => exact ⟨0, rfl, Nat.zero_le _, by (repeat (with_reducible first | exact Ext.refl _ | assumption | refine Ext.drew ?_ | refine Ext.drewN ?_ _ | refine Ext.alloc ?_ _ | refine Ext.trans ?_ (by with_reducible assumption))), rfl⟩
    case round =>
      obtain ⟨j, rfl, hj, hbw, HJ⟩ := hrel
      by_cases hc : j < n
      · have hgj := List.getElem?_eq_getElem (l := es) (i := j) (by rw [HX.out]; exact hc)
        obtain ⟨ad, rfl, hb, c0, c1⟩ := (hr.ext hbw).getE hgj
        have HS := Lib.hid (first_step hgj)
        generalize es[j]'(by rw [HX.out]; exact hc) = e at *
        clear hgj
        obtain ⟨kk, HEK⟩ : ∃ kk, Hid (encK e = kk) := ⟨_, rfl⟩
        go_wp2_with fail
        refine (REntry_any _ _ _).mono ?_
        rw [show encK ⟨e.time, e.data⟩ = kk from HEK.out]
        rintro _ w1 ⟨rfl, hb1⟩
        have HS2 := Lib.hid (HJ.out.symm.trans HS.out)
        rw [HEK.out] at HS2
        by_cases hk : kk = 0
        · have HS3 : Hid (firstErr (es.drop (j + 1)) = firstErr es) := (HS2.out.trans (if_pos hk)).symm
          clear HS HS2 HEK
          subst hk
          go_wp2_with fail
          go_roundw
          case rel => exact ⟨j + 1, by go_num, by omega, by (repeat (with_reducible first | exact Ext.refl _ | assumption | refine Ext.drew ?_ | refine Ext.drewN ?_ _ | refine Ext.alloc ?_ _ | refine Ext.trans ?_ (by with_reducible assumption))), HS3.out⟩
          case measure => simp [intOf]; omega
        · have HS3 : Hid (entsErr es = kk) := (HF.out.trans HS2.out).trans (if_neg hk)
          clear HS HS2 HEK
          go_wp2_with fail
          go_ret
          exact ⟨ret_int HS3.out.symm, by (repeat (with_reducible first | exact Ext.refl _ | assumption | refine Ext.drew ?_ | refine Ext.drewN ?_ _ | refine Ext.alloc ?_ _ | refine Ext.trans ?_ (by with_reducible assumption)))⟩
      · obtain rfl : j = n := by omega
        have HS3 : Hid (entsErr es = 0) := by
          show _ = _
          rw [HF.out, ← HJ.out, ← HX.out, first_end]
        go_wp2_with fail
        go_ret
        exact ⟨ret_int HS3.out.symm, by (repeat (with_reducible first | exact Ext.refl _ | assumption | refine Ext.drew ?_ | refine Ext.drewN ?_ _ | refine Ext.alloc ?_ _ | refine Ext.trans ?_ (by with_reducible assumption)))⟩

set_option maxRecDepth 100000 in
theorem REntryLeafs_ok (A : Option Addr) (n c : Nat) (es : List Ent) (w : World) (hr : Rd w 2 A n c (es.flatMap Ent.cells)) (hm : c ≤ maxLen) (hk : entsOk es) :
    Calls Tryz.prog 37 #[.slice A n c] w fun e w' => (∃ v, e = .returned v ∧ OwnI w w' v (es.map Ent.leaf)) ∧ Ext w w' := by
  have hx := hr.lenE
  have hn : n ≤ 200 := by have := hk.1; omega
  have HX := Lib.hid hx
  have HK := Lib.hid hk.2
  have hl := hr.2.1
  clear hx
  obtain ⟨i0, hi0, hz0, hz1, hz2⟩ := info_parts info_int
  go_enter Tryz.func37, Tryz.ntmps37
  go_wp2_with fail
  go_loopw [3, 4] (fun v x wr => ∃ j : Nat, x = .int .i64 j ∧ j ≤ n ∧ Ext w wr ∧ Hid (OwnI w wr v ((es.take j).map Ent.leaf))) (fun _ x _ => n - (intOf x).toNat)
  case atStart => exact ⟨0, rfl, Nat.zero_le _, by (repeat (with_reducible first | exact Ext.refl _ | assumption | refine Ext.drew ?_ | refine Ext.drewN ?_ _ | refine Ext.alloc ?_ _ | refine Ext.trans ?_ (by with_reducible assumption))), own_nil _ _ _ _⟩
  case round =>
    obtain ⟨j, rfl, hj, hbw, hown⟩ := hrel
    by_cases hc : j < n
    · have hgj := List.getElem?_eq_getElem (l := es) (i := j) (by rw [HX.out]; exact hc)
      have hok := Lib.hid (HK.out _ (List.mem_of_getElem? hgj))
      obtain ⟨ad, rfl, hb, c0, c1⟩ := (hr.ext hbw).getE hgj
      have HT : Hid ((es.take (j + 1)).map Ent.leaf = (es.take j).map Ent.leaf ++ [(es[j]'(by rw [HX.out]; exact hc)).leaf]) := by
        show _ = _
        rw [List.take_succ_eq_append_getElem (by rw [HX.out]; exact hc), List.map_append]; rfl
      have hlen : ((es.take j).map Ent.leaf).length = j := by rw [List.length_map, List.length_take, HX.out, Nat.min_eq_left (by omega)]
      generalize es[j]'(by rw [HX.out]; exact hc) = e at *
      generalize (es.take j).map Ent.leaf = L at *
      have hsz := e.bytes_size
      have hds := hok.out.2.2
      have HLF : Hid (leafL e.bytes.data.toList = e.leaf) := rfl
      have hbw0 := hbw.size
      have hlL : L.length ≤ 4096 := by omega
      clear hgj hlen
      go_wp2_with fail
      refine (RBytes_any _ _ _ hok.out).mono ?_
      rintro _ w1 ⟨rfl, hb1⟩
      go_wp2_with fail
      refine (RLeaf_any e.bytes _ (by omega)).mono ?_
      rintro _ w2 ⟨rfl, hb2⟩
      rw [HLF.out]
      have hs1 := hb1.size
      have hs2 := hb2.size
      go_wp2_with (at_builtin; refine wpl_app (by rfl) _ _ _ (by rfl) w.heap.size 3 i0 _ 1 8 Tryz.underlying85 hi0 hz0 hz1 hz2 rfl (by omega) u3 _ _ (by rfl) ((own_ext hown.out (by (repeat (with_reducible first | exact Ext.refl _ | assumption | refine Ext.drew ?_ | refine Ext.drewN ?_ _ | refine Ext.alloc ?_ _ | refine Ext.trans ?_ (by with_reducible assumption))))).alloc _) w2.heap.size 1 [.int .i64 e.leaf] rfl (by rfl) (news_new w2 _ _ _ rfl) (oneL _) (by omega) (by omega) (by simp at hs1 ⊢; omega) ?_; intro g cap w3 own3 hext3)
      go_roundw
      case rel => exact ⟨j + 1, by go_num, by omega, hext3 _ (Nat.le_refl _) (by (repeat (with_reducible first | exact Ext.refl _ | assumption | refine Ext.drew ?_ | refine Ext.drewN ?_ _ | refine Ext.alloc ?_ _ | refine Ext.trans ?_ (by with_reducible assumption)))), OwnI.mk own3 (by rw [HT.out]; simp) (by rw [HT.out]; simp)⟩
      case measure => simp [intOf]; omega
    · obtain rfl : j = n := by omega
      have HT : Hid (es.take j = es) := by show _ = _; rw [List.take_of_length_le (by rw [HX.out]; exact Nat.le_refl _)]
      rw [HT.out] at hown
      go_wp2_with fail
      go_ret
      exact ⟨⟨_, rfl, hown.out⟩, by (repeat (with_reducible first | exact Ext.refl _ | assumption | refine Ext.drew ?_ | refine Ext.drewN ?_ _ | refine Ext.alloc ?_ _ | refine Ext.trans ?_ (by with_reducible assumption)))⟩

/-! ### the program's, both ways -/
def leafsE (es : List Ent) : List Int := if entsErr es = 0 then es.map Ent.leaf else []
theorem OwnI.none (w w' : World) : OwnI w w' (.slice .none 0 0) [] := own_nil _ _ _ _
theorem Leafs_any (A : Option Addr) (n c : Nat) (es : List Ent) (w : World) (hr : Rd w 2 A n c (es.flatMap Ent.cells)) (hm : c ≤ maxLen) :
    Calls Tryz.prog 84 #[.slice A n c] w fun e w' => (∃ v, e = .returned (.tuple #[v, errR (entsErr es)]) ∧ OwnI w w' v (leafsE es)) ∧ Ext w w' := by
  by_cases h : entsOk es
  · refine (Leafs_ok A n c es w hr hm h).mono fun e w' hh => ⟨?_, hh.2⟩
    obtain ⟨⟨v, he, ho⟩, _⟩ := hh
    refine ⟨v, he.trans ?_, ?_⟩
    · rw [entsErr_ok h]; rfl
    · unfold leafsE; rw [if_pos (entsErr_ok h)]
      exact OwnI.mk ho (by simp) rfl
  · refine (Leafs_bad A n c es w hr hm h).mono fun e w' hh => ⟨?_, hh.2⟩
    refine ⟨.slice none 0 0, hh.1.trans ?_, ?_⟩
    · rw [errR_ne (entsErr_bad h)]
    · unfold leafsE; rw [if_neg (entsErr_bad h)]
      exact OwnI.none _ _

def unpL (s : ByteArray) : List Ent := (unpackE s).getD []
def unpB (s : ByteArray) : Bool := (unpackE s).isSome
def unpK (s : ByteArray) : Int := if unpB s then 0 else 2
theorem unp_some {s : ByteArray} {es : List Ent} (h : unpackE s = some es) : unpL s = es ∧ unpB s = true ∧ unpK s = 0 := by
  have hb : unpB s = true := by unfold unpB; rw [h]; rfl
  exact ⟨by unfold unpL; rw [h]; rfl, hb, by unfold unpK; rw [hb]; rfl⟩
theorem unp_none {s : ByteArray} (h : unpackE s = none) : unpL s = [] ∧ unpB s = false ∧ unpK s = 2 := by
  have hb : unpB s = false := by unfold unpB; rw [h]; rfl
  exact ⟨by unfold unpL; rw [h]; rfl, hb, by unfold unpK; rw [hb]; rfl⟩
theorem unpL_len (s : ByteArray) : (unpL s).length ≤ 200 := by
  cases h : unpackE s with
  | none => rw [(unp_none h).1]; exact Nat.zero_le _
  | some es => rw [(unp_some h).1]; exact (unpackE_some h).2.1
/-- entries of one's own -/
def OwnE (w w' : World) (v : Value) (es : List Ent) : Prop := w'.ownsRow w.heap.size 67 2 v es.length (es.flatMap Ent.cells)
end Go.Proofs.YtnphbkjkeipmmaaGreatDoor

/- The references' LogHead. -/
namespace Go.Proofs.YtnphbkjkeipmmaaGreatDoor
open Go.RowKit Go.WideShapes
set_option linter.unusedVariables false
attribute [local go_sem ↓] Go.wp_at_zero Go.wp_at_succ

set_option maxRecDepth 100000 in
set_option maxHeartbeats 2000000 in
theorem LogHead_any (A : Option Addr) (n c : Nat) (es : List Ent) (key now : Int) (w : World) (hr : Rd w 2 A n c (es.flatMap Ent.cells)) (hm : c ≤ maxLen) :
    Calls Tryz.prog 35 #[.slice A n c, .int .i64 key, .int .i64 now] w fun e w' => e = .returned (.tuple #[(shH es key now).val, .int .i64 (shK es key now)]) ∧ Ext w w' := by
  have hx := hr.lenE
  have hnc := hr.2.1
  have hcs : c ≤ 9223372036854775807 := by unfold maxLen at hm; omega
  have HRE : Hid (∀ W, Ext w W → Calls Tryz.prog 58 #[.slice A n c] W fun e w' => e = .returned (.int .i64 (entsErr es)) ∧ Ext W w') := Lib.hid fun W e => REntries_any A n c es W (hr.ext e) hm
  have HRL : Hid (entsOk es → ∀ W, Ext w W → Calls Tryz.prog 37 #[.slice A n c] W fun e w' => (∃ A2 c2, e = .returned (.slice A2 n c2) ∧ c2 ≤ maxLen ∧ Rd w' 1 A2 n c2 ((es.map Ent.leaf).map (Value.int .i64))) ∧ Ext W w') := Lib.hid fun hk W e => by
    refine (REntryLeafs_ok A n c es W (hr.ext e) hm hk).mono fun e' w' hh => ?_
    obtain ⟨⟨v, q1, q2⟩, q3⟩ := hh
    obtain ⟨A2, c2, rfl, q4, q5⟩ := q2.rd
    rw [List.length_map, hx] at q1 q5
    exact ⟨⟨A2, c2, q1, q4, q5⟩, q3⟩
  have HKB := Lib.hid fun W => RKeyB_any key W
  have S1 : Hid (entsErr es ≠ 0 → shK es key now = entsErr es ∧ shH es key now = ⟨0, 0, 0, 0⟩) := Lib.hid fun e => ⟨if_pos e, if_pos e⟩
  have S2 : Hid (entsErr es = 0 → (keyI key && (blank (lgB n (ofL (es.map Ent.leaf)) now)).ok) = false → shK es key now = 1 ∧ shH es key now = ⟨0, 0, 0, 0⟩) := Lib.hid fun e e2 => by
    unfold shK shH sgnK sgnH
    rw [if_neg (not_not_intro e), if_neg (not_not_intro e), hx, if_neg (by rw [e2]; decide), if_neg (by rw [e2]; decide)]
    exact ⟨rfl, rfl⟩
  have S3 : Hid (entsErr es = 0 → keyI key = true → (blank (lgB n (ofL (es.map Ent.leaf)) now)).ok = true → shK es key now = 0 ∧ shH es key now = ⟨(n : Int), ofL (es.map Ent.leaf), now, signI (lgB n (ofL (es.map Ent.leaf)) now) key⟩) := Lib.hid fun e e2 e3 => by
    unfold shK shH sgnK sgnH
    rw [if_neg (not_not_intro e), if_neg (not_not_intro e), hx, if_pos (by rw [e2, e3]; rfl), if_pos (by rw [e2, e3]; rfl)]
    exact ⟨rfl, rfl⟩
  have HOKE : Hid (entsErr es = 0 → entsOk es) := Lib.hid fun e => Classical.byContradiction fun h => entsErr_bad h e
  have HLO : Hid (entsOk es → n ≤ 200 ∧ allV (es.map Ent.leaf) = true) := Lib.hid fun h => ⟨by have := h.1; omega, (leafs_of_ents h).2⟩
  obtain ⟨ek, hek⟩ : ∃ x, entsErr es = x := ⟨_, rfl⟩
  obtain ⟨zh, hzh⟩ : ∃ x, shH es key now = x := ⟨_, rfl⟩
  obtain ⟨zk, hzk⟩ : ∃ x, shK es key now = x := ⟨_, rfl⟩
  obtain ⟨xs, hxs⟩ : ∃ x, es.map Ent.leaf = x := ⟨_, rfl⟩
  rw [hek] at HRE S1 S2 S3 HOKE
  rw [hzh, hzk] at S1 S2 S3
  rw [hxs] at S2 S3 HRL HLO
  rw [hzh, hzk]
  obtain ⟨r, hrr⟩ : ∃ x, ofL xs = x := ⟨_, rfl⟩
  have HRR := Lib.hid hrr
  rw [hrr] at S2 S3
  obtain ⟨kb, hkb⟩ : ∃ x, keyI key = x := ⟨_, rfl⟩
  have HKI := Lib.hid hkb
  rw [hkb] at HKB S2 S3
  clear hek hzh hzk hxs hrr hkb hr hx hm
  have B0 := Bk.at_ w 29 #[.int .i64 0, .int .i64 0, .int .i64 0, .int .i64 0] w.heap.size rfl
  have e0 : Ext w (w.alloc (.cells #[.int .i64 0, .int .i64 0, .int .i64 0, .int .i64 0] 29)) := (Ext.refl _).alloc _
  simp only [Hd.val] at *
  go_enter Tryz.func35, Tryz.ntmps35
  go_upto_region 1 with (fail)
  generalize (w.alloc (.cells #[.int .i64 0, .int .i64 0, .int .i64 0, .int .i64 0] 29)) = W0 at *
  obtain ⟨g0, hg0⟩ : ∃ g, w.heap.size = g := ⟨_, rfl⟩
  rw [hg0] at B0
  try rw [hg0]
  have HG := Lib.hid hg0
  have HE0 := Lib.hid e0
  have HB0 := Lib.hid B0
  clear e0 hg0 B0
  go_wp2_with fail
  refine (HRE.out _ HE0.out).mono ?_
  rintro _ w1 ⟨rfl, hb1⟩
  have HE1 := Lib.hid (HE0.out.trans hb1)
  have HB1 := Lib.hid (HB0.out.ext hb1)
  clear hb1 HRE
  by_cases h0 : ek = 0
  case neg =>
    obtain ⟨rfl, rfl⟩ := S1.out h0
    have hb : (zk == 0) = false := beq_eq_false_iff_ne.2 h0
    clear S1 S2 S3 HOKE HRL h0
    have q0 := HB1.out.frozen 0
    have q1 := HB1.out.frozen 1
    have q2 := HB1.out.frozen 2
    have q3 := HB1.out.frozen 3
    have y0 := HB1.out.cell 0
    have y1 := HB1.out.cell 1
    have y2 := HB1.out.cell 2
    have y3 := HB1.out.cell 3
    go_wp2_with fail
    have P := HB1.out.put4 (.int .i64 0) (.int .i64 0) (.int .i64 0) (.int .i64 0)
    have p0 := P.cell 0
    have p1 := P.cell 1
    have p2 := P.cell 2
    have p3 := P.cell 3
    refine bodyPost_ret (by simp [results, Tryz.results35, go_sem, p0, p1, p2, p3]; try rfl) rfl ?_
    exact ⟨rfl, HE1.out.put4 (by rw [HG.out]; exact Nat.le_refl _) _ _ _ _⟩
  subst h0
  have HOK := Lib.hid (HOKE.out rfl)
  have HLS := Lib.hid (HRL.out HOK.out)
  obtain ⟨hn200, hav⟩ := HLO.out HOK.out
  have HAV := Lib.hid hav
  clear HOKE HRL hav S1
  go_wp2_with fail
  refine (HLS.out _ HE1.out).mono ?_
  rintro _ w2 ⟨⟨A2, c2, rfl, hc2, R2⟩, hb2⟩
  have HR2 := Lib.hid R2
  have HE2 := Lib.hid (HE1.out.trans hb2)
  have HB2 := Lib.hid (HB1.out.ext hb2)
  clear hb2 R2 HLS
  go_wp2_with fail
  refine (RRoot_any n A2 n c2 xs _ (Nat.le_refl _) HR2.out hc2 (by omega) HAV.out).mono ?_
  rw [HRR.out]
  rintro _ w3 ⟨rfl, hb3⟩
  have B9 := Bk.at_ w3 29 #[.int .i64 n, .int .i64 r, .int .i64 now, .int .i64 0] w3.heap.size rfl
  have e3 : Ext w2 (w3.alloc (.cells #[.int .i64 n, .int .i64 r, .int .i64 now, .int .i64 0] 29)) := hb3.alloc _
  have hs3 := (HE2.out.trans hb3).size
  go_upto_region 5 with (fail)
  generalize w3.alloc (.cells #[.int .i64 n, .int .i64 r, .int .i64 now, .int .i64 0] 29) = W3 at *
  obtain ⟨g9, hg9⟩ : ∃ g, w3.heap.size = g := ⟨_, rfl⟩
  rw [hg9] at B9 hs3
  try rw [hg9]
  have HE3 := Lib.hid (HE2.out.trans e3)
  have HB3 := Lib.hid (HB2.out.ext e3)
  have HB9 := Lib.hid B9
  have hg09 : g0 ≠ g9 := by have := HB2.out.lt; have := hb3.size; omega
  clear hb3 e3 hg9 B9 HR2
  have a0 := HB9.out.cell 0
  have a1 := HB9.out.cell 1
  have a2 := HB9.out.cell 2
  have a3 := HB9.out.cell 3
  go_wp2_with fail
  refine (HKB.out _).mono ?_
  rintro _ _ ⟨rfl, rfl⟩
  have HHD := Lib.hid fun W => RHead_any ⟨(n : Int), r, now, 0⟩ W
  simp only [Hd.val] at HHD
  obtain ⟨ob, hob⟩ : ∃ x, (blank (lgB n r now)).ok = x := ⟨_, rfl⟩
  rw [hob] at S2 S3
  have hdk : hdK ⟨(n : Int), r, now, 0⟩ = if ob then 0 else 1 := by rw [← hob]; rfl
  rw [hdk] at HHD
  have HOB := Lib.hid hob
  clear hob hdk
  cases kb with
  | false =>
    obtain ⟨rfl, rfl⟩ := S2.out (by trivial) rfl
    clear S2 S3
    have q0 := HB3.out.frozen 0
    have q1 := HB3.out.frozen 1
    have q2 := HB3.out.frozen 2
    have q3 := HB3.out.frozen 3
    have y0 := HB3.out.cell 0
    have y1 := HB3.out.cell 1
    have y2 := HB3.out.cell 2
    have y3 := HB3.out.cell 3
    go_wp2_with fail
    have P := HB3.out.put4 (.int .i64 0) (.int .i64 0) (.int .i64 0) (.int .i64 0)
    have p0 := P.cell 0
    have p1 := P.cell 1
    have p2 := P.cell 2
    have p3 := P.cell 3
    refine bodyPost_ret (by simp [results, Tryz.results35, go_sem, p0, p1, p2, p3]; try rfl) rfl ?_
    exact ⟨rfl, HE3.out.put4 (by rw [HG.out]; exact Nat.le_refl _) _ _ _ _⟩
  | true =>
    cases ob with
    | false =>
      obtain ⟨rfl, rfl⟩ := S2.out (by trivial) rfl
      have HHD' : Hid (∀ W, Calls Tryz.prog 60 #[.agg #[.int .i64 n, .int .i64 r, .int .i64 now, .int .i64 0]] W fun e w' => e = .returned (.int .i64 1) ∧ Ext W w') := HHD
      clear S2 S3 HHD
      go_wp2_with fail
      refine (HHD'.out _).mono ?_
      rintro _ w4 ⟨rfl, hb4⟩
      have HB4 := HB3.out.ext hb4
      have HE4 := Lib.hid (HE3.out.trans hb4)
      have q0 := HB4.frozen 0
      have q1 := HB4.frozen 1
      have q2 := HB4.frozen 2
      have q3 := HB4.frozen 3
      have y0 := HB4.cell 0
      have y1 := HB4.cell 1
      have y2 := HB4.cell 2
      have y3 := HB4.cell 3
      clear hb4 a0 a1 a2 a3
      go_wp2_with fail
      have P := HB4.put4 (.int .i64 0) (.int .i64 0) (.int .i64 0) (.int .i64 0)
      have p0 := P.cell 0
      have p1 := P.cell 1
      have p2 := P.cell 2
      have p3 := P.cell 3
      refine bodyPost_ret (by simp [results, Tryz.results35, go_sem, p0, p1, p2, p3]; try rfl) rfl ?_
      exact ⟨rfl, HE4.out.put4 (by rw [HG.out]; exact Nat.le_refl _) _ _ _ _⟩
    | true =>
      obtain ⟨rfl, rfl⟩ := S3.out (by trivial) rfl rfl
      have HHD' : Hid (∀ W, Calls Tryz.prog 60 #[.agg #[.int .i64 n, .int .i64 r, .int .i64 now, .int .i64 0]] W fun e w' => e = .returned (.int .i64 0) ∧ Ext W w') := HHD
      obtain ⟨b1, b2, b3, b4, b5, b6⟩ := Hd.ok_parts HOB.out
      have HSG : Hid (∀ W, Calls Tryz.prog 61 #[.agg #[.int .i64 n, .int .i64 r, .int .i64 now, .int .i64 0], .int .i64 key] W fun e w' => e = .returned (.int .i64 (signI (lgB n r now) key)) ∧ Ext W w') := Lib.hid fun W => RSigned_any (lgB n r now) key W ⟨b1, b2, b3, b4⟩ b5 HKI.out
      obtain ⟨sg, hsg⟩ : ∃ x, signI (lgB n r now) key = x := ⟨_, rfl⟩
      rw [hsg] at HSG
      have HSGQ := Lib.hid hsg
      clear S2 S3 HHD hsg b1 b2 b3 b4 b5 b6
      go_wp2_with fail
      refine (HHD'.out _).mono ?_
      rintro _ w4 ⟨rfl, hb4⟩
      have HB4 := Lib.hid (HB3.out.ext hb4)
      have HB94 := HB9.out.ext hb4
      have HE4 := Lib.hid (HE3.out.trans hb4)
      clear hb4 a0 a1 a2 a3
      have a0 := HB94.cell 0
      have a1 := HB94.cell 1
      have a2 := HB94.cell 2
      have a3 := HB94.cell 3
      go_wp2_with fail
      refine (HSG.out _).mono ?_
      rintro _ w5 ⟨rfl, hb5⟩
      have HB5 := Lib.hid (HB4.out.ext hb5)
      have B95 := HB94.ext hb5
      have HE5 := Lib.hid (HE4.out.trans hb5)
      clear hb5 a0 a1 a2 a3 HB94
      have a3 := B95.cell 3
      have f3 := B95.frozen 3
      go_upto_region 9 with (fail)
      have B96 : Bk (w5.setCell ⟨g9, 3, none⟩ (.int .i64 sg)) g9 29 #[.int .i64 n, .int .i64 r, .int .i64 now, .int .i64 sg] := B95.set_ 3 _
      have B06 := HB5.out.far (p := ⟨g9, 3, none⟩) hg09 (.int .i64 sg)
      have e6 : Ext w (w5.setCell ⟨g9, 3, none⟩ (.int .i64 sg)) := HE5.out.setCell hs3 _
      generalize w5.setCell ⟨g9, 3, none⟩ (.int .i64 sg) = W6 at *
      have HE6 := Lib.hid e6
      clear a3 f3 B95 e6
      have a0 := B96.cell 0
      have a1 := B96.cell 1
      have a2 := B96.cell 2
      have a3 := B96.cell 3
      have q0 := B06.frozen 0
      have q1 := B06.frozen 1
      have q2 := B06.frozen 2
      have q3 := B06.frozen 3
      have y0 := B06.cell 0
      have y1 := B06.cell 1
      have y2 := B06.cell 2
      have y3 := B06.cell 3
      go_wp2_with fail
      have P := B06.put4 (.int .i64 n) (.int .i64 r) (.int .i64 now) (.int .i64 sg)
      have p0 := P.cell 0
      have p1 := P.cell 1
      have p2 := P.cell 2
      have p3 := P.cell 3
      refine bodyPost_ret (by simp [results, Tryz.results35, go_sem, p0, p1, p2, p3]; try rfl) rfl ?_
      exact ⟨by rw [HSGQ.out], HE6.out.put4 (by rw [HG.out]; exact Nat.le_refl _) _ _ _ _⟩
end Go.Proofs.YtnphbkjkeipmmaaGreatDoor

/- the references' Cut, Number, HeadText, ReadHead. -/
namespace Go.Proofs.YtnphbkjkeipmmaaGreatDoor
open Go.RowKit Go.WideShapes
set_option linter.unusedVariables false
attribute [local go_sem ↓] Go.wp_at_zero Go.wp_at_succ

theorem partsL_snoc {c b : UInt8} : ∀ {l : List UInt8} {out : List (List UInt8)} {last : List UInt8}, partsL c l = out ++ [last] → partsL c (l ++ [b]) = if b = c then out ++ [last] ++ [[]] else out ++ [last ++ [b]]
  | [], out, last, h => by
    have h1 : out = [] ∧ last = [] := by
      have h2 : ([[]] : List (List UInt8)) = out ++ [last] := h
      cases out with
      | nil => simp at h2; exact ⟨rfl, h2⟩
      | cons x r => simp at h2
    obtain ⟨rfl, rfl⟩ := h1
    by_cases hb : b = c
    · subst hb; rw [if_pos rfl]; exact partsL_hit b []
    · rw [if_neg hb]; exact partsL_one c [b] (by intro x hx; simp at hx; rw [hx]; exact hb)
  | x :: l, out, last, h => by
    by_cases hx : x = c
    · subst hx
      rw [partsL_hit] at h
      rw [List.cons_append, partsL_hit]
      cases out with
      | nil =>
        simp at h
        exact absurd h.2 (partsL_ne x l)
      | cons y r =>
        rw [List.cons_append] at h
        injection h with h1 h2
        subst h1
        rw [partsL_snoc (b := b) h2]
        split <;> rfl
    · obtain ⟨p, r, hp⟩ : ∃ p r, partsL c l = p :: r := by
        cases hh : partsL c l with
        | nil => exact absurd hh (partsL_ne c l)
        | cons p r => exact ⟨p, r, rfl⟩
      rw [partsL_miss hx hp] at h
      rw [List.cons_append]
      cases out with
      | nil =>
        obtain ⟨h1, rfl⟩ : x :: p = last ∧ r = [] := by simpa using h
        subst h1
        have ih := partsL_snoc (b := b) (l := l) (out := []) (last := p) hp
        by_cases hb : b = c
        · rw [if_pos hb] at ih ⊢
          rw [partsL_miss hx ih]; rfl
        · rw [if_neg hb] at ih ⊢
          rw [partsL_miss hx ih]; rfl
      | cons y o =>
        rw [List.cons_append] at h
        injection h with h1 h2
        subst h1 h2
        have ih := partsL_snoc (b := b) (l := l) (out := p :: o) (last := last) hp
        by_cases hb : b = c
        · rw [if_pos hb] at ih ⊢
          rw [partsL_miss hx (r := o ++ [last] ++ [[]]) (by rw [ih]; rfl)]; rfl
        · rw [if_neg hb] at ih ⊢
          rw [partsL_miss hx (r := o ++ [last ++ [b]]) (by rw [ih]; rfl)]; rfl
/-- cut up to a place -/
def CutS (c : UInt8) (l : List UInt8) (i f : Nat) (out : List (List UInt8)) : Prop := f ≤ i ∧ out.length ≤ i ∧ partsL c (l.take i) = out ++ [(l.take i).drop f]
theorem CutS.zero (c : UInt8) (l : List UInt8) : CutS c l 0 0 [] := ⟨Nat.le_refl _, Nat.le_refl _, by simp [partsL]⟩
theorem CutS.hit {c b : UInt8} {l : List UInt8} {i f : Nat} {out : List (List UInt8)} (h : CutS c l i f out) (hb : l[i]? = some b) (e : b = c) : CutS c l (i + 1) (i + 1) (out ++ [(l.take i).drop f]) := by
  obtain ⟨h1, h2, h3⟩ := h
  have hl := (List.getElem?_eq_some_iff.1 hb).1
  refine ⟨Nat.le_refl _, by rw [List.length_append]; simp; omega, ?_⟩
  have ht : l.take (i + 1) = l.take i ++ [b] := by rw [List.take_add_one, hb]; rfl
  rw [ht, partsL_snoc h3, if_pos e]
  congr 1
  rw [← ht, List.drop_of_length_le (by rw [List.length_take]; omega)]
theorem CutS.miss {c b : UInt8} {l : List UInt8} {i f : Nat} {out : List (List UInt8)} (h : CutS c l i f out) (hb : l[i]? = some b) (e : b ≠ c) : CutS c l (i + 1) f out := by
  obtain ⟨h1, h2, h3⟩ := h
  have hl := (List.getElem?_eq_some_iff.1 hb).1
  refine ⟨by omega, by omega, ?_⟩
  have ht : l.take (i + 1) = l.take i ++ [b] := by rw [List.take_add_one, hb]; rfl
  rw [ht, partsL_snoc h3, if_neg e, List.drop_append_of_le_length (by rw [List.length_take]; omega)]
theorem CutS.end_ {c : UInt8} {l : List UInt8} {f : Nat} {out : List (List UInt8)} (h : CutS c l l.length f out) : partsL c l = out ++ [l.drop f] := by
  have h3 := h.2.2
  rwa [List.take_length] at h3
theorem extract_list (s : ByteArray) (f i : Nat) (hi : i ≤ s.size) : (⟨((s.data.toList.take i).drop f).toArray⟩ : ByteArray) = s.extract f i := by
  apply ba_ext
  show ((s.data.toList.take i).drop f) = (s.extract f i).data.toList
  rw [ByteArray.data_extract, Array.toList_extract]
  simp [List.drop_take]
theorem info_strH : (Tryz.prog.info? 9).map (fun i => (i.zero, i.size, i.bytes)) = some (some (.string ⟨#[]⟩), 1, 16) := by kernel_rfl
def OwnS (w w' : World) (v : Value) (ss : List ByteArray) : Prop := w'.ownsRow w.heap.size 9 1 v ss.length (ss.map Value.string)
theorem oneS1 (s : ByteArray) : ∀ u ∈ [Value.string s], u.oneCell' = true := by intro u hu; simp at hu; subst hu; rfl
def baL (l : List UInt8) : ByteArray := ⟨l.toArray⟩

set_option maxRecDepth 100000 in
set_option maxHeartbeats 2000000 in
theorem RCut_any (s : ByteArray) (c : UInt8) (w : World) (hs : s.size ≤ 1048576) :
    Calls Tryz.prog 7 #[.string s, .int .u8 c.toNat] w fun e w' => (∃ v, e = .returned v ∧ OwnS w w' v (partsB c s)) ∧ Ext w w' := by
  obtain ⟨i0, hi0, hz0, hz1, hz2⟩ := info_parts info_strH
  have hsz : s.data.toList.length = s.size := rfl
  go_enter Tryz.func7, Tryz.ntmps7
  go_wp2_with fail
  go_loopw [5, 6, 7] (fun v f x wr => ∃ (i q : Nat) (out : List (List UInt8)), f = .int .i64 q ∧ x = .int .i64 i ∧ i ≤ s.size ∧ q ≤ i ∧ out.length ≤ i ∧ Ext w wr ∧ Hid (CutS c s.data.toList i q out) ∧ Hid (wr.ownsRow w.heap.size 9 1 v out.length ((out.map baL).map Value.string))) (fun _ _ x _ => s.size - (intOf x).toNat)
  case atStart => exact ⟨0, 0, [], rfl, rfl, Nat.zero_le _, Nat.le_refl _, Nat.le_refl _, Ext.refl _, CutS.zero _ _, own_nil _ _ _ _⟩
  case round =>
    obtain ⟨i, q, out, rfl, rfl, hi, hq, hol, hbw, HC, hown⟩ := hrel
    by_cases hc : i < s.size
    · have hgb := List.getElem?_eq_getElem (l := s.data.toList) (i := i) (by rw [hsz]; exact hc)
      have hbe : s.data.toList[i]'(by rw [hsz]; exact hc) = s[i] := rfl
      rw [hbe] at hgb
      have HGB := Lib.hid hgb
      have hbs := hbw.size
      by_cases hb : s[i] = c
      · have HN := Lib.hid (HC.out.hit HGB.out hb)
        have hx := extract_list s q i (by omega)
        have HX := Lib.hid hx
        have hb1 : (s[i].toNat == c.toNat) = true := by rw [hb]; simp
        have hbN : s[i].toNat = c.toNat := by rw [hb]
        clear hgb hbe hx hb
        go_wp2_with (at_builtin; refine wpl_app (by rfl) _ _ _ (by rfl) w.heap.size 9 i0 _ 1 16 Tryz.underlying23 hi0 hz0 hz1 hz2 rfl (by omega) u5 _ _ (by rfl) (own_ext hown.out ((Ext.refl _).alloc _)) wr.heap.size 1 [.string (s.extract q i)] rfl (by rfl) (news_new wr _ _ _ rfl) (oneS1 _) (by omega) (by omega) (by simp; omega) ?_; intro g cap w3 own3 hext3)
        go_roundw
        case rel => exact ⟨i + 1, i + 1, _, by go_num, by go_num, by omega, by omega, by rw [List.length_append]; simp; omega, hext3 _ (Nat.le_refl _) (by (repeat (with_reducible first | exact Ext.refl _ | assumption | refine Ext.drew ?_ | refine Ext.drewN ?_ _ | refine Ext.alloc ?_ _ | refine Ext.trans ?_ (by with_reducible assumption)))), HN, Lib.hid (by
          rw [List.length_append, List.map_append, List.map_append]
          have h2 := own3
          rw [← HX.out] at h2
          exact h2)⟩
        case measure => simp [intOf]; omega
      · have HN := Lib.hid (HC.out.miss HGB.out hb)
        have hbN : ¬ s[i].toNat = c.toNat := fun e => hb (UInt8.toNat_inj.1 e)
        have hbI : ((s[i].toNat : Int) == (c.toNat : Int)) = false := by simp; omega
        clear hgb hbe hb
        go_wp2_with fail
        go_roundw
        case rel => exact ⟨i + 1, q, out, rfl, by go_num, by omega, by omega, by omega, hbw, HN, hown⟩
        case measure => simp [intOf]; omega
    · obtain rfl : i = s.size := by omega
      have hE := HC.out
      rw [← hsz] at hE
      have HE := Lib.hid hE.end_
      have hx := extract_list s q s.size (Nat.le_refl _)
      rw [← hsz, List.take_length] at hx
      have HX := Lib.hid hx
      have hbs := hbw.size
      clear hE hx
      go_wp2_with (at_builtin; refine wpl_app (by rfl) _ _ _ (by rfl) w.heap.size 9 i0 _ 1 16 Tryz.underlying23 hi0 hz0 hz1 hz2 rfl (by omega) u5 _ _ (by rfl) (own_ext hown.out ((Ext.refl _).alloc _)) wr.heap.size 1 [.string (s.extract q s.size)] rfl (by rfl) (news_new wr _ _ _ rfl) (oneS1 _) (by omega) (by omega) (by simp; omega) ?_; intro g cap w3 own3 hext3)
      go_ret
      refine ⟨⟨_, rfl, ?_⟩, hext3 _ (Nat.le_refl _) (by (repeat (with_reducible first | exact Ext.refl _ | assumption | refine Ext.drew ?_ | refine Ext.drewN ?_ _ | refine Ext.alloc ?_ _ | refine Ext.trans ?_ (by with_reducible assumption))))⟩
      unfold OwnS partsB
      rw [HE.out, List.map_append, List.map_append, List.length_append, List.length_map]
      have h2 := own3
      rw [← hsz, ← HX.out] at h2
      exact h2

/-! ### Number -/
def numN (s : ByteArray) (m : Nat) : Int := match numR s m with | some v => (v : Int) | none => 0
theorem numN_some {s : ByteArray} {m v : Nat} (h : numR s m = some v) : numN s m = v := by unfold numN; rw [h]
theorem numN_none {s : ByteArray} {m : Nat} (h : numR s m = none) : numN s m = 0 := by unfold numN; rw [h]
theorem dec_stop {l : List UInt8} {j v : Nat} {b : UInt8} (h : Lib.decFrom 0 (l.take j) = some v) (hb : l[j]? = some b) : (Lib.digitVal b = none → Lib.decFrom 0 l = none) ∧ ∀ d, Lib.digitVal b = some d → Lib.decFrom 0 (l.take (j + 1)) = some (v * 10 + d) := by
  have ht : l.take (j + 1) = l.take j ++ [b] := by rw [List.take_add_one, hb]; rfl
  constructor
  · intro hd
    cases hl : Lib.decFrom 0 l with
    | none => rfl
    | some n =>
      obtain ⟨m, hm⟩ := Lib.decFrom_prefix l 0 n hl (j + 1)
      rw [ht, decFrom_snoc, h, hd] at hm
      cases hm
  · intro d hd
    rw [ht, decFrom_snoc, h, hd]; rfl
theorem dec_lt9 {l : List UInt8} {j v : Nat} (hj : j ≤ 9) (h : Lib.decFrom 0 (l.take j) = some v) : v < 1000000000 := by
  have h1 := Lib.decFrom_lt _ _ _ h
  have h2 : (l.take j).length ≤ 9 := by rw [List.length_take]; omega
  have h3 : 10 ^ (l.take j).length ≤ 10 ^ 9 := Nat.pow_le_pow_right (by decide) h2
  omega
theorem dig_yes {b : UInt8} (h : 48 ≤ b.toNat ∧ b.toNat ≤ 57) : Lib.digitVal b = some (b.toNat - 48) := if_pos h
theorem dig_no {b : UInt8} (h : ¬ (48 ≤ b.toNat ∧ b.toNat ≤ 57)) : Lib.digitVal b = none := if_neg h

set_option maxRecDepth 100000 in
set_option maxHeartbeats 2000000 in
theorem RNumber_any (s : ByteArray) (m : Nat) (w : World) (hm : m ≤ 9) :
    Calls Tryz.prog 22 #[.string s, .int .i64 m] w fun e w' => e = .returned (.tuple #[.int .i64 (numN s m), .bool (numR s m).isSome]) ∧ Ext w w' := by
  by_cases h0 : s.size = 0
  · have hno : numR s m = none := by unfold numR; rw [if_pos (.inl h0)]
    rw [numN_none hno, hno]
    have e1 : s.data.toList = [] := List.eq_nil_of_length_eq_zero h0
    obtain rfl := ba_extQ e1
    clear hno h0 e1
    go_enter Tryz.func22, Tryz.ntmps22
    go_wp2_with fail
    go_ret2
    exact ⟨rfl, Ext.refl _⟩
  obtain ⟨p1, p2⟩ := str_someQ (s := s) (by omega)
  by_cases h1 : m < s.size
  · have hno : numR s m = none := by unfold numR; rw [if_pos (.inr (.inl h1))]
    rw [numN_none hno, hno]
    have h1i : (m : Int) < (s.size : Int) := by omega
    clear hno h0
    go_enter Tryz.func22, Tryz.ntmps22
    go_wp2_with fail
    go_ret2
    exact ⟨rfl, Ext.refl _⟩
  have hl : s.data.toList.length = s.size := rfl
  have hpos : 0 < s.size := by omega
  have hhd : s.data.toList.head? = some s[0] := by
    rw [List.head?_eq_getElem?, List.getElem?_eq_getElem (by rw [hl]; exact hpos)]; rfl
  obtain ⟨b0, hb0⟩ : ∃ b, s[0] = b := ⟨_, rfl⟩
  rw [hb0] at hhd
  have hb256 := b0.toNat_lt
  have h1i : ¬ (m : Int) < (s.size : Int) := by omega
  by_cases h2 : b0 = 48 ∧ 1 < s.size
  · have hno : numR s m = none := by unfold numR; rw [if_pos (.inr (.inr ⟨by rw [hhd, h2.1], h2.2⟩))]
    rw [numN_none hno, hno]
    obtain ⟨rfl, h3⟩ := h2
    have h3i : (1 : Int) < (s.size : Int) := by omega
    clear hno h0 hhd hl
    go_enter Tryz.func22, Tryz.ntmps22
    go_wp2_with fail
    go_ret2
    exact ⟨rfl, Ext.refl _⟩
  have hnum : numR s m = Lib.decFrom 0 s.data.toList := by
    unfold numR
    rw [if_neg]
    rintro (h | h | ⟨h, h'⟩)
    · exact h0 h
    · exact h1 h
    · rw [hhd] at h
      injection h with h
      exact h2 ⟨h, h'⟩
  have HNU := Lib.hid hnum
  have HL := Lib.hid hl
  have hg : (((b0.toNat : Int) == 48) = false ∧ ¬ b0.toNat = 48) ∨ (b0 = 48 ∧ s.size = 1) := by
    by_cases e : b0 = 48
    · exact .inr ⟨e, by have h9 : ¬ 1 < s.size := fun h => h2 ⟨e, h⟩; omega⟩
    · have e2 : ¬ b0.toNat = 48 := fun h => e (UInt8.toNat_inj.1 h)
      exact .inl ⟨by simp; omega, e2⟩
  have hs9 : s.size ≤ 9 := by omega
  have HR1 : Hid (∀ v, Lib.decFrom 0 s.data.toList = some v → numN s m = v ∧ (numR s m).isSome = true) := Lib.hid fun v h => by
    have h3 := hnum.trans h
    exact ⟨numN_some h3, by rw [h3]; rfl⟩
  have HR2 : Hid (Lib.decFrom 0 s.data.toList = none → numN s m = 0 ∧ (numR s m).isSome = false) := Lib.hid fun h => by
    have h3 := hnum.trans h
    exact ⟨numN_none h3, by rw [h3]; rfl⟩
  obtain ⟨nv, hnv⟩ : ∃ x, numN s m = x := ⟨_, rfl⟩
  obtain ⟨ns, hns⟩ : ∃ x, (numR s m).isSome = x := ⟨_, rfl⟩
  rw [hnv, hns] at HR1 HR2
  rw [hnv, hns]
  clear hnum hl hhd h2 h1 hnv hns h0
  rcases hg with ⟨hg1, hg2⟩ | ⟨rfl, hg2⟩
  all_goals
    go_enter Tryz.func22, Tryz.ntmps22
    go_wp2_with fail
    go_loopw [6, 7] (fun a x wr => ∃ j v : Nat, a = .int .i64 (v : Nat) ∧ x = .int .i64 (j : Nat) ∧ j ≤ s.size ∧ v < 1000000000 ∧ Ext w wr ∧ Hid (Lib.decFrom 0 (s.data.toList.take j) = some v)) (fun _ x _ => s.size - (intOf x).toNat)
    case atStart => exact ⟨0, 0, rfl, rfl, Nat.zero_le _, by omega, Ext.refl _, rfl⟩
    case round =>
      obtain ⟨j, v, rfl, rfl, hj, hv, hbw, hgo⟩ := hrel
      by_cases hc : j < s.size
      · have hgj : s.data.toList[j]? = some s[j] := by
          rw [List.getElem?_eq_getElem (by rw [HL.out]; exact hc)]; rfl
        have HA := Lib.hid (dec_stop hgo.out hgj)
        clear hb0
        obtain ⟨b, hb⟩ : ∃ b, s[j] = b := ⟨_, rfl⟩
        rw [hb] at HA
        have hbb := b.toNat_lt
        clear hgj
        by_cases q1 : 48 ≤ b.toNat ∧ b.toNat ≤ 57
        · have H1 := Lib.hid (HA.out.2 _ (dig_yes q1))
          have hlt := dec_lt9 (by omega) H1.out
          obtain ⟨q2, q3⟩ := q1
          have q4 : (48 : Int) ≤ (b.toNat : Int) := by omega
          have q5 : (b.toNat : Int) ≤ 57 := by omega
          have E1 : Hid ((v : Int) * 10 + (b.toNat : Int) - 48 = ((v * 10 + (b.toNat - 48) : Nat) : Int)) := by show _ = _; omega
          clear HA
          go_wp2_with fail
          go_roundw
          case rel => exact ⟨j + 1, _, by rw [E1.out], by go_num, by omega, hlt, hbw, H1.out⟩
          case measure => simp [intOf]; omega
        · obtain ⟨rfl, rfl⟩ := HR2.out (HA.out.1 (dig_no q1))
          have h3 : (¬ 48 ≤ b.toNat) ∨ (48 ≤ b.toNat ∧ ¬ b.toNat ≤ 57) := by omega
          clear HA q1 HR1 HR2
          rcases h3 with q2 | ⟨q2, q3⟩
          · have p4 : ¬ (48 : Int) ≤ (b.toNat : Int) := by omega
            go_wp2_with fail
            go_ret2
            exact ⟨rfl, hbw⟩
          · have p3 : ¬ (b.toNat : Int) ≤ 57 := by omega
            have p4 : (48 : Int) ≤ (b.toNat : Int) := by omega
            go_wp2_with fail
            go_ret2
            exact ⟨rfl, hbw⟩
      · obtain rfl : j = s.size := by omega
        have hE := hgo.out
        rw [← HL.out, List.take_length] at hE
        obtain ⟨rfl, rfl⟩ := HR1.out v hE
        clear hE
        go_wp2_with fail
        go_ret2
        exact ⟨rfl, hbw⟩

set_option maxRecDepth 100000 in
set_option maxHeartbeats 1000000 in
theorem RHeadText_any (h : Hd) (w : World) (hok : h.ok = true) :
    Calls Tryz.prog 40 #[h.val] w fun e w' => e = .returned (.string (headB h)) ∧ Ext w w' := by
  obtain ⟨k1, k2, k3, k4, k5, k6⟩ := Hd.ok_parts hok
  obtain ⟨k7, k8⟩ := vld_true k5
  obtain ⟨k9, k10⟩ := vld_true k6
  have HHB : Hid (headB h = four4 (digB h.size.toNat) (hexT h.root.toNat) (digB h.time.toNat) (hexT h.sign.toNat)) := rfl
  obtain ⟨a, b, c, d⟩ := h
  simp only at k1 k2 k3 k4 k5 k6 k7 k8 k9 k10
  obtain ⟨a, rfl⟩ := Int.eq_ofNat_of_zero_le k1
  obtain ⟨b, rfl⟩ := Int.eq_ofNat_of_zero_le k7
  obtain ⟨c, rfl⟩ := Int.eq_ofNat_of_zero_le k3
  obtain ⟨d, rfl⟩ := Int.eq_ofNat_of_zero_le k9
  simp only [Int.toNat_natCast] at HHB
  have HI1 := Lib.hid fun W => RDigits_any a a W (Nat.le_refl _) (by omega)
  have HI2 := Lib.hid fun W => RDigits_any c c W (Nat.le_refl _) (by omega)
  have HT1 := Lib.hid fun W => RText_any b W (by omega)
  have HT2 := Lib.hid fun W => RText_any d W (by omega)
  have s1 := hexT_size b
  have s2 := hexT_size d
  have s3 : (digB a).size ≤ 7 := digB_small 6 _ (by show _ < 10000000; omega)
  have s4 : (digB c).size ≤ 7 := digB_small 6 _ (by show _ < 10000000; omega)
  obtain ⟨t1, ht1⟩ : ∃ t, digB a = t := ⟨_, rfl⟩
  obtain ⟨t2, ht2⟩ : ∃ t, hexT b = t := ⟨_, rfl⟩
  obtain ⟨t3, ht3⟩ : ∃ t, digB c = t := ⟨_, rfl⟩
  obtain ⟨t4, ht4⟩ : ∃ t, hexT d = t := ⟨_, rfl⟩
  rw [ht1] at HI1 HHB s3
  rw [ht2] at HT1 HHB s1
  rw [ht3] at HI2 HHB s4
  rw [ht4] at HT2 HHB s2
  have HF : Hid (four4 t1 t2 t3 t4 = t1 ++ ⟨#[32]⟩ ++ t2 ++ ⟨#[32]⟩ ++ t3 ++ ⟨#[32]⟩ ++ t4) := rfl
  obtain ⟨hb, hhb⟩ : ∃ x, headB ⟨(a : Int), (b : Int), (c : Int), (d : Int)⟩ = x := ⟨_, rfl⟩
  rw [hhb] at HHB
  rw [hhb]
  have B0 := Bk.at_ w 29 #[.int .i64 a, .int .i64 b, .int .i64 c, .int .i64 d] w.heap.size rfl
  have e0 : Ext w (w.alloc (.cells #[.int .i64 a, .int .i64 b, .int .i64 c, .int .i64 d] 29)) := by (repeat (with_reducible first | exact Ext.refl _ | assumption | refine Ext.drew ?_ | refine Ext.drewN ?_ _ | refine Ext.alloc ?_ _ | refine Ext.trans ?_ (by with_reducible assumption)))
  clear ht1 ht2 ht3 ht4 hhb k1 k2 k3 k4 k5 k6 k7 k8 k9 k10 hok
  obtain ⟨g0, hg0⟩ : ∃ g, w.heap.size = g := ⟨_, rfl⟩
  rw [hg0] at B0
  have y0 := B0.cell 0
  go_enter Tryz.func40, Tryz.ntmps40
  go_upto_region 1 with (fail)
  try rw [hg0]
  generalize w.alloc (.cells #[.int .i64 a, .int .i64 b, .int .i64 c, .int .i64 d] 29) = W0 at *
  have HE0 := Lib.hid e0
  clear e0 hg0
  go_wp2_with fail
  refine (HI1.out _).mono ?_
  rintro _ w1 ⟨rfl, hb1⟩
  have y1 := (B0.ext hb1).cell 1
  go_wp2_with fail
  refine (HT1.out _).mono ?_
  rintro _ w2 ⟨rfl, hb2⟩
  have hb12 := hb1.trans hb2
  have y2 := (B0.ext hb12).cell 2
  go_wp2_with fail
  refine (HI2.out _).mono ?_
  rintro _ w3 ⟨rfl, hb3⟩
  have hb13 := hb12.trans hb3
  have y3 := (B0.ext hb13).cell 3
  go_wp2_with fail
  refine (HT2.out _).mono ?_
  rintro _ w4 ⟨rfl, hb4⟩
  go_wp2_with fail
  go_ret
  exact ⟨ret_str (by rw [HHB.out, HF.out]), HE0.out.trans (hb13.trans hb4)⟩
/-! ### ReadHead -/
def RHP (s : ByteArray) (e : Ending) : Prop := e = .returned (.tuple #[(headR s).1.val, .int .i64 (headR s).2])
theorem RHP.of {s : ByteArray} {z : Hd × Int} (h : headR s = z) {e : Ending} (he : e = .returned (.tuple #[z.1.val, .int .i64 z.2])) : RHP s e := by unfold RHP; rw [h]; exact he

end Go.Proofs.YtnphbkjkeipmmaaGreatDoor
