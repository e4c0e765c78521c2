/- The references' entries. -/
import Derived.Test.YtelcabjhbgkfmaaGreatDoorR6
import Derived.Test.YtelcabjhbgkfmaaGreatDoorUnpack
import Derived.Lib.SlicesS
import Derived.BigRegion
import Derived.Handy
namespace Go.Proofs.YtelcabjhbgkfmaaGreatDoor
open Go.RowKit Go.WideShapes
set_option linter.unusedVariables false
attribute [local go_sem ↓] Go.wp_at_zero Go.wp_at_succ

theorem encK_ways (t : Int) (s : ByteArray) : (t < 0 ∧ encK ⟨t, s⟩ = 1) ∨ (0 ≤ t ∧ 1000000 < t ∧ encK ⟨t, s⟩ = 1) ∨ (0 ≤ t ∧ t ≤ 1000000 ∧ 200 < s.size ∧ encK ⟨t, s⟩ = 4) ∨ (0 ≤ t ∧ t ≤ 1000000 ∧ s.size ≤ 200 ∧ encK ⟨t, s⟩ = 0) := by
  by_cases h : (⟨t, s⟩ : Ent).ok
  · have hk : encK ⟨t, s⟩ = 0 := if_pos h
    obtain ⟨h0, h1, h2⟩ := h
    exact .inr (.inr (.inr ⟨h0, h1, h2, hk⟩))
  · have hk : encK ⟨t, s⟩ = Ent.err ⟨t, s⟩ := if_neg h
    unfold Ent.ok at h
    simp only at h
    by_cases h2 : t < 0 ∨ 1000000 < t
    · have he : Ent.err ⟨t, s⟩ = 1 := if_pos h2
      rw [he] at hk
      omega
    · have he : Ent.err ⟨t, s⟩ = 4 := if_neg h2
      rw [he] at hk
      omega

set_option maxRecDepth 100000 in
theorem REntry_any (t : Int) (s : ByteArray) (w : World) :
    Calls Tryz.prog 76 #[.agg #[.int .i64 t, .string s]] w fun e w' => e = .returned (.int .i64 (encK ⟨t, s⟩)) ∧ Ext w w' := by
  have HW := Lib.hid (encK_ways t s)
  generalize encK ⟨t, s⟩ = k at *
  go_enter Tryz.func76, Tryz.ntmps76
  go_upto_region 1 with (fail)
  have B0 : Bk (w.alloc (.cells #[.int .i64 t, .string s] 64)) w.heap.size 64 #[.int .i64 t, .string s] := Bk.at_ _ _ _ _ rfl
  have X0 : Ext w (w.alloc (.cells #[.int .i64 t, .string s] 64)) := by (repeat (with_reducible first | exact Ext.refl _ | assumption | refine Ext.drew ?_ | refine Ext.drewN ?_ _ | refine Ext.alloc ?_ _ | refine Ext.trans ?_ (by with_reducible assumption)))
  generalize w.alloc (.cells #[.int .i64 t, .string s] 64) = w0 at *
  have b0 := B0.cell 0
  have b1 := B0.cell 1
  rcases HW.out with ⟨h, rfl⟩ | ⟨h, h', rfl⟩ | ⟨h, h', h'', rfl⟩ | ⟨h, h', h'', rfl⟩
  all_goals
    go_wp2_with fail
    go_ret
    exact ⟨rfl, X0⟩
end Go.Proofs.YtelcabjhbgkfmaaGreatDoor

/- The references' entries: one taken off bytes. -/
namespace Go.Proofs.YtelcabjhbgkfmaaGreatDoor
open Go.RowKit Go.WideShapes
set_option linter.unusedVariables false
attribute [local go_sem ↓] Go.wp_at_zero Go.wp_at_succ

theorem w_s1 {a b : Nat} (ha : a < 256) (hb : b < 256) : wrap64 ((a : Int) * 65536 + (b : Int) * 256) = (a : Int) * 65536 + (b : Int) * 256 := by unfold wrap64; omega
theorem w_s2 {a b c : Nat} (ha : a < 256) (hb : b < 256) (hc : c < 256) : wrap64 ((a : Int) * 65536 + (b : Int) * 256 + (c : Int)) = (a : Int) * 65536 + (b : Int) * 256 + (c : Int) := by unfold wrap64; omega

end Go.Proofs.YtelcabjhbgkfmaaGreatDoor

/- The references' entries: their bytes. -/
namespace Go.Proofs.YtelcabjhbgkfmaaGreatDoor
open Go.RowKit Go.WideShapes
set_option linter.unusedVariables false
attribute [local go_sem ↓] Go.wp_at_zero Go.wp_at_succ

theorem four_one (t : Int) (h0 : 0 ≤ t) (h1 : t ≤ 1000000) : wrap64 (t.tdiv 65536) % 256 = t / 65536 % 256 := by
  rw [Int.tdiv_eq_ediv_of_nonneg h0]
  unfold wrap64
  omega
theorem four_two (t : Int) (h0 : 0 ≤ t) (h1 : t ≤ 1000000) : (wrap64 (t.tdiv 256)).tmod 256 % 256 = t / 256 % 256 := by
  rw [Int.tdiv_eq_ediv_of_nonneg h0]
  have : wrap64 (t / 256) = t / 256 := by unfold wrap64; omega
  rw [this, Int.tmod_eq_emod_of_nonneg (by omega)]
  omega
theorem four_three (t : Int) (h0 : 0 ≤ t) (h1 : t ≤ 1000000) : t.tmod 256 % 256 = t % 256 := by
  rw [Int.tmod_eq_emod_of_nonneg h0]
  omega
theorem bytes_of {t : Int} {s : ByteArray} {a b c d : Int} (ha : a = t / 65536 % 256) (hb : b = t / 256 % 256) (hc : c = t % 256) (hd : d = (s.size : Int) % 256) :
    (([a, b, c, d] : List Int) ++ s.data.toList.map fun (b : UInt8) => (b.toNat : Int)).map byteOf = (⟨t, s⟩ : Ent).bytes.data.toList := by
  subst ha hb hc hd
  rw [List.map_append, List.map_map, Ent.bytes_list]
  have : (byteOf ∘ fun (b : UInt8) => (b.toNat : Int)) = id := by funext b; exact byteOf_toNat b
  rw [this, List.map_id]; rfl
theorem bytes_cells (s : ByteArray) (a b c d : Int) : List.map (Value.int .u8) [a, b, c, d] ++ newsS s = (([a, b, c, d] : List Int) ++ s.data.toList.map fun (b : UInt8) => (b.toNat : Int)).map (Value.int .u8) := by rw [List.map_append, newsS_int]
theorem ba_list (s : ByteArray) : (⟨s.data.toList.toArray⟩ : ByteArray) = s := ba_ext (by rw [toList_mk])

set_option maxRecDepth 100000 in
theorem RBytes_any (t : Int) (s : ByteArray) (w : World) (h : (⟨t, s⟩ : Ent).ok) :
    Calls Tryz.prog 78 #[.agg #[.int .i64 t, .string s]] w fun e w' => e = .returned (.string (⟨t, s⟩ : Ent).bytes) ∧ Ext w w' := by
  obtain ⟨h0, h1, hs⟩ := h
  dsimp only at h0 h1 hs
  obtain ⟨a, HA⟩ : ∃ a, Hid (wrap64 (t.tdiv 65536) % 256 = a) := ⟨_, rfl⟩
  obtain ⟨b, HB⟩ : ∃ a, Hid ((wrap64 (t.tdiv 256)).tmod 256 % 256 = a) := ⟨_, rfl⟩
  obtain ⟨c, HC⟩ : ∃ a, Hid (t.tmod 256 % 256 = a) := ⟨_, rfl⟩
  obtain ⟨d, HD⟩ : ∃ a, Hid ((s.size : Int) = a) := ⟨_, rfl⟩
  have HL := Lib.hid (bytes_of (s := s) (HA.out.symm.trans (four_one t h0 h1)) (HB.out.symm.trans (four_two t h0 h1)) (HC.out.symm.trans (four_three t h0 h1)) (HD.out.symm.trans (by omega)))
  have HSZ := Lib.hid (Ent.bytes_size ⟨t, s⟩)
  obtain ⟨i0, hi0, hz0', hz1, hz2⟩ := info_parts info_u8
  obtain ⟨g, hg⟩ : ∃ g, g = w.heap.size + 1 := ⟨_, rfl⟩
  clear h0 h1
  go_enter Tryz.func78, Tryz.ntmps78
  go_upto_region 2 with (fail)
  rw [HA.out, HB.out, HC.out, HD.out]
  have B0 : Bk (w.alloc (.cells #[.int .i64 t, .string s] 64)) w.heap.size 64 #[.int .i64 t, .string s] := Bk.at_ _ _ _ _ rfl
  have X0 : Ext w (w.alloc (.cells #[.int .i64 t, .string s] 64)) := by (repeat (with_reducible first | exact Ext.refl _ | assumption | refine Ext.drew ?_ | refine Ext.drewN ?_ _ | refine Ext.alloc ?_ _ | refine Ext.trans ?_ (by with_reducible assumption)))
  have hsz : (w.alloc (.cells #[.int .i64 t, .string s] 64)).heap.size = w.heap.size + 1 := by simp
  rw [← hg] at hsz ⊢
  generalize w.alloc (.cells #[.int .i64 t, .string s] 64) = w0 at *
  have own0 : (w0.alloc (.cells #[.int .u8 a, .int .u8 b, .int .u8 c, .int .u8 d] 5)).ownsRow w0.heap.size 5 1 (.slice (some ⟨w0.heap.size, 0, none⟩) 4 4) 4 (([a, b, c, d] : List Int).map (Value.int .u8)) :=
    World.ownsRow_lit w0 #[.int .u8 a, .int .u8 b, .int .u8 c, .int .u8 d] 4 (by simp) (by simp [maxLen]) rfl
  rw [hsz] at own0
  have B1 := B0.alloc (.cells #[.int .u8 a, .int .u8 b, .int .u8 c, .int .u8 d] 5)
  have E0 : Ext w (w0.alloc (.cells #[.int .u8 a, .int .u8 b, .int .u8 c, .int .u8 d] 5)) := by (repeat (with_reducible first | exact Ext.refl _ | assumption | refine Ext.drew ?_ | refine Ext.drewN ?_ _ | refine Ext.alloc ?_ _ | refine Ext.trans ?_ (by with_reducible assumption)))
  have hz0 : g < (w0.alloc (.cells #[.int .u8 a, .int .u8 b, .int .u8 c, .int .u8 d] 5)).heap.size := by simp [hsz]
  generalize w0.alloc (.cells #[.int .u8 a, .int .u8 b, .int .u8 c, .int .u8 d] 5) = w1 at *
  have hconv := run_bytes_of_string (P := Tryz.prog) w1 9 163 5 s Tryz.underlying9 Tryz.underlying163 Tryz.underlying5
  have hcells := conv_cells w1.drew s (grownCap w1 s.size 0 5) 5 ((bytesRow s (grownCap w1 s.size 0 5)).size, (bytesRow s (grownCap w1 s.size 0 5)).size + 1) w1.heap.size rfl
  have E1 : Ext w (w1.drew.alloc (.cells (bytesRow s (grownCap w1 s.size 0 5)) 5 ((bytesRow s (grownCap w1 s.size 0 5)).size, (bytesRow s (grownCap w1 s.size 0 5)).size + 1))) := by (repeat (with_reducible first | exact Ext.refl _ | assumption | refine Ext.drew ?_ | refine Ext.drewN ?_ _ | refine Ext.alloc ?_ _ | refine Ext.trans ?_ (by with_reducible assumption)))
  have E12 : Ext w1 (w1.drew.alloc (.cells (bytesRow s (grownCap w1 s.size 0 5)) 5 ((bytesRow s (grownCap w1 s.size 0 5)).size, (bytesRow s (grownCap w1 s.size 0 5)).size + 1))) := by (repeat (with_reducible first | exact Ext.refl _ | assumption | refine Ext.drew ?_ | refine Ext.drewN ?_ _ | refine Ext.alloc ?_ _ | refine Ext.trans ?_ (by with_reducible assumption)))
  have own1 : (w1.drew.alloc (.cells (bytesRow s (grownCap w1 s.size 0 5)) 5 ((bytesRow s (grownCap w1 s.size 0 5)).size, (bytesRow s (grownCap w1 s.size 0 5)).size + 1))).ownsRow g 5 1 (.slice (some ⟨g, 0, none⟩) 4 4) 4 (([a, b, c, d] : List Int).map (Value.int .u8)) := (World.ownsRow.drew own0).alloc _
  generalize w1.drew.alloc (.cells (bytesRow s (grownCap w1 s.size 0 5)) 5 ((bytesRow s (grownCap w1 s.size 0 5)).size, (bytesRow s (grownCap w1 s.size 0 5)).size + 1)) = w2 at *
  generalize grownCap w1 s.size 0 5 = cp at *
  have hs2 := E12.size
  have b0 := B1.cell 0
  have b1 := B1.cell 1
  have HC2 := Lib.hid hcells
  have hw1 : w.heap.size + 1 ≤ w1.heap.size := by omega
  clear hcells
  go_wp2_with (at_builtin; refine wpl_appa (by rfl) _ _ _ (by rfl) g 5 i0 _ 1 1 Tryz.underlying163 hi0 hz0' hz1 hz2 rfl (by omega) (.slice (some ⟨g, 0, none⟩) 4 4) 4 _ (by rfl) own1 ⟨w1.heap.size, 0, none⟩ s.size cp (newsS s) (by rfl) (newsS_len s) HC2.out (newsS_one s) (by omega) (by omega) (by omega) ?_; intro v3 w3 own3 hx3; have E3 := hx3 w (by omega) E1; obtain ⟨ad3, c3, rfl, hcv3⟩ := str_of_own own3 (by omega) (bytes_cells s a b c d) HL.out)
  rw [ba_list] at hcv3
  generalize (⟨t, s⟩ : Ent).bytes = y at *
  go_wp2_with fail
  go_ret
  exact ⟨rfl, E3⟩
end Go.Proofs.YtelcabjhbgkfmaaGreatDoor

/- The references' entries: all walks. -/
namespace Go.Proofs.YtelcabjhbgkfmaaGreatDoor
open Go.RowKit Go.WideShapes
set_option linter.unusedVariables false
attribute [local go_sem ↓] Go.wp_at_zero Go.wp_at_succ

/-! ### Check, both ways -/
theorem eCheck_any (t : Int) (s : ByteArray) (w : World) :
    Calls Tryz.prog 133 #[.agg #[.int .i64 t, .string s]] w fun e w' => e = .returned (errR (encK ⟨t, s⟩)) ∧ Ext w w' := by
  by_cases h : (⟨t, s⟩ : Ent).ok
  · refine (eCheck_ok t s w h).mono fun e w' hh => ⟨hh.1.trans ?_, hh.2⟩
    unfold encK; rw [if_pos h]; rfl
  · refine (eCheck_bad t s w h).mono fun e w' hh => ⟨hh.1.trans ?_, hh.2⟩
    unfold encK; rw [if_neg h, errR_ne (Ent.err_ne _)]

/-! ### Decode -/
def decO (s : ByteArray) : Option Ent := match takeE s with
  | some (e, r) => if r.size = 0 then some e else none
  | none => none
def decE (s : ByteArray) : Ent := (decO s).getD ⟨0, ⟨#[]⟩⟩
def decB (s : ByteArray) : Bool := (decO s).isSome
def decK (s : ByteArray) : Int := if decB s then 0 else 2
theorem dec_some {s r : ByteArray} {e : Ent} (h : takeE s = some (e, r)) (hr : r.size = 0) : decE s = e ∧ decB s = true ∧ decK s = 0 := by
  have : decO s = some e := by unfold decO; rw [h]; exact if_pos hr
  have hb : decB s = true := by unfold decB; rw [this]; rfl
  exact ⟨by unfold decE; rw [this]; rfl, hb, by unfold decK; rw [hb]; rfl⟩
theorem dec_none' {s : ByteArray} (h : decO s = none) : decE s = ⟨0, ⟨#[]⟩⟩ ∧ decB s = false ∧ decK s = 2 := by
  have hb : decB s = false := by unfold decB; rw [h]; rfl
  exact ⟨by unfold decE; rw [h]; rfl, hb, by unfold decK; rw [hb]; rfl⟩
theorem dec_none {s : ByteArray} (h : takeE s = none) : decE s = ⟨0, ⟨#[]⟩⟩ ∧ decB s = false ∧ decK s = 2 := dec_none' (by unfold decO; rw [h])
theorem dec_rest {s r : ByteArray} {e : Ent} (h : takeE s = some (e, r)) (hr : r.size ≠ 0) : decE s = ⟨0, ⟨#[]⟩⟩ ∧ decB s = false ∧ decK s = 2 := dec_none' (by unfold decO; rw [h]; exact if_neg hr)

def RUnpPost (s : ByteArray) (w : World) (e : Ending) (w' : World) : Prop :=
  match unpackE s with
  | some es => ∃ v, e = .returned (.tuple #[v, .bool true]) ∧ w'.ownsRow w.heap.size 64 2 v es.length (es.flatMap Ent.cells)
  | none => ∃ v, e = .returned (.tuple #[v, .bool false])
theorem RUnpPost.none {s : ByteArray} {w w' : World} {e : Ending} {v : Value} (h : unpackE s = none) (k : e = .returned (.tuple #[v, .bool false])) : RUnpPost s w e w' := by
  unfold RUnpPost; rw [h]; exact ⟨v, k⟩
theorem RUnpPost.some {s : ByteArray} {w w' : World} {v : Value} {es : List Ent} (h : unpackE s = some es) (k : w'.ownsRow w.heap.size 64 2 v es.length (es.flatMap Ent.cells)) : RUnpPost s w (.returned (.tuple #[v, .bool true])) w' := by
  unfold RUnpPost; rw [h]; exact ⟨_, rfl, k⟩

end Go.Proofs.YtelcabjhbgkfmaaGreatDoor

/- The references' entries: many. -/
namespace Go.Proofs.YtelcabjhbgkfmaaGreatDoor
open Go.RowKit Go.WideShapes
set_option linter.unusedVariables false
attribute [local go_sem ↓] Go.wp_at_zero Go.wp_at_succ

theorem first_step {es : List Ent} {j : Nat} {e : Ent} (h : es[j]? = some e) : firstErr (es.drop j) = if encK e = 0 then firstErr (es.drop (j + 1)) else encK e := by
  obtain ⟨hl, rfl⟩ := List.getElem?_eq_some_iff.1 h
  rw [List.drop_eq_getElem_cons hl, firstErr]
  by_cases hk : (es[j]).ok
  · rw [if_pos hk, if_pos (encK_zero.2 hk)]
  · rw [if_neg hk, if_neg (fun hh => hk (encK_zero.1 hh))]
    unfold encK; rw [if_neg hk]
theorem first_end {es : List Ent} : firstErr (es.drop es.length) = 0 := by rw [List.drop_length]; rfl

set_option maxRecDepth 100000 in
theorem REntries_any (A : Option Addr) (n c : Nat) (es : List Ent) (w : World) (hr : Rd w 2 A n c (es.flatMap Ent.cells)) (hm : c ≤ maxLen) :
    Calls Tryz.prog 22 #[.slice A n c] w fun e w' => e = .returned (.int .i64 (entsErr es)) ∧ Ext w w' := by
  have hx := hr.lenE
  have hlc := hr.2.1
  by_cases h2 : 200 < n
  · have HF : Hid (entsErr es = 4) := by show _ = _; unfold entsErr; rw [if_pos (by omega)]
    clear hx
    go_enter Tryz.func22, Tryz.ntmps22
    go_wp2_with fail
    go_ret
    exact ⟨ret_int HF.out.symm, by (repeat (with_reducible first | exact Ext.refl _ | assumption | refine Ext.drew ?_ | refine Ext.drewN ?_ _ | refine Ext.alloc ?_ _ | refine Ext.trans ?_ (by with_reducible assumption)))⟩
  · have HX := Lib.hid hx
    have HF : Hid (entsErr es = firstErr es) := by show _ = _; unfold entsErr; rw [if_neg (by omega)]
    clear hx
    go_enter Tryz.func22, Tryz.ntmps22
    go_wp2_with fail
    go_loopw [3] (fun x wr => ∃ j : Nat, x = .int .i64 j ∧ j ≤ n ∧ Ext w wr ∧ Hid (firstErr (es.drop j) = firstErr es)) (fun x _ => n - (intOf x).toNat)
    case atStart => exact ⟨0, rfl, Nat.zero_le _, by (repeat (with_reducible first | exact Ext.refl _ | assumption | refine Ext.drew ?_ | refine Ext.drewN ?_ _ | refine Ext.alloc ?_ _ | refine Ext.trans ?_ (by with_reducible assumption))), rfl⟩
    case round =>
      obtain ⟨j, rfl, hj, hbw, HJ⟩ := hrel
      by_cases hc : j < n
      · have hgj := List.getElem?_eq_getElem (l := es) (i := j) (by rw [HX.out]; exact hc)
        obtain ⟨ad, rfl, hb, c0, c1⟩ := (hr.ext hbw).getE hgj
        have HS := Lib.hid (first_step hgj)
        generalize es[j]'(by rw [HX.out]; exact hc) = e at *
        clear hgj
        obtain ⟨kk, HEK⟩ : ∃ kk, Hid (encK e = kk) := ⟨_, rfl⟩
        go_wp2_with fail
        refine (REntry_any _ _ _).mono ?_
        rw [show encK ⟨e.time, e.data⟩ = kk from HEK.out]
        rintro _ w1 ⟨rfl, hb1⟩
        have HS2 := Lib.hid (HJ.out.symm.trans HS.out)
        rw [HEK.out] at HS2
        by_cases hk : kk = 0
        · have HS3 : Hid (firstErr (es.drop (j + 1)) = firstErr es) := (HS2.out.trans (if_pos hk)).symm
          clear HS HS2 HEK
          subst hk
          go_wp2_with fail
          go_roundw
          case rel => exact ⟨j + 1, by go_num, by omega, by (repeat (with_reducible first | exact Ext.refl _ | assumption | refine Ext.drew ?_ | refine Ext.drewN ?_ _ | refine Ext.alloc ?_ _ | refine Ext.trans ?_ (by with_reducible assumption))), HS3.out⟩
          case measure => simp [intOf]; omega
        · have HS3 : Hid (entsErr es = kk) := (HF.out.trans HS2.out).trans (if_neg hk)
          clear HS HS2 HEK
          go_wp2_with fail
          go_ret
          exact ⟨ret_int HS3.out.symm, by (repeat (with_reducible first | exact Ext.refl _ | assumption | refine Ext.drew ?_ | refine Ext.drewN ?_ _ | refine Ext.alloc ?_ _ | refine Ext.trans ?_ (by with_reducible assumption)))⟩
      · obtain rfl : j = n := by omega
        have HS3 : Hid (entsErr es = 0) := by
          show _ = _
          rw [HF.out, ← HJ.out, ← HX.out, first_end]
        go_wp2_with fail
        go_ret
        exact ⟨ret_int HS3.out.symm, by (repeat (with_reducible first | exact Ext.refl _ | assumption | refine Ext.drew ?_ | refine Ext.drewN ?_ _ | refine Ext.alloc ?_ _ | refine Ext.trans ?_ (by with_reducible assumption)))⟩

set_option maxRecDepth 100000 in
theorem REntryLeafs_ok (A : Option Addr) (n c : Nat) (es : List Ent) (w : World) (hr : Rd w 2 A n c (es.flatMap Ent.cells)) (hm : c ≤ maxLen) (hk : entsOk es) :
    Calls Tryz.prog 23 #[.slice A n c] w fun e w' => (∃ v, e = .returned v ∧ OwnI w w' v (es.map Ent.leaf)) ∧ Ext w w' := by
  have hx := hr.lenE
  have hn : n ≤ 200 := by have := hk.1; omega
  have HX := Lib.hid hx
  have HK := Lib.hid hk.2
  have hl := hr.2.1
  clear hx
  obtain ⟨i0, hi0, hz0, hz1, hz2⟩ := info_parts info_int
  go_enter Tryz.func23, Tryz.ntmps23
  go_wp2_with fail
  go_loopw [3, 4] (fun v x wr => ∃ j : Nat, x = .int .i64 j ∧ j ≤ n ∧ Ext w wr ∧ Hid (OwnI w wr v ((es.take j).map Ent.leaf))) (fun _ x _ => n - (intOf x).toNat)
  case atStart => exact ⟨0, rfl, Nat.zero_le _, by (repeat (with_reducible first | exact Ext.refl _ | assumption | refine Ext.drew ?_ | refine Ext.drewN ?_ _ | refine Ext.alloc ?_ _ | refine Ext.trans ?_ (by with_reducible assumption))), own_nil _ _ _ _⟩
  case round =>
    obtain ⟨j, rfl, hj, hbw, hown⟩ := hrel
    by_cases hc : j < n
    · have hgj := List.getElem?_eq_getElem (l := es) (i := j) (by rw [HX.out]; exact hc)
      have hok := Lib.hid (HK.out _ (List.mem_of_getElem? hgj))
      obtain ⟨ad, rfl, hb, c0, c1⟩ := (hr.ext hbw).getE hgj
      have HT : Hid ((es.take (j + 1)).map Ent.leaf = (es.take j).map Ent.leaf ++ [(es[j]'(by rw [HX.out]; exact hc)).leaf]) := by
        show _ = _
        rw [List.take_succ_eq_append_getElem (by rw [HX.out]; exact hc), List.map_append]; rfl
      have hlen : ((es.take j).map Ent.leaf).length = j := by rw [List.length_map, List.length_take, HX.out, Nat.min_eq_left (by omega)]
      generalize es[j]'(by rw [HX.out]; exact hc) = e at *
      generalize (es.take j).map Ent.leaf = L at *
      have hsz := e.bytes_size
      have hds := hok.out.2.2
      have HLF : Hid (leafL e.bytes.data.toList = e.leaf) := rfl
      have hbw0 := hbw.size
      have hlL : L.length ≤ 4096 := by omega
      clear hgj hlen
      go_wp2_with fail
      refine (RBytes_any _ _ _ hok.out).mono ?_
      rintro _ w1 ⟨rfl, hb1⟩
      go_wp2_with fail
      refine (RLeaf_any e.bytes _ (by omega)).mono ?_
      rintro _ w2 ⟨rfl, hb2⟩
      rw [HLF.out]
      have hs1 := hb1.size
      have hs2 := hb2.size
      go_wp2_with (at_builtin; refine wpl_app (by rfl) _ _ _ (by rfl) w.heap.size 3 i0 _ 1 8 Tryz.underlying46 hi0 hz0 hz1 hz2 rfl (by omega) u3 _ _ (by rfl) ((own_ext hown.out (by (repeat (with_reducible first | exact Ext.refl _ | assumption | refine Ext.drew ?_ | refine Ext.drewN ?_ _ | refine Ext.alloc ?_ _ | refine Ext.trans ?_ (by with_reducible assumption))))).alloc _) w2.heap.size 1 [.int .i64 e.leaf] rfl (by rfl) (news_new w2 _ _ _ rfl) (oneL _) (by omega) (by omega) (by simp at hs1 ⊢; omega) ?_; intro g cap w3 own3 hext3)
      go_roundw
      case rel => exact ⟨j + 1, by go_num, by omega, hext3 _ (Nat.le_refl _) (by (repeat (with_reducible first | exact Ext.refl _ | assumption | refine Ext.drew ?_ | refine Ext.drewN ?_ _ | refine Ext.alloc ?_ _ | refine Ext.trans ?_ (by with_reducible assumption)))), OwnI.mk own3 (by rw [HT.out]; simp) (by rw [HT.out]; simp)⟩
      case measure => simp [intOf]; omega
    · obtain rfl : j = n := by omega
      have HT : Hid (es.take j = es) := by show _ = _; rw [List.take_of_length_le (by rw [HX.out]; exact Nat.le_refl _)]
      rw [HT.out] at hown
      go_wp2_with fail
      go_ret
      exact ⟨⟨_, rfl, hown.out⟩, by (repeat (with_reducible first | exact Ext.refl _ | assumption | refine Ext.drew ?_ | refine Ext.drewN ?_ _ | refine Ext.alloc ?_ _ | refine Ext.trans ?_ (by with_reducible assumption)))⟩

/-! ### the program's, both ways -/
def leafsE (es : List Ent) : List Int := if entsErr es = 0 then es.map Ent.leaf else []
theorem OwnI.none (w w' : World) : OwnI w w' (.slice none 0 0) [] := own_nil _ _ _ _
theorem Leafs_any (A : Option Addr) (n c : Nat) (es : List Ent) (w : World) (hr : Rd w 2 A n c (es.flatMap Ent.cells)) (hm : c ≤ maxLen) :
    Calls Tryz.prog 43 #[.slice A n c] w fun e w' => (∃ v, e = .returned (.tuple #[v, errR (entsErr es)]) ∧ OwnI w w' v (leafsE es)) ∧ Ext w w' := by
  by_cases h : entsOk es
  · refine (Leafs_ok A n c es w hr hm h).mono fun e w' hh => ⟨?_, hh.2⟩
    obtain ⟨⟨v, he, ho⟩, _⟩ := hh
    refine ⟨v, he.trans ?_, ?_⟩
    · rw [entsErr_ok h]; rfl
    · unfold leafsE; rw [if_pos (entsErr_ok h)]
      exact OwnI.mk ho (by simp) rfl
  · refine (Leafs_bad A n c es w hr hm h).mono fun e w' hh => ⟨?_, hh.2⟩
    refine ⟨.slice none 0 0, hh.1.trans ?_, ?_⟩
    · rw [errR_ne (entsErr_bad h)]
    · unfold leafsE; rw [if_neg (entsErr_bad h)]
      exact OwnI.none _ _

def unpL (s : ByteArray) : List Ent := (unpackE s).getD []
def unpB (s : ByteArray) : Bool := (unpackE s).isSome
def unpK (s : ByteArray) : Int := if unpB s then 0 else 2
theorem unp_some {s : ByteArray} {es : List Ent} (h : unpackE s = some es) : unpL s = es ∧ unpB s = true ∧ unpK s = 0 := by
  have hb : unpB s = true := by unfold unpB; rw [h]; rfl
  exact ⟨by unfold unpL; rw [h]; rfl, hb, by unfold unpK; rw [hb]; rfl⟩
theorem unp_none {s : ByteArray} (h : unpackE s = none) : unpL s = [] ∧ unpB s = false ∧ unpK s = 2 := by
  have hb : unpB s = false := by unfold unpB; rw [h]; rfl
  exact ⟨by unfold unpL; rw [h]; rfl, hb, by unfold unpK; rw [hb]; rfl⟩
theorem unpL_len (s : ByteArray) : (unpL s).length ≤ 200 := by
  cases h : unpackE s with
  | none => rw [(unp_none h).1]; exact Nat.zero_le _
  | some es => rw [(unp_some h).1]; exact (unpackE_some h).2.1
/-- entries of one's own -/
def OwnE (w w' : World) (v : Value) (es : List Ent) : Prop := w'.ownsRow w.heap.size 64 2 v es.length (es.flatMap Ent.cells)
end Go.Proofs.YtelcabjhbgkfmaaGreatDoor
