/- The references' entries: their bytes. -/
import Derived.Test.YtgfkalhpefjenaaDoorRE2
namespace Go.Proofs.YtgfkalhpefjenaaDoor
open Go.RowKit Go.WideShapes
set_option linter.unusedVariables false
attribute [local go_sem ↓] Go.wp_at_zero Go.wp_at_succ

theorem four_one (t : Int) (h0 : 0 ≤ t) (h1 : t ≤ 1000000) : wrap64 (t.tdiv 65536) % 256 = t / 65536 % 256 := by
  rw [Int.tdiv_eq_ediv_of_nonneg h0]
  unfold wrap64
  omega
theorem four_two (t : Int) (h0 : 0 ≤ t) (h1 : t ≤ 1000000) : (wrap64 (t.tdiv 256)).tmod 256 % 256 = t / 256 % 256 := by
  rw [Int.tdiv_eq_ediv_of_nonneg h0]
  have : wrap64 (t / 256) = t / 256 := by unfold wrap64; omega
  rw [this, Int.tmod_eq_emod_of_nonneg (by omega)]
  omega
theorem four_three (t : Int) (h0 : 0 ≤ t) (h1 : t ≤ 1000000) : t.tmod 256 % 256 = t % 256 := by
  rw [Int.tmod_eq_emod_of_nonneg h0]
  omega
theorem bytes_of {t : Int} {s : ByteArray} {a b c d : Int} (ha : a = t / 65536 % 256) (hb : b = t / 256 % 256) (hc : c = t % 256) (hd : d = (s.size : Int) % 256) :
    (([a, b, c, d] : List Int) ++ s.data.toList.map fun (b : UInt8) => (b.toNat : Int)).map byteOf = (⟨t, s⟩ : Ent).bytes.data.toList := by
  subst ha hb hc hd
  rw [List.map_append, List.map_map, Ent.bytes_list]
  have : (byteOf ∘ fun (b : UInt8) => (b.toNat : Int)) = id := by funext b; exact byteOf_toNat b
  rw [this, List.map_id]; rfl
theorem bytes_cells (s : ByteArray) (a b c d : Int) : List.map (Value.int .u8) [a, b, c, d] ++ newsS s = (([a, b, c, d] : List Int) ++ s.data.toList.map fun (b : UInt8) => (b.toNat : Int)).map (Value.int .u8) := by rw [List.map_append, newsS_int]
theorem ba_list (s : ByteArray) : (⟨s.data.toList.toArray⟩ : ByteArray) = s := ba_ext (by rw [toList_mk])

set_option maxRecDepth 100000 in
theorem RBytes_any (t : Int) (s : ByteArray) (w : World) (h : (⟨t, s⟩ : Ent).ok) :
    Calls Tryd.prog 36 #[.agg #[.int .i64 t, .string s]] w fun e w' => e = .returned (.string (⟨t, s⟩ : Ent).bytes) ∧ Ext w w' := by
  obtain ⟨h0, h1, hs⟩ := h
  dsimp only at h0 h1 hs
  obtain ⟨a, HA⟩ : ∃ a, Hid (wrap64 (t.tdiv 65536) % 256 = a) := ⟨_, rfl⟩
  obtain ⟨b, HB⟩ : ∃ a, Hid ((wrap64 (t.tdiv 256)).tmod 256 % 256 = a) := ⟨_, rfl⟩
  obtain ⟨c, HC⟩ : ∃ a, Hid (t.tmod 256 % 256 = a) := ⟨_, rfl⟩
  obtain ⟨d, HD⟩ : ∃ a, Hid ((s.size : Int) = a) := ⟨_, rfl⟩
  have HL := Lib.hid (bytes_of (s := s) (HA.out.symm.trans (four_one t h0 h1)) (HB.out.symm.trans (four_two t h0 h1)) (HC.out.symm.trans (four_three t h0 h1)) (HD.out.symm.trans (by omega)))
  have HSZ := Lib.hid (Ent.bytes_size ⟨t, s⟩)
  obtain ⟨i0, hi0, hz0', hz1, hz2⟩ := info_parts info_u8
  obtain ⟨g, hg⟩ : ∃ g, g = w.heap.size + 1 := ⟨_, rfl⟩
  clear h0 h1
  go_enter Tryd.func36, Tryd.ntmps36
  go_upto_region 2 with (fail)
  rw [HA.out, HB.out, HC.out, HD.out]
  have B0 : Bk (w.alloc (.cells #[.int .i64 t, .string s] 52)) w.heap.size 52 #[.int .i64 t, .string s] := Bk.at_ _ _ _ _ rfl
  have X0 : Ext w (w.alloc (.cells #[.int .i64 t, .string s] 52)) := by (repeat (with_reducible first | exact Ext.refl _ | assumption | refine Ext.drew ?_ | refine Ext.drewN ?_ _ | refine Ext.alloc ?_ _ | refine Ext.trans ?_ (by with_reducible assumption)))
  have hsz : (w.alloc (.cells #[.int .i64 t, .string s] 52)).heap.size = w.heap.size + 1 := by simp
  rw [← hg] at hsz ⊢
  generalize w.alloc (.cells #[.int .i64 t, .string s] 52) = w0 at *
  have own0 : (w0.alloc (.cells #[.int .u8 a, .int .u8 b, .int .u8 c, .int .u8 d] 5)).ownsRow w0.heap.size 5 1 (.slice (some ⟨w0.heap.size, 0, none⟩) 4 4) 4 (([a, b, c, d] : List Int).map (Value.int .u8)) :=
    World.ownsRow_lit w0 #[.int .u8 a, .int .u8 b, .int .u8 c, .int .u8 d] 4 (by simp) (by simp [maxLen]) rfl
  rw [hsz] at own0
  have B1 := B0.alloc (.cells #[.int .u8 a, .int .u8 b, .int .u8 c, .int .u8 d] 5)
  have E0 : Ext w (w0.alloc (.cells #[.int .u8 a, .int .u8 b, .int .u8 c, .int .u8 d] 5)) := by (repeat (with_reducible first | exact Ext.refl _ | assumption | refine Ext.drew ?_ | refine Ext.drewN ?_ _ | refine Ext.alloc ?_ _ | refine Ext.trans ?_ (by with_reducible assumption)))
  have hz0 : g < (w0.alloc (.cells #[.int .u8 a, .int .u8 b, .int .u8 c, .int .u8 d] 5)).heap.size := by simp [hsz]
  generalize w0.alloc (.cells #[.int .u8 a, .int .u8 b, .int .u8 c, .int .u8 d] 5) = w1 at *
  have hconv := run_bytes_of_string (P := Tryd.prog) w1 9 64 5 s Tryd.underlying9 Tryd.underlying64 Tryd.underlying5
  have hcells := conv_cells w1.drew s (grownCap w1 s.size 0 5) 5 ((bytesRow s (grownCap w1 s.size 0 5)).size, (bytesRow s (grownCap w1 s.size 0 5)).size + 1) w1.heap.size rfl
  have E1 : Ext w (w1.drew.alloc (.cells (bytesRow s (grownCap w1 s.size 0 5)) 5 ((bytesRow s (grownCap w1 s.size 0 5)).size, (bytesRow s (grownCap w1 s.size 0 5)).size + 1))) := by (repeat (with_reducible first | exact Ext.refl _ | assumption | refine Ext.drew ?_ | refine Ext.drewN ?_ _ | refine Ext.alloc ?_ _ | refine Ext.trans ?_ (by with_reducible assumption)))
  have E12 : Ext w1 (w1.drew.alloc (.cells (bytesRow s (grownCap w1 s.size 0 5)) 5 ((bytesRow s (grownCap w1 s.size 0 5)).size, (bytesRow s (grownCap w1 s.size 0 5)).size + 1))) := by (repeat (with_reducible first | exact Ext.refl _ | assumption | refine Ext.drew ?_ | refine Ext.drewN ?_ _ | refine Ext.alloc ?_ _ | refine Ext.trans ?_ (by with_reducible assumption)))
  have own1 : (w1.drew.alloc (.cells (bytesRow s (grownCap w1 s.size 0 5)) 5 ((bytesRow s (grownCap w1 s.size 0 5)).size, (bytesRow s (grownCap w1 s.size 0 5)).size + 1))).ownsRow g 5 1 (.slice (some ⟨g, 0, none⟩) 4 4) 4 (([a, b, c, d] : List Int).map (Value.int .u8)) := (World.ownsRow.drew own0).alloc _
  generalize w1.drew.alloc (.cells (bytesRow s (grownCap w1 s.size 0 5)) 5 ((bytesRow s (grownCap w1 s.size 0 5)).size, (bytesRow s (grownCap w1 s.size 0 5)).size + 1)) = w2 at *
  generalize grownCap w1 s.size 0 5 = cp at *
  have hs2 := E12.size
  have b0 := B1.cell 0
  have b1 := B1.cell 1
  have HC2 := Lib.hid hcells
  have hw1 : w.heap.size + 1 ≤ w1.heap.size := by omega
  clear hcells
  go_wp2_with (at_builtin; refine wpl_appa (by rfl) _ _ _ (by rfl) g 5 i0 _ 1 1 Tryd.underlying64 hi0 hz0' hz1 hz2 rfl (by omega) (.slice (some ⟨g, 0, none⟩) 4 4) 4 _ (by rfl) own1 ⟨w1.heap.size, 0, none⟩ s.size cp (newsS s) (by rfl) (newsS_len s) HC2.out (newsS_one s) (by omega) (by omega) (by omega) ?_; intro v3 w3 own3 hx3; have E3 := hx3 w (by omega) E1; obtain ⟨ad3, c3, rfl, hcv3⟩ := str_of_own own3 (by omega) (bytes_cells s a b c d) HL.out)
  rw [ba_list] at hcv3
  generalize (⟨t, s⟩ : Ent).bytes = y at *
  go_wp2_with fail
  go_ret
  exact ⟨rfl, E3⟩
end Go.Proofs.YtgfkalhpefjenaaDoor
