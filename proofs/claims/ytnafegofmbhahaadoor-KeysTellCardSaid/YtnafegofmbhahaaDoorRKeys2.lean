/- the references' keys: the leaf of a place, what lies beside its way, and the root that comes of it. -/
import Derived.Test.YtnafegofmbhahaaDoorRKeys
import Derived.Test.YtnafegofmbhahaaDoorRNode
namespace Go.Proofs.YtnafegofmbhahaaDoor
open Go.RowKit Go.WideShapes
set_option linter.unusedVariables false
attribute [local go_sem ↓] Go.wp_at_zero Go.wp_at_succ

set_option maxRecDepth 100000 in
theorem RPlaced_any (k v : ByteArray) (w : World) (hk : k.size ≤ 200) (hv : v.size ≤ 200) :
    Calls Tryd.prog 35 #[.string k, .string v] w fun e w' => e = .returned (.int .i64 (kleaf k v)) ∧ Ext w w' := by
  have hz : (k ++ ⟨#[0]⟩ ++ v).size ≤ 1000000 := by
    rw [ByteArray.size_append, ByteArray.size_append]
    show k.size + 1 + v.size ≤ _
    omega
  have HL : Hid (leafL (k ++ ⟨#[0]⟩ ++ v).data.toList = kleaf k v) := rfl
  have HC := Lib.hid (RLeaf_any (k ++ ⟨#[0]⟩ ++ v) w hz)
  go_enter Tryd.func35, Tryd.ntmps35
  go_wp2_with fail
  refine HC.out.mono ?_
  rw [HL.out]
  rintro _ w1 ⟨rfl, hb1⟩
  go_wp2_with fail
  go_ret
  exact ⟨rfl, hb1⟩

/-! ### The rows in memory -/
def IRow (w : World) (g n : Nat) (f : Nat → Int) : Prop := ∃ cs : Array Value, Bk w g 3 cs ∧ ∀ i, i < n → cs[i]? = some (.int .i64 (f i))
theorem IRow.cell {w : World} {g n : Nat} {f : Nat → Int} (h : IRow w g n f) {i : Nat} (hi : i < n) : w.cell? ⟨g, i, none⟩ = some (.int .i64 (f i)) := by
  obtain ⟨cs, hb, hc⟩ := h
  rw [hb.cell]; exact hc i hi
theorem IRow.lt {w : World} {g n : Nat} {f : Nat → Int} (h : IRow w g n f) : g < w.heap.size := by
  obtain ⟨cs, hb, -⟩ := h
  exact hb.lt
theorem IRow.ext {w w' : World} {g n : Nat} {f : Nat → Int} (h : IRow w g n f) (e : Ext w w') : IRow w' g n f := by
  obtain ⟨cs, hb, hc⟩ := h
  exact ⟨cs, hb.ext e, hc⟩
theorem IRow.kept {w w' : World} {g n : Nat} {f : Nat → Int} (h : IRow w g n f) {base size m : Nat} {v : Value} {xs : List Value} {T : TypeId} (ho : w.ownsRow base T size v m xs) (hT : T ≠ 3) (hg : w.grownBy w' v.ownBlock) : IRow w' g n f := by
  obtain ⟨cs, hb, hc⟩ := h
  exact ⟨cs, hb.kept hg (own_type ho hb hT), hc⟩
theorem IRow.of_own {w : World} {base n g c : Nat} {xs : List Value} {f : Nat → Int} (h : w.ownsRow base 3 1 (.slice (some ⟨g, 0, none⟩) n c) n xs) (hx : xs = (List.range n).map fun i => Value.int .i64 (f i)) : IRow w g n f := by
  rcases h.2 with ⟨h0, _⟩ | ⟨g', cap, cur, e, _, hh, hn, _, hs, ht⟩
  · cases h0
  injection e with e1 e2 e3
  injection e1 with e1
  injection e1 with e1
  subst e1
  refine ⟨cur, hh, fun i hi => ?_⟩
  have h1 : (cur.toList.take (n * 1))[i]? = some (Value.int .i64 (f i)) := by
    rw [ht, hx, List.getElem?_map, List.getElem?_range hi]; rfl
  rw [List.getElem?_take_of_lt (by omega)] at h1
  simpa using h1
theorem IRow.of_row {w : World} {g n : Nat} {f : Nat → Int} (h : w.rowIs g 3 n (fun i => .int .i64 (f i))) : IRow w g n f := by
  obtain ⟨c, hb, hn, hc⟩ := h
  exact ⟨c, hb, hc⟩

def outC (gb cb : Nat → Nat) (k : Nat) : List Value := (List.range k).map fun i => .slice (some ⟨gb i, 0, none⟩) (2 ^ (8 - i)) (cb i)
theorem outC_snoc (gb cb : Nat → Nat) (k : Nat) : outC gb cb (k + 1) = outC gb cb k ++ [.slice (some ⟨gb k, 0, none⟩) (2 ^ (8 - k)) (cb k)] := by simp [outC, List.range_succ]
theorem outC_congr {gb gb' cb cb' : Nat → Nat} {k : Nat} (h : ∀ i, i < k → gb i = gb' i) (h' : ∀ i, i < k → cb i = cb' i) : outC gb cb k = outC gb' cb' k := by
  unfold outC
  refine List.map_congr_left fun i hi => ?_
  rw [h i (List.mem_range.1 hi), h' i (List.mem_range.1 hi)]
/-- the rows as they lie in memory -/
def RowsAt (w : World) (base : Nat) (v : Value) (es : List Pr) : Prop :=
  ∃ gb cb : Nat → Nat, w.ownsRow base 46 1 v 9 (outC gb cb 9) ∧ ∀ k, k ≤ 8 → IRow w (gb k) (2 ^ (8 - k)) (rowF es k)
theorem RowsAt.ext {w w' : World} {base : Nat} {v : Value} {es : List Pr} (h : RowsAt w base v es) (e : Ext w w') : RowsAt w' base v es := by
  obtain ⟨gb, cb, ho, hr⟩ := h
  exact ⟨gb, cb, own_ext ho e, fun k hk => (hr k hk).ext e⟩
theorem RowsAt.get {w : World} {base : Nat} {v : Value} {es : List Pr} (h : RowsAt w base v es) : ∃ (g c : Nat) (gb cb : Nat → Nat), v = .slice (some ⟨g, 0, none⟩) 9 c ∧ c ≤ maxLen ∧ 9 ≤ c ∧ g < w.heap.size ∧ (∀ k, k ≤ 8 → w.cell? ⟨g, k, none⟩ = some (.slice (some ⟨gb k, 0, none⟩) (2 ^ (8 - k)) (cb k))) ∧ ∀ k, k ≤ 8 → IRow w (gb k) (2 ^ (8 - k)) (rowF es k) := by
  obtain ⟨gb, cb, ho, hr⟩ := h
  obtain ⟨A, c, rfl, hc, hR, -⟩ := own_rd ho
  have h9 := hR.2.1
  rcases id ho.2 with ⟨h0, _⟩ | ⟨g, cap, cur, e, _, hh, _⟩
  · cases h0
  injection e with e1 e2 e3
  subst e1 e3
  have hg : g < w.heap.size := by
    rcases Nat.lt_or_ge g w.heap.size with h | h
    · exact h
    · rw [Array.getElem?_eq_none h] at hh; cases hh
  refine ⟨g, c, gb, cb, rfl, hc, h9, hg, fun k hk => ?_, hr⟩
  rw [World.ownsRow.cellAt ho k (by omega)]
  unfold outC
  rw [List.getElem?_map, List.getElem?_range (by omega)]; rfl

set_option maxRecDepth 100000 in
set_option maxHeartbeats 1000000 in
theorem RBeside_any (v : Value) (es : List Pr) (key : ByteArray) (base : Nat) (w : World) (hv : RowsAt w base v es) (hs : key.size ≤ maxLen) :
    Calls Tryd.prog 27 #[v, .string key] w fun e w' => (∃ q, e = .returned q ∧ OwnN w w' q (proofL es (plcN key) 8)) ∧ Ext w w' := by
  have hp := plcN_lt key
  have HSP := Lib.hid (RSpot_any key w hs)
  obtain ⟨p, HP⟩ : ∃ p, Hid (plcN key = p) := ⟨_, rfl⟩
  rw [HP.out] at hp HSP
  rw [HP.out]
  obtain ⟨i0, hi0, hz0, hz1, hz2⟩ := info_parts info_int'
  obtain ⟨g, c1, gb, cb, rfl, hc1, h9, hb, hcells, hrows⟩ := hv.get
  have HCL := Lib.hid hcells
  have HRW := Lib.hid hrows
  unfold maxLen at hc1
  clear hcells hrows hv
  go_enter Tryd.func27, Tryd.ntmps27
  go_wp2_with fail
  refine HSP.out.mono ?_
  rintro _ _ ⟨rfl, rfl⟩
  go_wp2_with fail
  go_loopw [5, 6, 7, 8] (fun y m x _ wr => ∃ i : Nat, x = .int .i64 i ∧ i ≤ 8 ∧ m = .int .i64 ((p / 2 ^ i : Nat) : Int) ∧ Ext w wr ∧ Hid (wr.ownsRow w.heap.size 3 1 y i ((proofL es p i).map (Value.int .i64)))) (fun _ _ x _ _ => 8 - (intOf x).toNat)
  case atStart => exact ⟨0, rfl, by omega, by simp, Ext.refl _, own_nil _ _ _ _⟩
  case round =>
    obtain ⟨i, rfl, hi, rfl, hbw1, hown⟩ := hrel
    by_cases hc : i < 8
    · have hpw : 2 ^ (8 - i) = 2 * 2 ^ (8 - (i + 1)) := by
        rw [show 8 - i = (8 - (i + 1)) + 1 by omega, Nat.pow_succ, Nat.mul_comm]
      have hlt : p / 2 ^ i < 2 ^ (8 - i) := by
        rw [Nat.div_lt_iff_lt_mul (Nat.pos_of_ne_zero (by simp)), ← Nat.pow_add, Nat.sub_add_cancel (by omega)]
        exact hp
      have hb2' : 2 ^ (8 - (i + 1)) ≤ 2 ^ 7 := Nat.pow_le_pow_right (by omega) (by omega)
      have HNX : Hid (p / 2 ^ i / 2 = p / 2 ^ (i + 1)) := by show _ = _; rw [Nat.div_div_eq_div_mul, Nat.pow_succ]
      have HPS : Hid (proofL es p (i + 1) = proofL es p i ++ [rowF es i (sibN (p / 2 ^ i))]) := proofL_snoc es p i
      obtain ⟨h, HH⟩ : ∃ h, 2 ^ (8 - (i + 1)) = h := ⟨_, rfl⟩
      obtain ⟨q, HQ⟩ : ∃ q, p / 2 ^ i = q := ⟨_, rfl⟩
      have c0 := (hbw1.cell (p := ⟨g, i, none⟩) hb).trans (HCL.out i (by omega))
      have hr1 := (HRW.out i (by omega)).ext hbw1
      rw [HQ] at HNX HPS hlt
      rw [HQ]
      rw [HH] at hpw hb2'
      rw [hpw] at c0 hr1 hlt
      have hs2 := sibN_lt hlt
      have c2 := hr1.cell hs2
      have hq256 : q < 256 := by have : (2 : Nat) ^ 7 = 128 := rfl; omega
      have hh128 : h ≤ 128 := hb2'
      have HSV : (q % 2 = 0 ∧ sibN q = q + 1) ∨ (q % 2 = 1 ∧ sibN q = q - 1) := by unfold sibN; split <;> omega
      obtain ⟨sb, HSB⟩ : ∃ sb, sibN q = sb := ⟨_, rfl⟩
      rw [HSB] at hs2 c2 HPS HSV
      obtain ⟨z, HZ⟩ : ∃ z, rowF es i sb = z := ⟨_, rfl⟩
      rw [HZ] at c2 HPS
      have HN2 : Hid (((q / 2 : Nat) : Int) = (q : Int) / 2) := by show _ = _; omega
      have hbws := hbw1.size
      clear hpw HQ HH HSB HZ hr1 hlt hb2' HSP
      have htm : Int.tmod (q : Int) 2 = (q : Int) % 2 := Int.tmod_eq_emod_of_nonneg (by omega)
      have htd : Int.tdiv (q : Int) 2 = (q : Int) / 2 := Int.tdiv_eq_ediv_of_nonneg (by omega)
      have hsI : (sb : Int) < 2 * (h : Int) := by omega
      rcases HSV with ⟨ho, hsb⟩ | ⟨ho, hsb⟩
      · subst hsb
        have ho2 : (q : Int) % 2 = 0 := by omega
        have ho3 : ((q : Int) % 2 == 1) = false := by rw [ho2]; rfl
        go_wp2_with (at_builtin; refine wpl_app (by rfl) _ _ _ (by rfl) w.heap.size 3 i0 _ 1 8 Tryd.underlying46 hi0 hz0 hz1 hz2 rfl (by omega) u5 _ _ (by rfl) (hown.out.alloc _) wr.heap.size 1 [.int .i64 z] rfl (by rfl) (news_new wr _ _ _ rfl) (oneN _) (by omega) (by omega) (by simp; omega) ?_; intro g5 cap w5 own5 hext5)
        go_roundw
        case rel => exact ⟨i + 1, by go_num, by omega, by rw [← HNX.out, HN2.out], hext5 w (Nat.le_refl _) (hbw1.alloc _), by rw [HPS.out, List.map_append]; exact own5⟩
        case measure => simp [intOf]; omega
      · subst hsb
        have ho2 : (q : Int) % 2 = 1 := by omega
        have ho3 : ((q : Int) % 2 == 1) = true := by rw [ho2]; rfl
        have k1 : (q : Int) - 1 < 2 * (h : Int) := by omega
        have k2 : 0 ≤ (q : Int) - 1 := by omega
        have k3 : ((q : Int) - 1).toNat = q - 1 := by omega
        go_wp2_with (at_builtin; refine wpl_app (by rfl) _ _ _ (by rfl) w.heap.size 3 i0 _ 1 8 Tryd.underlying46 hi0 hz0 hz1 hz2 rfl (by omega) u5 _ _ (by rfl) (hown.out.alloc _) wr.heap.size 1 [.int .i64 z] rfl (by rfl) (news_new wr _ _ _ rfl) (oneN _) (by omega) (by omega) (by simp; omega) ?_; intro g5 cap w5 own5 hext5)
        go_roundw
        case rel => exact ⟨i + 1, by go_num, by omega, by rw [← HNX.out, HN2.out], hext5 w (Nat.le_refl _) (hbw1.alloc _), by rw [HPS.out, List.map_append]; exact own5⟩
        case measure => simp [intOf]; omega
    · obtain rfl : i = 8 := by omega
      go_wp2_with fail
      go_ret
      exact ⟨⟨_, rfl, OwnN.mk hown.out (proofL_len _ _ _).symm rfl⟩, hbw1⟩
end Go.Proofs.YtnafegofmbhahaaDoor
