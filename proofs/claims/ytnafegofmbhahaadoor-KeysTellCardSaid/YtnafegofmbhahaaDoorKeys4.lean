/- Keys: Root, Prove and Check, all ways. -/
import Derived.Test.YtnafegofmbhahaaDoorKeys3
import Derived.Test.YtnafegofmbhahaaDoorOwnI
import Derived.Test.YtnafegofmbhahaaDoorSums0
namespace Go.Proofs.YtnafegofmbhahaaDoor
open Go.RowKit
set_option linter.unusedVariables false
attribute [local go_sem ↓] Go.wp_at_zero Go.wp_at_succ

theorem treeAt_get {w : World} {base : Nat} {v : Value} {es : List Pr} (h : TreeAt w base v es) : ∃ (g c : Nat) (gb : Nat → Nat), v = .slice (some ⟨g, 0, none⟩) 9 c ∧ c ≤ maxLen ∧ 9 ≤ c ∧ g < w.heap.size ∧ (∀ k, k ≤ 8 → w.cell? ⟨g, k, none⟩ = some (.slice (some ⟨gb k, 0, none⟩) (2 ^ (8 - k)) (2 ^ (8 - k)))) ∧ ∀ k, k ≤ 8 → w.rowIs (gb k) 3 (2 ^ (8 - k)) (fun i => .int .i64 (rowF es k i)) := by
  obtain ⟨gb, ho, hr⟩ := h
  obtain ⟨A, c, rfl, hc, hR, -⟩ := own_rd ho
  have h9 := hR.2.1
  rcases id ho.2 with ⟨h0, _⟩ | ⟨g, cap, cur, e, _, hh, _⟩
  · cases h0
  injection e with e1 e2 e3
  subst e1 e3
  have hg : g < w.heap.size := by
    rcases Nat.lt_or_ge g w.heap.size with h | h
    · exact h
    · rw [Array.getElem?_eq_none h] at hh; cases hh
  refine ⟨g, c, gb, rfl, hc, h9, hg, fun k hk => ?_, hr⟩
  rw [World.ownsRow.cellAt ho k (by omega), List.getElem?_map, List.getElem?_range (by omega)]; rfl
def krootV (es : List Pr) : Int := if treeK es = 0 then rowF es 8 0 else 0
set_option maxRecDepth 100000 in
theorem KRoot_any (A : Option Addr) (n c : Nat) (es : List Pr) (w : World) (hr : Rd w 3 A n c (es.flatMap Pr.cells)) (hm : c ≤ maxLen) :
    Calls Tryd.prog 25 #[.slice A n c] w fun e w' => e = .returned (.tuple #[.int .i64 (krootV es), errR (treeK es)]) ∧ Ext w w' := by
  by_cases h : treeK es = 0
  · have HV : Hid (krootV es = rowF es 8 0) := if_pos h
    have HK := Lib.hid h
    go_enter Tryd.func25, Tryd.ntmps25
    go_wp2_with fail
    refine (tree_walk A n c es _ hr hm).mono ?_
    rintro _ w1 ⟨⟨hk, _⟩ | ⟨_, v, rfl, ht⟩, hb1⟩
    · exact absurd h hk
    clear h
    obtain ⟨g, c1, gb, rfl, hc1, h9, hb, hcells, hrows⟩ := treeAt_get ht
    have c8 := hcells 8 (by omega)
    have r8 := (hrows 8 (by omega)).cell (i := 0) (by decide)
    obtain ⟨x, hx⟩ : ∃ x, rowF es 8 0 = x := ⟨_, rfl⟩
    rw [hx] at r8 HV
    rw [show 2 ^ (8 - 8) = 1 from rfl] at c8
    clear ht hcells hrows hx
    go_wp2_with fail
    go_ret2
    exact ⟨by rw [HV.out, HK.out]; rfl, hb1⟩
  · have HV : Hid (krootV es = 0) := if_neg h
    have HK := Lib.hid (errR_ne h)
    go_enter Tryd.func25, Tryd.ntmps25
    go_wp2_with fail
    refine (tree_walk A n c es _ hr hm).mono ?_
    rintro _ w1 ⟨⟨hk, rfl⟩ | ⟨hk, _⟩, hb1⟩
    · clear hk h
      obtain ⟨k, hk⟩ : ∃ k, treeK es = k := ⟨_, rfl⟩
      have HT := Lib.hid hk
      rw [hk] at HK
      rw [hk]
      clear hk
      simp only [errV]
      go_wp2_with fail
      go_ret2
      exact ⟨by rw [HV.out, HT.out, HK.out]; rfl, hb1⟩
    · exact absurd hk h

/-! ### Prove -/
def sibN (n : Nat) : Nat := if n % 2 = 0 then n + 1 else n - 1
theorem xor_all : ∀ n : Fin 256, n.val ^^^ 1 = sibN n.val := by decide +kernel
theorem xor_sib (n : Nat) (h : n < 256) : bits .xor .i64 (n : Int) 1 = ((sibN n : Nat) : Int) := by
  show IntKind.i64.wrap ((BitVec.ofInt 64 (n : Int) ^^^ BitVec.ofInt 64 1).toNat : Int) = _
  have h1 : sibN n ≤ n + 1 := by unfold sibN; split <;> omega
  have h2 : n ^^^ 1 = sibN n := xor_all ⟨n, h⟩
  rw [BitVec.toNat_xor, show (BitVec.ofInt 64 1).toNat = 1 from rfl, BitVec.toNat_ofInt, show ((n : Int) % ((2 ^ 64 : Nat) : Int)).toNat = n by omega, h2]
  exact IntWalk.i64_in _ (by omega)
theorem sibN_lt {n j : Nat} (h : n < 2 * j) : sibN n < 2 * j := by unfold sibN; split <;> omega
def proofL (es : List Pr) (p : Nat) (k : Nat) : List Int := (List.range k).map fun i => rowF es i (sibN (p / 2 ^ i))
theorem proofL_snoc (es : List Pr) (p k : Nat) : proofL es p (k + 1) = proofL es p k ++ [rowF es k (sibN (p / 2 ^ k))] := by simp [proofL, List.range_succ]
theorem proofL_len (es : List Pr) (p k : Nat) : (proofL es p k).length = k := by simp [proofL]
set_option maxRecDepth 100000 in
set_option maxHeartbeats 1000000 in
theorem KProve_ok (A : Option Addr) (n c : Nat) (es : List Pr) (key : ByteArray) (w : World) (hr : Rd w 3 A n c (es.flatMap Pr.cells)) (hm : c ≤ maxLen) (h : treeK es = 0) (hk : keyK key = 0) :
    Calls Tryd.prog 28 #[.slice A n c, .string key] w fun e w' => (∃ v, e = .returned (.tuple #[v, .nilIface]) ∧ OwnN w w' v (proofL es (plcN key) 8)) ∧ Ext w w' := by
  have HK := Lib.hid hk
  have hs : key.size ≤ maxLen := by have := keyK_zero.1 hk; unfold maxLen; omega
  have hp := plcN_lt key
  obtain ⟨p, HP⟩ : ∃ p, Hid (plcN key = p) := ⟨_, rfl⟩
  rw [HP.out] at hp
  rw [HP.out]
  clear hk
  obtain ⟨i0, hi0, hz0, hz1, hz2⟩ := info_parts info_int'
  go_enter Tryd.func28, Tryd.ntmps28
  go_wp2_with fail
  refine (tree_walk A n c es _ hr hm).mono ?_
  rintro _ w1 ⟨⟨hk, _⟩ | ⟨_, v, rfl, ht⟩, hb1⟩
  · exact absurd h hk
  clear h
  obtain ⟨g, c1, gb, rfl, hc1, h9, hb, hcells, hrows⟩ := treeAt_get ht
  have HCL := Lib.hid hcells
  have HRW := Lib.hid hrows
  unfold maxLen at hc1
  clear ht hcells hrows
  go_wp2_with fail
  refine (Key_any key _).mono ?_
  rw [HK.out, errR_0]
  rintro _ _ ⟨rfl, rfl⟩
  go_wp2_with fail
  refine (place_any key _ hs).mono ?_
  rw [HP.out]
  rintro _ w2 ⟨rfl, hb2⟩
  have e2 := hb1.trans hb2
  go_wp2_with fail
  go_loopw [9, 10, 12, 31] (fun y m _ x wr => ∃ i : Nat, x = .int .i64 i ∧ i ≤ 8 ∧ m = .int .i64 ((p / 2 ^ i : Nat) : Int) ∧ Ext w1 wr ∧ Hid (wr.ownsRow w1.heap.size 3 1 y i ((proofL es p i).map (Value.int .i64)))) (fun _ _ _ x _ => 8 - (intOf x).toNat)
  case atStart => exact ⟨0, rfl, by omega, by simp, hb2, own_nil _ _ _ _⟩
  case round =>
    obtain ⟨i, rfl, hi, rfl, hbw1, hown⟩ := hrel
    by_cases hc : i < 8
    · have hpw : 2 ^ (8 - i) = 2 * 2 ^ (8 - (i + 1)) := by
        rw [show 8 - i = (8 - (i + 1)) + 1 by omega, Nat.pow_succ, Nat.mul_comm]
      have hlt : p / 2 ^ i < 2 ^ (8 - i) := by
        rw [Nat.div_lt_iff_lt_mul (Nat.pos_of_ne_zero (by simp)), ← Nat.pow_add, Nat.sub_add_cancel (by omega)]
        exact hp
      have hb2' : 2 ^ (8 - (i + 1)) ≤ 2 ^ 7 := Nat.pow_le_pow_right (by omega) (by omega)
      have HNX : Hid (p / 2 ^ i / 2 = p / 2 ^ (i + 1)) := by show _ = _; rw [Nat.div_div_eq_div_mul, Nat.pow_succ]
      have HPS : Hid (proofL es p (i + 1) = proofL es p i ++ [rowF es i (sibN (p / 2 ^ i))]) := proofL_snoc es p i
      obtain ⟨h, HH⟩ : ∃ h, 2 ^ (8 - (i + 1)) = h := ⟨_, rfl⟩
      obtain ⟨q, HQ⟩ : ∃ q, p / 2 ^ i = q := ⟨_, rfl⟩
      have c0 := (hbw1.cell (p := ⟨g, i, none⟩) hb).trans (HCL.out i (by omega))
      have hr0 := HRW.out i (by omega)
      have hr1 := hr0.of_block (hbw1.block (gb i) hr0.lt)
      rw [HQ] at HNX HPS hlt
      rw [HQ]
      rw [HH] at hpw hb2'
      rw [hpw] at c0 hr1 hlt
      have hs2 := sibN_lt hlt
      have c2 := hr1.cell hs2
      have hq256 : q < 256 := by have : (2 : Nat) ^ 7 = 128 := rfl; omega
      have hx := xor_sib q hq256
      obtain ⟨sb, HSB⟩ : ∃ sb, sibN q = sb := ⟨_, rfl⟩
      rw [HSB] at hx hs2 c2 HPS
      obtain ⟨z, HZ⟩ : ∃ z, rowF es i sb = z := ⟨_, rfl⟩
      rw [HZ] at c2 HPS
      have HN2 : Hid (((q / 2 : Nat) : Int) = (q : Int) / 2) := by show _ = _; omega
      have hbws := hbw1.size
      clear hpw HQ HH HSB HZ hr0 hr1 hlt hb2'
      go_wp2_with (at_builtin; refine wpl_app (by rfl) _ _ _ (by rfl) w1.heap.size 3 i0 _ 1 8 Tryd.underlying46 hi0 hz0 hz1 hz2 rfl (by omega) u9 _ _ (by rfl) (hown.out.alloc _) wr.heap.size 1 [.int .i64 z] rfl (by rfl) (news_new wr _ _ _ rfl) (oneN _) (by omega) (by omega) (by simp; omega) ?_; intro g5 cap w5 own5 hext5)
      go_roundw
      case rel => exact ⟨i + 1, by go_num, by omega, by rw [← HNX.out, HN2.out], hext5 w1 (Nat.le_refl _) (hbw1.alloc _), by rw [HPS.out, List.map_append]; exact own5⟩
      case measure => simp [intOf]; omega
    · obtain rfl : i = 8 := by omega
      go_wp2_with fail
      go_ret2
      exact ⟨⟨_, rfl, OwnN.mk (own_lower hown.out hb1.size) (proofL_len _ _ _).symm rfl⟩, hb1.trans hbw1⟩
/-- what Prove tells -/
def kprK (es : List Pr) (key : ByteArray) : Int := if treeK es ≠ 0 then treeK es else keyK key
def kprL (es : List Pr) (key : ByteArray) : List Int := if kprK es key = 0 then proofL es (plcN key) 8 else []
theorem kprK_tree {es : List Pr} (key : ByteArray) (h : treeK es ≠ 0) : kprK es key = treeK es := if_pos h
theorem kprK_key {es : List Pr} {key : ByteArray} (h : treeK es = 0) : kprK es key = keyK key := if_neg (not_not_intro h)
theorem kprL_ok {es : List Pr} {key : ByteArray} (h : kprK es key = 0) : kprL es key = proofL es (plcN key) 8 := if_pos h
theorem kprL_no {es : List Pr} {key : ByteArray} (h : kprK es key ≠ 0) : kprL es key = [] := if_neg h
set_option maxRecDepth 100000 in
set_option maxHeartbeats 1000000 in
theorem KProve_any (A : Option Addr) (n c : Nat) (es : List Pr) (key : ByteArray) (w : World) (hr : Rd w 3 A n c (es.flatMap Pr.cells)) (hm : c ≤ maxLen) :
    Calls Tryd.prog 28 #[.slice A n c, .string key] w fun e w' => (∃ v, e = .returned (.tuple #[v, errR (kprK es key)]) ∧ OwnN w w' v (kprL es key)) ∧ Ext w w' := by
  by_cases h : treeK es = 0
  · by_cases hk : keyK key = 0
    · refine (KProve_ok A n c es key w hr hm h hk).mono fun e w' hh => ⟨?_, hh.2⟩
      have h0 : kprK es key = 0 := (kprK_key h).trans hk
      rw [h0, kprL_ok h0]
      exact hh.1
    · have hne : kprK es key ≠ 0 := by rw [kprK_key h]; exact hk
      rw [kprL_no hne, errR_ne hne, kprK_key h]
      have HE := Lib.hid (errR_ne hk)
      obtain ⟨kk, HKK⟩ : ∃ k, Hid (keyK key = k) := ⟨_, rfl⟩
      rw [HKK.out] at HE
      rw [HKK.out]
      go_enter Tryd.func28, Tryd.ntmps28
      go_wp2_with fail
      refine (tree_walk A n c es _ hr hm).mono ?_
      rintro _ w1 ⟨⟨hk', _⟩ | ⟨_, v, rfl, ht⟩, hb1⟩
      · exact absurd h hk'
      clear h hk hne
      obtain ⟨g, c1, gb, rfl, hc1, h9, hb, -, -⟩ := treeAt_get ht
      go_wp2_with fail
      refine (Key_any key _).mono ?_
      rw [HKK.out, HE.out]
      rintro _ _ ⟨rfl, rfl⟩
      simp only [errV]
      go_wp2_with fail
      go_ret2
      exact ⟨⟨_, rfl, OwnN.nil _ _⟩, hb1⟩
  · have hne : kprK es key ≠ 0 := by rw [kprK_tree key h]; exact h
    rw [kprL_no hne, errR_ne hne, kprK_tree key h]
    obtain ⟨kt, HKT⟩ : ∃ k, Hid (treeK es = k) := ⟨_, rfl⟩
    have hne2 : kt ≠ 0 := by rw [← HKT.out]; exact h
    rw [HKT.out]
    go_enter Tryd.func28, Tryd.ntmps28
    go_wp2_with fail
    refine (tree_walk A n c es _ hr hm).mono ?_
    rw [HKT.out]
    rintro _ w1 ⟨⟨hk, rfl⟩ | ⟨hk, _⟩, hb1⟩
    · clear hk h hne hne2
      simp only [errV]
      go_wp2_with fail
      go_ret2
      exact ⟨⟨_, rfl, OwnN.nil _ _⟩, hb1⟩
    · exact absurd hk hne2

/-! ### Check -/
def upKV : Nat → Int → List Int → Int
  | _, s, [] => s
  | n, s, x :: l => upKV (n / 2) (if n % 2 = 0 then nodeL s x else nodeL x s) l
def kRootK (v root : Int) : Int := if v = root then 0 else 8
def kchkK (root : Int) (key value : ByteArray) (there : Bool) (l : List Int) : Int :=
  if vld root = false then 1 else if keyK key ≠ 0 then keyK key else if 200 < value.size then 4 else if l.length ≠ 8 ∨ (there = false ∧ value.size ≠ 0) then 3 else if allV l = false then 1 else
    kRootK (upKV (plcN key) (if there then kleaf key value else leE) l) root
theorem upKV_take {l : List Int} {i : Nat} {x : Int} (h : l[i]? = some x) : ∀ (n : Nat) (s : Int), upKV n s (l.take (i + 1)) = (if (n / 2 ^ i) % 2 = 0 then nodeL (upKV n s (l.take i)) x else nodeL x (upKV n s (l.take i))) := by
  induction l generalizing i with
  | nil => simp at h
  | cons y l ih =>
    intro n s
    cases i with
    | zero =>
      obtain rfl : y = x := by simpa using h
      simp [upKV]
    | succ i =>
      have h' : l[i]? = some x := by simpa using h
      rw [List.take_succ_cons, List.take_succ_cons]
      simp only [upKV]
      rw [ih h', Nat.div_div_eq_div_mul, Nat.pow_succ, Nat.mul_comm (2 ^ i)]
theorem upKV_vld : ∀ (l : List Int) (n : Nat) (s : Int), vld s = true → vld (upKV n s l) = true
  | [], n, s, h => h
  | x :: l, n, s, h => by
    unfold upKV
    refine upKV_vld l _ _ ?_
    split
    · exact vld_mk (nodeL_bd _ _)
    · exact vld_mk (nodeL_bd _ _)
theorem vld_leE : vld leE = true := vld_mk (sumL_bd _)
theorem vld_kleaf (k v : ByteArray) : vld (kleaf k v) = true := vld_mk (sumL_bd _)

set_option maxRecDepth 100000 in
set_option maxHeartbeats 1000000 in
/-- Check, where it comes to the way up -/
theorem KCheck_up (root : Int) (key value : ByteArray) (there : Bool) (A : Option Addr) (n c : Nat) (l : List Int) (w : World) (hr : Rd w 1 A n c (l.map (Value.int .i64))) (hm : c ≤ maxLen)
    (h1 : vld root = true) (h2 : keyK key = 0) (h3 : value.size ≤ 200) (h4 : n = 8) (h5 : there = true ∨ value.size = 0) (h6 : allV l = true) :
    Calls Tryd.prog 37 #[.int .i64 root, .string key, .string value, .bool there, .slice A n c] w fun e w' => e = .returned (errR (kRootK (upKV (plcN key) (if there then kleaf key value else leE) l) root)) ∧ Ext w w' := by
  have hx := hr.lenI
  have hl := hr.2.1
  have hs := keyK_zero.1 h2
  have hms : c ≤ 9223372036854775807 := by unfold maxLen at hm; omega
  have hsm : key.size ≤ maxLen := by unfold maxLen; omega
  have HX := Lib.hid hx
  have HK := Lib.hid h2
  have HL := Lib.hid hl
  subst h4
  obtain ⟨q1, q2⟩ := str_someP hs.1
  obtain ⟨s0, HS0⟩ : ∃ s, Hid ((if there = true then kleaf key value else leE) = s) := ⟨_, rfl⟩
  have hv0 : vld s0 = true := by
    rw [← HS0.out]
    split
    · exact vld_kleaf _ _
    · exact vld_leE
  obtain ⟨p, HP⟩ : ∃ p, Hid (plcN key = p) := ⟨_, rfl⟩
  have hp := plcN_lt key
  rw [HP.out] at hp
  obtain ⟨u, HU⟩ : ∃ s, Hid (upKV p s0 l = s) := ⟨_, rfl⟩
  have HVL := Lib.hid h6
  rw [HS0.out, HP.out, HU.out]
  clear hx h2 h6 hl
  go_enter Tryd.func37, Tryd.ntmps37
  go_wp2_with fail
  refine (Valid_any root _).mono ?_
  rw [h1]
  rintro _ _ ⟨rfl, rfl⟩
  go_wp2_with fail
  refine (Key_any key _).mono ?_
  rw [HK.out, errR_0]
  rintro _ _ ⟨rfl, rfl⟩
  go_upto_region 8 with (fail)
  go_cut [30] (fun v wc => v = .bool false ∧ w = wc)
  case first =>
    as_aux_lemma =>
    cases there
    · have hv : value.size = 0 := h5.resolve_left (by decide)
      obtain rfl := str_noneP hv
      clear h5 hv
      go_wp2_with fail
      go_meet
      exact ⟨rfl, rfl⟩
    · clear h5
      go_wp2_with fail
      go_meet
      exact ⟨rfl, rfl⟩
  case rest =>
  as_aux_lemma =>
  obtain ⟨rfl, rfl⟩ := hcut
  clear h5
  go_wp2_with fail
  refine (Sums_any A _ c l _ hr hm).mono ?_
  rw [HVL.out]
  rintro _ _ ⟨rfl, rfl⟩
  go_wp2_with fail
  refine (Leaf_any ⟨#[]⟩ _ (by decide)).mono ?_
  have HLE : Hid (leafL (⟨#[]⟩ : ByteArray).data.toList = leE) := rfl
  rw [HLE.out]
  obtain ⟨le, HLE2⟩ : ∃ x, Hid (leE = x) := ⟨_, rfl⟩
  rw [HLE2.out]
  rintro _ w1 ⟨rfl, hb1⟩
  go_upto_if 49 with (fail)
  go_cut [12] (fun v wc => v = .int .i64 s0 ∧ Ext w wc)
  case first =>
    as_aux_lemma =>
    have hs0 := HS0.out
    cases there
    · rw [if_neg (by decide), HLE2.out] at hs0
      subst hs0
      clear HS0 HU HLE HLE2
      go_wp2_with fail
      go_meet
      exact ⟨rfl, hb1⟩
    · rw [if_pos rfl] at hs0
      clear HS0 HU HLE HLE2
      go_wp2_with fail
      refine (kleaf_any key value _ hs.2 h3).mono ?_
      rw [hs0]
      rintro _ w2 ⟨rfl, hb2⟩
      go_wp2_with fail
      go_meet
      exact ⟨rfl, hb1.trans hb2⟩
  case rest =>
  as_aux_lemma =>
  obtain ⟨rfl, hbc⟩ := hcut
  clear HLE HLE2 hb1
  go_wp2_with fail
  refine (place_any key _ hsm).mono ?_
  rw [HP.out]
  rintro _ w2 ⟨rfl, hb2⟩
  have e2 := hbc.trans hb2
  go_wp2_with fail
  go_loopw [12, 13, 15, 57] (fun y m _ x wr => ∃ (i : Nat) (t : Int), x = .int .i64 i ∧ i ≤ 8 ∧ m = .int .i64 ((p / 2 ^ i : Nat) : Int) ∧ y = .int .i64 t ∧ vld t = true ∧ Ext w wr ∧ Hid (upKV p s0 (l.take i) = t)) (fun _ _ _ x _ => 8 - (intOf x).toNat)
  case atStart => exact ⟨0, s0, rfl, by omega, by simp, rfl, hv0, e2, rfl⟩
  case round =>
    obtain ⟨i, t, rfl, hi, rfl, rfl, hvt, hbw, ht⟩ := hrel
    by_cases hc : i < 8
    · have hgj := List.getElem?_eq_getElem (l := l) (i := i) (by rw [HX.out]; exact hc)
      obtain ⟨ad, rfl, hb, hcell⟩ := (hr.ext hbw).getI hgj
      have hvx := allV_get HVL.out hgj
      have hup := upKV_take hgj p s0
      generalize l[i]'(by rw [HX.out]; exact hc) = x at *
      rw [ht.out] at hup
      have HNX : Hid (p / 2 ^ i / 2 = p / 2 ^ (i + 1)) := by show _ = _; rw [Nat.div_div_eq_div_mul, Nat.pow_succ]
      have hqp : p / 2 ^ i ≤ p := Nat.div_le_self _ _
      obtain ⟨q, HQ⟩ : ∃ q, p / 2 ^ i = q := ⟨_, rfl⟩
      rw [HQ] at HNX hup hqp
      rw [HQ]
      have HN2 : Hid (((q / 2 : Nat) : Int) = (q : Int) / 2) := by show _ = _; omega
      have k1 := (vld_true hvt).1
      have k2 := (vld_true hvx).1
      clear hgj HQ
      by_cases hq : q % 2 = 0
      · rw [if_pos hq] at hup
        have HUP := Lib.hid hup
        have z1 : (q : Int) % 2 = 0 := by omega
        clear hup hq
        go_wp2_with fail
        refine (NodeOf_any t x _ k1 k2).mono ?_
        rintro _ w3 ⟨rfl, hb3⟩
        go_wp2_with fail
        go_roundw
        case rel => exact ⟨i + 1, _, by go_num, by omega, by rw [← HNX.out, HN2.out], rfl, vld_mk (nodeL_bd _ _), hbw.trans hb3, HUP.out⟩
        case measure => simp [intOf]; omega
      · rw [if_neg hq] at hup
        have HUP := Lib.hid hup
        have z1 : (q : Int) % 2 = 1 := by omega
        clear hup hq
        go_wp2_with fail
        refine (NodeOf_any x t _ k2 k1).mono ?_
        rintro _ w3 ⟨rfl, hb3⟩
        go_wp2_with fail
        go_roundw
        case rel => exact ⟨i + 1, _, by go_num, by omega, by rw [← HNX.out, HN2.out], rfl, vld_mk (nodeL_bd _ _), hbw.trans hb3, HUP.out⟩
        case measure => simp [intOf]; omega
    · obtain rfl : i = 8 := by omega
      have hu : t = u := by rw [← ht.out, List.take_of_length_le (by rw [HX.out]; exact Nat.le_refl _), HU.out]
      subst hu
      by_cases hr2 : t = root
      · have HR : Hid (kRootK t root = 0) := if_pos hr2
        subst hr2
        clear ht
        go_wp2_with fail
        go_ret
        exact ⟨by rw [HR.out]; rfl, hbw⟩
      · have HR : Hid (kRootK t root = 8) := if_neg hr2
        have z1 : (t == root) = false := by simp [hr2]
        clear ht
        go_wp2_with fail
        go_ret
        exact ⟨by rw [HR.out]; rfl, hbw⟩

set_option maxRecDepth 100000 in
set_option maxHeartbeats 1000000 in
theorem KCheck_any (root : Int) (key value : ByteArray) (there : Bool) (A : Option Addr) (n c : Nat) (l : List Int) (w : World) (hr : Rd w 1 A n c (l.map (Value.int .i64))) (hm : c ≤ maxLen) :
    Calls Tryd.prog 37 #[.int .i64 root, .string key, .string value, .bool there, .slice A n c] w fun e w' => e = .returned (errR (kchkK root key value there l)) ∧ Ext w w' := by
  have hx := hr.lenI
  have hl := hr.2.1
  have hms : c ≤ 9223372036854775807 := by unfold maxLen at hm; omega
  by_cases h1 : vld root = false
  · have HK : Hid (kchkK root key value there l = 1) := if_pos h1
    go_enter Tryd.func37, Tryd.ntmps37
    go_wp2_with fail
    refine (Valid_any root _).mono ?_
    rw [h1]
    rintro _ _ ⟨rfl, rfl⟩
    go_wp2_with fail
    go_ret
    exact ⟨by rw [HK.out]; rfl, Ext.refl _⟩
  by_cases h2 : keyK key ≠ 0
  · have HK : Hid (kchkK root key value there l = keyK key) := by show _ = _; unfold kchkK; rw [if_neg h1, if_pos h2]
    have h1' : vld root = true := by simpa using h1
    have HE := Lib.hid (errR_ne h2)
    rw [HK.out]
    clear h1
    obtain ⟨kk, HKK⟩ : ∃ k, Hid (keyK key = k) := ⟨_, rfl⟩
    rw [HKK.out] at HE
    rw [HKK.out]
    clear HK h2
    go_enter Tryd.func37, Tryd.ntmps37
    go_wp2_with fail
    refine (Valid_any root _).mono ?_
    rw [h1']
    rintro _ _ ⟨rfl, rfl⟩
    go_wp2_with fail
    refine (Key_any key _).mono ?_
    rw [HKK.out, HE.out]
    rintro _ _ ⟨rfl, rfl⟩
    simp only [errV]
    go_wp2_with fail
    go_ret
    exact ⟨by rw [HE.out]; rfl, Ext.refl _⟩
  have h2 : keyK key = 0 := by simpa using h2
  have h1' : vld root = true := by simpa using h1
  by_cases h3 : 200 < value.size
  · have HK : Hid (kchkK root key value there l = 4) := by show _ = _; unfold kchkK; rw [if_neg h1, if_neg (not_not_intro h2), if_pos h3]
    have H2 := Lib.hid h2
    clear h1 h2
    go_enter Tryd.func37, Tryd.ntmps37
    go_wp2_with fail
    refine (Valid_any root _).mono ?_
    rw [h1']
    rintro _ _ ⟨rfl, rfl⟩
    go_wp2_with fail
    refine (Key_any key _).mono ?_
    rw [H2.out, errR_0]
    rintro _ _ ⟨rfl, rfl⟩
    go_wp2_with fail
    go_ret
    exact ⟨by rw [HK.out]; rfl, Ext.refl _⟩
  by_cases h4 : l.length ≠ 8 ∨ (there = false ∧ value.size ≠ 0)
  · have HK : Hid (kchkK root key value there l = 3) := by show _ = _; unfold kchkK; rw [if_neg h1, if_neg (not_not_intro h2), if_neg h3, if_pos h4]
    have H2 := Lib.hid h2
    rw [hx] at h4
    have hh : n ≠ 8 ∨ (n = 8 ∧ there = false ∧ 0 < value.size) := by
      by_cases h : n = 8
      · exact .inr ⟨h, (h4.resolve_left (fun x => x h)).1, Nat.pos_of_ne_zero (h4.resolve_left (fun x => x h)).2⟩
      · exact .inl h
    clear h1 h2 h4 hx
    rcases hh with hn | ⟨rfl, rfl, hv⟩
    · have z1 : ((n : Int) == 8) = false := by simp; omega
      go_enter Tryd.func37, Tryd.ntmps37
      go_wp2_with fail
      refine (Valid_any root _).mono ?_
      rw [h1']
      rintro _ _ ⟨rfl, rfl⟩
      go_wp2_with fail
      refine (Key_any key _).mono ?_
      rw [H2.out, errR_0]
      rintro _ _ ⟨rfl, rfl⟩
      go_wp2_with fail
      go_ret
      exact ⟨by rw [HK.out]; rfl, Ext.refl _⟩
    · obtain ⟨q1, q2⟩ := str_someP hv
      go_enter Tryd.func37, Tryd.ntmps37
      go_wp2_with fail
      refine (Valid_any root _).mono ?_
      rw [h1']
      rintro _ _ ⟨rfl, rfl⟩
      go_wp2_with fail
      refine (Key_any key _).mono ?_
      rw [H2.out, errR_0]
      rintro _ _ ⟨rfl, rfl⟩
      go_wp2_with fail
      go_ret
      exact ⟨by rw [HK.out]; rfl, Ext.refl _⟩
  have h8 : n = 8 := by
    by_cases h : n = 8
    · exact h
    · exact absurd (.inl (by rw [hx]; exact h)) h4
  have h5 : there = true ∨ value.size = 0 := by
    cases there
    · refine .inr ?_
      by_cases h : value.size = 0
      · exact h
      · exact absurd (.inr ⟨rfl, h⟩) h4
    · exact .inl rfl
  by_cases h6 : allV l = false
  · have HK : Hid (kchkK root key value there l = 1) := by show _ = _; unfold kchkK; rw [if_neg h1, if_neg (not_not_intro h2), if_neg h3, if_neg h4, if_pos h6]
    have H2 := Lib.hid h2
    subst h8
    clear h1 h2 h4 hx
    cases there
    · obtain rfl := str_noneP (h5.resolve_left (by decide))
      clear h5 h3
      go_enter Tryd.func37, Tryd.ntmps37
      go_wp2_with fail
      refine (Valid_any root _).mono ?_
      rw [h1']
      rintro _ _ ⟨rfl, rfl⟩
      go_wp2_with fail
      refine (Key_any key _).mono ?_
      rw [H2.out, errR_0]
      rintro _ _ ⟨rfl, rfl⟩
      go_wp2_with fail
      refine (Sums_any A _ c l _ hr hm).mono ?_
      rw [h6]
      rintro _ _ ⟨rfl, rfl⟩
      go_wp2_with fail
      go_ret
      exact ⟨by rw [HK.out]; rfl, Ext.refl _⟩
    · clear h5
      go_enter Tryd.func37, Tryd.ntmps37
      go_wp2_with fail
      refine (Valid_any root _).mono ?_
      rw [h1']
      rintro _ _ ⟨rfl, rfl⟩
      go_wp2_with fail
      refine (Key_any key _).mono ?_
      rw [H2.out, errR_0]
      rintro _ _ ⟨rfl, rfl⟩
      go_wp2_with fail
      refine (Sums_any A _ c l _ hr hm).mono ?_
      rw [h6]
      rintro _ _ ⟨rfl, rfl⟩
      go_wp2_with fail
      go_ret
      exact ⟨by rw [HK.out]; rfl, Ext.refl _⟩
  · have HK : kchkK root key value there l = kRootK (upKV (plcN key) (if there then kleaf key value else leE) l) root := by unfold kchkK; rw [if_neg h1, if_neg (not_not_intro h2), if_neg h3, if_neg h4, if_neg h6]
    rw [HK]
    exact KCheck_up root key value there A n c l w hr hm h1' h2 (by omega) h8 h5 (by simpa using h6)
end Go.Proofs.YtnafegofmbhahaaDoor
