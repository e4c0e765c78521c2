/- A session, plain: what a beginning is answered. -/
import Derived.Test.YtnphbkjkeipmmaaGreatDoorJRunBegins20
import Derived.Test.YtnphbkjkeipmmaaGreatDoorJRunBegins17
import Derived.Test.YtnphbkjkeipmmaaGreatDoorJRunBegins18
import Derived.Test.YtnphbkjkeipmmaaGreatDoorJRunBegins10
import Derived.Deep.RegionWith
namespace Go.Proofs.YtnphbkjkeipmmaaGreatDoor
open Go.RowKit
set_option linter.unusedVariables false

theorem runT_long {t : ByteArray} (h : 3000 < t.size) : runT t = longT := if_pos h
theorem runT_ok {t : ByteArray} (h : t.size ≤ 3000) : runT t = (playD dk0 noT (linesL t.data.toList)).2 := if_neg (by omega)
theorem cut0 (t : ByteArray) (k : Nat) : (t.extract 0 k).data.toList = t.data.toList.take k := by rw [Lib.extract_data]; simp
theorem begins_law {t : ByteArray} (hs : t.size ≤ 3000) {k : Nat} (hk : k ≤ t.size) (h : k = t.size ∨ k = 0 ∨ t.data.toList[k - 1]? = some 10) : ∃ x, runT t = runT (t.extract 0 k) ++ x := by
  have hl : t.data.toList.length = t.size := rfl
  have hsk : (t.extract 0 k).size ≤ 3000 := by rw [ByteArray.size_extract]; omega
  rw [runT_ok hs, runT_ok hsk, cut0]
  by_cases h0 : k = 0
  · subst h0
    rw [List.take_zero, linesL_nil]
    exact ⟨_, (noT_app _).symm⟩
  by_cases h1 : k = t.size
  · refine ⟨noT, ?_⟩
    rw [List.take_of_length_le (by omega), app_noT]
  · have h2 : t.data.toList[k - 1]? = some 10 := by
      rcases h with h | h | h
      · exact absurd h h1
      · exact absurd h h0
      · exact h
    have h3 : t.data.toList.take k = t.data.toList.take (k - 1) ++ [10] := by
      have := List.take_add_one (l := t.data.toList) (i := k - 1)
      rw [show k - 1 + 1 = k by omega, h2] at this
      exact this
    have h4 : t.data.toList = t.data.toList.take (k - 1) ++ 10 :: t.data.toList.drop k := by
      conv => lhs; rw [← List.take_append_drop k t.data.toList, h3]
      simp
    have h5 : linesL t.data.toList = linesL (t.data.toList.take k) ++ linesL (t.data.toList.drop k) := by
      conv => lhs; rw [h4]
      rw [linesL_app, ← h3]
    rw [h5, playD_app]
    exact playD_out _ _ _
/-- a text that begins with another one -/
theorem begins_cut {a b x : ByteArray} (h : b = a ++ x) : a.size ≤ b.size ∧ b.extract 0 a.size = a := by
  subst h
  refine ⟨by rw [ByteArray.size_append]; omega, ba_ext ?_⟩
  rw [Lib.extract_data]
  have h1 : a.data.toList.length = a.size := rfl
  have h2 : (a ++ x).data.toList = a.data.toList ++ x.data.toList := by simp
  rw [h2, List.drop_zero, Nat.sub_zero, ← h1, List.take_left]

/-! ### one session -/
theorem word_one {s : ByteArray} (h : ∀ b ∈ s.data.toList, b ≠ 32) : wordV s = (s, noT, false) := by
  unfold wordV
  rw [cutNo h]
  congr 1
theorem word_two {s : ByteArray} {a b : List UInt8} (e : s.data.toList = a ++ 32 :: b) (h : ∀ x ∈ a, x ≠ 32) : wordV s = (baS a, baS b, true) := by
  unfold wordV
  rw [e, cutAt h]
  rfl
def factT : ByteArray := ⟨#[97, 100, 100, 32, 51, 32, 104, 105, 10, 97, 115, 107, 32, 101, 110, 116, 114, 121, 32, 48, 10, 102, 108, 121, 10, 119, 97, 110, 116, 10]⟩
def factA : ByteArray := ⟨#[111, 107, 10, 51, 32, 104, 105, 10, 98, 97, 100, 10, 49, 32, 48, 32, 48, 10]⟩
def hiT : ByteArray := ⟨#[104, 105]⟩
theorem dig_0 : digB 0 = ⟨#[48]⟩ := by rw [digB_one (by decide)]; rfl
theorem dig_1 : digB 1 = ⟨#[49]⟩ := by rw [digB_one (by decide)]; rfl
theorem dig_3 : digB 3 = ⟨#[51]⟩ := by rw [digB_one (by decide)]; rfl
theorem fact_add : lineD dk0 (baS [97, 100, 100, 32, 51, 32, 104, 105]) = (⟨[⟨3, hiT⟩], Mi.new 7⟩, okT, some 0) := by
  have h1 : wordV (baS [97, 100, 100, 32, 51, 32, 104, 105]) = (wAdd, baS [51, 32, 104, 105], true) := word_two (a := [97, 100, 100]) (b := [51, 32, 104, 105]) rfl (by decide)
  have h2 : wordV (baS [51, 32, 104, 105]) = (baS [51], hiT, true) := word_two (a := [51]) (b := [104, 105]) rfl (by decide)
  have h3 : numR (baS [51]) 4 = some 3 := by decide +kernel
  unfold lineD
  rw [h1]
  simp only
  rw [if_neg (by decide), if_pos trivial]
  unfold addD
  rw [h2]
  simp only [h3]
  rw [if_neg (by decide), if_neg (by decide), if_neg (by decide)]
  rfl
theorem fact_ask {m : Mi} : lineD ⟨[⟨3, hiT⟩], m⟩ (baS [97, 115, 107, 32, 101, 110, 116, 114, 121, 32, 48]) = (⟨[⟨3, hiT⟩], m⟩, ⟨#[51, 32, 104, 105]⟩, some 0) := by
  have h1 : wordV (baS [97, 115, 107, 32, 101, 110, 116, 114, 121, 32, 48]) = (wAsk, baS [101, 110, 116, 114, 121, 32, 48], true) := word_two (a := [97, 115, 107]) (b := [101, 110, 116, 114, 121, 32, 48]) rfl (by decide)
  have h2 : askR (baS [101, 110, 116, 114, 121, 32, 48]) = some (wEntry, [0]) := by decide +kernel
  have h3 : shK [⟨3, hiT⟩] 7 0 = 0 := shK_ok ⟨by decide, fun e he => by simp at he; subst he; decide⟩
  have h4 : ansR [⟨3, hiT⟩] 7 0 (baS [101, 110, 116, 114, 121, 32, 48]) = (⟨#[51, 32, 104, 105]⟩, 0) := by
    unfold ansR
    rw [h2]
    simp only
    rw [h3, if_neg (by decide)]
    unfold ansW
    rw [if_neg (by decide), if_neg (by decide), if_neg (by decide), if_neg (by decide)]
    show (if wEntry = wLeaf then _ else (entT ⟨3, hiT⟩, (0 : Int))) = _
    rw [if_neg (by decide)]
    unfold entT
    show (digB 3 ++ _ ++ _, (0 : Int)) = _
    rw [dig_3]
    rfl
  unfold lineD
  rw [h1]
  simp only
  rw [if_neg (by decide), if_neg (by decide), if_pos trivial, h4]
theorem fact_fly (d : Dk) : lineD d (baS [102, 108, 121]) = (d, noT, none) := by
  unfold lineD
  rw [word_one (by decide)]
  simp only
  rw [if_pos trivial]
  unfold aloneD
  rw [if_neg (by decide), if_neg (by decide), if_neg (by decide), if_neg (by decide)]
theorem fact_want (es : List Ent) (k : Int) : lineD ⟨es, Mi.new k⟩ (baS [119, 97, 110, 116]) = (⟨es, Mi.new k⟩, ⟨#[49, 32, 48, 32, 48]⟩, some 0) := by
  unfold lineD
  rw [word_one (by decide)]
  simp only
  rw [if_pos trivial]
  unfold aloneD
  rw [if_pos (by decide)]
  have h : (Mi.new k).want = ⟨1, 0, 0⟩ := if_pos rfl
  show (_, wantT (Mi.new k).want, _) = _
  rw [h]
  unfold wantT
  show (_, digB 1 ++ spT ++ digB 0 ++ spT ++ digB 0, _) = _
  rw [dig_1, dig_0]
  rfl
theorem fact_runs : runT factT = factA := by
  have hl : linesL factT.data.toList = [[97, 100, 100, 32, 51, 32, 104, 105], [97, 115, 107, 32, 101, 110, 116, 114, 121, 32, 48], [102, 108, 121], [119, 97, 110, 116]] := by decide +kernel
  rw [runT_ok (by decide), hl]
  unfold playD nextD ansD
  rw [fact_add]
  simp only
  unfold playD nextD ansD
  rw [fact_ask]
  simp only
  unfold playD nextD ansD
  rw [fact_fly]
  simp only
  unfold playD nextD ansD
  rw [fact_want]
  rfl
end Go.Proofs.YtnphbkjkeipmmaaGreatDoor

/- The references' proofs: Way, Up. -/
namespace Go.Proofs.YtnphbkjkeipmmaaGreatDoor
open Go.RowKit Go.WideShapes
set_option linter.unusedVariables false
attribute [local go_sem ↓] Go.wp_at_zero Go.wp_at_succ

theorem OwnI.nil (w w' : World) : OwnI w w' (.slice .none 0 0) [] := own_nil _ _ _ _
theorem OwnI.lit (w : World) (z : Int) : OwnI w (w.alloc (.cells #[.int .i64 z] 3)) (.slice (some ⟨w.heap.size, 0, .none⟩) 1 1) [z] :=
  World.ownsRow_lit w #[.int .i64 z] 1 (Nat.le_refl _) (by simp [maxLen]) rfl
theorem OwnI.lower {w w1 w' : World} {v : Value} {ys : List Int} (h : OwnI w1 w' v ys) (e : w.heap.size ≤ w1.heap.size) : OwnI w w' v ys := own_lower h e

set_option maxRecDepth 100000 in
set_option maxHeartbeats 2000000 in
theorem RWay_any (N : Nat) : ∀ (A : Option Addr) (n c : Nat) (xs : List Int) (i : Nat) (w : World), n ≤ N → Rd w 1 A n c (xs.map (Value.int .i64)) → c ≤ maxLen → 1 ≤ n → n ≤ 4096 → allV xs = true → i < n →
    Calls Tryz.prog 42 #[.slice A n c, .int .i64 i] w fun e w' => (∃ v, e = .returned v ∧ OwnI w w' v (wayL xs i)) ∧ Ext w w' := by
  induction N with
  | zero => intro A n c xs i w hN hr hm h1; omega
  | succ N ih =>
    intro A n c xs i w hN hr hm h1 hn hv hi
    have hx := hr.lenI
    have IH := Lib.hid ih
    clear ih
    by_cases h2 : 2 ≤ n
    · have hl : n ≤ c := hr.2.1
      have hk := half_lt h2 hn
      have hk0 := half_pos n
      have hk' := half_le h2 hn
      have HX := Lib.hid hx
      unfold maxLen at hm
      have q0 : (0 : Int) ≤ (half n : Int) := by omega
      have q1 : (half n : Int) ≤ (n : Int) := by omega
      have q2 : (half n : Int) ≤ (c : Int) := by omega
      have q3 : (n : Int) ≤ (c : Int) := by omega
      have e1 : ((n : Int) == 1) = false := by simp; omega
      have R1 := hr.takeI (k := half n) (by omega)
      have R2 := hr.dropI' (k := half n) (by omega)
      obtain ⟨i0, hi0, hz0, hz1, hz2⟩ := info_parts info_int
      by_cases hik : i < half n
      · have HW := Lib.hid (wayL_left (xs := xs) (i := i) (by omega) (by omega) (by rw [hx]; exact hik))
        have hlen := wayL_len n (xs.take (half n)) i (by rw [List.length_take]; omega) (by rw [List.length_take]; omega)
        rw [List.length_take, Nat.min_eq_left (by omega)] at hlen
        have hsl := stepsN_lt (half n) i (half n) (Nat.le_refl _) (by omega) hk0
        have HL : (wayL (xs.take (half n)) i).length ≤ 4096 := by omega
        clear hx hlen hsl
        go_enter Tryz.func42, Tryz.ntmps42
        go_wp2_with fail
        refine (RHalf_any n _ (by omega) hn).mono ?_
        rintro e w' ⟨rfl, rfl⟩
        go_wp2_with fail
        refine (IH.out A (half n) c (xs.take (half n)) i _ (by omega) R1 (by simp only [maxLen]; omega) hk0 (by omega) (allV_take hv (half n)) hik).mono ?_
        rintro _ w1 ⟨⟨v1, rfl, own1⟩, hb1⟩
        have hs1 := hb1.size
        go_wp2_with fail
        refine (RRoot_any N _ _ _ (xs.drop (half n)) _ (by omega) (R2.ext hb1) (by simp only [maxLen]; omega) (by omega) (allV_drop hv (half n))).mono ?_
        rintro _ w2 ⟨rfl, hb2⟩
        have hs2 := hb2.size
        go_wp2_with (at_builtin; refine wpl_app (by rfl) _ _ _ (by rfl) w.heap.size 3 i0 _ 1 8 Tryz.underlying85 hi0 hz0 hz1 hz2 rfl (by omega) v1 _ _ (by rfl) ((own1.ext hb2).alloc _) w2.heap.size 1 [.int .i64 (ofL (xs.drop (half n)))] rfl (by rfl) (news_new w2 _ _ _ rfl) (oneI _) (by omega) (by omega) (by simp; omega) ?_; intro g cap w3 own3 hext3)
        go_ret
        exact ⟨⟨_, rfl, OwnI.mk own3 (by rw [HW.out, HX.out]; simp) (by rw [HW.out, HX.out]; simp)⟩, hext3 _ (Nat.le_refl _) (by (repeat (with_reducible first | exact Ext.refl _ | assumption | refine Ext.drew ?_ | refine Ext.drewN ?_ _ | refine Ext.alloc ?_ _ | refine Ext.trans ?_ (by with_reducible assumption))))⟩
      · have HW := Lib.hid (wayL_right (xs := xs) (i := i) (by omega) (by omega) (by rw [hx]; exact hik))
        have hlen := wayL_len n (xs.drop (half n)) (i - half n) (by rw [List.length_drop]; omega) (by rw [List.length_drop]; omega)
        rw [List.length_drop, hx] at hlen
        have hsl := stepsN_lt (n - half n) (i - half n) (n - half n) (Nat.le_refl _) (by omega) (by omega)
        have HL : (wayL (xs.drop (half n)) (i - half n)).length ≤ 4096 := by omega
        have HT : Hid ((i : Int) - (half n : Int) = ((i - half n : Nat) : Int)) := by show _ = _; omega
        have qi : (half n : Int) ≤ (i : Int) := by omega
        clear hx hlen hsl
        go_enter Tryz.func42, Tryz.ntmps42
        go_wp2_with fail
        refine (RHalf_any n _ (by omega) hn).mono ?_
        rintro e w' ⟨rfl, rfl⟩
        go_wp2_with fail
        rw [HT.out]
        refine (IH.out _ (n - half n) _ (xs.drop (half n)) (i - half n) _ (by omega) R2 (by simp only [maxLen]; omega) (by omega) (by omega) (allV_drop hv (half n)) (by omega)).mono ?_
        rintro _ w1 ⟨⟨v1, rfl, own1⟩, hb1⟩
        have hs1 := hb1.size
        go_wp2_with fail
        refine (RRoot_any N _ _ _ (xs.take (half n)) _ (by omega) (R1.ext hb1) (by simp only [maxLen]; omega) (by omega) (allV_take hv (half n))).mono ?_
        rintro _ w2 ⟨rfl, hb2⟩
        have hs2 := hb2.size
        go_wp2_with (at_builtin; refine wpl_app (by rfl) _ _ _ (by rfl) w.heap.size 3 i0 _ 1 8 Tryz.underlying85 hi0 hz0 hz1 hz2 rfl (by omega) v1 _ _ (by rfl) ((own1.ext hb2).alloc _) w2.heap.size 1 [.int .i64 (ofL (xs.take (half n)))] rfl (by rfl) (news_new w2 _ _ _ rfl) (oneI _) (by omega) (by omega) (by simp; omega) ?_; intro g cap w3 own3 hext3)
        go_ret
        exact ⟨⟨_, rfl, OwnI.mk own3 (by rw [HW.out, HX.out]; simp) (by rw [HW.out, HX.out]; simp)⟩, hext3 _ (Nat.le_refl _) (by (repeat (with_reducible first | exact Ext.refl _ | assumption | refine Ext.drew ?_ | refine Ext.drewN ?_ _ | refine Ext.alloc ?_ _ | refine Ext.trans ?_ (by with_reducible assumption))))⟩
    · obtain rfl : n = 1 := by omega
      have HW := Lib.hid (wayL_one (xs := xs) (i := i) (by omega))
      clear hx
      go_enter Tryz.func42, Tryz.ntmps42
      go_wp2_with fail
      go_ret
      exact ⟨⟨_, rfl, by rw [HW.out]; exact own_nil _ _ _ _⟩, by (repeat (with_reducible first | exact Ext.refl _ | assumption | refine Ext.drew ?_ | refine Ext.drewN ?_ _ | refine Ext.alloc ?_ _ | refine Ext.trans ?_ (by with_reducible assumption)))⟩

end Go.Proofs.YtnphbkjkeipmmaaGreatDoor

/- serve.sums, whole, Answer. -/
namespace Go.Proofs.YtnphbkjkeipmmaaGreatDoor
open Go.RowKit Go.WideShapes
set_option linter.unusedVariables false
attribute [local go_sem ↓] Go.wp_at_zero Go.wp_at_succ

theorem info_strA : (Tryz.prog.info? 9).map (fun i => (i.zero, i.size, i.bytes)) = some (some (.string ⟨#[]⟩), 1, 16) := by kernel_rfl
theorem oneSA (s : ByteArray) : ∀ u ∈ [Value.string s], u.oneCell' = true := by intro u hu; simp at hu; subst hu; rfl
/-- texts of one's own, in a row -/
def SlS (w w' : World) (v : Value) (ss : List ByteArray) : Prop := w'.ownsRow w.heap.size 9 1 v ss.length (ss.map Value.string) ∧ ((ss = [] ∧ v = .slice none 0 0) ∨ ∃ g cap, v = .slice (some ⟨g, 0, none⟩) ss.length cap)
theorem join_le (K : Nat) : ∀ l : List (List UInt8), (∀ x ∈ l, x.length ≤ K) → (Lib.join l [32]).length ≤ l.length * (K + 1)
  | [], _ => by simp [Lib.join, List.intercalate]
  | [a], h => by rw [Lib.join_one]; have := h a (by simp); simp; omega
  | a :: b :: l, h => by
    have e : Lib.join (a :: b :: l) [32] = a ++ ([32] ++ Lib.join (b :: l) [32]) := by simp [Lib.join, List.intercalate]
    have ih := join_le K (b :: l) (fun x hx => h x (by simp [hx]))
    have ha := h a (by simp)
    rw [e, List.length_append, List.length_append, List.length_cons (a := a)]
    rw [Nat.add_mul]
    have : ([32] : List UInt8).length = 1 := rfl
    omega
theorem addr_at (g j : Nat) : (⟨g, 0, none⟩ : Addr).add j = ⟨g, 0 + j, none⟩ := by
  unfold Addr.add
  by_cases h : j = 0
  · subst h; simp
  · simp [h]
/-- Join of texts of one's own -/
theorem JoinS (g c n : Nat) (ss : List ByteArray) (w : World) (hr : Rd w 1 (some ⟨g, 0, none⟩) n c (ss.map Value.string)) (hn : 0 < n) (h8 : ∀ s ∈ ss, s.size ≤ 1000) (hs : ss.length ≤ 4096) :
    Calls Tryz.prog 116 #[.slice (some ⟨g, 0, none⟩) n c, .string ⟨#[32]⟩] w fun x w' => x = .returned (.string (jnB ss)) ∧ Ext w w' := by
  have hl : ss.length = n := by have := hr.1; simpa using this
  obtain ⟨ad, e, hlt, hc⟩ := hr.2.2 hn
  injection e with e
  subst e
  have := Tryz.strings_Join g 0 c ss ⟨#[32]⟩ w (fun j x hx => by
    have := hc j (.string x) (by rw [List.getElem?_map, hx]; rfl)
    rwa [addr_at] at this) hlt (by omega) (by have := hr.2.1; omega) (by
    have := join_le 1000 (ss.map (·.data.toList)) (fun x hx => by
      obtain ⟨s, hs, rfl⟩ := List.mem_map.1 hx
      have := h8 s hs
      have e : s.data.toList.length = s.size := rfl
      omega)
    rw [List.length_map] at this
    show (Lib.join (ss.map (·.data.toList)) [32]).length ≤ _
    omega)
  rw [hl] at this
  exact this

set_option maxRecDepth 100000 in
set_option maxHeartbeats 2000000 in
theorem SSums_any (A : Option Addr) (n c : Nat) (xs : List Int) (k : Int) (w : World) (hr : Rd w 1 A n c (xs.map (Value.int .i64))) (hm : c ≤ maxLen) (hn : n ≤ 4096) (hv : allV xs = true) (hD : DebG w) :
    Calls Tryz.prog 86 #[.slice A n c, errR k] w fun e w' => e = .returned (.tuple #[.string (sumsV xs k), errR k]) ∧ Ext w w' := by
  obtain ⟨hE, hN, hG⟩ := errR_rules
  have hx := hr.lenI
  have hnc := hr.2.1
  have hcs : c ≤ 9223372036854775807 := by unfold maxLen at hm; omega
  by_cases hk : k = 0
  case neg =>
    have hok := isOk_no hk
    have HV : Hid (sumsV xs k = ⟨#[]⟩) := if_pos hk
    rw [HV.out]
    clear hk hr hx hv hD HV
    go_enter Tryz.func86, Tryz.ntmps86
    go_wp2_with fail
    go_ret2
    exact ⟨rfl, Ext.refl _⟩
  subst hk
  rw [errR_0]
  have HV : Hid (sumsV xs 0 = textsV xs) := if_neg (not_not_intro rfl)
  rw [HV.out]
  have HR := Lib.hid hr
  have HX := Lib.hid hx
  have HT : Hid (∀ z ∈ xs, ∀ W, Ext w W → Calls Tryz.prog 78 #[.int .i64 z] W fun e w' => e = .returned (.string (hexT z.toNat)) ∧ Ext W w') := Lib.hid fun z hz W e => by
    obtain ⟨j, hj⟩ := List.mem_iff_getElem?.1 hz
    exact MText_sum (allV_get hv hj) W (hD.ext e)
  obtain ⟨i0, hi0, hz0, hz1, hz2⟩ := info_parts info_strA
  clear hr hx hv hD HV
  go_enter Tryz.func86, Tryz.ntmps86
  go_wp2_with fail
  go_loopw [6, 14] (fun v x wr => ∃ j : Nat, x = .int .i64 j ∧ j ≤ n ∧ Ext w wr ∧ ∃ ss : List ByteArray, Hid (SlS w wr v ss) ∧ Hid (ss = (xs.take j).map fun z => hexT z.toNat)) (fun _ x _ => n - (intOf x).toNat)
  case atStart => exact ⟨0, rfl, Nat.zero_le _, Ext.refl _, [], ⟨own_nil _ _ _ _, .inl ⟨rfl, rfl⟩⟩, rfl⟩
  case round =>
    obtain ⟨j, rfl, hj, hbw, ss, HSL, HSS⟩ := hrel
    have hsl : ss.length = j := by rw [HSS.out, List.length_map, List.length_take, HX.out]; omega
    by_cases hc : j < n
    · have hcI : (j : Int) < (n : Int) := by omega
      have hgj := List.getElem?_eq_getElem (l := xs) (i := j) (by rw [HX.out]; exact hc)
      obtain ⟨ad, rfl, hb, c0⟩ := (HR.out.ext hbw).getI hgj
      have hmem := List.mem_of_getElem? hgj
      have HGJ := Lib.hid hgj
      generalize xs[j]'(by rw [HX.out]; exact hc) = z at *
      have HTZ := Lib.hid (HT.out z hmem)
      have HO := Lib.hid HSL.out.1
      clear hgj hmem HSL
      go_wp2_with fail
      refine (HTZ.out _ hbw).mono ?_
      rintro _ w2 ⟨rfl, hb2⟩
      have hs2 := hb2.size
      have hsw := hbw.size
      go_wp2_with (at_builtin; refine wpl_app (by rfl) _ _ _ (by rfl) w.heap.size 9 i0 _ 1 16 Tryz.underlying23 hi0 hz0 hz1 hz2 rfl (by omega) u6 _ _ (by rfl) ((own_ext HO.out hb2).alloc _) w2.heap.size 1 [.string (hexT z.toNat)] rfl (by rfl) (news_new w2 _ _ _ rfl) (oneSA _) (by omega) (by omega) (by simp; omega) ?_; intro g cap w3 own3 hext3)
      go_roundw
      case rel => exact ⟨j + 1, by go_num, by omega, hext3 _ (Nat.le_refl _) ((hbw.trans hb2).alloc _), ss ++ [hexT z.toNat], Lib.hid ⟨by
        have h2 := own3
        rw [hsl] at h2
        rw [List.length_append, List.map_append, hsl]; exact h2, .inr ⟨g, cap, by rw [List.length_append, hsl]; rfl⟩⟩, Lib.hid (by
        have e2 : xs.take (j + 1) = xs.take j ++ [z] := by
          obtain ⟨h1, h2⟩ := List.getElem?_eq_some_iff.1 HGJ.out
          rw [List.take_succ_eq_append_getElem h1, h2]
        show _ = _
        rw [e2, List.map_append, ← HSS.out]; rfl)⟩
      case measure => simp [intOf]; omega
    · obtain rfl : j = n := by omega
      have hss : ss = xs.map fun z => hexT z.toNat := by rw [HSS.out, List.take_of_length_le (by rw [HX.out]; exact Nat.le_refl _)]
      rcases HSL.out.2 with ⟨h1, rfl⟩ | ⟨g, cap, rfl⟩
      · subst h1
        obtain rfl : j = 0 := by simpa using hsl.symm
        have hxs : xs = [] := List.eq_nil_of_length_eq_zero HX.out
        have HVT : Hid (textsV xs = ⟨#[45]⟩) := if_pos hxs
        clear hss hxs hsl
        go_wp2_with fail
        go_ret2
        exact ⟨congrArg (fun t => Ending.returned (.tuple #[.string t, .nilIface])) HVT.out.symm, hbw⟩
      · have hO := HSL.out.1
        rw [hsl] at hO
        obtain ⟨A2, c2, e2, hc2, R2, _⟩ := own_rd hO
        injection e2 with e2 e3 e4
        subst e2 e4
        rw [hsl]
        by_cases hj0 : j = 0
        · subst hj0
          have hxs : xs = [] := List.eq_nil_of_length_eq_zero HX.out
          have HVT : Hid (textsV xs = ⟨#[45]⟩) := if_pos hxs
          clear hss hxs hsl R2 hO
          go_wp2_with fail
          go_ret2
          exact ⟨congrArg (fun t => Ending.returned (.tuple #[.string t, .nilIface])) HVT.out.symm, hbw⟩
        · have hxs : xs ≠ [] := fun e => by have := HX.out; rw [e] at this; exact hj0 this.symm
          have HVT : Hid (textsV xs = jnB ss) := by
            show textsV xs = jnB ss
            unfold textsV
            rw [if_neg hxs, hss]
          have HJ := Lib.hid (JoinS g cap j ss wr R2 (by omega) (fun s hs => by
            rw [hss] at hs
            obtain ⟨z, _, rfl⟩ := List.mem_map.1 hs
            rw [hexT_size]; omega) (by omega))
          have hjI : ¬ (j : Int) = 0 := by omega
          have hjB : ((j : Int) == 0) = false := beq_eq_false_iff_ne.2 hjI
          clear hss hxs hsl R2 hO HSL HSS
          go_wp2_with fail
          refine HJ.out.mono ?_
          rintro _ w3 ⟨rfl, hb3⟩
          go_wp2_with fail
          go_ret2
          exact ⟨congrArg (fun t => Ending.returned (.tuple #[.string t, .nilIface])) HVT.out.symm, hbw.trans hb3⟩
end Go.Proofs.YtnphbkjkeipmmaaGreatDoor
