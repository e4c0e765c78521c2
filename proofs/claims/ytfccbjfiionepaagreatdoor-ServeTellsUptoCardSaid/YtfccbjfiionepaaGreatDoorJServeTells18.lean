/- The references' proofs: Way, Up. -/
import Derived.Test.YtfccbjfiionepaaGreatDoorJServeTells16
import Derived.Test.YtfccbjfiionepaaGreatDoorJServeTells17
import Derived.Test.YtfccbjfiionepaaGreatDoorJServeTells10
import Derived.Deep.RegionWith
namespace Go.Proofs.YtfccbjfiionepaaGreatDoor
open Go.RowKit Go.WideShapes
set_option linter.unusedVariables false
attribute [local go_sem ↓] Go.wp_at_zero Go.wp_at_succ

theorem OwnI.nil (w w' : World) : OwnI w w' (.slice .none 0 0) [] := own_nil _ _ _ _
theorem OwnI.lit (w : World) (z : Int) : OwnI w (w.alloc (.cells #[.int .i64 z] 3)) (.slice (some ⟨w.heap.size, 0, .none⟩) 1 1) [z] :=
  World.ownsRow_lit w #[.int .i64 z] 1 (Nat.le_refl _) (by simp [maxLen]) rfl
theorem OwnI.lower {w w1 w' : World} {v : Value} {ys : List Int} (h : OwnI w1 w' v ys) (e : w.heap.size ≤ w1.heap.size) : OwnI w w' v ys := own_lower h e

set_option maxRecDepth 100000 in
set_option maxHeartbeats 2000000 in
theorem RWay_any (N : Nat) : ∀ (A : Option Addr) (n c : Nat) (xs : List Int) (i : Nat) (w : World), n ≤ N → Rd w 1 A n c (xs.map (Value.int .i64)) → c ≤ maxLen → 1 ≤ n → n ≤ 4096 → allV xs = true → i < n →
    Calls Tryz.prog 72 #[.slice A n c, .int .i64 i] w fun e w' => (∃ v, e = .returned v ∧ OwnI w w' v (wayL xs i)) ∧ Ext w w' := by
  induction N with
  | zero => intro A n c xs i w hN hr hm h1; omega
  | succ N ih =>
    intro A n c xs i w hN hr hm h1 hn hv hi
    have hx := hr.lenI
    have IH := Lib.hid ih
    clear ih
    by_cases h2 : 2 ≤ n
    · have hl : n ≤ c := hr.2.1
      have hk := half_lt h2 hn
      have hk0 := half_pos n
      have hk' := half_le h2 hn
      have HX := Lib.hid hx
      unfold maxLen at hm
      have q0 : (0 : Int) ≤ (half n : Int) := by omega
      have q1 : (half n : Int) ≤ (n : Int) := by omega
      have q2 : (half n : Int) ≤ (c : Int) := by omega
      have q3 : (n : Int) ≤ (c : Int) := by omega
      have e1 : ((n : Int) == 1) = false := by simp; omega
      have R1 := hr.takeI (k := half n) (by omega)
      have R2 := hr.dropI' (k := half n) (by omega)
      obtain ⟨i0, hi0, hz0, hz1, hz2⟩ := info_parts info_int
      by_cases hik : i < half n
      · have HW := Lib.hid (wayL_left (xs := xs) (i := i) (by omega) (by omega) (by rw [hx]; exact hik))
        have hlen := wayL_len n (xs.take (half n)) i (by rw [List.length_take]; omega) (by rw [List.length_take]; omega)
        rw [List.length_take, Nat.min_eq_left (by omega)] at hlen
        have hsl := stepsN_lt (half n) i (half n) (Nat.le_refl _) (by omega) hk0
        have HL : (wayL (xs.take (half n)) i).length ≤ 4096 := by omega
        clear hx hlen hsl
        go_enter Tryz.func72, Tryz.ntmps72
        go_wp2_with fail
        refine (RHalf_any n _ (by omega) hn).mono ?_
        rintro e w' ⟨rfl, rfl⟩
        go_wp2_with fail
        refine (IH.out A (half n) c (xs.take (half n)) i _ (by omega) R1 (by simp only [maxLen]; omega) hk0 (by omega) (allV_take hv (half n)) hik).mono ?_
        rintro _ w1 ⟨⟨v1, rfl, own1⟩, hb1⟩
        have hs1 := hb1.size
        go_wp2_with fail
        refine (RRoot_any N _ _ _ (xs.drop (half n)) _ (by omega) (R2.ext hb1) (by simp only [maxLen]; omega) (by omega) (allV_drop hv (half n))).mono ?_
        rintro _ w2 ⟨rfl, hb2⟩
        have hs2 := hb2.size
        go_wp2_with (at_builtin; refine wpl_app (by rfl) _ _ _ (by rfl) w.heap.size 3 i0 _ 1 8 Tryz.underlying24 hi0 hz0 hz1 hz2 rfl (by omega) v1 _ _ (by rfl) ((own1.ext hb2).alloc _) w2.heap.size 1 [.int .i64 (ofL (xs.drop (half n)))] rfl (by rfl) (news_new w2 _ _ _ rfl) (oneI _) (by omega) (by omega) (by simp; omega) ?_; intro g cap w3 own3 hext3)
        go_ret
        exact ⟨⟨_, rfl, OwnI.mk own3 (by rw [HW.out, HX.out]; simp) (by rw [HW.out, HX.out]; simp)⟩, hext3 _ (Nat.le_refl _) (by (repeat (with_reducible first | exact Ext.refl _ | assumption | refine Ext.drew ?_ | refine Ext.drewN ?_ _ | refine Ext.alloc ?_ _ | refine Ext.trans ?_ (by with_reducible assumption))))⟩
      · have HW := Lib.hid (wayL_right (xs := xs) (i := i) (by omega) (by omega) (by rw [hx]; exact hik))
        have hlen := wayL_len n (xs.drop (half n)) (i - half n) (by rw [List.length_drop]; omega) (by rw [List.length_drop]; omega)
        rw [List.length_drop, hx] at hlen
        have hsl := stepsN_lt (n - half n) (i - half n) (n - half n) (Nat.le_refl _) (by omega) (by omega)
        have HL : (wayL (xs.drop (half n)) (i - half n)).length ≤ 4096 := by omega
        have HT : Hid ((i : Int) - (half n : Int) = ((i - half n : Nat) : Int)) := by show _ = _; omega
        have qi : (half n : Int) ≤ (i : Int) := by omega
        clear hx hlen hsl
        go_enter Tryz.func72, Tryz.ntmps72
        go_wp2_with fail
        refine (RHalf_any n _ (by omega) hn).mono ?_
        rintro e w' ⟨rfl, rfl⟩
        go_wp2_with fail
        rw [HT.out]
        refine (IH.out _ (n - half n) _ (xs.drop (half n)) (i - half n) _ (by omega) R2 (by simp only [maxLen]; omega) (by omega) (by omega) (allV_drop hv (half n)) (by omega)).mono ?_
        rintro _ w1 ⟨⟨v1, rfl, own1⟩, hb1⟩
        have hs1 := hb1.size
        go_wp2_with fail
        refine (RRoot_any N _ _ _ (xs.take (half n)) _ (by omega) (R1.ext hb1) (by simp only [maxLen]; omega) (by omega) (allV_take hv (half n))).mono ?_
        rintro _ w2 ⟨rfl, hb2⟩
        have hs2 := hb2.size
        go_wp2_with (at_builtin; refine wpl_app (by rfl) _ _ _ (by rfl) w.heap.size 3 i0 _ 1 8 Tryz.underlying24 hi0 hz0 hz1 hz2 rfl (by omega) v1 _ _ (by rfl) ((own1.ext hb2).alloc _) w2.heap.size 1 [.int .i64 (ofL (xs.take (half n)))] rfl (by rfl) (news_new w2 _ _ _ rfl) (oneI _) (by omega) (by omega) (by simp; omega) ?_; intro g cap w3 own3 hext3)
        go_ret
        exact ⟨⟨_, rfl, OwnI.mk own3 (by rw [HW.out, HX.out]; simp) (by rw [HW.out, HX.out]; simp)⟩, hext3 _ (Nat.le_refl _) (by (repeat (with_reducible first | exact Ext.refl _ | assumption | refine Ext.drew ?_ | refine Ext.drewN ?_ _ | refine Ext.alloc ?_ _ | refine Ext.trans ?_ (by with_reducible assumption))))⟩
    · obtain rfl : n = 1 := by omega
      have HW := Lib.hid (wayL_one (xs := xs) (i := i) (by omega))
      clear hx
      go_enter Tryz.func72, Tryz.ntmps72
      go_wp2_with fail
      go_ret
      exact ⟨⟨_, rfl, by rw [HW.out]; exact own_nil _ _ _ _⟩, by (repeat (with_reducible first | exact Ext.refl _ | assumption | refine Ext.drew ?_ | refine Ext.drewN ?_ _ | refine Ext.alloc ?_ _ | refine Ext.trans ?_ (by with_reducible assumption)))⟩

end Go.Proofs.YtfccbjfiionepaaGreatDoor

/- serve.sums, whole, Answer. -/
namespace Go.Proofs.YtfccbjfiionepaaGreatDoor
open Go.RowKit Go.WideShapes
set_option linter.unusedVariables false
attribute [local go_sem ↓] Go.wp_at_zero Go.wp_at_succ

theorem info_strA : (Tryz.prog.info? 9).map (fun i => (i.zero, i.size, i.bytes)) = some (some (.string ⟨#[]⟩), 1, 16) := by kernel_rfl
theorem oneSA (s : ByteArray) : ∀ u ∈ [Value.string s], u.oneCell' = true := by intro u hu; simp at hu; subst hu; rfl
/-- texts of one's own, in a row -/
def SlS (w w' : World) (v : Value) (ss : List ByteArray) : Prop := w'.ownsRow w.heap.size 9 1 v ss.length (ss.map Value.string) ∧ ((ss = [] ∧ v = .slice none 0 0) ∨ ∃ g cap, v = .slice (some ⟨g, 0, none⟩) ss.length cap)
theorem join_le (K : Nat) : ∀ l : List (List UInt8), (∀ x ∈ l, x.length ≤ K) → (Lib.join l [32]).length ≤ l.length * (K + 1)
  | [], _ => by simp [Lib.join, List.intercalate]
  | [a], h => by rw [Lib.join_one]; have := h a (by simp); simp; omega
  | a :: b :: l, h => by
    have e : Lib.join (a :: b :: l) [32] = a ++ ([32] ++ Lib.join (b :: l) [32]) := by simp [Lib.join, List.intercalate]
    have ih := join_le K (b :: l) (fun x hx => h x (by simp [hx]))
    have ha := h a (by simp)
    rw [e, List.length_append, List.length_append, List.length_cons (a := a)]
    rw [Nat.add_mul]
    have : ([32] : List UInt8).length = 1 := rfl
    omega
theorem addr_at (g j : Nat) : (⟨g, 0, none⟩ : Addr).add j = ⟨g, 0 + j, none⟩ := by
  unfold Addr.add
  by_cases h : j = 0
  · subst h; simp
  · simp [h]
/-- Join of texts of one's own -/
theorem JoinS (g c n : Nat) (ss : List ByteArray) (w : World) (hr : Rd w 1 (some ⟨g, 0, none⟩) n c (ss.map Value.string)) (hn : 0 < n) (h8 : ∀ s ∈ ss, s.size ≤ 1000) (hs : ss.length ≤ 4096) :
    Calls Tryz.prog 94 #[.slice (some ⟨g, 0, none⟩) n c, .string ⟨#[32]⟩] w fun x w' => x = .returned (.string (jnB ss)) ∧ Ext w w' := by
  have hl : ss.length = n := by have := hr.1; simpa using this
  obtain ⟨ad, e, hlt, hc⟩ := hr.2.2 hn
  injection e with e
  subst e
  have := Tryz.strings_Join g 0 c ss ⟨#[32]⟩ w (fun j x hx => by
    have := hc j (.string x) (by rw [List.getElem?_map, hx]; rfl)
    rwa [addr_at] at this) hlt (by omega) (by have := hr.2.1; omega) (by
    have := join_le 1000 (ss.map (·.data.toList)) (fun x hx => by
      obtain ⟨s, hs, rfl⟩ := List.mem_map.1 hx
      have := h8 s hs
      have e : s.data.toList.length = s.size := rfl
      omega)
    rw [List.length_map] at this
    show (Lib.join (ss.map (·.data.toList)) [32]).length ≤ _
    omega)
  rw [hl] at this
  exact this

set_option maxRecDepth 100000 in
set_option maxHeartbeats 2000000 in
theorem SSums_any (A : Option Addr) (n c : Nat) (xs : List Int) (k : Int) (w : World) (hr : Rd w 1 A n c (xs.map (Value.int .i64))) (hm : c ≤ maxLen) (hn : n ≤ 4096) (hv : allV xs = true) (hD : DebG w) :
    Calls Tryz.prog 58 #[.slice A n c, errR k] w fun e w' => e = .returned (.tuple #[.string (sumsV xs k), errR k]) ∧ Ext w w' := by
  obtain ⟨hE, hN, hG⟩ := errR_rules
  have hx := hr.lenI
  have hnc := hr.2.1
  have hcs : c ≤ 9223372036854775807 := by unfold maxLen at hm; omega
  by_cases hk : k = 0
  case neg =>
    have hok := isOk_no hk
    have HV : Hid (sumsV xs k = ⟨#[]⟩) := if_pos hk
    rw [HV.out]
    clear hk hr hx hv hD HV
    go_enter Tryz.func58, Tryz.ntmps58
    go_wp2_with fail
    go_ret2
    exact ⟨rfl, Ext.refl _⟩
  subst hk
  rw [errR_0]
  have HV : Hid (sumsV xs 0 = textsV xs) := if_neg (not_not_intro rfl)
  rw [HV.out]
  have HR := Lib.hid hr
  have HX := Lib.hid hx
  have HT : Hid (∀ z ∈ xs, ∀ W, Ext w W → Calls Tryz.prog 61 #[.int .i64 z] W fun e w' => e = .returned (.string (hexT z.toNat)) ∧ Ext W w') := Lib.hid fun z hz W e => by
    obtain ⟨j, hj⟩ := List.mem_iff_getElem?.1 hz
    exact MText_sum (allV_get hv hj) W (hD.ext e)
  obtain ⟨i0, hi0, hz0, hz1, hz2⟩ := info_parts info_strA
  clear hr hx hv hD HV
  go_enter Tryz.func58, Tryz.ntmps58
  go_wp2_with fail
  go_loopw [6, 14] (fun v x wr => ∃ j : Nat, x = .int .i64 j ∧ j ≤ n ∧ Ext w wr ∧ ∃ ss : List ByteArray, Hid (SlS w wr v ss) ∧ Hid (ss = (xs.take j).map fun z => hexT z.toNat)) (fun _ x _ => n - (intOf x).toNat)
  case atStart => exact ⟨0, rfl, Nat.zero_le _, Ext.refl _, [], ⟨own_nil _ _ _ _, .inl ⟨rfl, rfl⟩⟩, rfl⟩
  case round =>
    obtain ⟨j, rfl, hj, hbw, ss, HSL, HSS⟩ := hrel
    have hsl : ss.length = j := by rw [HSS.out, List.length_map, List.length_take, HX.out]; omega
    by_cases hc : j < n
    · have hcI : (j : Int) < (n : Int) := by omega
      have hgj := List.getElem?_eq_getElem (l := xs) (i := j) (by rw [HX.out]; exact hc)
      obtain ⟨ad, rfl, hb, c0⟩ := (HR.out.ext hbw).getI hgj
      have hmem := List.mem_of_getElem? hgj
      have HGJ := Lib.hid hgj
      generalize xs[j]'(by rw [HX.out]; exact hc) = z at *
      have HTZ := Lib.hid (HT.out z hmem)
      have HO := Lib.hid HSL.out.1
      clear hgj hmem HSL
      go_wp2_with fail
      refine (HTZ.out _ hbw).mono ?_
      rintro _ w2 ⟨rfl, hb2⟩
      have hs2 := hb2.size
      have hsw := hbw.size
      go_wp2_with (at_builtin; refine wpl_app (by rfl) _ _ _ (by rfl) w.heap.size 9 i0 _ 1 16 Tryz.underlying122 hi0 hz0 hz1 hz2 rfl (by omega) u6 _ _ (by rfl) ((own_ext HO.out hb2).alloc _) w2.heap.size 1 [.string (hexT z.toNat)] rfl (by rfl) (news_new w2 _ _ _ rfl) (oneSA _) (by omega) (by omega) (by simp; omega) ?_; intro g cap w3 own3 hext3)
      go_roundw
      case rel => exact ⟨j + 1, by go_num, by omega, hext3 _ (Nat.le_refl _) ((hbw.trans hb2).alloc _), ss ++ [hexT z.toNat], Lib.hid ⟨by
        have h2 := own3
        rw [hsl] at h2
        rw [List.length_append, List.map_append, hsl]; exact h2, .inr ⟨g, cap, by rw [List.length_append, hsl]; rfl⟩⟩, Lib.hid (by
        have e2 : xs.take (j + 1) = xs.take j ++ [z] := by
          obtain ⟨h1, h2⟩ := List.getElem?_eq_some_iff.1 HGJ.out
          rw [List.take_succ_eq_append_getElem h1, h2]
        show _ = _
        rw [e2, List.map_append, ← HSS.out]; rfl)⟩
      case measure => simp [intOf]; omega
    · obtain rfl : j = n := by omega
      have hss : ss = xs.map fun z => hexT z.toNat := by rw [HSS.out, List.take_of_length_le (by rw [HX.out]; exact Nat.le_refl _)]
      rcases HSL.out.2 with ⟨h1, rfl⟩ | ⟨g, cap, rfl⟩
      · subst h1
        obtain rfl : j = 0 := by simpa using hsl.symm
        have hxs : xs = [] := List.eq_nil_of_length_eq_zero HX.out
        have HVT : Hid (textsV xs = ⟨#[45]⟩) := if_pos hxs
        clear hss hxs hsl
        go_wp2_with fail
        go_ret2
        exact ⟨congrArg (fun t => Ending.returned (.tuple #[.string t, .nilIface])) HVT.out.symm, hbw⟩
      · have hO := HSL.out.1
        rw [hsl] at hO
        obtain ⟨A2, c2, e2, hc2, R2, _⟩ := own_rd hO
        injection e2 with e2 e3 e4
        subst e2 e4
        rw [hsl]
        by_cases hj0 : j = 0
        · subst hj0
          have hxs : xs = [] := List.eq_nil_of_length_eq_zero HX.out
          have HVT : Hid (textsV xs = ⟨#[45]⟩) := if_pos hxs
          clear hss hxs hsl R2 hO
          go_wp2_with fail
          go_ret2
          exact ⟨congrArg (fun t => Ending.returned (.tuple #[.string t, .nilIface])) HVT.out.symm, hbw⟩
        · have hxs : xs ≠ [] := fun e => by have := HX.out; rw [e] at this; exact hj0 this.symm
          have HVT : Hid (textsV xs = jnB ss) := by
            show textsV xs = jnB ss
            unfold textsV
            rw [if_neg hxs, hss]
          have HJ := Lib.hid (JoinS g cap j ss wr R2 (by omega) (fun s hs => by
            rw [hss] at hs
            obtain ⟨z, _, rfl⟩ := List.mem_map.1 hs
            rw [hexT_size]; omega) (by omega))
          have hjI : ¬ (j : Int) = 0 := by omega
          have hjB : ((j : Int) == 0) = false := beq_eq_false_iff_ne.2 hjI
          clear hss hxs hsl R2 hO HSL HSS
          go_wp2_with fail
          refine HJ.out.mono ?_
          rintro _ w3 ⟨rfl, hb3⟩
          go_wp2_with fail
          go_ret2
          exact ⟨congrArg (fun t => Ending.returned (.tuple #[.string t, .nilIface])) HVT.out.symm, hbw.trans hb3⟩
end Go.Proofs.YtfccbjfiionepaaGreatDoor

/- serve.whole, Answer. -/
namespace Go.Proofs.YtfccbjfiionepaaGreatDoor
open Go.RowKit Go.WideShapes
set_option linter.unusedVariables false
attribute [local go_sem ↓] Go.wp_at_zero Go.wp_at_succ

theorem find_at {α : Type} (p : α → Bool) : ∀ (l : List α) (j : Nat) (x : α), l[j]? = some x → (∀ i y, i < j → l[i]? = some y → p y = false) → p x = true → l.find? p = some x
  | [], j, x, h, _, _ => by simp at h
  | y :: l, 0, x, h, _, hp => by
    obtain rfl : y = x := by simpa using h
    rw [List.find?_cons, hp]
  | y :: l, j + 1, x, h, hn, hp => by
    have h0 := hn 0 y (by omega) rfl
    rw [List.find?_cons, h0]
    exact find_at p l j x (by simpa using h) (fun i z hi hz => hn (i + 1) z (by omega) (by simpa using hz)) hp
theorem find_no {α : Type} (p : α → Bool) (l : List α) (h : ∀ (i : Nat) y, i < l.length → l[i]? = some y → p y = false) : l.find? p = none := by
  rw [List.find?_eq_none]
  intro x hx
  obtain ⟨i, hi⟩ := List.getElem?_of_mem hx
  have := h i x (List.getElem?_eq_some_iff.1 hi).1 hi
  simp [this]
set_option maxRecDepth 100000 in
set_option maxHeartbeats 4000000 in
theorem Whole_any (A : Option Addr) (n c : Nat) (xs : List Int) (k i : Nat) (w : World) (hr : Rd w 1 A n c (xs.map (Value.int .i64))) (hm : c ≤ maxLen) (hk : leafsOk xs) :
    Calls Tryz.prog 60 #[.slice A n c, .int .i64 k, .int .i64 i] w fun e w' => (∃ v, e = .returned (.tuple #[v, errR (wholeK xs k i)]) ∧ OwnN w w' v (wholeV xs k i)) ∧ Ext w w' := by
  have hx := hr.lenI
  have hn : n ≤ 200 := by have := hk.1; omega
  have hnc := hr.2.1
  have hcs : c ≤ 9223372036854775807 := by unfold maxLen at hm; omega
  have HAL := Lib.hid (AllOf_any n w hn)
  have HTM : Hid (∀ t ∈ allT n 4, ∃ k i m : Nat, k < 4 ∧ t = ⟨(k : Int), (i : Int), (m : Int)⟩ ∧ 1 ≤ m ∧ m ≤ 4 ∧ i * 4 + m ≤ n / 4 ^ k) := Lib.hid (allT_mem n 4)
  have hlen := allT_len n hn 4
  obtain ⟨ts, hts⟩ : ∃ ts, allT n 4 = ts := ⟨_, rfl⟩
  have HSO : Hid (∀ k i m : Nat, k ≤ 3 → m ≤ 4 → i * 4 + m ≤ n / 4 ^ k → ∀ W, Ext w W → Calls Tryz.prog 45 #[.slice A n c, .agg #[.int .i64 k, .int .i64 i, .int .i64 m]] W fun e w' => (∃ v, e = .returned v ∧ OwnN W w' v (sumsT xs k i m)) ∧ Ext W w') := Lib.hid fun k i m h1 h2 h3 W e => SumsOf_any A n c xs k i m W (hr.ext e) hm hk h1 h2 h3
  have HV1 : Hid (∀ t : Tl, ts.find? (fun t => decide (t.level = (k : Int) ∧ t.index = (i : Int))) = some t → wholeV xs k i = sumsT xs t.level.toNat t.index.toNat t.wide.toNat ∧ wholeK xs k i = 0) := Lib.hid fun t h => by
    unfold wholeV wholeK wholeT
    rw [hx, hts, h]
    exact ⟨rfl, rfl⟩
  have HV0 : Hid (ts.find? (fun t => decide (t.level = (k : Int) ∧ t.index = (i : Int))) = none → wholeV xs k i = [] ∧ wholeK xs k i = 5) := Lib.hid fun h => by
    unfold wholeV wholeK wholeT
    rw [hx, hts, h]
    exact ⟨rfl, rfl⟩
  rw [hts] at HAL HTM hlen
  obtain ⟨wv, hwv⟩ : ∃ v, wholeV xs k i = v := ⟨_, rfl⟩
  obtain ⟨wk, hwk⟩ : ∃ v, wholeK xs k i = v := ⟨_, rfl⟩
  rw [hwv, hwk] at HV0 HV1
  rw [hwv, hwk]
  clear hr hk hts hwv hwk
  go_enter Tryz.func60, Tryz.ntmps60
  go_wp2_with fail
  refine HAL.out.mono ?_
  rintro _ w1 ⟨⟨v1, rfl, own1⟩, hb1⟩
  obtain ⟨A1, c1, rfl, hc1, R1, -⟩ := own_rd own1
  obtain ⟨l, hl⟩ : ∃ l, ts.length = l := ⟨_, rfl⟩
  rw [hl] at R1
  rw [hl]
  have HL := Lib.hid hl
  have HR1 := Lib.hid R1
  have HE1 := Lib.hid hb1
  have hl2000 : l ≤ 2000 := by omega
  have hlc := R1.2.1
  have hc1s : c1 ≤ 9223372036854775807 := by unfold maxLen at hc1; omega
  clear own1 R1 hb1 hl HAL hlen
  go_wp2_with fail
  go_loopw [14] (fun x wr => ∃ j : Nat, x = .int .i64 j ∧ j ≤ l ∧ Hid (Ext w wr) ∧ Hid (Ext w1 wr) ∧ Hid (∀ (q : Nat) y, q < j → ts[q]? = some y → decide (y.level = (k : Int) ∧ y.index = (i : Int)) = false)) (fun x _ => l - (intOf x).toNat)
  case atStart => exact ⟨0, rfl, Nat.zero_le _, HE1, Ext.refl _, Lib.hid fun q y h => absurd h (by omega)⟩
  case round =>
    obtain ⟨j, rfl, hj, HEr, HE1r, HNO⟩ := hrel
    by_cases hc : j < l
    case neg =>
      obtain rfl : j = l := by omega
      obtain ⟨q1, q2⟩ := HV0.out (find_no _ _ fun q y hq hy => HNO.out q y (by rw [← HL.out]; exact hq) hy)
      subst q1 q2
      go_wp2_with fail
      go_ret2
      exact ⟨⟨_, rfl, OwnN.nil _ _⟩, HEr.out⟩
    have hcI : (j : Int) < (l : Int) := by omega
    have hgj := List.getElem?_eq_getElem (l := ts) (i := j) (by rw [HL.out]; exact hc)
    have hmem := HTM.out _ (List.mem_of_getElem? hgj)
    obtain ⟨ad, hA, hb, c0, c1', c2⟩ := (HR1.out.ext HE1r.out).getT hgj
    generalize ts[j]'(by rw [HL.out]; exact hc) = t at *
    obtain ⟨tk, ti, tm, ht1, rfl, ht2, ht3, ht4⟩ := hmem
    subst hA
    have HGJ := Lib.hid hgj
    have HT4 := Lib.hid ht4
    dsimp only at c0 c1' c2
    clear hgj ht4
    have B9 := Bk.at_ wr 36 #[.int .i64 tk, .int .i64 ti, .int .i64 tm] wr.heap.size rfl
    have e9 : Ext wr (wr.alloc (.cells #[.int .i64 tk, .int .i64 ti, .int .i64 tm] 36)) := (Ext.refl _).alloc _
    go_upto_region 4 with (fail)
    generalize wr.alloc (.cells #[.int .i64 tk, .int .i64 ti, .int .i64 tm] 36) = W9 at *
    generalize wr.heap.size = g9 at *
    have y0 := B9.cell 0
    have y1 := B9.cell 1
    have y2 := B9.cell 2
    have HE9 := Lib.hid (HEr.out.trans e9)
    have HE19 := Lib.hid (HE1r.out.trans e9)
    clear B9 e9 c0 c1' c2
    by_cases hk2 : tk = k
    case neg =>
      have hb' : ((tk : Int) == (k : Int)) = false := beq_eq_false_iff_ne.2 (by omega)
      go_wp2_with fail
      go_roundw
      case rel => exact ⟨j + 1, by go_num, by omega, HE9, HE19, Lib.hid fun q y hq hy => by
        by_cases hqj : q = j
        · subst hqj
          rw [HGJ.out] at hy
          injection hy with hy
          subst hy
          exact decide_eq_false fun h => hk2 (by have h1 : (tk : Int) = (k : Int) := h.1; omega)
        · exact HNO.out q y (by omega) hy⟩
      case measure => simp [intOf]; omega
    subst hk2
    by_cases hi2 : ti = i
    case neg =>
      have hb' : ((ti : Int) == (i : Int)) = false := beq_eq_false_iff_ne.2 (by omega)
      go_wp2_with fail
      go_roundw
      case rel => exact ⟨j + 1, by go_num, by omega, HE9, HE19, Lib.hid fun q y hq hy => by
        by_cases hqj : q = j
        · subst hqj
          rw [HGJ.out] at hy
          injection hy with hy
          subst hy
          exact decide_eq_false fun h => hi2 (by have h1 : (ti : Int) = (i : Int) := h.2; omega)
        · exact HNO.out q y (by omega) hy⟩
      case measure => simp [intOf]; omega
    subst hi2
    have hf := HV1.out _ (find_at _ _ j _ HGJ.out (fun q y hq hy => HNO.out q y hq hy) (decide_eq_true ⟨rfl, rfl⟩))
    obtain ⟨q1, q2⟩ := hf
    dsimp only at q1
    rw [Int.toNat_natCast, Int.toNat_natCast, Int.toNat_natCast] at q1
    subst q2
    have HQ := Lib.hid q1
    clear q1
    go_wp2_with fail
    refine (HSO.out tk ti tm (by omega) ht3 HT4.out _ HE9.out).mono ?_
    rintro _ w4 ⟨⟨v4, rfl, own4⟩, hb4⟩
    have HS := Lib.hid HE9.out.size
    have HO4 := Lib.hid own4
    clear own4
    go_wp2_with fail
    go_ret2
    exact ⟨⟨_, rfl, by rw [HQ.out]; exact HO4.out.lower HS.out⟩, HE9.out.trans hb4⟩
end Go.Proofs.YtfccbjfiionepaaGreatDoor
