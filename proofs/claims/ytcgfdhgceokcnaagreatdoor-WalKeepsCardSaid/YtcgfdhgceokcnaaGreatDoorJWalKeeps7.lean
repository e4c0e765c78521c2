import Derived.Test.YtcgfdhgceokcnaaGreatDoorJWalKeeps6
import Derived.Test.YtcgfdhgceokcnaaGreatDoorJWalKeeps4
namespace Go.Proofs.YtcgfdhgceokcnaaGreatDoor
open Go.RowKit Go.WideShapes
set_option linter.unusedVariables false
attribute [local go_sem ↓] Go.wp_at_zero Go.wp_at_succ

set_option maxRecDepth 100000 in
theorem Steps_ok (i n : Int) (w : World) (h0 : 0 ≤ i) (h1 : i < n) (h2 : n ≤ 200) :
    Calls Tryz.prog 82 #[.int .i64 i, .int .i64 n] w fun e w' => e = .returned (.tuple #[.int .i64 (stepsN i.toNat n.toNat : Nat), .nilIface]) ∧ Ext w w' := by
  obtain ⟨i, rfl⟩ := Int.eq_ofNat_of_zero_le h0
  obtain ⟨n, rfl⟩ := Int.eq_ofNat_of_zero_le (show 0 ≤ n by omega)
  simp only [Int.toNat_natCast]
  have f0 : decide ((i : Int) < 0) = false := by simp
  have f1 : decide (n ≤ i) = false := by simp; omega
  have f2 : decide (200 < (n : Int)) = false := by simp; omega
  go_enter Tryz.func82, Tryz.ntmps82
  go_wp2_with fail
  go_loop [0, 1, 6] (fun a b c => ∃ (i' n' t : Nat), a = .int .i64 i' ∧ b = .int .i64 n' ∧ c = .int .i64 t ∧ i' < n' ∧ n' ≤ 200 ∧ Hid (t + stepsN i' n' = stepsN i n) ∧ t ≤ 200 - n') (fun _ b _ => (intOf b).toNat)
  case atStart => exact ⟨i, n, 0, rfl, rfl, rfl, by omega, by omega, by show 0 + _ = _; omega, by omega⟩
  case round =>
    obtain ⟨i', n', t, rfl, rfl, rfl, hlt, hn, HS, ht⟩ := hrel
    by_cases h2 : 2 ≤ n'
    · have hk := half_lt h2 (by omega)
      have hk0 := half_pos n'
      have hk2 := half_le h2 (by omega)
      by_cases hi : i' < half n'
      · have hs := stepsN_left h2 (by omega) hi
        have HE := Lib.hid hs
        clear hs
        go_wp2_with fail
        refine (Half_any _ _ (by omega) (by omega)).mono ?_
        rintro e w' ⟨rfl, rfl⟩
        rw [Int.toNat_natCast]
        go_wp2_with fail
        go_round
        case rel => exact ⟨i', half n', t + 1, rfl, rfl, by go_num, hi, by omega, by have := HS.out; have := HE.out; show _ = _; omega, by omega⟩
        case measure => simp [intOf]; omega
      · have hs := stepsN_right h2 (by omega) (by omega)
        have HE := Lib.hid hs
        clear hs
        go_wp2_with fail
        refine (Half_any _ _ (by omega) (by omega)).mono ?_
        rintro e w' ⟨rfl, rfl⟩
        rw [Int.toNat_natCast]
        go_wp2_with fail
        go_round
        case rel => exact ⟨i' - half n', n' - half n', t + 1, by go_num, by go_num, by go_num, by omega, by omega, by have := HS.out; have := HE.out; show _ = _; omega, by omega⟩
        case measure => simp [intOf]; omega
    · have h1 : n' = 1 := by omega
      have hz := stepsN_one i' h2
      subst h1
      have HE := Lib.hid hz
      clear hz h2
      go_wp2_with fail
      go_ret2
      exact ⟨ret_two (by have := HS.out; have := HE.out; show Value.int _ _ = Value.int _ _; congr 1; omega) rfl, by (repeat (with_reducible first | exact Ext.refl _ | assumption | refine Ext.drew ?_ | refine Ext.drewN ?_ _ | refine Ext.alloc ?_ _ | refine Ext.trans ?_ (by with_reducible assumption)))⟩
theorem Steps_bad (i n : Int) (w : World) (h : ¬ (0 ≤ i ∧ i < n ∧ n ≤ 200)) :
    Calls Tryz.prog 82 #[.int .i64 i, .int .i64 n] w fun e w' => e = .returned (.tuple #[.int .i64 0, errV 1]) ∧ Ext w w' := by
  have h' : i < 0 ∨ (0 ≤ i ∧ n ≤ i) ∨ (0 ≤ i ∧ i < n ∧ 200 < n) := by omega
  clear h
  rcases h' with h | ⟨h, h'⟩ | ⟨h, h', h''⟩
  all_goals
    go_enter Tryz.func82, Tryz.ntmps82
    go_wp2_with fail
    go_ret2
    exact ⟨rfl, by (repeat (with_reducible first | exact Ext.refl _ | assumption | refine Ext.drew ?_ | refine Ext.drewN ?_ _ | refine Ext.alloc ?_ _ | refine Ext.trans ?_ (by with_reducible assumption)))⟩

/-! ### proof.of -/
theorem info_int : (Tryz.prog.info? 3).map (fun i => (i.zero, i.size, i.bytes)) = some (some (.int .i64 0), 1, 8) := by kernel_rfl
/-- a result: a list of sums in new memory -/
def OwnI (w w' : World) (v : Value) (ys : List Int) : Prop := w'.ownsRow w.heap.size 3 1 v ys.length (ys.map (Value.int .i64))
theorem OwnI.ext {w w' w2 : World} {v : Value} {ys : List Int} (h : OwnI w w' v ys) (e : Ext w' w2) : OwnI w w2 v ys := own_ext h e
theorem OwnI.rd {w w' : World} {v : Value} {ys : List Int} (h : OwnI w w' v ys) : ∃ A c, v = .slice A ys.length c ∧ c ≤ maxLen ∧ Rd w' 1 A ys.length c (ys.map (Value.int .i64)) := by
  obtain ⟨A, c, h1, h2, h3, _⟩ := own_rd h
  exact ⟨A, c, h1, h2, h3⟩
theorem OwnI.mk {w w' : World} {v : Value} {n : Nat} {cs : List Value} {ys : List Int} (h : w'.ownsRow w.heap.size 3 1 v n cs) (hn : n = ys.length) (hc : cs = ys.map (Value.int .i64)) : OwnI w w' v ys := by
  subst hn; subst hc; exact h
theorem oneI (z : Int) : ∀ u ∈ [Value.int .i64 z], u.oneCell' = true := by intro u hu; simp at hu; subst hu; rfl

set_option maxRecDepth 100000 in
set_option maxHeartbeats 2000000 in
theorem pof_any (N : Nat) : ∀ (A : Option Addr) (n c : Nat) (xs : List Int) (i : Int) (w : World), n ≤ N → Rd w 1 A n c (xs.map (Value.int .i64)) → c ≤ maxLen → 1 ≤ n → n ≤ 4096 → allV xs = true → 0 ≤ i → i < n →
    Calls Tryz.prog 81 #[.slice A n c, .int .i64 i] w fun e w' => (∃ v, e = .returned v ∧ OwnI w w' v (wayL xs i.toNat)) ∧ Ext w w' := by
  induction N with
  | zero => intro A n c xs i w hN hr hm h1; omega
  | succ N ih =>
    intro A n c xs i w hN hr hm h1 hn hv h0 hi
    obtain ⟨i, rfl⟩ := Int.eq_ofNat_of_zero_le h0
    simp only [Int.toNat_natCast]
    have hx := hr.lenI
    have IH := Lib.hid ih
    clear ih
    by_cases h2 : 2 ≤ n
    · have hl : n ≤ c := hr.2.1
      have hk := half_lt h2 hn
      have hk0 := half_pos n
      have hk' := half_le h2 hn
      have HX := Lib.hid hx
      unfold maxLen at hm
      have q0 : (0 : Int) ≤ (half n : Int) := by omega
      have q1 : (half n : Int) ≤ (n : Int) := by omega
      have q2 : (half n : Int) ≤ (c : Int) := by omega
      have q3 : (n : Int) ≤ (c : Int) := by omega
      have R1 := hr.takeI (k := half n) (by omega)
      have R2 := hr.dropI' (k := half n) (by omega)
      have R2i := hr.dropI (k := half n) (by omega)
      obtain ⟨i0, hi0, hz0, hz1, hz2⟩ := info_parts info_int
      by_cases hik : i < half n
      · have HW := Lib.hid (wayL_left (xs := xs) (i := i) (by omega) (by omega) (by rw [hx]; exact hik))
        have hlen := wayL_len n (xs.take (half n)) i (by rw [List.length_take]; omega) (by rw [List.length_take]; omega)
        rw [List.length_take, Nat.min_eq_left (by omega)] at hlen
        have hsl := stepsN_lt (half n) i (half n) (Nat.le_refl _) (by omega) hk0
        have HL : (wayL (xs.take (half n)) i).length ≤ 4096 := by omega
        clear hx hlen hsl
        go_enter Tryz.func81, Tryz.ntmps81
        go_wp2_with fail
        refine (Half_any _ _ (by omega) (by omega)).mono ?_
        rintro e w' ⟨rfl, rfl⟩
        rw [Int.toNat_natCast]
        go_wp2_with fail
        go_region_held3 (fun _ => True) (exact trivial) (first
          | (go_at_call 81; (with_reducible refine (IH.out A (half n) c (xs.take (half n)) i _ (by omega) (by exact R1.ext (by (repeat (with_reducible first | exact Ext.refl _ | assumption | refine Ext.drew ?_ | refine Ext.drewN ?_ _ | refine Ext.alloc ?_ _ | refine Ext.trans ?_ (by with_reducible assumption))))) (by simp only [maxLen]; omega) hk0 (by omega) (allV_take hv (half n)) (by omega) (by omega)).mono ?_); rintro e w1 ⟨⟨v1, rfl, own1⟩, hb1⟩; have hb1' : Ext w w1 := (by (repeat (with_reducible first | exact Ext.refl _ | assumption | refine Ext.drew ?_ | refine Ext.drewN ?_ _ | refine Ext.alloc ?_ _ | refine Ext.trans ?_ (by with_reducible assumption)))); have own1' : OwnI w w1 v1 (wayL (xs.take (half n)) i) := own1)
          | (go_at_call 84; (with_reducible refine (Of_any N _ _ _ (xs.drop (half n)) _ (by omega) (by first | exact R2.ext (by (repeat (with_reducible first | exact Ext.refl _ | assumption | refine Ext.drew ?_ | refine Ext.drewN ?_ _ | refine Ext.alloc ?_ _ | refine Ext.trans ?_ (by with_reducible assumption)))) | exact R2i.ext (by (repeat (with_reducible first | exact Ext.refl _ | assumption | refine Ext.drew ?_ | refine Ext.drewN ?_ _ | refine Ext.alloc ?_ _ | refine Ext.trans ?_ (by with_reducible assumption))))) (by simp only [maxLen]; omega) (by omega) (allV_drop hv (half n))).mono ?_); rintro e w2 ⟨rfl, hb2⟩)
          | (refine step_app (by rfl) _ _ _ (by rfl) w.heap.size 3 i0 _ 1 8 Tryz.underlying23 hi0 hz0 hz1 hz2 rfl (by omega) v1 _ _ (by rfl) ((own1'.ext hb2).alloc _) w2.heap.size 1 [.int .i64 (ofL (xs.drop (half n)))] rfl (by rfl) (news_new w2 _ _ _ rfl) (oneI _) (by omega) (by omega) (by have := hb1'.size; have := hb2.size; simp; omega) ?_; intro g cap w3 own3 hext3)
          | fail)
        go_wp2_with fail
        go_ret
        refine ⟨⟨_, rfl, OwnI.mk own3 (by rw [HW.out, HX.out]; simp) (by rw [HW.out, HX.out]; simp)⟩, hext3 _ (Nat.le_refl _) (by (repeat (with_reducible first | exact Ext.refl _ | assumption | refine Ext.drew ?_ | refine Ext.drewN ?_ _ | refine Ext.alloc ?_ _ | refine Ext.trans ?_ (by with_reducible assumption))))⟩
      · have HW := Lib.hid (wayL_right (xs := xs) (i := i) (by omega) (by omega) (by rw [hx]; exact hik))
        have hlen := wayL_len n (xs.drop (half n)) (i - half n) (by rw [List.length_drop]; omega) (by rw [List.length_drop]; omega)
        rw [List.length_drop, hx] at hlen
        have hsl := stepsN_lt (n - half n) (i - half n) (n - half n) (Nat.le_refl _) (by omega) (by omega)
        have HL : (wayL (xs.drop (half n)) (i - half n)).length ≤ 4096 := by omega
        have hti : ((i : Int) - (half n : Int)).toNat = i - half n := by omega
        have HT := Lib.hid hti
        clear hx hlen hsl hti
        go_enter Tryz.func81, Tryz.ntmps81
        go_wp2_with fail
        refine (Half_any _ _ (by omega) (by omega)).mono ?_
        rintro e w' ⟨rfl, rfl⟩
        rw [Int.toNat_natCast]
        have qi : (half n : Int) ≤ (i : Int) := by omega
        have e1 : IntKind.i64.wrap ((i : Int) - (half n : Int)) = (i : Int) - (half n : Int) := IntWalk.i64_in _ (by omega)
        go_wp2_with fail
        go_region_held3 (fun _ => True) (exact trivial) (first
          | (go_at_call 81; (with_reducible refine (IH.out _ (n - half n) _ (xs.drop (half n)) _ _ (by omega) (by first | exact R2.ext (by (repeat (with_reducible first | exact Ext.refl _ | assumption | refine Ext.drew ?_ | refine Ext.drewN ?_ _ | refine Ext.alloc ?_ _ | refine Ext.trans ?_ (by with_reducible assumption)))) | exact R2i.ext (by (repeat (with_reducible first | exact Ext.refl _ | assumption | refine Ext.drew ?_ | refine Ext.drewN ?_ _ | refine Ext.alloc ?_ _ | refine Ext.trans ?_ (by with_reducible assumption))))) (by simp only [maxLen]; omega) (by omega) (by omega) (allV_drop hv (half n)) (by omega) (by omega)).mono ?_); rintro e w1 ⟨⟨v1, rfl, own1⟩, hb1⟩; have hb1' : Ext w w1 := (by (repeat (with_reducible first | exact Ext.refl _ | assumption | refine Ext.drew ?_ | refine Ext.drewN ?_ _ | refine Ext.alloc ?_ _ | refine Ext.trans ?_ (by with_reducible assumption)))); rw [HT.out] at own1; have own1' : OwnI w w1 v1 (wayL (xs.drop (half n)) (i - half n)) := own1)
          | (go_at_call 84; (with_reducible refine (Of_any N _ _ _ (xs.take (half n)) _ (by omega) (by exact R1.ext (by (repeat (with_reducible first | exact Ext.refl _ | assumption | refine Ext.drew ?_ | refine Ext.drewN ?_ _ | refine Ext.alloc ?_ _ | refine Ext.trans ?_ (by with_reducible assumption))))) (by simp only [maxLen]; omega) (by omega) (allV_take hv (half n))).mono ?_); rintro e w2 ⟨rfl, hb2⟩)
          | (refine step_app (by rfl) _ _ _ (by rfl) w.heap.size 3 i0 _ 1 8 Tryz.underlying23 hi0 hz0 hz1 hz2 rfl (by omega) v1 _ _ (by rfl) ((own1'.ext hb2).alloc _) w2.heap.size 1 [.int .i64 (ofL (xs.take (half n)))] rfl (by rfl) (news_new w2 _ _ _ rfl) (oneI _) (by omega) (by omega) (by have := hb1'.size; have := hb2.size; simp; omega) ?_; intro g cap w3 own3 hext3)
          | fail)
        go_wp2_with fail
        go_ret
        refine ⟨⟨_, rfl, OwnI.mk own3 (by rw [HW.out, HX.out]; simp) (by rw [HW.out, HX.out]; simp)⟩, hext3 _ (Nat.le_refl _) (by (repeat (with_reducible first | exact Ext.refl _ | assumption | refine Ext.drew ?_ | refine Ext.drewN ?_ _ | refine Ext.alloc ?_ _ | refine Ext.trans ?_ (by with_reducible assumption))))⟩
    · obtain rfl : n = 1 := by omega
      have HW := Lib.hid (wayL_one (xs := xs) (i := i) (by omega))
      clear hx
      go_enter Tryz.func81, Tryz.ntmps81
      go_wp2_with fail
      go_ret
      exact ⟨⟨_, rfl, by rw [HW.out]; exact own_nil _ _ _ _⟩, by (repeat (with_reducible first | exact Ext.refl _ | assumption | refine Ext.drew ?_ | refine Ext.drewN ?_ _ | refine Ext.alloc ?_ _ | refine Ext.trans ?_ (by with_reducible assumption)))⟩

/-! ### proof.Make -/
set_option maxRecDepth 100000 in
theorem PMake_ok (A : Option Addr) (n c : Nat) (xs : List Int) (i m : Int) (w : World) (hr : Rd w 1 A n c (xs.map (Value.int .i64))) (hm : c ≤ maxLen) (hk : leafsOk xs) (h0 : 0 ≤ i) (h1 : i < m) (h2 : m ≤ n) :
    Calls Tryz.prog 46 #[.slice A n c, .int .i64 i, .int .i64 m] w fun e w' => (∃ v, e = .returned (.tuple #[v, .nilIface]) ∧ OwnI w w' v (wayL (xs.take m.toNat) i.toNat)) ∧ Ext w w' := by
  obtain ⟨m, rfl⟩ := Int.eq_ofNat_of_zero_le (show 0 ≤ m by omega)
  simp only [Int.toNat_natCast]
  have hx := hr.lenI
  have hn : n ≤ 200 := by have := hk.1; omega
  have hl := hr.2.1
  have q3 : (n : Int) ≤ (c : Int) := by omega
  have q4 : (m : Int) ≤ (c : Int) := by omega
  have q5 : (0 : Int) ≤ (m : Int) := by omega
  have R := hr.takeI (k := m) (by omega)
  have hva := allV_take hk.2 m
  have HX := Lib.hid hx
  clear hx
  go_enter Tryz.func46, Tryz.ntmps46
  go_wp2_with fail
  refine (TCheck_ok A n c xs _ hr hm hn hk.2).mono ?_
  rintro e w' ⟨rfl, rfl⟩
  go_wp2_with fail
  refine (pof_any m A m c (xs.take m) i _ (Nat.le_refl _) R hm (by omega) (by omega) hva h0 (by omega)).mono ?_
  rintro e w1 ⟨⟨v, rfl, hv⟩, hb1⟩
  go_wp2_with fail
  go_ret2
  exact ⟨⟨_, rfl, hv⟩, by (repeat (with_reducible first | exact Ext.refl _ | assumption | refine Ext.drew ?_ | refine Ext.drewN ?_ _ | refine Ext.alloc ?_ _ | refine Ext.trans ?_ (by with_reducible assumption)))⟩
set_option maxRecDepth 100000 in
theorem PMake_range (A : Option Addr) (n c : Nat) (xs : List Int) (i m : Int) (w : World) (hr : Rd w 1 A n c (xs.map (Value.int .i64))) (hm : c ≤ maxLen) (hk : leafsOk xs) (h : ¬ (0 ≤ i ∧ i < m ∧ m ≤ n)) :
    Calls Tryz.prog 46 #[.slice A n c, .int .i64 i, .int .i64 m] w fun e w' => e = .returned (.tuple #[.slice none 0 0, errV 1]) ∧ Ext w w' := by
  have hx := hr.lenI
  have hn : n ≤ 200 := by have := hk.1; omega
  have h' : i < 0 ∨ (0 ≤ i ∧ m ≤ i) ∨ (0 ≤ i ∧ i < m ∧ (n : Int) < m) := by omega
  have HX := Lib.hid hx
  clear hx h
  rcases h' with h1 | ⟨h1, h2⟩ | ⟨h1, h2, h3⟩
  all_goals
    go_enter Tryz.func46, Tryz.ntmps46
    go_wp2_with fail
    refine (TCheck_ok A n c xs _ hr hm hn hk.2).mono ?_
    rintro e w' ⟨rfl, rfl⟩
    go_wp2_with fail
    go_ret2
    exact ⟨rfl, by (repeat (with_reducible first | exact Ext.refl _ | assumption | refine Ext.drew ?_ | refine Ext.drewN ?_ _ | refine Ext.alloc ?_ _ | refine Ext.trans ?_ (by with_reducible assumption)))⟩
set_option maxRecDepth 100000 in
theorem PMake_bad (A : Option Addr) (n c : Nat) (xs : List Int) (i m : Int) (w : World) (hr : Rd w 1 A n c (xs.map (Value.int .i64))) (hm : c ≤ maxLen) (h : ¬ leafsOk xs) :
    Calls Tryz.prog 46 #[.slice A n c, .int .i64 i, .int .i64 m] w fun e w' => e = .returned (.tuple #[.slice none 0 0, errV (leafsErr xs)]) ∧ Ext w w' := by
  go_enter Tryz.func46, Tryz.ntmps46
  go_wp2_with fail
  refine (TCheck_bad A n c xs _ hr hm h).mono ?_
  rintro e w' ⟨rfl, rfl⟩
  simp only [errV]
  go_wp2_with fail
  go_ret2
  exact ⟨rfl, by (repeat (with_reducible first | exact Ext.refl _ | assumption | refine Ext.drew ?_ | refine Ext.drewN ?_ _ | refine Ext.alloc ?_ _ | refine Ext.trans ?_ (by with_reducible assumption)))⟩

/-! ### proof.root -/
theorem last_of {ps : List Int} {k : Nat} (h : ps.length = k + 1) : ps[k]? = some (ps.getLastD 0) := by
  have hne : ps ≠ [] := by intro e; subst e; simp at h
  rw [List.getLastD_eq_getLast?, List.getLast?_eq_getElem?, h]
  simp
  rw [List.getElem?_eq_getElem (by omega)]
  rfl
theorem init_of {ps : List Int} {k : Nat} (h : ps.length = k + 1) : ps.take k = ps.dropLast := by
  rw [List.dropLast_eq_take, h]; rfl

set_option maxRecDepth 100000 in
set_option maxHeartbeats 2000000 in
theorem proot_any (N : Nat) : ∀ (i n : Int) (s : Int) (A : Option Addr) (m c : Nat) (ps : List Int) (w : World), n ≤ N → 1 ≤ n → n ≤ 4096 → 0 ≤ i → i < n → m = stepsN i.toNat n.toNat → Rd w 1 A m c (ps.map (Value.int .i64)) → c ≤ maxLen → vld s = true → allV ps = true →
    Calls Tryz.prog 83 #[.int .i64 i, .int .i64 n, .int .i64 s, .slice A m c] w fun e w' => e = .returned (.int .i64 (upL i.toNat n.toNat s ps)) ∧ Ext w w' := by
  induction N with
  | zero => intro i n s A m c ps w hN h1; omega
  | succ N ih =>
    intro i n s A m c ps w hN h1 hn hi0 hi hms hr hm hs hv
    obtain ⟨i, rfl⟩ := Int.eq_ofNat_of_zero_le hi0
    obtain ⟨n, rfl⟩ := Int.eq_ofNat_of_zero_le (show 0 ≤ n by omega)
    simp only [Int.toNat_natCast] at hms ⊢
    have hx := hr.lenI
    have IH := Lib.hid ih
    clear ih
    by_cases h2 : 2 ≤ n
    · have hk := half_lt h2 (by omega)
      have hk0 := half_pos n
      have hk' := half_le h2 (by omega)
      have hl : m ≤ c := hr.2.1
      by_cases hik : i < half n
      · obtain ⟨k, hmk⟩ : ∃ k, m = k + 1 := ⟨stepsN i (half n), by rw [hms, stepsN_left h2 (by omega) hik]⟩
        have hks : k = stepsN (i : Int).toNat (half n : Int).toNat := by rw [Int.toNat_natCast, Int.toNat_natCast]; rw [stepsN_left h2 (by omega) hik] at hms; omega
        have hlast := last_of (hx.trans hmk)
        have hvl := (vld_true (allV_get hv hlast)).1
        have hU := upL_left (s := s) (p := ps) h2 (by omega) hik
        rw [← init_of (hx.trans hmk)] at hU
        have HU := Lib.hid hU
        obtain ⟨ad, hA, hb, hcell⟩ := hr.getI hlast
        have R := hr.takeI (k := k) (by omega)
        have vu := (vld_true (vld_upL (i := i) (n := half n) (p := ps.take k) hs (by omega))).1
        have hvt := allV_take hv k
        generalize ps.getLastD 0 = z at *
        have HKS := Lib.hid hks
        have ht1 : Hid ((i : Int).toNat = i) := Int.toNat_natCast i
        have ht2 : Hid ((half n : Int).toNat = half n) := Int.toNat_natCast _
        subst hA
        clear hx hms hlast hks hU
        unfold maxLen at hm
        have q0 : (0 : Int) ≤ (k : Int) := by omega
        have q1 : (k : Int) ≤ (c : Int) := by omega
        have q2 : (k : Int) < (m : Int) := by omega
        have q9 : Hid ((m : Int) - 1 = (k : Int)) := by show _ = _; omega
        have q8 : (1 : Int) ≤ (m : Int) := by omega
        have q7 : (m : Int) ≤ (c : Int) := by omega
        clear hmk
        go_enter Tryz.func83, Tryz.ntmps83
        go_wp2_with fail
        refine (Half_any _ _ (by omega) (by omega)).mono ?_
        rintro e w' ⟨rfl, rfl⟩
        rw [Int.toNat_natCast]
        go_wp2_with fail
        rw [q9.out]
        go_region_held3 (fun W => W.cell? (ad.add k) = some (.int .i64 z)) (first | exact hcell | exact (Ext.cell (a := w) (by (repeat (with_reducible first | exact Ext.refl _ | assumption | refine Ext.drew ?_ | refine Ext.drewN ?_ _ | refine Ext.alloc ?_ _ | refine Ext.trans ?_ (by with_reducible assumption)))) (by rw [blk_add]; exact hb)).trans hcell) (first
          | (go_at_call 83; (with_reducible refine (IH.out (i : Int) (half n : Int) s (some ad) k c (ps.take k) _ (by omega) (by omega) (by omega) (by omega) (by omega) HKS.out (by exact R.ext (by (repeat (with_reducible first | exact Ext.refl _ | assumption | refine Ext.drew ?_ | refine Ext.drewN ?_ _ | refine Ext.alloc ?_ _ | refine Ext.trans ?_ (by with_reducible assumption))))) (by simp only [maxLen]; omega) hs hvt).mono ?_); rw [ht1.out, ht2.out]; rintro e w1 ⟨rfl, hb1⟩)
          | (go_at_call 89; refine (NodeOf_any _ _ _ vu hvl).mono ?_; rintro e w3 ⟨rfl, hb3⟩)
          | fail)
        go_wp2_with fail
        go_ret
        exact ⟨ret_int HU.out.symm, by (repeat (with_reducible first | exact Ext.refl _ | assumption | refine Ext.drew ?_ | refine Ext.drewN ?_ _ | refine Ext.alloc ?_ _ | refine Ext.trans ?_ (by with_reducible assumption)))⟩
      · obtain ⟨k, hmk⟩ : ∃ k, m = k + 1 := ⟨stepsN (i - half n) (n - half n), by rw [hms, stepsN_right h2 (by omega) hik]⟩
        have ht1' : ((i : Int) - (half n : Int)).toNat = i - half n := by omega
        have ht2' : ((n : Int) - (half n : Int)).toNat = n - half n := by omega
        have hks : k = stepsN ((i : Int) - (half n : Int)).toNat ((n : Int) - (half n : Int)).toNat := by rw [ht1', ht2']; rw [stepsN_right h2 (by omega) hik] at hms; omega
        have hlast := last_of (hx.trans hmk)
        have hvl := (vld_true (allV_get hv hlast)).1
        have hU := upL_right (s := s) (p := ps) h2 (by omega) hik
        rw [← init_of (hx.trans hmk)] at hU
        have HU := Lib.hid hU
        obtain ⟨ad, hA, hb, hcell⟩ := hr.getI hlast
        have R := hr.takeI (k := k) (by omega)
        have vu := (vld_true (vld_upL (i := i - half n) (n := n - half n) (p := ps.take k) hs (by omega))).1
        have hvt := allV_take hv k
        generalize ps.getLastD 0 = z at *
        have HKS := Lib.hid hks
        have HT1 := Lib.hid ht1'
        have HT2 := Lib.hid ht2'
        subst hA
        clear hx hms hlast hks hU ht1' ht2'
        unfold maxLen at hm
        have q0 : (0 : Int) ≤ (k : Int) := by omega
        have q1 : (k : Int) ≤ (c : Int) := by omega
        have q2 : (k : Int) < (m : Int) := by omega
        have q9 : Hid ((m : Int) - 1 = (k : Int)) := by show _ = _; omega
        have q8 : (1 : Int) ≤ (m : Int) := by omega
        have q7 : (m : Int) ≤ (c : Int) := by omega
        clear hmk
        have q3 : (half n : Int) ≤ (i : Int) := by omega
        have e1 : IntKind.i64.wrap ((i : Int) - (half n : Int)) = (i : Int) - (half n : Int) := IntWalk.i64_in _ (by omega)
        have e2 : IntKind.i64.wrap ((n : Int) - (half n : Int)) = (n : Int) - (half n : Int) := IntWalk.i64_in _ (by omega)
        go_enter Tryz.func83, Tryz.ntmps83
        go_wp2_with fail
        refine (Half_any _ _ (by omega) (by omega)).mono ?_
        rintro e w' ⟨rfl, rfl⟩
        rw [Int.toNat_natCast]
        go_wp2_with fail
        rw [q9.out]
        go_region_held3 (fun W => W.cell? (ad.add k) = some (.int .i64 z)) (first | exact hcell | exact (Ext.cell (a := w) (by (repeat (with_reducible first | exact Ext.refl _ | assumption | refine Ext.drew ?_ | refine Ext.drewN ?_ _ | refine Ext.alloc ?_ _ | refine Ext.trans ?_ (by with_reducible assumption)))) (by rw [blk_add]; exact hb)).trans hcell) (first
          | (go_at_call 83; (with_reducible refine (IH.out _ _ s (some ad) k c (ps.take k) _ (by omega) (by omega) (by omega) (by omega) (by omega) HKS.out (by exact R.ext (by (repeat (with_reducible first | exact Ext.refl _ | assumption | refine Ext.drew ?_ | refine Ext.drewN ?_ _ | refine Ext.alloc ?_ _ | refine Ext.trans ?_ (by with_reducible assumption))))) (by simp only [maxLen]; omega) hs hvt).mono ?_); rw [HT1.out, HT2.out]; rintro e w1 ⟨rfl, hb1⟩)
          | (go_at_call 89; refine (NodeOf_any _ _ _ hvl vu).mono ?_; rintro e w3 ⟨rfl, hb3⟩)
          | fail)
        go_wp2_with fail
        go_ret
        exact ⟨ret_int HU.out.symm, by (repeat (with_reducible first | exact Ext.refl _ | assumption | refine Ext.drew ?_ | refine Ext.drewN ?_ _ | refine Ext.alloc ?_ _ | refine Ext.trans ?_ (by with_reducible assumption)))⟩
    · obtain rfl : n = 1 := by omega
      have HU := Lib.hid (upL_one (i := i) (n := 1) (s := s) (p := ps) (by omega))
      clear hx hms
      go_enter Tryz.func83, Tryz.ntmps83
      go_wp2_with fail
      go_ret
      exact ⟨ret_int HU.out.symm, by (repeat (with_reducible first | exact Ext.refl _ | assumption | refine Ext.drew ?_ | refine Ext.drewN ?_ _ | refine Ext.alloc ?_ _ | refine Ext.trans ?_ (by with_reducible assumption)))⟩
end Go.Proofs.YtcgfdhgceokcnaaGreatDoor

namespace Go.Proofs.YtcgfdhgceokcnaaGreatDoor
open Go.RowKit Go.WideShapes
set_option linter.unusedVariables false

set_option maxRecDepth 100000 in
set_option maxHeartbeats 1000000 in
theorem PCheck_any (want n i s : Int) (A : Option Addr) (m c : Nat) (ps : List Int) (w : World) (hr : Rd w 1 A m c (ps.map (Value.int .i64))) (hm : c ≤ maxLen) :
    Calls Tryz.prog 47 #[.int .i64 want, .int .i64 n, .int .i64 i, .int .i64 s, .slice A m c] w fun e w' => e = .returned (errR (pcheck want n i s ps)) ∧ Ext w w' := by
  have hx := hr.lenI
  have HX := Lib.hid hx
  clear hx
  have hml : m ≤ c := hr.2.1
  by_cases ha : 0 ≤ i ∧ i < n ∧ n ≤ 200
  · have hlt : stepsN i.toNat n.toNat < n.toNat := stepsN_lt n.toNat _ _ (Nat.le_refl _) (by omega) (by omega)
    have HA := Lib.hid ha
    obtain ⟨a0, a1, a2⟩ := ha
    by_cases hb : vld want = true ∧ vld s = true ∧ allV ps = true
    · have HB := Lib.hid hb
      obtain ⟨b0, b1, b2⟩ := hb
      by_cases hc : m = stepsN i.toNat n.toNat
      · have hbc : ((m : Int) != ((stepsN i.toNat n.toNat : Nat) : Int)) = false := by rw [← hc]; simp
        have HC := Lib.hid hc
        clear hc
        by_cases hd : upL i.toNat n.toNat s ps = want
        · have HR : Hid (errR (pcheck want n i s ps) = .nilIface) := by show _ = _; rw [pcheck_ok HA.out HB.out (HX.out.trans HC.out) hd]; rfl
          have hd' : (upL i.toNat n.toNat s ps != want) = false := by rw [hd]; simp
          have HD := Lib.hid hd
          clear hd
          go_enter Tryz.func47, Tryz.ntmps47
          go_wp2_with fail
          refine (Steps_ok i n _ a0 a1 a2).mono ?_
          rintro e w1 ⟨rfl, hb1⟩
          go_wp2_with (first | (go_at_call 56; refine (Valid_any _ _).mono ?_; rintro e w' ⟨rfl, rfl⟩) | (go_at_call 57; refine (Sums_any A m c ps _ (by exact hr.ext (by (repeat (with_reducible first | exact Ext.refl _ | assumption | refine Ext.drew ?_ | refine Ext.drewN ?_ _ | refine Ext.alloc ?_ _ | refine Ext.trans ?_ (by with_reducible assumption))))) hm).mono ?_; rintro e w' ⟨rfl, rfl⟩))
          refine (proot_any n.toNat i n s A m c ps _ (by omega) (by omega) (by omega) a0 a1 HC.out (by exact hr.ext (by (repeat (with_reducible first | exact Ext.refl _ | assumption | refine Ext.drew ?_ | refine Ext.drewN ?_ _ | refine Ext.alloc ?_ _ | refine Ext.trans ?_ (by with_reducible assumption))))) hm b1 b2).mono ?_
          rintro e w3 ⟨rfl, hb3⟩
          go_wp2_with fail
          go_ret
          exact ⟨by rw [HR.out]; rfl, by (repeat (with_reducible first | exact Ext.refl _ | assumption | refine Ext.drew ?_ | refine Ext.drewN ?_ _ | refine Ext.alloc ?_ _ | refine Ext.trans ?_ (by with_reducible assumption)))⟩
        · have HR : Hid (errR (pcheck want n i s ps) = errV 8) := by show _ = _; rw [pcheck_root HA.out HB.out (HX.out.trans HC.out) hd]; rfl
          have hd' : (upL i.toNat n.toNat s ps != want) = true := by simpa using hd
          clear hd
          go_enter Tryz.func47, Tryz.ntmps47
          go_wp2_with fail
          refine (Steps_ok i n _ a0 a1 a2).mono ?_
          rintro e w1 ⟨rfl, hb1⟩
          go_wp2_with (first | (go_at_call 56; refine (Valid_any _ _).mono ?_; rintro e w' ⟨rfl, rfl⟩) | (go_at_call 57; refine (Sums_any A m c ps _ (by exact hr.ext (by (repeat (with_reducible first | exact Ext.refl _ | assumption | refine Ext.drew ?_ | refine Ext.drewN ?_ _ | refine Ext.alloc ?_ _ | refine Ext.trans ?_ (by with_reducible assumption))))) hm).mono ?_; rintro e w' ⟨rfl, rfl⟩))
          refine (proot_any n.toNat i n s A m c ps _ (by omega) (by omega) (by omega) a0 a1 HC.out (by exact hr.ext (by (repeat (with_reducible first | exact Ext.refl _ | assumption | refine Ext.drew ?_ | refine Ext.drewN ?_ _ | refine Ext.alloc ?_ _ | refine Ext.trans ?_ (by with_reducible assumption))))) hm b1 b2).mono ?_
          rintro e w3 ⟨rfl, hb3⟩
          go_wp2_with fail
          go_ret
          exact ⟨by rw [HR.out]; rfl, by (repeat (with_reducible first | exact Ext.refl _ | assumption | refine Ext.drew ?_ | refine Ext.drewN ?_ _ | refine Ext.alloc ?_ _ | refine Ext.trans ?_ (by with_reducible assumption)))⟩
      · have hbc : ((m : Int) != ((stepsN i.toNat n.toNat : Nat) : Int)) = true := by simp; omega
        have HR : Hid (errR (pcheck want n i s ps) = errV 3) := by show _ = _; rw [pcheck_len HA.out HB.out (by rw [HX.out]; exact hc)]; rfl
        clear hc
        go_enter Tryz.func47, Tryz.ntmps47
        go_wp2_with fail
        refine (Steps_ok i n _ a0 a1 a2).mono ?_
        rintro e w1 ⟨rfl, hb1⟩
        go_wp2_with (first | (go_at_call 56; refine (Valid_any _ _).mono ?_; rintro e w' ⟨rfl, rfl⟩) | (go_at_call 57; refine (Sums_any A m c ps _ (by exact hr.ext (by (repeat (with_reducible first | exact Ext.refl _ | assumption | refine Ext.drew ?_ | refine Ext.drewN ?_ _ | refine Ext.alloc ?_ _ | refine Ext.trans ?_ (by with_reducible assumption))))) hm).mono ?_; rintro e w' ⟨rfl, rfl⟩))
        go_ret
        exact ⟨by rw [HR.out]; rfl, by (repeat (with_reducible first | exact Ext.refl _ | assumption | refine Ext.drew ?_ | refine Ext.drewN ?_ _ | refine Ext.alloc ?_ _ | refine Ext.trans ?_ (by with_reducible assumption)))⟩
    · have HR : Hid (errR (pcheck want n i s ps) = errV 1) := by show _ = _; rw [pcheck_vld HA.out hb]; rfl
      have hb' : vld want = false ∨ (vld want = true ∧ vld s = false) ∨ (vld want = true ∧ vld s = true ∧ allV ps = false) := by
        cases x1 : vld want
        · exact .inl rfl
        cases x2 : vld s
        · exact .inr (.inl ⟨rfl, rfl⟩)
        cases x3 : allV ps
        · exact .inr (.inr ⟨rfl, rfl, rfl⟩)
        exact absurd ⟨x1, x2, x3⟩ hb
      clear hb
      rcases hb' with b0 | ⟨b0, b1⟩ | ⟨b0, b1, b2⟩
      all_goals
        go_enter Tryz.func47, Tryz.ntmps47
        go_wp2_with fail
        refine (Steps_ok i n _ a0 a1 a2).mono ?_
        rintro e w1 ⟨rfl, hb1⟩
        go_wp2_with (first | (go_at_call 56; refine (Valid_any _ _).mono ?_; rintro e w' ⟨rfl, rfl⟩) | (go_at_call 57; refine (Sums_any A m c ps _ (by exact hr.ext (by (repeat (with_reducible first | exact Ext.refl _ | assumption | refine Ext.drew ?_ | refine Ext.drewN ?_ _ | refine Ext.alloc ?_ _ | refine Ext.trans ?_ (by with_reducible assumption))))) hm).mono ?_; rintro e w' ⟨rfl, rfl⟩))
        go_ret
        exact ⟨by rw [HR.out]; rfl, by (repeat (with_reducible first | exact Ext.refl _ | assumption | refine Ext.drew ?_ | refine Ext.drewN ?_ _ | refine Ext.alloc ?_ _ | refine Ext.trans ?_ (by with_reducible assumption)))⟩
  · have HR : Hid (errR (pcheck want n i s ps) = errV 1) := by show _ = _; rw [pcheck_range ha]; rfl
    have HA := Lib.hid ha
    clear ha
    go_enter Tryz.func47, Tryz.ntmps47
    go_wp2_with fail
    refine (Steps_bad i n _ HA.out).mono ?_
    rintro e w1 ⟨rfl, hb1⟩
    simp only [errV]
    go_wp2_with fail
    go_ret
    exact ⟨by rw [HR.out]; rfl, by (repeat (with_reducible first | exact Ext.refl _ | assumption | refine Ext.drew ?_ | refine Ext.drewN ?_ _ | refine Ext.alloc ?_ _ | refine Ext.trans ?_ (by with_reducible assumption)))⟩
end Go.Proofs.YtcgfdhgceokcnaaGreatDoor

namespace Go.Proofs.YtcgfdhgceokcnaaGreatDoor
open Go.RowKit Go.WideShapes
set_option linter.unusedVariables false

theorem half_done {n q : Nat} (h1 : 1 ≤ n) (hn : n ≤ 4096) (hq : ∃ j, q = 2 ^ j) (h : q < n ∨ q = 1) (h' : n ≤ 2 * q) : half n = q := by
  obtain ⟨j, rfl⟩ := hq
  by_cases h2 : 2 ≤ n
  · have : 2 ^ j < n := by
      rcases h with h | h
      · exact h
      · omega
    exact half_eq h2 hn this (by rw [Nat.pow_succ]; omega)
  · obtain rfl : n = 1 := by omega
    have e1 : half 1 = 1 := by decide
    rw [e1]
    rcases h with h | h
    · have := Nat.one_le_two_pow (n := j); omega
    · exact h.symm

end Go.Proofs.YtcgfdhgceokcnaaGreatDoor
