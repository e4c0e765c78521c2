/- Contracts for every input: the fault by its number. -/
import Derived.Test.YtcgfdhgceokcnaaGreatDoorJTopKept7
import Derived.Test.YtcgfdhgceokcnaaGreatDoorJTopKept24
import Derived.Test.YtcgfdhgceokcnaaGreatDoorJTopKept0
import Derived.Deep.DeepCutAuto
namespace Go.Proofs.YtcgfdhgceokcnaaGreatDoor
open Go.RowKit Go.WideShapes
set_option linter.unusedVariables false

/-- what is wrong with leafs -/
def leafsK (xs : List Int) : Int := if 200 < xs.length then 4 else if allV xs = true then 0 else 1
theorem leafsK_ok {xs : List Int} (h : leafsOk xs) : leafsK xs = 0 := by unfold leafsK; rw [if_neg (by have := h.1; omega), if_pos h.2]
theorem leafsK_bad {xs : List Int} (h : ¬ leafsOk xs) : leafsK xs ≠ 0 := by
  unfold leafsK
  by_cases h2 : 200 < xs.length
  · rw [if_pos h2]; decide
  · rw [if_neg h2]
    cases hv : allV xs
    · rw [if_neg (by decide)]; decide
    · exact absurd ⟨by omega, hv⟩ h
theorem leafsK_zero {xs : List Int} (h : leafsK xs = 0) : leafsOk xs := by
  by_cases hk : leafsOk xs
  · exact hk
  · exact absurd h (leafsK_bad hk)
theorem leafsK_err {xs : List Int} (h : ¬ leafsOk xs) : leafsK xs = leafsErr xs := by
  unfold leafsK leafsErr
  by_cases h2 : 200 < xs.length
  · rw [if_pos h2, if_pos h2]
  · rw [if_neg h2, if_neg h2]
    cases hv : allV xs
    · rw [if_neg (by decide)]
    · exact absurd ⟨by omega, hv⟩ h
theorem TCheck_any (A : Option Addr) (n c : Nat) (xs : List Int) (w : World) (hr : Rd w 1 A n c (xs.map (Value.int .i64))) (hm : c ≤ maxLen) :
    Calls Tryz.prog 54 #[.slice A n c] w fun e w' => e = .returned (errR (leafsK xs)) ∧ w = w' := by
  have hx := hr.lenI
  by_cases hk : leafsOk xs
  · refine (TCheck_ok A n c xs w hr hm (by have := hk.1; omega) hk.2).mono fun e w' hh => ⟨hh.1.trans ?_, hh.2⟩
    rw [leafsK_ok hk]; rfl
  · refine (TCheck_bad A n c xs w hr hm hk).mono fun e w' hh => ⟨hh.1.trans ?_, hh.2⟩
    rw [← leafsK_err hk, errR_ne (leafsK_bad hk)]

/-- proof.Make: the fault, the proof -/
def pmK (xs : List Int) (i m : Int) : Int := if leafsK xs ≠ 0 then leafsK xs else if 0 ≤ i ∧ i < m ∧ m ≤ xs.length then 0 else 1
def pmV (xs : List Int) (i m : Int) : List Int := if pmK xs i m = 0 then wayL (xs.take m.toNat) i.toNat else []
theorem pmK_ok {xs : List Int} {i m : Int} (h : leafsOk xs) (h2 : 0 ≤ i ∧ i < m ∧ m ≤ xs.length) : pmK xs i m = 0 := by unfold pmK; rw [leafsK_ok h, if_neg (by decide), if_pos h2]
theorem pmK_range {xs : List Int} {i m : Int} (h : leafsOk xs) (h2 : ¬ (0 ≤ i ∧ i < m ∧ m ≤ xs.length)) : pmK xs i m = 1 := by unfold pmK; rw [leafsK_ok h, if_neg (by decide), if_neg h2]
theorem pmK_bad {xs : List Int} {i m : Int} (h : leafsK xs ≠ 0) : pmK xs i m = leafsK xs := by unfold pmK; rw [if_pos h]
theorem pmK_zero {xs : List Int} {i m : Int} (h : pmK xs i m = 0) : leafsOk xs ∧ 0 ≤ i ∧ i < m ∧ m ≤ xs.length := by
  by_cases hk : leafsOk xs
  · by_cases h2 : 0 ≤ i ∧ i < m ∧ m ≤ xs.length
    · exact ⟨hk, h2⟩
    · rw [pmK_range hk h2] at h; cases h
  · rw [pmK_bad (leafsK_bad hk)] at h; exact absurd h (leafsK_bad hk)
theorem PMake_any (A : Option Addr) (n c : Nat) (xs : List Int) (i m : Int) (w : World) (hr : Rd w 1 A n c (xs.map (Value.int .i64))) (hm : c ≤ maxLen) :
    Calls Tryz.prog 46 #[.slice A n c, .int .i64 i, .int .i64 m] w fun e w' => (∃ v, e = .returned (.tuple #[v, errR (pmK xs i m)]) ∧ OwnI w w' v (pmV xs i m)) ∧ Ext w w' := by
  have hx := hr.lenI
  by_cases hk : leafsOk xs
  · by_cases h : 0 ≤ i ∧ i < m ∧ m ≤ xs.length
    · refine (PMake_ok A n c xs i m w hr hm hk h.1 h.2.1 (by omega)).mono fun e w' hh => ?_
      obtain ⟨⟨v, h1, h2⟩, h3⟩ := hh
      refine ⟨⟨v, ?_, ?_⟩, h3⟩
      · rw [pmK_ok hk h]; exact h1
      · unfold pmV; rw [if_pos (pmK_ok hk h)]; exact h2
    · refine (PMake_range A n c xs i m w hr hm hk (by rw [← hx]; exact h)).mono fun e w' hh => ?_
      refine ⟨⟨.slice none 0 0, ?_, ?_⟩, hh.2⟩
      · rw [pmK_range hk h]; exact hh.1
      · unfold pmV; rw [if_neg (by rw [pmK_range hk h]; decide)]; exact own_nil _ _ _ _
  · refine (PMake_bad A n c xs i m w hr hm hk).mono fun e w' hh => ?_
    refine ⟨⟨.slice none 0 0, ?_, ?_⟩, hh.2⟩
    · rw [pmK_bad (leafsK_bad hk), errR_ne (leafsK_bad hk), leafsK_err hk]; exact hh.1
    · unfold pmV; rw [if_neg (by rw [pmK_bad (leafsK_bad hk)]; exact leafsK_bad hk)]; exact own_nil _ _ _ _

/-- proof.Steps -/
def stepsK (i m : Int) : Int := if 0 ≤ i ∧ i < m ∧ m ≤ 200 then 0 else 1
def stepsV (i m : Int) : Int := if 0 ≤ i ∧ i < m ∧ m ≤ 200 then (stepsN i.toNat m.toNat : Nat) else 0
theorem Steps_any (i m : Int) (w : World) : Calls Tryz.prog 82 #[.int .i64 i, .int .i64 m] w fun e w' => e = .returned (.tuple #[.int .i64 (stepsV i m), errR (stepsK i m)]) ∧ Ext w w' := by
  by_cases h : 0 ≤ i ∧ i < m ∧ m ≤ 200
  · refine (Steps_ok i m w h.1 h.2.1 h.2.2).mono fun e w' hh => ⟨hh.1.trans ?_, hh.2⟩
    unfold stepsV stepsK; rw [if_pos h, if_pos h]; rfl
  · refine (Steps_bad i m w h).mono fun e w' hh => ⟨hh.1.trans ?_, hh.2⟩
    unfold stepsV stepsK; rw [if_neg h, if_neg h]; rfl
end Go.Proofs.YtcgfdhgceokcnaaGreatDoor

/- wittop.one. -/
namespace Go.Proofs.YtcgfdhgceokcnaaGreatDoor
open Go.RowKit Go.WideShapes
set_option linter.unusedVariables false
attribute [local go_sem ↓] Go.wp_at_zero Go.wp_at_succ

/-! ### the closed fact -/
theorem half2 : half 2 = 1 := by decide
theorem one_way : wayL [5, 6] 1 = [5] := by
  rw [wayL, dif_pos (by rw [show ([5, 6] : List Int).length = 2 from rfl, half2]; decide)]
  show (if 1 < half 2 then _ else wayL (List.drop (half 2) [5, 6]) (1 - half 2) ++ [ofL (List.take (half 2) [5, 6])]) = _
  rw [half2, if_neg (by decide)]
  show wayL [6] 0 ++ [ofL [5]] = [5]
  rw [ofL_one, wayL, dif_neg (by decide)]
  rfl
theorem one_leafs : leafsOk [5, 6] := ⟨by decide, by decide⟩
theorem one_pm : pmK [5, 6] 1 2 = 0 ∧ pmV [5, 6] 1 2 = [5] := by
  have h := pmK_ok (i := 1) (m := 2) one_leafs ⟨by decide, by decide, by decide⟩
  exact ⟨h, by unfold pmV; rw [if_pos h]; exact one_way⟩
theorem one_steps : stepsN 1 2 = 1 := by
  rw [stepsN, dif_pos (by rw [half2]; decide), half2, if_neg (by decide)]
  show stepsN 0 1 + 1 = 1
  rw [stepsN, dif_neg (by decide)]
theorem one_check : pcheck (nodeL 5 6) 2 1 6 [5] = 0 := by
  refine pcheck_ok ⟨by decide, by decide, by decide⟩ ⟨vld_node 5 6, by decide, by decide⟩ (by show 1 = stepsN 1 2; rw [one_steps]) ?_
  show upL 1 2 6 [5] = nodeL 5 6
  rw [upL, dif_pos (by rw [half2]; decide), half2, if_neg (by decide)]
  show nodeL ([5].getLastD 0) (upL 0 1 6 ([5] : List Int).dropLast) = nodeL 5 6
  rw [upL, dif_neg (by decide)]
  rfl
theorem two_rd (w : World) : Rd (w.alloc (.cells #[.int .i64 5, .int .i64 6] 3)) 1 (some ⟨w.heap.size, 0, none⟩) 2 2 (([5, 6] : List Int).map (Value.int .i64)) :=
  ⟨rfl, Nat.le_refl _, fun _ => ⟨_, rfl, by simp, news_new w 3 _ _ rfl⟩⟩
set_option maxRecDepth 100000 in
set_option maxHeartbeats 1000000 in
theorem one_any (w : World) : Calls Tryz.prog 23 #[] w fun e w' => e = .returned (.bool true) ∧ Ext w w' := by
  have HPM : Hid (∀ W, Calls Tryz.prog 46 #[.slice (some ⟨W.heap.size, 0, none⟩) 2 2, .int .i64 1, .int .i64 2] (W.alloc (.cells #[.int .i64 5, .int .i64 6] 3)) fun e w' => (∃ A c, e = .returned (.tuple #[.slice (some A) 1 c, .nilIface]) ∧ c ≤ maxLen ∧ Rd w' 1 (some A) 1 c ([5].map (Value.int .i64)) ∧ w'.cell? (A.add 0) = some (.int .i64 5)) ∧ Ext W w') := Lib.hid fun W => by
    have h := PMake_any (some ⟨W.heap.size, 0, none⟩) 2 2 [5, 6] 1 2 (W.alloc (.cells #[.int .i64 5, .int .i64 6] 3)) (two_rd W) (by simp [maxLen])
    rw [one_pm.1, one_pm.2] at h
    refine h.mono fun e w' hh => ?_
    obtain ⟨⟨v, h1, h2⟩, h3⟩ := hh
    obtain ⟨A, c, hv, hc, hr⟩ := h2.rd
    obtain ⟨ad, hA, _, hcell⟩ := hr.getI (j := 0) (z := 5) rfl
    subst hA
    subst hv
    exact ⟨⟨ad, c, h1, hc, hr, hcell⟩, ((Ext.refl W).alloc _).trans h3⟩
  have HPC : Hid (∀ W A c, Rd W 1 (some A) 1 c ([5].map (Value.int .i64)) → c ≤ maxLen → Calls Tryz.prog 47 #[.int .i64 (nodeL 5 6), .int .i64 2, .int .i64 1, .int .i64 6, .slice (some A) 1 c] W fun e w' => e = .returned .nilIface ∧ Ext W w') := Lib.hid fun W A c hr hc => by
    have h := PCheck_any (nodeL 5 6) 2 1 6 (some A) 1 c [5] W hr hc
    rw [one_check] at h
    exact h
  have HN := Lib.hid fun W => Node_ok 5 6 W (by decide) (by decide)
  obtain ⟨nd, hnd⟩ : ∃ x, nodeL 5 6 = x := ⟨_, rfl⟩
  rw [hnd] at HPC HN
  clear hnd
  go_enter Tryz.func23, Tryz.ntmps23
  go_wp2_with fail
  refine (HN.out _).mono ?_
  rintro _ w1 ⟨rfl, hb1⟩
  go_wp2_with fail
  refine (HPM.out w1).mono ?_
  rintro _ w2 ⟨⟨A, c, rfl, hc, hr, hcell⟩, hb2⟩
  have HR := Lib.hid hr
  have hcl : w2.cell? A = some (.int .i64 5) := by rw [add_zero'] at hcell; exact hcell
  have h1c : 1 ≤ c := hr.2.1
  clear hr
  go_wp2_with fail
  refine (HPC.out _ A c HR.out hc).mono ?_
  rintro _ w3 ⟨rfl, hb3⟩
  go_wp2_with fail
  go_ret
  exact ⟨rfl, (hb1.trans hb2).trans hb3⟩
end Go.Proofs.YtcgfdhgceokcnaaGreatDoor

/- Proofs that a tree has but grown: plain. -/
namespace Go.Proofs.YtcgfdhgceokcnaaGreatDoor
set_option linter.unusedVariables false

def gsteps (o n : Nat) (b : Bool) : Nat :=
  if o = n then (if b = true then 0 else 1)
  else if h : 2 ≤ n ∧ half n < n then (if o ≤ half n then gsteps o (half n) b + 1 else gsteps (o - half n) (n - half n) false + 1) else 0
termination_by n
decreasing_by
  · exact h.2
  · have := half_pos n; omega
theorem gsteps_whole (n : Nat) : gsteps n n true = 0 := by rw [gsteps, if_pos rfl, if_pos rfl]
theorem gsteps_part (n : Nat) : gsteps n n false = 1 := by rw [gsteps, if_pos rfl, if_neg (by decide)]
theorem gsteps_left {o n : Nat} (b : Bool) (h : o ≠ n) (h2 : 2 ≤ n) (hn : n ≤ 4096) (ho : o ≤ half n) : gsteps o n b = gsteps o (half n) b + 1 := by
  rw [gsteps, if_neg h, dif_pos ⟨h2, half_lt h2 hn⟩, if_pos ho]
theorem gsteps_right {o n : Nat} (b : Bool) (h : o ≠ n) (h2 : 2 ≤ n) (hn : n ≤ 4096) (ho : ¬ o ≤ half n) : gsteps o n b = gsteps (o - half n) (n - half n) false + 1 := by
  rw [gsteps, if_neg h, dif_pos ⟨h2, half_lt h2 hn⟩, if_neg ho]
theorem gsteps_le : ∀ (N o n : Nat) (b : Bool), n ≤ N → 1 ≤ n → n ≤ 4096 → gsteps o n b ≤ n
  | 0, o, n, b, h, h1, _ => by omega
  | N + 1, o, n, b, h, h1, hn => by
    by_cases ho : o = n
    · subst ho
      cases b
      · rw [gsteps_part]; exact h1
      · rw [gsteps_whole]; omega
    · by_cases h2 : 2 ≤ n
      · have h3 := half_lt h2 hn
        have h4 := half_pos n
        by_cases hk : o ≤ half n
        · rw [gsteps_left b ho h2 hn hk]
          have := gsteps_le N o (half n) b (by omega) (by omega) (by omega)
          omega
        · rw [gsteps_right b ho h2 hn hk]
          have := gsteps_le N (o - half n) (n - half n) false (by omega) (by omega) (by omega)
          omega
      · rw [gsteps, if_neg ho, dif_neg (by omega)]
        omega

def groots (r : Int) (o n : Nat) (p : List Int) (b : Bool) : Int × Int :=
  if o = n then (if b = true then (r, r) else (p.headD 0, p.headD 0))
  else if h : 2 ≤ n ∧ half n < n then
    (if o ≤ half n then ((groots r o (half n) p.dropLast b).1, nodeL (groots r o (half n) p.dropLast b).2 (p.getLastD 0))
     else (nodeL (p.getLastD 0) (groots r (o - half n) (n - half n) p.dropLast false).1, nodeL (p.getLastD 0) (groots r (o - half n) (n - half n) p.dropLast false).2))
  else (r, r)
termination_by n
decreasing_by
  · exact h.2
  · have := half_pos n; omega
theorem groots_whole (r : Int) (n : Nat) (p : List Int) : groots r n n p true = (r, r) := by rw [groots, if_pos rfl, if_pos rfl]
theorem groots_part (r : Int) (n : Nat) (p : List Int) : groots r n n p false = (p.headD 0, p.headD 0) := by rw [groots, if_pos rfl, if_neg (by decide)]
theorem groots_left {r : Int} {o n : Nat} {p : List Int} (b : Bool) (h : o ≠ n) (h2 : 2 ≤ n) (hn : n ≤ 4096) (ho : o ≤ half n) : groots r o n p b = ((groots r o (half n) p.dropLast b).1, nodeL (groots r o (half n) p.dropLast b).2 (p.getLastD 0)) := by
  rw [groots, if_neg h, dif_pos ⟨h2, half_lt h2 hn⟩, if_pos ho]
theorem groots_right {r : Int} {o n : Nat} {p : List Int} (b : Bool) (h : o ≠ n) (h2 : 2 ≤ n) (hn : n ≤ 4096) (ho : ¬ o ≤ half n) : groots r o n p b = (nodeL (p.getLastD 0) (groots r (o - half n) (n - half n) p.dropLast false).1, nodeL (p.getLastD 0) (groots r (o - half n) (n - half n) p.dropLast false).2) := by
  rw [groots, if_neg h, dif_pos ⟨h2, half_lt h2 hn⟩, if_neg ho]
theorem groots_vld : ∀ (N : Nat) (r : Int) (o n : Nat) (p : List Int) (b : Bool), n ≤ N → 1 ≤ o → o ≤ n → n ≤ 4096 → vld r = true → allV p = true → p.length = gsteps o n b → vld (groots r o n p b).1 = true ∧ vld (groots r o n p b).2 = true
  | 0, r, o, n, p, b, h, h1, h2, _, _, _, _ => by omega
  | N + 1, r, o, n, p, b, h, h1, hon, hn, hr, hp, hl => by
    by_cases ho : o = n
    · subst ho
      cases b
      · rw [gsteps_part] at hl
        rw [groots_part]
        obtain ⟨x, rfl⟩ := List.length_eq_one_iff.1 hl
        have := allV_get hp (j := 0) (z := x) rfl
        exact ⟨this, this⟩
      · rw [groots_whole]; exact ⟨hr, hr⟩
    · have h2 : 2 ≤ n := by omega
      have h3 := half_lt h2 hn
      have h4 := half_pos n
      by_cases hk : o ≤ half n
      · rw [gsteps_left b ho h2 hn hk] at hl
        rw [groots_left b ho h2 hn hk]
        have hd : allV p.dropLast = true := by rw [List.dropLast_eq_take]; exact allV_take hp _
        have := groots_vld N r o (half n) p.dropLast b (by omega) h1 hk (by omega) hr hd (by rw [List.length_dropLast]; omega)
        exact ⟨this.1, vld_node _ _⟩
      · rw [groots_right b ho h2 hn hk]
        exact ⟨vld_node _ _, vld_node _ _⟩

/-- the proof -/
def growL (xs : List Int) (o : Nat) (b : Bool) : List Int :=
  if o = xs.length then (if b = true then [] else [ofL xs])
  else if h : 2 ≤ xs.length ∧ half xs.length < xs.length then
    (if o ≤ half xs.length then growL (xs.take (half xs.length)) o b ++ [ofL (xs.drop (half xs.length))] else growL (xs.drop (half xs.length)) (o - half xs.length) false ++ [ofL (xs.take (half xs.length))])
  else []
termination_by xs.length
decreasing_by
  · rw [List.length_take]; omega
  · rw [List.length_drop]; have := half_pos xs.length; omega
theorem growL_whole {xs : List Int} {o : Nat} (h : o = xs.length) : growL xs o true = [] := by rw [growL, if_pos h, if_pos rfl]
theorem growL_part {xs : List Int} {o : Nat} (h : o = xs.length) : growL xs o false = [ofL xs] := by rw [growL, if_pos h, if_neg (by decide)]
theorem growL_left {xs : List Int} {o : Nat} (b : Bool) (h : o ≠ xs.length) (h2 : 2 ≤ xs.length) (hn : xs.length ≤ 4096) (ho : o ≤ half xs.length) : growL xs o b = growL (xs.take (half xs.length)) o b ++ [ofL (xs.drop (half xs.length))] := by
  rw [growL, if_neg h, dif_pos ⟨h2, half_lt h2 hn⟩, if_pos ho]
theorem growL_right {xs : List Int} {o : Nat} (b : Bool) (h : o ≠ xs.length) (h2 : 2 ≤ xs.length) (hn : xs.length ≤ 4096) (ho : ¬ o ≤ half xs.length) : growL xs o b = growL (xs.drop (half xs.length)) (o - half xs.length) false ++ [ofL (xs.take (half xs.length))] := by
  rw [growL, if_neg h, dif_pos ⟨h2, half_lt h2 hn⟩, if_neg ho]
theorem growL_len : ∀ (N : Nat) (xs : List Int) (o : Nat) (b : Bool), xs.length ≤ N → 1 ≤ o → o ≤ xs.length → xs.length ≤ 4096 → (growL xs o b).length = gsteps o xs.length b
  | 0, xs, o, b, h, h1, h2, _ => by omega
  | N + 1, xs, o, b, h, h1, hon, hn => by
    by_cases ho : o = xs.length
    · cases b
      · rw [growL_part ho, ho, gsteps_part]; rfl
      · rw [growL_whole ho, ho, gsteps_whole]; rfl
    · have h2 : 2 ≤ xs.length := by omega
      have h3 := half_lt h2 hn
      have h4 := half_pos xs.length
      by_cases hk : o ≤ half xs.length
      · rw [growL_left b ho h2 hn hk, gsteps_left b ho h2 hn hk, List.length_append, growL_len N _ o b (by rw [List.length_take]; omega) h1 (by rw [List.length_take]; omega) (by rw [List.length_take]; omega), List.length_take, Nat.min_eq_left (by omega)]
        rfl
      · rw [growL_right b ho h2 hn hk, gsteps_right b ho h2 hn hk, List.length_append, growL_len N _ _ false (by rw [List.length_drop]; omega) (by omega) (by rw [List.length_drop]; omega) (by rw [List.length_drop]; omega), List.length_drop]
        rfl
theorem growL_vld : ∀ (N : Nat) (xs : List Int) (o : Nat) (b : Bool), xs.length ≤ N → 1 ≤ o → o ≤ xs.length → xs.length ≤ 4096 → allV xs = true → allV (growL xs o b) = true
  | 0, xs, o, b, h, h1, h2, _, _ => by omega
  | N + 1, xs, o, b, h, h1, hon, hn, hv => by
    by_cases ho : o = xs.length
    · cases b
      · rw [growL_part ho]
        have := vld_ofL hv hn
        simp [allV, this]
      · rw [growL_whole ho]; rfl
    · have h2 : 2 ≤ xs.length := by omega
      have h3 := half_lt h2 hn
      have h4 := half_pos xs.length
      have v1 := vld_ofL (allV_take hv (half xs.length)) (by rw [List.length_take]; omega)
      have v2 := vld_ofL (allV_drop hv (half xs.length)) (by rw [List.length_drop]; omega)
      by_cases hk : o ≤ half xs.length
      · rw [growL_left b ho h2 hn hk, allV_append, growL_vld N _ o b (by rw [List.length_take]; omega) h1 (by rw [List.length_take]; omega) (by rw [List.length_take]; omega) (allV_take hv _)]
        simp [allV, v2]
      · rw [growL_right b ho h2 hn hk, allV_append, growL_vld N _ _ false (by rw [List.length_drop]; omega) (by omega) (by rw [List.length_drop]; omega) (by rw [List.length_drop]; omega) (allV_drop hv _)]
        simp [allV, v1]
/-- what has but grown is proved so -/
theorem groots_grow : ∀ (N : Nat) (r : Int) (xs : List Int) (o : Nat) (b : Bool), xs.length ≤ N → 1 ≤ o → o ≤ xs.length → xs.length ≤ 4096 → (b = true → r = ofL (xs.take o)) → groots r o xs.length (growL xs o b) b = (ofL (xs.take o), ofL xs)
  | 0, r, xs, o, b, h, h1, h2, _, _ => by omega
  | N + 1, r, xs, o, b, h, h1, hon, hn, hr => by
    by_cases ho : o = xs.length
    · have ht : xs.take o = xs := List.take_of_length_le (by omega)
      cases b
      · rw [growL_part ho, ht]
        conv => lhs; rw [ho]
        rw [groots_part]
        rfl
      · have hr' := hr rfl
        rw [ht] at hr'
        rw [growL_whole ho, ht]
        conv => lhs; rw [ho]
        rw [groots_whole, hr']
    · have h2 : 2 ≤ xs.length := by omega
      have h3 := half_lt h2 hn
      have h3' := half_le h2 hn
      have h4 := half_pos xs.length
      by_cases hk : o ≤ half xs.length
      · have ih := groots_grow N r (xs.take (half xs.length)) o b (by rw [List.length_take]; omega) h1 (by rw [List.length_take]; omega) (by rw [List.length_take]; omega) (fun e => by rw [List.take_take, Nat.min_eq_left hk]; exact hr e)
        rw [List.length_take, Nat.min_eq_left (by omega), List.take_take, Nat.min_eq_left hk] at ih
        rw [growL_left b ho h2 hn hk, groots_left b ho h2 hn hk, List.dropLast_concat, ih, ofL_node h2 hn]
        simp
      · have ih := groots_grow N r (xs.drop (half xs.length)) (o - half xs.length) false (by rw [List.length_drop]; omega) (by omega) (by rw [List.length_drop]; omega) (by rw [List.length_drop]; omega) (fun e => by cases e)
        rw [List.length_drop] at ih
        have hho : half (xs.take o).length = half xs.length := by
          rw [List.length_take, Nat.min_eq_left hon]
          obtain ⟨a, b1, c, d⟩ := half_bitLen xs.length h2 hn
          unfold half at hk h3 h3' ⊢
          generalize Lib.bitLen (xs.length - 1) - 1 = j at *
          exact half_eq (by omega) (by omega) (by omega) (by rw [Nat.pow_succ]; omega)
        have htk : ofL (xs.take o) = nodeL (ofL (xs.take (half xs.length))) (ofL ((xs.drop (half xs.length)).take (o - half xs.length))) := by
          rw [ofL_node (xs := xs.take o) (by rw [List.length_take]; omega) (by rw [List.length_take]; omega), hho, List.take_take, Nat.min_eq_left (by omega), List.drop_take]
        rw [growL_right b ho h2 hn hk, groots_right b ho h2 hn hk, List.dropLast_concat, ih, htk, ofL_node h2 hn]
        simp

/-- which fault a proof has -/
def gcheck (r1 o r n : Int) (p : List Int) : Int :=
  if ¬ (1 ≤ o ∧ o ≤ n ∧ n ≤ 200) then 1
  else if ¬ (vld r1 = true ∧ vld r = true ∧ allV p = true) then 1
  else if p.length ≠ gsteps o.toNat n.toNat true then 3
  else if groots r1 o.toNat n.toNat p true ≠ (r1, r) then 8
  else 0
end Go.Proofs.YtcgfdhgceokcnaaGreatDoor

namespace Go.Proofs.YtcgfdhgceokcnaaGreatDoor
open Go.RowKit Go.WideShapes
set_option linter.unusedVariables false
attribute [local go_sem ↓] Go.wp_at_zero Go.wp_at_succ

set_option maxRecDepth 100000 in
set_option maxHeartbeats 1000000 in
theorem gsteps_any (N : Nat) : ∀ (o n : Nat) (b : Bool) (w : World), n ≤ N → 1 ≤ o → o ≤ n → n ≤ 4096 →
    Calls Tryz.prog 58 #[.int .i64 o, .int .i64 n, .bool b] w fun e w' => e = .returned (.int .i64 (gsteps o n b : Nat)) ∧ w = w' := by
  induction N with
  | zero => intro o n b w h h1; omega
  | succ N ih =>
    intro o n b w hN h1 hon hn
    have IH := Lib.hid ih
    clear ih
    by_cases ho : o = n
    · subst ho
      cases b
      · have HS := Lib.hid (gsteps_part o)
        go_enter Tryz.func58, Tryz.ntmps58
        go_wp2_with fail
        go_ret
        exact ⟨ret_int (by rw [HS.out]; rfl), rfl⟩
      · have HS := Lib.hid (gsteps_whole o)
        go_enter Tryz.func58, Tryz.ntmps58
        go_wp2_with fail
        go_ret
        exact ⟨ret_int (by rw [HS.out]; rfl), rfl⟩
    · have h2 : 2 ≤ n := by omega
      have hk := half_lt h2 hn
      have hk0 := half_pos n
      have ho' : ((o : Int) == (n : Int)) = false := by simp; omega
      by_cases hok : o ≤ half n
      · have hS := gsteps_left b ho h2 hn hok
        have hb := gsteps_le (half n) o (half n) b (Nat.le_refl _) (by omega) (by omega)
        have hI := fun W => IH.out o (half n) b W (by omega) h1 hok (by omega)
        generalize gsteps o (half n) b = s at *
        have HS := Lib.hid hS
        have HI := Lib.hid hI
        have i1 : (o : Int) ≤ ((half n : Nat) : Int) := by omega
        clear hS hI ho IH
        go_enter Tryz.func58, Tryz.ntmps58
        go_wp2_with fail
        refine (Half_any _ _ (by omega) (by omega)).mono ?_
        rintro _ w' ⟨rfl, rfl⟩
        rw [Int.toNat_natCast]
        go_wp2_with fail
        refine (HI.out _).mono ?_
        rintro _ w' ⟨rfl, rfl⟩
        go_wp2_with fail
        go_ret
        exact ⟨ret_int (by rw [HS.out]; omega), rfl⟩
      · have hS := gsteps_right b ho h2 hn hok
        have hb := gsteps_le (n - half n) (o - half n) (n - half n) false (Nat.le_refl _) (by omega) (by omega)
        have hI := fun W => IH.out (o - half n) (n - half n) false W (by omega) (by omega) (by omega) (by omega)
        generalize gsteps (o - half n) (n - half n) false = s at *
        have HS := Lib.hid hS
        have HI := Lib.hid hI
        have i1 : ((half n : Nat) : Int) < (o : Int) := by omega
        have N1 : Hid ((o : Int) - ((half n : Nat) : Int) = ((o - half n : Nat) : Int)) := by show _ = _; omega
        have N2 : Hid ((n : Int) - ((half n : Nat) : Int) = ((n - half n : Nat) : Int)) := by show _ = _; omega
        clear hS hI ho IH hok
        go_enter Tryz.func58, Tryz.ntmps58
        go_wp2_with fail
        refine (Half_any _ _ (by omega) (by omega)).mono ?_
        rintro _ w' ⟨rfl, rfl⟩
        rw [Int.toNat_natCast]
        go_wp2_with fail
        rw [N1.out, N2.out]
        refine (HI.out _).mono ?_
        rintro _ w' ⟨rfl, rfl⟩
        go_wp2_with fail
        go_ret
        exact ⟨ret_int (by rw [HS.out]; omega), rfl⟩

set_option maxRecDepth 100000 in
set_option maxHeartbeats 2000000 in
theorem groots_any (N : Nat) : ∀ (r : Int) (o n : Nat) (A : Option Addr) (m c : Nat) (ps : List Int) (b : Bool) (w : World), n ≤ N → 1 ≤ o → o ≤ n → n ≤ 4096 → m = gsteps o n b → Rd w 1 A m c (ps.map (Value.int .i64)) → c ≤ maxLen → vld r = true → allV ps = true →
    Calls Tryz.prog 59 #[.int .i64 r, .int .i64 o, .int .i64 n, .slice A m c, .bool b] w fun e w' => e = .returned (.tuple #[.int .i64 (groots r o n ps b).1, .int .i64 (groots r o n ps b).2]) ∧ Ext w w' := by
  induction N with
  | zero => intro r o n A m c ps b w h h1; omega
  | succ N ih =>
    intro r o n A m c ps b w hN h1 hon hn hms hr hm hv hp
    have hx := hr.lenI
    have hl : m ≤ c := hr.2.1
    have IH := Lib.hid ih
    clear ih
    by_cases ho : o = n
    · subst ho
      cases b
      · rw [gsteps_part] at hms
        subst hms
        obtain ⟨x, rfl⟩ := List.length_eq_one_iff.1 hx
        have HS := Lib.hid (groots_part r o [x])
        obtain ⟨ad, rfl, hb, hcell⟩ := hr.getI (j := 0) (z := x) rfl
        rw [add_zero'] at hcell
        clear hx hr
        go_enter Tryz.func59, Tryz.ntmps59
        go_wp2_with fail
        go_quiet (fail)
        go_wp2_with fail
        go_ret2
        exact ⟨ret_two (by rw [HS.out]; rfl) (by rw [HS.out]; rfl), by (repeat (with_reducible first | exact Ext.refl _ | assumption | refine Ext.drew ?_ | refine Ext.drewN ?_ _ | refine Ext.alloc ?_ _ | refine Ext.trans ?_ (by with_reducible assumption)))⟩
      · rw [gsteps_whole] at hms
        have HS := Lib.hid (groots_whole r o ps)
        subst hms
        clear hx hr
        go_enter Tryz.func59, Tryz.ntmps59
        go_wp2_with fail
        go_ret2
        exact ⟨ret_two (by rw [HS.out]; rfl) (by rw [HS.out]; rfl), by (repeat (with_reducible first | exact Ext.refl _ | assumption | refine Ext.drew ?_ | refine Ext.drewN ?_ _ | refine Ext.alloc ?_ _ | refine Ext.trans ?_ (by with_reducible assumption)))⟩
    · have h2 : 2 ≤ n := by omega
      have hk := half_lt h2 hn
      have hk0 := half_pos n
      have ho' : ((o : Int) == (n : Int)) = false := by simp; omega
      by_cases hok : o ≤ half n
      · have hS := groots_left (r := r) (p := ps) b ho h2 hn hok
        obtain ⟨k, hmk⟩ : ∃ k, m = k + 1 := ⟨gsteps o (half n) b, by rw [hms, gsteps_left b ho h2 hn hok]⟩
        have hks : k = gsteps o (half n) b := by rw [gsteps_left b ho h2 hn hok] at hms; omega
        have hlast := last_of (hx.trans hmk)
        have hvl := (vld_true (allV_get hp hlast)).1
        rw [← init_of (hx.trans hmk)] at hS
        obtain ⟨ad, hA, hb, hcell⟩ := hr.getI hlast
        have R := hr.takeI (k := k) (by omega)
        have hvt := allV_take hp k
        have hgv := groots_vld (half n) r o (half n) (ps.take k) b (Nat.le_refl _) h1 hok (by omega) hv hvt (by rw [List.length_take, hx, ← hks]; omega)
        have vg := (vld_true hgv.2).1
        have hI := fun (W : World) (e : Ext w W) => IH.out r o (half n) A k c (ps.take k) b W (by omega) h1 hok (by omega) hks (R.ext e) hm hv hvt
        generalize groots r o (half n) (ps.take k) b = g at *
        obtain ⟨ga, gb⟩ := g
        generalize ps.getLastD 0 = z at *
        have HS := Lib.hid hS
        have HI := Lib.hid hI
        have HV : Hid (0 ≤ gb) := vg
        subst hA
        clear hx hms hlast hks hS hI IH ho hgv vg
        unfold maxLen at hm
        have q0 : (0 : Int) ≤ (k : Int) := by omega
        have q1 : (k : Int) ≤ (c : Int) := by omega
        have q2 : (k : Int) < (m : Int) := by omega
        have q9 : Hid ((m : Int) - 1 = (k : Int)) := by show _ = _; omega
        have q8 : (1 : Int) ≤ (m : Int) := by omega
        have q7 : (m : Int) ≤ (c : Int) := by omega
        have i1 : (o : Int) ≤ ((half n : Nat) : Int) := by omega
        clear hmk
        go_enter Tryz.func59, Tryz.ntmps59
        go_upto_region 2 with (fail)
        rw [q9.out]
        go_wp2_with fail
        refine (Half_any _ _ (by omega) (by omega)).mono ?_
        rintro e w' ⟨rfl, rfl⟩
        rw [Int.toNat_natCast]
        go_wp2_with fail
        refine (HI.out _ (Ext.refl _)).mono ?_
        rintro _ w1 ⟨rfl, hb1⟩
        have hcell1 := (Ext.cell (p := ad.add k) hb1 (by rw [blk_add]; exact hb)).trans hcell
        go_wp2_with fail
        refine (NodeOf_any _ _ _ HV.out hvl).mono ?_
        rintro _ w2 ⟨rfl, hb2⟩
        go_wp2_with fail
        go_ret2
        exact ⟨ret_two (by rw [HS.out]; rfl) (by rw [HS.out]; rfl), by (repeat (with_reducible first | exact Ext.refl _ | assumption | refine Ext.drew ?_ | refine Ext.drewN ?_ _ | refine Ext.alloc ?_ _ | refine Ext.trans ?_ (by with_reducible assumption)))⟩
      · have hS := groots_right (r := r) (p := ps) b ho h2 hn hok
        obtain ⟨k, hmk⟩ : ∃ k, m = k + 1 := ⟨gsteps (o - half n) (n - half n) false, by rw [hms, gsteps_right b ho h2 hn hok]⟩
        have hks : k = gsteps (o - half n) (n - half n) false := by rw [gsteps_right b ho h2 hn hok] at hms; omega
        have hlast := last_of (hx.trans hmk)
        have hvl := (vld_true (allV_get hp hlast)).1
        rw [← init_of (hx.trans hmk)] at hS
        obtain ⟨ad, hA, hb, hcell⟩ := hr.getI hlast
        have R := hr.takeI (k := k) (by omega)
        have hvt := allV_take hp k
        have hgv := groots_vld (n - half n) r (o - half n) (n - half n) (ps.take k) false (Nat.le_refl _) (by omega) (by omega) (by omega) hv hvt (by rw [List.length_take, hx, ← hks]; omega)
        have va := (vld_true hgv.1).1
        have vb := (vld_true hgv.2).1
        have hI := fun (W : World) (e : Ext w W) => IH.out r (o - half n) (n - half n) A k c (ps.take k) false W (by omega) (by omega) (by omega) (by omega) hks (R.ext e) hm hv hvt
        generalize groots r (o - half n) (n - half n) (ps.take k) false = g at *
        obtain ⟨ga, gb⟩ := g
        generalize ps.getLastD 0 = z at *
        have HS := Lib.hid hS
        have HI := Lib.hid hI
        have HVa : Hid (0 ≤ ga) := va
        have HVb : Hid (0 ≤ gb) := vb
        have HN1 : Hid (nodeL z ga = nodeL z ga) := rfl
        subst hA
        clear hx hms hlast hks hS hI IH ho hgv va vb
        unfold maxLen at hm
        have q0 : (0 : Int) ≤ (k : Int) := by omega
        have q1 : (k : Int) ≤ (c : Int) := by omega
        have q2 : (k : Int) < (m : Int) := by omega
        have q9 : Hid ((m : Int) - 1 = (k : Int)) := by show _ = _; omega
        have q8 : (1 : Int) ≤ (m : Int) := by omega
        have q7 : (m : Int) ≤ (c : Int) := by omega
        have i1 : ((half n : Nat) : Int) < (o : Int) := by omega
        have N1 : Hid ((o : Int) - ((half n : Nat) : Int) = ((o - half n : Nat) : Int)) := by show _ = _; omega
        have N2 : Hid ((n : Int) - ((half n : Nat) : Int) = ((n - half n : Nat) : Int)) := by show _ = _; omega
        clear hmk hok
        go_enter Tryz.func59, Tryz.ntmps59
        go_upto_region 2 with (fail)
        rw [q9.out]
        go_wp2_with fail
        refine (Half_any _ _ (by omega) (by omega)).mono ?_
        rintro e w' ⟨rfl, rfl⟩
        rw [Int.toNat_natCast]
        go_wp2_with fail
        rw [N1.out, N2.out]
        refine (HI.out _ (Ext.refl _)).mono ?_
        rintro _ w1 ⟨rfl, hb1⟩
        have hcell1 := (Ext.cell (p := ad.add k) hb1 (by rw [blk_add]; exact hb)).trans hcell
        have hbk := hb1.lt hb
        have HC1 := Lib.hid hcell1
        go_wp2_with fail
        clear hcell1
        go_region_held3 (fun W => W.cell? (ad.add k) = some (.int .i64 z)) (first | exact HC1.out | exact (Ext.cell (a := w1) (by (repeat (with_reducible first | exact Ext.refl _ | assumption | refine Ext.drew ?_ | refine Ext.drewN ?_ _ | refine Ext.alloc ?_ _ | refine Ext.trans ?_ (by with_reducible assumption)))) (by rw [blk_add]; exact hbk)).trans HC1.out) (first
          | (go_at_call 89; (with_reducible refine (NodeOf_any z ga _ hvl HVa.out).mono ?_); rintro _ w2 ⟨rfl, hb2⟩)
          | (go_at_call 89; (with_reducible refine (NodeOf_any z gb _ hvl HVb.out).mono ?_); rintro _ w3 ⟨rfl, hb3⟩)
          | fail)
        all_goals
          go_wp2_with fail
          go_ret2
          exact ⟨ret_two (by rw [HS.out]; rfl) (by rw [HS.out]; rfl), by (repeat (with_reducible first | exact Ext.refl _ | assumption | refine Ext.drew ?_ | refine Ext.drewN ?_ _ | refine Ext.alloc ?_ _ | refine Ext.trans ?_ (by with_reducible assumption)))⟩
end Go.Proofs.YtcgfdhgceokcnaaGreatDoor
