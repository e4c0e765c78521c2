/- The names of faults; a text cut at its first blank: the program's, the references'. -/
import Derived.Test.YtnphbkjkeipmmaaGreatDoorJRunBegins20
import Derived.Test.YtnphbkjkeipmmaaGreatDoorJRunBegins12
import Derived.Deep.QuietTactic
import Derived.BigQuiet
import Derived.Test.YtnphbkjkeipmmaaGreatDoorJRunBegins22
import Derived.Deep.DeepCutAuto
import Derived.Test.YtnphbkjkeipmmaaGreatDoorJRunBegins23
namespace Go.Proofs.YtnphbkjkeipmmaaGreatDoor
open Go.RowKit Go.WideShapes
set_option linter.unusedVariables false
attribute [local go_sem ↓] Go.wp_at_zero Go.wp_at_succ

theorem SpCut_any (s : ByteArray) (w : World) (hs : s.size ≤ 100000000) (hM : MaxG w) :
    Calls Tryz.prog 48 #[.string s, .string ⟨#[32]⟩] w fun e w' => e = .returned (.tuple #[.string (wordV s).1, .string (wordV s).2.1, .bool (wordV s).2.2]) ∧ Ext w w' := by
  obtain ⟨m, hm⟩ := hM
  refine (Tryz.strings_Cut s ⟨#[32]⟩ m w (by omega) hm).mono fun e w' ⟨he, n, hw⟩ => ⟨?_, by rw [hw]; exact Ext.drewN (Ext.refl _) n⟩
  rw [he]
  rfl
theorem EName_any (k : Int) (w : World) (h : 1 ≤ k ∧ k ≤ 9) :
    Calls Tryz.prog 33 #[.int .i64 k] w fun e w' => e = .returned (.string (nameT k)) ∧ Ext w w' := by
  have h' : k = 1 ∨ k = 2 ∨ k = 3 ∨ k = 4 ∨ k = 5 ∨ k = 6 ∨ k = 7 ∨ k = 8 ∨ k = 9 := by omega
  clear h
  rcases h' with rfl | rfl | rfl | rfl | rfl | rfl | rfl | rfl | rfl
  all_goals
    go_enter Tryz.func33, Tryz.ntmps33
    go_wp2_with fail
    go_ret
    exact ⟨rfl, Ext.refl _⟩
end Go.Proofs.YtnphbkjkeipmmaaGreatDoor

/- The references' name, word. -/
namespace Go.Proofs.YtnphbkjkeipmmaaGreatDoor
open Go.RowKit Go.WideShapes
set_option linter.unusedVariables false
attribute [local go_sem ↓] Go.wp_at_zero Go.wp_at_succ

set_option maxRecDepth 100000 in
set_option maxHeartbeats 4000000 in
theorem RName_any (k : Int) (w : World) (h : 1 ≤ k ∧ k ≤ 9) :
    Calls Tryz.prog 19 #[.int .i64 k] w fun e w' => e = .returned (.string (nameT k)) ∧ Ext w w' := by
  have h' : k = 1 ∨ k = 2 ∨ k = 3 ∨ k = 4 ∨ k = 5 ∨ k = 6 ∨ k = 7 ∨ k = 8 ∨ k = 9 := by omega
  clear h
  rcases h' with rfl | rfl | rfl | rfl | rfl | rfl | rfl | rfl | rfl
  all_goals
    go_enter Tryz.func19, Tryz.ntmps19
    go_wp2_with fail
    go_ret
    exact ⟨rfl, by (repeat (with_reducible first | exact Ext.refl _ | assumption | refine Ext.drew ?_ | refine Ext.drewN ?_ _ | refine Ext.alloc ?_ _ | refine Ext.trans ?_ (by with_reducible assumption)))⟩
theorem word_no {s : ByteArray} (h : ∀ i, i < s.size → ∀ b, s.data.toList[i]? = some b → b ≠ 32) : wordV s = (s, noT, false) := by
  have hl : s.data.toList.length = s.size := rfl
  unfold wordV
  rw [cutNo fun b hb => by
    obtain ⟨i, hi⟩ := List.getElem?_of_mem hb
    exact h i (by rw [← hl]; exact (List.getElem?_eq_some_iff.1 hi).1) b hi]
  congr 1
theorem word_at {s : ByteArray} {i : Nat} (h : ∀ j, j < i → ∀ b, s.data.toList[j]? = some b → b ≠ 32) (hi : s.data.toList[i]? = some 32) : wordV s = (s.extract 0 i, s.extract (i + 1) s.size, true) := by
  have hl : s.data.toList.length = s.size := rfl
  have hil : i < s.data.toList.length := (List.getElem?_eq_some_iff.1 hi).1
  have e : s.data.toList = s.data.toList.take i ++ 32 :: s.data.toList.drop (i + 1) := by
    have h2 := (List.getElem?_eq_some_iff.1 hi).2
    conv => lhs; rw [← List.take_append_drop i s.data.toList, List.drop_eq_getElem_cons hil, h2]
  have e2 : Lib.cut s.data.toList [32] = (s.data.toList.take i, s.data.toList.drop (i + 1), true) := by
    conv => lhs; rw [e]
    exact cutAt fun b hb => by
      obtain ⟨j, hj⟩ := List.getElem?_of_mem hb
      have hjl := (List.getElem?_eq_some_iff.1 hj).1
      rw [List.length_take] at hjl
      rw [List.getElem?_take_of_lt (by omega)] at hj
      exact h j (by omega) b hj
  unfold wordV
  rw [e2]
  have x1 : (⟨(s.data.toList.take i).toArray⟩ : ByteArray) = s.extract 0 i := ba_ext (by rw [Lib.extract_data]; simp)
  have x2 : (⟨(s.data.toList.drop (i + 1)).toArray⟩ : ByteArray) = s.extract (i + 1) s.size := ba_ext (by
    rw [Lib.extract_data]
    show _ = (s.data.toList.drop (i + 1)).take (s.size - (i + 1))
    rw [List.take_of_length_le (by rw [List.length_drop]; omega)])
  rw [x1, x2]
set_option maxRecDepth 100000 in
set_option maxHeartbeats 2000000 in
theorem RWord_any (s : ByteArray) (w : World) (hs : s.size ≤ 100000000) :
    Calls Tryz.prog 16 #[.string s] w fun e w' => e = .returned (.tuple #[.string (wordV s).1, .string (wordV s).2.1, .bool (wordV s).2.2]) ∧ Ext w w' := by
  have hsz : s.data.toList.length = s.size := rfl
  obtain ⟨z, hz⟩ : ∃ z, wordV s = z := ⟨_, rfl⟩
  have HNO : Hid ((∀ i, i < s.size → ∀ b, s.data.toList[i]? = some b → b ≠ 32) → z = (s, noT, false)) := Lib.hid fun h => hz.symm.trans (word_no h)
  have HAT : Hid (∀ i, (∀ j, j < i → ∀ b, s.data.toList[j]? = some b → b ≠ 32) → s.data.toList[i]? = some 32 → z = (s.extract 0 i, s.extract (i + 1) s.size, true)) := Lib.hid fun i h hi => hz.symm.trans (word_at h hi)
  rw [hz]
  clear hz
  go_enter Tryz.func16, Tryz.ntmps16
  go_wp2_with fail
  go_loopw [5] (fun x wr => ∃ i : Nat, x = .int .i64 i ∧ i ≤ s.size ∧ Ext w wr ∧ Hid (∀ j, j < i → ∀ b, s.data.toList[j]? = some b → b ≠ 32)) (fun x _ => s.size - (intOf x).toNat)
  case atStart => exact ⟨0, rfl, Nat.zero_le _, Ext.refl _, Lib.hid fun j hj => absurd hj (Nat.not_lt_zero _)⟩
  case round =>
    obtain ⟨i, rfl, hi, hbw, HC⟩ := hrel
    by_cases hc : i < s.size
    · have hgb := List.getElem?_eq_getElem (l := s.data.toList) (i := i) (by rw [hsz]; exact hc)
      have hbe : s.data.toList[i]'(by rw [hsz]; exact hc) = s[i] := rfl
      rw [hbe] at hgb
      have HGB := Lib.hid hgb
      have hic : (i : Int) < (s.size : Int) := by omega
      by_cases hb : s[i] = 32
      · have HZ := Lib.hid (HAT.out i HC.out (by rw [hgb, hb]))
        have hbN : s[i].toNat = 32 := by rw [hb]; rfl
        have hb1 : ((s[i].toNat : Int) == 32) = true := by rw [hbN]; rfl
        clear hgb hbe hb HNO HAT
        go_wp2_with fail
        go_quiet (fail)
        go_wp2_with fail
        go_ret3
        rw [HZ.out]
        exact ⟨rfl, by (repeat (with_reducible first | exact Ext.refl _ | assumption | refine Ext.drew ?_ | refine Ext.drewN ?_ _ | refine Ext.alloc ?_ _ | refine Ext.trans ?_ (by with_reducible assumption)))⟩
      · have hbN : ¬ s[i].toNat = 32 := fun e => hb (UInt8.toNat_inj.1 e)
        have hb1 : ((s[i].toNat : Int) == 32) = false := by simp; omega
        have HB := Lib.hid hb
        clear hgb hbe hb
        go_wp2_with fail
        go_roundw
        case rel => exact ⟨i + 1, by go_num, by omega, hbw, Lib.hid fun j hj b hjb => by
          by_cases e : j = i
          · subst e
            have h2 := HGB.out
            rw [hjb] at h2
            injection h2 with h2
            subst h2
            exact HB.out
          · exact HC.out j (by omega) b hjb⟩
        case measure => simp [intOf]; omega
    · obtain rfl : i = s.size := by omega
      have HZ := Lib.hid (HNO.out HC.out)
      clear HNO HAT
      go_wp2_with fail
      go_ret3
      rw [HZ.out]
      exact ⟨rfl, hbw⟩
end Go.Proofs.YtnphbkjkeipmmaaGreatDoor

/- run: what a fault looks like; add. -/
namespace Go.Proofs.YtnphbkjkeipmmaaGreatDoor
open Go.RowKit Go.WideShapes
set_option linter.unusedVariables false
attribute [local go_sem ↓] Go.wp_at_zero Go.wp_at_succ

/-- a fault: none: 'unread' -/
def errU : Option Int → Value
  | none => .iface 80 (.agg #[.iface 73 (.int .i64 2)])
  | some k => errR k
def outV (o : Out) : Value := .tuple #[.string o.1, errU o.2]
theorem word_size (s : ByteArray) : (wordV s).1.size ≤ s.size ∧ (wordV s).2.1.size ≤ s.size := by
  have hl : s.data.toList.length = s.size := rfl
  rcases cut_ways 32 s.data.toList with h | ⟨a, b, e, h⟩
  · rw [word_no (s := s) fun i hi b hb => h b (List.mem_of_getElem? hb)]
    exact ⟨Nat.le_refl _, Nat.zero_le _⟩
  · unfold wordV
    rw [e, cutAt h]
    rw [e, List.length_append, List.length_cons] at hl
    show a.toArray.size ≤ _ ∧ b.toArray.size ≤ _
    rw [List.size_toArray, List.size_toArray]
    omega
abbrev TD : TypeId := 45
abbrev TM : TypeId := 75

set_option maxRecDepth 100000 in
set_option maxHeartbeats 4000000 in
theorem FAdd_any (S : Nat → Prop) (db : Nat) (d : Dk) (s : ByteArray) (w : World) (h : DD 45 75 w S db d) (hS : ∀ g, w.heap.size ≤ g → S g) (hs : s.size ≤ 1048576) (hM : MaxG w) (hG : StrG w) (hP : PowG w) :
    Calls Tryz.prog 50 #[.pointer (some ⟨db, 0, none⟩), .string s] w fun e w' => e = .returned (outV (addD d s).2) ∧ DOp 45 75 w S db (addD d s).1 w' := by
  obtain ⟨hE, hN, hG0⟩ := errR_rules
  obtain ⟨hz1, hz2⟩ := word_size s
  have hC := SpCut_any s w (by omega) hM
  have hGA := addD_good h.good s
  have hA0 : ∀ z, wordV s = z → addD d s = match numR z.1 4 with
    | none => (d, noT, none)
    | some n => if z.2.2 = false then (d, noT, none)
      else if ¬ (⟨n, z.2.1⟩ : Ent).ok then (d, noT, some (⟨n, z.2.1⟩ : Ent).err)
      else if 200 ≤ d.es.length then (d, noT, some 4)
      else ({ d with es := d.es ++ [⟨n, z.2.1⟩] }, okT, some 0) := fun z hz => by subst hz; rfl
  obtain ⟨z, hz⟩ : ∃ z, wordV s = z := ⟨_, rfl⟩
  have hA := hA0 z hz
  rw [hz] at hz1 hz2 hC
  obtain ⟨x, t, b⟩ := z
  dsimp only at hz1 hz2 hC hA
  have HNM := Lib.hid fun W (e : Ext w W) => HNumber_any x 4 W (by omega) (by decide) (hG.ext e) (hP.ext e)
  have HC := Lib.hid hC
  have HD := Lib.hid h
  have HS := Lib.hid hS
  obtain ⟨r, hr⟩ : ∃ r, addD d s = r := ⟨_, rfl⟩
  rw [hr] at hA hGA ⊢
  have HGA := Lib.hid hGA
  clear hA0 hC h hS hM hG hP hz hr hGA
  cases b with
  | false =>
    have hr2 : r = (d, noT, none) := by
      rw [hA]
      split
      · rfl
      · rfl
    have HR := Lib.hid hr2
    clear hA hr2
    go_enter Tryz.func50, Tryz.ntmps50
    go_wp2_with fail
    refine HC.out.mono ?_
    rintro _ w1 ⟨rfl, hb1⟩
    go_wp2_with fail
    refine (HNM.out _ hb1).mono ?_
    rintro _ w2 ⟨⟨n, rfl, hn⟩, hb2⟩
    clear hn
    have e2 := hb1.trans hb2
    go_wp2_with fail
    go_ret2
    rw [HR.out]
    exact ⟨rfl, DOp.stay HD.out e2⟩
  | true =>
    cases hnm : numR x 4 with
    | none =>
      rw [hnm] at hA
      have HR := Lib.hid hA
      have HNN : Hid (∀ W, Ext w W → Calls Tryz.prog 80 #[.string x, .int .i64 4] W fun e w' => (∃ n : Int, e = .returned (.tuple #[.int .i64 n, .bool false])) ∧ Ext W w') := Lib.hid fun W e => (HNM.out W e).mono fun e w' ⟨⟨n, he, _⟩, hb⟩ => ⟨⟨n, by rw [he, hnm]; rfl⟩, hb⟩
      clear hA HNM hnm
      go_enter Tryz.func50, Tryz.ntmps50
      go_wp2_with fail
      refine HC.out.mono ?_
      rintro _ w1 ⟨rfl, hb1⟩
      go_wp2_with fail
      refine (HNN.out _ hb1).mono ?_
      rintro _ w2 ⟨⟨n, rfl⟩, hb2⟩
      have e2 := hb1.trans hb2
      go_wp2_with fail
      go_ret2
      rw [HR.out]
      exact ⟨rfl, DOp.stay HD.out e2⟩
    | some n =>
      rw [hnm] at hA
      simp only at hA
      rw [if_neg (by decide)] at hA
      have HNN : Hid (∀ W, Ext w W → Calls Tryz.prog 80 #[.string x, .int .i64 4] W fun e w' => e = .returned (.tuple #[.int .i64 (n : Int), .bool true]) ∧ Ext W w') := Lib.hid fun W e => (HNM.out W e).mono fun e w' ⟨⟨v, he, hv⟩, hb⟩ => ⟨by rw [he, hnm, hv n hnm]; rfl, hb⟩
      have hCK := fun W => eCheckE_any (⟨(n : Int), t⟩ : Ent) W
      simp only [Ent.val] at hCK
      clear HNM hnm
      by_cases hk : (⟨(n : Int), t⟩ : Ent).ok
      case neg =>
        rw [if_pos hk] at hA
        rw [if_neg hk] at hCK
        have hne := Ent.err_ne (⟨(n : Int), t⟩ : Ent)
        obtain ⟨fe, hfe⟩ : ∃ v, (⟨(n : Int), t⟩ : Ent).err = v := ⟨_, rfl⟩
        rw [hfe] at hA hCK hne
        have hok := isOk_no hne
        have HR := Lib.hid hA
        have HCK := Lib.hid hCK
        clear hk hA hCK hne hfe
        go_enter Tryz.func50, Tryz.ntmps50
        go_wp2_with fail
        refine HC.out.mono ?_
        rintro _ w1 ⟨rfl, hb1⟩
        go_wp2_with fail
        refine (HNN.out _ hb1).mono ?_
        rintro _ w2 ⟨rfl, hb2⟩
        have e2 := hb1.trans hb2
        go_wp2_with fail
        refine (HCK.out _).mono ?_
        rintro _ w3 ⟨rfl, hb3⟩
        have e3 : Ext w w3 := Ext.trans (by (repeat (with_reducible first | exact Ext.refl _ | assumption | refine Ext.drew ?_ | refine Ext.drewN ?_ _ | refine Ext.alloc ?_ _ | refine Ext.trans ?_ (by with_reducible assumption)))) hb3
        go_wp2_with fail
        go_ret2
        rw [HR.out]
        exact ⟨rfl, DOp.stay HD.out e3⟩
      rw [if_neg (not_not_intro hk)] at hA
      rw [if_pos hk, errR_0] at hCK
      have HCK := Lib.hid hCK
      clear hk hCK
      obtain ⟨ve, mb, va, vw, h1, h2⟩ := HD.out
      obtain ⟨A, c, hva, hc1, hrd, -⟩ := own_rd h1.own
      have hl := h1.good.es.1
      obtain ⟨k, hk⟩ : ∃ k, d.es.length = k := ⟨_, rfl⟩
      rw [hk] at hA hl hva
      have HVA := Lib.hid hva
      have H1 := Lib.hid h1
      have H2 := Lib.hid h2
      have HKL := Lib.hid hk
      clear hva h1 h2 hk hrd
      by_cases hf : 200 ≤ k
      · have hr2 := hA
        rw [if_pos hf] at hr2
        have HR := Lib.hid hr2
        clear hA hr2
        go_enter Tryz.func50, Tryz.ntmps50
        go_wp2_with fail
        refine HC.out.mono ?_
        rintro _ w1 ⟨rfl, hb1⟩
        go_wp2_with fail
        refine (HNN.out _ hb1).mono ?_
        rintro _ w2 ⟨rfl, hb2⟩
        have e2 := hb1.trans hb2
        go_wp2_with fail
        refine (HCK.out _).mono ?_
        rintro _ w3 ⟨rfl, hb3⟩
        have e3 : Ext w w3 := Ext.trans (by (repeat (with_reducible first | exact Ext.refl _ | assumption | refine Ext.drew ?_ | refine Ext.drewN ?_ _ | refine Ext.alloc ?_ _ | refine Ext.trans ?_ (by with_reducible assumption)))) hb3
        have y0 : w3.cell? ⟨db, 0, none⟩ = some (.slice A k c) := by rw [← HVA.out]; exact (H1.out.ext e3).bk.cell 0
        go_wp2_with fail
        go_ret2
        rw [HR.out]
        exact ⟨rfl, DOp.stay HD.out e3⟩
      · have hr2 := hA
        rw [if_neg hf] at hr2
        have HR := Lib.hid hr2
        have hgd : ({ d with es := d.es ++ [⟨(n : Int), t⟩] } : Dk).Good := by have := HGA.out; rw [hr2] at this; exact this
        have HGD := Lib.hid hgd
        obtain ⟨i0, hi0, hz0, hzs, hzb⟩ := info_parts info_ent
        clear hA hr2 HGA hgd
        go_enter Tryz.func50, Tryz.ntmps50
        go_wp2_with fail
        refine HC.out.mono ?_
        rintro _ w1 ⟨rfl, hb1⟩
        go_wp2_with fail
        refine (HNN.out _ hb1).mono ?_
        rintro _ w2 ⟨rfl, hb2⟩
        have e2 := hb1.trans hb2
        have BE2 := Bk.at_ w2 67 #[.int .i64 (n : Int), .string t] w2.heap.size rfl
        go_wp2_with fail
        refine (HCK.out _).mono ?_
        rintro _ w3 ⟨rfl, hb3⟩
        have e3 : Ext w w3 := Ext.trans (by (repeat (with_reducible first | exact Ext.refl _ | assumption | refine Ext.drew ?_ | refine Ext.drewN ?_ _ | refine Ext.alloc ?_ _ | refine Ext.trans ?_ (by with_reducible assumption)))) hb3
        have BE3 := BE2.ext hb3
        obtain ⟨ge, hge⟩ : ∃ g, w2.heap.size = g := ⟨_, rfl⟩
        rw [hge] at BE3 ⊢
        have HE3 := Lib.hid e3
        have x0 : w3.cell? ⟨ge, 0, none⟩ = some (.int .i64 (n : Int)) := BE3.cell 0
        have x1 : w3.cell? ⟨ge, 1, none⟩ = some (.string t) := BE3.cell 1
        clear hb1 e2 BE2 hb2 hb3 e3 hge BE3
        have H3 := Lib.hid (H1.out.ext HE3.out)
        have y0 : w3.cell? ⟨db, 0, none⟩ = some (.slice A k c) := by rw [← HVA.out]; exact H3.out.bk.cell 0
        have HWA : Hid (w3.ownsRow 0 67 2 ve k (d.es.flatMap Ent.cells)) := by
          have := H3.out.own
          rw [HKL.out] at this; exact this
        have y0a : (w3.alloc (.cells #[.int .i64 (n : Int), .string t] 67)).cell? ⟨db, 0, none⟩ = some (.slice A k c) := by rw [← HVA.out]; exact (H3.out.bk.alloc _).cell 0
        have y0b : (w3.drew.alloc (.cells #[.int .i64 (n : Int), .string t] 67)).cell? ⟨db, 0, none⟩ = some (.slice A k c) := by rw [← HVA.out]; exact (H3.out.bk.drew.alloc _).cell 0
        go_upto_region 11 with (fail)
        go_cut [] (fun wc => Hid (DOp 45 75 w S db { d with es := d.es ++ [⟨(n : Int), t⟩] } wc))
        case first =>
          as_aux_lemma =>
          go_region_law (refine step_apps (by rfl) _ _ _ (by rfl) 0 67 i0 _ 2 24 Tryz.underlying27 hi0 hz0 hzs hzb rfl (by omega) ve k _ (by exact HVA.out.symm) (own_ext HWA.out (by (repeat (with_reducible first | exact Ext.refl _ | assumption | refine Ext.drew ?_ | refine Ext.drewN ?_ _ | refine Ext.alloc ?_ _ | refine Ext.trans ?_ (by with_reducible assumption))))) ⟨w3.heap.size, 0, none⟩ 1 1 [.int .i64 (n : Int), .string t] (by rfl) rfl (news_new w3 _ _ _ rfl) (by intro u hu; simp at hu; rcases hu with rfl | rfl <;> rfl) (by omega) (by omega) (by omega) (Nat.zero_le _) ?_; intro g cap w5 own5 hg5 hH5 hl5; have B5 := ((H3.out.ext (by (repeat (with_reducible first | exact Ext.refl _ | assumption | refine Ext.drew ?_ | refine Ext.drewN ?_ _ | refine Ext.alloc ?_ _ | refine Ext.trans ?_ (by with_reducible assumption))))).bk).kept hg5 H3.out.db_ne.1; have v0 : w5.cell? ⟨db, 0, none⟩ = some ve := B5.cell 0; have q0 := B5.frozen 0)
          all_goals
            have hset := gb_set w5 db 0 (.slice (some ⟨g, 0, none⟩) (k + 1) cap)
            have B6 : Bk (w5.setCell ⟨db, 0, none⟩ (.slice (some ⟨g, 0, none⟩) (k + 1) cap)) db 45 #[.slice (some ⟨g, 0, none⟩) (k + 1) cap, .pointer (some ⟨mb, 0, none⟩)] := B5.set_ 0 _
            have HO := H3.out.added H2.out (fun g hg => HS.out g (Nat.le_trans HE3.out.size hg)) (e := ⟨(n : Int), t⟩) (g := g) (cap := cap) (by (repeat (with_reducible first | exact Ext.refl _ | assumption | refine Ext.drew ?_ | refine Ext.drewN ?_ _ | refine Ext.alloc ?_ _ | refine Ext.trans ?_ (by with_reducible assumption)))) (by rw [HKL.out]; exact own5) hg5 hH5 hset (by rw [HKL.out]; exact B6) HGD.out
            have HDO := Lib.hid ((show DOp 45 75 w3 S db _ _ from HO).from_ HE3.out)
            go_wp2_with fail
            go_meet
            exact HDO
        case rest =>
        as_aux_lemma =>
        go_wp2_with fail
        go_ret2
        rw [HR.out]
        exact ⟨rfl, hcut.out⟩
end Go.Proofs.YtnphbkjkeipmmaaGreatDoor

/- run: a step of the mirror. -/
namespace Go.Proofs.YtnphbkjkeipmmaaGreatDoor
open Go.RowKit Go.WideShapes
set_option linter.unusedVariables false
attribute [local go_sem ↓] Go.wp_at_zero Go.wp_at_succ

theorem hear_D {S : Nat → Prop} {db mb : Nat} {ve va vw : Value} {d : Dk} {w W : World} (h1 : DAt 45 75 w db ve mb va vw d) (h2 : ∀ g, DFoot db ve mb va vw g → S g) (hN : ∀ g, w.heap.size ≤ g → S g) (hD : DebG w) (hP : PowG w) (e : Ext w W)
    (r : Rp) {A A' : Option Addr} {n c n' c' : Nat} (hr : Rd W 2 A n c (r.ents.flatMap Ent.cells)) (hm : c ≤ maxLen) (hr' : Rd W 1 A' n' c' (r.proof.map (Value.int .i64))) (hm' : c' ≤ maxLen) (hgd : ({ d with m := (d.m.hear r).1 } : Dk).Good) :
    Calls Tryz.prog 104 #[.pointer (some ⟨mb, 0, none⟩), replyV r.what r.head A n c A' n' c'] W fun x w' => x = .returned (errR (d.m.hear r).2) ∧ DOp 45 75 w S db { d with m := (d.m.hear r).1 } w' := by
  have h3 := h1.ext e
  refine (Hear_any (MSet W mb va vw) mb d.m r A n c A' n' c' W h3.mm (fun g hg => .inr hg) (hD.ext e) (hP.ext e) hr hm hr' hm').mono fun x w' ⟨q1, q2, q3⟩ => ⟨q1, ?_⟩
  exact (show DOp _ _ W S db _ w' from h3.heard h2 (fun g hg => hN g (Nat.le_trans e.size hg)) q2 q3 hgd).from_ e
set_option maxRecDepth 100000 in
set_option maxHeartbeats 8000000 in
theorem Step_any (S : Nat → Prop) (db : Nat) (d : Dk) (bad : Bool) (w : World) (h : DD 45 75 w S db d) (hS : ∀ g, w.heap.size ≤ g → S g) (hD : DebG w) (hP : PowG w) :
    Calls Tryz.prog 76 #[.pointer (some ⟨db, 0, none⟩), .bool bad] w fun e w' => e = .returned (outV (stepD d bad).2) ∧ DOp 45 75 w S db (stepD d bad).1 w' := by
  have hgd := stepD_good h.good bad
  have hsp : sentR d bad = if bad then spoilR (replyD d.es d.m.want).1 else (replyD d.es d.m.want).1 := rfl
  obtain ⟨ve, mb, va, vw, h1, h2⟩ := h
  have hgood := h1.good
  rw [stepD_ok hgood] at hgd ⊢
  have HHR := Lib.hid fun W (e : Ext w W) A n c A' n' c' hr hm hr' hm' => hear_D (S := S) h1 h2 hS hD hP e (sentR d bad) (A := A) (n := n) (c := c) (A' := A') (n' := n') (c' := c') hr hm hr' hm' hgd
  have HMW : Hid (∀ W, Ext w W → Calls Tryz.prog 74 #[.pointer (some ⟨mb, 0, none⟩)] W fun e w' => e = .returned d.m.want.val ∧ Ext W w') := Lib.hid fun W e => MWant_any mb va vw d.m W (h1.ext e).mir
  have HRP := Lib.hid fun W (e : Ext w W) => Reply_any db mb ve va vw d W (h1.ext e) (hD.ext e) (hP.ext e)
  have HSP := Lib.hid fun (w0 : World) rb A A' n c n' c' W => Spoil_any d hgood w0 rb A A' n c n' c' W
  have H1 := Lib.hid h1
  obtain ⟨wt, hwt⟩ : ∃ x, d.m.want = x := ⟨_, rfl⟩
  obtain ⟨rp, hrp⟩ : ∃ x, (replyD d.es d.m.want).1 = x := ⟨_, rfl⟩
  rw [hrp] at HSP hsp
  have hrp2 := hrp
  rw [hwt] at HMW HRP hrp2
  rw [hrp2] at HRP
  obtain ⟨sr, hsr⟩ : ∃ x, sentR d bad = x := ⟨_, rfl⟩
  rw [hsr] at HHR hsp
  obtain ⟨code, hcode⟩ : ∃ x, (d.m.hear (sentR d bad)).2 = x := ⟨_, rfl⟩
  obtain ⟨m', hm'⟩ : ∃ x, (d.m.hear (sentR d bad)).1 = x := ⟨_, rfl⟩
  rw [hcode, hm']
  rw [hsr] at hcode hm'
  rw [hcode, hm'] at HHR
  obtain ⟨t1, t2, t3⟩ := wt
  simp only [Wt.val] at HMW HRP
  clear h1 h2 hS hD hP hgd hgood hwt hrp hrp2 hsr hcode hm'
  go_enter Tryz.func76, Tryz.ntmps76
  have y1 : w.cell? ⟨db, 1, none⟩ = some (.pointer (some ⟨mb, 0, none⟩)) := H1.out.bk.cell 1
  go_wp2_with fail
  refine (HMW.out _ (Ext.refl _)).mono ?_
  rintro _ w1 ⟨rfl, hb1⟩
  go_wp2_with fail
  refine (HRP.out _ hb1).mono ?_
  rintro _ w2 ⟨⟨A, n, c, A', n', c', rfl, hnew⟩, hb2⟩
  obtain ⟨r1, ⟨r2, r3, r4, r5⟩, r6, r7⟩ := rp
  have e2 := hb1.trans hb2
  have B2 := Bk.at_ w2 87 #[.int .i64 r1, .int .i64 r2, .int .i64 r3, .int .i64 r4, .int .i64 r5, .slice A n c, .slice A' n' c'] w2.heap.size rfl
  have e3 : Ext w (w2.alloc (.cells #[.int .i64 r1, .int .i64 r2, .int .i64 r3, .int .i64 r4, .int .i64 r5, .slice A n c, .slice A' n' c'] 87)) := e2.alloc _
  have hnw : RpNew w.heap.size (w2.alloc (.cells #[.int .i64 r1, .int .i64 r2, .int .i64 r3, .int .i64 r4, .int .i64 r5, .slice A n c, .slice A' n' c'] 87)) ⟨r1, ⟨r2, r3, r4, r5⟩, r6, r7⟩ A n c A' n' c' := ⟨own_lower (own_ext hnew.1 ((Ext.refl w2).alloc _)) hb1.size, own_lower (own_ext hnew.2 ((Ext.refl w2).alloc _)) hb1.size⟩
  have hrb : w.heap.size ≤ w2.heap.size := e2.size
  simp only [replyV]
  go_upto_if 19 with (fail)
  generalize w2.alloc (.cells #[.int .i64 r1, .int .i64 r2, .int .i64 r3, .int .i64 r4, .int .i64 r5, .slice A n c, .slice A' n' c'] 87) = W2 at *
  generalize w2.heap.size = rb at *
  have HB2 := Lib.hid B2
  have HE3 := Lib.hid e3
  have HNW := Lib.hid hnw
  have y2 : W2.cell? ⟨db, 1, none⟩ = some (.pointer (some ⟨mb, 0, none⟩)) := (H1.out.ext e3).bk.cell 1
  clear hb1 hb2 e2 B2 e3 hnw hnew y1 HMW HRP
  cases bad with
  | false =>
    have hsr : sr = ⟨r1, ⟨r2, r3, r4, r5⟩, r6, r7⟩ := hsp
    subst hsr
    clear HSP hsp
    have z0 := HB2.out.cell 0
    have z1 := HB2.out.cell 1
    have z2 := HB2.out.cell 2
    have z3 := HB2.out.cell 3
    have z4 := HB2.out.cell 4
    have z5 := HB2.out.cell 5
    have z6 := HB2.out.cell 6
    go_wp2_with fail
    go_region_with (first
      | (go_at_call 104; refine (HHR.out _ (HE3.out.trans ?_) A n c A' n' c' ((own_A HNW.out.1).2.ext ?_) (own_A HNW.out.1).1 ((own_A HNW.out.2).2.ext ?_) (own_A HNW.out.2).1).mono ?_; (focus ((repeat (with_reducible first | exact Ext.refl _ | assumption | refine Ext.drew ?_ | refine Ext.drewN ?_ _ | refine Ext.alloc ?_ _ | refine Ext.trans ?_ (by with_reducible assumption))); done)); (focus ((repeat (with_reducible first | exact Ext.refl _ | assumption | refine Ext.drew ?_ | refine Ext.drewN ?_ _ | refine Ext.alloc ?_ _ | refine Ext.trans ?_ (by with_reducible assumption))); done)); (focus ((repeat (with_reducible first | exact Ext.refl _ | assumption | refine Ext.drew ?_ | refine Ext.drewN ?_ _ | refine Ext.alloc ?_ _ | refine Ext.trans ?_ (by with_reducible assumption))); done)); rintro _ w5 ⟨rfl, hop⟩; have HOP := Lib.hid hop; clear hop)
      | fail)
    all_goals
      go_wp2_with fail
      go_ret2
      exact ⟨rfl, HOP.out.ext (by (repeat (with_reducible first | exact Ext.refl _ | assumption | refine Ext.drew ?_ | refine Ext.drewN ?_ _ | refine Ext.alloc ?_ _ | refine Ext.trans ?_ (by with_reducible assumption))))⟩
  | true =>
    have hsr : sr = spoilR ⟨r1, ⟨r2, r3, r4, r5⟩, r6, r7⟩ := hsp
    subst hsr
    clear hsp
    go_wp2_with fail
    refine (HSP.out w rb A A' n c n' c' _ HB2.out HNW.out HE3.out hrb).mono ?_
    rintro _ w4 ⟨⟨v4, rfl⟩, ⟨A5, n5, c5, A6, n6, c6, k1, k2, k3, k4, k5, k6⟩⟩
    obtain ⟨sr, hsr⟩ : ∃ x, spoilR ⟨r1, ⟨r2, r3, r4, r5⟩, r6, r7⟩ = x := ⟨_, rfl⟩
    rw [hsr] at k1 k2 k4 HHR
    obtain ⟨q1, ⟨q2, q3, q4, q5⟩, q6, q7⟩ := sr
    have z0 := k1.cell 0
    have z1 := k1.cell 1
    have z2 := k1.cell 2
    have z3 := k1.cell 3
    have z4 := k1.cell 4
    have z5 := k1.cell 5
    have z6 := k1.cell 6
    have y4 : w4.cell? ⟨db, 1, none⟩ = some (.pointer (some ⟨mb, 0, none⟩)) := (H1.out.ext k6).bk.cell 1
    have K2 := Lib.hid k2
    have K3 := Lib.hid k3
    have K4 := Lib.hid k4
    have K5 := Lib.hid k5
    have K6 := Lib.hid k6
    clear k1 k2 k3 k4 k5 k6 y2 HSP hsr
    go_wp2_with fail
    go_region_with (first
      | (go_at_call 104; refine (HHR.out _ (K6.out.trans ?_) A5 n5 c5 A6 n6 c6 (K2.out.ext ?_) K3.out (K4.out.ext ?_) K5.out).mono ?_; (focus ((repeat (with_reducible first | exact Ext.refl _ | assumption | refine Ext.drew ?_ | refine Ext.drewN ?_ _ | refine Ext.alloc ?_ _ | refine Ext.trans ?_ (by with_reducible assumption))); done)); (focus ((repeat (with_reducible first | exact Ext.refl _ | assumption | refine Ext.drew ?_ | refine Ext.drewN ?_ _ | refine Ext.alloc ?_ _ | refine Ext.trans ?_ (by with_reducible assumption))); done)); (focus ((repeat (with_reducible first | exact Ext.refl _ | assumption | refine Ext.drew ?_ | refine Ext.drewN ?_ _ | refine Ext.alloc ?_ _ | refine Ext.trans ?_ (by with_reducible assumption))); done)); rintro _ w5 ⟨rfl, hop⟩; have HOP := Lib.hid hop; clear hop)
      | fail)
    all_goals
      go_wp2_with fail
      go_ret2
      exact ⟨rfl, HOP.out.ext (by (repeat (with_reducible first | exact Ext.refl _ | assumption | refine Ext.drew ?_ | refine Ext.drewN ?_ _ | refine Ext.alloc ?_ _ | refine Ext.trans ?_ (by with_reducible assumption))))⟩
end Go.Proofs.YtnphbkjkeipmmaaGreatDoor
