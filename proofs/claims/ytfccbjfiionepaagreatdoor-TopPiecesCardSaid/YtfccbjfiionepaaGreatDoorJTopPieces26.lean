/- Prune: the proofs that are made, learned. -/
import Derived.Test.YtfccbjfiionepaaGreatDoorJTopPieces25
import Derived.Test.YtfccbjfiionepaaGreatDoorJTopPieces19
import Derived.Test.YtfccbjfiionepaaGreatDoorJTopPieces10
import Derived.Test.YtfccbjfiionepaaGreatDoorJTopPieces21
import Derived.Test.YtfccbjfiionepaaGreatDoorJTopPieces22
import Derived.Test.YtfccbjfiionepaaGreatDoorJTopPieces23
import Derived.Deep.RegionHeld3
import Derived.Deep.DeepCutAuto
import Derived.BigQuiet
namespace Go.Proofs.YtfccbjfiionepaaGreatDoor
open Go.RowKit
set_option linter.unusedVariables false

theorem kl_wf {i : Int} (h : 0 ≤ i) (h2 : i ≤ 1000000) : (kl i).wf = true := by simp [Lit.wf, IntKind.min, IntKind.max, IntKind.signed, IntKind.bits]; omega
/-! ### how many are known -/
def cntN (f : Nat → Bool) : Nat → Nat
  | 0 => 0
  | n + 1 => cntN f n + (if f n = true then 1 else 0)
theorem cntN_le (f : Nat → Bool) : ∀ n, cntN f n ≤ n
  | 0 => Nat.le_refl _
  | n + 1 => by
    have := cntN_le f n
    rw [cntN]
    split <;> omega
theorem cntN_same {f g : Nat → Bool} : ∀ {n : Nat}, (∀ j, j < n → f j = g j) → cntN f n = cntN g n
  | 0, _ => rfl
  | n + 1, h => by rw [cntN, cntN, cntN_same (n := n) fun j hj => h j (by omega), h n (by omega)]
theorem cntN_set {f g : Nat → Bool} {i : Nat} (h : ∀ j, j ≠ i → f j = g j) : ∀ {n : Nat}, i < n → cntN g n + (if f i = true then 1 else 0) = cntN f n + (if g i = true then 1 else 0)
  | 0, hi => by omega
  | n + 1, hi => by
    rw [cntN, cntN]
    by_cases hin : i = n
    · subst hin
      rw [cntN_same (f := f) (g := g) fun j hj => h j (by omega)]
      omega
    · have := cntN_set h (n := n) (by omega)
      rw [h n (by omega)]
      omega
theorem cntN_none : ∀ n, cntN (fun _ => false) n = 0
  | 0 => rfl
  | n + 1 => by rw [cntN, cntN_none n]; rfl
/-- all that is known is right -/
structure KGood (xs : List Int) (n : Nat) (K : Kn) (cnt : Nat) : Prop where
  inv : ∀ (j : Int) (s : Int) (q : List Int), K j = some (s, q) → ∃ jn : Nat, j = (jn : Int) ∧ xs[jn]? = some s ∧ q = wayL xs jn
  num : cnt = cntN (fun j => (K (j : Int)).isSome) n
theorem KGood.start (xs : List Int) (n : Nat) : KGood xs n (fun _ => none) 0 := ⟨fun j s q h => (by cases h), (cntN_none n).symm⟩
theorem KGood.learn {xs : List Int} {n cnt i : Nat} {K : Kn} {z : Int} (h : KGood xs n K cnt) (hz : xs[i]? = some z) (hi : i < n) : KGood xs n (K.set (i : Int) (some (z, wayL xs i))) (cntL K (i : Int) cnt) := by
  refine ⟨fun j s q hj => ?_, ?_⟩
  · unfold Kn.set at hj
    by_cases e : j = (i : Int)
    · rw [if_pos e] at hj
      injection hj with hj
      injection hj with h1 h2
      subst h1 h2 e
      exact ⟨i, rfl, hz, rfl⟩
    · rw [if_neg e] at hj
      exact h.inv j s q hj
  · have := cntN_set (f := fun j => (K (j : Int)).isSome) (g := fun j : Nat => (K.set (i : Int) (some (z, wayL xs i)) (j : Int)).isSome) (i := i) (fun j hj => by
      show _ = Option.isSome (Kn.set _ _ _ _)
      unfold Kn.set
      rw [if_neg (by omega)]) hi
    have e1 : (K.set (i : Int) (some (z, wayL xs i)) (i : Int)).isSome = true := by unfold Kn.set; rw [if_pos rfl]; rfl
    simp only [e1, if_true] at this
    unfold cntL
    rw [h.num]
    cases hk : (K (i : Int)).isSome
    · rw [hk] at this; simp at this ⊢; omega
    · rw [hk] at this; simp at this ⊢; omega
theorem KGood.forget {xs : List Int} {n cnt i : Nat} {K : Kn} (h : KGood xs n K cnt) (hs : (K (i : Int)).isSome = true) (hi : i < n) : KGood xs n (K.set (i : Int) none) (cnt - 1) := by
  refine ⟨fun j s q hj => ?_, ?_⟩
  · unfold Kn.set at hj
    by_cases e : j = (i : Int)
    · rw [if_pos e] at hj; cases hj
    · rw [if_neg e] at hj
      exact h.inv j s q hj
  · have := cntN_set (f := fun j => (K (j : Int)).isSome) (g := fun j : Nat => (K.set (i : Int) none (j : Int)).isSome) (i := i) (fun j hj => by
      show _ = Option.isSome (Kn.set _ _ _ _)
      unfold Kn.set
      rw [if_neg (by omega)]) hi
    have e1 : (K.set (i : Int) none (i : Int)).isSome = false := by unfold Kn.set; rw [if_pos rfl]; rfl
    simp only [e1, hs] at this
    rw [h.num]
    simp at this
    omega
theorem KGood.other {xs : List Int} {n cnt i : Nat} {K : Kn} {z : Int} (h : KGood xs n K cnt) (hz : xs[i]? = some z) : K (i : Int) = none ∨ ∃ q, K (i : Int) = some (z, q) := by
  cases hk : K (i : Int) with
  | none => exact .inl rfl
  | some x =>
    obtain ⟨s, q⟩ := x
    obtain ⟨jn, e, h2, _⟩ := h.inv _ _ _ hk
    have : i = jn := by omega
    subst this
    rw [hz] at h2
    injection h2 with h2
    subst h2
    exact .inr ⟨q, rfl⟩
theorem KGood.le {xs : List Int} {n cnt : Nat} {K : Kn} (h : KGood xs n K cnt) : cnt ≤ n := by rw [h.num]; exact cntN_le _ _
theorem set_known {K : Kn} {i size : Int} {z : Int} {p : List Int} (h : 0 ≤ i ∧ i < size) : fdK size (K.set i (some (z, p))) i = 0 ∧ knS size (K.set i (some (z, p))) i = z ∧ knP size (K.set i (some (z, p))) i = p := by
  have e1 : K.set i (some (z, p)) i = some (z, p) := if_pos rfl
  have e2 := fdK_some h e1
  refine ⟨e2, ?_, ?_⟩
  · unfold knS; rw [if_pos e2, e1]; rfl
  · unfold knP; rw [if_pos e2, e1]; rfl
theorem way_two : wayL [5, 6] 0 = [6] ∧ ofL [5, 6] = nodeL 5 6 := by
  have h2 : half 2 = 1 := half_eq (n := 2) (k := 0) (by decide) (by decide) (by decide) (by decide)
  constructor
  · rw [wayL_left (by decide) (by decide) (by show 0 < half 2; rw [h2]; decide)]
    show wayL (List.take (half 2) [5, 6]) 0 ++ [ofL (List.drop (half 2) [5, 6])] = [6]
    rw [h2]
    show wayL [5] 0 ++ [ofL [6]] = [6]
    rw [wayL_one (by decide), ofL_one]; rfl
  · rw [ofL_node (by decide) (by decide)]
    show nodeL (ofL (List.take (half 2) [5, 6])) (ofL (List.drop (half 2) [5, 6])) = _
    rw [h2]
    show nodeL (ofL [5]) (ofL [6]) = _
    rw [ofL_one, ofL_one]
theorem Tr.mlt {w : World} {base tb mb N cnt : Nat} {size root : Int} {K : Kn} (h : Tr w base tb mb size root N K cnt) : mb < w.heap.size := by
  obtain ⟨D, h1, _⟩ := h.ex
  exact h1.lt
theorem fdK_known {size i : Int} {K : Kn} (h : fdK size K i = 0) : (K i).isSome = true := by
  unfold fdK at h
  by_cases h1 : 0 ≤ i ∧ i < size
  · rw [if_pos h1] at h
    cases hk : (K i).isSome
    · rw [hk] at h; cases h
    · rfl
  · rw [if_neg h1] at h; cases h
end Go.Proofs.YtfccbjfiionepaaGreatDoor

/- TopPieces: the walk. -/
namespace Go.Proofs.YtfccbjfiionepaaGreatDoor.topPieces
open Go.RowKit Go.WideShapes
set_option linter.unusedVariables false
attribute [local go_sem ↓] Go.wp_at_zero Go.wp_at_succ

theorem addS_size (a b : ByteArray) : (a ++ b).size = a.size + b.size := ByteArray.size_append
theorem beq_self (s : ByteArray) : (s.toList == s.toList) = true := beq_iff_eq.2 rfl
set_option maxRecDepth 100000 in
set_option maxHeartbeats 4000000 in
theorem walk_no (A : Option Addr) (n c : Nat) (es : List Ent) (i : Int) (w : World) (hm : c ≤ maxLen) (hr : Rd w 2 A n c (es.flatMap Ent.cells)) (hk : ¬ entsOk es) :
    Calls Tryz.prog 3 #[.slice A n c, .int .i64 i] w fun e w' => e = .returned (.bool true) ∧ Ext w w' := by
  obtain ⟨hE, hN, hG0⟩ := errR_rules
  have hne := entsErr_bad hk
  have HO := Lib.hid fun W => one_any W
  have HLF : Hid (∀ W, Ext w W → Calls Tryz.prog 7 #[.slice A n c] W fun e w' => e = .returned (.tuple #[.slice none 0 0, errR (entsErr es)]) ∧ Ext W w') := Lib.hid fun W e => (Leafs_bad A n c es W (hr.ext e) hm hk).mono fun e w' hh => ⟨hh.1.trans (by rw [errR_ne hne]), hh.2⟩
  obtain ⟨sk, hsk⟩ : ∃ v, entsErr es = v := ⟨_, rfl⟩
  rw [hsk] at hne HLF
  have hok := isOk_no hne
  clear hr hm hk hsk hne
  go_enter Tryz.func3, Tryz.ntmps3
  go_wp2_with fail
  refine (HO.out _).mono ?_
  rintro _ w1 ⟨rfl, hb1⟩
  have E1 := Lib.hid hb1
  clear hb1 HO
  go_wp2_with fail
  refine (HLF.out _ E1.out).mono ?_
  rintro _ w2 ⟨rfl, hb2⟩
  have E2 := Lib.hid (E1.out.trans hb2)
  clear hb2
  go_wp2_with fail
  go_ret
  exact ⟨rfl, E2.out.alloc _⟩
set_option maxRecDepth 100000 in
set_option maxHeartbeats 16000000 in
theorem walk_yes (A : Option Addr) (n c : Nat) (es : List Ent) (i : Int) (w : World) (hm : c ≤ maxLen) (hr : Rd w 2 A n c (es.flatMap Ent.cells)) (hD : DebG w) (hP : PowG w) (hS : StrG w) (hM : MaxG w) (hk : entsOk es) :
    Calls Tryz.prog 3 #[.slice A n c, .int .i64 i] w fun e w' => e = .returned (.bool true) ∧ Ext w w' := by
  obtain ⟨hE, hN, hG0⟩ := errR_rules
  have hx := hr.lenE
  have hsk : shK es 7 0 = 0 := shK_ok hk (by decide) (by decide)
  obtain ⟨_, hsh, hver, _⟩ := sh_parts hsk
  have hn200 : n ≤ 200 := by have := hk.1; omega
  obtain ⟨xs, hxs⟩ : ∃ xs, es.map Ent.leaf = xs := ⟨_, rfl⟩
  have hlo : leafsOk xs := by rw [← hxs]; exact leafs_of_ents hk
  have hxl : xs.length = n := by rw [← hxs, List.length_map, hx]
  have HO := Lib.hid fun W => one_any W
  have HLF : Hid (∀ W, Ext w W → Calls Tryz.prog 7 #[.slice A n c] W fun e w' => (∃ A2 c2, e = .returned (.tuple #[.slice A2 n c2, .nilIface]) ∧ c2 ≤ maxLen ∧ Rd w' 1 A2 n c2 (xs.map (Value.int .i64))) ∧ Ext W w') := Lib.hid fun W e => by
    have h1 := Leafs_ok A n c es W (hr.ext e) hm hk
    rw [hx] at h1
    refine h1.mono fun e' w' hh => ?_
    obtain ⟨⟨v, q1, q2⟩, q3⟩ := hh
    obtain ⟨A2, c2, rfl, q4, q5, _⟩ := own_rd q2
    rw [hxs] at q5
    exact ⟨⟨A2, c2, q1, q4, q5⟩, q3⟩
  have hHS : ∀ W, Ext w W → Calls Tryz.prog 14 #[.slice A n c, .int .i64 7, .int .i64 0] W fun e w' => e = .returned (.tuple #[(shH es 7 0).val, .nilIface]) ∧ Ext W w' := fun W e => by
    have := SHead_any A n c es 7 0 W (hr.ext e) hm (hD.ext e) (hP.ext e)
    rw [hsk] at this
    exact this
  have hVF : ∀ W, Ext w W → Calls Tryz.prog 16 #[(shH es 7 0).val, .int .i64 7] W fun e w' => e = .returned .nilIface ∧ Ext W w' := fun W e => by
    have := Verify_any (shH es 7 0) 7 W (hD.ext e) (hP.ext e)
    rw [hver] at this
    exact this
  rw [hsh, hxs, hx] at hHS hVF
  obtain ⟨ro, hro⟩ : ∃ r, ofL xs = r := ⟨_, rfl⟩
  have hvr : vld ro = true := by rw [← hro]; exact vld_ofL hlo.2 (by omega)
  obtain ⟨sg, hsg⟩ : ∃ v, signI (lgB n (ofL xs) 0) 7 = v := ⟨_, rfl⟩
  rw [hsg, hro] at hHS hVF
  simp only [Hd.val] at hHS hVF
  have HHS := Lib.hid hHS
  have HVF := Lib.hid hVF
  have HZL : Hid (∀ (j : Nat) (z : Int) s, xs[j]? = some z → s = ⟨#[108, 101, 97, 102, 32]⟩ ++ digB j → ansR es 7 0 s = (hexT z.toNat, 0)) := Lib.hid fun j z s hz e => by
    rw [← hxs, List.getElem?_map] at hz
    cases hj : es[j]? with
    | none => rw [hj] at hz; cases hz
    | some x =>
      rw [hj] at hz
      obtain rfl : x.leaf = z := by simpa using hz
      exact ans_leaf hsk hj e
  have HAL : Hid (∀ W (j : Nat) z, Ext w W → j < n → xs[j]? = some z → Calls Tryz.prog 22 #[.slice A n c, .int .i64 7, .int .i64 0, .string (⟨#[108, 101, 97, 102, 32]⟩ ++ digB j)] W fun e w' => e = .returned (.tuple #[.string (hexT z.toNat), .nilIface]) ∧ Ext W w') := Lib.hid fun W j z e hj hz => by
    have hd : (digB j).size ≤ 4 := digB_four (by omega)
    have := Answer_any A n c es 7 0 (⟨#[108, 101, 97, 102, 32]⟩ ++ digB j) W (hr.ext e) hm (by
      rw [addS_size]
      have h1 : (⟨#[108, 101, 97, 102, 32]⟩ : ByteArray).size = 5 := rfl
      omega) (hD.ext e) (hP.ext e) (hS.ext e) (hM.ext e)
    refine this.mono fun e w' hh => ⟨?_, hh.2⟩
    have h1 := hh.1
    unfold AnsR at h1
    rw [HZL.out j z _ hz rfl] at h1
    exact h1
  have HPR : Hid (∀ W z, Ext w W → vld z = true → Calls Tryz.prog 23 #[.int .i64 z] W fun e w' => e = .returned (.tuple #[.string (hexT z.toNat), .nilIface]) ∧ Ext W w') := Lib.hid fun W z e hz => by
    have := MPrint_any z W (hD.ext e)
    unfold prV prK at this
    rw [if_pos hz, if_pos hz] at this
    exact this
  have HDG := Lib.hid fun (k : Nat) W (hk : k ≤ 1000000000) => RDigits_any k k W (Nat.le_refl _) hk
  have HX := Lib.hid hxl
  have HLO := Lib.hid hlo
  have HRO := Lib.hid hro
  have HVR := Lib.hid hvr
  clear hr hm hD hP hS hM hk hx hsk hsh hver hxs hlo hxl hHS hVF hro hvr hsg HZL
  go_enter Tryz.func3, Tryz.ntmps3
  go_wp2_with fail
  refine (HO.out _).mono ?_
  rintro _ w1 ⟨rfl, hb1⟩
  have E1 := Lib.hid hb1
  clear hb1 HO
  go_wp2_with fail
  refine (HLF.out _ E1.out).mono ?_
  rintro _ w2 ⟨⟨A2, c2, rfl, hc2, R2⟩, hb2⟩
  have BL := Bk.at_ w2 24 #[.slice A2 n c2] w2.heap.size rfl
  have e2 : Ext w2 (w2.alloc (.cells #[.slice A2 n c2] 24)) := (Ext.refl _).alloc _
  have R3 := R2.ext e2
  have hnc2 := R2.2.1
  have hc2s : c2 ≤ 9223372036854775807 := by unfold maxLen at hc2; omega
  go_upto_region 5 with (fail)
  generalize w2.alloc (.cells #[.slice A2 n c2] 24) = w3 at *
  generalize w2.heap.size = gl at *
  have HBL := Lib.hid BL
  have HR3 := Lib.hid R3
  have HC2 := Lib.hid hc2
  have E3 := Lib.hid (E1.out.trans (hb2.trans e2))
  have b0 := BL.cell 0
  have hgl := BL.lt
  clear hb2 e2 R2 R3 BL hc2 HLF E1
  go_wp2_with fail
  refine (Root_ok A2 n c2 xs _ HR3.out HC2.out HLO.out).mono ?_
  rw [HRO.out]
  rintro _ w4 ⟨rfl, hb4⟩
  have HE4 := Lib.hid hb4
  clear b0 hb4
  go_wp2_with fail
  refine (PNew_pk _).mono ?_
  rintro _ w5 ⟨rfl, hp5, hb5⟩
  obtain ⟨pb, hpb⟩ : ∃ b, b = w4.heap.size := ⟨_, rfl⟩
  rw [← hpb] at hp5 ⊢
  have HP5 := Lib.hid (hp5.lower (b := w3.heap.size) (by rw [hpb]; exact HE4.out.size))
  have HE5 := Lib.hid (HE4.out.trans hb5)
  clear hp5 hb5 hpb HE4
  have HVA := Lib.hid HLO.out.2
  go_wp2_with fail
  go_loopw [11] (fun x wr => ∃ (j : Nat) (rp : Option Nat), x = .int .i64 j ∧ j ≤ n ∧ Hid (Ext w3 wr) ∧ Hid (Pk wr w3.heap.size pb rp (xs.take j))) (fun x _ => n - (intOf x).toNat)
  case atStart => exact ⟨0, none, rfl, Nat.zero_le _, HE5, HP5⟩
  case round =>
    obtain ⟨j, rp, rfl, hj, HEr, HP⟩ := hrel
    have b0 := (HBL.out.ext HEr.out).cell 0
    by_cases hc : j < n
    · as_aux_lemma =>
      have hcI : (j : Int) < (n : Int) := by omega
      have hgj := List.getElem?_eq_getElem (l := xs) (i := j) (by rw [HX.out]; exact hc)
      obtain ⟨zz, hzz⟩ : ∃ zz, xs[j]'(by rw [HX.out]; exact hc) = zz := ⟨_, rfl⟩
      rw [hzz] at hgj
      obtain ⟨AN1, AN2⟩ := appX_next hgj HVA.out (by rw [HX.out]; omega)
      have HN1 := Lib.hid AN1
      have HN2 := Lib.hid AN2
      have HVT := Lib.hid (allV_take HVA.out j)
      obtain ⟨ad, rfl, hb, cz⟩ := (HR3.out.ext HEr.out).getI hgj
      clear hzz hgj AN1 AN2
      go_wp2_with fail
      refine (Append_any HP.out HEr.out.size HVT.out zz).mono ?_
      rw [HN1.out, HN2.out]
      rintro _ w6 ⟨rfl, rp', hp6, ht6, _⟩
      have HE6 := Lib.hid (HP.out.step HEr.out (Nat.le_refl _) ht6)
      have HP6 := Lib.hid hp6
      clear hp6 ht6
      rw [errR_0]
      go_wp2_with fail
      go_roundw
      case rel => exact ⟨j + 1, rp', by go_num, hc, HE6, HP6⟩
      case measure => simp [intOf]; omega
    as_aux_lemma =>
    obtain rfl : j = n := by omega
    have htl : xs.take j = xs := List.take_of_length_le (by rw [HX.out]; exact Nat.le_refl _)
    have HPr : Hid (Pk wr w3.heap.size pb rp xs) := by rw [← htl]; exact HP
    have HTR := Lib.hid fun W (e : Ext w3 W) => TRoot3_ok gl A2 j c2 xs W (HR3.out.ext e) HC2.out HLO.out (HBL.out.ext e)
    rw [HRO.out] at HTR
    have ht4096 : Hid (xs.length ≤ 200) := by rw [Hid, HX.out]; omega
    clear htl HP
    go_wp2_with fail
    refine (HTR.out _ HEr.out).mono ?_
    rintro _ w6 ⟨rfl, hb6⟩
    have HE6 := Lib.hid (HEr.out.trans hb6)
    have HP6 := Lib.hid (HPr.out.ext hb6)
    clear b0 hb6 HPr HTR HEr
    go_wp2_with fail
    refine (HHS.out _ (E3.out.trans HE6.out)).mono ?_
    rintro _ w7 ⟨rfl, hb7⟩
    have BH := Bk.at_ w7 40 #[.int .i64 j, .int .i64 ro, .int .i64 0, .int .i64 sg] w7.heap.size rfl
    have e7 : Ext w6 (w7.alloc (.cells #[.int .i64 j, .int .i64 ro, .int .i64 0, .int .i64 sg] 40)) := hb7.alloc _
    go_upto_region 16 with (fail)
    generalize w7.alloc (.cells #[.int .i64 j, .int .i64 ro, .int .i64 0, .int .i64 sg] 40) = w8 at *
    generalize w7.heap.size = gh at *
    have HBH := Lib.hid BH
    have HE8 := Lib.hid (HE6.out.trans e7)
    have HP8 := Lib.hid (HP6.out.ext e7)
    clear hb7 BH e7 HP6 HE6 HHS
    have C1 : Hid (∀ W, Ext w8 W → Calls Tryz.prog 15 #[.pointer (some ⟨pb, 0, none⟩)] W fun e w' => e = .returned (.int .i64 ro) ∧ Ext W w') := Lib.hid fun W e => by
      have := PRoot_any (HP8.out.ext e) ht4096.out HVA.out
      rw [HRO.out] at this
      exact this
    have C2 : Hid (∀ W, Ext w8 W → Calls Tryz.prog 16 #[.agg #[.int .i64 j, .int .i64 ro, .int .i64 0, .int .i64 sg], .int .i64 7] W fun e w' => e = .returned .nilIface ∧ Ext W w') := Lib.hid fun W e => HVF.out W (E3.out.trans (HE8.out.trans e))
    have hrr : (ro == ro) = true := beq_iff_eq.2 rfl
    go_cut [97] (fun b wc => b = .bool false ∧ Ext w8 wc)
    case first =>
      as_aux_lemma =>
      go_wp2_with fail
      refine (C1.out _ (Ext.refl _)).mono ?_
      rintro _ w9 ⟨rfl, hb9⟩
      have x0 := (HBH.out.ext hb9).cell 0
      have x1 := (HBH.out.ext hb9).cell 1
      have x2 := (HBH.out.ext hb9).cell 2
      have x3 := (HBH.out.ext hb9).cell 3
      go_wp2_with fail
      refine (C2.out _ hb9).mono ?_
      rintro _ w10 ⟨rfl, hb10⟩
      go_wp2_with fail
      go_meet
      exact ⟨rfl, hb9.trans hb10⟩
    case rest =>
    as_aux_lemma =>
    obtain ⟨rfl, hb9⟩ := hcut
    obtain ⟨w9, rfl⟩ : ∃ W, W = wc := ⟨_, rfl⟩
    have HE9 := Lib.hid (HE8.out.trans hb9)
    clear hb9 C1 C2 HBH HE8 HP8 HVF
    have b0 := (HBL.out.ext HE9.out).cell 0
    by_cases hi : 0 ≤ i ∧ i < (j : Int)
    case neg =>
      have hi' : i < 0 ∨ (0 ≤ i ∧ (j : Int) ≤ i) := by omega
      clear hi
      rcases hi' with h | ⟨h, h'⟩
      all_goals
        go_wp2_with fail
        go_ret
        exact ⟨rfl, E3.out.trans HE9.out⟩
    obtain ⟨hi0, hi1⟩ := hi
    obtain ⟨p, rfl⟩ := Int.eq_ofNat_of_zero_le hi0
    have hpn : p < j := by omega
    have hgz := List.getElem?_eq_getElem (l := xs) (i := p) (by rw [HX.out]; exact hpn)
    obtain ⟨z, hz⟩ : ∃ z, xs[p]'(by rw [HX.out]; exact hpn) = z := ⟨_, rfl⟩
    rw [hz] at hgz
    have HGZ := Lib.hid hgz
    obtain ⟨ad, rfl, hadb, cz⟩ := HR3.out.getI hgz
    have HCZ := Lib.hid cz
    obtain ⟨q1, q2⟩ := pmV_way HLO.out HX.out hpn
    have HPC := Lib.hid (pcheck_way HLO.out HX.out hgz)
    rw [HRO.out] at HPC
    have HWL := Lib.hid (way_len_le (xs := xs) (i := p) (by have := HX.out; omega))
    obtain ⟨wy, hwy⟩ : ∃ q, wayL xs p = q := ⟨_, rfl⟩
    rw [hwy] at q1 HPC HWL
    have HMK : Hid (∀ W, Ext w3 W → Calls Tryz.prog 18 #[.slice (some ad) j c2, .int .i64 p, .int .i64 j] W fun e w' => (∃ A8 c8, e = .returned (.tuple #[.slice A8 wy.length c8, .nilIface]) ∧ c8 ≤ maxLen ∧ Rd w' 1 A8 wy.length c8 (wy.map (Value.int .i64))) ∧ Ext W w') := Lib.hid fun W e => by
      have := PMake_any (some ad) j c2 xs (p : Int) (j : Int) W (HR3.out.ext e) HC2.out
      rw [q1, q2] at this
      refine this.mono fun e w' hh => ?_
      obtain ⟨⟨v8, r1, o8⟩, r3⟩ := hh
      obtain ⟨A8, c8, rfl, hc8, R8⟩ := o8.rd
      exact ⟨⟨A8, c8, r1, hc8, R8⟩, r3⟩
    have hwf := kl_wf (i := (p : Int)) (by omega) (by omega)
    have HVZ := Lib.hid (allV_get HVA.out hgz)
    clear hz hgz cz q1 q2 hwy
    have hi1' : ¬ (j : Int) ≤ (p : Int) := by omega
    go_wp2_with fail
    refine (PrNew_ok (j : Int) ro _ (by omega) (by omega) HVR.out).mono ?_
    rintro _ w10 ⟨⟨tb, mb, rfl, ht10⟩, hb10⟩
    have HE10 := Lib.hid (HE9.out.trans hb10)
    have HT10 := Lib.hid (ht10.lower (b := w3.heap.size) HE9.out.size)
    clear ht10 hb10 b0 HE9
    have b0 := (HBL.out.ext HE10.out).cell 0
    go_wp2_with fail
    refine (HMK.out _ HE10.out).mono ?_
    rintro _ w11 ⟨⟨A8, c8, rfl, hc8, R8⟩, hb11⟩
    have HE11 := Lib.hid (HE10.out.trans hb11)
    have HT11 := Lib.hid (HT10.out.ext hb11)
    have HR8 := Lib.hid R8
    have HC8 := Lib.hid hc8
    clear hb11 b0 HE10 HT10 R8 hc8 HMK
    have b0 := (HBL.out.ext HE11.out).cell 0
    have d1 : w11.cell? (ad.add p) = some (.int .i64 z) := (HE11.out.cell (by rw [blk_add]; exact hadb)).trans HCZ.out
    go_wp2_with fail
    refine (Learn_ok HT11.out (by omega) (p : Int) z A8 wy.length c8 wy HR8.out HC8.out HWL.out HE11.out.size HPC.out (.inl rfl) hwf).mono ?_
    rintro _ w12 ⟨rfl, ht12, hg12⟩
    have HE12 := Lib.hid (HT11.out.step HE11.out (Nat.le_refl _) hg12)
    have HT12 := Lib.hid ht12
    clear ht12 hg12
    clear b0 d1 HE11 HT11 HR8 HC8 HBL
    obtain ⟨s1, s2, s3⟩ := set_known (K := fun _ => none) (i := (p : Int)) (size := (j : Int)) (z := z) (p := wy) ⟨by omega, by omega⟩
    have HKN := Lib.hid (Knows_any HT12.out (p : Int) (by omega))
    rw [s1, s2, errR_0] at HKN
    have HA := Lib.hid fun W (e : Ext w W) => HAL.out W p z e hpn HGZ.out
    have HD2 := Lib.hid (HDG.out p · (by omega))
    have hdp : (digB p).size ≤ 4 := digB_four (by omega)
    obtain ⟨dp, hdp2⟩ : ∃ s, digB p = s := ⟨_, rfl⟩
    rw [hdp2] at HA HD2 hdp
    have HPZ := Lib.hid fun W (e : Ext w W) => HPR.out W z e HVZ.out
    obtain ⟨tx, htx⟩ : ∃ s, hexT z.toNat = s := ⟨_, rfl⟩
    rw [htx] at HA HPZ
    clear s1 s2 s3 hdp2 htx HAL HDG HPR HT12
    go_wp2_with fail
    refine HKN.out.mono ?_
    rintro _ w13 ⟨rfl, hb13⟩
    have HE13 := Lib.hid (E3.out.trans (HE12.out.trans hb13))
    clear hb13 HKN
    go_wp2_with fail
    refine (HD2.out _).mono ?_
    rintro _ w14 ⟨rfl, hb14⟩
    have HE14 := Lib.hid (HE13.out.trans hb14)
    clear hb14 HE13
    go_wp2_with fail
    refine (HA.out _ HE14.out).mono ?_
    rintro _ w15 ⟨rfl, hb15⟩
    have HE15 := Lib.hid (HE14.out.trans hb15)
    clear hb15 HE14 HA
    go_wp2_with fail
    refine (HPZ.out _ HE15.out).mono ?_
    rintro _ w16 ⟨rfl, hb16⟩
    have HE16 := Lib.hid (HE15.out.trans hb16)
    have hss := beq_self tx
    clear hb16 HE15
    go_wp2_with fail
    go_ret
    exact ⟨rfl, HE16.out⟩

theorem walk (A : Option Addr) (n c : Nat) (es : List Ent) (i : Int) (w : World)
    (hl : es.length = n) (hm : c ≤ maxLen) (hr : Rd w 2 A n c (es.flatMap Ent.cells)) (ge : ∀ y ∈ es, y.good) (gi : igood i) (hS : StrG w) (hD : DebG w) (hP : PowG w) (hM : MaxG w) :
    Calls Tryz.prog 3 #[.slice A n c, .int .i64 i] w fun e w' => e = .returned (.bool true) ∧ Ext w w' := by
  by_cases hk : entsOk es
  · exact walk_yes A n c es i w hm hr hD hP hS hM hk
  · exact walk_no A n c es i w hm hr hk
end Go.Proofs.YtfccbjfiionepaaGreatDoor.topPieces
