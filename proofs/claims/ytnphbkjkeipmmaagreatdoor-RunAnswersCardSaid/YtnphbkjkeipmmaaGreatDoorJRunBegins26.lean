/- serve.whole, Answer. -/
import Derived.Test.YtnphbkjkeipmmaaGreatDoorJRunBegins25
import Derived.Test.YtnphbkjkeipmmaaGreatDoorJRunBegins17
import Derived.Test.YtnphbkjkeipmmaaGreatDoorJRunBegins14
namespace Go.Proofs.YtnphbkjkeipmmaaGreatDoor
open Go.RowKit Go.WideShapes
set_option linter.unusedVariables false
attribute [local go_sem ↓] Go.wp_at_zero Go.wp_at_succ

theorem find_at {α : Type} (p : α → Bool) : ∀ (l : List α) (j : Nat) (x : α), l[j]? = some x → (∀ i y, i < j → l[i]? = some y → p y = false) → p x = true → l.find? p = some x
  | [], j, x, h, _, _ => by simp at h
  | y :: l, 0, x, h, _, hp => by
    obtain rfl : y = x := by simpa using h
    rw [List.find?_cons, hp]
  | y :: l, j + 1, x, h, hn, hp => by
    have h0 := hn 0 y (by omega) rfl
    rw [List.find?_cons, h0]
    exact find_at p l j x (by simpa using h) (fun i z hi hz => hn (i + 1) z (by omega) (by simpa using hz)) hp
theorem find_no {α : Type} (p : α → Bool) (l : List α) (h : ∀ (i : Nat) y, i < l.length → l[i]? = some y → p y = false) : l.find? p = none := by
  rw [List.find?_eq_none]
  intro x hx
  obtain ⟨i, hi⟩ := List.getElem?_of_mem hx
  have := h i x (List.getElem?_eq_some_iff.1 hi).1 hi
  simp [this]
set_option maxRecDepth 100000 in
set_option maxHeartbeats 4000000 in
theorem Whole_any (A : Option Addr) (n c : Nat) (xs : List Int) (k i : Nat) (w : World) (hr : Rd w 1 A n c (xs.map (Value.int .i64))) (hm : c ≤ maxLen) (hk : leafsOk xs) :
    Calls Tryz.prog 89 #[.slice A n c, .int .i64 k, .int .i64 i] w fun e w' => (∃ v, e = .returned (.tuple #[v, errR (wholeK xs k i)]) ∧ OwnN w w' v (wholeV xs k i)) ∧ Ext w w' := by
  have hx := hr.lenI
  have hn : n ≤ 200 := by have := hk.1; omega
  have hnc := hr.2.1
  have hcs : c ≤ 9223372036854775807 := by unfold maxLen at hm; omega
  have HAL := Lib.hid (AllOf_any n w hn)
  have HTM : Hid (∀ t ∈ allT n 4, ∃ k i m : Nat, k < 4 ∧ t = ⟨(k : Int), (i : Int), (m : Int)⟩ ∧ 1 ≤ m ∧ m ≤ 4 ∧ i * 4 + m ≤ n / 4 ^ k) := Lib.hid (allT_mem n 4)
  have hlen := allT_len n hn 4
  obtain ⟨ts, hts⟩ : ∃ ts, allT n 4 = ts := ⟨_, rfl⟩
  have HSO : Hid (∀ k i m : Nat, k ≤ 3 → m ≤ 4 → i * 4 + m ≤ n / 4 ^ k → ∀ W, Ext w W → Calls Tryz.prog 121 #[.slice A n c, .agg #[.int .i64 k, .int .i64 i, .int .i64 m]] W fun e w' => (∃ v, e = .returned v ∧ OwnN W w' v (sumsT xs k i m)) ∧ Ext W w') := Lib.hid fun k i m h1 h2 h3 W e => SumsOf_any A n c xs k i m W (hr.ext e) hm hk h1 h2 h3
  have HV1 : Hid (∀ t : Tl, ts.find? (fun t => decide (t.level = (k : Int) ∧ t.index = (i : Int))) = some t → wholeV xs k i = sumsT xs t.level.toNat t.index.toNat t.wide.toNat ∧ wholeK xs k i = 0) := Lib.hid fun t h => by
    unfold wholeV wholeK wholeT
    rw [hx, hts, h]
    exact ⟨rfl, rfl⟩
  have HV0 : Hid (ts.find? (fun t => decide (t.level = (k : Int) ∧ t.index = (i : Int))) = none → wholeV xs k i = [] ∧ wholeK xs k i = 5) := Lib.hid fun h => by
    unfold wholeV wholeK wholeT
    rw [hx, hts, h]
    exact ⟨rfl, rfl⟩
  rw [hts] at HAL HTM hlen
  obtain ⟨wv, hwv⟩ : ∃ v, wholeV xs k i = v := ⟨_, rfl⟩
  obtain ⟨wk, hwk⟩ : ∃ v, wholeK xs k i = v := ⟨_, rfl⟩
  rw [hwv, hwk] at HV0 HV1
  rw [hwv, hwk]
  clear hr hk hts hwv hwk
  go_enter Tryz.func89, Tryz.ntmps89
  go_wp2_with fail
  refine HAL.out.mono ?_
  rintro _ w1 ⟨⟨v1, rfl, own1⟩, hb1⟩
  obtain ⟨A1, c1, rfl, hc1, R1, -⟩ := own_rd own1
  obtain ⟨l, hl⟩ : ∃ l, ts.length = l := ⟨_, rfl⟩
  rw [hl] at R1
  rw [hl]
  have HL := Lib.hid hl
  have HR1 := Lib.hid R1
  have HE1 := Lib.hid hb1
  have hl2000 : l ≤ 2000 := by omega
  have hlc := R1.2.1
  have hc1s : c1 ≤ 9223372036854775807 := by unfold maxLen at hc1; omega
  clear own1 R1 hb1 hl HAL hlen
  go_wp2_with fail
  go_loopw [14] (fun x wr => ∃ j : Nat, x = .int .i64 j ∧ j ≤ l ∧ Hid (Ext w wr) ∧ Hid (Ext w1 wr) ∧ Hid (∀ (q : Nat) y, q < j → ts[q]? = some y → decide (y.level = (k : Int) ∧ y.index = (i : Int)) = false)) (fun x _ => l - (intOf x).toNat)
  case atStart => exact ⟨0, rfl, Nat.zero_le _, HE1, Ext.refl _, Lib.hid fun q y h => absurd h (by omega)⟩
  case round =>
    obtain ⟨j, rfl, hj, HEr, HE1r, HNO⟩ := hrel
    by_cases hc : j < l
    case neg =>
      obtain rfl : j = l := by omega
      obtain ⟨q1, q2⟩ := HV0.out (find_no _ _ fun q y hq hy => HNO.out q y (by rw [← HL.out]; exact hq) hy)
      subst q1 q2
      go_wp2_with fail
      go_ret2
      exact ⟨⟨_, rfl, OwnN.nil _ _⟩, HEr.out⟩
    have hcI : (j : Int) < (l : Int) := by omega
    have hgj := List.getElem?_eq_getElem (l := ts) (i := j) (by rw [HL.out]; exact hc)
    have hmem := HTM.out _ (List.mem_of_getElem? hgj)
    obtain ⟨ad, hA, hb, c0, c1', c2⟩ := (HR1.out.ext HE1r.out).getT hgj
    generalize ts[j]'(by rw [HL.out]; exact hc) = t at *
    obtain ⟨tk, ti, tm, ht1, rfl, ht2, ht3, ht4⟩ := hmem
    subst hA
    have HGJ := Lib.hid hgj
    have HT4 := Lib.hid ht4
    dsimp only at c0 c1' c2
    clear hgj ht4
    have B9 := Bk.at_ wr 100 #[.int .i64 tk, .int .i64 ti, .int .i64 tm] wr.heap.size rfl
    have e9 : Ext wr (wr.alloc (.cells #[.int .i64 tk, .int .i64 ti, .int .i64 tm] 100)) := (Ext.refl _).alloc _
    go_upto_region 4 with (fail)
    generalize wr.alloc (.cells #[.int .i64 tk, .int .i64 ti, .int .i64 tm] 100) = W9 at *
    generalize wr.heap.size = g9 at *
    have y0 := B9.cell 0
    have y1 := B9.cell 1
    have y2 := B9.cell 2
    have HE9 := Lib.hid (HEr.out.trans e9)
    have HE19 := Lib.hid (HE1r.out.trans e9)
    clear B9 e9 c0 c1' c2
    by_cases hk2 : tk = k
    case neg =>
      have hb' : ((tk : Int) == (k : Int)) = false := beq_eq_false_iff_ne.2 (by omega)
      go_wp2_with fail
      go_roundw
      case rel => exact ⟨j + 1, by go_num, by omega, HE9, HE19, Lib.hid fun q y hq hy => by
        by_cases hqj : q = j
        · subst hqj
          rw [HGJ.out] at hy
          injection hy with hy
          subst hy
          exact decide_eq_false fun h => hk2 (by have h1 : (tk : Int) = (k : Int) := h.1; omega)
        · exact HNO.out q y (by omega) hy⟩
      case measure => simp [intOf]; omega
    subst hk2
    by_cases hi2 : ti = i
    case neg =>
      have hb' : ((ti : Int) == (i : Int)) = false := beq_eq_false_iff_ne.2 (by omega)
      go_wp2_with fail
      go_roundw
      case rel => exact ⟨j + 1, by go_num, by omega, HE9, HE19, Lib.hid fun q y hq hy => by
        by_cases hqj : q = j
        · subst hqj
          rw [HGJ.out] at hy
          injection hy with hy
          subst hy
          exact decide_eq_false fun h => hi2 (by have h1 : (ti : Int) = (i : Int) := h.2; omega)
        · exact HNO.out q y (by omega) hy⟩
      case measure => simp [intOf]; omega
    subst hi2
    have hf := HV1.out _ (find_at _ _ j _ HGJ.out (fun q y hq hy => HNO.out q y hq hy) (decide_eq_true ⟨rfl, rfl⟩))
    obtain ⟨q1, q2⟩ := hf
    dsimp only at q1
    rw [Int.toNat_natCast, Int.toNat_natCast, Int.toNat_natCast] at q1
    subst q2
    have HQ := Lib.hid q1
    clear q1
    go_wp2_with fail
    refine (HSO.out tk ti tm (by omega) ht3 HT4.out _ HE9.out).mono ?_
    rintro _ w4 ⟨⟨v4, rfl, own4⟩, hb4⟩
    have HS := Lib.hid HE9.out.size
    have HO4 := Lib.hid own4
    clear own4
    go_wp2_with fail
    go_ret2
    exact ⟨⟨_, rfl, by rw [HQ.out]; exact HO4.out.lower HS.out⟩, HE9.out.trans hb4⟩
end Go.Proofs.YtnphbkjkeipmmaaGreatDoor

/- The proof of a leaf is one; plain. -/
namespace Go.Proofs.YtnphbkjkeipmmaaGreatDoor
set_option linter.unusedVariables false

theorem pcheck_way {xs : List Int} {n i : Nat} {z : Int} (hk : leafsOk xs) (hl : xs.length = n) (hz : xs[i]? = some z) : pcheck (ofL xs) (n : Int) (i : Int) z (wayL xs i) = 0 := by
  have hi : i < xs.length := (List.getElem?_eq_some_iff.1 hz).1
  have hn := hk.1
  refine pcheck_ok ⟨by omega, by omega, by omega⟩ ⟨vld_ofL hk.2 (by omega), allV_get hk.2 hz, allV_way xs.length xs i (Nat.le_refl _) (by omega) hk.2⟩ ?_ ?_
  · rw [Int.toNat_natCast, Int.toNat_natCast, wayL_len xs.length xs i (Nat.le_refl _) (by omega), hl]
  · rw [Int.toNat_natCast, Int.toNat_natCast, ← hl]
    exact up_way xs.length xs i z (Nat.le_refl _) (by omega) hz
theorem pmV_way {xs : List Int} {n i : Nat} (hk : leafsOk xs) (hl : xs.length = n) (hi : i < n) : pmV xs (i : Int) (n : Int) = wayL xs i ∧ pmK xs (i : Int) (n : Int) = 0 := by
  have h := pmK_ok (xs := xs) (i := (i : Int)) (m := (n : Int)) hk ⟨by omega, by omega, by omega⟩
  refine ⟨?_, h⟩
  unfold pmV
  rw [if_pos h, Int.toNat_natCast, Int.toNat_natCast, List.take_of_length_le (by omega)]
theorem way_len_le {xs : List Int} {i : Nat} (hn : xs.length ≤ 4096) : (wayL xs i).length ≤ 4096 := by
  rw [wayL_len xs.length xs i (Nat.le_refl _) hn]
  by_cases h0 : 1 ≤ xs.length
  · have := stepsN_lt xs.length i xs.length (Nat.le_refl _) hn h0
    omega
  · rw [stepsN_one i (by omega)]; omega
end Go.Proofs.YtnphbkjkeipmmaaGreatDoor

/- serve.Answer. -/
namespace Go.Proofs.YtnphbkjkeipmmaaGreatDoor
open Go.RowKit Go.WideShapes
set_option linter.unusedVariables false
attribute [local go_sem ↓] Go.wp_at_zero Go.wp_at_succ

/-- which word was read -/
theorem askR_word {s x : ByteArray} {ns : List Nat} (h : askR s = some (x, ns)) : (x = wHead ∧ ns.length = 0) ∨ (x = wProof ∧ ns.length = 2) ∨ (x = wGrow ∧ ns.length = 2) ∨ (x = wTile ∧ ns.length = 2) ∨ (x = wLeaf ∧ ns.length = 1) ∨ (x = wEntry ∧ ns.length = 1) := by
  unfold askR at h
  split at h
  · cases h
  · rename_i w r hp
    cases hw : wantN w with
    | none => simp only [hw] at h; cases h
    | some n =>
      simp only [hw] at h
      by_cases hl : r.length = n
      · rw [if_pos hl] at h
        cases hn : numsR r with
        | none => rw [hn] at h; cases h
        | some ms =>
          rw [hn] at h
          injection h with h
          injection h with h1 h2
          subst h1 h2
          have hml := numsR_len hn
          unfold wantN at hw
          split at hw
          · rename_i e; injection hw with hw; exact .inr (.inr (.inr (.inl ⟨e, by omega⟩)))
          split at hw
          · rename_i e; injection hw with hw; exact .inr (.inr (.inl ⟨e, by omega⟩))
          split at hw
          · rename_i e; injection hw with hw; exact .inr (.inl ⟨e, by omega⟩)
          split at hw
          · rename_i e; injection hw with hw; exact .inr (.inr (.inr (.inr (.inl ⟨e, by omega⟩))))
          split at hw
          · rename_i e; injection hw with hw; exact .inr (.inr (.inr (.inr (.inr ⟨e, by omega⟩))))
          split at hw
          · rename_i e; injection hw with hw; exact .inl ⟨e, by omega⟩
          · cases hw
      · rw [if_neg hl] at h; cases h
theorem pmV_bd {xs : List Int} (h : leafsOk xs) (i m : Int) : (pmV xs i m).length ≤ 4096 ∧ allV (pmV xs i m) = true := by
  have hl := h.1
  unfold pmV
  split
  · have h2 : (xs.take m.toNat).length ≤ 4096 := by rw [List.length_take]; omega
    exact ⟨way_len_le h2, allV_way _ _ _ (Nat.le_refl _) h2 (allV_take h.2 _)⟩
  · exact ⟨by simp, rfl⟩
theorem gmV_bd {xs : List Int} (h : leafsOk xs) (i m : Int) : (gmV xs i m).length ≤ 4096 ∧ allV (gmV xs i m) = true := by
  have hl := h.1
  unfold gmV
  split
  · rename_i h0
    have h1 : 1 ≤ i ∧ i ≤ m ∧ m ≤ xs.length := Decidable.byContradiction fun k => by
      rw [gmK_range h k] at h0; cases h0
    have h2 : (xs.take m.toNat).length = m.toNat := by rw [List.length_take]; omega
    refine ⟨?_, growL_vld m.toNat _ _ _ (by omega) (by omega) (by omega) (by omega) (allV_take h.2 _)⟩
    rw [growL_len m.toNat _ _ _ (by omega) (by omega) (by omega) (by omega), h2]
    have := gsteps_le m.toNat i.toNat m.toNat true (Nat.le_refl _) (by omega) (by omega)
    omega
  · exact ⟨by simp, rfl⟩
theorem sumsT_leafs {xs : List Int} (hv : allV xs = true) (hl : xs.length ≤ 200) (k i m : Nat) (hm : m ≤ 4) : leafsOk (sumsT xs k i m) := by
  refine ⟨by rw [sumsT_len]; omega, ?_⟩
  unfold allV sumsT
  rw [List.all_eq_true]
  intro x hx
  rw [List.mem_map] at hx
  obtain ⟨j, _, rfl⟩ := hx
  exact vld_ofL (allV_drop (allV_take hv _) _) (by rw [List.length_drop, List.length_take]; omega)

theorem whV_bd {xs : List Int} (h : leafsOk xs) (k i : Nat) : (wholeV xs k i).length ≤ 4096 ∧ allV (wholeV xs k i) = true := by
  have hl := h.1
  unfold wholeV
  split
  · exact ⟨by simp, rfl⟩
  · rename_i t ht
    obtain ⟨tk, ti, tm, _, rfl, _, h4, _⟩ := allT_mem _ _ _ (List.mem_of_find?_eq_some ht)
    have := sumsT_leafs h.2 hl tk ti tm h4
    exact ⟨by have := this.1; show (sumsT xs tk ti tm).length ≤ 4096; omega, this.2⟩
section
variable {es : List Ent} {h : Hd} {a b : Nat}
theorem ansW_head : ansW es h wHead a b = (headB h, 0) := by unfold ansW; exact if_pos rfl
theorem ansW_proof : ansW es h wProof a b = (sumsV (pmV (es.map Ent.leaf) a b) (pmK (es.map Ent.leaf) a b), pmK (es.map Ent.leaf) a b) := by unfold ansW; rw [if_neg (by decide), if_pos rfl]
theorem ansW_grow : ansW es h wGrow a b = (sumsV (gmV (es.map Ent.leaf) a b) (gmK (es.map Ent.leaf) a b), gmK (es.map Ent.leaf) a b) := by unfold ansW; rw [if_neg (by decide), if_neg (by decide), if_pos rfl]
theorem ansW_tile : ansW es h wTile a b = (sumsV (wholeV (es.map Ent.leaf) a b) (wholeK (es.map Ent.leaf) a b), wholeK (es.map Ent.leaf) a b) := by unfold ansW; rw [if_neg (by decide), if_neg (by decide), if_neg (by decide), if_pos rfl]
theorem ansW_leaf {e : Ent} (k : es[a]? = some e) : ansW es h wLeaf a b = (hexT e.leaf.toNat, 0) := by unfold ansW; rw [if_neg (by decide), if_neg (by decide), if_neg (by decide), if_neg (by decide), k]; exact if_pos rfl
theorem ansW_entry {e : Ent} (k : es[a]? = some e) : ansW es h wEntry a b = (entT e, 0) := by unfold ansW; rw [if_neg (by decide), if_neg (by decide), if_neg (by decide), if_neg (by decide), k]; exact if_neg (by decide)
theorem ansW_leaf0 (k : es[a]? = none) : ansW es h wLeaf a b = (⟨#[]⟩, 5) := by unfold ansW; rw [if_neg (by decide), if_neg (by decide), if_neg (by decide), if_neg (by decide), k]
theorem ansW_entry0 (k : es[a]? = none) : ansW es h wEntry a b = (⟨#[]⟩, 5) := by unfold ansW; rw [if_neg (by decide), if_neg (by decide), if_neg (by decide), if_neg (by decide), k]
end
def AnsR (es : List Ent) (key now : Int) (s : ByteArray) (e : Ending) : Prop := e = .returned (.tuple #[.string (ansR es key now s).1, errR (ansR es key now s).2])
theorem AnsR.of {es : List Ent} {key now : Int} {s : ByteArray} {z : ByteArray × Int} (h : ansR es key now s = z) {e : Ending} (he : e = .returned (.tuple #[.string z.1, errR z.2])) : AnsR es key now s e := by unfold AnsR; rw [h]; exact he
set_option maxRecDepth 100000 in
set_option maxHeartbeats 8000000 in
theorem Answer_any (A : Option Addr) (n c : Nat) (es : List Ent) (key now : Int) (s : ByteArray) (w : World) (hr : Rd w 2 A n c (es.flatMap Ent.cells)) (hm : c ≤ maxLen) (hs : s.size ≤ 1048576) (hD : DebG w) (hP : PowG w) (hG : StrG w) (hM : MaxG w) :
    Calls Tryz.prog 51 #[.slice A n c, .int .i64 key, .int .i64 now, .string s] w fun e w' => AnsR es key now s e ∧ Ext w w' := by
  obtain ⟨hE, hN, hG0⟩ := errR_rules
  have hx := hr.lenE
  have hnc := hr.2.1
  have hcs : c ≤ 9223372036854775807 := by unfold maxLen at hm; omega
  have HRD := Lib.hid (SRead_any s w hs hG hP hM)
  have HSH := Lib.hid fun W (e : Ext w W) => SHead_any A n c es key now W (hr.ext e) hm (hD.ext e) (hP.ext e)
  have HD := Lib.hid hD
  have HPW := Lib.hid hP
  have HR := Lib.hid hr
  have HM := Lib.hid hm
  have HX := Lib.hid hx
  unfold RdP at HRD
  cases hask : askR s with
  | none =>
    have HZ : Hid (ansR es key now s = (⟨#[]⟩, 2)) := by show ansR es key now s = _; unfold ansR; rw [hask]
    rw [hask] at HRD
    clear hr hm hD hP hG hM hx hask
    go_enter Tryz.func51, Tryz.ntmps51
    go_wp2_with fail
    refine HRD.out.mono ?_
    rintro _ w1 ⟨rfl, hb1⟩
    go_wp2_with fail
    go_ret2
    exact ⟨AnsR.of HZ.out rfl, hb1⟩
  | some z =>
    obtain ⟨x, ns⟩ := z
    rw [hask] at HRD
    have hword := askR_word hask
    by_cases hsk : shK es key now = 0
    case neg =>
      have HZ : Hid (ansR es key now s = (⟨#[]⟩, shK es key now)) := by show ansR es key now s = _; unfold ansR; rw [hask]; exact if_pos hsk
      obtain ⟨sk, hsk2⟩ : ∃ v, shK es key now = v := ⟨_, rfl⟩
      obtain ⟨sh, hsh2⟩ : ∃ v, shH es key now = v := ⟨_, rfl⟩
      rw [hsk2] at HZ HSH hsk
      rw [hsh2] at HSH
      have hok := isOk_no hsk
      obtain ⟨h0, h1, h2, h3⟩ := sh
      simp only [Hd.val] at HSH
      clear hr hm hD hP hG hM hx hask hword hsk hsk2 hsh2
      go_enter Tryz.func51, Tryz.ntmps51
      go_wp2_with fail
      refine HRD.out.mono ?_
      rintro _ w1 ⟨⟨v, rfl, own1⟩, hb1⟩
      have HE1 := Lib.hid hb1
      clear own1 hb1
      go_wp2_with fail
      refine (HSH.out _ HE1.out).mono ?_
      rintro _ w2 ⟨rfl, hb2⟩
      have HE2 := Lib.hid (HE1.out.trans hb2)
      clear hb2
      go_wp2_with fail
      go_ret2
      exact ⟨AnsR.of HZ.out rfl, HE2.out.alloc _⟩
    have HZ : Hid (ansR es key now s = ansW es (shH es key now) x (ns.getD 0 0) (ns.getD 1 0)) := by show ansR es key now s = _; unfold ansR; rw [hask]; exact if_neg (not_not_intro hsk)
    obtain ⟨hek, hsh, hver, hkey⟩ := sh_parts hsk
    have hlo := leafs_of_ents hek
    have hn200 : n ≤ 200 := by have := hek.1; omega
    have hHok : (shH es key now).ok = true := (verK_zero hver).2.1
    have HLF : Hid (∀ W, Ext w W → Calls Tryz.prog 84 #[.slice A n c] W fun e w' => (∃ A2 c2, e = .returned (.tuple #[.slice A2 n c2, .nilIface]) ∧ c2 ≤ maxLen ∧ Rd w' 1 A2 n c2 ((es.map Ent.leaf).map (Value.int .i64))) ∧ Ext W w') := Lib.hid fun W e => by
      have h1 := Leafs_ok A n c es W (hr.ext e) hm hek
      rw [hx] at h1
      refine h1.mono fun e' w' hh => ?_
      obtain ⟨⟨v, q1, q2⟩, q3⟩ := hh
      obtain ⟨A2, c2, rfl, q4, q5, _⟩ := own_rd q2
      exact ⟨⟨A2, c2, q1, q4, q5⟩, q3⟩
    obtain ⟨sh, hsh2⟩ : ∃ v, shH es key now = v := ⟨_, rfl⟩
    rw [hsk] at HSH
    rw [hsh2] at HSH HZ hHok
    have HHP : Hid (∀ W, Ext w W → Calls Tryz.prog 85 #[sh.val] W fun e w' => e = .returned (.tuple #[.string (headB sh), .nilIface]) ∧ Ext W w') := Lib.hid fun W e => by
      have := HPrint_any sh W (hD.ext e) (hP.ext e)
      rw [show hprT sh = headB sh from if_pos hHok, show hdK sh = 0 from if_pos hHok] at this
      exact this
    have HLO := Lib.hid hlo
    have HEK := Lib.hid hek
    have HHV : Hid (sh.val = .agg #[.int .i64 sh.size, .int .i64 sh.root, .int .i64 sh.time, .int .i64 sh.sign]) := rfl
    have HSM : Hid (∀ W, Ext w W → ∀ A n c xs k, Rd W 1 A n c (xs.map (Value.int .i64)) → c ≤ maxLen → n ≤ 4096 → allV xs = true → Calls Tryz.prog 86 #[.slice A n c, errR k] W fun e w' => e = .returned (.tuple #[.string (sumsV xs k), errR k]) ∧ Ext W w') := Lib.hid fun W e A n c xs k h1 h2 h3 h4 => SSums_any A n c xs k W h1 h2 h3 h4 (hD.ext e)
    have HTX : Hid (∀ z, vld z = true → ∀ W, Ext w W → Calls Tryz.prog 78 #[.int .i64 z] W fun e w' => e = .returned (.string (hexT z.toNat)) ∧ Ext W w') := Lib.hid fun z hz W e => MText_sum hz W (hD.ext e)
    have HIT : Hid (∀ t : Nat, t ≤ 1000000 → ∀ W, Ext w W → Calls Tryz.prog 75 #[.int .i64 t] W fun e w' => e = .returned (.string (digB t)) ∧ Ext W w') := Lib.hid fun t ht W e => by
      have := ItoaI_any (t : Int) W (by omega) (by omega) (hP.ext e)
      rwa [digB_itoa] at this
    clear hr hm hD hP hG hM hx hask hsk hsh hver hkey hlo hek hsh2 hHok
    obtain ⟨h0, h1, h2, h3⟩ := sh
    simp only [Hd.val] at *
    go_enter Tryz.func51, Tryz.ntmps51
    go_wp2_with fail
    refine HRD.out.mono ?_
    rintro _ w1 ⟨⟨v, rfl, own1⟩, hb1⟩
    obtain ⟨An, cn, rfl, hcn, Rn, -⟩ := own_rd own1
    have HRn := Lib.hid Rn
    have HE1 := Lib.hid hb1
    have hnn := Rn.2.1
    have hcns : cn ≤ 9223372036854775807 := by unfold maxLen at hcn; omega
    clear own1 hb1 Rn
    go_wp2_with fail
    refine (HSH.out _ HE1.out).mono ?_
    rintro _ w2 ⟨rfl, hb2⟩
    rw [errR_0]
    have B2 := Bk.at_ w2 29 #[.int .i64 h0, .int .i64 h1, .int .i64 h2, .int .i64 h3] w2.heap.size rfl
    have e2 : Ext w1 (w2.alloc (.cells #[.int .i64 h0, .int .i64 h1, .int .i64 h2, .int .i64 h3] 29)) := hb2.alloc _
    go_upto_region 5 with (fail)
    generalize w2.alloc (.cells #[.int .i64 h0, .int .i64 h1, .int .i64 h2, .int .i64 h3] 29) = W2 at *
    generalize w2.heap.size = g2 at *
    have HB2 := Lib.hid B2
    have HE2 := Lib.hid (HE1.out.trans e2)
    have HRn2 := Lib.hid (HRn.out.ext e2)
    clear hb2 e2 B2 HRD HSH HRn HE1
    go_wp2_with fail
    refine (HLF.out _ HE2.out).mono ?_
    rintro _ w3 ⟨⟨A2, c2, rfl, hc2, R2⟩, hb3⟩
    have HR2 := Lib.hid R2
    have HE3 := Lib.hid (HE2.out.trans hb3)
    have HB3 := Lib.hid (HB2.out.ext hb3)
    have HRn3 := Lib.hid (HRn2.out.ext hb3)
    have h2c := R2.2.1
    have hc2s : c2 ≤ 9223372036854775807 := by unfold maxLen at hc2; omega
    obtain ⟨xs, hxs⟩ : ∃ xs, es.map Ent.leaf = xs := ⟨_, rfl⟩
    have HXS := Lib.hid hxs
    rw [hxs] at HR2 HLO
    have hxl : xs.length = n := by rw [← hxs, List.length_map, HX.out]
    have HXL := Lib.hid hxl
    clear R2 hb3 hxs hxl HLF HB2 HRn2 HE2
    rcases hword with ⟨rfl, hl⟩ | ⟨rfl, hl⟩ | ⟨rfl, hl⟩ | ⟨rfl, hl⟩ | ⟨rfl, hl⟩ | ⟨rfl, hl⟩
    · -- Head
      have e0 : (wHead.toList == ([104, 101, 97, 100] : List UInt8)) = true := by kernel_rfl
      have e1 : (wHead.toList == ([112, 114, 111, 111, 102] : List UInt8)) = false := by kernel_rfl
      have e2 : (wHead.toList == ([103, 114, 111, 119] : List UInt8)) = false := by kernel_rfl
      have e3 : (wHead.toList == ([116, 105, 108, 101] : List UInt8)) = false := by kernel_rfl
      have e4 : (wHead.toList == ([108, 101, 97, 102] : List UInt8)) = false := by kernel_rfl
      have y0 := HB3.out.cell 0
      have y1 := HB3.out.cell 1
      have y2 := HB3.out.cell 2
      have y3 := HB3.out.cell 3
      go_wp2_with fail
      refine (HHP.out _ HE3.out).mono ?_
      rintro _ w4 ⟨rfl, hb4⟩
      go_wp2_with fail
      go_ret2
      exact ⟨AnsR.of (HZ.out.trans ansW_head) rfl, HE3.out.trans hb4⟩
    · -- Proof
      have e0 : (wProof.toList == ([104, 101, 97, 100] : List UInt8)) = false := by kernel_rfl
      have e1 : (wProof.toList == ([112, 114, 111, 111, 102] : List UInt8)) = true := by kernel_rfl
      have e2 : (wProof.toList == ([103, 114, 111, 119] : List UInt8)) = false := by kernel_rfl
      have e3 : (wProof.toList == ([116, 105, 108, 101] : List UInt8)) = false := by kernel_rfl
      have e4 : (wProof.toList == ([108, 101, 97, 102] : List UInt8)) = false := by kernel_rfl
      obtain ⟨a, b, rfl⟩ : ∃ a b, ns = [a, b] := by
        match ns, hl with
        | [a, b], _ => exact ⟨a, b, rfl⟩
      obtain ⟨ad, rfl, hbn, ca⟩ := HRn3.out.getI (j := 0) (z := (a : Int)) rfl
      obtain ⟨ad', e', _, cb⟩ := HRn3.out.getI (j := 1) (z := (b : Int)) rfl
      obtain rfl : ad = ad' := by injection e'
      rw [add_zero'] at ca
      have hadd : ad.add 1 = ⟨ad.block, ad.off + 1, none⟩ := rfl
      rw [hadd] at cb
      clear hadd
      simp only [List.length_cons, List.length_nil] at *
      have HW : Hid (ansR es key now s = (sumsV (pmV xs a b) (pmK xs a b), pmK xs a b)) := Lib.hid (HZ.out.trans (by have := ansW_proof (es := es) (h := ⟨h0, h1, h2, h3⟩) (a := a) (b := b); rw [HXS.out] at this; exact this))
      obtain ⟨hb1, hb2⟩ := pmV_bd HLO.out a b
      have HC := Lib.hid fun W (e : Ext w3 W) => PMake_any A2 n c2 xs (a : Int) (b : Int) W (HR2.out.ext e) hc2
      obtain ⟨vs, hvs⟩ : ∃ v, pmV xs a b = v := ⟨_, rfl⟩
      obtain ⟨ks, hks⟩ : ∃ v, pmK xs a b = v := ⟨_, rfl⟩
      rw [hvs] at hb1 hb2 HC HW
      rw [hks] at HC HW
      have HB1 := Lib.hid hb1
      have HV1 := Lib.hid hb2
      have hlt3 := hbn
      have CA : Hid (∀ W, Ext w3 W → W.cell? ad = some (.int .i64 a)) := Lib.hid fun W e => (e.cell hbn).trans ca
      have CB : Hid (∀ W, Ext w3 W → W.cell? ⟨ad.block, ad.off + 1, none⟩ = some (.int .i64 b)) := Lib.hid fun W e => (e.cell (p := ⟨ad.block, ad.off + 1, none⟩) hbn).trans cb
      clear hvs hks hb1 hb2 HZ HTX HIT HHP HB3 e'
      go_wp2_with fail
      go_region_with (first
        | (go_at_call 87; refine (HC.out _ ?_).mono ?_; (focus ((repeat (with_reducible first | exact Ext.refl _ | assumption | refine Ext.drew ?_ | refine Ext.drewN ?_ _ | refine Ext.alloc ?_ _ | refine Ext.trans ?_ (by with_reducible assumption))); done)); rintro _ w5 ⟨⟨v5, rfl, own5⟩, hb5⟩; have hv5 := own_rd own5; obtain ⟨A5, c5, rfl, hc5, R5, -⟩ := hv5; have HC5 := Lib.hid hc5; have HR5 := Lib.hid R5; clear own5 hc5 R5; have E5 : Hid (Ext w3 w5) := Lib.hid (Ext.trans (by (repeat (with_reducible first | exact Ext.refl _ | assumption | refine Ext.drew ?_ | refine Ext.drewN ?_ _ | refine Ext.alloc ?_ _ | refine Ext.trans ?_ (by with_reducible assumption)))) hb5); have ca5 := CA.out _ E5.out; have cb5 := CB.out _ E5.out)
        | (go_at_call 86; refine (HSM.out _ ?_ _ _ _ _ _ (HR5.out.ext ?_) HC5.out HB1.out HV1.out).mono ?_; (exact HE3.out.trans (Ext.trans E5.out (by (repeat (with_reducible first | exact Ext.refl _ | assumption | refine Ext.drew ?_ | refine Ext.drewN ?_ _ | refine Ext.alloc ?_ _ | refine Ext.trans ?_ (by with_reducible assumption)))))); (focus ((repeat (with_reducible first | exact Ext.refl _ | assumption | refine Ext.drew ?_ | refine Ext.drewN ?_ _ | refine Ext.alloc ?_ _ | refine Ext.trans ?_ (by with_reducible assumption))); done)); rintro _ w6 ⟨rfl, hb6⟩)
        | fail)
      all_goals
        have e6 : Ext w3 w6 := Ext.trans (Ext.trans E5.out (by (repeat (with_reducible first | exact Ext.refl _ | assumption | refine Ext.drew ?_ | refine Ext.drewN ?_ _ | refine Ext.alloc ?_ _ | refine Ext.trans ?_ (by with_reducible assumption))))) hb6
        go_wp2_with fail
        go_ret2
        exact ⟨AnsR.of HW.out rfl, HE3.out.trans e6⟩
    · -- Grow
      have e0 : (wGrow.toList == ([104, 101, 97, 100] : List UInt8)) = false := by kernel_rfl
      have e1 : (wGrow.toList == ([112, 114, 111, 111, 102] : List UInt8)) = false := by kernel_rfl
      have e2 : (wGrow.toList == ([103, 114, 111, 119] : List UInt8)) = true := by kernel_rfl
      have e3 : (wGrow.toList == ([116, 105, 108, 101] : List UInt8)) = false := by kernel_rfl
      have e4 : (wGrow.toList == ([108, 101, 97, 102] : List UInt8)) = false := by kernel_rfl
      obtain ⟨a, b, rfl⟩ : ∃ a b, ns = [a, b] := by
        match ns, hl with
        | [a, b], _ => exact ⟨a, b, rfl⟩
      obtain ⟨ad, rfl, hbn, ca⟩ := HRn3.out.getI (j := 0) (z := (a : Int)) rfl
      obtain ⟨ad', e', _, cb⟩ := HRn3.out.getI (j := 1) (z := (b : Int)) rfl
      obtain rfl : ad = ad' := by injection e'
      rw [add_zero'] at ca
      have hadd : ad.add 1 = ⟨ad.block, ad.off + 1, none⟩ := rfl
      rw [hadd] at cb
      clear hadd
      simp only [List.length_cons, List.length_nil] at *
      have HW : Hid (ansR es key now s = (sumsV (gmV xs a b) (gmK xs a b), gmK xs a b)) := Lib.hid (HZ.out.trans (by have := ansW_grow (es := es) (h := ⟨h0, h1, h2, h3⟩) (a := a) (b := b); rw [HXS.out] at this; exact this))
      obtain ⟨hb1, hb2⟩ := gmV_bd HLO.out a b
      have HC := Lib.hid fun W (e : Ext w3 W) => GMake_any A2 n c2 xs (a : Int) (b : Int) W (HR2.out.ext e) hc2
      obtain ⟨vs, hvs⟩ : ∃ v, gmV xs a b = v := ⟨_, rfl⟩
      obtain ⟨ks, hks⟩ : ∃ v, gmK xs a b = v := ⟨_, rfl⟩
      rw [hvs] at hb1 hb2 HC HW
      rw [hks] at HC HW
      have HB1 := Lib.hid hb1
      have HV1 := Lib.hid hb2
      have hlt3 := hbn
      have CA : Hid (∀ W, Ext w3 W → W.cell? ad = some (.int .i64 a)) := Lib.hid fun W e => (e.cell hbn).trans ca
      have CB : Hid (∀ W, Ext w3 W → W.cell? ⟨ad.block, ad.off + 1, none⟩ = some (.int .i64 b)) := Lib.hid fun W e => (e.cell (p := ⟨ad.block, ad.off + 1, none⟩) hbn).trans cb
      clear hvs hks hb1 hb2 HZ HTX HIT HHP HB3 e'
      go_wp2_with fail
      go_region_with (first
        | (go_at_call 88; refine (HC.out _ ?_).mono ?_; (focus ((repeat (with_reducible first | exact Ext.refl _ | assumption | refine Ext.drew ?_ | refine Ext.drewN ?_ _ | refine Ext.alloc ?_ _ | refine Ext.trans ?_ (by with_reducible assumption))); done)); rintro _ w5 ⟨⟨v5, rfl, own5⟩, hb5⟩; have hv5 := own_rd own5; obtain ⟨A5, c5, rfl, hc5, R5, -⟩ := hv5; have HC5 := Lib.hid hc5; have HR5 := Lib.hid R5; clear own5 hc5 R5; have E5 : Hid (Ext w3 w5) := Lib.hid (Ext.trans (by (repeat (with_reducible first | exact Ext.refl _ | assumption | refine Ext.drew ?_ | refine Ext.drewN ?_ _ | refine Ext.alloc ?_ _ | refine Ext.trans ?_ (by with_reducible assumption)))) hb5); have ca5 := CA.out _ E5.out; have cb5 := CB.out _ E5.out)
        | (go_at_call 86; refine (HSM.out _ ?_ _ _ _ _ _ (HR5.out.ext ?_) HC5.out HB1.out HV1.out).mono ?_; (exact HE3.out.trans (Ext.trans E5.out (by (repeat (with_reducible first | exact Ext.refl _ | assumption | refine Ext.drew ?_ | refine Ext.drewN ?_ _ | refine Ext.alloc ?_ _ | refine Ext.trans ?_ (by with_reducible assumption)))))); (focus ((repeat (with_reducible first | exact Ext.refl _ | assumption | refine Ext.drew ?_ | refine Ext.drewN ?_ _ | refine Ext.alloc ?_ _ | refine Ext.trans ?_ (by with_reducible assumption))); done)); rintro _ w6 ⟨rfl, hb6⟩)
        | fail)
      all_goals
        have e6 : Ext w3 w6 := Ext.trans (Ext.trans E5.out (by (repeat (with_reducible first | exact Ext.refl _ | assumption | refine Ext.drew ?_ | refine Ext.drewN ?_ _ | refine Ext.alloc ?_ _ | refine Ext.trans ?_ (by with_reducible assumption))))) hb6
        go_wp2_with fail
        go_ret2
        exact ⟨AnsR.of HW.out rfl, HE3.out.trans e6⟩
    · -- Tile
      have e0 : (wTile.toList == ([104, 101, 97, 100] : List UInt8)) = false := by kernel_rfl
      have e1 : (wTile.toList == ([112, 114, 111, 111, 102] : List UInt8)) = false := by kernel_rfl
      have e2 : (wTile.toList == ([103, 114, 111, 119] : List UInt8)) = false := by kernel_rfl
      have e3 : (wTile.toList == ([116, 105, 108, 101] : List UInt8)) = true := by kernel_rfl
      have e4 : (wTile.toList == ([108, 101, 97, 102] : List UInt8)) = false := by kernel_rfl
      obtain ⟨a, b, rfl⟩ : ∃ a b, ns = [a, b] := by
        match ns, hl with
        | [a, b], _ => exact ⟨a, b, rfl⟩
      obtain ⟨ad, rfl, hbn, ca⟩ := HRn3.out.getI (j := 0) (z := (a : Int)) rfl
      obtain ⟨ad', e', _, cb⟩ := HRn3.out.getI (j := 1) (z := (b : Int)) rfl
      obtain rfl : ad = ad' := by injection e'
      rw [add_zero'] at ca
      have hadd : ad.add 1 = ⟨ad.block, ad.off + 1, none⟩ := rfl
      rw [hadd] at cb
      clear hadd
      simp only [List.length_cons, List.length_nil] at *
      have HW : Hid (ansR es key now s = (sumsV (wholeV xs a b) (wholeK xs a b), wholeK xs a b)) := Lib.hid (HZ.out.trans (by have := ansW_tile (es := es) (h := ⟨h0, h1, h2, h3⟩) (a := a) (b := b); rw [HXS.out] at this; exact this))
      obtain ⟨hb1, hb2⟩ := whV_bd HLO.out a b
      have HC := Lib.hid fun W (e : Ext w3 W) => Whole_any A2 n c2 xs a b W (HR2.out.ext e) hc2 HLO.out
      obtain ⟨vs, hvs⟩ : ∃ v, wholeV xs a b = v := ⟨_, rfl⟩
      obtain ⟨ks, hks⟩ : ∃ v, wholeK xs a b = v := ⟨_, rfl⟩
      rw [hvs] at hb1 hb2 HC HW
      rw [hks] at HC HW
      have HB1 := Lib.hid hb1
      have HV1 := Lib.hid hb2
      have hlt3 := hbn
      have CA : Hid (∀ W, Ext w3 W → W.cell? ad = some (.int .i64 a)) := Lib.hid fun W e => (e.cell hbn).trans ca
      have CB : Hid (∀ W, Ext w3 W → W.cell? ⟨ad.block, ad.off + 1, none⟩ = some (.int .i64 b)) := Lib.hid fun W e => (e.cell (p := ⟨ad.block, ad.off + 1, none⟩) hbn).trans cb
      clear hvs hks hb1 hb2 HZ HTX HIT HHP HB3 e'
      go_wp2_with fail
      go_region_with (first
        | (go_at_call 89; refine (HC.out _ ?_).mono ?_; (focus ((repeat (with_reducible first | exact Ext.refl _ | assumption | refine Ext.drew ?_ | refine Ext.drewN ?_ _ | refine Ext.alloc ?_ _ | refine Ext.trans ?_ (by with_reducible assumption))); done)); rintro _ w5 ⟨⟨v5, rfl, own5⟩, hb5⟩; have hv5 := own_rd own5; obtain ⟨A5, c5, rfl, hc5, R5, -⟩ := hv5; have HC5 := Lib.hid hc5; have HR5 := Lib.hid R5; clear own5 hc5 R5; have E5 : Hid (Ext w3 w5) := Lib.hid (Ext.trans (by (repeat (with_reducible first | exact Ext.refl _ | assumption | refine Ext.drew ?_ | refine Ext.drewN ?_ _ | refine Ext.alloc ?_ _ | refine Ext.trans ?_ (by with_reducible assumption)))) hb5); have ca5 := CA.out _ E5.out; have cb5 := CB.out _ E5.out)
        | (go_at_call 86; refine (HSM.out _ ?_ _ _ _ _ _ (HR5.out.ext ?_) HC5.out HB1.out HV1.out).mono ?_; (exact HE3.out.trans (Ext.trans E5.out (by (repeat (with_reducible first | exact Ext.refl _ | assumption | refine Ext.drew ?_ | refine Ext.drewN ?_ _ | refine Ext.alloc ?_ _ | refine Ext.trans ?_ (by with_reducible assumption)))))); (focus ((repeat (with_reducible first | exact Ext.refl _ | assumption | refine Ext.drew ?_ | refine Ext.drewN ?_ _ | refine Ext.alloc ?_ _ | refine Ext.trans ?_ (by with_reducible assumption))); done)); rintro _ w6 ⟨rfl, hb6⟩)
        | fail)
      all_goals
        have e6 : Ext w3 w6 := Ext.trans (Ext.trans E5.out (by (repeat (with_reducible first | exact Ext.refl _ | assumption | refine Ext.drew ?_ | refine Ext.drewN ?_ _ | refine Ext.alloc ?_ _ | refine Ext.trans ?_ (by with_reducible assumption))))) hb6
        go_wp2_with fail
        go_ret2
        exact ⟨AnsR.of HW.out rfl, HE3.out.trans e6⟩
    · -- Leaf
      have e0 : (wLeaf.toList == ([104, 101, 97, 100] : List UInt8)) = false := by kernel_rfl
      have e1 : (wLeaf.toList == ([112, 114, 111, 111, 102] : List UInt8)) = false := by kernel_rfl
      have e2 : (wLeaf.toList == ([103, 114, 111, 119] : List UInt8)) = false := by kernel_rfl
      have e3 : (wLeaf.toList == ([116, 105, 108, 101] : List UInt8)) = false := by kernel_rfl
      have e4 : (wLeaf.toList == ([108, 101, 97, 102] : List UInt8)) = true := by kernel_rfl
      obtain ⟨a, rfl⟩ : ∃ a, ns = [a] := by
        match ns, hl with
        | [a], _ => exact ⟨a, rfl⟩
      obtain ⟨ad, rfl, hbn, ca⟩ := HRn3.out.getI (j := 0) (z := (a : Int)) rfl
      rw [add_zero'] at ca
      simp only [List.length_cons, List.length_nil] at *
      by_cases han : a < n
      case neg =>
        have hno : es[a]? = none := List.getElem?_eq_none (by rw [HX.out]; omega)
        have HW := Lib.hid (HZ.out.trans (ansW_leaf0 (h := ⟨h0, h1, h2, h3⟩) (b := 0) hno))
        have hanI : (n : Int) ≤ (a : Int) := by omega
        clear HZ HSM HTX HIT HHP HB3 hno
        go_wp2_with fail
        go_ret2
        exact ⟨AnsR.of HW.out rfl, HE3.out⟩
      have hge := List.getElem?_eq_getElem (l := es) (i := a) (by rw [HX.out]; exact han)
      have hek1 := HEK.out.2 _ (List.mem_of_getElem? hge)
      generalize es[a]'(by rw [HX.out]; exact han) = x at *
      have HW := Lib.hid (HZ.out.trans (ansW_leaf (h := ⟨h0, h1, h2, h3⟩) (b := 0) hge))
      have hanI : (a : Int) < (n : Int) := by omega
      have hgx : xs[a]? = some x.leaf := by rw [← HXS.out, List.getElem?_map, hge]; rfl
      obtain ⟨ad2, rfl, hb2, cz⟩ := HR2.out.getI hgx
      have HTZ := Lib.hid (HTX.out _ (allV_get HLO.out.2 hgx))
      obtain ⟨z, hz⟩ : ∃ z, x.leaf = z := ⟨_, rfl⟩
      rw [hz] at cz HTZ HW
      clear HZ HSM HTX HIT HHP HB3 hge hgx hek1 hz
      go_wp2_with fail
      refine (HTZ.out _ HE3.out).mono ?_
      rintro _ w4 ⟨rfl, hb4⟩
      go_wp2_with fail
      go_ret2
      exact ⟨AnsR.of HW.out rfl, HE3.out.trans hb4⟩
    · -- Entry
      have e0 : (wEntry.toList == ([104, 101, 97, 100] : List UInt8)) = false := by kernel_rfl
      have e1 : (wEntry.toList == ([112, 114, 111, 111, 102] : List UInt8)) = false := by kernel_rfl
      have e2 : (wEntry.toList == ([103, 114, 111, 119] : List UInt8)) = false := by kernel_rfl
      have e3 : (wEntry.toList == ([116, 105, 108, 101] : List UInt8)) = false := by kernel_rfl
      have e4 : (wEntry.toList == ([108, 101, 97, 102] : List UInt8)) = false := by kernel_rfl
      obtain ⟨a, rfl⟩ : ∃ a, ns = [a] := by
        match ns, hl with
        | [a], _ => exact ⟨a, rfl⟩
      obtain ⟨ad, rfl, hbn, ca⟩ := HRn3.out.getI (j := 0) (z := (a : Int)) rfl
      rw [add_zero'] at ca
      simp only [List.length_cons, List.length_nil] at *
      by_cases han : a < n
      case neg =>
        have hno : es[a]? = none := List.getElem?_eq_none (by rw [HX.out]; omega)
        have HW := Lib.hid (HZ.out.trans (ansW_entry0 (h := ⟨h0, h1, h2, h3⟩) (b := 0) hno))
        have hanI : (n : Int) ≤ (a : Int) := by omega
        clear HZ HSM HTX HIT HHP HB3 hno
        go_wp2_with fail
        go_ret2
        exact ⟨AnsR.of HW.out rfl, HE3.out⟩
      have hge := List.getElem?_eq_getElem (l := es) (i := a) (by rw [HX.out]; exact han)
      have hek1 := HEK.out.2 _ (List.mem_of_getElem? hge)
      generalize es[a]'(by rw [HX.out]; exact han) = x at *
      have HW := Lib.hid (HZ.out.trans (ansW_entry (h := ⟨h0, h1, h2, h3⟩) (b := 0) hge))
      have hanI : (a : Int) < (n : Int) := by omega
      obtain ⟨xt, xd⟩ := x
      obtain ⟨hk1, hk2, hk3⟩ := hek1
      dsimp only at hk1 hk2 hk3
      obtain ⟨t, rfl⟩ := Int.eq_ofNat_of_zero_le hk1
      obtain ⟨ad2, hA2, hb2, c0, c1⟩ := (HR.out.ext HE3.out).getE hge
      subst hA2
      dsimp only at c0 c1
      have HI := Lib.hid (HIT.out t (by omega))
      have HD1 : Hid (entT ⟨(t : Int), xd⟩ = digB t ++ ⟨#[32]⟩ ++ xd) := rfl
      rw [HD1.out] at HW
      obtain ⟨dt, hdt⟩ : ∃ s, digB t = s := ⟨_, rfl⟩
      have hds : dt.size ≤ 7 := by rw [← hdt]; exact digB_small 6 _ (by show t < 10000000; omega)
      rw [hdt] at HI HW
      have B16 := Bk.at_ w3 67 #[.int .i64 t, .string xd] w3.heap.size rfl
      have e16 : Ext w3 (w3.alloc (.cells #[.int .i64 t, .string xd] 67)) := (Ext.refl _).alloc _
      clear HZ HSM HTX HIT HHP HB3 hge hdt
      go_upto_region 24 with (fail)
      generalize w3.alloc (.cells #[.int .i64 t, .string xd] 67) = W4 at *
      generalize w3.heap.size = g4 at *
      have HB16 := Lib.hid B16
      have HE4 := Lib.hid (HE3.out.trans e16)
      have x0 : ∀ x : WE W4, x.W.cell? ⟨g4, 0, none⟩ = some (.int .i64 t) := fun x => (HB16.out.ext x.h).cell 0
      have x1 : ∀ x : WE W4, x.W.cell? ⟨g4, 1, none⟩ = some (.string xd) := fun x => (HB16.out.ext x.h).cell 1
      clear B16 e16 c0 c1 ca
      (refine wp_region_ext (w0 := W4) (by kernel_rfl) (by kernel_rfl) (by (repeat (with_reducible first | exact Ext.refl _ | assumption | refine Ext.drew ?_ | refine Ext.drewN ?_ _ | refine Ext.alloc ?_ _ | refine Ext.trans ?_ (by with_reducible assumption)))) ?_; (repeat (go_big_quiet_step (((go_at_call 75; exact quietE (HI.out _ (HE4.out.trans (WE.h _)))))))); refine wpQuiet_nil ?_)
      intro w5 hb5
      clear x0 x1
      go_wp2_with fail
      go_ret2
      exact ⟨AnsR.of HW.out rfl, HE4.out.trans hb5⟩
end Go.Proofs.YtnphbkjkeipmmaaGreatDoor
