/- The proof of a leaf is one; plain. -/
import Derived.Test.YtfccbjfiionepaaGreatDoorJServeTells13
import Derived.Test.YtfccbjfiionepaaGreatDoorJServeTells18
import Derived.Test.YtfccbjfiionepaaGreatDoorJServeTells11
import Derived.Test.YtfccbjfiionepaaGreatDoorJServeTells8
namespace Go.Proofs.YtfccbjfiionepaaGreatDoor
set_option linter.unusedVariables false

theorem pcheck_way {xs : List Int} {n i : Nat} {z : Int} (hk : leafsOk xs) (hl : xs.length = n) (hz : xs[i]? = some z) : pcheck (ofL xs) (n : Int) (i : Int) z (wayL xs i) = 0 := by
  have hi : i < xs.length := (List.getElem?_eq_some_iff.1 hz).1
  have hn := hk.1
  refine pcheck_ok ⟨by omega, by omega, by omega⟩ ⟨vld_ofL hk.2 (by omega), allV_get hk.2 hz, allV_way xs.length xs i (Nat.le_refl _) (by omega) hk.2⟩ ?_ ?_
  · rw [Int.toNat_natCast, Int.toNat_natCast, wayL_len xs.length xs i (Nat.le_refl _) (by omega), hl]
  · rw [Int.toNat_natCast, Int.toNat_natCast, ← hl]
    exact up_way xs.length xs i z (Nat.le_refl _) (by omega) hz
theorem pmV_way {xs : List Int} {n i : Nat} (hk : leafsOk xs) (hl : xs.length = n) (hi : i < n) : pmV xs (i : Int) (n : Int) = wayL xs i ∧ pmK xs (i : Int) (n : Int) = 0 := by
  have h := pmK_ok (xs := xs) (i := (i : Int)) (m := (n : Int)) hk ⟨by omega, by omega, by omega⟩
  refine ⟨?_, h⟩
  unfold pmV
  rw [if_pos h, Int.toNat_natCast, Int.toNat_natCast, List.take_of_length_le (by omega)]
theorem way_len_le {xs : List Int} {i : Nat} (hn : xs.length ≤ 4096) : (wayL xs i).length ≤ 4096 := by
  rw [wayL_len xs.length xs i (Nat.le_refl _) hn]
  by_cases h0 : 1 ≤ xs.length
  · have := stepsN_lt xs.length i xs.length (Nat.le_refl _) hn h0
    omega
  · rw [stepsN_one i (by omega)]; omega
end Go.Proofs.YtfccbjfiionepaaGreatDoor

/- serve.Answer. -/
namespace Go.Proofs.YtfccbjfiionepaaGreatDoor
open Go.RowKit Go.WideShapes
set_option linter.unusedVariables false
attribute [local go_sem ↓] Go.wp_at_zero Go.wp_at_succ

/-- which word was read -/
theorem askR_word {s x : ByteArray} {ns : List Nat} (h : askR s = some (x, ns)) : (x = wHead ∧ ns.length = 0) ∨ (x = wProof ∧ ns.length = 2) ∨ (x = wGrow ∧ ns.length = 2) ∨ (x = wTile ∧ ns.length = 2) ∨ (x = wLeaf ∧ ns.length = 1) ∨ (x = wEntry ∧ ns.length = 1) := by
  unfold askR at h
  split at h
  · cases h
  · rename_i w r hp
    cases hw : wantN w with
    | none => simp only [hw] at h; cases h
    | some n =>
      simp only [hw] at h
      by_cases hl : r.length = n
      · rw [if_pos hl] at h
        cases hn : numsR r with
        | none => rw [hn] at h; cases h
        | some ms =>
          rw [hn] at h
          injection h with h
          injection h with h1 h2
          subst h1 h2
          have hml := numsR_len hn
          unfold wantN at hw
          split at hw
          · rename_i e; injection hw with hw; exact .inr (.inr (.inr (.inl ⟨e, by omega⟩)))
          split at hw
          · rename_i e; injection hw with hw; exact .inr (.inr (.inl ⟨e, by omega⟩))
          split at hw
          · rename_i e; injection hw with hw; exact .inr (.inl ⟨e, by omega⟩)
          split at hw
          · rename_i e; injection hw with hw; exact .inr (.inr (.inr (.inr (.inl ⟨e, by omega⟩))))
          split at hw
          · rename_i e; injection hw with hw; exact .inr (.inr (.inr (.inr (.inr ⟨e, by omega⟩))))
          split at hw
          · rename_i e; injection hw with hw; exact .inl ⟨e, by omega⟩
          · cases hw
      · rw [if_neg hl] at h; cases h
theorem pmV_bd {xs : List Int} (h : leafsOk xs) (i m : Int) : (pmV xs i m).length ≤ 4096 ∧ allV (pmV xs i m) = true := by
  have hl := h.1
  unfold pmV
  split
  · have h2 : (xs.take m.toNat).length ≤ 4096 := by rw [List.length_take]; omega
    exact ⟨way_len_le h2, allV_way _ _ _ (Nat.le_refl _) h2 (allV_take h.2 _)⟩
  · exact ⟨by simp, rfl⟩
theorem gmV_bd {xs : List Int} (h : leafsOk xs) (i m : Int) : (gmV xs i m).length ≤ 4096 ∧ allV (gmV xs i m) = true := by
  have hl := h.1
  unfold gmV
  split
  · rename_i h0
    have h1 : 1 ≤ i ∧ i ≤ m ∧ m ≤ xs.length := Decidable.byContradiction fun k => by
      rw [gmK_range h k] at h0; cases h0
    have h2 : (xs.take m.toNat).length = m.toNat := by rw [List.length_take]; omega
    refine ⟨?_, growL_vld m.toNat _ _ _ (by omega) (by omega) (by omega) (by omega) (allV_take h.2 _)⟩
    rw [growL_len m.toNat _ _ _ (by omega) (by omega) (by omega) (by omega), h2]
    have := gsteps_le m.toNat i.toNat m.toNat true (Nat.le_refl _) (by omega) (by omega)
    omega
  · exact ⟨by simp, rfl⟩
theorem sumsT_leafs {xs : List Int} (hv : allV xs = true) (hl : xs.length ≤ 200) (k i m : Nat) (hm : m ≤ 4) : leafsOk (sumsT xs k i m) := by
  refine ⟨by rw [sumsT_len]; omega, ?_⟩
  unfold allV sumsT
  rw [List.all_eq_true]
  intro x hx
  rw [List.mem_map] at hx
  obtain ⟨j, _, rfl⟩ := hx
  exact vld_ofL (allV_drop (allV_take hv _) _) (by rw [List.length_drop, List.length_take]; omega)

theorem whV_bd {xs : List Int} (h : leafsOk xs) (k i : Nat) : (wholeV xs k i).length ≤ 4096 ∧ allV (wholeV xs k i) = true := by
  have hl := h.1
  unfold wholeV
  split
  · exact ⟨by simp, rfl⟩
  · rename_i t ht
    obtain ⟨tk, ti, tm, _, rfl, _, h4, _⟩ := allT_mem _ _ _ (List.mem_of_find?_eq_some ht)
    have := sumsT_leafs h.2 hl tk ti tm h4
    exact ⟨by have := this.1; show (sumsT xs tk ti tm).length ≤ 4096; omega, this.2⟩
section
variable {es : List Ent} {h : Hd} {a b : Nat}
theorem ansW_head : ansW es h wHead a b = (headB h, 0) := by unfold ansW; exact if_pos rfl
theorem ansW_proof : ansW es h wProof a b = (sumsV (pmV (es.map Ent.leaf) a b) (pmK (es.map Ent.leaf) a b), pmK (es.map Ent.leaf) a b) := by unfold ansW; rw [if_neg (by decide), if_pos rfl]
theorem ansW_grow : ansW es h wGrow a b = (sumsV (gmV (es.map Ent.leaf) a b) (gmK (es.map Ent.leaf) a b), gmK (es.map Ent.leaf) a b) := by unfold ansW; rw [if_neg (by decide), if_neg (by decide), if_pos rfl]
theorem ansW_tile : ansW es h wTile a b = (sumsV (wholeV (es.map Ent.leaf) a b) (wholeK (es.map Ent.leaf) a b), wholeK (es.map Ent.leaf) a b) := by unfold ansW; rw [if_neg (by decide), if_neg (by decide), if_neg (by decide), if_pos rfl]
theorem ansW_leaf {e : Ent} (k : es[a]? = some e) : ansW es h wLeaf a b = (hexT e.leaf.toNat, 0) := by unfold ansW; rw [if_neg (by decide), if_neg (by decide), if_neg (by decide), if_neg (by decide), k]; exact if_pos rfl
theorem ansW_entry {e : Ent} (k : es[a]? = some e) : ansW es h wEntry a b = (entT e, 0) := by unfold ansW; rw [if_neg (by decide), if_neg (by decide), if_neg (by decide), if_neg (by decide), k]; exact if_neg (by decide)
theorem ansW_leaf0 (k : es[a]? = none) : ansW es h wLeaf a b = (⟨#[]⟩, 5) := by unfold ansW; rw [if_neg (by decide), if_neg (by decide), if_neg (by decide), if_neg (by decide), k]
theorem ansW_entry0 (k : es[a]? = none) : ansW es h wEntry a b = (⟨#[]⟩, 5) := by unfold ansW; rw [if_neg (by decide), if_neg (by decide), if_neg (by decide), if_neg (by decide), k]
end
def AnsR (es : List Ent) (key now : Int) (s : ByteArray) (e : Ending) : Prop := e = .returned (.tuple #[.string (ansR es key now s).1, errR (ansR es key now s).2])
theorem AnsR.of {es : List Ent} {key now : Int} {s : ByteArray} {z : ByteArray × Int} (h : ansR es key now s = z) {e : Ending} (he : e = .returned (.tuple #[.string z.1, errR z.2])) : AnsR es key now s e := by unfold AnsR; rw [h]; exact he
set_option maxRecDepth 100000 in
set_option maxHeartbeats 8000000 in
theorem Answer_any (A : Option Addr) (n c : Nat) (es : List Ent) (key now : Int) (s : ByteArray) (w : World) (hr : Rd w 2 A n c (es.flatMap Ent.cells)) (hm : c ≤ maxLen) (hs : s.size ≤ 1048576) (hD : DebG w) (hP : PowG w) (hG : StrG w) (hM : MaxG w) :
    Calls Tryz.prog 22 #[.slice A n c, .int .i64 key, .int .i64 now, .string s] w fun e w' => AnsR es key now s e ∧ Ext w w' := by
  obtain ⟨hE, hN, hG0⟩ := errR_rules
  have hx := hr.lenE
  have hnc := hr.2.1
  have hcs : c ≤ 9223372036854775807 := by unfold maxLen at hm; omega
  have HRD := Lib.hid (SRead_any s w hs hG hP hM)
  have HSH := Lib.hid fun W (e : Ext w W) => SHead_any A n c es key now W (hr.ext e) hm (hD.ext e) (hP.ext e)
  have HD := Lib.hid hD
  have HPW := Lib.hid hP
  have HR := Lib.hid hr
  have HM := Lib.hid hm
  have HX := Lib.hid hx
  unfold RdP at HRD
  cases hask : askR s with
  | none =>
    have HZ : Hid (ansR es key now s = (⟨#[]⟩, 2)) := by show ansR es key now s = _; unfold ansR; rw [hask]
    rw [hask] at HRD
    clear hr hm hD hP hG hM hx hask
    go_enter Tryz.func22, Tryz.ntmps22
    go_wp2_with fail
    refine HRD.out.mono ?_
    rintro _ w1 ⟨rfl, hb1⟩
    go_wp2_with fail
    go_ret2
    exact ⟨AnsR.of HZ.out rfl, hb1⟩
  | some z =>
    obtain ⟨x, ns⟩ := z
    rw [hask] at HRD
    have hword := askR_word hask
    by_cases hsk : shK es key now = 0
    case neg =>
      have HZ : Hid (ansR es key now s = (⟨#[]⟩, shK es key now)) := by show ansR es key now s = _; unfold ansR; rw [hask]; exact if_pos hsk
      obtain ⟨sk, hsk2⟩ : ∃ v, shK es key now = v := ⟨_, rfl⟩
      obtain ⟨sh, hsh2⟩ : ∃ v, shH es key now = v := ⟨_, rfl⟩
      rw [hsk2] at HZ HSH hsk
      rw [hsh2] at HSH
      have hok := isOk_no hsk
      obtain ⟨h0, h1, h2, h3⟩ := sh
      simp only [Hd.val] at HSH
      clear hr hm hD hP hG hM hx hask hword hsk hsk2 hsh2
      go_enter Tryz.func22, Tryz.ntmps22
      go_wp2_with fail
      refine HRD.out.mono ?_
      rintro _ w1 ⟨⟨v, rfl, own1⟩, hb1⟩
      have HE1 := Lib.hid hb1
      clear own1 hb1
      go_wp2_with fail
      refine (HSH.out _ HE1.out).mono ?_
      rintro _ w2 ⟨rfl, hb2⟩
      have HE2 := Lib.hid (HE1.out.trans hb2)
      clear hb2
      go_wp2_with fail
      go_ret2
      exact ⟨AnsR.of HZ.out rfl, HE2.out.alloc _⟩
    have HZ : Hid (ansR es key now s = ansW es (shH es key now) x (ns.getD 0 0) (ns.getD 1 0)) := by show ansR es key now s = _; unfold ansR; rw [hask]; exact if_neg (not_not_intro hsk)
    obtain ⟨hek, hsh, hver, hkey⟩ := sh_parts hsk
    have hlo := leafs_of_ents hek
    have hn200 : n ≤ 200 := by have := hek.1; omega
    have hHok : (shH es key now).ok = true := (verK_zero hver).2.1
    have HLF : Hid (∀ W, Ext w W → Calls Tryz.prog 7 #[.slice A n c] W fun e w' => (∃ A2 c2, e = .returned (.tuple #[.slice A2 n c2, .nilIface]) ∧ c2 ≤ maxLen ∧ Rd w' 1 A2 n c2 ((es.map Ent.leaf).map (Value.int .i64))) ∧ Ext W w') := Lib.hid fun W e => by
      have h1 := Leafs_ok A n c es W (hr.ext e) hm hek
      rw [hx] at h1
      refine h1.mono fun e' w' hh => ?_
      obtain ⟨⟨v, q1, q2⟩, q3⟩ := hh
      obtain ⟨A2, c2, rfl, q4, q5, _⟩ := own_rd q2
      exact ⟨⟨A2, c2, q1, q4, q5⟩, q3⟩
    obtain ⟨sh, hsh2⟩ : ∃ v, shH es key now = v := ⟨_, rfl⟩
    rw [hsk] at HSH
    rw [hsh2] at HSH HZ hHok
    have HHP : Hid (∀ W, Ext w W → Calls Tryz.prog 57 #[sh.val] W fun e w' => e = .returned (.tuple #[.string (headB sh), .nilIface]) ∧ Ext W w') := Lib.hid fun W e => by
      have := HPrint_any sh W (hD.ext e) (hP.ext e)
      rw [show hprT sh = headB sh from if_pos hHok, show hdK sh = 0 from if_pos hHok] at this
      exact this
    have HLO := Lib.hid hlo
    have HEK := Lib.hid hek
    have HHV : Hid (sh.val = .agg #[.int .i64 sh.size, .int .i64 sh.root, .int .i64 sh.time, .int .i64 sh.sign]) := rfl
    have HSM : Hid (∀ W, Ext w W → ∀ A n c xs k, Rd W 1 A n c (xs.map (Value.int .i64)) → c ≤ maxLen → n ≤ 4096 → allV xs = true → Calls Tryz.prog 58 #[.slice A n c, errR k] W fun e w' => e = .returned (.tuple #[.string (sumsV xs k), errR k]) ∧ Ext W w') := Lib.hid fun W e A n c xs k h1 h2 h3 h4 => SSums_any A n c xs k W h1 h2 h3 h4 (hD.ext e)
    have HTX : Hid (∀ z, vld z = true → ∀ W, Ext w W → Calls Tryz.prog 61 #[.int .i64 z] W fun e w' => e = .returned (.string (hexT z.toNat)) ∧ Ext W w') := Lib.hid fun z hz W e => MText_sum hz W (hD.ext e)
    have HIT : Hid (∀ t : Nat, t ≤ 1000000 → ∀ W, Ext w W → Calls Tryz.prog 62 #[.int .i64 t] W fun e w' => e = .returned (.string (digB t)) ∧ Ext W w') := Lib.hid fun t ht W e => by
      have := ItoaI_any (t : Int) W (by omega) (by omega) (hP.ext e)
      rwa [digB_itoa] at this
    clear hr hm hD hP hG hM hx hask hsk hsh hver hkey hlo hek hsh2 hHok
    obtain ⟨h0, h1, h2, h3⟩ := sh
    simp only [Hd.val] at *
    go_enter Tryz.func22, Tryz.ntmps22
    go_wp2_with fail
    refine HRD.out.mono ?_
    rintro _ w1 ⟨⟨v, rfl, own1⟩, hb1⟩
    obtain ⟨An, cn, rfl, hcn, Rn, -⟩ := own_rd own1
    have HRn := Lib.hid Rn
    have HE1 := Lib.hid hb1
    have hnn := Rn.2.1
    have hcns : cn ≤ 9223372036854775807 := by unfold maxLen at hcn; omega
    clear own1 hb1 Rn
    go_wp2_with fail
    refine (HSH.out _ HE1.out).mono ?_
    rintro _ w2 ⟨rfl, hb2⟩
    rw [errR_0]
    have B2 := Bk.at_ w2 40 #[.int .i64 h0, .int .i64 h1, .int .i64 h2, .int .i64 h3] w2.heap.size rfl
    have e2 : Ext w1 (w2.alloc (.cells #[.int .i64 h0, .int .i64 h1, .int .i64 h2, .int .i64 h3] 40)) := hb2.alloc _
    go_upto_region 5 with (fail)
    generalize w2.alloc (.cells #[.int .i64 h0, .int .i64 h1, .int .i64 h2, .int .i64 h3] 40) = W2 at *
    generalize w2.heap.size = g2 at *
    have HB2 := Lib.hid B2
    have HE2 := Lib.hid (HE1.out.trans e2)
    have HRn2 := Lib.hid (HRn.out.ext e2)
    clear hb2 e2 B2 HRD HSH HRn HE1
    go_wp2_with fail
    refine (HLF.out _ HE2.out).mono ?_
    rintro _ w3 ⟨⟨A2, c2, rfl, hc2, R2⟩, hb3⟩
    have HR2 := Lib.hid R2
    have HE3 := Lib.hid (HE2.out.trans hb3)
    have HB3 := Lib.hid (HB2.out.ext hb3)
    have HRn3 := Lib.hid (HRn2.out.ext hb3)
    have h2c := R2.2.1
    have hc2s : c2 ≤ 9223372036854775807 := by unfold maxLen at hc2; omega
    obtain ⟨xs, hxs⟩ : ∃ xs, es.map Ent.leaf = xs := ⟨_, rfl⟩
    have HXS := Lib.hid hxs
    rw [hxs] at HR2 HLO
    have hxl : xs.length = n := by rw [← hxs, List.length_map, HX.out]
    have HXL := Lib.hid hxl
    clear R2 hb3 hxs hxl HLF HB2 HRn2 HE2
    rcases hword with ⟨rfl, hl⟩ | ⟨rfl, hl⟩ | ⟨rfl, hl⟩ | ⟨rfl, hl⟩ | ⟨rfl, hl⟩ | ⟨rfl, hl⟩
    · -- Head
      have e0 : (wHead.toList == ([104, 101, 97, 100] : List UInt8)) = true := by kernel_rfl
      have e1 : (wHead.toList == ([112, 114, 111, 111, 102] : List UInt8)) = false := by kernel_rfl
      have e2 : (wHead.toList == ([103, 114, 111, 119] : List UInt8)) = false := by kernel_rfl
      have e3 : (wHead.toList == ([116, 105, 108, 101] : List UInt8)) = false := by kernel_rfl
      have e4 : (wHead.toList == ([108, 101, 97, 102] : List UInt8)) = false := by kernel_rfl
      have y0 := HB3.out.cell 0
      have y1 := HB3.out.cell 1
      have y2 := HB3.out.cell 2
      have y3 := HB3.out.cell 3
      go_wp2_with fail
      refine (HHP.out _ HE3.out).mono ?_
      rintro _ w4 ⟨rfl, hb4⟩
      go_wp2_with fail
      go_ret2
      exact ⟨AnsR.of (HZ.out.trans ansW_head) rfl, HE3.out.trans hb4⟩
    · -- Proof
      have e0 : (wProof.toList == ([104, 101, 97, 100] : List UInt8)) = false := by kernel_rfl
      have e1 : (wProof.toList == ([112, 114, 111, 111, 102] : List UInt8)) = true := by kernel_rfl
      have e2 : (wProof.toList == ([103, 114, 111, 119] : List UInt8)) = false := by kernel_rfl
      have e3 : (wProof.toList == ([116, 105, 108, 101] : List UInt8)) = false := by kernel_rfl
      have e4 : (wProof.toList == ([108, 101, 97, 102] : List UInt8)) = false := by kernel_rfl
      obtain ⟨a, b, rfl⟩ : ∃ a b, ns = [a, b] := by
        match ns, hl with
        | [a, b], _ => exact ⟨a, b, rfl⟩
      obtain ⟨ad, rfl, hbn, ca⟩ := HRn3.out.getI (j := 0) (z := (a : Int)) rfl
      obtain ⟨ad', e', _, cb⟩ := HRn3.out.getI (j := 1) (z := (b : Int)) rfl
      obtain rfl : ad = ad' := by injection e'
      rw [add_zero'] at ca
      have hadd : ad.add 1 = ⟨ad.block, ad.off + 1, none⟩ := rfl
      rw [hadd] at cb
      clear hadd
      simp only [List.length_cons, List.length_nil] at *
      have HW : Hid (ansR es key now s = (sumsV (pmV xs a b) (pmK xs a b), pmK xs a b)) := Lib.hid (HZ.out.trans (by have := ansW_proof (es := es) (h := ⟨h0, h1, h2, h3⟩) (a := a) (b := b); rw [HXS.out] at this; exact this))
      obtain ⟨hb1, hb2⟩ := pmV_bd HLO.out a b
      have HC := Lib.hid fun W (e : Ext w3 W) => PMake_any A2 n c2 xs (a : Int) (b : Int) W (HR2.out.ext e) hc2
      obtain ⟨vs, hvs⟩ : ∃ v, pmV xs a b = v := ⟨_, rfl⟩
      obtain ⟨ks, hks⟩ : ∃ v, pmK xs a b = v := ⟨_, rfl⟩
      rw [hvs] at hb1 hb2 HC HW
      rw [hks] at HC HW
      have HB1 := Lib.hid hb1
      have HV1 := Lib.hid hb2
      have hlt3 := hbn
      have CA : Hid (∀ W, Ext w3 W → W.cell? ad = some (.int .i64 a)) := Lib.hid fun W e => (e.cell hbn).trans ca
      have CB : Hid (∀ W, Ext w3 W → W.cell? ⟨ad.block, ad.off + 1, none⟩ = some (.int .i64 b)) := Lib.hid fun W e => (e.cell (p := ⟨ad.block, ad.off + 1, none⟩) hbn).trans cb
      clear hvs hks hb1 hb2 HZ HTX HIT HHP HB3 e'
      go_wp2_with fail
      go_region_with (first
        | (go_at_call 18; refine (HC.out _ ?_).mono ?_; (focus ((repeat (with_reducible first | exact Ext.refl _ | assumption | refine Ext.drew ?_ | refine Ext.drewN ?_ _ | refine Ext.alloc ?_ _ | refine Ext.trans ?_ (by with_reducible assumption))); done)); rintro _ w5 ⟨⟨v5, rfl, own5⟩, hb5⟩; have hv5 := own_rd own5; obtain ⟨A5, c5, rfl, hc5, R5, -⟩ := hv5; have HC5 := Lib.hid hc5; have HR5 := Lib.hid R5; clear own5 hc5 R5; have E5 : Hid (Ext w3 w5) := Lib.hid (Ext.trans (by (repeat (with_reducible first | exact Ext.refl _ | assumption | refine Ext.drew ?_ | refine Ext.drewN ?_ _ | refine Ext.alloc ?_ _ | refine Ext.trans ?_ (by with_reducible assumption)))) hb5); have ca5 := CA.out _ E5.out; have cb5 := CB.out _ E5.out)
        | (go_at_call 58; refine (HSM.out _ ?_ _ _ _ _ _ (HR5.out.ext ?_) HC5.out HB1.out HV1.out).mono ?_; (exact HE3.out.trans (Ext.trans E5.out (by (repeat (with_reducible first | exact Ext.refl _ | assumption | refine Ext.drew ?_ | refine Ext.drewN ?_ _ | refine Ext.alloc ?_ _ | refine Ext.trans ?_ (by with_reducible assumption)))))); (focus ((repeat (with_reducible first | exact Ext.refl _ | assumption | refine Ext.drew ?_ | refine Ext.drewN ?_ _ | refine Ext.alloc ?_ _ | refine Ext.trans ?_ (by with_reducible assumption))); done)); rintro _ w6 ⟨rfl, hb6⟩)
        | fail)
      all_goals
        have e6 : Ext w3 w6 := Ext.trans (Ext.trans E5.out (by (repeat (with_reducible first | exact Ext.refl _ | assumption | refine Ext.drew ?_ | refine Ext.drewN ?_ _ | refine Ext.alloc ?_ _ | refine Ext.trans ?_ (by with_reducible assumption))))) hb6
        go_wp2_with fail
        go_ret2
        exact ⟨AnsR.of HW.out rfl, HE3.out.trans e6⟩
    · -- Grow
      have e0 : (wGrow.toList == ([104, 101, 97, 100] : List UInt8)) = false := by kernel_rfl
      have e1 : (wGrow.toList == ([112, 114, 111, 111, 102] : List UInt8)) = false := by kernel_rfl
      have e2 : (wGrow.toList == ([103, 114, 111, 119] : List UInt8)) = true := by kernel_rfl
      have e3 : (wGrow.toList == ([116, 105, 108, 101] : List UInt8)) = false := by kernel_rfl
      have e4 : (wGrow.toList == ([108, 101, 97, 102] : List UInt8)) = false := by kernel_rfl
      obtain ⟨a, b, rfl⟩ : ∃ a b, ns = [a, b] := by
        match ns, hl with
        | [a, b], _ => exact ⟨a, b, rfl⟩
      obtain ⟨ad, rfl, hbn, ca⟩ := HRn3.out.getI (j := 0) (z := (a : Int)) rfl
      obtain ⟨ad', e', _, cb⟩ := HRn3.out.getI (j := 1) (z := (b : Int)) rfl
      obtain rfl : ad = ad' := by injection e'
      rw [add_zero'] at ca
      have hadd : ad.add 1 = ⟨ad.block, ad.off + 1, none⟩ := rfl
      rw [hadd] at cb
      clear hadd
      simp only [List.length_cons, List.length_nil] at *
      have HW : Hid (ansR es key now s = (sumsV (gmV xs a b) (gmK xs a b), gmK xs a b)) := Lib.hid (HZ.out.trans (by have := ansW_grow (es := es) (h := ⟨h0, h1, h2, h3⟩) (a := a) (b := b); rw [HXS.out] at this; exact this))
      obtain ⟨hb1, hb2⟩ := gmV_bd HLO.out a b
      have HC := Lib.hid fun W (e : Ext w3 W) => GMake_any A2 n c2 xs (a : Int) (b : Int) W (HR2.out.ext e) hc2
      obtain ⟨vs, hvs⟩ : ∃ v, gmV xs a b = v := ⟨_, rfl⟩
      obtain ⟨ks, hks⟩ : ∃ v, gmK xs a b = v := ⟨_, rfl⟩
      rw [hvs] at hb1 hb2 HC HW
      rw [hks] at HC HW
      have HB1 := Lib.hid hb1
      have HV1 := Lib.hid hb2
      have hlt3 := hbn
      have CA : Hid (∀ W, Ext w3 W → W.cell? ad = some (.int .i64 a)) := Lib.hid fun W e => (e.cell hbn).trans ca
      have CB : Hid (∀ W, Ext w3 W → W.cell? ⟨ad.block, ad.off + 1, none⟩ = some (.int .i64 b)) := Lib.hid fun W e => (e.cell (p := ⟨ad.block, ad.off + 1, none⟩) hbn).trans cb
      clear hvs hks hb1 hb2 HZ HTX HIT HHP HB3 e'
      go_wp2_with fail
      go_region_with (first
        | (go_at_call 59; refine (HC.out _ ?_).mono ?_; (focus ((repeat (with_reducible first | exact Ext.refl _ | assumption | refine Ext.drew ?_ | refine Ext.drewN ?_ _ | refine Ext.alloc ?_ _ | refine Ext.trans ?_ (by with_reducible assumption))); done)); rintro _ w5 ⟨⟨v5, rfl, own5⟩, hb5⟩; have hv5 := own_rd own5; obtain ⟨A5, c5, rfl, hc5, R5, -⟩ := hv5; have HC5 := Lib.hid hc5; have HR5 := Lib.hid R5; clear own5 hc5 R5; have E5 : Hid (Ext w3 w5) := Lib.hid (Ext.trans (by (repeat (with_reducible first | exact Ext.refl _ | assumption | refine Ext.drew ?_ | refine Ext.drewN ?_ _ | refine Ext.alloc ?_ _ | refine Ext.trans ?_ (by with_reducible assumption)))) hb5); have ca5 := CA.out _ E5.out; have cb5 := CB.out _ E5.out)
        | (go_at_call 58; refine (HSM.out _ ?_ _ _ _ _ _ (HR5.out.ext ?_) HC5.out HB1.out HV1.out).mono ?_; (exact HE3.out.trans (Ext.trans E5.out (by (repeat (with_reducible first | exact Ext.refl _ | assumption | refine Ext.drew ?_ | refine Ext.drewN ?_ _ | refine Ext.alloc ?_ _ | refine Ext.trans ?_ (by with_reducible assumption)))))); (focus ((repeat (with_reducible first | exact Ext.refl _ | assumption | refine Ext.drew ?_ | refine Ext.drewN ?_ _ | refine Ext.alloc ?_ _ | refine Ext.trans ?_ (by with_reducible assumption))); done)); rintro _ w6 ⟨rfl, hb6⟩)
        | fail)
      all_goals
        have e6 : Ext w3 w6 := Ext.trans (Ext.trans E5.out (by (repeat (with_reducible first | exact Ext.refl _ | assumption | refine Ext.drew ?_ | refine Ext.drewN ?_ _ | refine Ext.alloc ?_ _ | refine Ext.trans ?_ (by with_reducible assumption))))) hb6
        go_wp2_with fail
        go_ret2
        exact ⟨AnsR.of HW.out rfl, HE3.out.trans e6⟩
    · -- Tile
      have e0 : (wTile.toList == ([104, 101, 97, 100] : List UInt8)) = false := by kernel_rfl
      have e1 : (wTile.toList == ([112, 114, 111, 111, 102] : List UInt8)) = false := by kernel_rfl
      have e2 : (wTile.toList == ([103, 114, 111, 119] : List UInt8)) = false := by kernel_rfl
      have e3 : (wTile.toList == ([116, 105, 108, 101] : List UInt8)) = true := by kernel_rfl
      have e4 : (wTile.toList == ([108, 101, 97, 102] : List UInt8)) = false := by kernel_rfl
      obtain ⟨a, b, rfl⟩ : ∃ a b, ns = [a, b] := by
        match ns, hl with
        | [a, b], _ => exact ⟨a, b, rfl⟩
      obtain ⟨ad, rfl, hbn, ca⟩ := HRn3.out.getI (j := 0) (z := (a : Int)) rfl
      obtain ⟨ad', e', _, cb⟩ := HRn3.out.getI (j := 1) (z := (b : Int)) rfl
      obtain rfl : ad = ad' := by injection e'
      rw [add_zero'] at ca
      have hadd : ad.add 1 = ⟨ad.block, ad.off + 1, none⟩ := rfl
      rw [hadd] at cb
      clear hadd
      simp only [List.length_cons, List.length_nil] at *
      have HW : Hid (ansR es key now s = (sumsV (wholeV xs a b) (wholeK xs a b), wholeK xs a b)) := Lib.hid (HZ.out.trans (by have := ansW_tile (es := es) (h := ⟨h0, h1, h2, h3⟩) (a := a) (b := b); rw [HXS.out] at this; exact this))
      obtain ⟨hb1, hb2⟩ := whV_bd HLO.out a b
      have HC := Lib.hid fun W (e : Ext w3 W) => Whole_any A2 n c2 xs a b W (HR2.out.ext e) hc2 HLO.out
      obtain ⟨vs, hvs⟩ : ∃ v, wholeV xs a b = v := ⟨_, rfl⟩
      obtain ⟨ks, hks⟩ : ∃ v, wholeK xs a b = v := ⟨_, rfl⟩
      rw [hvs] at hb1 hb2 HC HW
      rw [hks] at HC HW
      have HB1 := Lib.hid hb1
      have HV1 := Lib.hid hb2
      have hlt3 := hbn
      have CA : Hid (∀ W, Ext w3 W → W.cell? ad = some (.int .i64 a)) := Lib.hid fun W e => (e.cell hbn).trans ca
      have CB : Hid (∀ W, Ext w3 W → W.cell? ⟨ad.block, ad.off + 1, none⟩ = some (.int .i64 b)) := Lib.hid fun W e => (e.cell (p := ⟨ad.block, ad.off + 1, none⟩) hbn).trans cb
      clear hvs hks hb1 hb2 HZ HTX HIT HHP HB3 e'
      go_wp2_with fail
      go_region_with (first
        | (go_at_call 60; refine (HC.out _ ?_).mono ?_; (focus ((repeat (with_reducible first | exact Ext.refl _ | assumption | refine Ext.drew ?_ | refine Ext.drewN ?_ _ | refine Ext.alloc ?_ _ | refine Ext.trans ?_ (by with_reducible assumption))); done)); rintro _ w5 ⟨⟨v5, rfl, own5⟩, hb5⟩; have hv5 := own_rd own5; obtain ⟨A5, c5, rfl, hc5, R5, -⟩ := hv5; have HC5 := Lib.hid hc5; have HR5 := Lib.hid R5; clear own5 hc5 R5; have E5 : Hid (Ext w3 w5) := Lib.hid (Ext.trans (by (repeat (with_reducible first | exact Ext.refl _ | assumption | refine Ext.drew ?_ | refine Ext.drewN ?_ _ | refine Ext.alloc ?_ _ | refine Ext.trans ?_ (by with_reducible assumption)))) hb5); have ca5 := CA.out _ E5.out; have cb5 := CB.out _ E5.out)
        | (go_at_call 58; refine (HSM.out _ ?_ _ _ _ _ _ (HR5.out.ext ?_) HC5.out HB1.out HV1.out).mono ?_; (exact HE3.out.trans (Ext.trans E5.out (by (repeat (with_reducible first | exact Ext.refl _ | assumption | refine Ext.drew ?_ | refine Ext.drewN ?_ _ | refine Ext.alloc ?_ _ | refine Ext.trans ?_ (by with_reducible assumption)))))); (focus ((repeat (with_reducible first | exact Ext.refl _ | assumption | refine Ext.drew ?_ | refine Ext.drewN ?_ _ | refine Ext.alloc ?_ _ | refine Ext.trans ?_ (by with_reducible assumption))); done)); rintro _ w6 ⟨rfl, hb6⟩)
        | fail)
      all_goals
        have e6 : Ext w3 w6 := Ext.trans (Ext.trans E5.out (by (repeat (with_reducible first | exact Ext.refl _ | assumption | refine Ext.drew ?_ | refine Ext.drewN ?_ _ | refine Ext.alloc ?_ _ | refine Ext.trans ?_ (by with_reducible assumption))))) hb6
        go_wp2_with fail
        go_ret2
        exact ⟨AnsR.of HW.out rfl, HE3.out.trans e6⟩
    · -- Leaf
      have e0 : (wLeaf.toList == ([104, 101, 97, 100] : List UInt8)) = false := by kernel_rfl
      have e1 : (wLeaf.toList == ([112, 114, 111, 111, 102] : List UInt8)) = false := by kernel_rfl
      have e2 : (wLeaf.toList == ([103, 114, 111, 119] : List UInt8)) = false := by kernel_rfl
      have e3 : (wLeaf.toList == ([116, 105, 108, 101] : List UInt8)) = false := by kernel_rfl
      have e4 : (wLeaf.toList == ([108, 101, 97, 102] : List UInt8)) = true := by kernel_rfl
      obtain ⟨a, rfl⟩ : ∃ a, ns = [a] := by
        match ns, hl with
        | [a], _ => exact ⟨a, rfl⟩
      obtain ⟨ad, rfl, hbn, ca⟩ := HRn3.out.getI (j := 0) (z := (a : Int)) rfl
      rw [add_zero'] at ca
      simp only [List.length_cons, List.length_nil] at *
      by_cases han : a < n
      case neg =>
        have hno : es[a]? = none := List.getElem?_eq_none (by rw [HX.out]; omega)
        have HW := Lib.hid (HZ.out.trans (ansW_leaf0 (h := ⟨h0, h1, h2, h3⟩) (b := 0) hno))
        have hanI : (n : Int) ≤ (a : Int) := by omega
        clear HZ HSM HTX HIT HHP HB3 hno
        go_wp2_with fail
        go_ret2
        exact ⟨AnsR.of HW.out rfl, HE3.out⟩
      have hge := List.getElem?_eq_getElem (l := es) (i := a) (by rw [HX.out]; exact han)
      have hek1 := HEK.out.2 _ (List.mem_of_getElem? hge)
      generalize es[a]'(by rw [HX.out]; exact han) = x at *
      have HW := Lib.hid (HZ.out.trans (ansW_leaf (h := ⟨h0, h1, h2, h3⟩) (b := 0) hge))
      have hanI : (a : Int) < (n : Int) := by omega
      have hgx : xs[a]? = some x.leaf := by rw [← HXS.out, List.getElem?_map, hge]; rfl
      obtain ⟨ad2, rfl, hb2, cz⟩ := HR2.out.getI hgx
      have HTZ := Lib.hid (HTX.out _ (allV_get HLO.out.2 hgx))
      obtain ⟨z, hz⟩ : ∃ z, x.leaf = z := ⟨_, rfl⟩
      rw [hz] at cz HTZ HW
      clear HZ HSM HTX HIT HHP HB3 hge hgx hek1 hz
      go_wp2_with fail
      refine (HTZ.out _ HE3.out).mono ?_
      rintro _ w4 ⟨rfl, hb4⟩
      go_wp2_with fail
      go_ret2
      exact ⟨AnsR.of HW.out rfl, HE3.out.trans hb4⟩
    · -- Entry
      have e0 : (wEntry.toList == ([104, 101, 97, 100] : List UInt8)) = false := by kernel_rfl
      have e1 : (wEntry.toList == ([112, 114, 111, 111, 102] : List UInt8)) = false := by kernel_rfl
      have e2 : (wEntry.toList == ([103, 114, 111, 119] : List UInt8)) = false := by kernel_rfl
      have e3 : (wEntry.toList == ([116, 105, 108, 101] : List UInt8)) = false := by kernel_rfl
      have e4 : (wEntry.toList == ([108, 101, 97, 102] : List UInt8)) = false := by kernel_rfl
      obtain ⟨a, rfl⟩ : ∃ a, ns = [a] := by
        match ns, hl with
        | [a], _ => exact ⟨a, rfl⟩
      obtain ⟨ad, rfl, hbn, ca⟩ := HRn3.out.getI (j := 0) (z := (a : Int)) rfl
      rw [add_zero'] at ca
      simp only [List.length_cons, List.length_nil] at *
      by_cases han : a < n
      case neg =>
        have hno : es[a]? = none := List.getElem?_eq_none (by rw [HX.out]; omega)
        have HW := Lib.hid (HZ.out.trans (ansW_entry0 (h := ⟨h0, h1, h2, h3⟩) (b := 0) hno))
        have hanI : (n : Int) ≤ (a : Int) := by omega
        clear HZ HSM HTX HIT HHP HB3 hno
        go_wp2_with fail
        go_ret2
        exact ⟨AnsR.of HW.out rfl, HE3.out⟩
      have hge := List.getElem?_eq_getElem (l := es) (i := a) (by rw [HX.out]; exact han)
      have hek1 := HEK.out.2 _ (List.mem_of_getElem? hge)
      generalize es[a]'(by rw [HX.out]; exact han) = x at *
      have HW := Lib.hid (HZ.out.trans (ansW_entry (h := ⟨h0, h1, h2, h3⟩) (b := 0) hge))
      have hanI : (a : Int) < (n : Int) := by omega
      obtain ⟨xt, xd⟩ := x
      obtain ⟨hk1, hk2, hk3⟩ := hek1
      dsimp only at hk1 hk2 hk3
      obtain ⟨t, rfl⟩ := Int.eq_ofNat_of_zero_le hk1
      obtain ⟨ad2, hA2, hb2, c0, c1⟩ := (HR.out.ext HE3.out).getE hge
      subst hA2
      dsimp only at c0 c1
      have HI := Lib.hid (HIT.out t (by omega))
      have HD1 : Hid (entT ⟨(t : Int), xd⟩ = digB t ++ ⟨#[32]⟩ ++ xd) := rfl
      rw [HD1.out] at HW
      obtain ⟨dt, hdt⟩ : ∃ s, digB t = s := ⟨_, rfl⟩
      have hds : dt.size ≤ 7 := by rw [← hdt]; exact digB_small 6 _ (by show t < 10000000; omega)
      rw [hdt] at HI HW
      have B16 := Bk.at_ w3 75 #[.int .i64 t, .string xd] w3.heap.size rfl
      have e16 : Ext w3 (w3.alloc (.cells #[.int .i64 t, .string xd] 75)) := (Ext.refl _).alloc _
      clear HZ HSM HTX HIT HHP HB3 hge hdt
      go_upto_region 24 with (fail)
      generalize w3.alloc (.cells #[.int .i64 t, .string xd] 75) = W4 at *
      generalize w3.heap.size = g4 at *
      have HB16 := Lib.hid B16
      have HE4 := Lib.hid (HE3.out.trans e16)
      have x0 : ∀ x : WE W4, x.W.cell? ⟨g4, 0, none⟩ = some (.int .i64 t) := fun x => (HB16.out.ext x.h).cell 0
      have x1 : ∀ x : WE W4, x.W.cell? ⟨g4, 1, none⟩ = some (.string xd) := fun x => (HB16.out.ext x.h).cell 1
      clear B16 e16 c0 c1 ca
      (refine wp_region_ext (w0 := W4) (by kernel_rfl) (by kernel_rfl) (by (repeat (with_reducible first | exact Ext.refl _ | assumption | refine Ext.drew ?_ | refine Ext.drewN ?_ _ | refine Ext.alloc ?_ _ | refine Ext.trans ?_ (by with_reducible assumption)))) ?_; (repeat (go_big_quiet_step (((go_at_call 62; exact quietE (HI.out _ (HE4.out.trans (WE.h _)))))))); refine wpQuiet_nil ?_)
      intro w5 hb5
      clear x0 x1
      go_wp2_with fail
      go_ret2
      exact ⟨AnsR.of HW.out rfl, HE4.out.trans hb5⟩
end Go.Proofs.YtfccbjfiionepaaGreatDoor

/- the references' Head, Signed, Verify. -/
namespace Go.Proofs.YtfccbjfiionepaaGreatDoor
open Go.RowKit Go.WideShapes
set_option linter.unusedVariables false
attribute [local go_sem ↓] Go.wp_at_zero Go.wp_at_succ

set_option maxRecDepth 100000 in
set_option maxHeartbeats 1000000 in
theorem RHead_any (h : Hd) (w : World) : Calls Tryz.prog 81 #[h.val] w fun e w' => e = .returned (.int .i64 (hdK h)) ∧ Ext w w' := by
  obtain ⟨hk, hhk⟩ : ∃ v, hdK h = v := ⟨_, rfl⟩
  have H1 : Hid (h.ok = true → hk = 0) := Lib.hid fun ho => by rw [← hhk]; exact if_pos ho
  have H2 : Hid (h.ok = false → hk = 1) := Lib.hid fun ho => by rw [← hhk]; exact if_neg (by rw [ho]; decide)
  rw [hhk]
  clear hhk
  have cs : (h.ok = false ∧ ((h.size < 0) ∨ (0 ≤ h.size ∧ 200 < h.size) ∨ (0 ≤ h.size ∧ h.size ≤ 200 ∧ h.time < 0) ∨ (0 ≤ h.size ∧ h.size ≤ 200 ∧ 0 ≤ h.time ∧ 1000000 < h.time) ∨ (0 ≤ h.size ∧ h.size ≤ 200 ∧ 0 ≤ h.time ∧ h.time ≤ 1000000 ∧ (vld h.root = false ∨ vld h.root = true ∧ vld h.sign = false)))) ∨ (h.ok = true ∧ 0 ≤ h.size ∧ h.size ≤ 200 ∧ 0 ≤ h.time ∧ h.time ≤ 1000000 ∧ vld h.root = true ∧ vld h.sign = true) := by
    cases ho : h.ok with
    | true => obtain ⟨a, b, c, d, e, f⟩ := Hd.ok_parts ho; exact .inr ⟨rfl, a, b, c, d, e, f⟩
    | false =>
      have hn := Hd.not_ok ho
      refine .inl ⟨rfl, ?_⟩
      by_cases q1 : h.size < 0
      · exact .inl q1
      by_cases q2 : 200 < h.size
      · exact .inr (.inl ⟨by omega, q2⟩)
      by_cases q3 : h.time < 0
      · exact .inr (.inr (.inl ⟨by omega, by omega, q3⟩))
      by_cases q4 : 1000000 < h.time
      · exact .inr (.inr (.inr (.inl ⟨by omega, by omega, by omega, q4⟩)))
      refine .inr (.inr (.inr (.inr ⟨by omega, by omega, by omega, by omega, ?_⟩)))
      cases hr : vld h.root with
      | false => exact .inl rfl
      | true =>
        cases hs : vld h.sign with
        | false => exact .inr ⟨rfl, rfl⟩
        | true => exact absurd ⟨by omega, by omega, by omega, by omega, hr, hs⟩ hn
  have HV1 := Lib.hid fun W => RValid_any h.root W
  have HV2 := Lib.hid fun W => RValid_any h.sign W
  obtain ⟨vr, hvr⟩ : ∃ v, vld h.root = v := ⟨_, rfl⟩
  obtain ⟨vs, hvs⟩ : ∃ v, vld h.sign = v := ⟨_, rfl⟩
  rw [hvr] at HV1 cs
  rw [hvs] at HV2 cs
  clear hvr hvs
  obtain ⟨ob, hob⟩ : ∃ v, h.ok = v := ⟨_, rfl⟩
  rw [hob] at H1 H2 cs
  clear hob
  obtain ⟨a, b, c, d⟩ := h
  simp only at cs HV1 HV2
  simp only [Hd.val]
  have B0 := Bk.at_ w 40 #[.int .i64 a, .int .i64 b, .int .i64 c, .int .i64 d] w.heap.size rfl
  have e0 : Ext w (w.alloc (.cells #[.int .i64 a, .int .i64 b, .int .i64 c, .int .i64 d] 40)) := by (repeat (with_reducible first | exact Ext.refl _ | assumption | refine Ext.drew ?_ | refine Ext.drewN ?_ _ | refine Ext.alloc ?_ _ | refine Ext.trans ?_ (by with_reducible assumption)))
  obtain ⟨g0, hg0⟩ : ∃ g, w.heap.size = g := ⟨_, rfl⟩
  rw [hg0] at B0
  have y0 := B0.cell 0
  have y1 := B0.cell 1
  have y2 := B0.cell 2
  have y3 := B0.cell 3
  go_enter Tryz.func81, Tryz.ntmps81
  go_upto_region 1 with (fail)
  try rw [hg0]
  generalize w.alloc (.cells #[.int .i64 a, .int .i64 b, .int .i64 c, .int .i64 d] 40) = W0 at *
  have HE0 := Lib.hid e0
  clear e0 hg0 B0
  go_wp2_with fail
  refine (HV1.out _).mono ?_
  rintro _ _ ⟨rfl, rfl⟩
  go_wp2_with fail
  refine (HV2.out _).mono ?_
  rintro _ _ ⟨rfl, rfl⟩
  clear HV1 HV2
  rcases cs with ⟨rfl, q⟩ | ⟨rfl, q1, q2, q3, q4, rfl, rfl⟩
  · obtain rfl := H2.out rfl
    rcases q with q1 | ⟨q1, q2⟩ | ⟨q1, q2, q3⟩ | ⟨q1, q2, q3, q4⟩ | ⟨q1, q2, q3, q4, rfl | ⟨rfl, rfl⟩⟩
    all_goals
      go_wp2_with fail
      go_ret
      exact ⟨rfl, HE0.out⟩
  · obtain rfl := H1.out rfl
    go_wp2_with fail
    go_ret
    exact ⟨rfl, HE0.out⟩

set_option maxRecDepth 100000 in
set_option maxHeartbeats 1000000 in
theorem RSigned_any (h : Hd) (key : Int) (w : World) (k : 0 ≤ h.size ∧ h.size ≤ 200 ∧ 0 ≤ h.time ∧ h.time ≤ 1000000) (hv : vld h.root = true) (hk : keyI key = true) :
    Calls Tryz.prog 82 #[h.val, .int .i64 key] w fun e w' => e = .returned (.int .i64 (signI h key)) ∧ Ext w w' := by
  obtain ⟨s1, s2, s3⟩ := signB_sizes k hk
  have s4 := hexT_size h.root.toNat
  have HSG : Hid (signI h key = sumL (four4 (digB h.size.toNat) (hexT h.root.toNat) (digB h.time.toNat) (digB key.toNat)).data.toList) := rfl
  obtain ⟨k1, k2, k3, k4⟩ := k
  obtain ⟨k5, k6⟩ := keyI_true hk
  obtain ⟨k7, k8⟩ := vld_true hv
  obtain ⟨a, b, c, d⟩ := h
  simp only at k1 k2 k3 k4 k7 k8 s1 s2 s4 hv
  obtain ⟨a, rfl⟩ := Int.eq_ofNat_of_zero_le k1
  obtain ⟨b, rfl⟩ := Int.eq_ofNat_of_zero_le k7
  obtain ⟨c, rfl⟩ := Int.eq_ofNat_of_zero_le k3
  obtain ⟨ky, rfl⟩ := Int.eq_ofNat_of_zero_le (show 0 ≤ key by omega)
  simp only [Int.toNat_natCast] at s1 s2 s3 s4 HSG
  have HI1 := Lib.hid fun W => RDigits_any a a W (Nat.le_refl _) (by omega)
  have HI2 := Lib.hid fun W => RDigits_any c c W (Nat.le_refl _) (by omega)
  have HI3 := Lib.hid fun W => RDigits_any ky ky W (Nat.le_refl _) (by omega)
  have HT := Lib.hid fun W => RText_any b W (by omega)
  obtain ⟨t1, ht1⟩ : ∃ t, digB a = t := ⟨_, rfl⟩
  obtain ⟨t2, ht2⟩ : ∃ t, hexT b = t := ⟨_, rfl⟩
  obtain ⟨t3, ht3⟩ : ∃ t, digB c = t := ⟨_, rfl⟩
  obtain ⟨t4, ht4⟩ : ∃ t, digB ky = t := ⟨_, rfl⟩
  rw [ht1] at HI1 HSG s1
  rw [ht2] at HT HSG s4
  rw [ht3] at HI2 HSG s2
  rw [ht4] at HI3 HSG s3
  have hz : (four4 t1 t2 t3 t4).size ≤ maxLen := by rw [four4_size]; unfold maxLen; omega
  have HSM := Lib.hid fun W => RSum_any (four4 t1 t2 t3 t4) W hz
  rw [← HSG.out] at HSM
  have HF : Hid (four4 t1 t2 t3 t4 = t1 ++ ⟨#[32]⟩ ++ t2 ++ ⟨#[32]⟩ ++ t3 ++ ⟨#[32]⟩ ++ t4) := rfl
  rw [HF.out] at HSM
  obtain ⟨sg, hsg⟩ : ∃ s, signI ⟨(a : Int), (b : Int), (c : Int), d⟩ (ky : Int) = s := ⟨_, rfl⟩
  rw [hsg] at HSM
  rw [hsg]
  have B0 := Bk.at_ w 40 #[.int .i64 a, .int .i64 b, .int .i64 c, .int .i64 d] w.heap.size rfl
  have e0 : Ext w (w.alloc (.cells #[.int .i64 a, .int .i64 b, .int .i64 c, .int .i64 d] 40)) := by (repeat (with_reducible first | exact Ext.refl _ | assumption | refine Ext.drew ?_ | refine Ext.drewN ?_ _ | refine Ext.alloc ?_ _ | refine Ext.trans ?_ (by with_reducible assumption)))
  clear hz ht1 ht2 ht3 ht4 hsg k1 k2 k3 k4 k5 k6 k7 k8 hv hk HSG
  obtain ⟨g0, hg0⟩ : ∃ g, w.heap.size = g := ⟨_, rfl⟩
  rw [hg0] at B0
  have y0 := B0.cell 0
  go_enter Tryz.func82, Tryz.ntmps82
  go_upto_region 1 with (fail)
  try rw [hg0]
  generalize w.alloc (.cells #[.int .i64 a, .int .i64 b, .int .i64 c, .int .i64 d] 40) = W0 at *
  have HE0 := Lib.hid e0
  clear e0 hg0
  go_wp2_with fail
  refine (HI1.out _).mono ?_
  rintro _ w1 ⟨rfl, hb1⟩
  have y1 := (B0.ext hb1).cell 1
  go_wp2_with fail
  refine (HT.out _).mono ?_
  rintro _ w2 ⟨rfl, hb2⟩
  have hb12 := hb1.trans hb2
  have y2 := (B0.ext hb12).cell 2
  go_wp2_with fail
  refine (HI2.out _).mono ?_
  rintro _ w3 ⟨rfl, hb3⟩
  go_wp2_with fail
  refine (HI3.out _).mono ?_
  rintro _ w4 ⟨rfl, hb4⟩
  go_wp2_with fail
  refine (HSM.out _).mono ?_
  rintro _ _ ⟨rfl, rfl⟩
  go_wp2_with fail
  go_ret
  exact ⟨rfl, HE0.out.trans ((hb12.trans hb3).trans hb4)⟩

end Go.Proofs.YtfccbjfiionepaaGreatDoor
