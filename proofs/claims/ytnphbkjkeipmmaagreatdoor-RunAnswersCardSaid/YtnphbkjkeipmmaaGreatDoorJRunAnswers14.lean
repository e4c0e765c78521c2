/- RunAnswers: the walk. -/
import Derived.Test.YtnphbkjkeipmmaaGreatDoorJRunAnswers1
import Derived.Test.YtnphbkjkeipmmaaGreatDoorJRunAnswers13
namespace Go.Proofs.YtnphbkjkeipmmaaGreatDoor.runAnswers
open Go.RowKit Go.WideShapes
set_option linter.unusedVariables false
attribute [local go_sem ↓] Go.wp_at_zero Go.wp_at_succ

/-- a text cut at its ends of lines, and its lines -/
theorem cut_lines (l : List UInt8) : partsL 10 l = linesL l ++ [[]] ∨ (partsL 10 l = linesL l ∧ ∃ p x, linesL l = p ++ [x] ∧ x ≠ []) := by
  by_cases h0 : l = []
  · subst h0
    exact .inl rfl
  · have hne := partsL_ne 10 l
    have hd : partsL 10 l = (partsL 10 l).dropLast ++ [(partsL 10 l).getLast hne] := (List.dropLast_concat_getLast hne).symm
    have hg : (partsL 10 l).getLast? = some ((partsL 10 l).getLast hne) := List.getLast?_eq_some_getLast hne
    by_cases h1 : (partsL 10 l).getLast hne = []
    · refine .inl ?_
      unfold linesL
      rw [if_neg h0, hg, h1, if_pos rfl]
      conv => lhs; rw [hd, h1]
    · have e : linesL l = partsL 10 l := by
        unfold linesL
        rw [if_neg h0, hg, if_neg]
        intro e
        injection e with e
        exact h1 e
      exact .inr ⟨e.symm, _, _, e.trans hd, h1⟩
theorem cut_linesB (t : ByteArray) : partsB 10 t = (linesL t.data.toList).map baS ++ [noT] ∨ (partsB 10 t = (linesL t.data.toList).map baS ∧ ∃ p x, (linesL t.data.toList).map baS = p ++ [x] ∧ x ≠ noT) := by
  unfold partsB
  rcases cut_lines t.data.toList with h | ⟨h, p, x, h2, h3⟩
  · left
    rw [h, List.map_append]
    rfl
  · right
    refine ⟨by rw [h]; rfl, p.map baS, baS x, by rw [h2, List.map_append]; rfl, fun e => h3 ?_⟩
    have : (baS x).data.toList = noT.data.toList := by rw [e]
    exact this
theorem baS_toList (l : List UInt8) : (baS l).data.toList = l := rfl
set_option maxRecDepth 100000 in
set_option maxHeartbeats 8000000 in
theorem walk (t : ByteArray) (w : World) (hS : StrG w) (hD : DebG w) (hP : PowG w) (hM : MaxG w) (hg : ErrG w) :
    Calls Tryz.prog 3 #[.string t] w fun e w' => e = .returned (.bool true) ∧ Ext w w' := by
  have HRN : Hid (Calls Tryz.prog 6 #[.string t] w fun e w' => e = .returned (.string (runT t)) ∧ Ext w w') := Lib.hid (Run_any t w hD hP hS hM hg)
  by_cases hl : 3000 < t.size
  · have hi : (3000 : Int) < (t.size : Int) := by omega
    rw [runT_long hl] at HRN
    obtain ⟨lo, hlo⟩ : ∃ z, longT = z := ⟨_, rfl⟩
    rw [hlo] at HRN
    obtain ⟨hp, hp'⟩ := tl_yes (s := lo) (l := [116, 111, 111, 32, 108, 111, 110, 103, 10]) hlo.symm
    clear hl hlo hS hD hP hM hg
    go_enter Tryz.func3, Tryz.ntmps3
    go_wp2_with fail
    refine HRN.out.mono ?_
    rintro _ w1 ⟨rfl, hb1⟩
    go_wp2_with fail
    go_ret
    exact ⟨rfl, hb1⟩
  have hi : ¬ (3000 : Int) < (t.size : Int) := by omega
  rw [runT_ok (by omega)] at HRN
  have hlen := linesL_len t.data.toList
  have hmem := linesL_mem (t := t.data.toList)
  have htl : t.data.toList.length = t.size := rfl
  have HCT := Lib.hid fun W => RCut_any t 10 W (by omega)
  have hcw := cut_linesB t
  obtain ⟨L, hL⟩ : ∃ L, linesL t.data.toList = L := ⟨_, rfl⟩
  rw [hL] at HRN hlen hmem hcw
  have hk3 : L.length ≤ 3000 := by omega
  have HLS : Hid (∀ l ∈ L, (baS l).size ≤ 3000) := Lib.hid fun l hl2 => by
    have := hmem l hl2
    show l.toArray.size ≤ _
    rw [List.size_toArray]
    omega
  obtain ⟨G, hG⟩ : ∃ G, (playD dk0 noT L).2 = G := ⟨_, rfl⟩
  have HG := Lib.hid hG
  rw [hG] at HRN
  obtain ⟨k, hk⟩ : ∃ k, L.length = k := ⟨_, rfl⟩
  have HK := Lib.hid hk
  rw [hk] at hk3
  -- the loop, from a world in which the lines can be read
  have hgq : (G.toList == G.toList) = true := beq_iff_eq.2 rfl
  clear hL hG hk hlen hmem htl hl hS hD hP hM hg
  have main : Hid (∃ q : Nat, (q = k + 1 ∨ q = k) ∧ partsB 10 t = L.map baS ++ List.replicate (q - k) noT ∧ (q = k → ∃ p x, L.map baS = p ++ [x] ∧ x ≠ noT)) := by
    rcases hcw with h | ⟨h, h2⟩
    · exact Lib.hid ⟨k + 1, .inl rfl, by rw [h, show k + 1 - k = 1 by omega]; rfl, fun e => by omega⟩
    · exact Lib.hid ⟨k, .inr rfl, by rw [h, Nat.sub_self]; simp, fun _ => h2⟩
  obtain ⟨q, hq, hpb, hqk⟩ := main.out
  have hqlen : (L.map baS ++ List.replicate (q - k) noT).length = q := by
    rw [List.length_append, List.length_map, List.length_replicate, HK.out]; omega
  have HCQ : Hid (∀ W, Calls Tryz.prog 7 #[.string t, .int .u8 10] W fun e w' => (∃ A c, e = .returned (.slice A q c) ∧ c ≤ maxLen ∧ Rd w' 1 A q c ((L.map baS ++ List.replicate (q - k) noT).map Value.string)) ∧ Ext W w') := Lib.hid fun W => (HCT.out W).mono fun e w' hh => by
    obtain ⟨⟨v, q1, q2⟩, q3⟩ := hh
    rw [hpb] at q2
    unfold OwnS at q2
    rw [hqlen] at q2
    obtain ⟨A, c, rfl, h1, h2, _⟩ := own_rd q2
    exact ⟨⟨A, c, q1, h1, h2⟩, q3⟩
  have hq0 : 0 < q := by
    rcases hq with e | e
    · omega
    · obtain ⟨p, x, e2, _⟩ := hqk e
      have : (L.map baS).length = p.length + 1 := by rw [e2]; simp
      rw [List.length_map, HK.out] at this
      omega
  -- the last of them
  obtain ⟨lx, hlx, hlz⟩ : ∃ lx : ByteArray, (L.map baS ++ List.replicate (q - k) noT)[q - 1]? = some lx ∧ ((q = k + 1 ∧ lx = noT) ∨ (q = k ∧ lx ≠ noT)) := by
    rcases hq with e | e
    · refine ⟨noT, ?_, .inl ⟨e, rfl⟩⟩
      rw [List.getElem?_append_right (by rw [List.length_map, HK.out]; omega), List.length_map, HK.out, e]
      rw [show k + 1 - 1 - k = 0 by omega, show k + 1 - k = 1 by omega]
      rfl
    · obtain ⟨p, x, e2, h3⟩ := hqk e
      refine ⟨x, ?_, .inr ⟨e, h3⟩⟩
      have hpl : p.length = q - 1 := by
        have : (L.map baS).length = p.length + 1 := by rw [e2]; simp
        rw [List.length_map, HK.out] at this
        omega
      rw [e2, List.append_assoc, List.getElem?_append_right (by omega), hpl, Nat.sub_self]
      rfl
  have HLX := Lib.hid hlx
  clear HCT hcw hpb hqk hqlen main hlx
  go_enter Tryz.func3, Tryz.ntmps3
  go_wp2_with fail
  refine HRN.out.mono ?_
  rintro _ w1 ⟨rfl, hb1⟩
  go_wp2_with fail
  refine (HCQ.out _).mono ?_
  rintro _ w2 ⟨⟨A, c, rfl, hcm, hrd⟩, hb2⟩
  have HE2 := Lib.hid (hb1.trans hb2)
  have hqc := hrd.2.1
  have hcs : c ≤ 9223372036854775807 := by unfold maxLen at hcm; omega
  obtain ⟨ad, rfl, hbk, hcell⟩ := hrd.2.2 hq0
  have HRD := Lib.hid hrd
  have HCL : Hid (∀ j (u : ByteArray), (L.map baS ++ List.replicate (q - k) noT)[j]? = some u → ∀ W, Ext w2 W → W.cell? (ad.add j) = some (.string u)) := Lib.hid fun j u hu W e => by
    have h1 := hcell j (.string u) (by rw [List.getElem?_map, hu]; rfl)
    exact (e.cell (p := ad.add j) (by rw [blk_add]; exact hbk)).trans h1
  have ylast := HCL.out (q - 1) lx HLX.out w2 (Ext.refl _)
  have hqi : ((q : Int) - 1) = ((q - 1 : Nat) : Int) := by omega
  clear hb1 hb2 hrd hcell hcm HCQ HRN
  rcases hlz with ⟨e1, rfl⟩ | ⟨e1, hlx⟩
  · have hq1 : (q : Int) - 1 = (k : Int) := by omega
    have hqk1 : q - 1 = k := by omega
    rw [hqk1] at ylast
    have hki : (k : Int) ≤ (q : Int) := by omega
    have hkc : (k : Int) ≤ (c : Int) := by omega
    obtain ⟨nt, hnt2⟩ : ∃ z, noT = z := ⟨_, rfl⟩
    rw [hnt2] at ylast
    obtain ⟨hn1, hn2⟩ := tl_yes (s := nt) (l := []) hnt2.symm
    have hn3 : nt.toList.isEmpty = true := by rw [hn2]; rfl
    go_wp2_with fail
    clear hn1 hn2 hn3 hnt2 ylast
    have BM := Bk.at_ w2 31 #[.int .i64 7, .slice none 0 0, .int .i64 0, .int .i64 0, .int .i64 0, .int .i64 0, .int .i64 0, .int .i64 0, .int .i64 0, .int .i64 0, .slice none 0 0] w2.heap.size rfl
    have BD := Bk.at_ (w2.alloc (.cells #[.int .i64 7, .slice none 0 0, .int .i64 0, .int .i64 0, .int .i64 0, .int .i64 0, .int .i64 0, .int .i64 0, .int .i64 0, .int .i64 0, .slice none 0 0] 31)) 33 #[.slice none 0 0, .pointer (some ⟨w2.heap.size, 0, none⟩)] (w2.heap.size + 1) (by simp)
    have X3 : Ext w2 ((w2.alloc (.cells #[.int .i64 7, .slice none 0 0, .int .i64 0, .int .i64 0, .int .i64 0, .int .i64 0, .int .i64 0, .int .i64 0, .int .i64 0, .int .i64 0, .slice none 0 0] 31)).alloc (.cells #[.slice none 0 0, .pointer (some ⟨w2.heap.size, 0, none⟩)] 33)) := ((Ext.refl w2).alloc _).alloc _
    have HDD : Hid (DD 33 31 ((w2.alloc (.cells #[.int .i64 7, .slice none 0 0, .int .i64 0, .int .i64 0, .int .i64 0, .int .i64 0, .int .i64 0, .int .i64 0, .int .i64 0, .int .i64 0, .slice none 0 0] 31)).alloc (.cells #[.slice none 0 0, .pointer (some ⟨w2.heap.size, 0, none⟩)] 33)) (fun g => w2.heap.size ≤ g) (w2.heap.size + 1) dk0) := Lib.hid ⟨.slice none 0 0, w2.heap.size, .slice none 0 0, .slice none 0 0, ⟨BD, own_nil _ _ _ _, ⟨BM.alloc _, own_nil _ _ _ _, own_nil _ _ _ _, (fun g hg => by cases hg), Mi.Good.new 7⟩, (fun g hg => by cases hg), dk0_good, by decide⟩, fun g hf => by
      rcases hf with rfl | hf | rfl | hf | hf
      · exact Nat.le_succ _
      · cases hf
      · exact Nat.le_refl _
      · cases hf
      · cases hf⟩
    have HX3 := Lib.hid X3
    clear BM BD X3
    generalize ((w2.alloc (.cells #[.int .i64 7, .slice none 0 0, .int .i64 0, .int .i64 0, .int .i64 0, .int .i64 0, .int .i64 0, .int .i64 0, .int .i64 0, .int .i64 0, .slice none 0 0] 31)).alloc (.cells #[.slice none 0 0, .pointer (some ⟨w2.heap.size, 0, none⟩)] 33)) = W3 at *
    obtain ⟨db, hdb⟩ : ∃ z, w2.heap.size + 1 = z := ⟨_, rfl⟩
    rw [hdb] at HDD ⊢
    clear hdb
    go_loopw [6, 7] (fun a b wr => ∃ (i : Nat) (u : ByteArray), a = .string u ∧ b = .int .i64 i ∧ i ≤ k ∧ u.size ≤ 150000000 ∧ Hid (u = (playD dk0 noT (L.take i)).2) ∧ Hid (DD 33 31 wr (fun g => w2.heap.size ≤ g) db (playD dk0 noT (L.take i)).1) ∧ Hid (Ext w2 wr)) (fun _ b _ => k - (intOf b).toNat)
    case atStart => exact ⟨0, noT, rfl, rfl, Nat.zero_le _, Nat.zero_le _, Lib.hid rfl, HDD, HX3⟩
    case round =>
      obtain ⟨i, u, rfl, rfl, hik, hzu, HU, HDr, HXr⟩ := hrel
      by_cases hc : i < k
      · have hiL : i < L.length := by rw [HK.out]; exact hc
        obtain ⟨li, hli⟩ : ∃ li, L[i]'hiL = li := ⟨_, rfl⟩
        have hget : L[i]? = some li := by rw [List.getElem?_eq_getElem hiL, hli]
        have htk : L.take (i + 1) = L.take i ++ [li] := by rw [List.take_succ_eq_append_getElem hiL, hli]
        have hlm : (baS li).size ≤ 3000 := HLS.out li (List.mem_of_getElem? hget)
        have hce : (L.map baS ++ List.replicate (q - k) noT)[i]? = some (baS li) := by
          rw [List.getElem?_append_left (by rw [List.length_map]; exact hiL), List.getElem?_map, hget]
          rfl
        have yi := HCL.out i (baS li) hce wr HXr.out
        have hgd := HDr.out.good
        have hps := playD_size (L.take (i + 1)) noT dk0_good
        rw [htk, playD_snoc, ← HU.out] at hps
        have hlen1 : (L.take i ++ [li]).length = i + 1 := by rw [← htk, List.length_take, HK.out]; omega
        rw [hlen1] at hps
        dsimp only at hps
        have hn0 : noT.size = 0 := rfl
        have hm8 : (i + 1) * 40001 ≤ 3000 * 40001 := Nat.mul_le_mul_right _ (by omega)
        have hsn : playD dk0 noT (L.take (i + 1)) = (nextD (playD dk0 noT (L.take i)).1 (baS li), u ++ ansD (playD dk0 noT (L.take i)).1 (baS li) ++ nlT) := by rw [htk, playD_snoc, ← HU.out]
        have hasz := ansD_size hgd (baS li)
        have HRL := Lib.hid (RLine_any (fun g => w2.heap.size ≤ g) db (playD dk0 noT (L.take i)).1 (baS li) wr HDr.out (fun g hg => Nat.le_trans HXr.out.size hg) hlm)
        obtain ⟨sl, hsl⟩ : ∃ z, baS li = z := ⟨_, rfl⟩
        obtain ⟨di, hdi⟩ : ∃ z, (playD dk0 noT (L.take i)).1 = z := ⟨_, rfl⟩
        rw [hsl, hdi] at hsn hps hasz HRL
        rw [hsl] at yi
        obtain ⟨an, han⟩ : ∃ z, ansD di sl = z := ⟨_, rfl⟩
        rw [han] at hsn hps hasz HRL
        have HSN := Lib.hid hsn
        have hci : (i : Int) < (k : Int) := by omega
        have hzn : (u ++ an ++ ⟨#[10]⟩ : ByteArray).size ≤ 150000000 := by
          have h9 : (u ++ an ++ nlT).size = (u ++ an ++ ⟨#[10]⟩ : ByteArray).size := rfl
          omega
        clear hli hget htk hlm hce hgd hps hlen1 hn0 hm8 hsn hsl hdi han hiL
        go_wp2_with fail
        refine HRL.out.mono ?_
        rintro _ w5 ⟨rfl, hop⟩
        have HOP := Lib.hid hop
        clear hop yi
        go_wp2_with fail
        go_roundw
        case rel => exact ⟨i + 1, u ++ an ++ ⟨#[10]⟩, rfl, by go_num, by omega, hzn, Lib.hid (by rw [HSN.out]; rfl), Lib.hid (by rw [HSN.out]; exact HOP.out.1), Lib.hid (chg_ext HOP.out.2 HXr.out fun g hg => hg)⟩
        case measure => simp [intOf]; omega
      · obtain rfl : k = i := by omega
        have hu := HU.out
        rw [← HK.out, List.take_length, HG.out] at hu
        subst hu
        clear hc HDr HDD
        go_wp2_with fail
        go_ret
        exact ⟨rfl, HE2.out.trans HXr.out⟩
  · obtain rfl : k = q := e1.symm
    obtain ⟨hn1, hn2⟩ := tl_no (s := lx) (l := []) hlx
    have hn3 : lx.toList.isEmpty = false := by
      cases h : lx.toList with
      | nil => exact absurd h hn2
      | cons a b => rfl
    go_wp2_with fail
    clear hn1 hn2 hn3 hlx ylast
    have BM := Bk.at_ w2 31 #[.int .i64 7, .slice none 0 0, .int .i64 0, .int .i64 0, .int .i64 0, .int .i64 0, .int .i64 0, .int .i64 0, .int .i64 0, .int .i64 0, .slice none 0 0] w2.heap.size rfl
    have BD := Bk.at_ (w2.alloc (.cells #[.int .i64 7, .slice none 0 0, .int .i64 0, .int .i64 0, .int .i64 0, .int .i64 0, .int .i64 0, .int .i64 0, .int .i64 0, .int .i64 0, .slice none 0 0] 31)) 33 #[.slice none 0 0, .pointer (some ⟨w2.heap.size, 0, none⟩)] (w2.heap.size + 1) (by simp)
    have X3 : Ext w2 ((w2.alloc (.cells #[.int .i64 7, .slice none 0 0, .int .i64 0, .int .i64 0, .int .i64 0, .int .i64 0, .int .i64 0, .int .i64 0, .int .i64 0, .int .i64 0, .slice none 0 0] 31)).alloc (.cells #[.slice none 0 0, .pointer (some ⟨w2.heap.size, 0, none⟩)] 33)) := ((Ext.refl w2).alloc _).alloc _
    have HDD : Hid (DD 33 31 ((w2.alloc (.cells #[.int .i64 7, .slice none 0 0, .int .i64 0, .int .i64 0, .int .i64 0, .int .i64 0, .int .i64 0, .int .i64 0, .int .i64 0, .int .i64 0, .slice none 0 0] 31)).alloc (.cells #[.slice none 0 0, .pointer (some ⟨w2.heap.size, 0, none⟩)] 33)) (fun g => w2.heap.size ≤ g) (w2.heap.size + 1) dk0) := Lib.hid ⟨.slice none 0 0, w2.heap.size, .slice none 0 0, .slice none 0 0, ⟨BD, own_nil _ _ _ _, ⟨BM.alloc _, own_nil _ _ _ _, own_nil _ _ _ _, (fun g hg => by cases hg), Mi.Good.new 7⟩, (fun g hg => by cases hg), dk0_good, by decide⟩, fun g hf => by
      rcases hf with rfl | hf | rfl | hf | hf
      · exact Nat.le_succ _
      · cases hf
      · exact Nat.le_refl _
      · cases hf
      · cases hf⟩
    have HX3 := Lib.hid X3
    clear BM BD X3
    generalize ((w2.alloc (.cells #[.int .i64 7, .slice none 0 0, .int .i64 0, .int .i64 0, .int .i64 0, .int .i64 0, .int .i64 0, .int .i64 0, .int .i64 0, .int .i64 0, .slice none 0 0] 31)).alloc (.cells #[.slice none 0 0, .pointer (some ⟨w2.heap.size, 0, none⟩)] 33)) = W3 at *
    obtain ⟨db, hdb⟩ : ∃ z, w2.heap.size + 1 = z := ⟨_, rfl⟩
    rw [hdb] at HDD ⊢
    clear hdb
    go_loopw [6, 7] (fun a b wr => ∃ (i : Nat) (u : ByteArray), a = .string u ∧ b = .int .i64 i ∧ i ≤ k ∧ u.size ≤ 150000000 ∧ Hid (u = (playD dk0 noT (L.take i)).2) ∧ Hid (DD 33 31 wr (fun g => w2.heap.size ≤ g) db (playD dk0 noT (L.take i)).1) ∧ Hid (Ext w2 wr)) (fun _ b _ => k - (intOf b).toNat)
    case atStart => exact ⟨0, noT, rfl, rfl, Nat.zero_le _, Nat.zero_le _, Lib.hid rfl, HDD, HX3⟩
    case round =>
      obtain ⟨i, u, rfl, rfl, hik, hzu, HU, HDr, HXr⟩ := hrel
      by_cases hc : i < k
      · have hiL : i < L.length := by rw [HK.out]; exact hc
        obtain ⟨li, hli⟩ : ∃ li, L[i]'hiL = li := ⟨_, rfl⟩
        have hget : L[i]? = some li := by rw [List.getElem?_eq_getElem hiL, hli]
        have htk : L.take (i + 1) = L.take i ++ [li] := by rw [List.take_succ_eq_append_getElem hiL, hli]
        have hlm : (baS li).size ≤ 3000 := HLS.out li (List.mem_of_getElem? hget)
        have hce : (L.map baS ++ List.replicate (k - k) noT)[i]? = some (baS li) := by
          rw [List.getElem?_append_left (by rw [List.length_map]; exact hiL), List.getElem?_map, hget]
          rfl
        have yi := HCL.out i (baS li) hce wr HXr.out
        have hgd := HDr.out.good
        have hps := playD_size (L.take (i + 1)) noT dk0_good
        rw [htk, playD_snoc, ← HU.out] at hps
        have hlen1 : (L.take i ++ [li]).length = i + 1 := by rw [← htk, List.length_take, HK.out]; omega
        rw [hlen1] at hps
        dsimp only at hps
        have hn0 : noT.size = 0 := rfl
        have hm8 : (i + 1) * 40001 ≤ 3000 * 40001 := Nat.mul_le_mul_right _ (by omega)
        have hsn : playD dk0 noT (L.take (i + 1)) = (nextD (playD dk0 noT (L.take i)).1 (baS li), u ++ ansD (playD dk0 noT (L.take i)).1 (baS li) ++ nlT) := by rw [htk, playD_snoc, ← HU.out]
        have hasz := ansD_size hgd (baS li)
        have HRL := Lib.hid (RLine_any (fun g => w2.heap.size ≤ g) db (playD dk0 noT (L.take i)).1 (baS li) wr HDr.out (fun g hg => Nat.le_trans HXr.out.size hg) hlm)
        obtain ⟨sl, hsl⟩ : ∃ z, baS li = z := ⟨_, rfl⟩
        obtain ⟨di, hdi⟩ : ∃ z, (playD dk0 noT (L.take i)).1 = z := ⟨_, rfl⟩
        rw [hsl, hdi] at hsn hps hasz HRL
        rw [hsl] at yi
        obtain ⟨an, han⟩ : ∃ z, ansD di sl = z := ⟨_, rfl⟩
        rw [han] at hsn hps hasz HRL
        have HSN := Lib.hid hsn
        have hci : (i : Int) < (k : Int) := by omega
        have hzn : (u ++ an ++ ⟨#[10]⟩ : ByteArray).size ≤ 150000000 := by
          have h9 : (u ++ an ++ nlT).size = (u ++ an ++ ⟨#[10]⟩ : ByteArray).size := rfl
          omega
        clear hli hget htk hlm hce hgd hps hlen1 hn0 hm8 hsn hsl hdi han hiL
        go_wp2_with fail
        refine HRL.out.mono ?_
        rintro _ w5 ⟨rfl, hop⟩
        have HOP := Lib.hid hop
        clear hop yi
        go_wp2_with fail
        go_roundw
        case rel => exact ⟨i + 1, u ++ an ++ ⟨#[10]⟩, rfl, by go_num, by omega, hzn, Lib.hid (by rw [HSN.out]; rfl), Lib.hid (by rw [HSN.out]; exact HOP.out.1), Lib.hid (chg_ext HOP.out.2 HXr.out fun g hg => hg)⟩
        case measure => simp [intOf]; omega
      · obtain rfl : k = i := by omega
        have hu := HU.out
        rw [← HK.out, List.take_length, HG.out] at hu
        subst hu
        clear hc HDr HDD
        go_wp2_with fail
        go_ret
        exact ⟨rfl, HE2.out.trans HXr.out⟩
end Go.Proofs.YtnphbkjkeipmmaaGreatDoor.runAnswers
