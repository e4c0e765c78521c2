/- wal: piece, record. -/
import Derived.Test.YtcgfdhgceokcnaaGreatDoorJWalKeeps10
import Derived.Test.YtcgfdhgceokcnaaGreatDoorJWalKeeps16
import Derived.Test.YtcgfdhgceokcnaaGreatDoorJWalKeeps14
import Derived.Test.YtcgfdhgceokcnaaGreatDoorJWalKeeps22
import Derived.BigRegion
import Derived.Lib.MinMax
namespace Go.Proofs.YtcgfdhgceokcnaaGreatDoor
open Go.RowKit Go.WideShapes
set_option linter.unusedVariables false
attribute [local go_sem ↓] Go.wp_at_zero Go.wp_at_succ

/-- a piece, as a text -/
def pieB (s : ByteArray) : ByteArray := digB s.size ++ ⟨#[58]⟩ ++ s
theorem pieB_list (s : ByteArray) : (pieB s).data.toList = pieceL s.data.toList := by
  unfold pieB pieceL
  rw [show s.data.toList.length = s.size from rfl, ← digB_dec s.size s.size (Nat.le_refl _)]
  simp
theorem pieB_size {s : ByteArray} (h : s.size < 1000000000) : (pieB s).size ≤ s.size + 10 := by
  have h1 := piece_le (s := s.data.toList) h
  rw [← pieB_list] at h1
  exact h1
set_option maxRecDepth 100000 in
set_option maxHeartbeats 1000000 in
theorem WPiece_any (s : ByteArray) (w : World) (hs : s.size ≤ 100000000) (hP : PowG w) :
    Calls Tryz.prog 64 #[.string s] w fun e w' => e = .returned (.string (pieB s)) ∧ Ext w w' := by
  have hI := ItoaI_any (s.size : Int) w (by omega) (by omega) hP
  rw [digB_itoa] at hI
  have HI := Lib.hid hI
  have hd : (digB s.size).size ≤ 9 := digB_small 8 _ (by show _ < 1000000000; omega)
  have HV : Hid (pieB s = digB s.size ++ ⟨#[58]⟩ ++ s) := rfl
  obtain ⟨d, hdd⟩ : ∃ d, digB s.size = d := ⟨_, rfl⟩
  rw [hdd] at HI HV hd
  have h1 : (⟨#[58]⟩ : ByteArray).size = 1 := rfl
  have h2 : (d ++ (⟨#[58]⟩ : ByteArray)).size ≤ 10 := by rw [ByteArray.size_append]; omega
  clear hI hdd hP
  go_enter Tryz.func64, Tryz.ntmps64
  go_wp2_with fail
  refine HI.out.mono ?_
  rintro _ w1 ⟨rfl, hb1⟩
  go_wp2_with fail
  go_ret
  exact ⟨ret_str HV.out.symm, hb1⟩


theorem pairs_snoc (b : List Pr) (p : Pr) : pairsL (b ++ [p]) = pairsL b ++ pairL p := by
  unfold pairsL
  rw [List.flatMap_append]; simp
def sgB (g : Bool) : ByteArray := if g = true then ⟨#[45]⟩ else ⟨#[43]⟩
theorem pairL_B (pk pv : ByteArray) (pg : Bool) : (pieB (sgB pg ++ pk) ++ pieB pv).data.toList = pairL ⟨pk, pv, pg⟩ := by
  have h1 : (sgB pg ++ pk).data.toList = pairL.signC ⟨pk, pv, pg⟩ :: pk.data.toList := by
    cases pg <;> simp [sgB, pairL.signC]
  have h2 : (pieB (sgB pg ++ pk) ++ pieB pv).data.toList = (pieB (sgB pg ++ pk)).data.toList ++ (pieB pv).data.toList := by simp
  rw [h2, pieB_list, pieB_list, h1]
  rfl

set_option maxRecDepth 100000 in
set_option maxHeartbeats 4000000 in
theorem WRecord_any (A : Option Addr) (n c : Nat) (b : List Pr) (w : World) (hr : Rd w 3 A n c (b.flatMap Pr.cells)) (hbl : b.length = n) (hc : c ≤ maxLen) (h20 : n ≤ 20) (hs : ∀ p ∈ b, smallP p) (hP : PowG w) :
    Calls Tryz.prog 32 #[.slice A n c] w fun e w' => (∃ S, e = .returned (.string S) ∧ S.data.toList = recL b) ∧ Ext w w' := by
  have hn0 := hr.2.1
  have HBL := Lib.hid hbl
  have HR := Lib.hid hr
  have HS := Lib.hid hs
  have HP := Lib.hid hP
  have HLEN := Lib.hid (fun i => pairs_len (b := b.take i) fun p hp => hs p (List.mem_of_mem_take hp))
  have H0 : Hid ((⟨#[]⟩ : ByteArray).data.toList = pairsL (b.take 0)) := Lib.hid (by simp [pairsL])
  unfold maxLen at hc
  clear hr hbl hs hP
  go_enter Tryz.func32, Tryz.ntmps32
  go_wp2_with fail
  go_loopw [3, 5, 6, 9] (fun sv _ _ u wr => ∃ (i : Nat) (S : ByteArray), sv = .string S ∧ u = .int .i64 i ∧ i ≤ n ∧ Ext w wr ∧ Hid (S.data.toList = pairsL (b.take i))) (fun _ _ _ u _ => n - (intOf u).toNat)
  case atStart => exact ⟨0, ⟨#[]⟩, rfl, rfl, Nat.zero_le _, Ext.refl _, H0⟩
  case round =>
    obtain ⟨i, S, rfl, rfl, hi, hbw, hS⟩ := hrel
    have hl := HLEN.out i
    rw [← hS.out] at hl
    have hSl : S.size ≤ 40600 := by
      have h1 : S.data.toList.length = S.size := rfl
      have h2 : (b.take i).length ≤ i := by rw [List.length_take]; omega
      have h3 : (b.take i).length * 2030 ≤ 20 * 2030 := Nat.mul_le_mul_right _ (by omega)
      omega
    clear hl
    by_cases hci : i < n
    · obtain ⟨p, hp⟩ : ∃ p, b[i]? = some p := ⟨_, List.getElem?_eq_getElem (by rw [HBL.out]; exact hci)⟩
      obtain ⟨ad1, rfl, hb1, y0, y1, y2⟩ := (HR.out.ext hbw).getP hp
      obtain ⟨hs1, hs2⟩ := HS.out p (List.mem_of_getElem? hp)
      have HTS : Hid (pairsL (b.take (i + 1)) = pairsL (b.take i) ++ pairL p) := Lib.hid (by
        obtain ⟨g1, g2⟩ := List.getElem?_eq_some_iff.1 hp
        rw [List.take_succ_eq_append_getElem g1, g2, pairs_snoc])
      obtain ⟨pk, pv, pg⟩ := p
      simp only at y0 y1 y2 hs1 hs2
      have HPL := Lib.hid (pairL_B pk pv pg)
      have P3 := Bk.at_ wr 31 #[.string pk, .string pv, .bool pg] wr.heap.size rfl
      have e3 : Ext w (wr.alloc (.cells #[.string pk, .string pv, .bool pg] 31)) := hbw.alloc _
      have hsg : (sgB pg).size = 1 := by cases pg <;> rfl
      have hk1 : (sgB pg ++ pk).size ≤ 1001 := by rw [ByteArray.size_append]; omega
      have hK := pieB_size (s := sgB pg ++ pk) (by omega)
      have hV := pieB_size (s := pv) (by omega)
      obtain ⟨K, hKe⟩ : ∃ K, pieB (sgB pg ++ pk) = K := ⟨_, rfl⟩
      obtain ⟨V, hVe⟩ : ∃ V, pieB pv = V := ⟨_, rfl⟩
      have hC1 : ∀ W, Ext w W → Calls Tryz.prog 64 #[.string (sgB pg ++ pk)] W fun e w' => e = .returned (.string K) ∧ Ext W w' := fun W e => by
        rw [← hKe]; exact WPiece_any _ W (by omega) (HP.out.ext e)
      have hC2 : ∀ W, Ext w W → Calls Tryz.prog 64 #[.string pv] W fun e w' => e = .returned (.string V) ∧ Ext W w' := fun W e => by
        rw [← hVe]; exact WPiece_any _ W (by omega) (HP.out.ext e)
      rw [hKe] at hK
      rw [hVe] at hV
      rw [hKe, hVe] at HPL
      have hK' : K.size ≤ 1011 := by omega
      have hV' : V.size ≤ 1010 := by omega
      have HST : Hid ((S ++ (K ++ V)).data.toList = pairsL (b.take (i + 1))) := Lib.hid (by
        have h2 : (S ++ (K ++ V)).data.toList = S.data.toList ++ (K ++ V).data.toList := by simp
        rw [h2, HPL.out, hS.out, HTS.out])
      clear hp hKe hVe HPL HTS hK hV hS
      go_upto_region 5 with (fail)
      generalize wr.alloc (.cells #[.string pk, .string pv, .bool pg] 31) = W3 at *
      obtain ⟨kb, hkb⟩ : ∃ g, wr.heap.size = g := ⟨_, rfl⟩
      rw [hkb] at P3 ⊢
      have z2 : W3.cell? ⟨kb, 2, none⟩ = some (.bool pg) := P3.cell 2
      have c0 : ∀ x_1 : WE W3, x_1.W.cell? ⟨kb, 0, none⟩ = some (.string pk) := fun x_1 => (P3.ext x_1.h).cell 0
      have c1 : ∀ x_1 : WE W3, x_1.W.cell? ⟨kb, 1, none⟩ = some (.string pv) := fun x_1 => (P3.ext x_1.h).cell 1
      have HC1 := Lib.hid fun x_1 : WE W3 => hC1 x_1.W (e3.trans x_1.h)
      have HC2 := Lib.hid fun x_1 : WE W3 => hC2 x_1.W (e3.trans x_1.h)
      clear hC1 hC2 P3 hkb
      have h43 : (⟨#[43]⟩ : ByteArray).size = 1 := rfl
      have h45 : (⟨#[45]⟩ : ByteArray).size = 1 := rfl
      cases pg
      all_goals
        simp only [sgB, Bool.false_eq_true, if_false, if_true] at HC1 hk1 hsg
        go_upto_region 8 with (fail)
        (refine wp_region_ext (w0 := W3) (by kernel_rfl) (by kernel_rfl) (by (repeat (with_reducible first | exact Ext.refl _ | assumption | refine Ext.drew ?_ | refine Ext.drewN ?_ _ | refine Ext.alloc ?_ _ | refine Ext.trans ?_ (by with_reducible assumption)))) ?_; (repeat (go_big_quiet_step ((first | (go_at_call 64; exact quietE (HC1.out _)) | (go_at_call 64; exact quietE (HC2.out _)))))); refine wpQuiet_nil ?_)
        intro w5 hb5
        have e5 := e3.trans hb5
        clear c0 c1 HC1 HC2
        go_wp2_with fail
        go_roundw
        case rel => exact ⟨i + 1, S ++ (K ++ V), rfl, by go_num, by omega, e5, HST⟩
        case measure => simp [intOf]; omega
    · obtain rfl : i = n := by omega
      have hS2 := hS.out
      rw [List.take_of_length_le (by rw [HBL.out]; exact Nat.le_refl _)] at hS2
      have HFE : Hid ((pieB S).data.toList = recL b) := Lib.hid (by rw [pieB_list, hS2]; rfl)
      have HC := Lib.hid (WPiece_any S wr (by omega) (HP.out.ext hbw))
      clear hS hS2
      go_wp2_with fail
      refine HC.out.mono ?_
      rintro _ w2 ⟨rfl, hb2⟩
      have e2 := hbw.trans hb2
      go_wp2_with fail
      go_ret
      exact ⟨⟨_, rfl, HFE.out⟩, e2⟩
end Go.Proofs.YtcgfdhgceokcnaaGreatDoor

/- wal: Put. -/
namespace Go.Proofs.YtcgfdhgceokcnaaGreatDoor
open Go.RowKit Go.WideShapes
set_option linter.unusedVariables false
attribute [local go_sem ↓] Go.wp_at_zero Go.wp_at_succ

/-! ### plain -/
section
variable {lim : Nat} {z : WS} {b : List Pr}
theorem WS.put_stop (h : z.stop = true) : z.put lim b = (6, z) := if_pos h
theorem WS.put_bad (h : z.stop = false) {k : Int} (hk : doK lim (stZ lim z.bs).1 (stZ lim z.bs).2 b = k) (h0 : k ≠ 0) : z.put lim b = (k, z) := by
  unfold WS.put
  rw [if_neg (by rw [h]; decide), if_neg (by rw [hk]; exact h0), hk]
theorem WS.put_half (h : z.stop = false) (hk : doK lim (stZ lim z.bs).1 (stZ lim z.bs).2 b = 0) (hl : z.left = 0) : z.put lim b = (6, ⟨z.bs, (recL b).take ((recL b).length / 2), z.safe, -1, true⟩) := by
  unfold WS.put
  rw [if_neg (by rw [h]; decide), if_pos hk, if_pos hl]
  unfold WS.step
  rw [hl]
  rfl
theorem WS.put_ok (h : z.stop = false) (hk : doK lim (stZ lim z.bs).1 (stZ lim z.bs).2 b = 0) (hl : z.left ≠ 0) : z.put lim b = (0, ⟨z.bs ++ [b], z.t, z.safe, max (-1) (z.left - 1), false⟩) := by
  unfold WS.put
  rw [if_neg (by rw [h]; decide), if_pos hk, if_neg hl]
  unfold WS.step
  rw [beq_eq_false_iff_ne.2 hl]
theorem keyK_small (x : ByteArray) (hx : keyK x = 0) : x.size ≤ 1000 := by
  unfold keyK at hx
  split at hx
  · cases hx
  · split at hx
    · cases hx
    · omega
theorem doK_small {Y : List Pr} {T : List (List Pr)} (h : doK lim Y T b = 0) : (∀ p ∈ b, smallP p) ∧ b.length ≤ 20 := by
  obtain ⟨h1, h2, h3⟩ := doK_len h
  exact ⟨fun p hp => by
    obtain ⟨k1, k2⟩ := run_small h3 p hp
    exact ⟨keyK_small _ k1, by omega⟩, h1⟩
theorem WS.Ok.half (h : WS.Ok lim z) (hst : z.stop = false) (hk : doK lim (stZ lim z.bs).1 (stZ lim z.bs).2 b = 0) : WS.Ok lim ⟨z.bs, (recL b).take ((recL b).length / 2), z.safe, -1, true⟩ := by
  obtain ⟨h1, h2⟩ := doK_small hk
  have h3 := h.safe
  have h4 := h.go hst
  refine ⟨h.run, TailOk.half h1 h2, (fun e => by cases e), ?_, by show (-1 : Int) ≤ -1; omega, by show (-1 : Int) ≤ 9223372036854775807; omega⟩
  unfold WS.bytes at h3 ⊢
  rw [h4, List.append_nil] at h3
  rw [List.length_append]
  exact Nat.le_trans h3 (Nat.le_add_right _ _)
theorem WS.Ok.put (h : WS.Ok lim z) (hst : z.stop = false) (hk : doK lim (stZ lim z.bs).1 (stZ lim z.bs).2 b = 0) : WS.Ok lim ⟨z.bs ++ [b], z.t, z.safe, max (-1) (z.left - 1), false⟩ := by
  have h3 := h.safe
  have h4 := h.go hst
  have h5 := h.left
  refine ⟨h.run.snoc hk, h.tail, fun _ => h4, ?_, by show -1 ≤ max (-1) (z.left - 1); omega, by show max (-1) (z.left - 1) ≤ _; omega⟩
  unfold WS.bytes at h3 ⊢
  rw [h4, List.append_nil] at h3 ⊢
  show z.safe ≤ _
  rw [recs_snoc, List.length_append]
  omega
theorem stZ_put (hk : doK lim (stZ lim z.bs).1 (stZ lim z.bs).2 b = 0) : stZ lim (z.bs ++ [b]) = runB lim b (stZ lim z.bs).1 (stZ lim z.bs).2 := by
  rw [stZ_snoc]
  exact if_pos hk
end

set_option maxRecDepth 100000 in
set_option maxHeartbeats 4000000 in
theorem WPutF_any (b lim : Nat) (z : WS) (A : Option Addr) (n c : Nat) (p : List Pr) (w : World) (h : WG w b lim z) (hr : Rd w 3 A n c (p.flatMap Pr.cells)) (hpl : p.length = n) (hc : c ≤ maxLen) (hmany : z.few) (hP : PowG w) :
    Calls Tryz.prog 7 #[.pointer (some ⟨b, 0, none⟩), .slice A n c] w fun e w' => e = .returned (errR (z.put lim p).1) ∧ WG w' b lim (z.put lim p).2 ∧ Chg w w' (fun g => g = b) := by
  obtain ⟨hE, hN, hG⟩ := errR_rules
  have HWG := Lib.hid h
  have HLEN := Lib.hid h.ok.len
  obtain ⟨hok, hlim, x, s, hb, hs, hl⟩ := h
  have HR := Lib.hid hr
  have HPL := Lib.hid hpl
  have HB := Lib.hid hb
  have HS := Lib.hid hs
  have HL := Lib.hid hl
  have HCm := Lib.hid hc
  have HPW := Lib.hid hP
  have c5 : w.cell? ⟨b, 5, none⟩ = some (.bool z.stop) := hb.cell 5
  cases hst : z.stop with
  | true =>
    rw [WS.put_stop hst]
    rw [hst] at c5
    have HEND : Hid (WG w b lim z) := HWG
    clear hr hpl hb hs hl hc hP hok
    go_enter Tryz.func7, Tryz.ntmps7
    go_wp2_with fail
    go_ret
    exact ⟨rfl, HEND.out, (Ext.refl _).chg _⟩
  | false =>
    rw [hst] at c5
    have HST := Lib.hid hst
    have HDO := Lib.hid (WDo_any x lim (stZ lim z.bs).1 (stZ lim z.bs).2 A n c p w hl hr hpl hc (by have := stZ_flat lim z.bs; have := hmany.2; omega) hlim.1)
    have c1 : w.cell? ⟨b, 1, none⟩ = some (.pointer (some ⟨x, 0, none⟩)) := hb.cell 1
    have hsz : s.size ≤ 4200000 := by
      have h1 := HLEN.out
      have h2 : s.data.toList.length = s.size := rfl
      rw [hs] at h2
      have h3 : (z.bs.length + 1) * 40700 ≤ 101 * 40700 := Nat.mul_le_mul_right _ (by have := hmany.1; omega)
      omega
    have HBY : Hid (z.bytes = recsL z.bs) := Lib.hid (by unfold WS.bytes; rw [hok.go hst, List.append_nil])
    by_cases hk0 : doK lim (stZ lim z.bs).1 (stZ lim z.bs).2 p = 0
    case neg =>
      obtain ⟨k, hk⟩ : ∃ k, doK lim (stZ lim z.bs).1 (stZ lim z.bs).2 p = k := ⟨_, rfl⟩
      rw [hk] at hk0
      rw [WS.put_bad hst hk hk0]
      have hik := isOk_no hk0
      have HK := Lib.hid hk
      have HK0 := Lib.hid hk0
      clear hr hpl hb hs hl hc hP hok hst hk hk0
      go_enter Tryz.func7, Tryz.ntmps7
      go_wp2_with fail
      refine HDO.out.mono ?_
      rintro _ w1 ⟨k', hk', hb1, (⟨-, rfl⟩ | ⟨h0, -⟩)⟩
      · obtain rfl : k = k' := HK.out.symm.trans hk'
        have HB1 := Lib.hid hb1
        clear hk'
        go_wp2_with fail
        go_ret
        exact ⟨rfl, HWG.out.ext HB1.out, HB1.out.chg _⟩
      · exact absurd (HK.out.symm.trans (hk'.trans h0)) HK0.out
    case pos =>
      obtain ⟨hsm, h20⟩ := doK_small hk0
      have HSM := Lib.hid hsm
      have HRE := Lib.hid fun W (e : Ext w W) => WRecord_any A n c p W (hr.ext e) hpl hc (by omega) hsm (hP.ext e)
      have HK := Lib.hid hk0
      have hrl := rec_le hsm h20
      have HRL := Lib.hid hrl
      have hle := hok.left
      have HOK := Lib.hid hok
      obtain ⟨l, hl0⟩ : ∃ l, z.left = l := ⟨_, rfl⟩
      have hb' := hb
      rw [hl0, hst] at hb'
      rw [hl0] at hle
      have HB' := Lib.hid hb'
      have HSTEP := Lib.hid fun W (e : Ext w W) => WStep_any b lim (.pointer (some ⟨x, 0, none⟩)) s z.safe l false W (hb'.ext e) hle.1 hle.2
      by_cases hlz : l = 0
      · subst hlz
        rw [WS.put_half hst hk0 hl0]
        have HKEEP : Hid (∀ (w2 w' : World) (s' : ByteArray), Ext w w2 → Chg w2 w' (fun g => g = b) → Bk w' b 72 #[.int .i64 lim, .pointer (some ⟨x, 0, none⟩), .string s', .int .i64 (z.safe : Int), .int .i64 (-1), .bool true] → s'.data.toList = s.data.toList ++ (recL p).take ((recL p).length / 2) → WG w' b lim ⟨z.bs, (recL p).take ((recL p).length / 2), z.safe, -1, true⟩ ∧ Chg w w' (fun g => g = b)) := Lib.hid fun w2 w' s' e k hbk hss => ⟨⟨hok.half hst hk0, hlim, x, s', hbk, by rw [hss, hs, HBY.out]; rfl, LM.wal (hl.ext e) (hb.ext e) k⟩, (e.chg _).trans k fun g _ hg => hg⟩
        clear hr hpl hb hs hl hc hP hok hst hk0 hsm hb' hrl hl0
        go_enter Tryz.func7, Tryz.ntmps7
        go_wp2_with fail
        refine HDO.out.mono ?_
        rintro _ w1 ⟨k', hk', hb1, (⟨h0, -⟩ | ⟨-, x', rfl, hx'⟩)⟩
        · exact absurd (hk'.symm.trans HK.out) h0
        · clear hk' hx'
          go_wp2_with fail
          refine (HRE.out _ hb1).mono ?_
          rintro _ w2 ⟨⟨S, rfl, hS⟩, hb2⟩
          have e2 := hb1.trans hb2
          have HS2 := Lib.hid hS
          have hSz : S.size ≤ 40700 := by
            have h2 : S.data.toList.length = S.size := rfl
            rw [hS] at h2
            have := HRL.out
            omega
          clear hS
          go_wp2_with fail
          refine (HSTEP.out _ e2).mono ?_
          rintro _ w3 ⟨rfl, hb3, k3⟩
          have hb0 : ((0 : Int) == 0) = true := rfl
          rw [hb0] at hb3
          obtain ⟨hf, hhf⟩ : ∃ hf : Nat, S.size / 2 = hf := ⟨_, rfl⟩
          have hq1 : (S.size : Int).tdiv 2 = (hf : Int) := by rw [← hhf]; exact (Int.ofNat_tdiv S.size 2).symm
          have hq2 : (S.size : Int) / 2 = (hf : Int) := by rw [← hhf]; omega
          have hq3 : (hf : Int) ≤ (S.size : Int) := by omega
          have hq4 : hf ≤ S.size := by omega
          have d2 : w3.cell? ⟨b, 2, none⟩ = some (.string s) := hb3.cell 2
          have f2 : w3.frozen? ⟨b, 2, none⟩ = false := hb3.frozen 2
          have hsx : (S.extract 0 hf).size = hf := by rw [ByteArray.size_extract]; omega
          obtain ⟨X, hX⟩ : ∃ X, S.extract 0 hf = X := ⟨_, rfl⟩
          rw [hX] at hsx
          have HXX := Lib.hid hX
          have HB3 := Lib.hid hb3
          have HK3 := Lib.hid k3
          have HHF := Lib.hid hhf
          clear hb3 k3 hhf
          go_upto_region 8 with (fail)
          have HXL : Hid ((s ++ X).data.toList = s.data.toList ++ (recL p).take ((recL p).length / 2)) := Lib.hid (by
            have h1 : (s ++ X).data.toList = s.data.toList ++ X.data.toList := by simp
            have h2 : S.data.toList.length = S.size := rfl
            rw [h1, ← HXX.out, Lib.extract_data, List.drop_zero, HS2.out, ← HHF.out, ← h2, HS2.out]
            rfl)
          go_region
          all_goals
            go_wp2_with fail
            go_ret
            refine ⟨rfl, HKEEP.out w2 _ (s ++ X) e2 (HK3.out.trans ((set_chg1 w3 b 2 (.string (s ++ X))).trans ((Ext.refl _).drew.chg _) fun g _ hg => hg) fun g _ hg => hg) ((HB3.out.set_ 2 (.string (s ++ X))).ext (Ext.refl _).drew) HXL.out⟩
      · rw [WS.put_ok hst hk0 (by rw [hl0]; exact hlz), hl0]
        have hbe : (l == 0) = false := beq_eq_false_iff_ne.2 hlz
        have HKEEP : Hid (∀ (w1 w2 w' : World) (x' : Nat) (s' : ByteArray), Ext w w1 → Ext w1 w2 → Chg w2 w' (fun g => g = b) → Bk w' b 72 #[.int .i64 lim, .pointer (some ⟨x', 0, none⟩), .string s', .int .i64 (z.safe : Int), .int .i64 (max (-1) (l - 1)), .bool false] → s'.data.toList = s.data.toList ++ recL p → LM w1 aF x' lim (runB lim p (stZ lim z.bs).1 (stZ lim z.bs).2).1 (runB lim p (stZ lim z.bs).1 (stZ lim z.bs).2).2 → WG w' b lim ⟨z.bs ++ [p], z.t, z.safe, max (-1) (l - 1), false⟩ ∧ Chg w w' (fun g => g = b)) := Lib.hid fun w1 w2 w' x' s' e1 e2 k hbk hss hlm => by
          have hokp := hok.put hst hk0
          rw [hl0] at hokp
          refine ⟨⟨hokp, hlim, x', s', hbk, ?_, ?_⟩, ((e1.trans e2).chg _).trans k fun g _ hg => hg⟩
          · rw [hss, hs, HBY.out]
            unfold WS.bytes
            rw [recs_snoc, hok.go hst, List.append_nil]
          · show LM w' aF x' lim (stZ lim (z.bs ++ [p])).1 (stZ lim (z.bs ++ [p])).2
            rw [stZ_put hk0]
            exact LM.wal (hlm.ext e2) (hb.ext (e1.trans e2)) k
        rw [hbe] at HSTEP
        clear hr hpl hb hs hl hc hP hok hst hk0 hsm hb' hrl hl0 hlz hbe
        go_enter Tryz.func7, Tryz.ntmps7
        go_wp2_with fail
        refine HDO.out.mono ?_
        rintro _ w1 ⟨k', hk', hb1, (⟨h0, -⟩ | ⟨-, x', rfl, hx'⟩)⟩
        · exact absurd (hk'.symm.trans HK.out) h0
        · have HX' := Lib.hid hx'
          clear hk' hx'
          go_wp2_with fail
          refine (HRE.out _ hb1).mono ?_
          rintro _ w2 ⟨⟨S, rfl, hS⟩, hb2⟩
          have e2 := hb1.trans hb2
          have HXL : Hid ((s ++ S).data.toList = s.data.toList ++ recL p) := Lib.hid (by
            have h1 : (s ++ S).data.toList = s.data.toList ++ S.data.toList := by simp
            rw [h1, hS])
          have hSz : S.size ≤ 40700 := by
            have h2 : S.data.toList.length = S.size := rfl
            rw [hS] at h2
            have := HRL.out
            omega
          clear hS
          go_wp2_with fail
          refine (HSTEP.out _ e2).mono ?_
          rintro _ w3 ⟨rfl, hb3, k3⟩
          have d2 : w3.cell? ⟨b, 2, none⟩ = some (.string s) := hb3.cell 2
          have f2 : w3.frozen? ⟨b, 2, none⟩ = false := hb3.frozen 2
          have B4 := hb3.set_ 2 (.string (s ++ S))
          have k4 := k3.trans (set_chg1 w3 b 2 (.string (s ++ S))) fun g _ hg => hg
          clear hb3 k3
          go_upto_region 11 with (fail)
          generalize w3.setCell ⟨b, 2, none⟩ (.string (s ++ S)) = W4 at *
          have f1 : W4.frozen? ⟨b, 1, none⟩ = false := B4.frozen 1
          have d1 : W4.cell? ⟨b, 1, none⟩ = some (.pointer (some ⟨x, 0, none⟩)) := B4.cell 1
          have B5 := Lib.hid (B4.set_ 1 (.pointer (some ⟨x', 0, none⟩)))
          have k5 := Lib.hid (k4.trans (set_chg1 W4 b 1 (.pointer (some ⟨x', 0, none⟩))) fun g _ hg => hg)
          clear B4 k4
          go_wp2_with fail
          go_ret
          exact ⟨rfl, HKEEP.out w1 w2 _ x' (s ++ S) hb1 hb2 k5.out B5.out HXL.out HX'.out⟩
theorem WS.Ok.few40 {lim : Nat} {z : WS} (h : WS.Ok lim z) (hm : z.bs.length ≤ 40) : z.few := by
  have h1 := flat_le (k := 20) (bs := z.bs) fun b hb => (h.small b hb).2
  exact ⟨by omega, by omega⟩
theorem WPut_any (b lim : Nat) (z : WS) (A : Option Addr) (n c : Nat) (p : List Pr) (w : World) (h : WG w b lim z) (hr : Rd w 3 A n c (p.flatMap Pr.cells)) (hpl : p.length = n) (hc : c ≤ maxLen) (hmany : z.bs.length ≤ 40) (hP : PowG w) :
    Calls Tryz.prog 7 #[.pointer (some ⟨b, 0, none⟩), .slice A n c] w fun e w' => e = .returned (errR (z.put lim p).1) ∧ WG w' b lim (z.put lim p).2 ∧ Chg w w' (fun g => g = b) :=
  WPutF_any b lim z A n c p w h hr hpl hc (h.ok.few40 hmany) hP
end Go.Proofs.YtcgfdhgceokcnaaGreatDoor

/- wal: Crash. -/
namespace Go.Proofs.YtcgfdhgceokcnaaGreatDoor
open Go.RowKit Go.WideShapes
set_option linter.unusedVariables false
attribute [local go_sem ↓] Go.wp_at_zero Go.wp_at_succ

section
variable {lim : Nat} {z : WS}
theorem WS.high_le (h : WS.Ok lim z) (keep : Int) : z.safe ≤ z.high keep ∧ z.high keep ≤ z.bytes.length := by
  have h1 := h.safe
  unfold WS.high
  omega
theorem bytes_mark (z : WS) {i : Nat} (h : i ≤ z.bs.length) : z.bytes.take (markN z.bs i) = recsL (z.bs.take i) := by
  unfold WS.bytes markN
  conv => lhs; rw [recs_cut z.bs i]
  rw [List.append_assoc, List.take_left]
theorem crash_ok (h : WS.Ok lim z) (keep : Int) : WS.Ok lim (z.crash keep) := by
  refine ⟨h.run.take _, .inl rfl, fun _ => rfl, ?_, by show (-1 : Int) ≤ -1; omega, by show (-1 : Int) ≤ _; omega⟩
  show markN z.bs (z.many keep) ≤ (recsL (z.bs.take (z.many keep)) ++ []).length
  rw [List.append_nil]
  exact Nat.le_refl _
end

theorem igood_bd {z : Int} (h : igood z) : -9223372036854775808 ≤ z ∧ z ≤ 9223372036854775807 := by
  unfold igood Lit.wf at h
  rw [Bool.and_eq_true, decide_eq_true_eq, decide_eq_true_eq] at h
  exact h
/-- what the loop knows: i batches are done, the rest is to be read -/
structure CrI (w0 w : World) (lim : Nat) (z : WS) (n i x : Nat) (R : ByteArray) : Prop where
  ext : Ext w0 w
  le : i ≤ z.bs.length
  mark : markN z.bs i ≤ n
  rest : R.data.toList = (z.bytes.take n).drop (markN z.bs i)
  lm : LM w aF x lim (stZ lim (z.bs.take i)).1 (stZ lim (z.bs.take i)).2
theorem stZ_next {lim : Nat} {z : WS} (h : WS.Ok lim z) {i : Nat} {b : List Pr} (hb : z.bs[i]? = some b) :
    doK lim (stZ lim (z.bs.take i)).1 (stZ lim (z.bs.take i)).2 b = 0 ∧ stZ lim (z.bs.take (i + 1)) = runB lim b (stZ lim (z.bs.take i)).1 (stZ lim (z.bs.take i)).2 := by
  have hk := h.run i b hb
  refine ⟨hk, ?_⟩
  obtain ⟨h1, h2⟩ := List.getElem?_eq_some_iff.1 hb
  rw [List.take_succ_eq_append_getElem h1, h2, stZ_snoc]
  exact if_pos hk

set_option maxRecDepth 100000 in
set_option maxHeartbeats 4000000 in
theorem WCrashF_any (w0 : World) (b lim : Nat) (z : WS) (keep : Int) (w : World) (h : WG w b lim z) (e0 : Ext w0 w) (hb0 : w0.heap.size ≤ b) (hmany : z.few) (hk1 : -9223372036854775808 ≤ keep) (hk2 : keep ≤ 9223372036854775807) (hG : StrG w0) (hM : MaxG w0) :
    Calls Tryz.prog 9 #[.pointer (some ⟨b, 0, none⟩), .int .i64 keep] w fun e w' => (∃ v, e = .returned v) ∧ WG w' b lim (z.crash keep) ∧ Chg w w' (fun g => g = b) := by
  obtain ⟨hE, hN, hG0⟩ := errR_rules
  have hlen := h.ok.len
  obtain ⟨hok, hlim, x, s, hb, hs, hl⟩ := h
  obtain ⟨n, hn⟩ : ∃ n, z.high keep = n := ⟨_, rfl⟩
  obtain ⟨hn1, hn2⟩ := WS.high_le hok keep
  rw [hn] at hn1 hn2
  have hsl : z.bytes.length = s.size := by rw [← hs]; rfl
  have hsz : s.size ≤ 4200000 := by
    have h3 : (z.bs.length + 1) * 40700 ≤ 101 * 40700 := Nat.mul_le_mul_right _ (by have := hmany.1; omega)
    omega
  have hns : n ≤ s.size := by omega
  have hsafe := hok.safe
  rw [hsl] at hsafe hn2
  obtain ⟨d, hd⟩ : ∃ d : Int, (s.size : Int) - (z.safe : Int) = d := ⟨_, rfl⟩
  have hd0 : 0 ≤ d := by omega
  have hd1 : d ≤ 4200000 := by omega
  have hhigh : (z.safe : Int) + max 0 (min keep d) = (n : Int) := by
    rw [← hn]
    unfold WS.high
    rw [hsl, hd]
    omega
  have hw1 : IntKind.i64.wrap ((s.size : Int) - (z.safe : Int)) = d := by rw [hd]; exact IntWalk.i64_in _ (by omega)
  have hw2 : IntKind.i64.wrap ((z.safe : Int) + max 0 (min keep d)) = (n : Int) := by rw [hhigh]; exact IntWalk.i64_in _ (by omega)
  have hni : (n : Int) ≤ (s.size : Int) := by omega
  have hn0 : (0 : Int) ≤ (n : Int) := by omega
  have HEX : Hid ((s.extract 0 n).data.toList = z.bytes.take n) := Lib.hid (by rw [Lib.extract_data, List.drop_zero, Nat.sub_zero, hs])
  have hxs : (s.extract 0 n).size = n := by rw [ByteArray.size_extract]; omega
  obtain ⟨X, hX⟩ : ∃ X, s.extract 0 n = X := ⟨_, rfl⟩
  rw [hX] at HEX hxs
  have c2 : w.cell? ⟨b, 2, none⟩ = some (.string s) := hb.cell 2
  have c3 : w.cell? ⟨b, 3, none⟩ = some (.int .i64 (z.safe : Int)) := hb.cell 3
  have f2 : w.frozen? ⟨b, 2, none⟩ = false := hb.frozen 2
  have B1 := hb.set_ 2 (.string X)
  have k1 := set_chg1 w b 2 (.string X)
  have e01 : Ext w0 (w.setCell ⟨b, 2, none⟩ (.string X)) := ((e0.chg _).trans k1 fun g _ hg => hg).ext fun g hg hS => by
    have h1 : g = b := hS
    omega
  have HOK := Lib.hid hok
  have HB := Lib.hid hb
  have HL := Lib.hid hl
  have HSG := Lib.hid fun W (e : Ext w0 W) => hG.ext e
  have HMG := Lib.hid fun W (e : Ext w0 W) => hM.ext e
  have HSL := Lib.hid hsl
  have HN := Lib.hid hn
  have HSM := Lib.hid hok.small
  have HTL := Lib.hid hok.tail
  clear hok hb hs hl hG hM hsl hn hhigh hlen hn1 hn2 hd
  go_enter Tryz.func9, Tryz.ntmps9
  go_upto_region 0 with (fail)
  go_region
  all_goals
    have B1d := Lib.hid (B1.ext (Ext.refl _).drew)
    have K1d : Hid (Chg w (w.setCell ⟨b, 2, none⟩ (.string X)).drew (fun g => g = b)) := Lib.hid (k1.trans ((Ext.refl _).drew.chg _) fun g _ hg => hg)
    have E1d : Ext w0 (w.setCell ⟨b, 2, none⟩ (.string X)).drew := e01.drew
    clear B1 k1 e01 c2 c3 f2 hw1 hw2
    generalize (w.setCell ⟨b, 2, none⟩ (.string X)).drew = W1 at *
    have c0 : W1.cell? ⟨b, 0, none⟩ = some (.int .i64 lim) := B1d.out.cell 0
    go_wp2_with fail
    refine (LNew_any (lim : Int) W1).mono ?_
    rintro _ w2 (⟨h1, -⟩ | ⟨-, x1, F, rfl, hl2, hF2, hb2⟩)
    · exact absurd h1 (by omega)
    have c2 : w2.cell? ⟨b, 2, none⟩ = some (.string X) := (B1d.out.ext hb2).cell 2
    have HI0 : Hid (CrI W1 w2 lim z n 0 x1 X) := Lib.hid ⟨hb2, Nat.zero_le _, by rw [mark_zero]; exact Nat.zero_le _, by rw [mark_zero, HEX.out, List.drop_zero], hl2.any⟩
    have hXn : X.size ≤ n := by omega
    clear hl2 hF2
    go_wp2_with fail
    go_loopw [4, 6, 7, 8, 9, 10, 11] (fun lv rv _ _ _ _ _ wr => ∃ (i x2 : Nat) (R : ByteArray), lv = .pointer (some ⟨x2, 0, none⟩) ∧ rv = .string R ∧ R.size ≤ n ∧ Hid (CrI W1 wr lim z n i x2 R)) (fun _ rv _ _ _ _ _ _ => strSz rv)
    case atStart => exact ⟨0, x1, X, rfl, rfl, hXn, HI0⟩
    case round =>
      obtain ⟨i, x2, R, rfl, rfl, hRs, hinv⟩ := hrel
      have hI := hinv.out
      have HNX := Lib.hid (WNext_any R wr (by omega) (HSG.out wr (E1d.trans hI.ext)) (HMG.out wr (E1d.trans hI.ext)))
      have hby : z.bytes = recsL z.bs ++ z.t := rfl
      have hnb : n ≤ (recsL z.bs ++ z.t).length := by rw [← hby, HSL.out]; exact hns
      rcases crash_next HSM.out HTL.out hI.le hI.mark hnb with ⟨bt, hbt, hm2, hnx⟩ | ⟨hend, hnx⟩
      · rw [← hby, ← hI.rest] at hnx
        obtain ⟨hdk, hst⟩ := stZ_next HOK.out hbt
        have hmk := mark_lt (bs := z.bs) (i := i) (j := i + 1) (Nat.lt_succ_self _) (List.getElem?_eq_some_iff.1 hbt).1
        have hRl : R.data.toList.length = R.size := rfl
        rw [hI.rest, List.length_drop, List.length_take, HSL.out, Nat.min_eq_left hns] at hRl
        have HDO : Hid (∀ W (e : Ext wr W) A m c, bt.length = m → Rd W 3 A m c (bt.flatMap Pr.cells) → c ≤ maxLen → Calls Tryz.prog 31 #[.pointer (some ⟨x2, 0, none⟩), .slice A m c] W fun e w' => DoR x2 lim (stZ lim (z.bs.take i)).1 (stZ lim (z.bs.take i)).2 bt W e w') := Lib.hid fun W e A m c hm hr hc => WDo_any x2 lim _ _ A m c bt W (hI.lm.ext e) hr hm hc (by
          have h1 := stZ_flat lim (z.bs.take i)
          have h2 := flat_pre z.bs i
          have h3 := hmany.2
          omega) hlim.1
        have HNEXT : Hid (∀ W x3 (r4 : ByteArray), Ext wr W → LM W aF x3 lim (runB lim bt (stZ lim (z.bs.take i)).1 (stZ lim (z.bs.take i)).2).1 (runB lim bt (stZ lim (z.bs.take i)).1 (stZ lim (z.bs.take i)).2).2 → r4.data.toList = (z.bytes.take n).drop (markN z.bs (i + 1)) → (r4.size ≤ n ∧ r4.size < R.size) ∧ CrI W1 W lim z n (i + 1) x3 r4) := Lib.hid fun W x3 r4 e hlm hr4 => by
          have hl4 : r4.data.toList.length = r4.size := rfl
          rw [hr4, List.length_drop, List.length_take, HSL.out, Nat.min_eq_left hns] at hl4
          exact ⟨⟨by omega, by omega⟩, hI.ext.trans e, (List.getElem?_eq_some_iff.1 hbt).1, hm2, hr4, by rw [hst]; exact hlm⟩
        have HNX2 := Lib.hid hnx
        have HDK := Lib.hid hdk
        clear hnx hdk hst hmk hRl hbt hm2 hinv hI hnb hby
        go_wp2_with fail
        refine HNX.out.mono ?_
        rintro _ w4 ⟨(⟨b4, r4, A4, c4, hn4, rfl, hc4, hrd4⟩ | ⟨hn4, -⟩), hb4⟩
        · have hn5 := HNX2.out.symm.trans hn4
          injection hn5 with hn5
          injection hn5 with hn5 hn6
          subst hn5
          obtain ⟨m4, hm4⟩ : ∃ m, bt.length = m := ⟨_, rfl⟩
          rw [hm4] at hrd4
          have HDW := Lib.hid (HDO.out w4 hb4 A4 m4 c4 hm4 hrd4 hc4)
          have HN6 := Lib.hid hn6
          rw [hm4]
          clear hn4 hn6 hrd4 hc4 hm4 HDO HNX
          go_wp2_with fail
          refine HDW.out.mono ?_
          rintro _ w5 ⟨k', hk', hb5, (⟨h0, -⟩ | ⟨-, x3, rfl, hx3⟩)⟩
          · exact absurd (hk'.symm.trans HDK.out) h0
          · obtain ⟨⟨hz1, hz2⟩, hci⟩ := HNEXT.out w5 x3 r4 (hb4.trans hb5) hx3 HN6.out.symm
            have HCI := Lib.hid hci
            clear hk' hx3 hci
            go_wp2_with fail
            go_roundw
            case rel => exact ⟨i + 1, x3, r4, rfl, rfl, hz1, HCI⟩
            case measure => exact hz2
        · rw [HNX2.out] at hn4; cases hn4
      · rw [← hby, ← hI.rest] at hnx
        have hwh := wholeN_uniq hI.le hI.mark hend
        have him : z.many keep = i := by unfold WS.many; rw [HN.out]; exact hwh
        have hRl : R.data.toList.length = R.size := rfl
        rw [hI.rest, List.length_drop, List.length_take, HSL.out, Nat.min_eq_left hns] at hRl
        obtain ⟨mk, hmk⟩ : ∃ m, markN z.bs i = m := ⟨_, rfl⟩
        have hmn := hI.mark
        rw [hmk] at hRl hmn
        obtain ⟨r, hr⟩ : ∃ r, R.size = r := ⟨_, rfl⟩
        rw [hr] at hRl
        have hw3 : IntKind.i64.wrap ((n : Int) - (r : Int)) = (mk : Int) := by rw [show (n : Int) - (r : Int) = (mk : Int) by omega]; exact IntWalk.i64_in _ (by omega)
        have hmki : (mk : Int) ≤ (n : Int) := by omega
        have hmk0 : (0 : Int) ≤ (mk : Int) := by omega
        have hcz : z.crash keep = ⟨z.bs.take i, [], mk, -1, false⟩ := by unfold WS.crash; rw [him, hmk]
        have hcok := crash_ok HOK.out keep
        rw [hcz] at hcok
        have hZl : (X.extract 0 mk).data.toList = recsL (z.bs.take i) := by
          rw [Lib.extract_data, List.drop_zero, Nat.sub_zero, HEX.out, List.take_take, Nat.min_eq_left hmn, ← hmk, bytes_mark z hI.le]
        have hZs : (X.extract 0 mk).size = mk := by rw [ByteArray.size_extract]; omega
        obtain ⟨Z, hZ⟩ : ∃ Z, X.extract 0 mk = Z := ⟨_, rfl⟩
        rw [hZ] at hZl hZs
        have HFIN : Hid (∀ W w', Ext wr W → Chg W w' (fun g => g = b) → Bk w' b 72 #[.int .i64 lim, .pointer (some ⟨x2, 0, none⟩), .string Z, .int .i64 (mk : Int), .int .i64 (-1), .bool false] → WG w' b lim (z.crash keep) ∧ Chg w w' (fun g => g = b)) := Lib.hid fun W w' e k hbk =>
          ⟨by rw [hcz]; exact ⟨hcok, hlim, x2, Z, hbk, by rw [hZl]; unfold WS.bytes; rw [List.append_nil], LM.wal (hI.lm.ext e) (B1d.out.ext (hI.ext.trans e)) k⟩, (K1d.out.trans ((hI.ext.trans e).chg _) fun g _ hg => hg).trans k fun g _ hg => hg⟩
        have HNX2 := Lib.hid hnx
        have HB2 := Lib.hid fun W (e : Ext wr W) => B1d.out.ext (hI.ext.trans e)
        clear hnx hwh him hRl hcz hcok hZl hinv hI hnb hby hend hmk
        go_wp2_with fail
        refine HNX.out.mono ?_
        rintro _ w4 ⟨(⟨b4, r4, A4, c4, hn4, -⟩ | ⟨-, rfl⟩), hb4⟩
        · rw [HNX2.out] at hn4; cases hn4
        · have B4 := HB2.out w4 hb4
          have d2 : w4.cell? ⟨b, 2, none⟩ = some (.string X) := B4.cell 2
          have g2 : w4.frozen? ⟨b, 2, none⟩ = false := B4.frozen 2
          have B5 := B4.set_ 2 (.string Z)
          have k5 := set_chg1 w4 b 2 (.string Z)
          clear HB2 HNX B4
          go_upto_region 9 with (fail)
          go_region
          all_goals
            have B6 : Bk (w4.setCell ⟨b, 2, none⟩ (.string Z)).drew b 72 #[.int .i64 lim, .pointer (some ⟨x, 0, none⟩), .string Z, .int .i64 (z.safe : Int), .int .i64 z.left, .bool z.stop] := B5.ext (Ext.refl _).drew
            have k6 : Chg w4 (w4.setCell ⟨b, 2, none⟩ (.string Z)).drew (fun g => g = b) := k5.trans ((Ext.refl _).drew.chg _) fun g _ hg => hg
            clear B5 k5 d2 g2
            generalize (w4.setCell ⟨b, 2, none⟩ (.string Z)).drew = W6 at *
            have d2 : W6.cell? ⟨b, 2, none⟩ = some (.string Z) := B6.cell 2
            have d1 : W6.cell? ⟨b, 1, none⟩ = some (.pointer (some ⟨x, 0, none⟩)) := B6.cell 1
            have d3 : W6.cell? ⟨b, 3, none⟩ = some (.int .i64 (z.safe : Int)) := B6.cell 3
            have d4 : W6.cell? ⟨b, 4, none⟩ = some (.int .i64 z.left) := B6.cell 4
            have d5 : W6.cell? ⟨b, 5, none⟩ = some (.bool z.stop) := B6.cell 5
            have g1 : W6.frozen? ⟨b, 1, none⟩ = false := B6.frozen 1
            have g3 : W6.frozen? ⟨b, 3, none⟩ = false := B6.frozen 3
            have g4 : W6.frozen? ⟨b, 4, none⟩ = false := B6.frozen 4
            have g5 : W6.frozen? ⟨b, 5, none⟩ = false := B6.frozen 5
            have HB6 := Lib.hid B6
            clear B6
            go_wp2_with fail
            refine bodyPost_end (results_none rfl _ _ _) rfl ?_
            exact ⟨⟨_, rfl⟩, HFIN.out w4 _ hb4 (k6.trans ((((set_chg1 W6 b 1 (.pointer (some ⟨x2, 0, none⟩))).trans (set_chg1 _ b 3 (.int .i64 (mk : Int))) fun g _ hg => hg).trans (set_chg1 _ b 4 (.int .i64 (-1))) fun g _ hg => hg).trans (set_chg1 _ b 5 (.bool false)) fun g _ hg => hg) fun g _ hg => hg) ((((HB6.out.set_ 1 (.pointer (some ⟨x2, 0, none⟩))).set_ 3 (.int .i64 (mk : Int))).set_ 4 (.int .i64 (-1))).set_ 5 (.bool false))⟩
theorem WCrash_any (w0 : World) (b lim : Nat) (z : WS) (keep : Int) (w : World) (h : WG w b lim z) (e0 : Ext w0 w) (hb0 : w0.heap.size ≤ b) (hmany : z.bs.length ≤ 40) (hk1 : -9223372036854775808 ≤ keep) (hk2 : keep ≤ 9223372036854775807) (hG : StrG w0) (hM : MaxG w0) :
    Calls Tryz.prog 9 #[.pointer (some ⟨b, 0, none⟩), .int .i64 keep] w fun e w' => (∃ v, e = .returned v) ∧ WG w' b lim (z.crash keep) ∧ Chg w w' (fun g => g = b) :=
  WCrashF_any w0 b lim z keep w h e0 hb0 (h.ok.few40 hmany) hk1 hk2 hG hM
end Go.Proofs.YtcgfdhgceokcnaaGreatDoor
