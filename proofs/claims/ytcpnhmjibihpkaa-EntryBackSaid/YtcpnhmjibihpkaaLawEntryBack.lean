import Derived.Test.YtcpnhmjibihpkaaUnpack
import Derived.Deep.DeepCutAuto
namespace Go.Proofs.Ytcpnhmjibihpkaa.entryBack
open Go.RowKit
set_option linter.unusedVariables false
attribute [local go_sem ↓] Go.wp_at_zero Go.wp_at_succ

theorem hi : (⟨258, ⟨#[104, 105]⟩⟩ : Ent).ok := by decide
theorem hi_bytes : (⟨258, ⟨#[104, 105]⟩⟩ : Ent).bytes = ⟨#[0, 1, 2, 2, 104, 105]⟩ := by decide

set_option maxRecDepth 100000 in
set_option maxHeartbeats 4000000 in
theorem walk (x : Ent) (A : Option Addr) (n c : Nat) (es : List Ent) (t : ByteArray) (w : World) (g : x.good) (hl : es.length = n) (hm : c ≤ maxLen) (hr : Rd w 2 A n c (es.flatMap Ent.cells)) (hg : ∀ y ∈ es, y.good) (hs : t.size ≤ 140737488355328) :
    Calls Try.prog 7 #[.agg x.cells.toArray, .slice A n c, .string t] w fun e w' => e = .returned (.bool true) ∧ Ext w w' := by
  obtain ⟨xt, xd⟩ := x
  have HH : Hid ((⟨258, ⟨#[104, 105]⟩⟩ : Ent).bytes = ⟨#[0, 1, 2, 2, 104, 105]⟩) := hi_bytes
  obtain ⟨hE, hN, hG⟩ := errR_rules
  have HG := Lib.hid hg
  have HS := Lib.hid g
  clear hg g
  show Calls _ _ #[.agg #[.int .i64 xt, .string xd], .slice A n c, .string t] w _
  go_enter Try.func7, Try.ntmps7
  go_wp2_with fail
  refine (Encode_ok 258 ⟨#[104, 105]⟩ _ hi).mono ?_
  rintro e w1 ⟨rfl, hb1⟩
  rw [HH.out]
  have B1 : Bk w1 w.heap.size 33 #[.int .i64 xt, .string xd] := by (repeat (with_reducible first | assumption | (refine Bk.at_ _ _ _ _ ?_; simp; done) | refine Bk.drew ?_ | refine Bk.drewN ?_ _ | refine Bk.alloc ?_ _ | refine Bk.ext ?_ (by with_reducible assumption)))
  have q := B1.cell
  go_wp2_with fail
  refine (Encode_any xt xd _).mono ?_
  rintro e w2 ⟨rfl, hb2⟩
  have B2 := B1.ext hb2
  clear q
  have q := B2.cell
  have E2 : Ext w w2 := by (repeat (with_reducible first | exact Ext.refl _ | assumption | refine Ext.drew ?_ | refine Ext.drewN ?_ _ | refine Ext.alloc ?_ _ | refine Ext.trans ?_ (by with_reducible assumption)))
  go_upto_if 40 with (fail)
  go_cut [11, 12] (fun _ _ wc => Ext w2 wc)
  case first =>
    cases hk : isOk (encK ⟨xt, xd⟩) with
    | true =>
      have hx : (⟨xt, xd⟩ : Ent).ok := encK_zero.1 (isOk_true hk)
      have hb : encB ⟨xt, xd⟩ = (⟨xt, xd⟩ : Ent).bytes := if_pos hx
      have HT : Hid (takeE (encB ⟨xt, xd⟩) = some (⟨xt, xd⟩, ⟨#[]⟩)) := by show _ = _; rw [hb]; exact takeE_one _ hx
      have hz : (encB ⟨xt, xd⟩).size ≤ maxLen := by have := hx.2.2; rw [hb, Ent.bytes_size]; simp only [maxLen]; dsimp only at this ⊢; omega
      have HZ := Lib.hid hz
      clear hb hz
      go_wp2_with fail
      refine (Decode_ok _ _ _ HZ.out HT.out).mono ?_
      rintro e w3 ⟨rfl, hb3⟩
      have B3 := B2.ext hb3
      have hlt := B3.lt
      clear q
      have q := B3.cell
      go_wp2_with fail
      go_meet
      exact hb3.alloc _
    | false =>
      go_wp2_with fail
      go_meet
      exact Ext.refl _
  case rest =>
    have E3 : Ext w wc := E2.trans hcut
    clear hb1 hb2 B1 B2 q E2 hcut
    go_wp2_with fail
    refine (Pack_any A n c es _ (hr.ext E3) hm).mono ?_
    rintro e w4 ⟨rfl, hb4⟩
    have E4 : Ext w w4 := by (repeat (with_reducible first | exact Ext.refl _ | assumption | refine Ext.drew ?_ | refine Ext.drewN ?_ _ | refine Ext.alloc ?_ _ | refine Ext.trans ?_ (by with_reducible assumption)))
    clear hb4 E3
    go_upto_if 59 with (fail)
    go_cut [13, 14, 15, 16, 17, 18, 19, 20] (fun _ _ _ _ _ _ _ _ wc => Ext w4 wc)
    case first =>
      cases hk0 : isOk (entsErr es) with
      | true =>
        have hk : entsOk es := entsErr_zero.1 (isOk_true hk0)
        have HK := Lib.hid hk
        have hb : packR es = packB es es.length := if_pos (entsErr_ok hk)
        have HU : Hid (unpackE (packR es) = some es) := by show _ = _; rw [hb]; exact unpackE_pack hk.2 hk.1
        have hz : (packR es).size ≤ 140737488355328 := by have := packB_size hk.2 es.length hk.1; rw [hb]; omega
        have hn : n ≤ 200 := by have := hk.1; omega
        have HX := Lib.hid hl
        have hlc := hr.2.1
        clear hb hk hl
        go_wp2_with fail
        refine (Unpack_any _ _ hz).mono ?_
        rintro e w5 ⟨hp, hb5⟩
        unfold UnpPost at hp
        rw [HU.out] at hp
        obtain ⟨v5, rfl, own5⟩ := hp
        rw [HX.out] at own5
        obtain ⟨A5, c5, rfl, hc5, R5, _⟩ := own_rd own5
        have E5 : Ext w w5 := by (repeat (with_reducible first | exact Ext.refl _ | assumption | refine Ext.drew ?_ | refine Ext.drewN ?_ _ | refine Ext.alloc ?_ _ | refine Ext.trans ?_ (by with_reducible assumption)))
        clear own5
        go_wp2_with fail
        refine (Entries_same _ _ _ _ _ es _ R5 (hr.ext E5) hn).mono ?_
        rintro e w6 ⟨rfl, hb6⟩
        have E6 : Ext w w6 := by (repeat (with_reducible first | exact Ext.refl _ | assumption | refine Ext.drew ?_ | refine Ext.drewN ?_ _ | refine Ext.alloc ?_ _ | refine Ext.trans ?_ (by with_reducible assumption)))
        clear R5
        go_wp2_with fail
        refine (Leafs_ok A n c es _ (hr.ext E6) hm HK.out).mono ?_
        rintro _ w7 ⟨⟨v7, rfl, own7⟩, hb7⟩
        rw [HX.out] at own7
        obtain ⟨A7, c7, rfl, hc7, R7, _⟩ := own_rd own7
        have E7 : Ext w w7 := by (repeat (with_reducible first | exact Ext.refl _ | assumption | refine Ext.drew ?_ | refine Ext.drewN ?_ _ | refine Ext.alloc ?_ _ | refine Ext.trans ?_ (by with_reducible assumption)))
        have E47 : Ext w4 w7 := (hb5.trans hb6).trans hb7
        have hR7 := R7.2.1
        clear own7 hb5 hb6 hb7 E5 E6
        go_wp2_with fail
        go_loopw [18] (fun x wr => ∃ j : Nat, x = .int .i64 j ∧ j ≤ n ∧ Ext w7 wr) (fun x _ => n - (intOf x).toNat)
        case atStart => exact ⟨0, rfl, Nat.zero_le _, by (repeat (with_reducible first | exact Ext.refl _ | assumption | refine Ext.drew ?_ | refine Ext.drewN ?_ _ | refine Ext.alloc ?_ _ | refine Ext.trans ?_ (by with_reducible assumption)))⟩
        case round =>
          obtain ⟨j, rfl, hj, hbw⟩ := hrel
          by_cases hc : j < n
          · have hgj := List.getElem?_eq_getElem (l := es) (i := j) (by rw [HX.out]; exact hc)
            have hok := HK.out.2 _ (List.mem_of_getElem? hgj)
            have Er : Ext w wr := by (repeat (with_reducible first | exact Ext.refl _ | assumption | refine Ext.drew ?_ | refine Ext.drewN ?_ _ | refine Ext.alloc ?_ _ | refine Ext.trans ?_ (by with_reducible assumption)))
            obtain ⟨ad, rfl, hb, c0, c1⟩ := (hr.ext Er).getE hgj
            obtain ⟨ad7, rfl, hb7, d0⟩ := (R7.ext hbw).getI (j := j) (z := (es[j]'(by rw [HX.out]; exact hc)).leaf) (by rw [List.getElem?_map, hgj]; rfl)
            generalize es[j]'(by rw [HX.out]; exact hc) = e at *
            have hsz := e.bytes_size
            have hsd := hok.2.2
            have HOK := Lib.hid hok
            have HLF : Hid (leafL e.bytes.data.toList = e.leaf) := rfl
            have hcI : (j : Int) < (n : Int) := by omega
            clear hok
            go_wp2_with fail
            refine (Encode_ok e.time e.data _ HOK.out).mono ?_
            rintro _ w8 ⟨rfl, hb8⟩
            rw [show (⟨e.time, e.data⟩ : Ent).bytes = e.bytes from rfl]
            have d8 := (Ext.cell (p := ad7.add j) hb8 (by rw [blk_add]; exact hb7)).trans d0
            have HD8 := Lib.hid d8
            have hb78 : ad7.block < w8.heap.size := by have := hb8.size; omega
            go_wp2_with fail
            clear d8
            go_region_held3 (fun W => W.cell? (ad7.add j) = some (.int .i64 e.leaf)) (first | exact HD8.out | exact (Ext.cell (p := ad7.add j) (by (repeat (with_reducible first | exact Ext.refl _ | assumption | refine Ext.drew ?_ | refine Ext.drewN ?_ _ | refine Ext.alloc ?_ _ | refine Ext.trans ?_ (by with_reducible assumption)))) (by rw [blk_add]; exact hb78)).trans HD8.out) (first
              | (go_at_call 16; (with_reducible refine (Leaf_any _ _ (by omega)).mono ?_); rintro _ w9 ⟨rfl, hb9⟩; rw [HLF.out])
              | fail)
            all_goals
              go_wp2_with fail
              go_roundw
              case rel => exact ⟨j + 1, by go_num, by omega, by (repeat (with_reducible first | exact Ext.refl _ | assumption | refine Ext.drew ?_ | refine Ext.drewN ?_ _ | refine Ext.alloc ?_ _ | refine Ext.trans ?_ (by with_reducible assumption)))⟩
              case measure => simp [intOf]; omega
          · go_wp2_with fail
            go_meet
            exact E47.trans hbw
      | false =>
        go_wp2_with fail
        go_meet
        exact Ext.refl _
    case rest =>
      have E5 : Ext w wc := E4.trans hcut
      clear hcut E4
      go_wp2_with fail
      refine (Unpack_any t _ hs).mono ?_
      rintro e w5 ⟨hp, hb5⟩
      unfold UnpPost at hp
      cases hu : unpackE t with
      | none =>
        rw [hu] at hp
        subst hp
        simp only [errV]
        clear hu
        go_wp2_with fail
        go_ret
        exact ⟨rfl, by (repeat (with_reducible first | exact Ext.refl _ | assumption | refine Ext.drew ?_ | refine Ext.drewN ?_ _ | refine Ext.alloc ?_ _ | refine Ext.trans ?_ (by with_reducible assumption)))⟩
      | some ys =>
        rw [hu] at hp
        obtain ⟨v5, rfl, own5⟩ := hp
        obtain ⟨u1, u2, u3⟩ := unpackE_some hu
        obtain ⟨A5, c5, rfl, hc5, R5, _⟩ := own_rd own5
        have HU := Lib.hid u3
        clear hu own5 u3
        go_wp2_with fail
        refine (Pack_ok A5 _ c5 ys _ R5 hc5 ⟨u2, u1⟩).mono ?_
        rintro e w6 ⟨rfl, hb6⟩
        rw [← HU.out]
        go_wp2_with fail
        go_ret
        exact ⟨ret_bool (by simp), by (repeat (with_reducible first | exact Ext.refl _ | assumption | refine Ext.drew ?_ | refine Ext.drewN ?_ _ | refine Ext.alloc ?_ _ | refine Ext.trans ?_ (by with_reducible assumption)))⟩
end Go.Proofs.Ytcpnhmjibihpkaa.entryBack
