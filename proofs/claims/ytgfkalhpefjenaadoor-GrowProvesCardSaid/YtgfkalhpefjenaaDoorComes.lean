/- witlaw1.comes: two chains that meet meet at a step. -/
import Derived.Test.YtgfkalhpefjenaaDoorGMake
import Derived.Test.YtgfkalhpefjenaaDoorUp
import Derived.Test.YtgfkalhpefjenaaDoorGCheck
namespace Go.Proofs.YtgfkalhpefjenaaDoor
open Go.RowKit Go.WideShapes
set_option linter.unusedVariables false
attribute [local go_sem ↓] Go.wp_at_zero Go.wp_at_succ

def chainL (r : Int) (p : List Int) : Int := p.foldl nodeL r
theorem chainL_snoc (r : Int) (p : List Int) (z : Int) : chainL r (p ++ [z]) = nodeL (chainL r p) z := by simp [chainL]
theorem chainL_take {p : List Int} {k : Nat} {z : Int} (r : Int) (h : p[k]? = some z) : chainL r (p.take (k + 1)) = nodeL (chainL r (p.take k)) z := by
  rw [List.take_add_one, h, Option.toList_some, chainL_snoc]
theorem split_last {p : List Int} {k : Nat} (h : p.length = k + 1) : ∃ q z, p = q ++ [z] ∧ q.length = k := by
  have hne : p ≠ [] := by intro e; rw [e] at h; simp at h
  exact ⟨p.dropLast, p.getLast hne, (List.dropLast_concat_getLast hne).symm, by rw [List.length_dropLast]; omega⟩
theorem groots_inner : ∀ (N : Nat) (r r' : Int) (o n : Nat) (p : List Int), n ≤ N → 1 ≤ o → o ≤ n → n ≤ 4096 → groots r o n p false = groots r' o n p false
  | 0, r, r', o, n, p, h, h1, h2, _ => by omega
  | N + 1, r, r', o, n, p, h, h1, hon, hn => by
    by_cases ho : o = n
    · subst ho
      rw [groots_part, groots_part]
    · have h2 : 2 ≤ n := by omega
      have h3 := half_lt h2 hn
      have h4 := half_pos n
      by_cases hk : o ≤ half n
      · rw [groots_left false ho h2 hn hk, groots_left false ho h2 hn hk, groots_inner N r r' o (half n) _ (by omega) h1 hk (by omega)]
      · rw [groots_right false ho h2 hn hk, groots_right false ho h2 hn hk, groots_inner N r r' (o - half n) (n - half n) _ (by omega) (by omega) (by omega) (by omega)]
/-- the old root either begins a chain, or is not asked at all -/
theorem groots_ways : ∀ (N : Nat) (o n : Nat) (p : List Int), n ≤ N → 1 ≤ o → o ≤ n → n ≤ 4096 → p.length = gsteps o n true → (∀ r, groots r o n p true = (r, chainL r p)) ∨ (∀ r r', groots r o n p true = groots r' o n p true)
  | 0, o, n, p, h, h1, h2, _, _ => by omega
  | N + 1, o, n, p, h, h1, hon, hn, hl => by
    by_cases ho : o = n
    · subst ho
      rw [gsteps_whole] at hl
      obtain rfl := List.eq_nil_of_length_eq_zero hl
      exact .inl fun r => groots_whole r o []
    · have h2 : 2 ≤ n := by omega
      have h3 := half_lt h2 hn
      have h4 := half_pos n
      by_cases hk : o ≤ half n
      · rw [gsteps_left true ho h2 hn hk] at hl
        obtain ⟨q, z, rfl, hq⟩ := split_last hl
        rcases groots_ways N o (half n) q (by omega) h1 hk (by omega) hq with ih | ih
        · refine .inl fun r => ?_
          rw [groots_left true ho h2 hn hk, List.dropLast_concat, ih r, chainL_snoc]
          simp
        · refine .inr fun r r' => ?_
          rw [groots_left true ho h2 hn hk, groots_left true ho h2 hn hk, List.dropLast_concat, ih r r']
      · refine .inr fun r r' => ?_
        rw [groots_right true ho h2 hn hk, groots_right true ho h2 hn hk, groots_inner N r r' (o - half n) (n - half n) _ (by omega) (by omega) (by omega) (by omega)]

theorem nb_ok (a b : Int) : (⟨(nodeB a b).toArray⟩ : ByteArray).size ≤ maxLen := by
  have : (⟨(nodeB a b).toArray⟩ : ByteArray).size = 9 := rfl
  rw [this]; simp [maxLen]
theorem nb_sum (a b : Int) : sumL (⟨(nodeB a b).toArray⟩ : ByteArray).data.toList = nodeL a b := rfl
theorem nb_ne {a b c d : Int} (ha : vld a = true) (hb : vld b = true) (hc : vld c = true) (hd : vld d = true) (h : a ≠ c) : ((⟨(nodeB a b).toArray⟩ : ByteArray).toList == (⟨(nodeB c d).toArray⟩ : ByteArray).toList) = false := by
  refine (Lib.bytes_beq_false_iff _ _).2 fun e => h ?_
  have := congrArg (fun s : ByteArray => s.data.toList) e
  exact (nodeB_inj ha hb hc hd (by simpa using this)).1

set_option maxRecDepth 100000 in
set_option maxHeartbeats 2000000 in
theorem Comes_ok (A : Option Addr) (n c : Nat) (ps : List Int) (a b : Int) (w : World) (hr : Rd w 1 A n c (ps.map (Value.int .i64))) (hm : c ≤ maxLen) (ha : vld a = true) (hb : vld b = true) (hp : allV ps = true) (hne : a ≠ b) (he : chainL a ps = chainL b ps) :
    Calls Tryd.prog 74 #[.int .i64 a, .int .i64 b, .slice A n c] w fun e w' => e = .returned (.bool true) ∧ Ext w w' := by
  have HX := Lib.hid hr.lenI
  have hl := hr.2.1
  unfold maxLen at hm
  have HA := Lib.hid ha
  have HB := Lib.hid hb
  have HP := Lib.hid hp
  have HN := Lib.hid hne
  have HE := Lib.hid he
  clear ha hb hp hne he
  go_enter Tryd.func74, Tryd.ntmps74
  go_wp2_with fail
  go_loopw [0, 1, 7] (fun x y i wr => ∃ k : Nat, i = .int .i64 k ∧ k ≤ n ∧ Ext w wr ∧ ∃ u v : Int, x = .int .i64 u ∧ y = .int .i64 v ∧ Hid (u = chainL a (ps.take k) ∧ v = chainL b (ps.take k) ∧ u ≠ v ∧ vld u = true ∧ vld v = true)) (fun _ _ i _ => n - (intOf i).toNat)
  case atStart => exact ⟨0, rfl, Nat.zero_le _, by (repeat (with_reducible first | exact Ext.refl _ | assumption | refine Ext.drew ?_ | refine Ext.drewN ?_ _ | refine Ext.alloc ?_ _ | refine Ext.trans ?_ (by with_reducible assumption))), a, b, rfl, rfl, Lib.hid ⟨rfl, rfl, HN.out, HA.out, HB.out⟩⟩
  case round =>
    obtain ⟨k, rfl, hk, hbw, u, v, rfl, rfl, HU⟩ := hrel
    by_cases hc : k < n
    · have h1 := List.getElem?_eq_getElem (l := ps) (i := k) (by rw [HX.out]; omega)
      have HVZ := Lib.hid (allV_get HP.out h1)
      have HS1 := Lib.hid (chainL_take a h1)
      have HS2 := Lib.hid (chainL_take b h1)
      have HH := Lib.hid h1
      obtain ⟨ad, rfl, hbk, hcell⟩ := (hr.ext hbw).getI h1
      generalize ps[k]'(by rw [HX.out]; omega) = z at *
      have HNE := Lib.hid (nb_ne HU.out.2.2.2.1 HVZ.out HU.out.2.2.2.2 HVZ.out HU.out.2.2.1)
      clear h1
      go_wp2_with fail
      refine (NodeBytes_ok u z _ HU.out.2.2.2.1 HVZ.out).mono ?_
      rintro _ y1 ⟨rfl, hy1⟩
      obtain ⟨ad', e', hbk', hcell'⟩ := (hr.ext (hbw.trans hy1)).getI HH.out
      cases e'
      go_wp2_with fail
      refine (NodeBytes_ok v z _ HU.out.2.2.2.2 HVZ.out).mono ?_
      rintro _ y2 ⟨rfl, hy2⟩
      go_wp2_with fail
      refine (Sum_any _ _ (nb_ok u z)).mono ?_
      rw [nb_sum]
      rintro _ y3 ⟨rfl, hy3⟩
      go_wp2_with fail
      refine (Sum_any _ _ (nb_ok v z)).mono ?_
      rw [nb_sum]
      rintro _ y4 ⟨rfl, hy4⟩
      have Y := (((hbw.trans hy1).trans hy2).trans hy3).trans hy4
      have V1 := Lib.hid (vld_node u z)
      have V2 := Lib.hid (vld_node v z)
      have HC1 : Hid (nodeL u z = chainL a (ps.take (k + 1))) := by show _ = _; rw [HS1.out, ← HU.out.1]
      have HC2 : Hid (nodeL v z = chainL b (ps.take (k + 1))) := by show _ = _; rw [HS2.out, ← HU.out.2.1]
      clear HS1 HS2
      generalize (⟨(nodeB u z).toArray⟩ : ByteArray) = s1 at *
      generalize (⟨(nodeB v z).toArray⟩ : ByteArray) = s2 at *
      generalize nodeL u z = t1 at *
      generalize nodeL v z = t2 at *
      by_cases hs : t1 = t2
      · subst hs
        have hse := HNE.out
        go_wp2_with fail
        go_ret
        exact ⟨ret_bool (by simp), Y⟩
      · go_wp2_with fail
        go_roundw
        case rel => exact ⟨k + 1, by go_num, by omega, Y, _, _, rfl, rfl, Lib.hid ⟨HC1.out, HC2.out, hs, V1.out, V2.out⟩⟩
        case measure => simp [intOf]; omega
    · exfalso
      have e : k = n := by omega
      have := HU.out
      rw [List.take_of_length_le (by rw [HX.out]; omega), HE.out] at this
      exact this.2.2.1 (this.1.trans this.2.1.symm)
end Go.Proofs.YtgfkalhpefjenaaDoor
