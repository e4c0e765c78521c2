/- wal: what is done to it, beside an elder world. -/
import Derived.Test.YtcgfdhgceokcnaaGreatDoorJWalKeeps23
import Derived.Test.YtcgfdhgceokcnaaGreatDoorJWalKeeps16
import Derived.Test.YtcgfdhgceokcnaaGreatDoorJWalKeeps20
import Derived.BigQuiet
namespace Go.Proofs.YtcgfdhgceokcnaaGreatDoor
open Go.RowKit Go.WideShapes
set_option linter.unusedVariables false

theorem fold_young (lim : Nat) : ∀ (bs : List (List Pr)) (z : List Pr × List (List Pr)), z.1.length < lim → (bs.foldl (fun z b => doZ lim z.1 z.2 b) z).1.length < lim
  | [], z, h => h
  | b :: bs, z, h => by
    rw [List.foldl_cons]
    refine fold_young lim bs _ ?_
    unfold doZ
    split
    · exact runB_young lim b _ _ h
    · exact h
theorem stZ_young {lim : Nat} (h : 1 ≤ lim) (bs : List (List Pr)) : (stZ lim bs).1.length < lim := fold_young lim bs ([], []) h
theorem fold_okZ (lim : Nat) : ∀ (bs : List (List Pr)) (z : List Pr × List (List Pr)), LsOk (z.1 :: z.2) → LsOk ((bs.foldl (fun z b => doZ lim z.1 z.2 b) z).1 :: (bs.foldl (fun z b => doZ lim z.1 z.2 b) z).2)
  | [], z, h => h
  | b :: bs, z, h => by
    rw [List.foldl_cons]
    refine fold_okZ lim bs _ ?_
    unfold doZ
    split
    · rename_i hk
      exact runB_ok lim b _ _ (doK_len hk).2.1 h
    · exact h
theorem stZ_ok (lim : Nat) (bs : List (List Pr)) : LsOk ((stZ lim bs).1 :: (stZ lim bs).2) := fold_okZ lim bs ([], []) (LsOk.cons ⟨Asc.nil, by simp⟩ LsOk.nil)
theorem doK_one (lim : Nat) (Y : List Pr) (T : List (List Pr)) (p : Pr) (h : p.gone = false) : doK lim Y T [p] = putK Y p := by
  rw [doK_run (by simp) (by intro q hq; rw [List.mem_singleton] at hq; subst hq; unfold badP; rw [h]; rfl)]
  unfold runK
  split
  · rename_i hk; rw [hk]; rfl
  · rfl
theorem put_freeZ {Y : List Pr} {p : Pr} (hY : Y.length < 60) (hk : keyK p.key = 0) (hv : p.value.size ≤ 200) : putK Y p = 0 := by
  unfold putK
  rw [if_neg (not_not_intro hk), if_neg]
  rintro (h1 | ⟨_, h1⟩)
  · omega
  · omega
theorem rd_one (w : World) (k v : ByteArray) (g : Bool) : Rd (w.alloc (.cells #[.string k, .string v, .bool g] 31)) 3 (some ⟨w.heap.size, 0, none⟩) 1 1 ([(⟨k, v, g⟩ : Pr)].flatMap Pr.cells) :=
  ⟨rfl, Nat.le_refl _, fun _ => ⟨_, rfl, by simp, fun j u hu => news_new w 31 _ _ rfl j u hu⟩⟩
theorem beside {w0 w w' : World} {b : Nat} (e : Ext w0 w) (hb0 : w0.heap.size ≤ b) (k : Chg w w' (fun g => g = b)) : Ext w0 w' := ((e.chg _).trans k fun g _ hg => hg).ext fun g hg hS => by
  have h1 : g = b := hS
  omega
theorem put_one (w0 w : World) (b lim : Nat) (z z' : WS) (k v : ByteArray) (g : Bool) (c : Int) (h : WG w b lim z) (e : Ext w0 w) (hb0 : w0.heap.size ≤ b) (hm : z.few) (hP : PowG w0) (hz : z.put lim [⟨k, v, g⟩] = (c, z')) :
    Calls Tryz.prog 7 #[.pointer (some ⟨b, 0, none⟩), .slice (some ⟨w.heap.size, 0, none⟩) 1 1] (w.alloc (.cells #[.string k, .string v, .bool g] 31)) fun e w' => e = .returned (errR c) ∧ WG w' b lim z' ∧ Ext w0 w' := by
  have ea : Ext w (w.alloc (.cells #[.string k, .string v, .bool g] 31)) := (Ext.refl _).alloc _
  refine (WPutF_any b lim z _ 1 1 [⟨k, v, g⟩] _ (h.ext ea) (rd_one w k v g) rfl (by decide) hm (hP.ext (e.trans ea))).mono ?_
  rintro _ w' ⟨rfl, hw, k⟩
  rw [hz] at hw ⊢
  exact ⟨rfl, hw, beside (e.trans ea) hb0 k⟩
theorem sync_one (w0 w : World) (b lim : Nat) (z z' : WS) (c : Int) (h : WG w b lim z) (e : Ext w0 w) (hb0 : w0.heap.size ≤ b) (hz : z.sync = (c, z')) :
    Calls Tryz.prog 8 #[.pointer (some ⟨b, 0, none⟩)] w fun e w' => e = .returned (errR c) ∧ WG w' b lim z' ∧ Ext w0 w' := by
  refine (WSync_any h).mono ?_
  rintro _ w' ⟨rfl, hw, k⟩
  rw [hz] at hw ⊢
  exact ⟨rfl, hw, beside e hb0 k⟩
theorem crash_one (w0 w : World) (b lim : Nat) (z : WS) (keep : Int) (h : WG w b lim z) (e : Ext w0 w) (hb0 : w0.heap.size ≤ b) (hm : z.few) (gk : igood keep) (hG : StrG w0) (hM : MaxG w0) :
    Calls Tryz.prog 9 #[.pointer (some ⟨b, 0, none⟩), .int .i64 keep] w fun e w' => (∃ v, e = .returned v) ∧ WG w' b lim (z.crash keep) ∧ Ext w0 w' := by
  refine (WCrashF_any w0 b lim z keep w h e hb0 hm (igood_bd gk).1 (igood_bd gk).2 hG hM).mono ?_
  rintro e' w' ⟨he, hw, k⟩
  exact ⟨he, hw, beside e hb0 k⟩
end Go.Proofs.YtcgfdhgceokcnaaGreatDoor

/- the references' store: Key, Find, With, Put, Get. -/
namespace Go.Proofs.YtcgfdhgceokcnaaGreatDoor
open Go.RowKit
set_option linter.unusedVariables false
attribute [local go_sem ↓] Go.wp_at_zero Go.wp_at_succ

theorem RSKey_any (key : ByteArray) (w : World) : Calls Tryz.prog 102 #[.string key] w fun e w' => e = .returned (.int .i64 (keyK key)) ∧ w = w' := by
  by_cases h0 : key.size = 0
  · rw [keyK_none h0]
    obtain rfl := str_noneP h0
    clear h0
    go_enter Tryz.func102, Tryz.ntmps102
    go_wp2_with fail
    go_ret
    exact ⟨rfl, rfl⟩
  · obtain ⟨q1, q2⟩ := str_someP (Nat.pos_of_ne_zero h0)
    by_cases h2 : 200 < key.size
    · rw [keyK_long h2]
      have hi : (200 : Int) < (key.size : Int) := by omega
      clear h0 h2
      go_enter Tryz.func102, Tryz.ntmps102
      go_wp2_with fail
      go_ret
      exact ⟨rfl, rfl⟩
    · rw [keyK_ok (Nat.pos_of_ne_zero h0) (Nat.le_of_not_lt h2)]
      have hi : ¬ (200 : Int) < (key.size : Int) := by omega
      clear h0 h2
      go_enter Tryz.func102, Tryz.ntmps102
      go_wp2_with fail
      go_ret
      exact ⟨rfl, rfl⟩

def rfK (es : List Pr) (key : ByteArray) : Int := if hasB es key = true then (lowN es key : Nat) else -1
set_option maxRecDepth 100000 in
theorem RSFind_any (A : Option Addr) (n c : Nat) (es : List Pr) (key : ByteArray) (w : World) (hr : Rd w 3 A n c (es.flatMap Pr.cells)) (hm : c ≤ maxLen) (ho : Asc es) :
    Calls Tryz.prog 75 #[.slice A n c, .string key] w fun e w' => e = .returned (.int .i64 (rfK es key)) ∧ w = w' := by
  have hl := hr.2.1
  have HX := Lib.hid hr.lenP
  have HO := Lib.hid ho
  obtain ⟨r, hrr⟩ : ∃ r, rfK es key = r := ⟨_, rfl⟩
  have HR := Lib.hid hrr
  rw [hrr]
  have H0 : Hid (∀ (t : Nat) (q : Pr), t < 0 → es[t]? = some q → q.key ≠ key) := Lib.hid fun t q h => absurd h (Nat.not_lt_zero _)
  clear hrr ho
  unfold maxLen at hm
  go_enter Tryz.func75, Tryz.ntmps75
  go_wp2_with fail
  go_loopw [5] (fun x wr => ∃ j : Nat, x = .int .i64 j ∧ j ≤ n ∧ w = wr ∧ Hid (∀ (t : Nat) (q : Pr), t < j → es[t]? = some q → q.key ≠ key)) (fun x _ => n - (intOf x).toNat)
  case atStart => exact ⟨0, rfl, Nat.zero_le _, rfl, H0⟩
  case round =>
    obtain ⟨j, rfl, hj, rfl, hall⟩ := hrel
    by_cases hc : j < n
    · obtain ⟨p, hp⟩ : ∃ p, es[j]? = some p := ⟨_, List.getElem?_eq_getElem (by rw [HX.out]; exact hc)⟩
      obtain ⟨ad, rfl, hb, c0, c1, c2⟩ := hr.getP hp
      obtain ⟨pk, pv, pg⟩ := p
      simp only at c0 c1 c2
      by_cases hk : pk = key
      · subst hk
        have h1 : r = (j : Nat) := by
          rw [← HR.out]
          unfold rfK
          rw [if_pos (has_of HO.out hp rfl), low_eq HO.out hp rfl]
        subst h1
        clear hp
        go_wp2_with fail
        go_ret
        exact ⟨rfl, rfl⟩
      · have hbe := (Lib.bytes_beq_false_iff pk key).2 hk
        have HA : Hid (∀ (t : Nat) (q : Pr), t < j + 1 → es[t]? = some q → q.key ≠ key) := Lib.hid fun t q ht hq => by
          rcases Nat.lt_or_eq_of_le (Nat.le_of_lt_succ ht) with h | rfl
          · exact hall.out t q h hq
          · rw [hp] at hq; injection hq with hq; subst hq; exact hk
        clear hp hk
        go_wp2_with fail
        go_roundw
        case rel => exact ⟨j + 1, by go_num, by omega, by first | rfl | trivial, HA⟩
        case measure => simp [intOf]; omega
    · have h1 : r = -1 := by
        rw [← HR.out]
        refine if_neg fun hb => ?_
        obtain ⟨q, hq, hk⟩ := has_get hb
        have hlt := (List.getElem?_eq_some_iff.1 hq).1
        rw [HX.out] at hlt
        exact hall.out _ q (by omega) hq hk
      subst h1
      go_wp2_with fail
      go_ret
      first | exact ⟨rfl, rfl⟩ | exact ⟨trivial, rfl⟩ | exact ⟨rfl, trivial⟩ | exact ⟨trivial, trivial⟩

/-- what With has after i -/
def withI (es : List Pr) (p : Pr) (i : Nat) : List Pr := if i ≤ lowN es p.key then es.take i else (putL es p).take (if hasB es p.key = true then i else i + 1)
theorem with_step {es : List Pr} {p q : Pr} {i : Nat} (h : es[i]? = some q) : withI es p (i + 1) = (withI es p i ++ (if i = lowN es p.key then [p] else [])) ++ (if i = lowN es p.key ∧ hasB es p.key = true then [] else [q]) := by
  have hi := (List.getElem?_eq_some_iff.1 h).1
  have hll := lowN_le es p.key
  obtain ⟨lo, hlo⟩ : ∃ lo, lowN es p.key = lo := ⟨_, rfl⟩
  unfold withI putL
  rw [hlo] at hll ⊢
  rcases Nat.lt_trichotomy i lo with h1 | h1 | h1
  · rw [if_pos (show i + 1 ≤ lo by omega), if_pos (show i ≤ lo by omega), if_neg (show ¬ i = lo by omega), if_neg (show ¬ (i = lo ∧ hasB es p.key = true) from fun h => by omega), List.append_nil, take_step h]
  · subst h1
    rw [if_neg (show ¬ i + 1 ≤ i by omega), if_pos (Nat.le_refl i), if_pos rfl]
    cases hb : hasB es p.key with
    | true =>
      rw [if_pos rfl, if_pos rfl, if_pos ⟨rfl, rfl⟩, List.append_nil]
      rw [take_step (p := p) (List.getElem?_set_self hi), List.take_set_of_le (Nat.le_refl _)]
    | false =>
      rw [if_neg (by decide), if_neg (by decide), if_neg (by simp)]
      unfold insL
      have hl : (es.take i).length = i := by rw [List.length_take]; omega
      rw [List.take_append, hl, List.take_of_length_le (by omega), show i + 1 + 1 - i = 2 by omega]
      have hd : es.drop i = q :: es.drop (i + 1) := by
        rw [List.drop_eq_getElem_cons hi]
        rw [List.getElem?_eq_getElem hi] at h
        injection h with h
        rw [h]
      rw [hd]
      simp
  · rw [if_neg (show ¬ i + 1 ≤ lo by omega), if_neg (show ¬ i ≤ lo by omega), if_neg (show ¬ i = lo by omega), if_neg (show ¬ (i = lo ∧ hasB es p.key = true) from fun h => by omega), List.append_nil]
    cases hb : hasB es p.key with
    | true =>
      rw [if_pos rfl, if_pos rfl, if_pos rfl]
      exact take_step (by rw [List.getElem?_set_ne (by omega)]; exact h)
    | false =>
      rw [if_neg (by decide), if_neg (by decide), if_neg (by decide)]
      refine take_step ?_
      rw [ins_get hll, if_neg (by omega), if_neg (by omega)]
      exact h
theorem with_end {es : List Pr} {p : Pr} : withI es p es.length ++ (if lowN es p.key < es.length then [] else [p]) = putL es p := by
  have hll := lowN_le es p.key
  obtain ⟨lo, hlo⟩ : ∃ lo, lowN es p.key = lo := ⟨_, rfl⟩
  unfold withI
  rw [hlo] at hll ⊢
  by_cases h1 : lo < es.length
  · rw [if_neg (by omega), if_pos h1, List.append_nil, List.take_of_length_le]
    unfold putL
    rw [hlo]
    split
    · rw [List.length_set]; exact Nat.le_refl _
    · rw [ins_len hll]; exact Nat.le_refl _
  · have h2 : lo = es.length := by omega
    have hb : hasB es p.key = false := by unfold hasB; rw [hlo, List.getElem?_eq_none (by omega)]
    rw [if_pos (by omega), if_neg h1, List.take_of_length_le (Nat.le_refl _)]
    unfold putL insL
    rw [hb, if_neg (by decide), hlo, List.take_of_length_le (by omega), List.drop_of_length_le (by omega)]
theorem withI_zero (es : List Pr) (p : Pr) : withI es p 0 = [] := by unfold withI; rw [if_pos (Nat.zero_le _), List.take_zero]
theorem withI_len (es : List Pr) (p : Pr) (i : Nat) : (withI es p i).length ≤ i + 1 := by
  unfold withI
  split
  · rw [List.length_take]; omega
  · rw [List.length_take]; split <;> omega

set_option maxRecDepth 100000 in
set_option maxHeartbeats 2000000 in
theorem RSWith_any (A : Option Addr) (n c : Nat) (es : List Pr) (p : Pr) (w : World) (hr : Rd w 3 A n c (es.flatMap Pr.cells)) (hm : c ≤ maxLen) (ho : Asc es) (hn : n ≤ 1000000) :
    Calls Tryz.prog 76 #[.slice A n c, p.val] w fun e w' => (∃ v', e = .returned v' ∧ w'.ownsRow w.heap.size 31 3 v' (putL es p).length ((putL es p).flatMap Pr.cells)) ∧ Ext w w' := by
  have hl := hr.2.1
  have HX := Lib.hid hr.lenP
  have HO := Lib.hid ho
  obtain ⟨lo, hlo⟩ : ∃ lo, lowN es p.key = lo := ⟨_, rfl⟩
  obtain ⟨hb, hhb⟩ : ∃ hb, hasB es p.key = hb := ⟨_, rfl⟩
  have hln : lo ≤ n := by rw [← hlo, ← HX.out]; exact lowN_le _ _
  have hbn : hb = true → lo < n := fun h => by
    rw [h] at hhb
    obtain ⟨q, hq, _⟩ := has_get hhb
    rw [hlo] at hq
    have := (List.getElem?_eq_some_iff.1 hq).1
    rw [HX.out] at this
    exact this
  have HS := Lib.hid fun (i : Nat) (q : Pr) (h : es[i]? = some q) => with_step (p := p) h
  have HE := Lib.hid (with_end (es := es) (p := p))
  have HWL := Lib.hid fun i => withI_len es p i
  have HSD := Lib.hid (low_side ho p.key)
  have HHB := Lib.hid hhb
  have HLO := Lib.hid hlo
  have HBN := Lib.hid hbn
  rw [hlo, hhb] at HS
  rw [hlo] at HE HSD
  obtain ⟨wi, hwi⟩ : ∃ wi, withI es p = wi := ⟨_, rfl⟩
  have H00 := withI_zero es p
  rw [hwi] at HS HE HWL H00
  obtain ⟨pl, hpl⟩ : ∃ pl, putL es p = pl := ⟨_, rfl⟩
  rw [hpl] at HE ⊢
  have H0 : Hid (∀ (W : World) (b : Nat), W.ownsRow b 31 3 (.slice none 0 0) (wi 0).length ((wi 0).flatMap Pr.cells)) := Lib.hid fun W b => by rw [H00]; exact own_nil _ _ _ _
  obtain ⟨pk, pv, pg⟩ := p
  simp only at HSD HHB HLO
  have B1 := Bk.at_ w 31 #[.string pk, .string pv, .bool pg] w.heap.size rfl
  have e1 : Ext w (w.alloc (.cells #[.string pk, .string pv, .bool pg] 31)) := (Ext.refl _).alloc _
  obtain ⟨pb, hpb⟩ : ∃ pb, w.heap.size = pb := ⟨_, rfl⟩
  have HR1 := Lib.hid (hr.ext e1)
  obtain ⟨i0, hi0, hz0, hzs, hzb⟩ := info_parts info_pair
  clear hlo hhb hbn hwi hpl H00 hr ho
  unfold maxLen at hm
  go_enter Tryz.func76, Tryz.ntmps76
  go_upto_region 1 with (fail)
  generalize w.alloc (.cells #[.string pk, .string pv, .bool pg] 31) = W1 at *
  try rw [hpb] at B1
  try rw [hpb]
  have HB1 := Lib.hid B1
  obtain ⟨wb, hwb⟩ : ∃ wb, W1.heap.size = wb := ⟨_, rfl⟩
  have hwb1 : W1.heap.size ≤ wb := Nat.le_of_eq hwb
  have hww : w.heap.size ≤ wb := by have := e1.size; omega
  have H01 := Lib.hid (H0.out W1 wb)
  clear B1 H0
  go_wp2_with fail
  go_loopw [5, 6, 7] (fun o b y wr => ∃ (i : Nat) (bb : Bool), b = .bool bb ∧ y = .int .i64 i ∧ i ≤ n ∧ Ext W1 wr ∧ Hid (bb = decide (lo < i)) ∧ Hid (wr.ownsRow wb 31 3 o (wi i).length ((wi i).flatMap Pr.cells))) (fun _ _ y _ => n - (intOf y).toNat)
  case atStart => exact ⟨0, false, rfl, rfl, Nat.zero_le _, Ext.refl _, Lib.hid (by simp), H01⟩
  case round =>
    clear H01
    obtain ⟨i, bb, rfl, rfl, hi, hbw, hbb, hown⟩ := hrel
    have P := HB1.out.ext hbw
    have q0 : wr.cell? ⟨pb, 0, none⟩ = some (.string pk) := P.cell 0
    have q1 : wr.cell? ⟨pb, 1, none⟩ = some (.string pv) := P.cell 1
    have q2 : wr.cell? ⟨pb, 2, none⟩ = some (.bool pg) := P.cell 2
    have hwl := HWL.out i
    by_cases hc : i < n
    · obtain ⟨q, hq⟩ : ∃ q, es[i]? = some q := ⟨_, List.getElem?_eq_getElem (by rw [HX.out]; exact hc)⟩
      obtain ⟨ad, rfl, hab, d0, d1, d2⟩ := HR1.out.getP hq
      have hst := HS.out i q hq
      have hs1 := HSD.out.1 i q
      have hs2 := HSD.out.2 i q
      have hke : q.key = pk → i = lo ∧ hb = true := fun h => by
        rw [← HLO.out, ← HHB.out]
        exact ⟨(low_eq HO.out hq h).symm, has_of HO.out hq h⟩
      have hek : i = lo → hb = true → q.key = pk := fun h1 h2 => by
        rw [← HHB.out] at h2
        obtain ⟨q', hq', hk'⟩ := has_get h2
        rw [HLO.out, ← h1, hq] at hq'
        injection hq' with hq'
        rw [hq']; exact hk'
      have hlt0 : (ad.add (i * 3)).block < W1.heap.size := by rw [blk_add]; exact hab
      obtain ⟨qk, qv, qg⟩ := q
      simp only at d0 d1 d2 hs1 hs2 hke hek
      have HST := Lib.hid hst
      have HS1 := Lib.hid fun h : i < lo => hs1 h hq
      have HS2 := Lib.hid fun h : lo ≤ i => hs2 h hq
      have HKE := Lib.hid hke
      have HEK := Lib.hid hek
      have D0 := Lib.hid d0
      have D1 := Lib.hid d1
      have D2 := Lib.hid d2
      have y0 := (hbw.cell (p := ad.add (i * 3)) hlt0).trans d0
      clear hst hs1 hs2 hke hek hq P d0 d1 d2
      go_upto_region 6 with (fail)
      go_cut [25] from 14 to 25 (fun v wc => v = .bool (decide (i = lo)) ∧ Ext wr wc)
      case first =>
        as_aux_lemma =>
        rcases Nat.lt_trichotomy i lo with h1 | h1 | h1
        · have hb1 : Op.bytesLess qk.toList pk.toList = true := by rw [kLt_op]; exact HS1.out h1
          obtain rfl : bb = false := by rw [hbb.out]; exact decide_eq_false (by omega)
          have hd2 : Hid (decide (i = lo) = false) := decide_eq_false (by omega)
          clear h1
          go_quiet (fail)
          go_wp2_with fail
          go_meet
          exact ⟨by rw [hd2.out], by (repeat (with_reducible first | exact Ext.refl _ | assumption | refine Ext.drew ?_ | refine Ext.drewN ?_ _ | refine Ext.alloc ?_ _ | refine Ext.trans ?_ (by with_reducible assumption)))⟩
        · have hb1 : Op.bytesLess qk.toList pk.toList = false := by rw [kLt_op]; exact HS2.out (by omega)
          obtain rfl : bb = false := by rw [hbb.out]; exact decide_eq_false (by omega)
          have hd2 : Hid (decide (i = lo) = true) := decide_eq_true h1
          clear h1
          go_quiet (fail)
          go_wp2_with fail
          go_meet
          exact ⟨by rw [hd2.out], by (repeat (with_reducible first | exact Ext.refl _ | assumption | refine Ext.drew ?_ | refine Ext.drewN ?_ _ | refine Ext.alloc ?_ _ | refine Ext.trans ?_ (by with_reducible assumption)))⟩
        · obtain rfl : bb = true := by rw [hbb.out]; exact decide_eq_true h1
          have hd2 : Hid (decide (i = lo) = false) := decide_eq_false (by omega)
          clear h1
          go_quiet (fail)
          go_wp2_with fail
          go_meet
          exact ⟨by rw [hd2.out], by (repeat (with_reducible first | exact Ext.refl _ | assumption | refine Ext.drew ?_ | refine Ext.drewN ?_ _ | refine Ext.alloc ?_ _ | refine Ext.trans ?_ (by with_reducible assumption)))⟩
      case rest =>
      as_aux_lemma =>
      obtain ⟨rfl, hb2⟩ := hcut
      have e2 := hbw.trans hb2
      have P2 := HB1.out.ext e2
      have q0 : wc.cell? ⟨pb, 0, none⟩ = some (.string pk) := P2.cell 0
      have q1 : wc.cell? ⟨pb, 1, none⟩ = some (.string pv) := P2.cell 1
      have q2 : wc.cell? ⟨pb, 2, none⟩ = some (.bool pg) := P2.cell 2
      have O2 := Lib.hid (own_ext hown.out hb2)
      have hbs2 : wb ≤ wc.heap.size := by rw [← hwb]; exact e2.size
      obtain ⟨il, hil⟩ : ∃ il : Bool, decide (i = lo) = il := ⟨_, rfl⟩
      have HIL := Lib.hid hil
      have HBB : Hid ((il = true → i = lo) ∧ (il = false → (bb = decide (lo < i + 1) ∧ i ≠ lo))) := Lib.hid ⟨fun h => of_decide_eq_true (hil.trans h), fun h => by
        have h1 : ¬ i = lo := of_decide_eq_false (hil.trans h)
        refine ⟨?_, h1⟩
        rw [hbb.out]
        exact decide_eq_decide.2 ⟨fun h => by omega, fun h => by omega⟩⟩
      rw [hil]
      obtain ⟨ml, hml⟩ : ∃ ml, wi i ++ (if i = lo then [(⟨pk, pv, pg⟩ : Pr)] else []) = ml := ⟨_, rfl⟩
      have hst := HST.out
      rw [hml] at hst
      have HST := Lib.hid hst
      have HML := Lib.hid hml
      have hmln : ml.length ≤ i + 2 := by
        rw [← hml, List.length_append]
        split
        · simp; omega
        · simp; omega
      clear hil hml hst y0
      obtain ⟨kk, hkk⟩ : ∃ k, (wi i).length = k := ⟨_, rfl⟩
      rw [hkk] at hwl
      have HKK := Lib.hid hkk
      have hk2 : kk ≤ 1000002 := by omega
      clear hkk
      go_upto_if 25 with (fail)
      go_cut [5, 6] (fun o b wx => b = .bool (decide (lo < i + 1)) ∧ Ext W1 wx ∧ Hid (wx.ownsRow wb 31 3 o ml.length (ml.flatMap Pr.cells)))
      case first =>
        as_aux_lemma =>
        cases il with
        | true =>
          have hil2 := HBB.out.1 rfl
          have hmlv : ml = wi i ++ [(⟨pk, pv, pg⟩ : Pr)] := by rw [← HML.out, if_pos hil2]
          have HMV := Lib.hid hmlv
          have hd : Hid (decide (lo < i + 1) = true) := decide_eq_true (by omega)
          have e3 : Ext wc (wc.alloc (.cells #[.string pk, .string pv, .bool pg] 31)) := (Ext.refl _).alloc _
          have ow := own_ext O2.out e3
          rw [HKK.out] at ow
          have O3 := Lib.hid ow
          have hb3 := Nat.le_trans hbs2 e3.size
          have e3w : Ext wc (wc.alloc (.cells #[.string pk, .string pv, .bool pg] 31)) := e3
          clear ow hil2 hmlv
          go_wp2_with (at_builtin; go_loud (refine wpList_append_own _ rfl _ _ 32 rfl wb 31 i0 _ 3 40 Tryz.underlying32 hi0 hz0 hzs hzb rfl (by omega) u5 kk _ rfl O3.out ⟨wc.heap.size, 0, none⟩ 1 1 [.string pk, .string pv, .bool pg] (by rfl) rfl (news_new wc _ _ _ rfl) (by intro u hu; simp at hu; rcases hu with rfl | rfl | rfl <;> rfl) (by unfold maxLen; omega) (by omega) hb3 ?_); intro v7 w7 own7 hg7 hH7; clear hH7)
          have e7 := own_grown O3.out hg7 W1 hwb1 (e2.trans e3)
          go_meet
          exact ⟨by rw [hd.out], e7, by
            show World.ownsRow _ _ _ _ _ _ _
            rw [HMV.out, List.length_append, HKK.out, List.flatMap_append]
            exact own7⟩
        | false =>
          have hmlv : ml = wi i := by rw [← HML.out, if_neg (HBB.out.2 rfl).2, List.append_nil]
          have HMV := Lib.hid hmlv
          have HBV := Lib.hid (HBB.out.2 rfl).1
          clear hmlv
          go_wp2_with fail
          go_meet
          exact ⟨by rw [← HBV.out], e2, by rw [HMV.out]; exact O2.out⟩
      case rest =>
      as_aux_lemma =>
      obtain ⟨rfl, e3, O3⟩ := hcut
      have P3 := HB1.out.ext e3
      have r0 : wc.cell? ⟨pb, 0, none⟩ = some (.string pk) := P3.cell 0
      have y0 := (e3.cell (p := ad.add (i * 3)) hlt0).trans D0.out
      have y1 := (e3.cell (p := ⟨(ad.add (i * 3)).block, (ad.add (i * 3)).off + 1, none⟩) hlt0).trans D1.out
      have y2 := (e3.cell (p := ⟨(ad.add (i * 3)).block, (ad.add (i * 3)).off + 2, none⟩) hlt0).trans D2.out
      clear P2 q0 q1 q2 O2 hbs2 P3
      obtain ⟨bn, hbn⟩ : ∃ bn : Bool, decide (lo < i + 1) = bn := ⟨_, rfl⟩
      have HBNX := Lib.hid hbn.symm
      rw [hbn]
      obtain ⟨nb, hnb⟩ : ∃ nb : Bool, decide (¬ (i = lo ∧ hb = true)) = nb := ⟨_, rfl⟩
      have HNB := Lib.hid hnb
      clear hbn hnb
      go_upto_region 9 with (fail)
      go_cut [37] from 30 to 37 (fun v wx => v = .bool nb ∧ Ext wc wx)
      case first =>
        as_aux_lemma =>
        by_cases hqk : qk = pk
        · have hn0 : nb = false := by rw [← HNB.out]; exact decide_eq_false (not_not_intro (HKE.out hqk))
          subst hn0
          subst hqk
          go_quiet (fail)
          go_wp2_with fail
          go_meet
          exact ⟨rfl, by (repeat (with_reducible first | exact Ext.refl _ | assumption | refine Ext.drew ?_ | refine Ext.drewN ?_ _ | refine Ext.alloc ?_ _ | refine Ext.trans ?_ (by with_reducible assumption)))⟩
        · have hn0 : nb = true := by rw [← HNB.out]; exact decide_eq_true fun h => hqk (HEK.out h.1 h.2)
          subst hn0
          have hbe := (Lib.bytes_beq_false_iff qk pk).2 hqk
          clear hqk
          go_quiet (fail)
          go_wp2_with fail
          go_meet
          exact ⟨rfl, by (repeat (with_reducible first | exact Ext.refl _ | assumption | refine Ext.drew ?_ | refine Ext.drewN ?_ _ | refine Ext.alloc ?_ _ | refine Ext.trans ?_ (by with_reducible assumption)))⟩
      case rest =>
      as_aux_lemma =>
      obtain ⟨rfl, hb4⟩ := hcut
      have e4 := e3.trans hb4
      have z0 := (hb4.cell (p := ad.add (i * 3)) (e3.lt hlt0)).trans y0
      have z1 := (hb4.cell (p := ⟨(ad.add (i * 3)).block, (ad.add (i * 3)).off + 1, none⟩) (e3.lt hlt0)).trans y1
      have z2 := (hb4.cell (p := ⟨(ad.add (i * 3)).block, (ad.add (i * 3)).off + 2, none⟩) (e3.lt hlt0)).trans y2
      have O4 := Lib.hid (own_ext O3.out hb4)
      clear y0 y1 y2 r0 O3
      cases nb with
      | false =>
        have hwn : wi (i + 1) = ml := by
          rw [HST.out, if_pos (Decidable.byContradiction fun h => by have := HNB.out; rw [decide_eq_true h] at this; cases this), List.append_nil]
        have HW := Lib.hid hwn
        clear hwn
        go_wp2_with fail
        go_roundw
        case rel => exact ⟨i + 1, bn, rfl, by go_num, by omega, e4, HBNX, by rw [HW.out]; exact O4.out⟩
        case measure => simp [intOf]; omega
      | true =>
        have hwn : wi (i + 1) = ml ++ [(⟨qk, qv, qg⟩ : Pr)] := by rw [HST.out, if_neg (of_decide_eq_true HNB.out)]
        have HW := Lib.hid hwn
        obtain ⟨mk, hmk⟩ : ∃ k, ml.length = k := ⟨_, rfl⟩
        have HMK := Lib.hid hmk
        have ow := O4.out
        rw [hmk] at ow hmln
        have hmk2 : mk ≤ 1000002 := by omega
        have e5 : Ext wc (wc.alloc (.cells #[.string qk, .string qv, .bool qg] 31)) := (Ext.refl _).alloc _
        have O5 := Lib.hid (own_ext ow e5)
        have e5w := e4.trans e5
        have hb3 : wb ≤ (wc.alloc (.cells #[.string qk, .string qv, .bool qg] 31)).heap.size := by rw [← hwb]; exact e5w.size
        clear hwn hmk ow
        go_wp2_with (at_builtin; go_loud (refine wpList_append_own _ rfl _ _ 32 rfl wb 31 i0 _ 3 40 Tryz.underlying32 hi0 hz0 hzs hzb rfl (by omega) u5 mk _ rfl O5.out ⟨wc.heap.size, 0, none⟩ 1 1 [.string qk, .string qv, .bool qg] (by rfl) rfl (news_new wc _ _ _ rfl) (by intro u hu; simp at hu; rcases hu with rfl | rfl | rfl <;> rfl) (by unfold maxLen; omega) (by omega) hb3 ?_); intro v7 w7 own7 hg7 hH7; clear hH7)
        have e7 := own_grown O5.out hg7 W1 hwb1 e5w
        have O7 : Hid (w7.ownsRow wb 31 3 v7 (wi (i + 1)).length ((wi (i + 1)).flatMap Pr.cells)) := by
          show World.ownsRow _ _ _ _ _ _ _
          rw [HW.out, List.length_append, HMK.out, List.flatMap_append]
          exact own7
        clear own7
        go_roundw
        case rel => exact ⟨i + 1, bn, rfl, by go_num, by omega, e7, HBNX, O7⟩
        case measure => simp [intOf]; omega
    · obtain rfl : i = n := by omega
      have he := HE.out
      rw [HX.out] at he
      by_cases hlt : lo < i
      · obtain rfl : bb = true := by rw [hbb.out]; exact decide_eq_true hlt
        rw [if_pos hlt, List.append_nil] at he
        have HEE := Lib.hid he
        have ow := hown.out
        rw [he] at ow
        have HOW := Lib.hid (own_lower ow hww)
        clear he ow hlt
        go_wp2_with fail
        go_ret
        exact ⟨⟨_, rfl, HOW.out⟩, e1.trans hbw⟩
      · obtain rfl : bb = false := by rw [hbb.out]; exact decide_eq_false hlt
        rw [if_neg hlt] at he
        obtain ⟨kk, hkk⟩ : ∃ k, (wi i).length = k := ⟨_, rfl⟩
        rw [hkk] at hwl
        have HKK := Lib.hid hkk
        have hk2 : kk ≤ 1000002 := by omega
        have HEE := Lib.hid he
        have ow := hown.out
        rw [hkk] at ow
        have e3 : Ext wr (wr.alloc (.cells #[.string pk, .string pv, .bool pg] 31)) := (Ext.refl _).alloc _
        have O3 := Lib.hid (own_ext ow e3)
        have e3w := hbw.trans e3
        have hb3 : wb ≤ (wr.alloc (.cells #[.string pk, .string pv, .bool pg] 31)).heap.size := by rw [← hwb]; exact e3w.size
        clear he hkk ow hlt
        go_wp2_with (at_builtin; go_loud (refine wpList_append_own _ rfl _ _ 32 rfl wb 31 i0 _ 3 40 Tryz.underlying32 hi0 hz0 hzs hzb rfl (by omega) u5 kk _ rfl O3.out ⟨wr.heap.size, 0, none⟩ 1 1 [.string pk, .string pv, .bool pg] (by rfl) rfl (news_new wr _ _ _ rfl) (by intro u hu; simp at hu; rcases hu with rfl | rfl | rfl <;> rfl) (by unfold maxLen; omega) (by omega) hb3 ?_); intro v7 w7 own7 hg7 hH7; clear hH7)
        have e7 := own_grown O3.out hg7 W1 hwb1 e3w
        have O7 : Hid (w7.ownsRow w.heap.size 31 3 v7 pl.length (pl.flatMap Pr.cells)) := by
          show World.ownsRow _ _ _ _ _ _ _
          rw [← HEE.out, List.length_append, HKK.out, List.flatMap_append]
          exact own_lower own7 hww
        clear own7
        go_ret
        exact ⟨⟨_, rfl, O7.out⟩, e1.trans e7⟩
end Go.Proofs.YtcgfdhgceokcnaaGreatDoor

/- the references' store: Put, Get. -/
namespace Go.Proofs.YtcgfdhgceokcnaaGreatDoor
open Go.RowKit
set_option linter.unusedVariables false
attribute [local go_sem ↓] Go.wp_at_zero Go.wp_at_succ

set_option maxRecDepth 100000 in
set_option maxHeartbeats 2000000 in
theorem RSPut_any (B : Nat) (v : Value) (es : List Pr) (p : Pr) (w : World) (hown : w.ownsRow B 31 3 v es.length (es.flatMap Pr.cells)) (hB : B ≤ w.heap.size) (ho : Asc es) (hn : es.length ≤ 1000000) :
    Calls Tryz.prog 72 #[v, p.val] w fun e w' => (∃ v', e = .returned (.tuple #[v', .int .i64 (putK es p)]) ∧ w'.ownsRow B 31 3 v' (storeL es p).length ((storeL es p).flatMap Pr.cells) ∧ (∀ g, v'.ownBlock = some g → v.ownBlock = some g ∨ w.heap.size ≤ g)) ∧ Ext w w' := by
  obtain ⟨n, hx⟩ : ∃ n, es.length = n := ⟨_, rfl⟩
  have ow := hown
  rw [hx] at ow hn
  obtain ⟨A, c, rfl, hc, hr, -⟩ := own_rd ow
  have HOWN := Lib.hid hown
  have HX := Lib.hid hx
  obtain ⟨pk, pv, pg⟩ := p
  have B1 := Bk.at_ w 31 #[.string pk, .string pv, .bool pg] w.heap.size rfl
  have e1 : Ext w (w.alloc (.cells #[.string pk, .string pv, .bool pg] 31)) := (Ext.refl _).alloc _
  have hr1 := hr.ext e1
  have HF := Lib.hid (RSFind_any A n c es pk _ hr1 hc ho)
  have HW := Lib.hid (RSWith_any A n c es ⟨pk, pv, pg⟩ _ hr1 hc ho hn)
  have y0 : (w.alloc (.cells #[.string pk, .string pv, .bool pg] 31)).cell? ⟨w.heap.size, 0, none⟩ = some (.string pk) := B1.cell 0
  have y1 : (w.alloc (.cells #[.string pk, .string pv, .bool pg] 31)).cell? ⟨w.heap.size, 1, none⟩ = some (.string pv) := B1.cell 1
  have y2 : (w.alloc (.cells #[.string pk, .string pv, .bool pg] 31)).cell? ⟨w.heap.size, 2, none⟩ = some (.bool pg) := B1.cell 2
  have hnc := hr.2.1
  clear hown ow hx B1 hr hr1 ho
  unfold maxLen at hc
  go_enter Tryz.func72, Tryz.ntmps72
  go_upto_region 1 with (fail)
  generalize w.alloc (.cells #[.string pk, .string pv, .bool pg] 31) = W1 at *
  go_wp2_with fail
  refine (RSKey_any pk W1).mono ?_
  obtain ⟨k, hk⟩ : ∃ k, keyK pk = k := ⟨_, rfl⟩
  rw [hk]
  rintro _ _ ⟨rfl, rfl⟩
  have hbad : ∀ j : Int, putK es ⟨pk, pv, pg⟩ = j → j ≠ 0 → W1.ownsRow B 31 3 (.slice A n c) (storeL es ⟨pk, pv, pg⟩).length ((storeL es ⟨pk, pv, pg⟩).flatMap Pr.cells) := fun j h1 h2 => by
    rw [store_bad (by rw [h1]; exact h2)]
    exact own_ext HOWN.out e1
  have HBAD := Lib.hid hbad
  clear hbad
  by_cases hk0 : k = 0
  · subst hk0
    have hp0 : putK es ⟨pk, pv, pg⟩ = if 200 < pv.size ∨ (hasB es pk = false ∧ 60 ≤ es.length) then 4 else 0 := by
      unfold putK
      rw [if_neg (not_not_intro hk)]
    rw [HX.out] at hp0
    have HP0 := Lib.hid hp0
    clear hp0 hk
    by_cases hv : 200 < pv.size
    · have hvi : (200 : Int) < (pv.size : Int) := by omega
      have hp4 : putK es ⟨pk, pv, pg⟩ = 4 := HP0.out.trans (if_pos (.inl hv))
      have HP4 := Lib.hid hp4
      clear hp4 hv
      go_wp2_with fail
      go_ret2
      exact ⟨⟨_, by rw [HP4.out]; rfl, HBAD.out 4 HP4.out (by decide), fun g hg => .inl hg⟩, e1⟩
    · have hvi : ¬ (200 : Int) < (pv.size : Int) := by omega
      cases hb : hasB es pk with
      | true =>
        have hp4 : putK es ⟨pk, pv, pg⟩ = 0 := HP0.out.trans (if_neg (by rintro (h | ⟨h, _⟩); exact hv h; rw [hb] at h; cases h))
        have HP4 := Lib.hid hp4
        have hrf : rfK es pk = (lowN es pk : Nat) := if_pos hb
        rw [hrf] at HF
        have hs : storeL es ⟨pk, pv, pg⟩ = putL es ⟨pk, pv, pg⟩ := if_pos hp4
        have HS := Lib.hid hs
        generalize lowN es pk = lo at *
        clear hp4 hv hrf hs hb
        go_wp2_with fail
        refine HF.out.mono ?_
        rintro _ _ ⟨rfl, rfl⟩
        go_wp2_with fail
        refine HW.out.mono ?_
        rintro _ w3 ⟨⟨v3, rfl, o3⟩, hb3⟩
        have HO3 := Lib.hid (own_lower o3 (Nat.le_trans hB e1.size))
        have HF3 : Hid (∀ g, v3.ownBlock = some g → w.heap.size ≤ g) := Lib.hid fun g hg => Nat.le_trans e1.size (own_block o3 g hg)
        clear o3
        go_wp2_with fail
        go_ret2
        exact ⟨⟨_, by rw [HP4.out]; rfl, by rw [HS.out]; exact HO3.out, fun g hg => .inr (HF3.out g hg)⟩, e1.trans hb3⟩
      | false =>
        have hrf : rfK es pk = -1 := if_neg (by rw [hb]; decide)
        rw [hrf] at HF
        by_cases h60 : 60 ≤ n
        · have hp4 : putK es ⟨pk, pv, pg⟩ = 4 := HP0.out.trans (if_pos (.inr ⟨hb, h60⟩))
          have HP4 := Lib.hid hp4
          have h60i : (60 : Int) ≤ (n : Int) := by omega
          clear hp4 hv hrf hb
          go_wp2_with fail
          refine HF.out.mono ?_
          rintro _ _ ⟨rfl, rfl⟩
          go_wp2_with fail
          go_ret2
          exact ⟨⟨_, by rw [HP4.out]; rfl, HBAD.out 4 HP4.out (by decide), fun g hg => .inl hg⟩, e1⟩
        · have hp4 : putK es ⟨pk, pv, pg⟩ = 0 := HP0.out.trans (if_neg (by rintro (h | ⟨_, h⟩); exact hv h; exact h60 h))
          have HP4 := Lib.hid hp4
          have hs : storeL es ⟨pk, pv, pg⟩ = putL es ⟨pk, pv, pg⟩ := if_pos hp4
          have HS := Lib.hid hs
          have h60i : ¬ (60 : Int) ≤ (n : Int) := by omega
          clear hp4 hv hrf hs hb
          go_wp2_with fail
          refine HF.out.mono ?_
          rintro _ _ ⟨rfl, rfl⟩
          go_wp2_with fail
          refine HW.out.mono ?_
          rintro _ w3 ⟨⟨v3, rfl, o3⟩, hb3⟩
          have HO3 := Lib.hid (own_lower o3 (Nat.le_trans hB e1.size))
          have HF3 : Hid (∀ g, v3.ownBlock = some g → w.heap.size ≤ g) := Lib.hid fun g hg => Nat.le_trans e1.size (own_block o3 g hg)
          clear o3
          go_wp2_with fail
          go_ret2
          exact ⟨⟨_, by rw [HP4.out]; rfl, by rw [HS.out]; exact HO3.out, fun g hg => .inr (HF3.out g hg)⟩, e1.trans hb3⟩
  · have hp4 : putK es ⟨pk, pv, pg⟩ = k := by
      unfold putK
      rw [if_pos (by rw [hk]; exact hk0), hk]
    have HP4 := Lib.hid hp4
    have HB4 := Lib.hid (HBAD.out k hp4 hk0)
    clear hp4 hk
    go_wp2_with fail
    go_ret2
    exact ⟨⟨_, by rw [HP4.out]; rfl, HB4.out, fun g hg => .inl hg⟩, e1⟩

end Go.Proofs.YtcgfdhgceokcnaaGreatDoor

/- the references' lists laid over one another. -/
namespace Go.Proofs.YtcgfdhgceokcnaaGreatDoor
open Go.RowKit Go.WideShapes
set_option linter.unusedVariables false
attribute [local go_sem ↓] Go.wp_at_zero Go.wp_at_succ

set_option maxRecDepth 100000 in
set_option maxHeartbeats 2000000 in
theorem RLive_any (A : Option Addr) (n c : Nat) (vs : List Value) (T : List (List Pr)) (w : World) (hr : Rd w 1 A n c vs) (hm : c ≤ maxLen) (hl : RdLs w vs T) (htot : totL T ≤ 1000) :
    Calls Tryz.prog 41 #[.slice A n c] w fun e w' => (∃ v', e = .returned v' ∧ w'.ownsRow w.heap.size 31 3 v' (liveL T).length ((liveL T).flatMap Pr.cells)) ∧ Ext w w' := by
  have hvl : vs.length = n := by have := hr.1; omega
  have hTl : T.length = n := hl.1.symm.trans hvl
  have HT := Lib.hid hTl
  have HV := Lib.hid hvl
  have HL := Lib.hid hl
  have HTOT := Lib.hid htot
  have hnc := hr.2.1
  have H0 : Hid (w.ownsRow w.heap.size 31 3 (.slice none 0 0) (outL T 0 0).length ((outL T 0 0).flatMap Pr.cells)) := own_nil _ _ _ _
  clear hl hvl hTl htot
  unfold maxLen at hm
  go_enter Tryz.func41, Tryz.ntmps41
  go_wp2_with fail
  go_loopw [3, 4, 5] (fun o x _ wr => ∃ i : Nat, x = .int .i64 i ∧ i ≤ n ∧ Ext w wr ∧ Hid (wr.ownsRow w.heap.size 31 3 o (outL T i 0).length ((outL T i 0).flatMap Pr.cells))) (fun _ x _ _ => n - (intOf x).toNat)
  case atStart => exact ⟨0, rfl, Nat.zero_le _, Ext.refl _, H0⟩
  case round =>
    obtain ⟨i, rfl, hi, hbw, hown⟩ := hrel
    by_cases hc : i < n
    · obtain ⟨ev, hev⟩ : ∃ v, vs[i]? = some v := ⟨_, List.getElem?_eq_getElem (by rw [HV.out]; exact hc)⟩
      obtain ⟨es, hes⟩ : ∃ es, T[i]? = some es := ⟨_, List.getElem?_eq_getElem (by rw [HT.out]; exact hc)⟩
      obtain ⟨ad, rfl, hb, c0⟩ := hr.at_ hev
      obtain ⟨A1, c1, rfl, hc1, hr1⟩ := HL.out.2 i _ es hev hes
      obtain ⟨m, hm1⟩ : ∃ m, es.length = m := ⟨_, rfl⟩
      have HES := Lib.hid hes
      have HM := Lib.hid hm1
      have hm3 : m ≤ 1000 := by
        have h1 := take_tot hes
        have h2 := HTOT.out
        omega
      have hmc := hr1.2.1
      rw [hm1] at c0 hr1 hmc
      have HR1 := Lib.hid hr1
      have hlt : (ad.add i).block < w.heap.size := by rw [blk_add]; exact hb
      have C0 := Lib.hid c0
      unfold maxLen at hc1
      clear hes hm1 hev hr1 c0
      go_wp2_with fail
      go_loopw [3, 5] (fun o x wr => ∃ j : Nat, x = .int .i64 j ∧ j ≤ m ∧ Ext w wr ∧ Hid (wr.ownsRow w.heap.size 31 3 o (outL T i j).length ((outL T i j).flatMap Pr.cells))) (fun _ x _ => m - (intOf x).toNat)
      case atStart => exact ⟨0, rfl, Nat.zero_le _, hbw, hown⟩
      case round =>
        obtain ⟨j, rfl, hj, hbw2, hown2⟩ := hrel
        have x0 := (hbw2.cell (p := ad.add i) hlt).trans C0.out
        by_cases hc2 : j < m
        · obtain ⟨p, hp⟩ : ∃ p, es[j]? = some p := ⟨_, List.getElem?_eq_getElem (by rw [HM.out]; exact hc2)⟩
          obtain ⟨ad1, rfl, hb1, y0, y1, y2⟩ := (HR1.out.ext hbw2).getP hp
          have hst := outL_step HES.out hp
          have hol := outL_len (T := T) (i := i) (j := j)
          have hasc := outL_asc T i j
          have htt := take_tot HES.out
          rw [HM.out] at htt
          have htt2 := HTOT.out
          generalize outL T i j = O at *
          obtain ⟨k, hk⟩ : ∃ k, O.length = k := ⟨_, rfl⟩
          rw [hk] at hol
          have hk1 : k ≤ 1000 := by omega
          have ow := hown2.out
          rw [hk] at ow
          obtain ⟨A2, c2, rfl, hc3, hr2, -⟩ := own_rd ow
          obtain ⟨pk, pv, pg⟩ := p
          simp only at y0 y1 y2
          have HST := Lib.hid hst
          have HK := Lib.hid hk
          have HOW := Lib.hid ow
          have HF := Lib.hid (RSFind_any A2 k c2 O pk wr hr2 hc3 hasc)
          have HW := Lib.hid (RSWith_any A2 k c2 O ⟨pk, pv, pg⟩ wr hr2 hc3 hasc (by omega))
          have hbs := hbw2.size
          cases hb9 : hasB O pk with
          | true =>
            have hrf : rfK O pk = (lowN O pk : Nat) := if_pos hb9
            rw [hrf] at HF
            have HN : Hid (wr.ownsRow w.heap.size 31 3 (.slice A2 k c2) (outL T i (j + 1)).length ((outL T i (j + 1)).flatMap Pr.cells)) := by
              show World.ownsRow _ _ _ _ _ _ _
              rw [HST.out, show addL O ⟨pk, pv, pg⟩ = O from if_pos hb9, HK.out]
              exact HOW.out
            generalize lowN O pk = lo at *
            clear hst hk hasc ow hown2 hr2 htt htt2 hol hp hrf hb9 HW
            go_wp2_with fail
            refine HF.out.mono ?_
            rintro _ _ ⟨rfl, rfl⟩
            go_wp2_with fail
            go_roundw
            case rel => exact ⟨j + 1, by go_num, by omega, hbw2, HN⟩
            case measure => simp [intOf]; omega
          | false =>
            have hrf : rfK O pk = -1 := if_neg (by rw [hb9]; decide)
            rw [hrf] at HF
            have hadd : outL T i (j + 1) = putL O ⟨pk, pv, pg⟩ := by rw [HST.out, addL_put hb9]
            have HADD := Lib.hid hadd
            clear hst hk hasc ow hown2 hr2 htt htt2 hol hp hrf hb9 hadd
            go_wp2_with fail
            refine HF.out.mono ?_
            rintro _ _ ⟨rfl, rfl⟩
            go_wp2_with fail
            refine HW.out.mono ?_
            rintro _ w6 ⟨⟨v6, rfl, o6⟩, hb6⟩
            have HN : Hid (w6.ownsRow w.heap.size 31 3 v6 (outL T i (j + 1)).length ((outL T i (j + 1)).flatMap Pr.cells)) := by
              show World.ownsRow _ _ _ _ _ _ _
              rw [HADD.out]
              exact own_lower o6 hbs
            have e6 := hbw2.trans hb6
            clear o6
            go_wp2_with fail
            go_roundw
            case rel => exact ⟨j + 1, by go_num, by omega, e6, HN⟩
            case measure => simp [intOf]; omega
        · obtain rfl : j = m := by omega
          have HN := Lib.hid hown2.out
          rw [← HM.out, outL_end HES.out] at HN
          clear hown2 hc2
          go_wp2_with fail
          go_roundw
          case rel => exact ⟨i + 1, by go_num, by omega, hbw2, HN⟩
          case measure => simp [intOf]; omega
    · obtain rfl : i = n := by omega
      have hOl := outL_all (T := T)
      have hol := outL_len (T := T) (i := T.length) (j := 0)
      rw [HT.out] at hOl hol
      have h3 : (T.take i).flatten.length ≤ totL T := by
        rw [List.take_of_length_le (by rw [HT.out]; exact Nat.le_refl _), List.length_flatten]; exact Nat.le_refl _
      have h4 := HTOT.out
      have HOL := Lib.hid hOl
      generalize outL T i 0 = O at *
      obtain ⟨k, hk⟩ : ∃ k, O.length = k := ⟨_, rfl⟩
      rw [hk] at hol hown
      have hk1 : k ≤ 1000 := by omega
      have HK := Lib.hid hk
      obtain ⟨A2, c2, rfl, hc3, hr2, -⟩ := own_rd hown.out
      have HR2 := Lib.hid hr2
      have hkc := hr2.2.1
      have H0 : Hid (wr.ownsRow w.heap.size 31 3 (.slice none 0 0) (ngL (O.take 0)).length ((ngL (O.take 0)).flatMap Pr.cells)) := own_nil _ _ _ _
      obtain ⟨wq, hwq⟩ : ∃ wq, wq = wr := ⟨_, rfl⟩
      rw [← hwq] at HR2
      have ewq : Ext w wq := by rw [hwq]; exact hbw
      have eqr : Ext wq wr := by rw [hwq]; exact Ext.refl _
      obtain ⟨base, hbase⟩ : ∃ b, wq.heap.size = b := ⟨_, rfl⟩
      have H1 : Hid (wr.ownsRow base 31 3 (.slice none 0 0) (ngL (O.take 0)).length ((ngL (O.take 0)).flatMap Pr.cells)) := own_nil _ _ _ _
      unfold maxLen at hc3
      clear hown hOl hol h3 h4 hk hr2 H0 hwq
      go_wp2_with fail
      go_loopw [6, 7] (fun o y wr => ∃ j : Nat, y = .int .i64 j ∧ j ≤ k ∧ Ext wq wr ∧ Hid (wr.ownsRow base 31 3 o (ngL (O.take j)).length ((ngL (O.take j)).flatMap Pr.cells))) (fun _ y _ => k - (intOf y).toNat)
      case atStart => exact ⟨0, rfl, Nat.zero_le _, eqr, H1⟩
      case round =>
        obtain ⟨j, rfl, hj, hbw3, hown⟩ := hrel
        by_cases hcj : j < k
        · obtain ⟨q, hq⟩ : ∃ q, O[j]? = some q := ⟨_, List.getElem?_eq_getElem (by rw [HK.out]; exact hcj)⟩
          obtain ⟨ad, rfl, hbl, y0, y1, y2⟩ := (HR2.out.ext hbw3).getP hq
          have hnx : ngL (O.take (j + 1)) = ngL (O.take j) ++ if q.gone = true then [] else [q] := by rw [take_step hq, ngL_snoc]
          obtain ⟨pk, pv, pg⟩ := q
          simp only at y0 y1 y2
          have HNX := Lib.hid hnx
          clear hnx hq
          cases pg with
          | true =>
            have O7 : Hid (wr.ownsRow base 31 3 u6 (ngL (O.take (j + 1))).length ((ngL (O.take (j + 1))).flatMap Pr.cells)) := by
              show World.ownsRow _ _ _ _ _ _ _
              rw [HNX.out, if_pos rfl, List.append_nil]
              exact hown.out
            go_wp2_with fail
            go_roundw
            case rel => exact ⟨j + 1, by go_num, by omega, hbw3, O7⟩
            case measure => simp [intOf]; omega
          | false =>
            obtain ⟨kk, hkk⟩ : ∃ k, (ngL (O.take j)).length = k := ⟨_, rfl⟩
            have hk60 : kk ≤ 1000 := by
              have h1 := ngL_len (O.take j)
              have h2 : (O.take j).length ≤ j := by rw [List.length_take]; omega
              omega
            have ow := hown.out
            rw [hkk] at ow
            have HKK := Lib.hid hkk
            have e3 : Ext wr (wr.alloc (.cells #[.string pk, .string pv, .bool false] 31)) := (Ext.refl _).alloc _
            have O3 := Lib.hid (own_ext ow e3)
            have e3w := hbw3.trans e3
            have hb3 : base ≤ (wr.alloc (.cells #[.string pk, .string pv, .bool false] 31)).heap.size := by rw [← hbase]; exact e3w.size
            obtain ⟨i0, hi0, hz0, hzs, hzb⟩ := info_parts info_pair
            clear ow hkk
            go_wp2_with (at_builtin; go_loud (refine wpList_append_own _ rfl _ _ 32 rfl base 31 i0 _ 3 40 Tryz.underlying32 hi0 hz0 hzs hzb rfl (by omega) u6 kk _ rfl O3.out ⟨wr.heap.size, 0, none⟩ 1 1 [.string pk, .string pv, .bool false] (by rfl) rfl (news_new wr _ _ _ rfl) (by intro u hu; simp at hu; rcases hu with rfl | rfl | rfl <;> rfl) (by unfold maxLen; omega) (by omega) hb3 ?_); intro v7 w7 own7 hg7 hH7; clear hH7; have E7 := own_grown O3.out hg7 wq (Nat.le_of_eq hbase) e3w)
            have O7 : Hid (w7.ownsRow base 31 3 v7 (ngL (O.take (j + 1))).length ((ngL (O.take (j + 1))).flatMap Pr.cells)) := by
              show World.ownsRow _ _ _ _ _ _ _
              rw [HNX.out, if_neg (fun h => Bool.noConfusion h), List.length_append, HKK.out, List.flatMap_append]
              exact own7
            clear own7
            go_roundw
            case rel => exact ⟨j + 1, by go_num, by omega, E7, O7⟩
            case measure => simp [intOf]; omega
        · obtain rfl : j = k := by omega
          have ow := hown.out
          rw [List.take_of_length_le (by rw [HK.out]; exact Nat.le_refl _), HOL.out] at ow
          have HO := Lib.hid (own_lower ow (by rw [← hbase]; exact ewq.size))
          clear ow hown
          go_wp2_with fail
          go_ret
          exact ⟨⟨_, rfl, HO.out⟩, ewq.trans hbw3⟩
end Go.Proofs.YtcgfdhgceokcnaaGreatDoor
