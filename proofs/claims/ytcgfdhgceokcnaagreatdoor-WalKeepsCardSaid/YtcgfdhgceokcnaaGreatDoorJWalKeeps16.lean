/- witsame.Pairs, whatever the pairs. -/
import Derived.Test.YtcgfdhgceokcnaaGreatDoorJWalKeeps15
import Derived.Test.YtcgfdhgceokcnaaGreatDoorJWalKeeps11
import Derived.Test.YtcgfdhgceokcnaaGreatDoorJWalKeeps12
import Derived.Test.YtcgfdhgceokcnaaGreatDoorJWalKeeps14
import Derived.Deep.RegionLaw
namespace Go.Proofs.YtcgfdhgceokcnaaGreatDoor
open Go.RowKit
set_option linter.unusedVariables false
attribute [local go_sem ↓] Go.wp_at_zero Go.wp_at_succ

theorem pr_ext {a b : Pr} (h1 : a.key = b.key) (h2 : a.value = b.value) (h3 : a.gone = b.gone) : a = b := by
  obtain ⟨_, _, _⟩ := a
  obtain ⟨_, _, _⟩ := b
  simp only at h1 h2 h3
  subst h1 h2 h3
  rfl
set_option maxRecDepth 100000 in
set_option maxHeartbeats 1000000 in
theorem Pairs_not (A A' : Option Addr) (n n' c c' : Nat) (es es' : List Pr) (w : World) (hr : Rd w 3 A n c (es.flatMap Pr.cells)) (hr' : Rd w 3 A' n' c' (es'.flatMap Pr.cells)) (hm : n ≤ 9223372036854775807) (hm' : n' ≤ 9223372036854775807) (hne : es ≠ es') :
    Calls Tryz.prog 17 #[.slice A n c, .slice A' n' c'] w fun e w' => e = .returned (.bool false) ∧ Ext w w' := by
  have HX := Lib.hid hr.lenP
  have HX' := Lib.hid hr'.lenP
  have hl := hr.2.1
  have hl' := hr'.2.1
  have HNE := Lib.hid hne
  clear hne
  by_cases hnn : n = n'
  · subst hnn
    have H0 : Hid (es.take 0 = es'.take 0) := rfl
    go_enter Tryz.func17, Tryz.ntmps17
    go_wp2_with fail
    go_loopw [5] (fun x wr => ∃ j : Nat, x = .int .i64 j ∧ j ≤ n ∧ Ext w wr ∧ Hid (es.take j = es'.take j)) (fun x _ => n - (intOf x).toNat)
    case atStart => exact ⟨0, rfl, Nat.zero_le _, by (repeat (with_reducible first | exact Ext.refl _ | assumption | refine Ext.drew ?_ | refine Ext.drewN ?_ _ | refine Ext.alloc ?_ _ | refine Ext.trans ?_ (by with_reducible assumption))), H0⟩
    case round =>
      obtain ⟨j, rfl, hj, hbw, htk⟩ := hrel
      by_cases hc : j < n
      · have hgj := List.getElem?_eq_getElem (l := es) (i := j) (by rw [HX.out]; exact hc)
        have hgj' := List.getElem?_eq_getElem (l := es') (i := j) (by rw [HX'.out]; exact hc)
        obtain ⟨ad, rfl, hb, c0, c1, c2⟩ := (hr.ext hbw).getP hgj
        obtain ⟨ad', rfl, hb', c0', c1', c2'⟩ := (hr'.ext hbw).getP hgj'
        have hstep : es[j]'(by rw [HX.out]; exact hc) = es'[j]'(by rw [HX'.out]; exact hc) → es.take (j + 1) = es'.take (j + 1) := fun h => by
          rw [List.take_succ_eq_append_getElem (by rw [HX.out]; exact hc), List.take_succ_eq_append_getElem (by rw [HX'.out]; exact hc), htk.out, h]
        generalize es[j]'(by rw [HX.out]; exact hc) = e at *
        generalize es'[j]'(by rw [HX'.out]; exact hc) = e' at *
        obtain ⟨ek, ev, eg⟩ := e
        obtain ⟨fk, fv, fg⟩ := e'
        simp only at c0 c1 c2 c0' c1' c2'
        have HST := Lib.hid hstep
        have hcN : (j : Int) < (n : Int) := by omega
        clear hgj hgj' hstep
        by_cases h1 : ek = fk
        · subst h1
          by_cases h2 : ev = fv
          · subst h2
            by_cases h3 : eg = fg
            · subst h3
              have HT := Lib.hid (HST.out rfl)
              go_wp2_with fail
              go_quiet (fail)
              go_wp2_with fail
              go_roundw
              case rel => exact ⟨j + 1, by go_num, by omega, by (repeat (with_reducible first | exact Ext.refl _ | assumption | refine Ext.drew ?_ | refine Ext.drewN ?_ _ | refine Ext.alloc ?_ _ | refine Ext.trans ?_ (by with_reducible assumption))), HT⟩
              case measure => simp [intOf]; omega
            · have b3 : (eg == fg) = false := beq_eq_false_iff_ne.2 h3
              clear h3
              go_wp2_with fail
              go_quiet (fail)
              go_wp2_with fail
              go_ret
              exact ⟨rfl, by (repeat (with_reducible first | exact Ext.refl _ | assumption | refine Ext.drew ?_ | refine Ext.drewN ?_ _ | refine Ext.alloc ?_ _ | refine Ext.trans ?_ (by with_reducible assumption)))⟩
          · have b2 := (Lib.bytes_beq_false_iff ev fv).2 h2
            clear h2
            go_wp2_with fail
            go_quiet (fail)
            go_wp2_with fail
            go_ret
            exact ⟨rfl, by (repeat (with_reducible first | exact Ext.refl _ | assumption | refine Ext.drew ?_ | refine Ext.drewN ?_ _ | refine Ext.alloc ?_ _ | refine Ext.trans ?_ (by with_reducible assumption)))⟩
        · have b1 := (Lib.bytes_beq_false_iff ek fk).2 h1
          clear h1
          go_wp2_with fail
          go_quiet (fail)
          go_wp2_with fail
          go_ret
          exact ⟨rfl, by (repeat (with_reducible first | exact Ext.refl _ | assumption | refine Ext.drew ?_ | refine Ext.drewN ?_ _ | refine Ext.alloc ?_ _ | refine Ext.trans ?_ (by with_reducible assumption)))⟩
      · exfalso
        obtain rfl : j = n := by omega
        refine HNE.out ?_
        have h := htk.out
        rw [List.take_of_length_le (by rw [HX.out]; exact Nat.le_refl _), List.take_of_length_le (by rw [HX'.out]; exact Nat.le_refl _)] at h
        exact h
  · have hnb : ((n : Int) == (n' : Int)) = false := beq_eq_false_iff_ne.2 (fun h => hnn (by omega))
    clear hnn
    go_enter Tryz.func17, Tryz.ntmps17
    go_wp2_with fail
    go_ret
    exact ⟨rfl, by (repeat (with_reducible first | exact Ext.refl _ | assumption | refine Ext.drew ?_ | refine Ext.drewN ?_ _ | refine Ext.alloc ?_ _ | refine Ext.trans ?_ (by with_reducible assumption)))⟩
end Go.Proofs.YtcgfdhgceokcnaaGreatDoor

/- wal: next. -/
namespace Go.Proofs.YtcgfdhgceokcnaaGreatDoor
open Go.RowKit Go.WideShapes
set_option linter.unusedVariables false
attribute [local go_sem ↓] Go.wp_at_zero Go.wp_at_succ

/-! ### plain: how far a text is read -/
def ReadI (X : Nat) (x0 x : List UInt8) (out : List Pr) (f : Nat) : Prop := readL X x0 = (readL f x).map (out ++ ·) ∧ x.length < f ∧ out.length + x.length ≤ x0.length
theorem ReadI.start (x0 : List UInt8) : ReadI (x0.length + 1) x0 x0 [] (x0.length + 1) := ⟨by cases readL (x0.length + 1) x0 <;> rfl, Nat.lt_succ_self _, by simp⟩
theorem ReadI.done {X : Nat} {x0 : List UInt8} {out : List Pr} {f : Nat} (h : ReadI X x0 [] out f) : readL X x0 = some out := by
  obtain ⟨h1, h2, h3⟩ := h
  cases f with
  | zero => simp at h2
  | succ f =>
    rw [h1]
    show (some [] : Option (List Pr)).map _ = _
    simp
theorem ReadI.bad1 {X : Nat} {x0 x : List UInt8} {out : List Pr} {f : Nat} (h : ReadI X x0 x out f) (hx : x ≠ []) (hc : cutL x = none) : readL X x0 = none := by
  obtain ⟨h1, h2, h3⟩ := h
  cases f with
  | zero => simp at h2
  | succ f => rw [h1, readL, if_neg hx, hc]; rfl
theorem ReadI.bad2 {X : Nat} {x0 x key more : List UInt8} {out : List Pr} {f : Nat} (h : ReadI X x0 x out f) (hx : x ≠ []) (hc : cutL x = some (key, more)) (hc2 : cutL more = none) : readL X x0 = none := by
  obtain ⟨h1, h2, h3⟩ := h
  cases f with
  | zero => simp at h2
  | succ f =>
    rw [h1, readL, if_neg hx, hc]
    show Option.map _ (match cutL more with | none => none | some (value, left) => _) = _
    rw [hc2]; rfl
theorem ReadI.bad3 {X : Nat} {x0 x more value left : List UInt8} {out : List Pr} {f : Nat} (h : ReadI X x0 x out f) (hx : x ≠ []) (hc : cutL x = some ([], more)) (hc2 : cutL more = some (value, left)) : readL X x0 = none := by
  obtain ⟨h1, h2, h3⟩ := h
  cases f with
  | zero => simp at h2
  | succ f =>
    rw [h1, readL, if_neg hx, hc]
    show Option.map _ (match cutL more with | none => none | some (value, left) => _) = _
    rw [hc2]; rfl
theorem ReadI.next {X : Nat} {x0 x k more value left : List UInt8} {c : UInt8} {out : List Pr} {f : Nat} (h : ReadI X x0 x out f) (hx : x ≠ []) (hc : cutL x = some (c :: k, more)) (hc2 : cutL more = some (value, left)) :
    ∃ f', ReadI X x0 left (out ++ [⟨⟨k.toArray⟩, ⟨value.toArray⟩, decide (c = 45)⟩]) f' ∧ left.length < x.length := by
  obtain ⟨h1, h2, h3⟩ := h
  have l1 := cutL_len hc
  have l2 := cutL_len hc2
  rw [List.length_cons] at l1
  cases f with
  | zero => simp at h2
  | succ f =>
    refine ⟨f, ⟨?_, by omega, by rw [List.length_append, List.length_singleton]; omega⟩, by omega⟩
    rw [h1, readL, if_neg hx, hc]
    show Option.map _ (match cutL more with | none => none | some (value, left) => _) = _
    rw [hc2]
    show ((readL f left).map _).map _ = _
    rw [Option.map_map]
    congr 1
    funext l
    simp

/-- what next tells -/
def NextR (s : ByteArray) (e : Ending) (w' : World) : Prop :=
  (∃ (b : List Pr) (r : ByteArray) (A : Option Addr) (c : Nat), nextL s.data.toList = some (b, r.data.toList) ∧ e = .returned (.tuple #[.slice A b.length c, .string r, .bool true]) ∧ c ≤ maxLen ∧ Rd w' 3 A b.length c (b.flatMap Pr.cells)) ∨
  (nextL s.data.toList = none ∧ e = .returned (.tuple #[.slice none 0 0, .string s, .bool false]))
def strSz : Value → Nat | .string s => s.size | _ => 0
theorem list_of (l : List UInt8) : (⟨l.toArray⟩ : ByteArray).data.toList = l := by simp
theorem next_of {s : ByteArray} {x rest : List UInt8} (h : cutL s.data.toList = some (x, rest)) : nextL s.data.toList = (readL (x.length + 1) x).map fun l => (l, rest) := by unfold nextL; rw [h]

set_option maxRecDepth 100000 in
set_option maxHeartbeats 4000000 in
theorem WNext_any (s : ByteArray) (w : World) (hs : s.size ≤ 100000000) (hG : StrG w) (hM : MaxG w) :
    Calls Tryz.prog 34 #[.string s] w fun e w' => NextR s e w' ∧ Ext w w' := by
  have HC := Lib.hid (WCut_any s w hs hG hM)
  have HCC := Lib.hid fun W (e : Ext w W) (t : ByteArray) (ht : t.size ≤ 100000000) => WCut_any t W ht (hG.ext e) (hM.ext e)
  clear hG hM
  cases hc : cutL s.data.toList
  case none =>
    rw [cutV_none hc] at HC
    have hn : nextL s.data.toList = none := by unfold nextL; rw [hc]
    have HN := Lib.hid hn
    clear hn hc HCC
    go_enter Tryz.func34, Tryz.ntmps34
    go_wp2_with fail
    refine HC.out.mono ?_
    rintro _ w1 ⟨rfl, hb1⟩
    go_wp2_with fail
    go_ret3
    exact ⟨.inr ⟨HN.out, rfl⟩, hb1⟩
  case some z =>
    obtain ⟨x0, rest0⟩ := z
    rw [cutV_some hc] at HC
    have hl0 := cutL_len hc
    have hsl : s.data.toList.length = s.size := rfl
    have hnx := next_of hc
    obtain ⟨rest, hrest⟩ : ∃ r : ByteArray, (⟨rest0.toArray⟩ : ByteArray) = r := ⟨_, rfl⟩
    obtain ⟨x, hx⟩ : ∃ r : ByteArray, (⟨x0.toArray⟩ : ByteArray) = r := ⟨_, rfl⟩
    have hrl : rest.data.toList = rest0 := by rw [← hrest]
    have hxl : x.data.toList = x0 := by rw [← hx]
    rw [hrest, hx] at HC
    rw [← hrl] at hnx
    have hxs : x.size ≤ 100000000 := by
      have : x.data.toList.length = x.size := rfl
      rw [hxl] at this
      omega
    have HNX := Lib.hid hnx
    have HX0 := Lib.hid hxl
    have HI0 : Hid (ReadI (x0.length + 1) x0 x.data.toList [] (x0.length + 1)) := Lib.hid (by rw [hxl]; exact ReadI.start x0)
    have hx0l : x0.length = x.size := by rw [← hxl]; rfl
    have HX0L := Lib.hid hx0l
    clear hc hl0 hsl hnx hrest hx hrl hxl hx0l
    obtain ⟨i0, hi0, hz0, hzs, hzb⟩ := info_parts info_pair
    go_enter Tryz.func34, Tryz.ntmps34
    go_wp2_with fail
    refine HC.out.mono ?_
    rintro _ w1 ⟨rfl, hb1⟩
    have H0 : Hid (w1.ownsRow w.heap.size 31 3 (.slice none 0 0) ([] : List Pr).length (([] : List Pr).flatMap Pr.cells)) := Lib.hid (own_nil _ _ _ _)
    go_wp2_with fail
    go_loopw [5, 8, 9, 10, 11, 12, 13, 14] (fun xv ov _ _ _ _ _ _ wr => ∃ (y : ByteArray) (out : List Pr) (f : Nat), xv = .string y ∧ y.size ≤ 100000000 ∧ Ext w wr ∧ Hid (wr.ownsRow w.heap.size 31 3 ov out.length (out.flatMap Pr.cells)) ∧ Hid (ReadI (x0.length + 1) x0 y.data.toList out f)) (fun xv _ _ _ _ _ _ _ _ => strSz xv)
    case atStart => exact ⟨x, [], x0.length + 1, rfl, hxs, hb1, H0, HI0⟩
    case round =>
      obtain ⟨y, out, f, rfl, hy, hbw, hrow, hinv⟩ := hrel
      by_cases hyz : y = ⟨#[]⟩
      · subst hyz
        have hrd := hinv.out.done
        have hne := HNX.out
        rw [hrd] at hne
        have HNE : Hid (nextL s.data.toList = some (out, rest.data.toList)) := Lib.hid hne
        obtain ⟨A, c, rfl, hc, hr, -⟩ := own_rd hrow.out
        have HR := Lib.hid hr
        have HCm := Lib.hid hc
        clear hrd hne hr hc hinv hrow
        go_wp2_with fail
        go_ret3
        exact ⟨.inl ⟨out, rest, A, c, HNE.out, rfl, HCm.out, HR.out⟩, hbw⟩
      · obtain ⟨q1, q1'⟩ := str_someP (s := y) (Nat.pos_of_ne_zero fun h => hyz (str_noneP h))
        have hyl : y.data.toList ≠ [] := fun h => hyz (ba_ext (by rw [h]))
        have HY := Lib.hid hyl
        have HC1 := Lib.hid (HCC.out wr hbw y hy)
        clear hyz hyl
        cases hc1 : cutL y.data.toList
        case none =>
          rw [cutV_none hc1] at HC1
          have HN : Hid (nextL s.data.toList = none) := Lib.hid (by rw [HNX.out, hinv.out.bad1 HY.out hc1]; rfl)
          have HC2 := Lib.hid fun W (e : Ext w W) => HCC.out W e y hy
          rw [cutV_none hc1] at HC2
          clear hc1 hrow hinv
          go_wp2_with fail
          refine HC1.out.mono ?_
          rintro _ w2 ⟨rfl, hb2⟩
          have e2 := hbw.trans hb2
          go_wp2_with fail
          refine (HC2.out _ e2).mono ?_
          rintro _ w3 ⟨rfl, hb3⟩
          have e3 := e2.trans hb3
          go_wp2_with fail
          go_ret3
          exact ⟨.inr ⟨HN.out, rfl⟩, e3⟩
        case some z =>
          obtain ⟨key, more⟩ := z
          rw [cutV_some hc1] at HC1
          have l1 := cutL_len hc1
          have hyl : y.data.toList.length = y.size := rfl
          obtain ⟨K, hK⟩ : ∃ r : ByteArray, (⟨key.toArray⟩ : ByteArray) = r := ⟨_, rfl⟩
          obtain ⟨M, hM⟩ : ∃ r : ByteArray, (⟨more.toArray⟩ : ByteArray) = r := ⟨_, rfl⟩
          have hKl : K.data.toList = key := by rw [← hK]
          have hMl : M.data.toList = more := by rw [← hM]
          have hMs : M.size = more.length := by rw [← hMl]; rfl
          have hKs : K.size = key.length := by rw [← hKl]; rfl
          rw [hK, hM] at HC1
          have HC2 := Lib.hid fun W (e : Ext w W) => HCC.out W e M (by omega)
          cases hc2 : cutL more
          case none =>
            rw [cutV_none (by rw [hMl]; exact hc2)] at HC2
            have HN : Hid (nextL s.data.toList = none) := Lib.hid (by rw [HNX.out, hinv.out.bad2 HY.out hc1 hc2]; rfl)
            clear hc1 hc2 hrow hinv l1 hK hM hKl hMl hMs hKs hyl
            go_wp2_with fail
            refine HC1.out.mono ?_
            rintro _ w2 ⟨rfl, hb2⟩
            have e2 := hbw.trans hb2
            go_wp2_with fail
            refine (HC2.out _ e2).mono ?_
            rintro _ w3 ⟨rfl, hb3⟩
            have e3 := e2.trans hb3
            go_wp2_with fail
            go_ret3
            exact ⟨.inr ⟨HN.out, rfl⟩, e3⟩
          case some z =>
            obtain ⟨value, left⟩ := z
            rw [cutV_some (by rw [hMl]; exact hc2)] at HC2
            cases key with
            | nil =>
              have HN : Hid (nextL s.data.toList = none) := Lib.hid (by rw [HNX.out, hinv.out.bad3 HY.out hc1 hc2]; rfl)
              have hKz : K = ⟨#[]⟩ := ba_ext (by rw [hKl])
              subst hKz
              clear hc1 hc2 hrow hinv l1 hK hM hKl hMl hMs hKs hyl
              go_wp2_with fail
              refine HC1.out.mono ?_
              rintro _ w2 ⟨rfl, hb2⟩
              have e2 := hbw.trans hb2
              go_wp2_with fail
              refine (HC2.out _ e2).mono ?_
              rintro _ w3 ⟨rfl, hb3⟩
              have e3 := e2.trans hb3
              go_wp2_with fail
              go_ret3
              exact ⟨.inr ⟨HN.out, rfl⟩, e3⟩
            | cons cb k =>
              obtain ⟨f', hI, hlt⟩ := hinv.out.next HY.out hc1 hc2
              obtain ⟨V, hV⟩ : ∃ r : ByteArray, (⟨value.toArray⟩ : ByteArray) = r := ⟨_, rfl⟩
              obtain ⟨L, hL⟩ : ∃ r : ByteArray, (⟨left.toArray⟩ : ByteArray) = r := ⟨_, rfl⟩
              have hLl : L.data.toList = left := by rw [← hL]
              have hLs : L.size = left.length := by rw [← hLl]; rfl
              rw [hV, hL] at HC2
              have hKE : K.extract 1 K.size = ⟨k.toArray⟩ := by rw [cut_ex, hKl]; simp [hKs]
              obtain ⟨kk, hkk⟩ : ∃ r : ByteArray, K.extract 1 K.size = r := ⟨_, rfl⟩
              rw [hkk] at hKE
              rw [← hKE, hV, ← hLl] at hI
              have hk0 : 0 < K.size := by rw [hKs]; simp
              have g0 : K[0]'hk0 = cb := by
                show K.data[0] = cb
                have h1 : K.data.toList[0]? = some cb := by rw [hKl]; rfl
                rw [Array.getElem?_toList] at h1
                rw [Array.getElem?_eq_getElem (by exact hk0)] at h1
                injection h1
              have hKne : ¬ K = ⟨#[]⟩ := fun h => by rw [h] at hk0; exact absurd hk0 (by decide)
              obtain ⟨q2, q2'⟩ := str_someP hk0
              obtain ⟨gb, hgb⟩ : ∃ x, ((cb.toNat : Int) == 45) = x := ⟨_, rfl⟩
              have hgd : decide (cb = 45) = gb := by
                rw [← hgb]
                by_cases h1 : cb = 45
                · subst h1; rfl
                · rw [decide_eq_false h1]
                  refine (beq_eq_false_iff_ne.2 (fun h => h1 ?_)).symm
                  have h2 : cb.toNat = 45 := by omega
                  exact UInt8.toNat_inj.1 (by rw [h2]; rfl)
              rw [hgd] at hI
              have hi1 : (1 : Int) ≤ (K.size : Int) := by omega
              have hii0 : (0 : Int) < (K.size : Int) := by omega
              obtain ⟨m, hm⟩ : ∃ m, out.length = m := ⟨_, rfl⟩
              have ow := hrow.out
              rw [hm] at ow
              have hmb : m ≤ 100000000 := by
                have h1 := hinv.out.2.2
                have h2 := HX0L.out
                omega
              have HI := Lib.hid hI
              have HM := Lib.hid hm
              have HOW := Lib.hid ow
              have hLy : L.size < y.size := by omega
              have hnl : ((out ++ [(⟨kk, V, gb⟩ : Pr)]).flatMap Pr.cells) = out.flatMap Pr.cells ++ [.string kk, .string V, .bool gb] := by
                rw [List.flatMap_append]; rfl
              have HNL := Lib.hid hnl
              have hLm : L.size ≤ 100000000 := by omega
              clear hc1 hc2 hrow hinv l1 hK hM hKl hMl hMs hKs hyl hI hm ow hnl hlt hV hL hLl hLs hKE hKne hgd
              go_wp2_with fail
              refine HC1.out.mono ?_
              rintro _ w2 ⟨rfl, hb2⟩
              have e2 := hbw.trans hb2
              go_wp2_with fail
              refine (HC2.out _ e2).mono ?_
              rintro _ w3 ⟨rfl, hb3⟩
              have e3 := e2.trans hb3
              have HOW3 := Lib.hid (own_ext (own_ext HOW.out hb2) hb3)
              have hw5 : w.heap.size ≤ (w3.alloc (.cells #[.string kk, .string V, .bool gb] 31)).heap.size := Nat.le_trans e3.size ((Ext.refl w3).alloc (.cells #[.string kk, .string V, .bool gb] 31)).size
              clear HC HCC HC1 HC2 HOW
              go_upto_region 10 with (fail)
              go_region_law (refine step_appsL (by rfl) _ _ _ (by rfl) w.heap.size 31 i0 _ 3 40 Tryz.underlying32 hi0 hz0 hzs hzb rfl (by omega) u8 m _ (by rfl) (own_ext HOW3.out (by (repeat (with_reducible first | exact Ext.refl _ | assumption | refine Ext.drew ?_ | refine Ext.drewN ?_ _ | refine Ext.alloc ?_ _ | refine Ext.trans ?_ (by with_reducible assumption))))) ⟨w3.heap.size, 0, none⟩ 1 1 [.string kk, .string V, .bool gb] (by rfl) rfl (news_new w3 _ _ _ rfl) (by intro u hu; simp at hu; rcases hu with rfl | rfl | rfl <;> rfl) (by omega) (by omega) (by omega) hw5 ?_; intro g5 cap5 w5 own5 hg5 hH5 hlt5)
              all_goals
                have e5 := own_grown (own_ext HOW3.out (by (repeat (with_reducible first | exact Ext.refl _ | assumption | refine Ext.drew ?_ | refine Ext.drewN ?_ _ | refine Ext.alloc ?_ _ | refine Ext.trans ?_ (by with_reducible assumption))))) hg5 w (Nat.le_refl _) (by (repeat (with_reducible first | exact Ext.refl _ | assumption | refine Ext.drew ?_ | refine Ext.drewN ?_ _ | refine Ext.alloc ?_ _ | refine Ext.trans ?_ (by with_reducible assumption))))
                have O5 : Hid (w5.ownsRow w.heap.size 31 3 (.slice (some ⟨g5, 0, none⟩) (m + 1) cap5) (out ++ [(⟨kk, V, gb⟩ : Pr)]).length ((out ++ [(⟨kk, V, gb⟩ : Pr)]).flatMap Pr.cells)) := by
                  show World.ownsRow _ _ _ _ _ _ _
                  rw [HNL.out, List.length_append, HM.out]
                  exact own5
                clear own5 hg5
                simp only [List.getElem_toArray, List.getElem_cons_succ, List.getElem_cons_zero, Act.put, List.setIfInBounds_toArray, List.set_cons_succ, List.set_cons_zero]
                go_wp2_with fail
                go_roundw
                case rel => exact ⟨L, _, f', rfl, hLm, e5, O5, HI⟩
                case measure => exact hLy
end Go.Proofs.YtcgfdhgceokcnaaGreatDoor

/- what was put last: plain. -/
namespace Go.Proofs.YtcgfdhgceokcnaaGreatDoor
open Go.RowKit
set_option linter.unusedVariables false

theorem Chg.keep {w0 w1 w2 : World} {B sb : Nat} {v : Value} {es : List Pr} (e : Ext w0 w1) (h : StAt w1 B sb v es) (hB : w0.heap.size ≤ B) (k : Chg w1 w2 (fun k => k = sb ∨ v.ownBlock = some k)) : Ext w0 w2 := by
  refine ((e.chg (fun k => k = sb ∨ v.ownBlock = some k)).trans k fun x _ hx => hx).ext fun x hx hS => ?_
  rcases hS with rfl | hS
  · have := h.lo; omega
  · have := own_block h.own x hS; omega
def Tracks (es : List Pr) (key : ByteArray) (b : Bool) (wt : ByteArray) : Prop := isOk (getK es key) = b ∧ (b = true → getV es key = wt)
theorem tracks_nil (key wt : ByteArray) : Tracks [] key false wt := ⟨rfl, fun h => by cases h⟩
theorem storeL_asc {es : List Pr} (ho : Asc es) (p : Pr) : Asc (storeL es p) := by
  unfold storeL
  split
  · exact putL_asc ho p
  · exact ho
theorem get_store {es : List Pr} (ho : Asc es) {p : Pr} (h : putK es p = 0) (key : ByteArray) : getE (storeL es p) key = if p.key = key then some p else getE es key := by
  unfold storeL
  rw [if_pos h, get_put ho]
theorem store_bad {es : List Pr} {p : Pr} (h : putK es p ≠ 0) : storeL es p = es := if_neg h
theorem tracks_hit {es : List Pr} (ho : Asc es) {p : Pr} (h : putK es p = 0) {key wt : ByteArray} (hk : p.key = key) (hv : p.gone = false → p.value = wt) : Tracks (storeL es p) key (!p.gone) wt := by
  unfold Tracks getK getV
  rw [get_store ho h, if_pos hk]
  obtain ⟨pk, pv, pg⟩ := p
  cases pg with
  | true => exact ⟨rfl, fun h => by cases h⟩
  | false => exact ⟨rfl, fun _ => hv rfl⟩
theorem tracks_miss {es : List Pr} (ho : Asc es) {p : Pr} {key wt : ByteArray} {b : Bool} (h : putK es p ≠ 0 ∨ p.key ≠ key) (ht : Tracks es key b wt) : Tracks (storeL es p) key b wt := by
  by_cases hk : putK es p = 0
  · unfold Tracks getK getV
    rw [get_store ho hk, if_neg (h.resolve_left (not_not_intro hk))]
    exact ht
  · rw [store_bad hk]
    exact ht
theorem range_cat {es : List Pr} {a b c : ByteArray} (h1 : a = b ∨ kLt a b = true) (h2 : b = c ∨ kLt b c = true) : rangeL es a b ++ rangeL es b c = rangeL es a c := by
  have l1 := lowN_mono (es := es) h1
  have l2 := lowN_mono (es := es) h2
  unfold rangeL
  generalize lowN es a = i at *
  generalize lowN es b = j at *
  generalize lowN es c = k at *
  have e : es.drop j = (es.drop i).drop (j - i) := by rw [List.drop_drop]; congr 1; omega
  rw [e, show k - i = (j - i) + (k - j) by omega, List.take_add]
theorem range_len (es : List Pr) (a b : ByteArray) : (rangeL es a b).length ≤ es.length := by
  unfold rangeL
  rw [List.length_take, List.length_drop]
  omega
def ordAB (a b : ByteArray) : Prop := a = b ∨ kLt a b = true
instance (a b : ByteArray) : Decidable (ordAB a b) := inferInstanceAs (Decidable (a = b ∨ kLt a b = true))
theorem ord3 (a b : ByteArray) : (ordAB a b ∧ Op.bytesLess a.toList b.toList = true) ∨ (ordAB a b ∧ a = b) ∨ (¬ ordAB a b ∧ Op.bytesLess a.toList b.toList = false ∧ (a.toList == b.toList) = false) := by
  by_cases h : kLt a b = true
  · exact .inl ⟨.inr h, by rw [kLt_op]; exact h⟩
  · by_cases he : a = b
    · exact .inr (.inl ⟨.inl he, he⟩)
    · have hf : kLt a b = false := by cases hc : kLt a b with | false => rfl | true => exact absurd hc h
      exact .inr (.inr ⟨fun ho => ho.elim he h, by rw [kLt_op]; exact hf, (Lib.bytes_beq_false_iff a b).2 he⟩)
end Go.Proofs.YtcgfdhgceokcnaaGreatDoor
