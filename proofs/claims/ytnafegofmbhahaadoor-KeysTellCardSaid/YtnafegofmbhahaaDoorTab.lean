/- table: what is wrong with pairs, plain; and table.Check. -/
import Derived.Test.YtnafegofmbhahaaDoorStore
namespace Go.Proofs.YtnafegofmbhahaaDoor
open Go.RowKit
set_option linter.unusedVariables false
attribute [local go_sem ↓] Go.wp_at_zero Go.wp_at_succ

def ordT (seen : List Pr) (p : Pr) : Bool := match seen.getLast? with | some q => !(Op.bytesLess q.key.toList p.key.toList) | none => false
def tabK (seen : List Pr) (p : Pr) : Int :=
  if keyK p.key ≠ 0 then keyK p.key else if 200 < p.value.size then 4 else if p.gone = true ∧ p.value.size ≠ 0 then 3 else if ordT seen p = true then 7 else 0
def tabGo : List Pr → List Pr → Int
  | seen, [] => 0
  | seen, p :: r => if tabK seen p ≠ 0 then tabK seen p else tabGo (seen ++ [p]) r
def tblK (es : List Pr) : Int := tabGo [] es
theorem tabGo_step {es : List Pr} {j : Nat} {p : Pr} (h : es[j]? = some p) : tabGo (es.take j) (es.drop j) = if tabK (es.take j) p ≠ 0 then tabK (es.take j) p else tabGo (es.take (j + 1)) (es.drop (j + 1)) := by
  obtain ⟨hj, rfl⟩ := List.getElem?_eq_some_iff.1 h
  rw [List.drop_eq_getElem_cons hj, tabGo, List.take_succ_eq_append_getElem hj]
theorem tabK_zero {seen : List Pr} {p : Pr} : tabK seen p = 0 ↔ PrOk p ∧ ordT seen p = false := by
  unfold tabK PrOk
  constructor
  · intro h
    by_cases h1 : keyK p.key = 0
    · rw [if_neg (not_not_intro h1)] at h
      by_cases h2 : 200 < p.value.size
      · rw [if_pos h2] at h; cases h
      · rw [if_neg h2] at h
        by_cases h3 : p.gone = true ∧ p.value.size ≠ 0
        · rw [if_pos h3] at h; cases h
        · rw [if_neg h3] at h
          cases h4 : ordT seen p with
          | true => rw [h4, if_pos rfl] at h; cases h
          | false => exact ⟨⟨h1, by omega, fun hg => Decidable.byContradiction fun hv => h3 ⟨hg, hv⟩⟩, rfl⟩
    · rw [if_pos h1] at h; exact absurd h h1
  · rintro ⟨⟨h1, h2, h3⟩, h4⟩
    rw [if_neg (not_not_intro h1), if_neg (by omega), if_neg (fun h => h.2 (h3 h.1)), h4, if_neg (by decide)]
theorem tabGo_zero {es : List Pr} : ∀ j, j ≤ es.length → (tabGo [] es = 0 ↔ (∀ i p, i < j → es[i]? = some p → tabK (es.take i) p = 0) ∧ tabGo (es.take j) (es.drop j) = 0)
  | 0, _ => by
    constructor
    · intro h; exact ⟨fun i p hi => absurd hi (Nat.not_lt_zero _), h⟩
    · intro h; exact h.2
  | j + 1, hj => by
    rw [tabGo_zero j (by omega), tabGo_step (List.getElem?_eq_getElem (by omega : j < es.length))]
    constructor
    · rintro ⟨h1, h2⟩
      by_cases h3 : tabK (es.take j) es[j] = 0
      · rw [if_neg (not_not_intro h3)] at h2
        refine ⟨fun i p hi hp => ?_, h2⟩
        by_cases hij : i = j
        · subst hij
          rw [List.getElem?_eq_getElem (by omega)] at hp
          injection hp with hp
          rw [← hp]; exact h3
        · exact h1 i p (by omega) hp
      · rw [if_pos h3] at h2; exact absurd h2 h3
    · rintro ⟨h1, h2⟩
      have h3 := h1 j es[j] (by omega) (List.getElem?_eq_getElem (by omega))
      exact ⟨fun i p hi hp => h1 i p (by omega) hp, by rw [if_neg (not_not_intro h3)]; exact h2⟩
theorem ordT_prev {es : List Pr} {j : Nat} {q p : Pr} (h : es[j]? = some q) : ordT (es.take (j + 1)) p = !(kLt q.key p.key) := by
  obtain ⟨hj, rfl⟩ := List.getElem?_eq_some_iff.1 h
  unfold ordT
  rw [List.take_succ_eq_append_getElem hj, List.getLast?_append]
  show (!(Op.bytesLess _ _)) = _
  rw [kLt_op]
  rfl
theorem ordT_nil (p : Pr) : ordT [] p = false := rfl
theorem tblK_zero {es : List Pr} : tblK es = 0 ↔ Asc es ∧ ∀ p ∈ es, PrOk p := by
  unfold tblK
  rw [tabGo_zero es.length (Nat.le_refl _)]
  constructor
  · rintro ⟨h, _⟩
    have hadj : ∀ (j : Nat) (q p : Pr), es[j]? = some q → es[j + 1]? = some p → kLt q.key p.key = true := fun j q p hq hp => by
      have h1 := (tabK_zero.1 (h (j + 1) p (List.getElem?_eq_some_iff.1 hp).1 hp)).2
      rw [ordT_prev hq] at h1
      simpa using h1
    refine ⟨?_, fun p hp => ?_⟩
    · intro i j p q hp hq hij
      obtain ⟨d, rfl⟩ : ∃ d, j = i + d + 1 := ⟨j - i - 1, by omega⟩
      clear hij
      induction d generalizing q with
      | zero => exact hadj i p q hp hq
      | succ d ih =>
        have hl := (List.getElem?_eq_some_iff.1 hq).1
        have hm := List.getElem?_eq_getElem (l := es) (i := i + d + 1) (by omega)
        exact kLt_trans (ih _ hm) (hadj (i + d + 1) _ q hm hq)
    · obtain ⟨i, hi⟩ := List.getElem?_of_mem hp
      exact (tabK_zero.1 (h i p (List.getElem?_eq_some_iff.1 hi).1 hi)).1
  · rintro ⟨ha, ho⟩
    refine ⟨fun i p hi hp => tabK_zero.2 ⟨ho p (List.mem_of_getElem? hp), ?_⟩, by rw [List.drop_of_length_le (Nat.le_refl _)]; rfl⟩
    cases i with
    | zero => rfl
    | succ i =>
      have hm := List.getElem?_eq_getElem (l := es) (i := i) (by omega)
      rw [ordT_prev hm, ha i (i + 1) _ p hm hp (by omega)]
      rfl

set_option maxRecDepth 100000 in
set_option maxHeartbeats 2000000 in
theorem TabCheck_any (A : Option Addr) (n c : Nat) (es : List Pr) (w : World) (hr : Rd w 3 A n c (es.flatMap Pr.cells)) (hm : c ≤ maxLen) :
    Calls Tryd.prog 66 #[.slice A n c] w fun e w' => e = .returned (errR (tblK es)) ∧ Ext w w' := by
  obtain ⟨hE, hN, hG⟩ := errR_rules
  have hms : c ≤ 9223372036854775807 := by unfold maxLen at hm; omega
  have hl := hr.2.1
  have HX := Lib.hid hr.lenP
  obtain ⟨k, HK⟩ : ∃ x, Hid (tblK es = x) := ⟨_, rfl⟩
  rw [HK.out]
  have HK0 : Hid (tabGo (es.take 0) (es.drop 0) = k) := HK
  go_enter Tryd.func66, Tryd.ntmps66
  go_wp2_with fail
  go_loopw [3, 4, 5, 8, 19, 25, 34] (fun _ _ _ x _ _ _ wr => ∃ j : Nat, x = .int .i64 j ∧ j ≤ n ∧ Ext w wr ∧ Hid (tabGo (es.take j) (es.drop j) = k)) (fun _ _ _ x _ _ _ _ => n - (intOf x).toNat)
  case atStart => exact ⟨0, rfl, Nat.zero_le _, Ext.refl _, HK0⟩
  case round =>
    obtain ⟨j, rfl, hj, hbw, hgo⟩ := hrel
    by_cases hc : j < n
    · have hgj := List.getElem?_eq_getElem (l := es) (i := j) (by rw [HX.out]; exact hc)
      obtain ⟨ad, rfl, hb, c0, c1, c2⟩ := (hr.ext hbw).getP hgj
      have hst := tabGo_step hgj
      rw [hgo.out] at hst
      have HST := Lib.hid hst
      generalize es[j]'(by rw [HX.out]; exact hc) = p at *
      obtain ⟨pk, pv, pg⟩ := p
      clear hgj hst
      have PB : Bk (wr.alloc (.cells #[.string pk, .string pv, .bool pg] 25)) wr.heap.size 25 #[.string pk, .string pv, .bool pg] := Bk.at_ _ _ _ _ rfl
      have e3 : Ext w (wr.alloc (.cells #[.string pk, .string pv, .bool pg] 25)) := hbw.alloc _
      have hR := hr.ext e3
      simp only at c0 c1 c2
      go_wp2_with fail
      generalize wr.alloc (.cells #[.string pk, .string pv, .bool pg] 25) = W3 at *
      obtain ⟨g, HGN⟩ : ∃ g, wr.heap.size = g := ⟨_, rfl⟩
      rw [HGN] at PB
      rw [HGN]
      clear HGN hbw c0 c1 c2 hb
      refine (Key_any pk _).mono ?_
      rintro _ _ ⟨rfl, rfl⟩
      by_cases hk0 : keyK pk = 0
      · have HKK := Lib.hid hk0
        rw [hk0, errR_0]
        have x0 : W3.cell? ⟨g, 0, none⟩ = some (.string pk) := PB.cell 0
        have x1 : W3.cell? ⟨g, 1, none⟩ = some (.string pv) := PB.cell 1
        have x2 : W3.cell? ⟨g, 2, none⟩ = some (.bool pg) := PB.cell 2
        clear hk0
        by_cases h2 : 200 < pv.size
        · have hk : k = 4 := by
            have h3 := HST.out
            have h4 : tabK (es.take j) ⟨pk, pv, pg⟩ = 4 := by unfold tabK; rw [if_neg (not_not_intro HKK.out), if_pos h2]
            rw [h4, if_pos (by decide)] at h3
            exact h3
          subst hk
          go_wp2_with fail
          go_ret
          exact ⟨rfl, e3⟩
        · by_cases h3 : pg = true ∧ pv.size ≠ 0
          · obtain ⟨rfl, h4⟩ := h3
            obtain ⟨q1, q2⟩ := str_someP (s := pv) (by omega)
            have hk : k = 3 := by
              have h3 := HST.out
              have h5 : tabK (es.take j) ⟨pk, pv, true⟩ = 3 := by unfold tabK; rw [if_neg (not_not_intro HKK.out), if_neg h2, if_pos ⟨rfl, h4⟩]
              rw [h5, if_pos (by decide)] at h3
              exact h3
            subst hk
            go_wp2_with fail
            go_ret
            exact ⟨rfl, e3⟩
          · obtain ⟨ob, HOB⟩ : ∃ x, Hid (ordT (es.take j) ⟨pk, pv, pg⟩ = x) := ⟨_, rfl⟩
            have hpk0 : tabK (es.take j) ⟨pk, pv, pg⟩ = if ob = true then 7 else 0 := by
              unfold tabK
              rw [if_neg (not_not_intro HKK.out), if_neg h2, if_neg h3, HOB.out]
            have HPK := Lib.hid hpk0
            clear hpk0
            go_upto_region 9 with (fail)
            go_cut [25] from 26 to 32 (fun v wc => v = .bool false ∧ W3 = wc)
            case first =>
              as_aux_lemma =>
              cases pg with
              | true =>
                have hz : pv.size = 0 := Decidable.byContradiction fun h => h3 ⟨rfl, h⟩
                obtain rfl := str_noneP hz
                clear h3 hz
                go_wp2_with fail
                go_meet
                exact ⟨rfl, rfl⟩
              | false =>
                clear h3
                go_wp2_with fail
                go_meet
                exact ⟨rfl, rfl⟩
            case rest =>
            as_aux_lemma =>
            obtain ⟨rfl, rfl⟩ := hcut
            clear h3
            go_upto_region 11 with (fail)
            go_cut [34] from 35 to 47 (fun v wc => v = .bool ob ∧ W3.drew = wc)
            case first =>
              as_aux_lemma =>
              by_cases hj0 : j = 0
              · subst hj0
                have hob : ob = false := by rw [← HOB.out]; rfl
                subst hob
                clear HOB
                go_region
                go_wp2_with fail
                go_meet
                exact ⟨rfl, rfl⟩
              · have hgm := List.getElem?_eq_getElem (l := es) (i := j - 1) (by rw [HX.out]; omega)
                obtain ⟨ad', e, hb', y0, -, -⟩ := hR.getP hgm
                obtain rfl : ad = ad' := by injection e
                have hob : ob = !(Op.bytesLess (es[j - 1]'(by rw [HX.out]; omega)).key.toList pk.toList) := by
                  have h5 := ordT_prev (p := ⟨pk, pv, pg⟩) hgm
                  rw [Nat.sub_add_cancel (by omega), HOB.out] at h5
                  rw [h5, kLt_op]
                generalize (es[j - 1]'(by rw [HX.out]; omega)).key = qk at *
                obtain ⟨lb, HLB⟩ : ∃ x, Op.bytesLess qk.toList pk.toList = x := ⟨_, rfl⟩
                rw [HLB] at hob
                have k1 : IntKind.i64.wrap ((j : Int) - 1) = (j : Int) - 1 := IntWalk.i64_in _ (by omega)
                have k2 : ((j : Int) - 1).toNat = j - 1 := by omega
                have k3 : 0 ≤ (j : Int) - 1 := by omega
                have k5 : (j : Int) - 1 < (n : Int) := by omega
                have k6 : 0 < (j : Int) := by omega
                have k7 : j - 1 < n := by omega
                have k8 : 0 < j := by omega
                have k9 : decide ((0 : Int) < (j : Int)) = true := decide_eq_true k6
                clear HOB hgm e HST HPK hgo hj0 x1 x2
                cases lb
                · subst hob
                  go_region
                  go_wp2_with fail
                  go_meet
                  exact ⟨rfl, rfl⟩
                · subst hob
                  go_region
                  go_wp2_with fail
                  go_meet
                  exact ⟨rfl, rfl⟩
            case rest =>
            as_aux_lemma =>
            obtain ⟨rfl, rfl⟩ := hcut
            cases ob with
            | true =>
              have hk : k = 7 := by
                have h3 := HST.out
                rw [HPK.out, if_pos rfl, if_pos (by decide)] at h3
                exact h3
              subst hk
              go_wp2_with fail
              go_ret
              exact ⟨rfl, e3.drew⟩
            | false =>
              have hst2 : tabGo (es.take (j + 1)) (es.drop (j + 1)) = k := by
                have h3 := HST.out
                rw [HPK.out, if_neg (by decide)] at h3
                exact h3.symm
              have HST2 := Lib.hid hst2
              clear hst2 HST hgo
              go_wp2_with fail
              go_roundw
              case rel => exact ⟨j + 1, by go_num, by omega, e3.drew, HST2⟩
              case measure => simp [intOf]; omega
      · have hk : k = keyK pk := by
          have h3 := HST.out
          have h4 : tabK (es.take j) ⟨pk, pv, pg⟩ = keyK pk := by unfold tabK; rw [if_pos hk0]
          rw [h4, if_pos hk0] at h3
          exact h3
        have HKK := Lib.hid (isOk_no hk0)
        rw [← hk]
        rw [← hk] at HKK
        have hko := HKK.out
        clear hk0 hk
        go_wp2_with fail
        go_ret
        exact ⟨rfl, e3⟩
    · have hk : k = 0 := by
        rw [← hgo.out, List.drop_of_length_le (by rw [HX.out]; omega)]; rfl
      subst hk
      go_wp2_with fail
      go_ret
      exact ⟨rfl, hbw⟩
end Go.Proofs.YtnafegofmbhahaaDoor
