/- table: what is wrong with pairs, plain; and table.Check. -/
import Derived.Test.YtcgfdhgceokcnaaDoorJWalWhole12
import Derived.Lib.AppendStr
import Derived.Test.YtcgfdhgceokcnaaDoorJWalWhole1
namespace Go.Proofs.YtcgfdhgceokcnaaDoor
open Go.RowKit
set_option linter.unusedVariables false
attribute [local go_sem ↓] Go.wp_at_zero Go.wp_at_succ

def ordT (seen : List Pr) (p : Pr) : Bool := match seen.getLast? with | some q => !(Op.bytesLess q.key.toList p.key.toList) | none => false
def tabK (seen : List Pr) (p : Pr) : Int :=
  if keyK p.key ≠ 0 then keyK p.key else if 200 < p.value.size then 4 else if p.gone = true ∧ p.value.size ≠ 0 then 3 else if ordT seen p = true then 7 else 0
def tabGo : List Pr → List Pr → Int
  | seen, [] => 0
  | seen, p :: r => if tabK seen p ≠ 0 then tabK seen p else tabGo (seen ++ [p]) r
def tblK (es : List Pr) : Int := tabGo [] es
theorem tabGo_step {es : List Pr} {j : Nat} {p : Pr} (h : es[j]? = some p) : tabGo (es.take j) (es.drop j) = if tabK (es.take j) p ≠ 0 then tabK (es.take j) p else tabGo (es.take (j + 1)) (es.drop (j + 1)) := by
  obtain ⟨hj, rfl⟩ := List.getElem?_eq_some_iff.1 h
  rw [List.drop_eq_getElem_cons hj, tabGo, List.take_succ_eq_append_getElem hj]
theorem tabK_zero {seen : List Pr} {p : Pr} : tabK seen p = 0 ↔ PrOk p ∧ ordT seen p = false := by
  unfold tabK PrOk
  constructor
  · intro h
    by_cases h1 : keyK p.key = 0
    · rw [if_neg (not_not_intro h1)] at h
      by_cases h2 : 200 < p.value.size
      · rw [if_pos h2] at h; cases h
      · rw [if_neg h2] at h
        by_cases h3 : p.gone = true ∧ p.value.size ≠ 0
        · rw [if_pos h3] at h; cases h
        · rw [if_neg h3] at h
          cases h4 : ordT seen p with
          | true => rw [h4, if_pos rfl] at h; cases h
          | false => exact ⟨⟨h1, by omega, fun hg => Decidable.byContradiction fun hv => h3 ⟨hg, hv⟩⟩, rfl⟩
    · rw [if_pos h1] at h; exact absurd h h1
  · rintro ⟨⟨h1, h2, h3⟩, h4⟩
    rw [if_neg (not_not_intro h1), if_neg (by omega), if_neg (fun h => h.2 (h3 h.1)), h4, if_neg (by decide)]
theorem tabGo_zero {es : List Pr} : ∀ j, j ≤ es.length → (tabGo [] es = 0 ↔ (∀ i p, i < j → es[i]? = some p → tabK (es.take i) p = 0) ∧ tabGo (es.take j) (es.drop j) = 0)
  | 0, _ => by
    constructor
    · intro h; exact ⟨fun i p hi => absurd hi (Nat.not_lt_zero _), h⟩
    · intro h; exact h.2
  | j + 1, hj => by
    rw [tabGo_zero j (by omega), tabGo_step (List.getElem?_eq_getElem (by omega : j < es.length))]
    constructor
    · rintro ⟨h1, h2⟩
      by_cases h3 : tabK (es.take j) es[j] = 0
      · rw [if_neg (not_not_intro h3)] at h2
        refine ⟨fun i p hi hp => ?_, h2⟩
        by_cases hij : i = j
        · subst hij
          rw [List.getElem?_eq_getElem (by omega)] at hp
          injection hp with hp
          rw [← hp]; exact h3
        · exact h1 i p (by omega) hp
      · rw [if_pos h3] at h2; exact absurd h2 h3
    · rintro ⟨h1, h2⟩
      have h3 := h1 j es[j] (by omega) (List.getElem?_eq_getElem (by omega))
      exact ⟨fun i p hi hp => h1 i p (by omega) hp, by rw [if_neg (not_not_intro h3)]; exact h2⟩
theorem ordT_prev {es : List Pr} {j : Nat} {q p : Pr} (h : es[j]? = some q) : ordT (es.take (j + 1)) p = !(kLt q.key p.key) := by
  obtain ⟨hj, rfl⟩ := List.getElem?_eq_some_iff.1 h
  unfold ordT
  rw [List.take_succ_eq_append_getElem hj, List.getLast?_append]
  show (!(Op.bytesLess _ _)) = _
  rw [kLt_op]
  rfl
theorem ordT_nil (p : Pr) : ordT [] p = false := rfl
theorem tblK_zero {es : List Pr} : tblK es = 0 ↔ Asc es ∧ ∀ p ∈ es, PrOk p := by
  unfold tblK
  rw [tabGo_zero es.length (Nat.le_refl _)]
  constructor
  · rintro ⟨h, _⟩
    have hadj : ∀ (j : Nat) (q p : Pr), es[j]? = some q → es[j + 1]? = some p → kLt q.key p.key = true := fun j q p hq hp => by
      have h1 := (tabK_zero.1 (h (j + 1) p (List.getElem?_eq_some_iff.1 hp).1 hp)).2
      rw [ordT_prev hq] at h1
      simpa using h1
    refine ⟨?_, fun p hp => ?_⟩
    · intro i j p q hp hq hij
      obtain ⟨d, rfl⟩ : ∃ d, j = i + d + 1 := ⟨j - i - 1, by omega⟩
      clear hij
      induction d generalizing q with
      | zero => exact hadj i p q hp hq
      | succ d ih =>
        have hl := (List.getElem?_eq_some_iff.1 hq).1
        have hm := List.getElem?_eq_getElem (l := es) (i := i + d + 1) (by omega)
        exact kLt_trans (ih _ hm) (hadj (i + d + 1) _ q hm hq)
    · obtain ⟨i, hi⟩ := List.getElem?_of_mem hp
      exact (tabK_zero.1 (h i p (List.getElem?_eq_some_iff.1 hi).1 hi)).1
  · rintro ⟨ha, ho⟩
    refine ⟨fun i p hi hp => tabK_zero.2 ⟨ho p (List.mem_of_getElem? hp), ?_⟩, by rw [List.drop_of_length_le (Nat.le_refl _)]; rfl⟩
    cases i with
    | zero => rfl
    | succ i =>
      have hm := List.getElem?_eq_getElem (l := es) (i := i) (by omega)
      rw [ordT_prev hm, ha i (i + 1) _ p hm hp (by omega)]
      rfl

set_option maxRecDepth 100000 in
set_option maxHeartbeats 2000000 in
theorem TabCheck_any (A : Option Addr) (n c : Nat) (es : List Pr) (w : World) (hr : Rd w 3 A n c (es.flatMap Pr.cells)) (hm : c ≤ maxLen) :
    Calls Tryd.prog 71 #[.slice A n c] w fun e w' => e = .returned (errR (tblK es)) ∧ Ext w w' := by
  obtain ⟨hE, hN, hG⟩ := errR_rules
  have hms : c ≤ 9223372036854775807 := by unfold maxLen at hm; omega
  have hl := hr.2.1
  have HX := Lib.hid hr.lenP
  obtain ⟨k, HK⟩ : ∃ x, Hid (tblK es = x) := ⟨_, rfl⟩
  rw [HK.out]
  have HK0 : Hid (tabGo (es.take 0) (es.drop 0) = k) := HK
  go_enter Tryd.func71, Tryd.ntmps71
  go_wp2_with fail
  go_loopw [3, 4, 5, 8, 19, 25, 34] (fun _ _ _ x _ _ _ wr => ∃ j : Nat, x = .int .i64 j ∧ j ≤ n ∧ Ext w wr ∧ Hid (tabGo (es.take j) (es.drop j) = k)) (fun _ _ _ x _ _ _ _ => n - (intOf x).toNat)
  case atStart => exact ⟨0, rfl, Nat.zero_le _, Ext.refl _, HK0⟩
  case round =>
    obtain ⟨j, rfl, hj, hbw, hgo⟩ := hrel
    by_cases hc : j < n
    · have hgj := List.getElem?_eq_getElem (l := es) (i := j) (by rw [HX.out]; exact hc)
      obtain ⟨ad, rfl, hb, c0, c1, c2⟩ := (hr.ext hbw).getP hgj
      have hst := tabGo_step hgj
      rw [hgo.out] at hst
      have HST := Lib.hid hst
      generalize es[j]'(by rw [HX.out]; exact hc) = p at *
      obtain ⟨pk, pv, pg⟩ := p
      clear hgj hst
      have PB : Bk (wr.alloc (.cells #[.string pk, .string pv, .bool pg] 30)) wr.heap.size 30 #[.string pk, .string pv, .bool pg] := Bk.at_ _ _ _ _ rfl
      have e3 : Ext w (wr.alloc (.cells #[.string pk, .string pv, .bool pg] 30)) := hbw.alloc _
      have hR := hr.ext e3
      simp only at c0 c1 c2
      go_wp2_with fail
      generalize wr.alloc (.cells #[.string pk, .string pv, .bool pg] 30) = W3 at *
      obtain ⟨g, HGN⟩ : ∃ g, wr.heap.size = g := ⟨_, rfl⟩
      rw [HGN] at PB
      rw [HGN]
      clear HGN hbw c0 c1 c2 hb
      refine (Key_any pk _).mono ?_
      rintro _ _ ⟨rfl, rfl⟩
      by_cases hk0 : keyK pk = 0
      · have HKK := Lib.hid hk0
        rw [hk0, errR_0]
        have x0 : W3.cell? ⟨g, 0, none⟩ = some (.string pk) := PB.cell 0
        have x1 : W3.cell? ⟨g, 1, none⟩ = some (.string pv) := PB.cell 1
        have x2 : W3.cell? ⟨g, 2, none⟩ = some (.bool pg) := PB.cell 2
        clear hk0
        by_cases h2 : 200 < pv.size
        · have hk : k = 4 := by
            have h3 := HST.out
            have h4 : tabK (es.take j) ⟨pk, pv, pg⟩ = 4 := by unfold tabK; rw [if_neg (not_not_intro HKK.out), if_pos h2]
            rw [h4, if_pos (by decide)] at h3
            exact h3
          subst hk
          go_wp2_with fail
          go_ret
          exact ⟨rfl, e3⟩
        · by_cases h3 : pg = true ∧ pv.size ≠ 0
          · obtain ⟨rfl, h4⟩ := h3
            obtain ⟨q1, q2⟩ := str_someP (s := pv) (by omega)
            have hk : k = 3 := by
              have h3 := HST.out
              have h5 : tabK (es.take j) ⟨pk, pv, true⟩ = 3 := by unfold tabK; rw [if_neg (not_not_intro HKK.out), if_neg h2, if_pos ⟨rfl, h4⟩]
              rw [h5, if_pos (by decide)] at h3
              exact h3
            subst hk
            go_wp2_with fail
            go_ret
            exact ⟨rfl, e3⟩
          · obtain ⟨ob, HOB⟩ : ∃ x, Hid (ordT (es.take j) ⟨pk, pv, pg⟩ = x) := ⟨_, rfl⟩
            have hpk0 : tabK (es.take j) ⟨pk, pv, pg⟩ = if ob = true then 7 else 0 := by
              unfold tabK
              rw [if_neg (not_not_intro HKK.out), if_neg h2, if_neg h3, HOB.out]
            have HPK := Lib.hid hpk0
            clear hpk0
            go_upto_region 9 with (fail)
            go_cut [25] from 26 to 32 (fun v wc => v = .bool false ∧ W3 = wc)
            case first =>
              as_aux_lemma =>
              cases pg with
              | true =>
                have hz : pv.size = 0 := Decidable.byContradiction fun h => h3 ⟨rfl, h⟩
                obtain rfl := str_noneP hz
                clear h3 hz
                go_wp2_with fail
                go_meet
                exact ⟨rfl, rfl⟩
              | false =>
                clear h3
                go_wp2_with fail
                go_meet
                exact ⟨rfl, rfl⟩
            case rest =>
            as_aux_lemma =>
            obtain ⟨rfl, rfl⟩ := hcut
            clear h3
            go_upto_region 11 with (fail)
            go_cut [34] from 35 to 47 (fun v wc => v = .bool ob ∧ W3.drew = wc)
            case first =>
              as_aux_lemma =>
              by_cases hj0 : j = 0
              · subst hj0
                have hob : ob = false := by rw [← HOB.out]; rfl
                subst hob
                clear HOB
                go_region
                go_wp2_with fail
                go_meet
                exact ⟨rfl, rfl⟩
              · have hgm := List.getElem?_eq_getElem (l := es) (i := j - 1) (by rw [HX.out]; omega)
                obtain ⟨ad', e, hb', y0, -, -⟩ := hR.getP hgm
                obtain rfl : ad = ad' := by injection e
                have hob : ob = !(Op.bytesLess (es[j - 1]'(by rw [HX.out]; omega)).key.toList pk.toList) := by
                  have h5 := ordT_prev (p := ⟨pk, pv, pg⟩) hgm
                  rw [Nat.sub_add_cancel (by omega), HOB.out] at h5
                  rw [h5, kLt_op]
                generalize (es[j - 1]'(by rw [HX.out]; omega)).key = qk at *
                obtain ⟨lb, HLB⟩ : ∃ x, Op.bytesLess qk.toList pk.toList = x := ⟨_, rfl⟩
                rw [HLB] at hob
                have k1 : IntKind.i64.wrap ((j : Int) - 1) = (j : Int) - 1 := IntWalk.i64_in _ (by omega)
                have k2 : ((j : Int) - 1).toNat = j - 1 := by omega
                have k3 : 0 ≤ (j : Int) - 1 := by omega
                have k5 : (j : Int) - 1 < (n : Int) := by omega
                have k6 : 0 < (j : Int) := by omega
                have k7 : j - 1 < n := by omega
                have k8 : 0 < j := by omega
                have k9 : decide ((0 : Int) < (j : Int)) = true := decide_eq_true k6
                clear HOB hgm e HST HPK hgo hj0 x1 x2
                cases lb
                · subst hob
                  go_region
                  go_wp2_with fail
                  go_meet
                  exact ⟨rfl, rfl⟩
                · subst hob
                  go_region
                  go_wp2_with fail
                  go_meet
                  exact ⟨rfl, rfl⟩
            case rest =>
            as_aux_lemma =>
            obtain ⟨rfl, rfl⟩ := hcut
            cases ob with
            | true =>
              have hk : k = 7 := by
                have h3 := HST.out
                rw [HPK.out, if_pos rfl, if_pos (by decide)] at h3
                exact h3
              subst hk
              go_wp2_with fail
              go_ret
              exact ⟨rfl, e3.drew⟩
            | false =>
              have hst2 : tabGo (es.take (j + 1)) (es.drop (j + 1)) = k := by
                have h3 := HST.out
                rw [HPK.out, if_neg (by decide)] at h3
                exact h3.symm
              have HST2 := Lib.hid hst2
              clear hst2 HST hgo
              go_wp2_with fail
              go_roundw
              case rel => exact ⟨j + 1, by go_num, by omega, e3.drew, HST2⟩
              case measure => simp [intOf]; omega
      · have hk : k = keyK pk := by
          have h3 := HST.out
          have h4 : tabK (es.take j) ⟨pk, pv, pg⟩ = keyK pk := by unfold tabK; rw [if_pos hk0]
          rw [h4, if_pos hk0] at h3
          exact h3
        have HKK := Lib.hid (isOk_no hk0)
        rw [← hk]
        rw [← hk] at HKK
        have hko := HKK.out
        clear hk0 hk
        go_wp2_with fail
        go_ret
        exact ⟨rfl, e3⟩
    · have hk : k = 0 := by
        rw [← hgo.out, List.drop_of_length_le (by rw [HX.out]; omega)]; rfl
      subst hk
      go_wp2_with fail
      go_ret
      exact ⟨rfl, hbw⟩
end Go.Proofs.YtcgfdhgceokcnaaDoor

/- table: bytes that are appended; four. -/
namespace Go.Proofs.YtcgfdhgceokcnaaDoor
open Go.RowKit Go.WideShapes
set_option linter.unusedVariables false
attribute [local go_sem ↓] Go.wp_at_zero Go.wp_at_succ

theorem info_u8t : (Tryd.prog.info? 5).map (fun i => (i.zero, i.size, i.bytes)) = some (some (.int .u8 0), 1, 1) := by kernel_rfl
def bcells (l : List UInt8) : List Value := l.map fun b => Value.int .u8 b.toNat
theorem bcells_append (a b : List UInt8) : bcells (a ++ b) = bcells a ++ bcells b := by simp [bcells]
theorem bcells_one (l : List UInt8) : ∀ u ∈ bcells l, u.oneCell' = true := by
  intro u hu
  unfold bcells at hu
  rw [List.mem_map] at hu
  obtain ⟨b, _, rfl⟩ := hu
  rfl
theorem bcells_len (l : List UInt8) : (bcells l).length = l.length := by simp [bcells]
/-- bytes that are owned -/
def OwnB (w : World) (base : Nat) (v : Value) (l : List UInt8) : Prop := w.ownsRow base 5 1 v l.length (bcells l)
theorem four_cells (n : Int) (h0 : 0 ≤ n) (h1 : n < 2147483648) : bcells (fourB n) = [.int .u8 (n / 16777216), .int .u8 (n / 65536 % 256), .int .u8 (n / 256 % 256), .int .u8 (n % 256)] := by
  unfold bcells fourB
  simp only [List.map_cons, List.map_nil]
  rw [toNat_byteOf _ (by omega) (by omega), toNat_byteOf _ (by omega) (by omega), toNat_byteOf _ (by omega) (by omega), toNat_byteOf _ (by omega) (by omega), show n / 16777216 % 256 = n / 16777216 by omega]

set_option maxRecDepth 100000 in
set_option maxHeartbeats 1000000 in
theorem TFour_any (n : Int) (v : Value) (base : Nat) (l : List UInt8) (w : World) (h0 : 0 ≤ n) (h1 : n < 2147483648) (hb : base ≤ w.heap.size) (hm : l.length ≤ 100000000000) (hown : OwnB w base v l) :
    Calls Tryd.prog 72 #[v, .int .i64 n] w fun e w' => (∃ v', e = .returned v' ∧ OwnB w' base v' (l ++ fourB n)) ∧ w.grownBy w' v.ownBlock := by
  obtain ⟨i0, hi0, hz0, hz1, hz2⟩ := info_parts info_u8t
  have hO := Lib.hid hown
  have HF := Lib.hid (four_cells n h0 h1)
  have HL : (l ++ fourB n).length = l.length + 4 := by rw [List.length_append]; rfl
  have hz : w.heap.size < (w.alloc (.cells #[.int .u8 (n / 16777216), .int .u8 (n / 65536 % 256), .int .u8 (n / 256 % 256), .int .u8 (n % 256)] 5)).heap.size := by simp
  have hal := World.grownBy_alloc w (.cells #[.int .u8 (n / 16777216), .int .u8 (n / 65536 % 256), .int .u8 (n / 256 % 256), .int .u8 (n % 256)] 5) v.ownBlock
  have hHL := Lib.hid HL
  clear hown HL
  go_enter Tryd.func72, Tryd.ntmps72
  go_wp2_with (at_builtin; go_loud (refine wpList_append_own _ rfl _ _ 123 rfl base 5 i0 _ 1 1 Tryd.underlying123 hi0 hz0 hz1 hz2 rfl (by omega) v l.length (bcells l) rfl (World.ownsRow.alloc hO.out _) ⟨w.heap.size, 0, none⟩ 4 4 [.int .u8 (n / 16777216), .int .u8 (n / 65536 % 256), .int .u8 (n / 256 % 256), .int .u8 (n % 256)] (by rfl) rfl (news_new w _ _ _ rfl) (by intro u hu; simp at hu; rcases hu with rfl | rfl | rfl | rfl <;> rfl) (by unfold maxLen; omega) (by omega) (by omega) ?_); intro v1 w1 own1 hg1 hH1)
  go_ret
  refine ⟨⟨v1, rfl, ?_⟩, gb_trans hal hg1⟩
  unfold OwnB
  rw [hHL.out, bcells_append, HF.out]
  exact own1
end Go.Proofs.YtcgfdhgceokcnaaDoor

/- table.Build. -/
namespace Go.Proofs.YtcgfdhgceokcnaaDoor
open Go.RowKit Go.WideShapes
set_option linter.unusedVariables false
attribute [local go_sem ↓] Go.wp_at_zero Go.wp_at_succ

def goneN (b : Bool) : Int := if b = true then 1 else 0
def pairB (p : Pr) : List UInt8 := byteOf p.key.size :: (p.key.data.toList ++ (byteOf (goneN p.gone) :: byteOf p.value.size :: p.value.data.toList))
def bodyB (es : List Pr) : List UInt8 := es.flatMap pairB
def tabhB (es : List Pr) : List UInt8 := bodyB es ++ fourB es.length
def tabB (es : List Pr) : ByteArray := ⟨(tabhB es ++ fourB (sumL (tabhB es))).toArray⟩
def tabR (es : List Pr) : ByteArray := if tblK es = 0 then tabB es else ⟨#[]⟩
theorem pairB_len (p : Pr) : (pairB p).length = p.key.size + p.value.size + 3 := by
  unfold pairB
  simp only [List.length_cons, List.length_append]
  show p.key.size + (p.value.size + 1 + 1) + 1 = _
  omega
theorem bodyB_snoc (es : List Pr) (p : Pr) : bodyB (es ++ [p]) = bodyB es ++ pairB p := by simp [bodyB]
theorem bodyB_len {es : List Pr} (h : ∀ p ∈ es, PrOk p) : (bodyB es).length ≤ 403 * es.length := by
  induction es with
  | nil => simp [bodyB]
  | cons p es ih =>
    have h1 := ih fun q hq => h q (List.mem_cons_of_mem _ hq)
    have h2 := h p (List.mem_cons_self ..)
    have h3 := (keyK_zero.1 h2.1).2
    unfold bodyB at h1 ⊢
    rw [List.flatMap_cons, List.length_append, pairB_len, List.length_cons]
    have := h2.2.1
    omega
theorem pair_cells {p : Pr} (h : PrOk p) (l : List UInt8) :
    bcells (l ++ pairB p) = bcells l ++ [.int .u8 (p.key.size : Int)] ++ Lib.strCells p.key ++ [.int .u8 (goneN p.gone), .int .u8 (p.value.size : Int)] ++ Lib.strCells p.value := by
  have h3 := (keyK_zero.1 h.1).2
  have h4 := h.2.1
  have hg : 0 ≤ goneN p.gone ∧ goneN p.gone < 256 := by unfold goneN; split <;> omega
  rw [bcells_append]
  unfold pairB bcells Lib.strCells
  simp only [List.map_cons, List.map_append]
  rw [toNat_byteOf _ (by omega) (by omega), toNat_byteOf _ hg.1 hg.2, toNat_byteOf _ (by omega) (by omega)]
  simp
theorem str_b {w : World} {base : Nat} {v : Value} {l : List UInt8} (h : OwnB w base v l) (hn : 0 < l.length) :
    ∃ ad c, v = .slice (some ad) l.length c ∧ (convert 123 9 v).run Tryd.prog w = .ok (.string ⟨l.toArray⟩) w := by
  obtain ⟨A, c, rfl, -, R, -⟩ := own_rd h
  obtain ⟨ad, rfl, -, hc⟩ := R.2.2 hn
  refine ⟨ad, c, rfl, ?_⟩
  have e : bcells l = (l.map fun b => (b.toNat : Int)).map (Value.int .u8) := by simp [bcells]
  have h2 := run_conv_cells w 123 9 5 ad c (l.map fun b => (b.toNat : Int)) Tryd.underlying123 Tryd.underlying5 Tryd.underlying9 (by rw [← e]; exact hc)
  rw [List.length_map] at h2
  rw [h2, List.map_map]
  have h3 : (byteOf ∘ fun (b : UInt8) => (b.toNat : Int)) = id := by funext b; exact byteOf_toNat b
  rw [h3, List.map_id]

set_option maxRecDepth 100000 in
set_option maxHeartbeats 2000000 in
theorem Build_any (A : Option Addr) (n c : Nat) (es : List Pr) (w : World) (hr : Rd w 3 A n c (es.flatMap Pr.cells)) (hm : c ≤ maxLen) (hn : n ≤ 200000000) :
    Calls Tryd.prog 63 #[.slice A n c] w fun e w' => e = .returned (.tuple #[.string (tabR es), errR (tblK es)]) ∧ Ext w w' := by
  obtain ⟨hE, hN, hG⟩ := errR_rules
  have hms : c ≤ 9223372036854775807 := by unfold maxLen at hm; omega
  have hl := hr.2.1
  have HX := Lib.hid hr.lenP
  obtain ⟨k, HK⟩ : ∃ x, Hid (tblK es = x) := ⟨_, rfl⟩
  obtain ⟨rs, HRS⟩ : ∃ x, Hid (tabR es = x) := ⟨_, rfl⟩
  rw [HRS.out, HK.out]
  go_enter Tryd.func63, Tryd.ntmps63
  go_wp2_with fail
  refine (TabCheck_any A n c es _ hr hm).mono ?_
  rw [HK.out]
  rintro _ w1 ⟨rfl, hb1⟩
  by_cases hk : k = 0
  · subst hk
    rw [errR_0]
    have HOK := Lib.hid (tblK_zero.1 HK.out).2
    have hrs : rs = tabB es := by rw [← HRS.out]; exact if_pos HK.out
    subst hrs
    clear HRS
    have hr1 := hr.ext hb1
    have H0 : Hid (OwnB w1 w1.heap.size (.slice none 0 0) (bodyB (es.take 0))) := own_nil _ _ _ _
    clear hr
    go_wp2_with fail
    go_loopw [5, 7, 8, 16] (fun b _ _ x wr => ∃ j : Nat, x = .int .i64 j ∧ j ≤ n ∧ Ext w1 wr ∧ Hid (OwnB wr w1.heap.size b (bodyB (es.take j)))) (fun _ _ _ x _ => n - (intOf x).toNat)
    case atStart => exact ⟨0, rfl, Nat.zero_le _, Ext.refl _, H0⟩
    case round =>
      obtain ⟨j, rfl, hj, hbw, hown⟩ := hrel
      by_cases hc : j < n
      · have hgj := List.getElem?_eq_getElem (l := es) (i := j) (by rw [HX.out]; exact hc)
        obtain ⟨ad, rfl, hb, c0, c1, c2⟩ := (hr1.ext hbw).getP hgj
        have hok := HOK.out _ (List.mem_of_getElem? hgj)
        have hlen : (bodyB (es.take j)).length ≤ 403 * j := by
          have h1 := bodyB_len (es := es.take j) fun q hq => HOK.out q (List.mem_of_mem_take hq)
          have h2 : (es.take j).length ≤ j := by rw [List.length_take]; omega
          omega
        have hnext : bodyB (es.take (j + 1)) = bodyB (es.take j) ++ pairB (es[j]'(by rw [HX.out]; exact hc)) := by
          rw [List.take_succ_eq_append_getElem (by rw [HX.out]; exact hc), bodyB_snoc]
        generalize es[j]'(by rw [HX.out]; exact hc) = p at *
        have hpl := pairB_len p
        have hpc := pair_cells hok (bodyB (es.take j))
        obtain ⟨pk, pv, pg⟩ := p
        have hk3 := (keyK_zero.1 hok.1).2
        have hv3 := hok.2.1
        simp only at c0 c1 c2 hpl hpc hk3 hv3
        obtain ⟨L, HL⟩ : ∃ L, Hid (bodyB (es.take j) = L) := ⟨_, rfl⟩
        rw [HL.out] at hlen hpc hown hnext
        have HNX := Lib.hid hnext
        have HPL := Lib.hid hpl
        have HPC := Lib.hid hpc
        obtain ⟨gb, HGB⟩ : ∃ x, Hid (goneN pg = x) := ⟨_, rfl⟩
        rw [HGB.out] at HPC
        have PB : Bk (wr.alloc (.cells #[.string pk, .string pv, .bool pg] 30)) wr.heap.size 30 #[.string pk, .string pv, .bool pg] := Bk.at_ _ _ _ _ rfl
        have e3 : Ext w1 (wr.alloc (.cells #[.string pk, .string pv, .bool pg] 30)) := hbw.alloc _
        have own3 := World.ownsRow.alloc hown.out (.cells #[.string pk, .string pv, .bool pg] 30)
        clear hgj hnext hpl hpc hok hown
        go_upto_if 21 with (fail)
        generalize wr.alloc (.cells #[.string pk, .string pv, .bool pg] 30) = W3 at *
        obtain ⟨g, HGN⟩ : ∃ g, wr.heap.size = g := ⟨_, rfl⟩
        rw [HGN] at PB
        rw [HGN]
        clear HGN hbw c0 c1 c2 hb
        go_cut [8] (fun v wc => v = .int .u8 gb ∧ W3 = wc)
        case first =>
          as_aux_lemma =>
          have hgb := HGB.out
          cases pg with
          | true =>
            have : gb = 1 := by rw [← hgb]; rfl
            subst this
            go_wp2_with fail
            go_meet
            exact ⟨rfl, rfl⟩
          | false =>
            have : gb = 0 := by rw [← hgb]; rfl
            subst this
            go_wp2_with fail
            go_meet
            exact ⟨rfl, rfl⟩
        case rest =>
        as_aux_lemma =>
        obtain ⟨rfl, rfl⟩ := hcut
        have hk256 : (pk.size : Int) % 256 = (pk.size : Int) := by omega
        have hv256 : (pv.size : Int) % 256 = (pv.size : Int) := by omega
        have hbase : w1.heap.size ≤ W3.heap.size := e3.size
        have x0 : W3.cell? ⟨g, 0, none⟩ = some (.string pk) := PB.cell 0
        have x1 : W3.cell? ⟨g, 1, none⟩ = some (.string pv) := PB.cell 1
        have glt := PB.lt
        obtain ⟨i0, hi0, hz0, hz1, hz2⟩ := info_parts info_u8t
        have PA := PB.alloc (.cells #[.int .u8 (pk.size : Int)] 5)
        have eA : Ext w1 (W3.alloc (.cells #[.int .u8 (pk.size : Int)] 5)) := e3.alloc _
        have oA := World.ownsRow.alloc own3 (.cells #[.int .u8 (pk.size : Int)] 5)
        have hbA := eA.size
        have HPA := Lib.hid PA
        have HOA := Lib.hid oA
        clear PB PA oA own3
        go_wp2_with (first
          | (at_builtin; refine Lib.wpList_append_own_string _ rfl _ _ 123 9 rfl w1.heap.size 5 i0 Tryd.underlying123 Tryd.underlying9 hi0 hz0 hz1 hz2 v6 _ _ rfl HO6.out pv rfl (by unfold maxLen; omega) (by omega) hb6 ?_; intro v7 w7 own7 hg7 hH7; clear hH7; have e7 := own_grown HO6.out hg7 w1 (Nat.le_refl _) e6)
          | (at_builtin; refine wpList_append_own _ rfl _ _ 123 rfl w1.heap.size 5 i0 _ 1 1 Tryd.underlying123 hi0 hz0 hz1 hz2 rfl (by omega) v5 _ _ rfl HOB.out ⟨w5.heap.size, 0, none⟩ 2 2 [.int .u8 gb, .int .u8 (pv.size : Int)] (by rfl) rfl (news_new w5 _ _ _ rfl) (by intro u hu; simp at hu; rcases hu with rfl | rfl <;> rfl) (by unfold maxLen; omega) (by omega) hbB ?_; intro v6 w6 own6 hg6 hH6; clear hH6; have e6 := own_grown HOB.out hg6 w1 (Nat.le_refl _) eB; have P6 := HPB.out.kept hg6 (own_type HOB.out HPB.out (by decide)); have x1 : w6.cell? ⟨g, 1, none⟩ = some (.string pv) := P6.cell 1; have hb6 := e6.size; have HO6 := Lib.hid own6; clear own6 P6)
          | (at_builtin; refine Lib.wpList_append_own_string _ rfl _ _ 123 9 rfl w1.heap.size 5 i0 Tryd.underlying123 Tryd.underlying9 hi0 hz0 hz1 hz2 v4 _ _ rfl HO4.out pk rfl (by unfold maxLen; omega) (by omega) hb4 ?_; intro v5 w5 own5 hg5 hH5; clear hH5; have e5 := own_grown HO4.out hg5 w1 (Nat.le_refl _) e4; have P5 := HP4.out.kept hg5 (own_type HO4.out HP4.out (by decide)); have x1 : w5.cell? ⟨g, 1, none⟩ = some (.string pv) := P5.cell 1; have eB : Ext w1 (w5.alloc (.cells #[.int .u8 gb, .int .u8 (pv.size : Int)] 5)) := e5.alloc _; have HPB := Lib.hid (P5.alloc (.cells #[.int .u8 gb, .int .u8 (pv.size : Int)] 5)); have HOB := Lib.hid (World.ownsRow.alloc own5 (.cells #[.int .u8 gb, .int .u8 (pv.size : Int)] 5)); have hbB := eB.size; clear P5 own5)
          | (at_builtin; refine wpList_append_own _ rfl _ _ 123 rfl w1.heap.size 5 i0 _ 1 1 Tryd.underlying123 hi0 hz0 hz1 hz2 rfl (by omega) u5 _ _ rfl HOA.out ⟨W3.heap.size, 0, none⟩ 1 1 [.int .u8 (pk.size : Int)] (by rfl) rfl (news_new W3 _ _ _ rfl) (by intro u hu; simp at hu; subst hu; rfl) (by unfold maxLen; omega) (by omega) hbA ?_; intro v4 w4 own4 hg4 hH4; clear hH4; have e4 := own_grown HOA.out hg4 w1 (Nat.le_refl _) eA; have P4 := HPA.out.kept hg4 (own_type HOA.out HPA.out (by decide)); have x0 : w4.cell? ⟨g, 0, none⟩ = some (.string pk) := P4.cell 0; have hb4 := e4.size; have HP4 := Lib.hid P4; have HO4 := Lib.hid own4; clear own4 P4))
        go_roundw
        case rel => exact ⟨j + 1, by go_num, by omega, e7, by
          show OwnB w7 _ _ _
          unfold OwnB
          rw [HNX.out, HPC.out, List.length_append, HPL.out]
          rw [show L.length + (pk.size + pv.size + 3) = L.length + 1 + pk.size + 2 + pv.size by omega]
          exact own7⟩
        case measure => simp [intOf]; omega
      · obtain rfl : j = n := by omega
        have hlen : (bodyB es).length ≤ 403 * j := by
          have h1 := bodyB_len HOK.out
          rw [HX.out] at h1
          exact h1
        rw [List.take_of_length_le (by rw [HX.out]; exact Nat.le_refl _)] at hown
        have hhl : (tabhB es).length = (bodyB es).length + 4 := by unfold tabhB; rw [List.length_append]; rfl
        have hhd : bodyB es ++ fourB (j : Int) = tabhB es := by unfold tabhB; rw [HX.out]
        have hfin : tabB es = ⟨(tabhB es ++ fourB (sumL (tabhB es))).toArray⟩ := rfl
        have HFIN := Lib.hid hfin
        have hfl : (tabhB es ++ fourB (sumL (tabhB es))).length = (tabhB es).length + 4 := by rw [List.length_append]; rfl
        have hsb := sumL_bd (tabhB es)
        have HHD := Lib.hid hhd
        obtain ⟨hd, HD⟩ : ∃ x, Hid (tabhB es = x) := ⟨_, rfl⟩
        obtain ⟨tb, HTB⟩ : ∃ x, Hid (tabB es = x) := ⟨_, rfl⟩
        rw [HD.out] at hhl hfl hsb HFIN HHD
        rw [HTB.out] at HFIN
        have E1 := hb1.trans hbw
        clear hhd hfin
        go_wp2_with fail
        refine (TFour_any (j : Int) _ w1.heap.size (bodyB es) wr (by omega) (by omega) hbw.size (by omega) hown.out).mono ?_
        rw [HHD.out]
        rintro _ w2 ⟨⟨v2, rfl, o2⟩, hg2⟩
        have E2 := own_grown hown.out hg2 w1 (Nat.le_refl _) hbw
        obtain ⟨ad2, c2, -, hcv2⟩ := str_b o2 (by omega)
        have HO2 := Lib.hid o2
        have HHL := Lib.hid hhl
        have HFL := Lib.hid hfl
        clear o2 hhl hfl
        go_wp2_with fail
        refine (Sum_any ⟨hd.toArray⟩ w2 (by unfold maxLen; show hd.toArray.size ≤ _; rw [List.size_toArray]; have := HHL.out; omega)).mono ?_
        obtain ⟨sm, HSM⟩ : ∃ x, Hid (sumL hd = x) := ⟨_, rfl⟩
        rw [HSM.out] at hsb HFIN HFL
        rw [show sumL (⟨hd.toArray⟩ : ByteArray).data.toList = sm from HSM.out]
        rintro _ w3 ⟨rfl, hb3⟩
        have O3 := Lib.hid (own_ext HO2.out hb3)
        have E3 := E2.trans hb3
        go_wp2_with fail
        refine (TFour_any sm _ w1.heap.size hd w3 hsb.1 (by omega) E3.size (by have := HHL.out; omega) O3.out).mono ?_
        rintro _ w4 ⟨⟨v4, rfl, o4⟩, hg4⟩
        have E4 := own_grown O3.out hg4 w1 (Nat.le_refl _) E3
        obtain ⟨ad4, c4, -, hcv4⟩ := str_b o4 (by have := HFL.out; omega)
        rw [← HFIN.out] at hcv4
        clear o4
        go_wp2_with fail
        go_ret2
        exact ⟨by rw [HTB.out]; rfl, hb1.trans E4⟩
  · have HKK := Lib.hid (isOk_no hk)
    have hrs : rs = ⟨#[]⟩ := by rw [← HRS.out]; exact if_neg (by rw [HK.out]; exact hk)
    subst hrs
    have hko := HKK.out
    clear hk HRS
    go_wp2_with fail
    go_ret2
    exact ⟨rfl, hb1⟩
end Go.Proofs.YtcgfdhgceokcnaaDoor
