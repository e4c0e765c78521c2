/- the references' Cut, Number, HeadText, ReadHead. -/
import Derived.Test.YtelcabjhbgkfmaaGreatDoorHParse
import Derived.Test.YtelcabjhbgkfmaaGreatDoorRVerify
import Derived.Test.YtelcabjhbgkfmaaGreatDoorOwnI
namespace Go.Proofs.YtelcabjhbgkfmaaGreatDoor
open Go.RowKit Go.WideShapes
set_option linter.unusedVariables false
attribute [local go_sem ↓] Go.wp_at_zero Go.wp_at_succ

theorem partsL_snoc {c b : UInt8} : ∀ {l : List UInt8} {out : List (List UInt8)} {last : List UInt8}, partsL c l = out ++ [last] → partsL c (l ++ [b]) = if b = c then out ++ [last] ++ [[]] else out ++ [last ++ [b]]
  | [], out, last, h => by
    have h1 : out = [] ∧ last = [] := by
      have h2 : ([[]] : List (List UInt8)) = out ++ [last] := h
      cases out with
      | nil => simp at h2; exact ⟨rfl, h2⟩
      | cons x r => simp at h2
    obtain ⟨rfl, rfl⟩ := h1
    by_cases hb : b = c
    · subst hb; rw [if_pos rfl]; exact partsL_hit b []
    · rw [if_neg hb]; exact partsL_one c [b] (by intro x hx; simp at hx; rw [hx]; exact hb)
  | x :: l, out, last, h => by
    by_cases hx : x = c
    · subst hx
      rw [partsL_hit] at h
      rw [List.cons_append, partsL_hit]
      cases out with
      | nil =>
        simp at h
        exact absurd h.2 (partsL_ne x l)
      | cons y r =>
        rw [List.cons_append] at h
        injection h with h1 h2
        subst h1
        rw [partsL_snoc (b := b) h2]
        split <;> rfl
    · obtain ⟨p, r, hp⟩ : ∃ p r, partsL c l = p :: r := by
        cases hh : partsL c l with
        | nil => exact absurd hh (partsL_ne c l)
        | cons p r => exact ⟨p, r, rfl⟩
      rw [partsL_miss hx hp] at h
      rw [List.cons_append]
      cases out with
      | nil =>
        obtain ⟨h1, rfl⟩ : x :: p = last ∧ r = [] := by simpa using h
        subst h1
        have ih := partsL_snoc (b := b) (l := l) (out := []) (last := p) hp
        by_cases hb : b = c
        · rw [if_pos hb] at ih ⊢
          rw [partsL_miss hx ih]; rfl
        · rw [if_neg hb] at ih ⊢
          rw [partsL_miss hx ih]; rfl
      | cons y o =>
        rw [List.cons_append] at h
        injection h with h1 h2
        subst h1 h2
        have ih := partsL_snoc (b := b) (l := l) (out := p :: o) (last := last) hp
        by_cases hb : b = c
        · rw [if_pos hb] at ih ⊢
          rw [partsL_miss hx (r := o ++ [last] ++ [[]]) (by rw [ih]; rfl)]; rfl
        · rw [if_neg hb] at ih ⊢
          rw [partsL_miss hx (r := o ++ [last ++ [b]]) (by rw [ih]; rfl)]; rfl
/-- cut up to a place -/
def CutS (c : UInt8) (l : List UInt8) (i f : Nat) (out : List (List UInt8)) : Prop := f ≤ i ∧ out.length ≤ i ∧ partsL c (l.take i) = out ++ [(l.take i).drop f]
theorem CutS.zero (c : UInt8) (l : List UInt8) : CutS c l 0 0 [] := ⟨Nat.le_refl _, Nat.le_refl _, by simp [partsL]⟩
theorem CutS.hit {c b : UInt8} {l : List UInt8} {i f : Nat} {out : List (List UInt8)} (h : CutS c l i f out) (hb : l[i]? = some b) (e : b = c) : CutS c l (i + 1) (i + 1) (out ++ [(l.take i).drop f]) := by
  obtain ⟨h1, h2, h3⟩ := h
  have hl := (List.getElem?_eq_some_iff.1 hb).1
  refine ⟨Nat.le_refl _, by rw [List.length_append]; simp; omega, ?_⟩
  have ht : l.take (i + 1) = l.take i ++ [b] := by rw [List.take_add_one, hb]; rfl
  rw [ht, partsL_snoc h3, if_pos e]
  congr 1
  rw [← ht, List.drop_of_length_le (by rw [List.length_take]; omega)]
theorem CutS.miss {c b : UInt8} {l : List UInt8} {i f : Nat} {out : List (List UInt8)} (h : CutS c l i f out) (hb : l[i]? = some b) (e : b ≠ c) : CutS c l (i + 1) f out := by
  obtain ⟨h1, h2, h3⟩ := h
  have hl := (List.getElem?_eq_some_iff.1 hb).1
  refine ⟨by omega, by omega, ?_⟩
  have ht : l.take (i + 1) = l.take i ++ [b] := by rw [List.take_add_one, hb]; rfl
  rw [ht, partsL_snoc h3, if_neg e, List.drop_append_of_le_length (by rw [List.length_take]; omega)]
theorem CutS.end_ {c : UInt8} {l : List UInt8} {f : Nat} {out : List (List UInt8)} (h : CutS c l l.length f out) : partsL c l = out ++ [l.drop f] := by
  have h3 := h.2.2
  rwa [List.take_length] at h3
theorem extract_list (s : ByteArray) (f i : Nat) (hi : i ≤ s.size) : (⟨((s.data.toList.take i).drop f).toArray⟩ : ByteArray) = s.extract f i := by
  apply ba_ext
  show ((s.data.toList.take i).drop f) = (s.extract f i).data.toList
  rw [ByteArray.data_extract, Array.toList_extract]
  simp [List.drop_take]
theorem info_strH : (Tryz.prog.info? 9).map (fun i => (i.zero, i.size, i.bytes)) = some (some (.string ⟨#[]⟩), 1, 16) := by kernel_rfl
def OwnS (w w' : World) (v : Value) (ss : List ByteArray) : Prop := w'.ownsRow w.heap.size 9 1 v ss.length (ss.map Value.string)
theorem oneS1 (s : ByteArray) : ∀ u ∈ [Value.string s], u.oneCell' = true := by intro u hu; simp at hu; subst hu; rfl
def baL (l : List UInt8) : ByteArray := ⟨l.toArray⟩

set_option maxRecDepth 100000 in
set_option maxHeartbeats 2000000 in
theorem RCut_any (s : ByteArray) (c : UInt8) (w : World) (hs : s.size ≤ 1048576) :
    Calls Tryz.prog 68 #[.string s, .int .u8 c.toNat] w fun e w' => (∃ v, e = .returned v ∧ OwnS w w' v (partsB c s)) ∧ Ext w w' := by
  obtain ⟨i0, hi0, hz0, hz1, hz2⟩ := info_parts info_strH
  have hsz : s.data.toList.length = s.size := rfl
  go_enter Tryz.func68, Tryz.ntmps68
  go_wp2_with fail
  go_loopw [5, 6, 7] (fun v f x wr => ∃ (i q : Nat) (out : List (List UInt8)), f = .int .i64 q ∧ x = .int .i64 i ∧ i ≤ s.size ∧ q ≤ i ∧ out.length ≤ i ∧ Ext w wr ∧ Hid (CutS c s.data.toList i q out) ∧ Hid (wr.ownsRow w.heap.size 9 1 v out.length ((out.map baL).map Value.string))) (fun _ _ x _ => s.size - (intOf x).toNat)
  case atStart => exact ⟨0, 0, [], rfl, rfl, Nat.zero_le _, Nat.le_refl _, Nat.le_refl _, Ext.refl _, CutS.zero _ _, own_nil _ _ _ _⟩
  case round =>
    obtain ⟨i, q, out, rfl, rfl, hi, hq, hol, hbw, HC, hown⟩ := hrel
    by_cases hc : i < s.size
    · have hgb := List.getElem?_eq_getElem (l := s.data.toList) (i := i) (by rw [hsz]; exact hc)
      have hbe : s.data.toList[i]'(by rw [hsz]; exact hc) = s[i] := rfl
      rw [hbe] at hgb
      have HGB := Lib.hid hgb
      have hbs := hbw.size
      by_cases hb : s[i] = c
      · have HN := Lib.hid (HC.out.hit HGB.out hb)
        have hx := extract_list s q i (by omega)
        have HX := Lib.hid hx
        have hb1 : (s[i].toNat == c.toNat) = true := by rw [hb]; simp
        have hbN : s[i].toNat = c.toNat := by rw [hb]
        clear hgb hbe hx hb
        go_wp2_with (at_builtin; refine wpl_app (by rfl) _ _ _ (by rfl) w.heap.size 9 i0 _ 1 16 Tryz.underlying108 hi0 hz0 hz1 hz2 rfl (by omega) u5 _ _ (by rfl) (own_ext hown.out ((Ext.refl _).alloc _)) wr.heap.size 1 [.string (s.extract q i)] rfl (by rfl) (news_new wr _ _ _ rfl) (oneS1 _) (by omega) (by omega) (by simp; omega) ?_; intro g cap w3 own3 hext3)
        go_roundw
        case rel => exact ⟨i + 1, i + 1, _, by go_num, by go_num, by omega, by omega, by rw [List.length_append]; simp; omega, hext3 _ (Nat.le_refl _) (by (repeat (with_reducible first | exact Ext.refl _ | assumption | refine Ext.drew ?_ | refine Ext.drewN ?_ _ | refine Ext.alloc ?_ _ | refine Ext.trans ?_ (by with_reducible assumption)))), HN, Lib.hid (by
          rw [List.length_append, List.map_append, List.map_append]
          have h2 := own3
          rw [← HX.out] at h2
          exact h2)⟩
        case measure => simp [intOf]; omega
      · have HN := Lib.hid (HC.out.miss HGB.out hb)
        have hbN : ¬ s[i].toNat = c.toNat := fun e => hb (UInt8.toNat_inj.1 e)
        have hbI : ((s[i].toNat : Int) == (c.toNat : Int)) = false := by simp; omega
        clear hgb hbe hb
        go_wp2_with fail
        go_roundw
        case rel => exact ⟨i + 1, q, out, rfl, by go_num, by omega, by omega, by omega, hbw, HN, hown⟩
        case measure => simp [intOf]; omega
    · obtain rfl : i = s.size := by omega
      have hE := HC.out
      rw [← hsz] at hE
      have HE := Lib.hid hE.end_
      have hx := extract_list s q s.size (Nat.le_refl _)
      rw [← hsz, List.take_length] at hx
      have HX := Lib.hid hx
      have hbs := hbw.size
      clear hE hx
      go_wp2_with (at_builtin; refine wpl_app (by rfl) _ _ _ (by rfl) w.heap.size 9 i0 _ 1 16 Tryz.underlying108 hi0 hz0 hz1 hz2 rfl (by omega) u5 _ _ (by rfl) (own_ext hown.out ((Ext.refl _).alloc _)) wr.heap.size 1 [.string (s.extract q s.size)] rfl (by rfl) (news_new wr _ _ _ rfl) (oneS1 _) (by omega) (by omega) (by simp; omega) ?_; intro g cap w3 own3 hext3)
      go_ret
      refine ⟨⟨_, rfl, ?_⟩, hext3 _ (Nat.le_refl _) (by (repeat (with_reducible first | exact Ext.refl _ | assumption | refine Ext.drew ?_ | refine Ext.drewN ?_ _ | refine Ext.alloc ?_ _ | refine Ext.trans ?_ (by with_reducible assumption))))⟩
      unfold OwnS partsB
      rw [HE.out, List.map_append, List.map_append, List.length_append, List.length_map]
      have h2 := own3
      rw [← hsz, ← HX.out] at h2
      exact h2

/-! ### Number -/
def numN (s : ByteArray) (m : Nat) : Int := match numR s m with | some v => (v : Int) | none => 0
theorem numN_some {s : ByteArray} {m v : Nat} (h : numR s m = some v) : numN s m = v := by unfold numN; rw [h]
theorem numN_none {s : ByteArray} {m : Nat} (h : numR s m = none) : numN s m = 0 := by unfold numN; rw [h]
theorem dec_stop {l : List UInt8} {j v : Nat} {b : UInt8} (h : Lib.decFrom 0 (l.take j) = some v) (hb : l[j]? = some b) : (Lib.digitVal b = none → Lib.decFrom 0 l = none) ∧ ∀ d, Lib.digitVal b = some d → Lib.decFrom 0 (l.take (j + 1)) = some (v * 10 + d) := by
  have ht : l.take (j + 1) = l.take j ++ [b] := by rw [List.take_add_one, hb]; rfl
  constructor
  · intro hd
    cases hl : Lib.decFrom 0 l with
    | none => rfl
    | some n =>
      obtain ⟨m, hm⟩ := Lib.decFrom_prefix l 0 n hl (j + 1)
      rw [ht, decFrom_snoc, h, hd] at hm
      cases hm
  · intro d hd
    rw [ht, decFrom_snoc, h, hd]; rfl
theorem dec_lt9 {l : List UInt8} {j v : Nat} (hj : j ≤ 9) (h : Lib.decFrom 0 (l.take j) = some v) : v < 1000000000 := by
  have h1 := Lib.decFrom_lt _ _ _ h
  have h2 : (l.take j).length ≤ 9 := by rw [List.length_take]; omega
  have h3 : 10 ^ (l.take j).length ≤ 10 ^ 9 := Nat.pow_le_pow_right (by decide) h2
  omega
theorem dig_yes {b : UInt8} (h : 48 ≤ b.toNat ∧ b.toNat ≤ 57) : Lib.digitVal b = some (b.toNat - 48) := if_pos h
theorem dig_no {b : UInt8} (h : ¬ (48 ≤ b.toNat ∧ b.toNat ≤ 57)) : Lib.digitVal b = none := if_neg h

set_option maxRecDepth 100000 in
set_option maxHeartbeats 2000000 in
theorem RNumber_any (s : ByteArray) (m : Nat) (w : World) (hm : m ≤ 9) :
    Calls Tryz.prog 69 #[.string s, .int .i64 m] w fun e w' => e = .returned (.tuple #[.int .i64 (numN s m), .bool (numR s m).isSome]) ∧ Ext w w' := by
  by_cases h0 : s.size = 0
  · have hno : numR s m = none := by unfold numR; rw [if_pos (.inl h0)]
    rw [numN_none hno, hno]
    have e1 : s.data.toList = [] := List.eq_nil_of_length_eq_zero h0
    obtain rfl := ba_extQ e1
    clear hno h0 e1
    go_enter Tryz.func69, Tryz.ntmps69
    go_wp2_with fail
    go_ret2
    exact ⟨rfl, Ext.refl _⟩
  obtain ⟨p1, p2⟩ := str_someQ (s := s) (by omega)
  by_cases h1 : m < s.size
  · have hno : numR s m = none := by unfold numR; rw [if_pos (.inr (.inl h1))]
    rw [numN_none hno, hno]
    have h1i : (m : Int) < (s.size : Int) := by omega
    clear hno h0
    go_enter Tryz.func69, Tryz.ntmps69
    go_wp2_with fail
    go_ret2
    exact ⟨rfl, Ext.refl _⟩
  have hl : s.data.toList.length = s.size := rfl
  have hpos : 0 < s.size := by omega
  have hhd : s.data.toList.head? = some s[0] := by
    rw [List.head?_eq_getElem?, List.getElem?_eq_getElem (by rw [hl]; exact hpos)]; rfl
  obtain ⟨b0, hb0⟩ : ∃ b, s[0] = b := ⟨_, rfl⟩
  rw [hb0] at hhd
  have hb256 := b0.toNat_lt
  have h1i : ¬ (m : Int) < (s.size : Int) := by omega
  by_cases h2 : b0 = 48 ∧ 1 < s.size
  · have hno : numR s m = none := by unfold numR; rw [if_pos (.inr (.inr ⟨by rw [hhd, h2.1], h2.2⟩))]
    rw [numN_none hno, hno]
    obtain ⟨rfl, h3⟩ := h2
    have h3i : (1 : Int) < (s.size : Int) := by omega
    clear hno h0 hhd hl
    go_enter Tryz.func69, Tryz.ntmps69
    go_wp2_with fail
    go_ret2
    exact ⟨rfl, Ext.refl _⟩
  have hnum : numR s m = Lib.decFrom 0 s.data.toList := by
    unfold numR
    rw [if_neg]
    rintro (h | h | ⟨h, h'⟩)
    · exact h0 h
    · exact h1 h
    · rw [hhd] at h
      injection h with h
      exact h2 ⟨h, h'⟩
  have HNU := Lib.hid hnum
  have HL := Lib.hid hl
  have hg : (((b0.toNat : Int) == 48) = false ∧ ¬ b0.toNat = 48) ∨ (b0 = 48 ∧ s.size = 1) := by
    by_cases e : b0 = 48
    · exact .inr ⟨e, by have h9 : ¬ 1 < s.size := fun h => h2 ⟨e, h⟩; omega⟩
    · have e2 : ¬ b0.toNat = 48 := fun h => e (UInt8.toNat_inj.1 h)
      exact .inl ⟨by simp; omega, e2⟩
  have hs9 : s.size ≤ 9 := by omega
  have HR1 : Hid (∀ v, Lib.decFrom 0 s.data.toList = some v → numN s m = v ∧ (numR s m).isSome = true) := Lib.hid fun v h => by
    have h3 := hnum.trans h
    exact ⟨numN_some h3, by rw [h3]; rfl⟩
  have HR2 : Hid (Lib.decFrom 0 s.data.toList = none → numN s m = 0 ∧ (numR s m).isSome = false) := Lib.hid fun h => by
    have h3 := hnum.trans h
    exact ⟨numN_none h3, by rw [h3]; rfl⟩
  obtain ⟨nv, hnv⟩ : ∃ x, numN s m = x := ⟨_, rfl⟩
  obtain ⟨ns, hns⟩ : ∃ x, (numR s m).isSome = x := ⟨_, rfl⟩
  rw [hnv, hns] at HR1 HR2
  rw [hnv, hns]
  clear hnum hl hhd h2 h1 hnv hns h0
  rcases hg with ⟨hg1, hg2⟩ | ⟨rfl, hg2⟩
  all_goals
    go_enter Tryz.func69, Tryz.ntmps69
    go_wp2_with fail
    go_loopw [6, 7] (fun a x wr => ∃ j v : Nat, a = .int .i64 (v : Nat) ∧ x = .int .i64 (j : Nat) ∧ j ≤ s.size ∧ v < 1000000000 ∧ Ext w wr ∧ Hid (Lib.decFrom 0 (s.data.toList.take j) = some v)) (fun _ x _ => s.size - (intOf x).toNat)
    case atStart => exact ⟨0, 0, rfl, rfl, Nat.zero_le _, by omega, Ext.refl _, rfl⟩
    case round =>
      obtain ⟨j, v, rfl, rfl, hj, hv, hbw, hgo⟩ := hrel
      by_cases hc : j < s.size
      · have hgj : s.data.toList[j]? = some s[j] := by
          rw [List.getElem?_eq_getElem (by rw [HL.out]; exact hc)]; rfl
        have HA := Lib.hid (dec_stop hgo.out hgj)
        clear hb0
        obtain ⟨b, hb⟩ : ∃ b, s[j] = b := ⟨_, rfl⟩
        rw [hb] at HA
        have hbb := b.toNat_lt
        clear hgj
        by_cases q1 : 48 ≤ b.toNat ∧ b.toNat ≤ 57
        · have H1 := Lib.hid (HA.out.2 _ (dig_yes q1))
          have hlt := dec_lt9 (by omega) H1.out
          obtain ⟨q2, q3⟩ := q1
          have q4 : (48 : Int) ≤ (b.toNat : Int) := by omega
          have q5 : (b.toNat : Int) ≤ 57 := by omega
          have E1 : Hid ((v : Int) * 10 + (b.toNat : Int) - 48 = ((v * 10 + (b.toNat - 48) : Nat) : Int)) := by show _ = _; omega
          clear HA
          go_wp2_with fail
          go_roundw
          case rel => exact ⟨j + 1, _, by rw [E1.out], by go_num, by omega, hlt, hbw, H1.out⟩
          case measure => simp [intOf]; omega
        · obtain ⟨rfl, rfl⟩ := HR2.out (HA.out.1 (dig_no q1))
          have h3 : (¬ 48 ≤ b.toNat) ∨ (48 ≤ b.toNat ∧ ¬ b.toNat ≤ 57) := by omega
          clear HA q1 HR1 HR2
          rcases h3 with q2 | ⟨q2, q3⟩
          · have p4 : ¬ (48 : Int) ≤ (b.toNat : Int) := by omega
            go_wp2_with fail
            go_ret2
            exact ⟨rfl, hbw⟩
          · have p3 : ¬ (b.toNat : Int) ≤ 57 := by omega
            have p4 : (48 : Int) ≤ (b.toNat : Int) := by omega
            go_wp2_with fail
            go_ret2
            exact ⟨rfl, hbw⟩
      · obtain rfl : j = s.size := by omega
        have hE := hgo.out
        rw [← HL.out, List.take_length] at hE
        obtain ⟨rfl, rfl⟩ := HR1.out v hE
        clear hE
        go_wp2_with fail
        go_ret2
        exact ⟨rfl, hbw⟩

set_option maxRecDepth 100000 in
set_option maxHeartbeats 1000000 in
theorem RHeadText_any (h : Hd) (w : World) (hok : h.ok = true) :
    Calls Tryz.prog 12 #[h.val] w fun e w' => e = .returned (.string (headB h)) ∧ Ext w w' := by
  obtain ⟨k1, k2, k3, k4, k5, k6⟩ := Hd.ok_parts hok
  obtain ⟨k7, k8⟩ := vld_true k5
  obtain ⟨k9, k10⟩ := vld_true k6
  have HHB : Hid (headB h = four4 (digB h.size.toNat) (hexT h.root.toNat) (digB h.time.toNat) (hexT h.sign.toNat)) := rfl
  obtain ⟨a, b, c, d⟩ := h
  simp only at k1 k2 k3 k4 k5 k6 k7 k8 k9 k10
  obtain ⟨a, rfl⟩ := Int.eq_ofNat_of_zero_le k1
  obtain ⟨b, rfl⟩ := Int.eq_ofNat_of_zero_le k7
  obtain ⟨c, rfl⟩ := Int.eq_ofNat_of_zero_le k3
  obtain ⟨d, rfl⟩ := Int.eq_ofNat_of_zero_le k9
  simp only [Int.toNat_natCast] at HHB
  have HI1 := Lib.hid fun W => RDigits_any a a W (Nat.le_refl _) (by omega)
  have HI2 := Lib.hid fun W => RDigits_any c c W (Nat.le_refl _) (by omega)
  have HT1 := Lib.hid fun W => RText_any b W (by omega)
  have HT2 := Lib.hid fun W => RText_any d W (by omega)
  have s1 := hexT_size b
  have s2 := hexT_size d
  have s3 : (digB a).size ≤ 7 := digB_small 6 _ (by show _ < 10000000; omega)
  have s4 : (digB c).size ≤ 7 := digB_small 6 _ (by show _ < 10000000; omega)
  obtain ⟨t1, ht1⟩ : ∃ t, digB a = t := ⟨_, rfl⟩
  obtain ⟨t2, ht2⟩ : ∃ t, hexT b = t := ⟨_, rfl⟩
  obtain ⟨t3, ht3⟩ : ∃ t, digB c = t := ⟨_, rfl⟩
  obtain ⟨t4, ht4⟩ : ∃ t, hexT d = t := ⟨_, rfl⟩
  rw [ht1] at HI1 HHB s3
  rw [ht2] at HT1 HHB s1
  rw [ht3] at HI2 HHB s4
  rw [ht4] at HT2 HHB s2
  have HF : Hid (four4 t1 t2 t3 t4 = t1 ++ ⟨#[32]⟩ ++ t2 ++ ⟨#[32]⟩ ++ t3 ++ ⟨#[32]⟩ ++ t4) := rfl
  obtain ⟨hb, hhb⟩ : ∃ x, headB ⟨(a : Int), (b : Int), (c : Int), (d : Int)⟩ = x := ⟨_, rfl⟩
  rw [hhb] at HHB
  rw [hhb]
  have B0 := Bk.at_ w 23 #[.int .i64 a, .int .i64 b, .int .i64 c, .int .i64 d] w.heap.size rfl
  have e0 : Ext w (w.alloc (.cells #[.int .i64 a, .int .i64 b, .int .i64 c, .int .i64 d] 23)) := by (repeat (with_reducible first | exact Ext.refl _ | assumption | refine Ext.drew ?_ | refine Ext.drewN ?_ _ | refine Ext.alloc ?_ _ | refine Ext.trans ?_ (by with_reducible assumption)))
  clear ht1 ht2 ht3 ht4 hhb k1 k2 k3 k4 k5 k6 k7 k8 k9 k10 hok
  obtain ⟨g0, hg0⟩ : ∃ g, w.heap.size = g := ⟨_, rfl⟩
  rw [hg0] at B0
  have y0 := B0.cell 0
  go_enter Tryz.func12, Tryz.ntmps12
  go_upto_region 1 with (fail)
  try rw [hg0]
  generalize w.alloc (.cells #[.int .i64 a, .int .i64 b, .int .i64 c, .int .i64 d] 23) = W0 at *
  have HE0 := Lib.hid e0
  clear e0 hg0
  go_wp2_with fail
  refine (HI1.out _).mono ?_
  rintro _ w1 ⟨rfl, hb1⟩
  have y1 := (B0.ext hb1).cell 1
  go_wp2_with fail
  refine (HT1.out _).mono ?_
  rintro _ w2 ⟨rfl, hb2⟩
  have hb12 := hb1.trans hb2
  have y2 := (B0.ext hb12).cell 2
  go_wp2_with fail
  refine (HI2.out _).mono ?_
  rintro _ w3 ⟨rfl, hb3⟩
  have hb13 := hb12.trans hb3
  have y3 := (B0.ext hb13).cell 3
  go_wp2_with fail
  refine (HT2.out _).mono ?_
  rintro _ w4 ⟨rfl, hb4⟩
  go_wp2_with fail
  go_ret
  exact ⟨ret_str (by rw [HHB.out, HF.out]), HE0.out.trans (hb13.trans hb4)⟩
/-! ### ReadHead -/
def RHP (s : ByteArray) (e : Ending) : Prop := e = .returned (.tuple #[(headR s).1.val, .int .i64 (headR s).2])
theorem RHP.of {s : ByteArray} {z : Hd × Int} (h : headR s = z) {e : Ending} (he : e = .returned (.tuple #[z.1.val, .int .i64 z.2])) : RHP s e := by unfold RHP; rw [h]; exact he

set_option maxRecDepth 100000 in
set_option maxHeartbeats 4000000 in
theorem RReadHead_any (s : ByteArray) (w : World) (hs : s.size ≤ 1048576) :
    Calls Tryz.prog 14 #[.string s] w fun e w' => RHP s e ∧ Ext w w' := by
  have B0 := Bk.at_ w 23 #[.int .i64 0, .int .i64 0, .int .i64 0, .int .i64 0] w.heap.size rfl
  have e0 : Ext w (w.alloc (.cells #[.int .i64 0, .int .i64 0, .int .i64 0, .int .i64 0] 23)) := by (repeat (with_reducible first | exact Ext.refl _ | assumption | refine Ext.drew ?_ | refine Ext.drewN ?_ _ | refine Ext.alloc ?_ _ | refine Ext.trans ?_ (by with_reducible assumption)))
  have HSP := Lib.hid fun W => RCut_any s 32 W hs
  have HNU := Lib.hid fun (x : ByteArray) W => RNumber_any x 9 W (by omega)
  have HMP := Lib.hid fun (x : ByteArray) W => RRead_any x W
  have HHC := Lib.hid fun h W => RHead_any h W
  obtain ⟨g0, hg0⟩ : ∃ g, w.heap.size = g := ⟨_, rfl⟩
  rw [hg0] at B0
  have HB0 := Lib.hid B0
  have HE0 := Lib.hid e0
  have HG := Lib.hid hg0
  clear B0 e0
  by_cases h4 : (partsB 32 s).length = 4
  case neg =>
    have HH := Lib.hid (headR_not h4)
    obtain ⟨q, hq⟩ : ∃ q, (partsB 32 s).length = q := ⟨_, rfl⟩
    have HQ := Lib.hid hq
    rw [hq] at h4
    have q1 : ((q : Int) != 4) = true := by simp; omega
    clear hq h4 HNU HMP HHC
    go_enter Tryz.func14, Tryz.ntmps14
    go_upto_region 1 with (fail)
    try rw [hg0]
    generalize (w.alloc (.cells #[.int .i64 0, .int .i64 0, .int .i64 0, .int .i64 0] 23)) = W0 at *
    clear hg0
    go_wp2_with fail
    refine (HSP.out _).mono ?_
    rintro _ w1 ⟨⟨v1, rfl, own1⟩, hb1⟩
    obtain ⟨A1, c1, rfl, hc1, R1, -⟩ := own_rd own1
    rw [HQ.out]
    have HB1 := Lib.hid (HB0.out.ext hb1)
    have HE1 := Lib.hid (HE0.out.trans hb1)
    clear own1 R1
    have z0 := HB1.out.cell 0
    have z1 := HB1.out.cell 1
    have z2 := HB1.out.cell 2
    have z3 := HB1.out.cell 3
    have y0 := HB1.out.frozen 0
    have y1 := HB1.out.frozen 1
    have y2 := HB1.out.frozen 2
    have y3 := HB1.out.frozen 3
    go_wp2_with fail
    have P := HB1.out.put4 (.int .i64 0) (.int .i64 0) (.int .i64 0) (.int .i64 0)
    have p0 := P.cell 0
    have p1 := P.cell 1
    have p2 := P.cell 2
    have p3 := P.cell 3
    refine bodyPost_ret (by simp [results, Tryz.results14, go_sem, p0, p1, p2, p3]; try rfl) rfl ?_
    exact ⟨RHP.of HH.out rfl, HE1.out.put4 (by rw [HG.out]; exact Nat.le_refl _) _ _ _ _⟩
  obtain ⟨a, b, c, d, hp⟩ := four_list h4
  have HQ := Lib.hid (headR_four hp)
  have HSP2 : Hid (∀ W, Calls Tryz.prog 68 #[.string s, .int .u8 32] W fun e w' => (∃ v, e = .returned v ∧ w'.ownsRow W.heap.size 9 1 v 4 [.string a, .string b, .string c, .string d]) ∧ Ext W w') := Lib.hid fun W => by
    have h := HSP.out W
    rw [hp] at h
    exact h
  have HN1 := Lib.hid (HNU.out a)
  have HN3 := Lib.hid (HNU.out c)
  have HM2 := Lib.hid (HMP.out b)
  have HM4 := Lib.hid (HMP.out d)
  have HQ1 := Lib.hid (headR_none1 (a := a) (b := b) (c := c) (d := d))
  have HQ2 := Lib.hid fun n t h1 h2 => headQ_some (a := a) (b := b) (c := c) (d := d) (n := n) (t := t) h1 h2
  have hkb := readK_vals b
  have hkd := readK_vals d
  obtain ⟨kb, hkb'⟩ : ∃ x, readK b = x := ⟨_, rfl⟩
  obtain ⟨kd, hkd'⟩ : ∃ x, readK d = x := ⟨_, rfl⟩
  obtain ⟨vb, hvb⟩ : ∃ x, readV b = x := ⟨_, rfl⟩
  obtain ⟨vd, hvd⟩ : ∃ x, readV d = x := ⟨_, rfl⟩
  rw [hkb'] at hkb HM2 HQ2
  rw [hkd'] at hkd HM4 HQ2
  rw [hvb] at HM2 HQ2
  rw [hvd] at HM4 HQ2
  have hnS := fun (x : ByteArray) (v : Nat) (h : numR x 9 = some v) => numN_some h
  have HNS := Lib.hid hnS
  obtain ⟨na, hna⟩ : ∃ x, numR a 9 = x := ⟨_, rfl⟩
  obtain ⟨nc, hnc⟩ : ∃ x, numR c 9 = x := ⟨_, rfl⟩
  obtain ⟨xa, hxa⟩ : ∃ x, numN a 9 = x := ⟨_, rfl⟩
  obtain ⟨xc, hxc⟩ : ∃ x, numN c 9 = x := ⟨_, rfl⟩
  rw [hna, hxa] at HN1
  rw [hnc, hxc] at HN3
  have HXA : Hid (∀ v, na = some v → xa = (v : Int)) := Lib.hid fun v h => by rw [← hxa]; exact numN_some (hna.trans h)
  have HXC : Hid (∀ v, nc = some v → xc = (v : Int)) := Lib.hid fun v h => by rw [← hxc]; exact numN_some (hnc.trans h)
  rw [hna, hnc] at HQ1
  have HQ3 : Hid (∀ n t, na = some n → nc = some t → headQ a b c d = if kb = 2 ∨ kd = 2 then (hd0, 2) else if kb ≠ 0 ∨ kd ≠ 0 ∨ Hd.ok ⟨(n : Int), vb, (t : Int), vd⟩ = false then (hd0, 1) else (⟨(n : Int), vb, (t : Int), vd⟩, 0)) := Lib.hid fun n t h1 h2 => HQ2.out n t (hna.trans h1) (hnc.trans h2)
  clear hkb' hkd' hvb hvd hna hnc hxa hxc hp h4 HSP HNU HMP HQ2 hnS HNS
  go_enter Tryz.func14, Tryz.ntmps14
  go_upto_region 1 with (fail)
  try rw [hg0]
  generalize (w.alloc (.cells #[.int .i64 0, .int .i64 0, .int .i64 0, .int .i64 0] 23)) = W0 at *
  clear hg0
  go_wp2_with fail
  refine (HSP2.out _).mono ?_
  rintro _ w1 ⟨⟨v1, rfl, own1⟩, hb1⟩
  obtain ⟨A1, c1, rfl, hc1, R1, -⟩ := own_rd own1
  obtain ⟨ad, rfl, hb1', -⟩ := R1.at_ (j := 0) (u := .string a) rfl
  have h4c : 4 ≤ c1 := R1.2.1
  have hc1s : c1 ≤ 9223372036854775807 := by unfold maxLen at hc1; omega
  have hcell : ∀ W, Ext w1 W → W.cell? ad = some (.string a) ∧ W.cell? ⟨ad.block, ad.off + 1, none⟩ = some (.string b) ∧ W.cell? ⟨ad.block, ad.off + 2, none⟩ = some (.string c) ∧ W.cell? ⟨ad.block, ad.off + 3, none⟩ = some (.string d) := fun W e => by
    obtain ⟨ad', h1, hl, hh⟩ := (R1.ext e).2.2 (by omega)
    obtain rfl : ad = ad' := by injection h1
    have h0 := hh 0 _ rfl
    rw [add_zero'] at h0
    exact ⟨h0, hh 1 _ rfl, hh 2 _ rfl, hh 3 _ rfl⟩
  have HCL := Lib.hid hcell
  have HE1 := Lib.hid (HE0.out.trans hb1)
  have HB1 := Lib.hid (HB0.out.ext hb1)
  clear own1 R1 hcell hb1 HSP2 HB0 HE0
  obtain ⟨c0, c1', c2, c3⟩ := HCL.out w1 (Ext.refl _)
  go_wp2_with fail
  refine (HN1.out _).mono ?_
  rintro _ w2 ⟨rfl, hb2⟩
  clear c0 c1' c2 c3
  obtain ⟨c0, c1', c2, c3⟩ := HCL.out w2 hb2
  go_wp2_with fail
  refine (HM2.out _).mono ?_
  rintro _ w3 ⟨rfl, hb3⟩
  clear c0 c1' c2 c3
  have e13 := hb2.trans hb3
  obtain ⟨c0, c1', c2, c3⟩ := HCL.out w3 e13
  go_wp2_with fail
  refine (HN3.out _).mono ?_
  rintro _ w4 ⟨rfl, hb4⟩
  clear c0 c1' c2 c3
  have e14 := e13.trans hb4
  obtain ⟨c0, c1', c2, c3⟩ := HCL.out w4 e14
  go_wp2_with fail
  refine (HM4.out _).mono ?_
  rintro _ w5 ⟨rfl, hb5⟩
  have e15 := e14.trans hb5
  have HE5 := Lib.hid (HE1.out.trans e15)
  have HB5 := Lib.hid (HB1.out.ext e15)
  clear c0 c1' c2 c3 hb2 hb3 hb4 hb5 e13 e14 e15 HE1 HB1 HCL HN1 HN3 HM2 HM4
  have hn34 : na = none ∨ (∃ n, na = some n ∧ nc = none) ∨ (∃ n t, na = some n ∧ nc = some t) := by
    cases na with
    | none => exact .inl rfl
    | some n =>
      cases nc with
      | none => exact .inr (.inl ⟨n, rfl, rfl⟩)
      | some t => exact .inr (.inr ⟨n, t, rfl, rfl⟩)
  rcases hn34 with rfl | ⟨n, rfl, rfl⟩ | ⟨n, t, rfl, rfl⟩
  · have HH := Lib.hid (HQ.out.trans (HQ1.out (.inl rfl)))
    clear HQ1 HQ3 HXC HXA
    obtain ⟨sc, hsc⟩ : ∃ x, nc.isSome = x := ⟨_, rfl⟩
    rw [hsc]
    clear hsc
    simp only [Option.isSome]
    have z0 := HB5.out.cell 0
    have z1 := HB5.out.cell 1
    have z2 := HB5.out.cell 2
    have z3 := HB5.out.cell 3
    have y0 := HB5.out.frozen 0
    have y1 := HB5.out.frozen 1
    have y2 := HB5.out.frozen 2
    have y3 := HB5.out.frozen 3
    go_wp2_with fail
    have P := HB5.out.put4 (.int .i64 0) (.int .i64 0) (.int .i64 0) (.int .i64 0)
    have p0 := P.cell 0
    have p1 := P.cell 1
    have p2 := P.cell 2
    have p3 := P.cell 3
    refine bodyPost_ret (by simp [results, Tryz.results14, go_sem, p0, p1, p2, p3]; try rfl) rfl ?_
    exact ⟨RHP.of HH.out rfl, HE5.out.put4 (by rw [HG.out]; exact Nat.le_refl _) _ _ _ _⟩
  · have HH := Lib.hid (HQ.out.trans (HQ1.out (.inr rfl)))
    simp only [Option.isSome]
    have z0 := HB5.out.cell 0
    have z1 := HB5.out.cell 1
    have z2 := HB5.out.cell 2
    have z3 := HB5.out.cell 3
    have y0 := HB5.out.frozen 0
    have y1 := HB5.out.frozen 1
    have y2 := HB5.out.frozen 2
    have y3 := HB5.out.frozen 3
    go_wp2_with fail
    have P := HB5.out.put4 (.int .i64 0) (.int .i64 0) (.int .i64 0) (.int .i64 0)
    have p0 := P.cell 0
    have p1 := P.cell 1
    have p2 := P.cell 2
    have p3 := P.cell 3
    refine bodyPost_ret (by simp [results, Tryz.results14, go_sem, p0, p1, p2, p3]; try rfl) rfl ?_
    exact ⟨RHP.of HH.out rfl, HE5.out.put4 (by rw [HG.out]; exact Nat.le_refl _) _ _ _ _⟩
  obtain rfl := HXA.out n rfl
  obtain rfl := HXC.out t rfl
  have HQ4 := Lib.hid (HQ.out.trans (HQ3.out n t rfl rfl))
  simp only [Option.isSome]
  clear HQ HQ1 HQ3 HXA HXC
  by_cases h2 : kb = 2
  · subst h2
    have HH := Lib.hid (HQ4.out.trans (if_pos (.inl rfl)))
    clear hkb hkd
    have z0 := HB5.out.cell 0
    have z1 := HB5.out.cell 1
    have z2 := HB5.out.cell 2
    have z3 := HB5.out.cell 3
    have y0 := HB5.out.frozen 0
    have y1 := HB5.out.frozen 1
    have y2 := HB5.out.frozen 2
    have y3 := HB5.out.frozen 3
    go_wp2_with fail
    have P := HB5.out.put4 (.int .i64 0) (.int .i64 0) (.int .i64 0) (.int .i64 0)
    have p0 := P.cell 0
    have p1 := P.cell 1
    have p2 := P.cell 2
    have p3 := P.cell 3
    refine bodyPost_ret (by simp [results, Tryz.results14, go_sem, p0, p1, p2, p3]; try rfl) rfl ?_
    exact ⟨RHP.of HH.out rfl, HE5.out.put4 (by rw [HG.out]; exact Nat.le_refl _) _ _ _ _⟩
  have q2 : (kb == 2) = false := by simp [h2]
  by_cases h2' : kd = 2
  · subst h2'
    have HH := Lib.hid (HQ4.out.trans (if_pos (.inr rfl)))
    clear hkb hkd h2
    have z0 := HB5.out.cell 0
    have z1 := HB5.out.cell 1
    have z2 := HB5.out.cell 2
    have z3 := HB5.out.cell 3
    have y0 := HB5.out.frozen 0
    have y1 := HB5.out.frozen 1
    have y2 := HB5.out.frozen 2
    have y3 := HB5.out.frozen 3
    go_wp2_with fail
    have P := HB5.out.put4 (.int .i64 0) (.int .i64 0) (.int .i64 0) (.int .i64 0)
    have p0 := P.cell 0
    have p1 := P.cell 1
    have p2 := P.cell 2
    have p3 := P.cell 3
    refine bodyPost_ret (by simp [results, Tryz.results14, go_sem, p0, p1, p2, p3]; try rfl) rfl ?_
    exact ⟨RHP.of HH.out rfl, HE5.out.put4 (by rw [HG.out]; exact Nat.le_refl _) _ _ _ _⟩
  have q3 : (kd == 2) = false := by simp [h2']
  have HQ5 := Lib.hid (HQ4.out.trans (if_neg (by omega)))
  have hk2 : (kb = 0 ∨ kb = 1) ∧ (kd = 0 ∨ kd = 1) := ⟨by omega, by omega⟩
  have HB6 := Lib.hid (HB5.out.alloc (.cells #[.int .i64 n, .int .i64 vb, .int .i64 t, .int .i64 vd] 23))
  have HA6 := Lib.hid (Bk.at_ w5 23 #[.int .i64 n, .int .i64 vb, .int .i64 t, .int .i64 vd] w5.heap.size rfl)
  have HE6 := Lib.hid (HE5.out.alloc (.cells #[.int .i64 n, .int .i64 vb, .int .i64 t, .int .i64 vd] 23))
  clear hkb hkd h2 h2' HQ4
  obtain ⟨hkb, hkd⟩ := hk2
  go_upto_region 11 with (fail)
  generalize w5.alloc (.cells #[.int .i64 n, .int .i64 vb, .int .i64 t, .int .i64 vd] 23) = W6 at *
  generalize w5.heap.size = g6 at *
  clear q2 q3 HB5 HE5
  rcases hkb with rfl | rfl
  · rcases hkd with rfl | rfl
    · have s0 := HA6.out.cell 0
      have s1 := HA6.out.cell 1
      have s2 := HA6.out.cell 2
      have s3 := HA6.out.cell 3
      cases hok : Hd.ok ⟨(n : Int), vb, (t : Int), vd⟩ with
      | false =>
        have HH := Lib.hid (HQ5.out.trans (if_pos (.inr (.inr hok))))
        have HC := Lib.hid fun W => HHC.out ⟨(n : Int), vb, (t : Int), vd⟩ W
        have hk : hdK ⟨(n : Int), vb, (t : Int), vd⟩ = 1 := if_neg (by rw [hok]; decide)
        rw [hk] at HC
        simp only [Hd.val] at HC
        clear hok hk
        go_wp2_with fail
        refine (HC.out _).mono ?_
        rintro _ w8 ⟨rfl, hb8⟩
        have HB8 := Lib.hid (HB6.out.ext hb8)
        have HE8 := Lib.hid (HE6.out.trans hb8)
        clear s0 s1 s2 s3
        have z0 := HB8.out.cell 0
        have z1 := HB8.out.cell 1
        have z2 := HB8.out.cell 2
        have z3 := HB8.out.cell 3
        have y0 := HB8.out.frozen 0
        have y1 := HB8.out.frozen 1
        have y2 := HB8.out.frozen 2
        have y3 := HB8.out.frozen 3
        go_wp2_with fail
        have P := HB8.out.put4 (.int .i64 0) (.int .i64 0) (.int .i64 0) (.int .i64 0)
        have p0 := P.cell 0
        have p1 := P.cell 1
        have p2 := P.cell 2
        have p3 := P.cell 3
        refine bodyPost_ret (by simp [results, Tryz.results14, go_sem, p0, p1, p2, p3]; try rfl) rfl ?_
        exact ⟨RHP.of HH.out rfl, HE8.out.put4 (by rw [HG.out]; exact Nat.le_refl _) _ _ _ _⟩
      | true =>
        have HH : Hid (headR s = (⟨(n : Int), vb, (t : Int), vd⟩, 0)) := Lib.hid (HQ5.out.trans (if_neg (by rw [hok]; simp)))
        have HC := Lib.hid fun W => HHC.out ⟨(n : Int), vb, (t : Int), vd⟩ W
        have hk : hdK ⟨(n : Int), vb, (t : Int), vd⟩ = 0 := if_pos hok
        rw [hk] at HC
        simp only [Hd.val] at HC
        clear hok hk
        go_wp2_with fail
        refine (HC.out _).mono ?_
        rintro _ w8 ⟨rfl, hb8⟩
        have HB8 := Lib.hid (HB6.out.ext hb8)
        have HE8 := Lib.hid (HE6.out.trans hb8)
        have A8 := HA6.out.ext hb8
        clear s0 s1 s2 s3
        have s0 := A8.cell 0
        have s1 := A8.cell 1
        have s2 := A8.cell 2
        have s3 := A8.cell 3
        have z0 := HB8.out.cell 0
        have z1 := HB8.out.cell 1
        have z2 := HB8.out.cell 2
        have z3 := HB8.out.cell 3
        have y0 := HB8.out.frozen 0
        have y1 := HB8.out.frozen 1
        have y2 := HB8.out.frozen 2
        have y3 := HB8.out.frozen 3
        go_wp2_with fail
        have P := HB8.out.put4 (.int .i64 n) (.int .i64 vb) (.int .i64 t) (.int .i64 vd)
        have p0 := P.cell 0
        have p1 := P.cell 1
        have p2 := P.cell 2
        have p3 := P.cell 3
        refine bodyPost_ret (by simp [results, Tryz.results14, go_sem, p0, p1, p2, p3]; try rfl) rfl ?_
        exact ⟨RHP.of HH.out rfl, HE8.out.put4 (by rw [HG.out]; exact Nat.le_refl _) _ _ _ _⟩
    · have HH := Lib.hid (HQ5.out.trans (if_pos (.inr (.inl (by decide)))))
      have z0 := HB6.out.cell 0
      have z1 := HB6.out.cell 1
      have z2 := HB6.out.cell 2
      have z3 := HB6.out.cell 3
      have y0 := HB6.out.frozen 0
      have y1 := HB6.out.frozen 1
      have y2 := HB6.out.frozen 2
      have y3 := HB6.out.frozen 3
      go_wp2_with fail
      have P := HB6.out.put4 (.int .i64 0) (.int .i64 0) (.int .i64 0) (.int .i64 0)
      have p0 := P.cell 0
      have p1 := P.cell 1
      have p2 := P.cell 2
      have p3 := P.cell 3
      refine bodyPost_ret (by simp [results, Tryz.results14, go_sem, p0, p1, p2, p3]; try rfl) rfl ?_
      exact ⟨RHP.of HH.out rfl, HE6.out.put4 (by rw [HG.out]; exact Nat.le_refl _) _ _ _ _⟩
  · have HH := Lib.hid (HQ5.out.trans (if_pos (.inl (by decide))))
    have z0 := HB6.out.cell 0
    have z1 := HB6.out.cell 1
    have z2 := HB6.out.cell 2
    have z3 := HB6.out.cell 3
    have y0 := HB6.out.frozen 0
    have y1 := HB6.out.frozen 1
    have y2 := HB6.out.frozen 2
    have y3 := HB6.out.frozen 3
    go_wp2_with fail
    have P := HB6.out.put4 (.int .i64 0) (.int .i64 0) (.int .i64 0) (.int .i64 0)
    have p0 := P.cell 0
    have p1 := P.cell 1
    have p2 := P.cell 2
    have p3 := P.cell 3
    refine bodyPost_ret (by simp [results, Tryz.results14, go_sem, p0, p1, p2, p3]; try rfl) rfl ?_
    exact ⟨RHP.of HH.out rfl, HE6.out.put4 (by rw [HG.out]; exact Nat.le_refl _) _ _ _ _⟩
end Go.Proofs.YtelcabjhbgkfmaaGreatDoor
