/- lsm: All, Tables. -/
import Derived.Test.YtblojobgchkipaaLsm10
import Derived.Laws.AppendOwnNone
namespace Go.Proofs.Ytblojobgchkipaa
open Go.RowKit Go.WideShapes
set_option linter.unusedVariables false
attribute [local go_sem ↓] Go.wp_at_zero Go.wp_at_succ

theorem info_strT : (Try.prog.info? 9).map (fun i => (i.zero, i.size, i.bytes)) = some (some (.string ⟨#[]⟩), 1, 16) := by kernel_rfl
theorem own_row1 (w : World) (v : Value) (hv : v.oneCell' = true) : (w.alloc (.cells #[v] 22)).ownsRow w.heap.size 22 1 (.slice (some ⟨w.heap.size, 0, none⟩) 1 1) 1 [v] :=
  ⟨rfl, .inr ⟨w.heap.size, 1, #[v], rfl, Nat.le_refl _, Bk.at_ w _ _ w.heap.size rfl, Nat.le_refl _, by unfold maxLen; omega, rfl, rfl⟩⟩
theorem OwLs.cons {w : World} {vs : List Value} {T : List (List Pr)} (h : OwLs w vs T) {v : Value} {es : List Pr} {n : Nat} (hr : w.ownsRow 0 28 3 v n (es.flatMap Pr.cells)) (hn : es.length = n) : OwLs w (v :: vs) (es :: T) := by
  subst hn
  refine ⟨by rw [List.length_cons, List.length_cons, h.1], fun i u fs hv hT => ?_⟩
  cases i with
  | zero =>
    obtain rfl : v = u := by simpa using hv
    obtain rfl : es = fs := by simpa using hT
    exact hr
  | succ i => exact h.2 i u fs (by simpa using hv) (by simpa using hT)

set_option maxRecDepth 100000 in
set_option maxHeartbeats 2000000 in
theorem LAll_any (F : Nat → Prop) (x : Nat) (lim : Int) (Y : List Pr) (T : List (List Pr)) (w : World) (h : LM w F x lim Y T) (htot : totL (Y :: T) ≤ 1000) :
    Calls Try.prog 34 #[.pointer (some ⟨x, 0, none⟩)] w fun e w' => (∃ v', e = .returned v' ∧ w'.ownsRow w.heap.size 28 3 v' (liveL (Y :: T)).length ((liveL (Y :: T)).flatMap Pr.cells)) ∧ Ext w w' := by
  have HM := Lib.hid h
  have HTOT := Lib.hid htot
  have hT8 := h.many.2.1
  obtain ⟨sb, sv, lv, ts, hL, -, -⟩ := h
  have c1 : w.cell? ⟨x, 1, none⟩ = some (.pointer (some ⟨sb, 0, none⟩)) := hL.bk.cell 1
  have hc := SAll_any 0 sb sv Y w hL.st
  obtain ⟨yl, hyl⟩ : ∃ n, Y.length = n := ⟨_, rfl⟩
  rw [hyl] at hc
  have HYL := Lib.hid hyl
  have HC := Lib.hid hc
  clear hL htot hyl hc
  go_enter Try.func34, Try.ntmps34
  go_wp2_with fail
  refine HC.out.mono ?_
  rintro _ w1 ⟨⟨v1, rfl, o1⟩, hb1⟩
  obtain ⟨A1, c1', rfl, -, -, -⟩ := own_rd o1
  have e2 : Ext w1 (w1.alloc (.cells #[.slice A1 yl c1'] 22)) := (Ext.refl _).alloc _
  have O2 := Lib.hid (own_row1 w1 (.slice A1 yl c1') rfl)
  have HO1 := Lib.hid (own_ext (own_lower o1 (Nat.zero_le _)) e2)
  have e2w := hb1.trans e2
  have HLC := Lib.hid (lists_any F x lim Y T _ (HM.out.ext e2w))
  have hw1 := hb1.size
  clear o1 c1 HC
  go_wp2_with fail
  refine HLC.out.mono ?_
  rintro _ w3 ⟨⟨v3, vs, rfl, o3, R3⟩, hb3⟩
  have e3w := e2w.trans hb3
  have O3 := Lib.hid (own_ext O2.out hb3)
  have HO3 := Lib.hid (own_ext HO1.out hb3)
  have HR3 := Lib.hid R3
  obtain ⟨n, hn⟩ : ∃ n, T.length = n := ⟨_, rfl⟩
  rw [hn] at o3 hT8
  have HN := Lib.hid hn
  have HO33 := Lib.hid o3
  obtain ⟨A3, c3, hv3', hc3, hr3, hnil⟩ := own_rd o3
  have hlen : vs.length = n := by have := hr3.1; omega
  have hfin : ∀ (v9 : Value) (w9 : World), w9.ownsRow w1.heap.size 22 1 v9 (1 + n) ([.slice A1 yl c1'] ++ vs) → w3.grownBy w9 (Value.slice (some ⟨w1.heap.size, 0, none⟩) 1 1).ownBlock →
      ∃ A9 c9, v9 = .slice A9 (1 + n) c9 ∧ Ext w w9 ∧ Calls Try.prog 54 #[.slice A9 (1 + n) c9] w9 fun e w' => (∃ v', e = .returned v' ∧ w'.ownsRow w.heap.size 28 3 v' (liveL (Y :: T)).length ((liveL (Y :: T)).flatMap Pr.cells)) ∧ Ext w9 w' := fun v9 w9 h9 hg9 => by
    obtain ⟨A9, c9, rfl, hc9, hr9, -⟩ := own_rd h9
    have e9 := own_grown O3.out hg9 w hw1 e3w
    have R9 := (HR3.out.cons HO3.out HYL.out).grown O3.out hg9
    refine ⟨A9, c9, rfl, e9, (live_any A9 (1 + n) c9 _ (Y :: T) w9 hr9 hc9 R9.rd HTOT.out).mono ?_⟩
    rintro e w' ⟨⟨v', he, ho⟩, hb⟩
    exact ⟨⟨v', he, own_lower ho e9.size⟩, hb⟩
  have HFIN := Lib.hid hfin
  obtain ⟨i0, hi0, hz0, hzs, hzb⟩ := info_parts info_rowP
  have hb3s : w1.heap.size ≤ w3.heap.size := (e2.trans hb3).size
  have HV3 := Lib.hid hv3'
  clear hfin hn R3 HO1 O2 HLC o3 hv3'
  cases A3 with
  | none =>
    have h0 : n = 0 := by
      rcases Nat.eq_zero_or_pos n with h | h
      · exact h
      · obtain ⟨ad', h1, _⟩ := hr3.2.2 h
        cases h1
    subst h0
    obtain rfl : c3 = 0 := by
      rcases hnil rfl with h | h
      · exact h.2
      · exact absurd rfl h
    have hx0 : vs = [] := List.eq_nil_of_length_eq_zero hlen
    obtain ⟨A9, c9, h9, E9, HC9⟩ := HFIN.out _ w3 (by rw [hx0]; exact O3.out) ((Ext.refl w3).gb _)
    injection h9 with h9a h9b h9c
    subst h9a h9c
    have HC9' := Lib.hid HC9
    clear HC9 h9b hnil hr3 hx0
    go_wp2_with (at_builtin; go_loud (refine wpList_append_own_none rfl _ _ 96 rfl w1.heap.size 22 i0 1 Try.underlying96 hi0 _ _ _ rfl O3.out HV3.out ?_))
    refine HC9'.out.mono ?_
    rintro _ w10 ⟨⟨v10, rfl, ho⟩, hb10⟩
    have HO := Lib.hid ho
    clear ho
    go_wp2_with fail
    go_ret
    exact ⟨⟨_, rfl, HO.out⟩, E9.trans hb10⟩
  | some ad =>
    have hcl : ∀ (j : Nat) u, vs[j]? = some u → w3.cell? (ad.add j) = some u := fun j u hj => by
      obtain ⟨ad', he, -, h3⟩ := hr3.at_ hj
      obtain rfl : ad = ad' := by injection he
      exact h3
    have h1c : ∀ u ∈ vs, u.oneCell' = true := fun u hu => by
      obtain ⟨i, hi⟩ := List.getElem?_of_mem hu
      obtain ⟨es, hes⟩ : ∃ es, T[i]? = some es := ⟨_, List.getElem?_eq_getElem (by rw [← HR3.out.1]; exact (List.getElem?_eq_some_iff.1 hi).1)⟩
      obtain ⟨A, c, rfl, _, _⟩ := HR3.out.rd.2 i u es hi hes
      rfl
    have HCL := Lib.hid hcl
    have H1C := Lib.hid h1c
    have hl1 : vs.length = n * 1 := by omega
    clear hcl h1c hnil hr3 hlen
    go_wp2_with (at_builtin; go_loud (refine wpList_append_own _ rfl _ _ 96 rfl w1.heap.size 22 i0 _ 1 24 Try.underlying96 hi0 hz0 hzs hzb rfl (by omega) _ _ _ rfl O3.out ad n _ vs HV3.out hl1 HCL.out H1C.out (by unfold maxLen; omega) (by omega) hb3s ?_); intro v9 w9 own9 hg9 hH9; clear hH9; obtain ⟨A9, c9, rfl, E9, HC9⟩ := HFIN.out v9 w9 own9 hg9)
    refine HC9.mono ?_
    rintro _ w10 ⟨⟨v10, rfl, ho⟩, hb10⟩
    have HO := Lib.hid ho
    clear ho
    go_wp2_with fail
    go_ret
    exact ⟨⟨_, rfl, HO.out⟩, E9.trans hb10⟩

def tabV (es : List Pr) : Value := .string (tabB es)
set_option maxRecDepth 100000 in
set_option maxHeartbeats 2000000 in
theorem LTables_any (F : Nat → Prop) (x : Nat) (lim : Int) (Y : List Pr) (T : List (List Pr)) (w : World) (h : LM w F x lim Y T) :
    Calls Try.prog 28 #[.pointer (some ⟨x, 0, none⟩)] w fun e w' => (∃ v, e = .returned v ∧ w'.ownsRow w.heap.size 9 1 v T.length (T.map tabV)) ∧ Ext w w' := by
  obtain ⟨sb, sv, lv, ts, hL, rfl, -⟩ := h
  obtain ⟨n, hn⟩ : ∃ n, ts.length = n := ⟨_, rfl⟩
  have hn8 : n ≤ 8 := by rw [← hn]; exact hL.len
  have ow := hL.own
  rw [hn] at ow
  obtain ⟨A, c, rfl, hc, hr, -⟩ := own_rd ow
  have hnc := hr.2.1
  have c2 : w.cell? ⟨x, 2, none⟩ = some (.slice A n c) := hL.bk.cell 2
  have HN := Lib.hid hn
  have H0 : Hid (w.ownsRow w.heap.size 9 1 (.slice none 0 0) 0 (((ts.map Tb.es).take 0).map tabV)) := own_nil _ _ _ _
  clear ow hn hL
  rw [List.length_map, HN.out]
  unfold maxLen at hc
  go_enter Try.func28, Try.ntmps28
  go_wp2_with fail
  go_loopw [2, 4, 10] (fun o _ y wr => ∃ (i : Nat), y = .int .i64 i ∧ i ≤ n ∧ Ext w wr ∧ Hid (wr.ownsRow w.heap.size 9 1 o i (((ts.map Tb.es).take i).map tabV))) (fun _ _ y _ => n - (intOf y).toNat)
  case atStart => exact ⟨0, rfl, Nat.zero_le _, Ext.refl _, H0⟩
  case round =>
    obtain ⟨i, rfl, hi, hbw, hown⟩ := hrel
    by_cases hc3 : i < n
    · obtain ⟨t, ht⟩ : ∃ t, ts[i]? = some t := ⟨_, List.getElem?_eq_getElem (by rw [HN.out]; exact hc3)⟩
      obtain ⟨ad, rfl, hb, y0, y1⟩ := (hr.ext hbw).getT ht
      have HTT : Hid (((ts.map Tb.es).take (i + 1)).map tabV = ((ts.map Tb.es).take i).map tabV ++ [.string (tabB t.es)]) := by
        show _ = _
        have h1 : (ts.map Tb.es)[i]? = some t.es := by rw [List.getElem?_map, ht]; rfl
        obtain ⟨h2, h3⟩ := List.getElem?_eq_some_iff.1 h1
        rw [List.take_succ_eq_append_getElem h2, h3, List.map_append]; rfl
      obtain ⟨tb, tv, te⟩ := t
      simp only at y0 y1 HTT
      obtain ⟨bs, HBS⟩ : ∃ b, Hid (tabB te = b) := ⟨_, rfl⟩
      rw [HBS.out] at y0 HTT
      have B3 := Bk.at_ wr 91 #[.string bs, .pointer (some ⟨tb, 0, none⟩)] wr.heap.size rfl
      have e3 : Ext wr (wr.alloc (.cells #[.string bs, .pointer (some ⟨tb, 0, none⟩)] 91)) := (Ext.refl _).alloc _
      have z0 : (wr.alloc (.cells #[.string bs, .pointer (some ⟨tb, 0, none⟩)] 91)).cell? ⟨wr.heap.size, 0, none⟩ = some (.string bs) := B3.cell 0
      have O3 := Lib.hid (own_ext hown.out e3)
      have e3w := hbw.trans e3
      clear ht hown B3
      go_upto_region 4 with (fail)
      generalize wr.alloc (.cells #[.string bs, .pointer (some ⟨tb, 0, none⟩)] 91) = W3 at *
      have e5 : Ext W3 (W3.alloc (.cells #[.string bs] 9)) := (Ext.refl _).alloc _
      have O5 := Lib.hid (own_ext O3.out e5)
      have e5w := e3w.trans e5
      have hb5 := e5w.size
      obtain ⟨i0, hi0, hz0, hzs, hzb⟩ := info_parts info_strT
      clear O3
      go_wp2_with (at_builtin; go_loud (refine wpList_append_own _ rfl _ _ 59 rfl w.heap.size 9 i0 _ 1 16 Try.underlying59 hi0 hz0 hzs hzb rfl (by omega) u2 i _ rfl O5.out ⟨W3.heap.size, 0, none⟩ 1 1 [.string bs] (by rfl) rfl (news_new W3 _ _ _ rfl) (by intro u hu; simp at hu; subst hu; rfl) (by unfold maxLen; omega) (by omega) hb5 ?_); intro v6 w6 own6 hg6 hH6; clear hH6; have e6 := own_grown O5.out hg6 w (Nat.le_refl _) e5w)
      have R6 : Hid (w6.ownsRow w.heap.size 9 1 v6 (i + 1) (((ts.map Tb.es).take (i + 1)).map tabV)) := by
        show World.ownsRow _ _ _ _ _ _ _
        rw [HTT.out]; exact own6
      clear own6
      go_roundw
      case rel => exact ⟨i + 1, by go_num, by omega, e6, R6⟩
      case measure => simp [intOf]; omega
    · obtain rfl : i = n := by omega
      have HO := Lib.hid hown.out
      rw [List.take_of_length_le (by rw [List.length_map, HN.out]; exact Nat.le_refl _)] at HO
      clear hown
      go_wp2_with fail
      go_ret
      exact ⟨⟨_, rfl, HO.out⟩, hbw⟩
end Go.Proofs.Ytblojobgchkipaa
