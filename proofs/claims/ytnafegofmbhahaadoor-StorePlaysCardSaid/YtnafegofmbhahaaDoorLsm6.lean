/- lsm: the lists of all levels; merge. -/
import Derived.Test.YtnafegofmbhahaaDoorLsm5
namespace Go.Proofs.YtnafegofmbhahaaDoor
open Go.RowKit Go.WideShapes
set_option linter.unusedVariables false
attribute [local go_sem ↓] Go.wp_at_zero Go.wp_at_succ

theorem info_rowP : (Tryd.prog.info? 22).map (fun i => (i.zero, i.size, i.bytes)) = some (some (.slice none 0 0), 1, 24) := by kernel_rfl
theorem Rd.getT {w : World} {A : Option Addr} {n c : Nat} {ts : List Tb} (h : Rd w 2 A n c (ts.flatMap Tb.cells)) {j : Nat} {t : Tb} (ht : ts[j]? = some t) :
    ∃ ad, A = some ad ∧ ad.block < w.heap.size ∧ w.cell? (ad.add (j * 2)) = some (.string (tabB t.es)) ∧ w.cell? ⟨(ad.add (j * 2)).block, (ad.add (j * 2)).off + 1, none⟩ = some (.pointer (some ⟨t.blk, 0, none⟩)) := by
  have h0 := flat_nthP (f := Tb.cells) (k := 2) (fun _ => rfl) ts j t 0 ht (by omega)
  have h1 := flat_nthP (f := Tb.cells) (k := 2) (fun _ => rfl) ts j t 1 ht (by omega)
  obtain ⟨ad, e1, hb, hc0⟩ := h.at_ h0
  obtain ⟨ad', e2, _, hc1⟩ := h.at_ h1
  rw [e1] at e2
  obtain rfl : ad = ad' := by injection e2
  rw [← add_add'] at hc1
  exact ⟨ad, e1, hb, hc0, hc1⟩
/-- lists of pairs, each in a row that is owned -/
def OwLs (w : World) (vs : List Value) (T : List (List Pr)) : Prop :=
  vs.length = T.length ∧ ∀ (i : Nat) (v : Value) (es : List Pr), vs[i]? = some v → T[i]? = some es → w.ownsRow 0 25 3 v es.length (es.flatMap Pr.cells)
theorem OwLs.ext {w w' : World} {vs : List Value} {T : List (List Pr)} (h : OwLs w vs T) (k : Ext w w') : OwLs w' vs T := ⟨h.1, fun i v es hv hT => own_ext (h.2 i v es hv hT) k⟩
theorem OwLs.rd {w : World} {vs : List Value} {T : List (List Pr)} (h : OwLs w vs T) : RdLs w vs T := ⟨h.1, fun i v es hv hT => by
  obtain ⟨A, c, e, hc, hr, _⟩ := own_rd (h.2 i v es hv hT)
  exact ⟨A, c, e, hc, hr⟩⟩
theorem OwLs.grown {w w' : World} {vs us : List Value} {T : List (List Pr)} {o : Value} {base n : Nat} (h : OwLs w vs T) (ho : w.ownsRow base 22 1 o n us) (k : w.grownBy w' o.ownBlock) : OwLs w' vs T :=
  ⟨h.1, fun i v es hv hT => own_chg (h.2 i v es hv hT) (gb_chg k) fun g hg hg' => own_own (h.2 i v es hv hT) ho (by decide) hg hg'⟩
theorem OwLs.snoc {w : World} {vs : List Value} {T : List (List Pr)} (h : OwLs w vs T) {v : Value} {es : List Pr} (hr : w.ownsRow 0 25 3 v es.length (es.flatMap Pr.cells)) : OwLs w (vs ++ [v]) (T ++ [es]) := by
  refine ⟨by rw [List.length_append, List.length_append, h.1]; rfl, fun i u fs hv hT => ?_⟩
  by_cases hi : i < vs.length
  · rw [List.getElem?_append_left hi] at hv
    rw [List.getElem?_append_left (by rw [← h.1]; exact hi)] at hT
    exact h.2 i u fs hv hT
  · rw [List.getElem?_append_right (by omega)] at hv
    rw [List.getElem?_append_right (by rw [← h.1]; omega), ← h.1] at hT
    have hl := (List.getElem?_eq_some_iff.1 hv).1
    have h0 : i - vs.length = 0 := by simp at hl; omega
    rw [h0] at hv hT
    obtain rfl : v = u := by simpa using hv
    obtain rfl : es = fs := by simpa using hT
    exact hr
theorem OwLs.nil (w : World) : OwLs w [] [] := ⟨rfl, fun i v es h => by simp at h⟩

set_option maxRecDepth 100000 in
set_option maxHeartbeats 2000000 in
theorem lists_any (F : Nat → Prop) (x : Nat) (lim : Int) (Y : List Pr) (T : List (List Pr)) (w : World) (h : LM w F x lim Y T) :
    Calls Tryd.prog 92 #[.pointer (some ⟨x, 0, none⟩)] w fun e w' => (∃ v vs, e = .returned v ∧ w'.ownsRow w.heap.size 22 1 v T.length vs ∧ OwLs w' vs T) ∧ Ext w w' := by
  obtain ⟨sb, sv, lv, ts, hL, rfl, -⟩ := h
  obtain ⟨n, hn⟩ : ∃ n, ts.length = n := ⟨_, rfl⟩
  have hn8 : n ≤ 8 := by rw [← hn]; exact hL.len
  have ow := hL.own
  rw [hn] at ow
  obtain ⟨A, c, rfl, hc, hr, -⟩ := own_rd ow
  have hnc := hr.2.1
  have c2 : w.cell? ⟨x, 2, none⟩ = some (.slice A n c) := hL.bk.cell 2
  have HN := Lib.hid hn
  have HL := Lib.hid hL
  have H0 : Hid (w.ownsRow w.heap.size 22 1 (.slice none 0 0) 0 []) := own_nil _ _ _ _
  have H1 : Hid (OwLs w [] ((ts.map Tb.es).take 0)) := OwLs.nil w
  clear ow hn hL
  rw [List.length_map, HN.out]
  unfold maxLen at hc
  go_enter Tryd.func92, Tryd.ntmps92
  go_wp2_with fail
  go_loopw [2, 4, 10] (fun o _ y wr => ∃ (i : Nat) (vs : List Value), y = .int .i64 i ∧ i ≤ n ∧ Ext w wr ∧ Hid (wr.ownsRow w.heap.size 22 1 o i vs) ∧ Hid (OwLs wr vs ((ts.map Tb.es).take i))) (fun _ _ y _ => n - (intOf y).toNat)
  case atStart => exact ⟨0, [], rfl, Nat.zero_le _, Ext.refl _, H0, H1⟩
  case round =>
    obtain ⟨i, vs, rfl, hi, hbw, hown, hrd⟩ := hrel
    by_cases hc3 : i < n
    · obtain ⟨t, ht⟩ : ∃ t, ts[i]? = some t := ⟨_, List.getElem?_eq_getElem (by rw [HN.out]; exact hc3)⟩
      obtain ⟨ad, rfl, hb, y0, y1⟩ := (hr.ext hbw).getT ht
      have HTB := Lib.hid ((HL.out.tab t (List.mem_of_getElem? ht)).ext hbw)
      have HTT : Hid ((ts.map Tb.es).take (i + 1) = (ts.map Tb.es).take i ++ [t.es]) := by
        show _ = _
        have h1 : (ts.map Tb.es)[i]? = some t.es := by rw [List.getElem?_map, ht]; rfl
        obtain ⟨h2, h3⟩ := List.getElem?_eq_some_iff.1 h1
        rw [List.take_succ_eq_append_getElem h2, h3]
      obtain ⟨tb, tv, te⟩ := t
      simp only at y0 y1
      obtain ⟨bs, HBS⟩ : ∃ b, Hid (tabB te = b) := ⟨_, rfl⟩
      rw [HBS.out] at y0
      have B3 := Bk.at_ wr 118 #[.string bs, .pointer (some ⟨tb, 0, none⟩)] wr.heap.size rfl
      have e3 : Ext wr (wr.alloc (.cells #[.string bs, .pointer (some ⟨tb, 0, none⟩)] 118)) := (Ext.refl _).alloc _
      have z1 : (wr.alloc (.cells #[.string bs, .pointer (some ⟨tb, 0, none⟩)] 118)).cell? ⟨wr.heap.size, 1, none⟩ = some (.pointer (some ⟨tb, 0, none⟩)) := B3.cell 1
      have HT3 := Lib.hid (HTB.out.ext e3)
      have O3 := Lib.hid (own_ext hown.out e3)
      have R3 := Lib.hid (hrd.out.ext e3)
      have e3w := hbw.trans e3
      clear ht hown hrd HTB B3
      go_wp2_with fail
      refine (TAll_any 0 tb tv te _ HT3.out).mono ?_
      rintro _ w4 ⟨⟨v4, rfl, o4⟩, hb4⟩
      have e4 := e3w.trans hb4
      obtain ⟨A4, c4, rfl, hc4, hr4, -⟩ := own_rd o4
      have O4 := Lib.hid (own_ext O3.out hb4)
      have R4 := Lib.hid ((R3.out.ext hb4).snoc (own_lower o4 (Nat.zero_le _)))
      rw [← HTT.out] at R4
      generalize te.length = m4 at *
      have e5 : Ext w4 (w4.alloc (.cells #[.slice A4 m4 c4] 22)) := (Ext.refl _).alloc _
      have O5 := Lib.hid (own_ext O4.out e5)
      have R5 := Lib.hid (R4.out.ext e5)
      have e5w := e4.trans e5
      have hb5 := e5w.size
      obtain ⟨i0, hi0, hz0, hzs, hzb⟩ := info_parts info_rowP
      clear o4 hr4 z1 O3 R3 O4 R4
      go_wp2_with (at_builtin; go_loud (refine wpList_append_own _ rfl _ _ 82 rfl w.heap.size 22 i0 _ 1 24 Tryd.underlying82 hi0 hz0 hzs hzb rfl (by omega) u2 i _ rfl O5.out ⟨w4.heap.size, 0, none⟩ 1 1 [.slice A4 m4 c4] (by rfl) rfl (news_new w4 _ _ _ rfl) (by intro u hu; simp at hu; subst hu; rfl) (by unfold maxLen; omega) (by omega) hb5 ?_); intro v6 w6 own6 hg6 hH6; clear hH6; have e6 := own_grown O5.out hg6 w (Nat.le_refl _) e5w)
      have R6 := Lib.hid (R5.out.grown O5.out hg6)
      go_roundw
      case rel => exact ⟨i + 1, _, by go_num, by omega, e6, own6, R6⟩
      case measure => simp [intOf]; omega
    · obtain rfl : i = n := by omega
      have HO := Lib.hid hown.out
      have HR := Lib.hid hrd.out
      rw [List.take_of_length_le (by rw [List.length_map, HN.out]; exact Nat.le_refl _)] at HR
      clear hown hrd
      go_wp2_with fail
      go_ret
      exact ⟨⟨_, _, rfl, HO.out, HR.out⟩, hbw⟩
end Go.Proofs.YtnafegofmbhahaaDoor
