/- lsm: the lists of all levels; merge. -/
import Derived.Test.YtnafegofmbhahaaDoorLsm5
namespace Go.Proofs.YtnafegofmbhahaaDoor
open Go.RowKit Go.WideShapes
set_option linter.unusedVariables false
attribute [local go_sem ↓] Go.wp_at_zero Go.wp_at_succ

theorem info_rowP : (Tryd.prog.info? 22).map (fun i => (i.zero, i.size, i.bytes)) = some (some (.slice none 0 0), 1, 24) := by kernel_rfl
theorem Rd.getT {w : World} {A : Option Addr} {n c : Nat} {ts : List Tb} (h : Rd w 2 A n c (ts.flatMap Tb.cells)) {j : Nat} {t : Tb} (ht : ts[j]? = some t) :
    ∃ ad, A = some ad ∧ ad.block < w.heap.size ∧ w.cell? (ad.add (j * 2)) = some (.string (tabB t.es)) ∧ w.cell? ⟨(ad.add (j * 2)).block, (ad.add (j * 2)).off + 1, none⟩ = some (.pointer (some ⟨t.blk, 0, none⟩)) := by
  have h0 := flat_nthP (f := Tb.cells) (k := 2) (fun _ => rfl) ts j t 0 ht (by omega)
  have h1 := flat_nthP (f := Tb.cells) (k := 2) (fun _ => rfl) ts j t 1 ht (by omega)
  obtain ⟨ad, e1, hb, hc0⟩ := h.at_ h0
  obtain ⟨ad', e2, _, hc1⟩ := h.at_ h1
  rw [e1] at e2
  obtain rfl : ad = ad' := by injection e2
  rw [← add_add'] at hc1
  exact ⟨ad, e1, hb, hc0, hc1⟩
/-- lists of pairs, each in a row that is owned -/
def OwLs (w : World) (vs : List Value) (T : List (List Pr)) : Prop :=
  vs.length = T.length ∧ ∀ (i : Nat) (v : Value) (es : List Pr), vs[i]? = some v → T[i]? = some es → w.ownsRow 0 25 3 v es.length (es.flatMap Pr.cells)
theorem OwLs.ext {w w' : World} {vs : List Value} {T : List (List Pr)} (h : OwLs w vs T) (k : Ext w w') : OwLs w' vs T := ⟨h.1, fun i v es hv hT => own_ext (h.2 i v es hv hT) k⟩
theorem OwLs.rd {w : World} {vs : List Value} {T : List (List Pr)} (h : OwLs w vs T) : RdLs w vs T := ⟨h.1, fun i v es hv hT => by
  obtain ⟨A, c, e, hc, hr, _⟩ := own_rd (h.2 i v es hv hT)
  exact ⟨A, c, e, hc, hr⟩⟩
theorem OwLs.grown {w w' : World} {vs us : List Value} {T : List (List Pr)} {o : Value} {base n : Nat} (h : OwLs w vs T) (ho : w.ownsRow base 22 1 o n us) (k : w.grownBy w' o.ownBlock) : OwLs w' vs T :=
  ⟨h.1, fun i v es hv hT => own_chg (h.2 i v es hv hT) (gb_chg k) fun g hg hg' => own_own (h.2 i v es hv hT) ho (by decide) hg hg'⟩
theorem OwLs.snoc {w : World} {vs : List Value} {T : List (List Pr)} (h : OwLs w vs T) {v : Value} {es : List Pr} (hr : w.ownsRow 0 25 3 v es.length (es.flatMap Pr.cells)) : OwLs w (vs ++ [v]) (T ++ [es]) := by
  refine ⟨by rw [List.length_append, List.length_append, h.1]; rfl, fun i u fs hv hT => ?_⟩
  by_cases hi : i < vs.length
  · rw [List.getElem?_append_left hi] at hv
    rw [List.getElem?_append_left (by rw [← h.1]; exact hi)] at hT
    exact h.2 i u fs hv hT
  · rw [List.getElem?_append_right (by omega)] at hv
    rw [List.getElem?_append_right (by rw [← h.1]; omega), ← h.1] at hT
    have hl := (List.getElem?_eq_some_iff.1 hv).1
    have h0 : i - vs.length = 0 := by simp at hl; omega
    rw [h0] at hv hT
    obtain rfl : v = u := by simpa using hv
    obtain rfl : es = fs := by simpa using hT
    exact hr
theorem OwLs.nil (w : World) : OwLs w [] [] := ⟨rfl, fun i v es h => by simp at h⟩

set_option maxRecDepth 100000 in
set_option maxHeartbeats 2000000 in
theorem lists_any (F : Nat → Prop) (x : Nat) (lim : Int) (Y : List Pr) (T : List (List Pr)) (w : World) (h : LM w F x lim Y T) :
    Calls Tryd.prog 92 #[.pointer (some ⟨x, 0, none⟩)] w fun e w' => (∃ v vs, e = .returned v ∧ w'.ownsRow w.heap.size 22 1 v T.length vs ∧ OwLs w' vs T) ∧ Ext w w' := by
  obtain ⟨sb, sv, lv, ts, hL, rfl, -⟩ := h
  obtain ⟨n, hn⟩ : ∃ n, ts.length = n := ⟨_, rfl⟩
  have hn8 : n ≤ 8 := by rw [← hn]; exact hL.len
  have ow := hL.own
  rw [hn] at ow
  obtain ⟨A, c, rfl, hc, hr, -⟩ := own_rd ow
  have hnc := hr.2.1
  have c2 : w.cell? ⟨x, 2, none⟩ = some (.slice A n c) := hL.bk.cell 2
  have HN := Lib.hid hn
  have HL := Lib.hid hL
  have H0 : Hid (w.ownsRow w.heap.size 22 1 (.slice none 0 0) 0 []) := own_nil _ _ _ _
  have H1 : Hid (OwLs w [] ((ts.map Tb.es).take 0)) := OwLs.nil w
  clear ow hn hL
  rw [List.length_map, HN.out]
  unfold maxLen at hc
  go_enter Tryd.func92, Tryd.ntmps92
  go_wp2_with fail
  go_loopw [2, 4, 10] (fun o _ y wr => ∃ (i : Nat) (vs : List Value), y = .int .i64 i ∧ i ≤ n ∧ Ext w wr ∧ Hid (wr.ownsRow w.heap.size 22 1 o i vs) ∧ Hid (OwLs wr vs ((ts.map Tb.es).take i))) (fun _ _ y _ => n - (intOf y).toNat)
  case atStart => exact ⟨0, [], rfl, Nat.zero_le _, Ext.refl _, H0, H1⟩
  case round =>
    obtain ⟨i, vs, rfl, hi, hbw, hown, hrd⟩ := hrel
    by_cases hc3 : i < n
    · obtain ⟨t, ht⟩ : ∃ t, ts[i]? = some t := ⟨_, List.getElem?_eq_getElem (by rw [HN.out]; exact hc3)⟩
      obtain ⟨ad, rfl, hb, y0, y1⟩ := (hr.ext hbw).getT ht
      have HTB := Lib.hid ((HL.out.tab t (List.mem_of_getElem? ht)).ext hbw)
      have HTT : Hid ((ts.map Tb.es).take (i + 1) = (ts.map Tb.es).take i ++ [t.es]) := by
        show _ = _
        have h1 : (ts.map Tb.es)[i]? = some t.es := by rw [List.getElem?_map, ht]; rfl
        obtain ⟨h2, h3⟩ := List.getElem?_eq_some_iff.1 h1
        rw [List.take_succ_eq_append_getElem h2, h3]
      obtain ⟨tb, tv, te⟩ := t
      simp only at y0 y1
      obtain ⟨bs, HBS⟩ : ∃ b, Hid (tabB te = b) := ⟨_, rfl⟩
      rw [HBS.out] at y0
      have B3 := Bk.at_ wr 118 #[.string bs, .pointer (some ⟨tb, 0, none⟩)] wr.heap.size rfl
      have e3 : Ext wr (wr.alloc (.cells #[.string bs, .pointer (some ⟨tb, 0, none⟩)] 118)) := (Ext.refl _).alloc _
      have z1 : (wr.alloc (.cells #[.string bs, .pointer (some ⟨tb, 0, none⟩)] 118)).cell? ⟨wr.heap.size, 1, none⟩ = some (.pointer (some ⟨tb, 0, none⟩)) := B3.cell 1
      have HT3 := Lib.hid (HTB.out.ext e3)
      have O3 := Lib.hid (own_ext hown.out e3)
      have R3 := Lib.hid (hrd.out.ext e3)
      have e3w := hbw.trans e3
      clear ht hown hrd HTB B3
      go_wp2_with fail
      refine (TAll_any 0 tb tv te _ HT3.out).mono ?_
      rintro _ w4 ⟨⟨v4, rfl, o4⟩, hb4⟩
      have e4 := e3w.trans hb4
      obtain ⟨A4, c4, rfl, hc4, hr4, -⟩ := own_rd o4
      have O4 := Lib.hid (own_ext O3.out hb4)
      have R4 := Lib.hid ((R3.out.ext hb4).snoc (own_lower o4 (Nat.zero_le _)))
      rw [← HTT.out] at R4
      generalize te.length = m4 at *
      have e5 : Ext w4 (w4.alloc (.cells #[.slice A4 m4 c4] 22)) := (Ext.refl _).alloc _
      have O5 := Lib.hid (own_ext O4.out e5)
      have R5 := Lib.hid (R4.out.ext e5)
      have e5w := e4.trans e5
      have hb5 := e5w.size
      obtain ⟨i0, hi0, hz0, hzs, hzb⟩ := info_parts info_rowP
      clear o4 hr4 z1 O3 R3 O4 R4
      go_wp2_with (at_builtin; go_loud (refine wpList_append_own _ rfl _ _ 82 rfl w.heap.size 22 i0 _ 1 24 Tryd.underlying82 hi0 hz0 hzs hzb rfl (by omega) u2 i _ rfl O5.out ⟨w4.heap.size, 0, none⟩ 1 1 [.slice A4 m4 c4] (by rfl) rfl (news_new w4 _ _ _ rfl) (by intro u hu; simp at hu; subst hu; rfl) (by unfold maxLen; omega) (by omega) hb5 ?_); intro v6 w6 own6 hg6 hH6; clear hH6; have e6 := own_grown O5.out hg6 w (Nat.le_refl _) e5w)
      have R6 := Lib.hid (R5.out.grown O5.out hg6)
      go_roundw
      case rel => exact ⟨i + 1, _, by go_num, by omega, e6, own6, R6⟩
      case measure => simp [intOf]; omega
    · obtain rfl : i = n := by omega
      have HO := Lib.hid hown.out
      have HR := Lib.hid hrd.out
      rw [List.take_of_length_le (by rw [List.length_map, HN.out]; exact Nat.le_refl _)] at HR
      clear hown hrd
      go_wp2_with fail
      go_ret
      exact ⟨⟨_, _, rfl, HO.out, HR.out⟩, hbw⟩
end Go.Proofs.YtnafegofmbhahaaDoor

/- lsm: Merge. -/
namespace Go.Proofs.YtnafegofmbhahaaDoor
open Go.RowKit Go.WideShapes
set_option linter.unusedVariables false
attribute [local go_sem ↓] Go.wp_at_zero Go.wp_at_succ

/-- the levels are others -/
theorem LAt.relevel {w w' : World} {x sb : Nat} {lim : Int} {sv lv lv' : Value} {Y : List Pr} {ts ts' : List Tb} (h : LAt w x lim sb sv Y lv ts) (k : Chg w w' (fun k => k = x)) (hb : Bk w' x 116 #[.int .i64 lim, .pointer (some ⟨sb, 0, none⟩), lv'])
    (ho : w'.ownsRow 0 118 2 lv' ts'.length (ts'.flatMap Tb.cells)) (ht : ∀ t ∈ ts', TbAt w' 0 t.blk t.row t.es) (hs : ∀ t ∈ ts', ∀ g, t.row.ownBlock = some g → sv.ownBlock ≠ some g) (hl : ts'.length ≤ 8) : LAt w' x lim sb sv Y lv' ts' :=
  ⟨hb, h.st.chg k (bk_ne h.st.bk h.bk (by decide)) (fun g hg e => own_type h.st.own h.bk (by decide) (by rw [← e]; exact hg)), ho, ht, hs, hl⟩
theorem own_one (w : World) (t : Tb) : (w.alloc (.cells #[.string (tabB t.es), .pointer (some ⟨t.blk, 0, none⟩)] 118)).ownsRow 0 118 2 (.slice (some ⟨w.heap.size, 0, none⟩) 1 1) 1 ([t].flatMap Tb.cells) :=
  ⟨rfl, .inr ⟨w.heap.size, 1, #[.string (tabB t.es), .pointer (some ⟨t.blk, 0, none⟩)], rfl, Nat.zero_le _, Bk.at_ w _ _ w.heap.size rfl, Nat.le_refl _, by unfold maxLen; omega, rfl, rfl⟩⟩

set_option maxRecDepth 100000 in
set_option maxHeartbeats 2000000 in
theorem LMerge_any (F : Nat → Prop) (x : Nat) (lim : Int) (Y : List Pr) (T : List (List Pr)) (w : World) (h : LM w F x lim Y T) (htot : totL T ≤ 1000) :
    Calls Tryd.prog 51 #[.pointer (some ⟨x, 0, none⟩)] w fun e w' => e = .returned (errR (mgK T)) ∧ ∃ F', LOp w w' F x lim Y (mergeT T) F' := by
  obtain ⟨hE, hN, hG⟩ := errR_rules
  have HM := Lib.hid h
  have HMY := Lib.hid h.many
  have HLI := Lib.hid (lists_any F x lim Y T w h)
  obtain ⟨sb, sv, lv, ts, hL, hT, hF⟩ := h
  obtain ⟨n, hn⟩ : ∃ n, ts.length = n := ⟨_, rfl⟩
  have hTn : T.length = n := by rw [← hT, List.length_map, hn]
  have ow := hL.own
  rw [hn] at ow
  obtain ⟨A, c, rfl, hc, hr, -⟩ := own_rd ow
  have HL := Lib.hid hL
  have HT := Lib.hid hT
  have HF := Lib.hid hF
  have c2 : w.cell? ⟨x, 2, none⟩ = some (.slice A n c) := hL.bk.cell 2
  have HTN := Lib.hid hTn
  have HTOT := Lib.hid htot
  clear ow hr hL hT hF hn hTn htot
  by_cases h0 : n = 0
  · subst h0
    have hk : mgK T = 6 := if_pos HTN.out
    have hmt : mergeT T = T := by rw [List.length_eq_zero_iff.1 HTN.out]; rfl
    rw [hk, hmt]
    clear hk hmt
    go_enter Tryd.func51, Tryd.ntmps51
    go_wp2_with fail
    go_ret
    exact ⟨rfl, F, HM.out.op (Ext.refl _)⟩
  · have hk : mgK T = 0 := if_neg (by rw [HTN.out]; exact h0)
    rw [hk, errR_0]
    have h0i : ¬ (n : Int) = 0 := by omega
    obtain ⟨L, hLL⟩ : ∃ L, liveL T = L := ⟨_, rfl⟩
    have HLL := Lib.hid hLL
    have hlen := live_len T
    rw [hLL] at hlen
    have hl2 : L.length ≤ 1000 := by have := HTOT.out; omega
    have HOK := Lib.hid (live_ok HMY.out.2.2.tl)
    rw [hLL] at HOK
    clear hk hLL hlen h0
    go_enter Tryd.func51, Tryd.ntmps51
    go_wp2_with fail
    refine HLI.out.mono ?_
    rintro _ w1 ⟨⟨v1, vs, rfl, o1, R1⟩, hb1⟩
    obtain ⟨A1, c1, rfl, hc1, hr1, -⟩ := own_rd o1
    have HC := Lib.hid (live_any A1 T.length c1 vs T w1 hr1 hc1 R1.rd HTOT.out)
    rw [HLL.out] at HC
    clear o1 R1 hr1 HLI
    generalize T.length = m at *
    go_wp2_with fail
    refine HC.out.mono ?_
    rintro _ w2 ⟨⟨v2, rfl, o2⟩, hb2⟩
    obtain ⟨k, hk⟩ : ∃ k, L.length = k := ⟨_, rfl⟩
    rw [hk] at o2 hl2
    obtain ⟨A2, c2', rfl, hc2, hr2, -⟩ := own_rd o2
    have HK := Lib.hid hk
    have HR2 := Lib.hid hr2
    have e2 := hb1.trans hb2
    have L2 := HL.out.ext e2
    have fr2 : w2.frozen? ⟨x, 2, none⟩ = false := L2.bk.frozen 2
    have s2 : w2.cell? ⟨x, 2, none⟩ = some (.slice A n c) := L2.bk.cell 2
    have HL2 := Lib.hid L2
    have hnc2 := hr2.2.1
    clear o2 hk hr2 HC L2
    by_cases hk0 : k = 0
    · subst hk0
      have hLn : L = [] := List.length_eq_zero_iff.1 HK.out
      have hmt : mergeT T = [] := by unfold mergeT; rw [if_pos (HLL.out.trans hLn)]
      have HMT := Lib.hid hmt
      clear hLn hmt
      go_wp2_with fail
      go_ret
      have g3 := gb_chg (gb_set w2 x 2 (.slice none 0 0))
      have k3 : Chg w2 (w2.setCell ⟨x, 2, none⟩ (.slice none 0 0)) (fun k => k = x) := g3.mono fun g _ hg => by injection hg with hg; exact hg.symm
      have B3 := HL2.out.bk.set_ 2 (.slice none 0 0)
      refine ⟨rfl, LFoot x sb sv (.slice none 0 0) [], ⟨⟨sb, sv, _, [], HL2.out.relevel k3 B3 (own_nil _ _ _ _) (fun t ht => by simp at ht) (fun t ht => by simp at ht) (Nat.zero_le _), HMT.out.symm, fun g hg => hg⟩, ((e2.chg F).trans (k3.mono fun g _ hg => HF.out g (.inl hg)) fun g _ hg => hg), fun g hg => .inl ?_⟩⟩
      rcases hg with rfl | rfl | hg | hg | ⟨t, ht, _⟩
      · exact HF.out _ (.inl rfl)
      · exact HF.out _ (.inr (.inl rfl))
      · exact HF.out _ (.inr (.inr (.inl hg)))
      · simp [Value.ownBlock] at hg
      · simp at ht
    · have hk0i : ¬ (k : Int) = 0 := by omega
      have hLn : L ≠ [] := fun e => hk0 (by rw [← HK.out, e]; rfl)
      have hmt : mergeT T = [L] := by unfold mergeT; rw [HLL.out, if_neg hLn]
      have HMT := Lib.hid hmt
      have HB := Lib.hid (built_any A2 k c2' L w2 HR2.out hc2 (by omega) (tblK_zero.2 HOK.out))
      clear hLn hmt hk0
      go_wp2_with fail
      refine HB.out.mono ?_
      rintro _ w3 ⟨⟨tb, tv, rfl, tb3, htb⟩, hb3⟩
      have HTB := Lib.hid tb3
      obtain ⟨bs, HBS⟩ : ∃ b, Hid (tabB L = b) := ⟨_, rfl⟩
      rw [HBS.out]
      have B4 := Bk.at_ w3 118 #[.string bs, .pointer (some ⟨tb, 0, none⟩)] w3.heap.size rfl
      have e4 : Ext w3 (w3.alloc (.cells #[.string bs, .pointer (some ⟨tb, 0, none⟩)] 118)) := (Ext.refl _).alloc _
      have z0 : (w3.alloc (.cells #[.string bs, .pointer (some ⟨tb, 0, none⟩)] 118)).cell? ⟨w3.heap.size, 0, none⟩ = some (.string bs) := B4.cell 0
      have z1 : (w3.alloc (.cells #[.string bs, .pointer (some ⟨tb, 0, none⟩)] 118)).cell? ⟨w3.heap.size, 1, none⟩ = some (.pointer (some ⟨tb, 0, none⟩)) := B4.cell 1
      have HT4 := Lib.hid (HTB.out.ext e4)
      have HL4 := Lib.hid ((HL2.out.ext hb3).ext e4)
      have e4w := (e2.trans hb3).trans e4
      have htb2 : w.heap.size ≤ tb := by have := e2.size; omega
      have htv : ∀ g, tv.ownBlock = some g → w.heap.size ≤ g := fun g hg => by
        have h1 := own_block tb3.own g hg
        have := e2.size
        omega
      have HTV := Lib.hid htv
      clear tb3 B4 s2 fr2 htv htb
      go_upto_region 8 with (fail)
      generalize w3.alloc (.cells #[.string bs, .pointer (some ⟨tb, 0, none⟩)] 118) = W4 at *
      have e5 : Ext W4 (W4.alloc (.cells #[.string bs, .pointer (some ⟨tb, 0, none⟩)] 118)) := (Ext.refl _).alloc _
      have L5 := HL4.out.ext e5
      have HL5 := Lib.hid L5
      have x2 : (W4.alloc (.cells #[.string bs, .pointer (some ⟨tb, 0, none⟩)] 118)).cell? ⟨x, 2, none⟩ = some (.slice A n c) := L5.bk.cell 2
      have f2 : (W4.alloc (.cells #[.string bs, .pointer (some ⟨tb, 0, none⟩)] 118)).frozen? ⟨x, 2, none⟩ = false := L5.bk.frozen 2
      have o5 := own_one W4 ⟨tb, tv, L⟩
      simp only at o5
      rw [HBS.out] at o5
      have O5 := Lib.hid o5
      have T5 := Lib.hid (HT4.out.ext e5)
      have e5w := e4w.trans e5
      have hw4 := e4w.size
      clear L5 o5
      go_wp2_with fail
      go_ret
      generalize hW5 : W4.alloc (.cells #[.string bs, .pointer (some ⟨tb, 0, none⟩)] 118) = W5 at *
      have k6 : Chg W5 (W5.setCell ⟨x, 2, none⟩ (.slice (some ⟨W4.heap.size, 0, none⟩) 1 1)) (fun k => k = x) := (gb_chg (gb_set W5 x 2 _)).mono fun g _ hg => by injection hg with hg; exact hg.symm
      have B6 := HL5.out.bk.set_ 2 (.slice (some ⟨W4.heap.size, 0, none⟩) 1 1)
      have hxlt := HL.out.bk.lt
      have hsv : ∀ g, sv.ownBlock = some g → g < w.heap.size := fun g hg => (HL.out.st.own.lt _ hg).2
      refine ⟨rfl, LFoot x sb sv (.slice (some ⟨W4.heap.size, 0, none⟩) 1 1) [⟨tb, tv, L⟩], ⟨⟨sb, sv, _, [⟨tb, tv, L⟩], HL5.out.relevel k6 B6 ?_ ?_ ?_ (by simp), HMT.out.symm, fun g hg => hg⟩, ((e5w.chg F).trans (k6.mono fun g _ hg => HF.out g (.inl hg)) fun g _ hg => hg), fun g hg => ?_⟩⟩
      · exact own_chg O5.out k6 fun g hg e => own_type O5.out HL5.out.bk (by decide) (by rw [← e]; exact hg)
      · intro t ht
        obtain rfl : t = ⟨tb, tv, L⟩ := by simpa using ht
        exact TbAt.lower (T5.out.chg k6 (bk_ne T5.out.bk HL5.out.bk (by decide)) (fun g hg e => own_type T5.out.own HL5.out.bk (by decide) (by rw [← e]; exact hg))) (Nat.zero_le _)
      · intro t ht g hg hg'
        obtain rfl : t = ⟨tb, tv, L⟩ := by simpa using ht
        have h1 := HTV.out g hg
        have h2 := hsv g hg'
        omega
      · rcases hg with rfl | rfl | hg | hg | ⟨t, ht, hg⟩
        · exact .inl (HF.out _ (.inl rfl))
        · exact .inl (HF.out _ (.inr (.inl rfl)))
        · exact .inl (HF.out _ (.inr (.inr (.inl hg))))
        · obtain rfl : W4.heap.size = g := by simpa [Value.ownBlock] using hg
          exact .inr hw4
        · obtain rfl : t = ⟨tb, tv, L⟩ := by simpa using ht
          rcases hg with rfl | hg
          · exact .inr htb2
          · exact .inr (HTV.out g hg)
end Go.Proofs.YtnafegofmbhahaaDoor
