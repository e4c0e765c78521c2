/- lsm.live: lists laid over one another. -/
import Derived.Test.YtcgfdhgceokcnaaDoorJWalWhole16
import Derived.Test.YtcgfdhgceokcnaaDoorJWalWhole13
namespace Go.Proofs.YtcgfdhgceokcnaaDoor
open Go.RowKit Go.WideShapes
set_option linter.unusedVariables false
attribute [local go_sem ↓] Go.wp_at_zero Go.wp_at_succ

/-- lists of pairs, each as a slice that can be read -/
def RdLs (w : World) (vs : List Value) (T : List (List Pr)) : Prop :=
  vs.length = T.length ∧ ∀ (i : Nat) (v : Value) (es : List Pr), vs[i]? = some v → T[i]? = some es → ∃ A c, v = .slice A es.length c ∧ c ≤ maxLen ∧ Rd w 3 A es.length c (es.flatMap Pr.cells)
theorem RdLs.ext {w w' : World} {vs : List Value} {T : List (List Pr)} (h : RdLs w vs T) (k : Ext w w') : RdLs w' vs T :=
  ⟨h.1, fun i v es hv hT => by
    obtain ⟨A, c, e, hc, hr⟩ := h.2 i v es hv hT
    exact ⟨A, c, e, hc, hr.ext k⟩⟩

/-- of so many lists, and of the next one so many pairs -/
def outL (T : List (List Pr)) (i j : Nat) : List Pr := ((T.take i).flatten ++ ((T[i]?.getD []).take j)).foldl addL []
theorem outL_zero (T : List (List Pr)) (i : Nat) : outL T i 0 = ((T.take i).flatten).foldl addL [] := by simp [outL]
theorem outL_step {T : List (List Pr)} {i j : Nat} {es : List Pr} {p : Pr} (h : T[i]? = some es) (hp : es[j]? = some p) : outL T i (j + 1) = addL (outL T i j) p := by
  unfold outL
  rw [h, Option.getD_some, take_step hp, ← List.append_assoc, List.foldl_append]
  rfl
theorem outL_end {T : List (List Pr)} {i : Nat} {es : List Pr} (h : T[i]? = some es) : outL T i es.length = outL T (i + 1) 0 := by
  obtain ⟨h1, h2⟩ := List.getElem?_eq_some_iff.1 h
  unfold outL
  rw [h, Option.getD_some, List.take_of_length_le (Nat.le_refl _), List.take_zero, List.append_nil, List.take_succ_eq_append_getElem h1, h2, List.flatten_append]
  simp
theorem outL_all {T : List (List Pr)} : ngL (outL T T.length 0) = liveL T := by
  unfold outL liveL mergeL
  rw [List.take_of_length_le (Nat.le_refl _), List.take_zero, List.append_nil]
  rfl
theorem outL_asc (T : List (List Pr)) (i j : Nat) : Asc (outL T i j) := fold_asc _ _ Asc.nil
theorem outL_len {T : List (List Pr)} {i j : Nat} : (outL T i j).length ≤ (T.take i).flatten.length + j := by
  have h := fold_len ((T.take i).flatten ++ ((T[i]?.getD []).take j)) []
  unfold outL
  rw [List.length_append, List.length_take] at h
  simp only [List.length_nil] at h
  omega
theorem take_tot : ∀ {T : List (List Pr)} {i : Nat} {es : List Pr}, T[i]? = some es → (T.take i).flatten.length + es.length ≤ totL T
  | [], i, es, h => by simp at h
  | l :: T, 0, es, h => by
    obtain rfl : l = es := by simpa using h
    rw [totL_cons]
    simp
  | l :: T, i + 1, es, h => by
    have ih := take_tot (T := T) (i := i) (es := es) (by simpa using h)
    rw [totL_cons, List.take_succ_cons, List.flatten_cons, List.length_append]
    omega

set_option maxRecDepth 100000 in
set_option maxHeartbeats 2000000 in
theorem live_any (A : Option Addr) (n c : Nat) (vs : List Value) (T : List (List Pr)) (w : World) (hr : Rd w 1 A n c vs) (hm : c ≤ maxLen) (hl : RdLs w vs T) (htot : totL T ≤ 1000) :
    Calls Tryd.prog 15 #[.slice A n c] w fun e w' => (∃ v', e = .returned v' ∧ w'.ownsRow w.heap.size 30 3 v' (liveL T).length ((liveL T).flatMap Pr.cells)) ∧ Ext w w' := by
  have hvl : vs.length = n := by have := hr.1; omega
  have hTl : T.length = n := hl.1.symm.trans hvl
  have HT := Lib.hid hTl
  have HV := Lib.hid hvl
  have HL := Lib.hid hl
  have HTOT := Lib.hid htot
  have hnc := hr.2.1
  have H0 : Hid (w.ownsRow w.heap.size 30 3 (.slice none 0 0) (outL T 0 0).length ((outL T 0 0).flatMap Pr.cells)) := own_nil _ _ _ _
  clear hl hvl hTl htot
  unfold maxLen at hm
  go_enter Tryd.func15, Tryd.ntmps15
  go_wp2_with fail
  go_loopw [3, 5, 7, 8, 9, 12] (fun o _ _ _ _ x wr => ∃ i : Nat, x = .int .i64 i ∧ i ≤ n ∧ Ext w wr ∧ Hid (wr.ownsRow w.heap.size 30 3 o (outL T i 0).length ((outL T i 0).flatMap Pr.cells))) (fun _ _ _ _ _ x _ => n - (intOf x).toNat)
  case atStart => exact ⟨0, rfl, Nat.zero_le _, Ext.refl _, H0⟩
  case round =>
    obtain ⟨i, rfl, hi, hbw, hown⟩ := hrel
    by_cases hc : i < n
    · obtain ⟨ev, hev⟩ : ∃ v, vs[i]? = some v := ⟨_, List.getElem?_eq_getElem (by rw [HV.out]; exact hc)⟩
      obtain ⟨es, hes⟩ : ∃ es, T[i]? = some es := ⟨_, List.getElem?_eq_getElem (by rw [HT.out]; exact hc)⟩
      obtain ⟨ad, rfl, hb, c0⟩ := (hr.ext hbw).at_ hev
      obtain ⟨A1, c1, rfl, hc1, hr1⟩ := HL.out.2 i _ es hev hes
      obtain ⟨m, hm1⟩ : ∃ m, es.length = m := ⟨_, rfl⟩
      have HES := Lib.hid hes
      have HM := Lib.hid hm1
      have hm3 : m ≤ 1000 := by
        have h1 := take_tot hes
        have h2 := HTOT.out
        omega
      have hmc := hr1.2.1
      rw [hm1] at c0 hr1 hmc
      have HR1 := Lib.hid hr1
      unfold maxLen at hc1
      clear hes hm1 hev hr1
      go_wp2_with fail
      go_loopw [3, 7, 8, 9, 18] (fun o _ _ _ x wr => ∃ j : Nat, x = .int .i64 j ∧ j ≤ m ∧ Ext w wr ∧ Hid (wr.ownsRow w.heap.size 30 3 o (outL T i j).length ((outL T i j).flatMap Pr.cells))) (fun _ _ _ _ x _ => m - (intOf x).toNat)
      case atStart => exact ⟨0, rfl, Nat.zero_le _, hbw, hown⟩
      case round =>
        obtain ⟨j, rfl, hj, hbw2, hown2⟩ := hrel
        by_cases hc2 : j < m
        · obtain ⟨p, hp⟩ : ∃ p, es[j]? = some p := ⟨_, List.getElem?_eq_getElem (by rw [HM.out]; exact hc2)⟩
          obtain ⟨ad1, rfl, hb1, y0, y1, y2⟩ := (HR1.out.ext hbw2).getP hp
          have hst := outL_step HES.out hp
          have hol := outL_len (T := T) (i := i) (j := j)
          have hasc := outL_asc T i j
          have htt := take_tot HES.out
          rw [HM.out] at htt
          have htt2 := HTOT.out
          generalize outL T i j = O at *
          obtain ⟨k, hk⟩ : ∃ k, O.length = k := ⟨_, rfl⟩
          rw [hk] at hol
          have hk1 : k ≤ 1000 := by omega
          have ow := hown2.out
          rw [hk] at ow
          obtain ⟨A2, c2, rfl, hc3, hr2, -⟩ := own_rd ow
          obtain ⟨pk, pv, pg⟩ := p
          simp only at y0 y1 y2
          have HST := Lib.hid hst
          have HK := Lib.hid hk
          have HASC := Lib.hid hasc
          have HOW := Lib.hid ow
          have P3 := Bk.at_ wr 30 #[.string pk, .string pv, .bool pg] wr.heap.size rfl
          have e3 : Ext w (wr.alloc (.cells #[.string pk, .string pv, .bool pg] 30)) := hbw2.alloc _
          have e3r : Ext wr (wr.alloc (.cells #[.string pk, .string pv, .bool pg] 30)) := (Ext.refl _).alloc _
          have z0 : (wr.alloc (.cells #[.string pk, .string pv, .bool pg] 30)).cell? ⟨wr.heap.size, 0, none⟩ = some (.string pk) := P3.cell 0
          have HR2 := Lib.hid (hr2.ext e3r)
          clear hst hk hasc ow hown2 hr2 htt htt2 hol hp
          go_upto_region 8 with (fail)
          generalize wr.alloc (.cells #[.string pk, .string pv, .bool pg] 30) = W3 at *
          go_wp2_with fail
          refine (Find_any A2 k c2 O pk _ HR2.out hc3 (by omega) HASC.out).mono ?_
          obtain ⟨lo, HLO⟩ : ∃ x, Hid (lowN O pk = x) := ⟨_, rfl⟩
          obtain ⟨hb9, HHB⟩ : ∃ x, Hid (hasB O pk = x) := ⟨_, rfl⟩
          rw [HLO.out, HHB.out]
          rintro _ w4 ⟨rfl, hb4⟩
          have e4 := e3.trans hb4
          have P4 := P3.ext hb4
          have OW4 := Lib.hid (own_ext (own_ext HOW.out e3r) hb4)
          cases hb9 with
          | true =>
            have HN : Hid (w4.ownsRow w.heap.size 30 3 (.slice A2 k c2) (outL T i (j + 1)).length ((outL T i (j + 1)).flatMap Pr.cells)) := by
              show World.ownsRow _ _ _ _ _ _ _
              rw [HST.out, show addL O ⟨pk, pv, pg⟩ = O from if_pos HHB.out, HK.out]
              exact OW4.out
            clear P3 z0
            go_wp2_with fail
            go_roundw
            case rel => exact ⟨j + 1, by go_num, by omega, e4, HN⟩
            case measure => simp [intOf]; omega
          | false =>
            have hlo : lo ≤ k := by rw [← HLO.out, ← HK.out]; exact lowN_le _ _
            have q0 : w4.cell? ⟨wr.heap.size, 0, none⟩ = some (.string pk) := P4.cell 0
            have q1 : w4.cell? ⟨wr.heap.size, 1, none⟩ = some (.string pv) := P4.cell 1
            have q2 : w4.cell? ⟨wr.heap.size, 2, none⟩ = some (.bool pg) := P4.cell 2
            clear P3 z0 P4
            go_wp2_with fail
            have P5 := Bk.at_ w4 30 #[.string pk, .string pv, .bool pg] w4.heap.size rfl
            have e5 : Ext w4 (w4.alloc (.cells #[.string pk, .string pv, .bool pg] 30)) := (Ext.refl _).alloc _
            refine (Insert_own w.heap.size k lo w4.heap.size (.slice A2 k c2) (O.flatMap Pr.cells) #[.string pk, .string pv, .bool pg] _ hlo (by omega) (e4.trans e5).size (own_ext OW4.out e5) rfl P5 ?_ (cells_one O) ?_).mono ?_
            · intro e'
              have := OW4.out.lt _ e'
              omega
            · intro u hu
              simp at hu
              rcases hu with rfl | rfl | rfl <;> rfl
            · rintro _ w6 ⟨g, cap, rfl, own6, hg6, -⟩
              have HN : Hid (w6.ownsRow w.heap.size 30 3 (.slice (some ⟨g, 0, none⟩) (k + 1) cap) (outL T i (j + 1)).length ((outL T i (j + 1)).flatMap Pr.cells)) := by
                show World.ownsRow _ _ _ _ _ _ _
                rw [HST.out, show addL O ⟨pk, pv, pg⟩ = insL O lo ⟨pk, pv, pg⟩ from (if_neg (by rw [HHB.out]; decide)).trans (by rw [HLO.out]), ins_len (by rw [HK.out]; exact hlo), HK.out, ← cells_ins]
                exact own6
              have e6 := own_grown (own_ext OW4.out e5) hg6 w (Nat.le_refl _) (e4.trans e5)
              clear own6 hg6 P5
              go_wp2_with fail
              go_roundw
              case rel => exact ⟨j + 1, by go_num, by omega, e6, HN⟩
              case measure => simp [intOf]; omega
        · obtain rfl : j = m := by omega
          have HN := Lib.hid hown2.out
          rw [← HM.out, outL_end HES.out] at HN
          clear hown2 hc2
          go_wp2_with fail
          go_roundw
          case rel => exact ⟨i + 1, by go_num, by omega, hbw2, HN⟩
          case measure => simp [intOf]; omega
    · obtain rfl : i = n := by omega
      have hOl := outL_all (T := T)
      have hol := outL_len (T := T) (i := T.length) (j := 0)
      rw [HT.out] at hOl hol
      have h3 : (T.take i).flatten.length ≤ totL T := by
        rw [List.take_of_length_le (by rw [HT.out]; exact Nat.le_refl _), List.length_flatten]; exact Nat.le_refl _
      have h4 := HTOT.out
      have HOL := Lib.hid hOl
      generalize outL T i 0 = O at *
      have HC := Lib.hid (DeleteGone_any w.heap.size O.length _ O wr (by omega) rfl hown.out)
      have HOW := Lib.hid hown.out
      clear hown hOl hol h3 h4
      go_wp2_with fail
      refine HC.out.mono ?_
      rintro _ w5 ⟨⟨v', rfl, ho⟩, hg⟩
      rw [HOL.out] at ho
      have HO := Lib.hid ho
      have e5 := own_grown HOW.out hg w (Nat.le_refl _) hbw
      clear ho
      go_wp2_with fail
      go_ret
      exact ⟨⟨v', rfl, HO.out⟩, e5⟩
end Go.Proofs.YtcgfdhgceokcnaaDoor

/- an lsm in memory; what is young. -/
namespace Go.Proofs.YtcgfdhgceokcnaaDoor
open Go.RowKit Go.WideShapes
set_option linter.unusedVariables false
attribute [local go_sem ↓] Go.wp_at_zero Go.wp_at_succ

/-- a level's table -/
structure Tb where
  blk : Nat
  row : Value
  es : List Pr
def Tb.cells (t : Tb) : List Value := [.string (tabB t.es), .pointer (some ⟨t.blk, 0, none⟩)]
structure LAt (w : World) (x : Nat) (lim : Int) (sb : Nat) (sv : Value) (Y : List Pr) (lv : Value) (ts : List Tb) : Prop where
  bk : Bk w x 51 #[.int .i64 lim, .pointer (some ⟨sb, 0, none⟩), lv]
  st : StAt w 0 sb sv Y
  own : w.ownsRow 0 68 2 lv ts.length (ts.flatMap Tb.cells)
  tab : ∀ t ∈ ts, TbAt w 0 t.blk t.row t.es
  sep : ∀ t ∈ ts, ∀ g, t.row.ownBlock = some g → sv.ownBlock ≠ some g
  len : ts.length ≤ 8
/-- the blocks that it lies in -/
def LFoot (x sb : Nat) (sv lv : Value) (ts : List Tb) (g : Nat) : Prop := g = x ∨ g = sb ∨ sv.ownBlock = some g ∨ lv.ownBlock = some g ∨ ∃ t ∈ ts, g = t.blk ∨ t.row.ownBlock = some g
theorem LAt.chg {w w' : World} {x sb : Nat} {lim : Int} {sv lv : Value} {Y : List Pr} {ts : List Tb} {S : Nat → Prop} (h : LAt w x lim sb sv Y lv ts) (k : Chg w w' S) (hS : ∀ g, LFoot x sb sv lv ts g → ¬ S g) : LAt w' x lim sb sv Y lv ts :=
  ⟨h.bk.chg k (hS x (.inl rfl)), h.st.chg k (hS sb (.inr (.inl rfl))) fun g hg => hS g (.inr (.inr (.inl hg))), own_chg h.own k fun g hg => hS g (.inr (.inr (.inr (.inl hg)))),
    fun t ht => (h.tab t ht).chg k (hS _ (.inr (.inr (.inr (.inr ⟨t, ht, .inl rfl⟩))))) fun g hg => hS g (.inr (.inr (.inr (.inr ⟨t, ht, .inr hg⟩)))), h.sep, h.len⟩
theorem LAt.ext {w w' : World} {x sb : Nat} {lim : Int} {sv lv : Value} {Y : List Pr} {ts : List Tb} (h : LAt w x lim sb sv Y lv ts) (k : Ext w w') : LAt w' x lim sb sv Y lv ts :=
  h.chg (k.chg fun _ => False) fun _ _ h => h
theorem LAt.lt {w : World} {x sb : Nat} {lim : Int} {sv lv : Value} {Y : List Pr} {ts : List Tb} (h : LAt w x lim sb sv Y lv ts) {g : Nat} (hg : LFoot x sb sv lv ts g) : g < w.heap.size := by
  rcases hg with rfl | rfl | hg | hg | ⟨t, ht, rfl | hg⟩
  · exact h.bk.lt
  · exact h.st.bk.lt
  · exact (h.st.own.lt _ hg).2
  · exact (h.own.lt _ hg).2
  · exact (h.tab t ht).bk.lt
  · exact ((h.tab t ht).own.lt _ hg).2
/-- what is young is written -/
theorem LAt.young {w w' : World} {x sb : Nat} {lim : Int} {sv lv v' : Value} {Y Y' : List Pr} {ts : List Tb} (h : LAt w x lim sb sv Y lv ts) (k : Chg w w' (fun k => k = sb ∨ sv.ownBlock = some k)) (hs : StAt w' 0 sb v' Y') (hv : ∀ g, v'.ownBlock = some g → sv.ownBlock = some g ∨ w.heap.size ≤ g) : LAt w' x lim sb v' Y' lv ts := by
  refine ⟨h.bk.chg k ?_, hs, own_chg h.own k ?_, fun t ht => (h.tab t ht).chg k ?_ ?_, fun t ht g hg hg' => ?_, h.len⟩
  · rintro (e | e)
    · exact bk_ne h.bk h.st.bk (by decide) e
    · exact own_type h.st.own h.bk (by decide) e
  · rintro g hg (e | e)
    · subst e; exact own_type h.own h.st.bk (by decide) hg
    · exact own_own h.own h.st.own (by decide) hg e
  · rintro (e | e)
    · exact bk_ne (h.tab t ht).bk h.st.bk (by decide) e
    · exact own_type h.st.own (h.tab t ht).bk (by decide) e
  · rintro g hg (e | e)
    · subst e; exact own_type (h.tab t ht).own h.st.bk (by decide) hg
    · exact h.sep t ht g hg e
  · rcases hv g hg' with e | e
    · exact h.sep t ht g hg e
    · have := ((h.tab t ht).own.lt _ hg).2
      omega
/-- the blocks of its own, that it writes -/
def LOwn (x sb : Nat) (sv lv : Value) (g : Nat) : Prop := g = x ∨ g = sb ∨ sv.ownBlock = some g ∨ lv.ownBlock = some g
theorem LOwn.foot {x sb : Nat} {sv lv : Value} {ts : List Tb} {g : Nat} (h : LOwn x sb sv lv g) : LFoot x sb sv lv ts g := by
  rcases h with h | h | h | h
  · exact .inl h
  · exact .inr (.inl h)
  · exact .inr (.inr (.inl h))
  · exact .inr (.inr (.inr (.inl h)))
/-- an lsm with its blocks F, of which those in H are held: it may read them, and does not write them -/
def LMH (w : World) (F H : Nat → Prop) (x : Nat) (lim : Int) (Y : List Pr) (T : List (List Pr)) : Prop :=
  ∃ sb sv lv ts, LAt w x lim sb sv Y lv ts ∧ ts.map Tb.es = T ∧ (∀ g, LFoot x sb sv lv ts g → F g) ∧ ∀ g, LOwn x sb sv lv g → ¬ H g
abbrev nH : Nat → Prop := fun _ => False
abbrev LM (w : World) (F : Nat → Prop) (x : Nat) (lim : Int) (Y : List Pr) (T : List (List Pr)) : Prop := LMH w F nH x lim Y T
theorem LMH.chg {w w' : World} {F H S : Nat → Prop} {x : Nat} {lim : Int} {Y : List Pr} {T : List (List Pr)} (h : LMH w F H x lim Y T) (k : Chg w w' S) (hS : ∀ g, F g → ¬ S g) : LMH w' F H x lim Y T := by
  obtain ⟨sb, sv, lv, ts, hL, hT, hF, hH⟩ := h
  exact ⟨sb, sv, lv, ts, hL.chg k fun g hg => hS g (hF g hg), hT, hF, hH⟩
theorem LMH.ext {w w' : World} {F H : Nat → Prop} {x : Nat} {lim : Int} {Y : List Pr} {T : List (List Pr)} (h : LMH w F H x lim Y T) (k : Ext w w') : LMH w' F H x lim Y T := by
  obtain ⟨sb, sv, lv, ts, hL, hT, hF, hH⟩ := h
  exact ⟨sb, sv, lv, ts, hL.ext k, hT, hF, hH⟩
theorem LMH.free {w : World} {F H : Nat → Prop} {x : Nat} {lim : Int} {Y : List Pr} {T : List (List Pr)} (h : LMH w F H x lim Y T) : LM w F x lim Y T := by
  obtain ⟨sb, sv, lv, ts, hL, hT, hF, hH⟩ := h
  exact ⟨sb, sv, lv, ts, hL, hT, hF, fun g _ h => h⟩
theorem LMH.many {w : World} {F H : Nat → Prop} {x : Nat} {lim : Int} {Y : List Pr} {T : List (List Pr)} (h : LMH w F H x lim Y T) : Y.length ≤ 60 ∧ T.length ≤ 8 ∧ LsOk (Y :: T) := by
  obtain ⟨sb, sv, lv, ts, hL, rfl, hF, -⟩ := h
  refine ⟨hL.st.len, by rw [List.length_map]; exact hL.len, LsOk.cons ⟨hL.st.asc, hL.st.ok⟩ fun l hl => ?_⟩
  obtain ⟨t, ht, rfl⟩ := List.mem_map.1 hl
  exact ⟨(hL.tab t ht).asc, (hL.tab t ht).ok⟩
/-- what an operation leaves: it wrote its own blocks alone, and none that is held -/
structure LOH (w w' : World) (F H : Nat → Prop) (x : Nat) (lim : Int) (Y : List Pr) (T : List (List Pr)) (F' : Nat → Prop) : Prop where
  at_ : LMH w' F' H x lim Y T
  chg : Chg w w' (fun g => F g ∧ ¬ H g)
  new : ∀ g, F' g → F g ∨ w.heap.size ≤ g
structure LOp (w w' : World) (F : Nat → Prop) (x : Nat) (lim : Int) (Y : List Pr) (T : List (List Pr)) (F' : Nat → Prop) : Prop where
  at_ : LM w' F' x lim Y T
  chg : Chg w w' F
  new : ∀ g, F' g → F g ∨ w.heap.size ≤ g
theorem LOH.free {w w' : World} {F H F' : Nat → Prop} {x : Nat} {lim : Int} {Y : List Pr} {T : List (List Pr)} (h : LOH w w' F H x lim Y T F') : LOp w w' F x lim Y T F' :=
  ⟨h.at_.free, h.chg.mono fun _ _ hg => hg.1, h.new⟩
theorem LMH.op {w w' : World} {F H : Nat → Prop} {x : Nat} {lim : Int} {Y : List Pr} {T : List (List Pr)} (h : LMH w F H x lim Y T) (k : Ext w w') : LOH w w' F H x lim Y T F := ⟨h.ext k, k.chg _, fun g hg => .inl hg⟩
theorem LOH.trans {w w1 w2 : World} {F H F1 F2 : Nat → Prop} {x : Nat} {lim : Int} {Y Y' : List Pr} {T T' : List (List Pr)} (h : LOH w w1 F H x lim Y T F1) (k : LOH w1 w2 F1 H x lim Y' T' F2) : LOH w w2 F H x lim Y' T' F2 :=
  ⟨k.at_, h.chg.trans k.chg fun g hg hF => ⟨(h.new g hF.1).resolve_right (by omega), hF.2⟩, fun g hg => (k.new g hg).elim (fun e => h.new g e) fun e => .inr (Nat.le_trans h.chg.size e)⟩
theorem LOp.trans {w w1 w2 : World} {F F1 F2 : Nat → Prop} {x : Nat} {lim : Int} {Y Y' : List Pr} {T T' : List (List Pr)} (h : LOp w w1 F x lim Y T F1) (k : LOp w1 w2 F1 x lim Y' T' F2) : LOp w w2 F x lim Y' T' F2 :=
  ⟨k.at_, h.chg.trans k.chg fun g hg hF => (h.new g hF).resolve_right (by omega), fun g hg => (k.new g hg).elim (fun e => h.new g e) fun e => .inr (Nat.le_trans h.chg.size e)⟩
theorem LOp.keep {w0 w w' : World} {F F' : Nat → Prop} {x : Nat} {lim : Int} {Y : List Pr} {T : List (List Pr)} (h : LOp w w' F x lim Y T F') (e : Ext w0 w) (hF : ∀ g, F g → w0.heap.size ≤ g) : Ext w0 w' ∧ ∀ g, F' g → w0.heap.size ≤ g := by
  refine ⟨((e.chg F).trans h.chg fun g _ hg => hg).ext fun g hg hS => ?_, fun g hg => ?_⟩
  · have := hF g hS; omega
  · rcases h.new g hg with e' | e'
    · exact hF g e'
    · have := e.size; omega

def LNewR (n : Int) (w : World) (e : Ending) (w' : World) : Prop :=
    ((n < 1 ∨ 60 < n) ∧ e = .returned (.tuple #[.pointer none, errR 1]) ∧ w = w') ∨ ((1 ≤ n ∧ n ≤ 60) ∧ ∃ x F, e = .returned (.tuple #[.pointer (some ⟨x, 0, none⟩), .nilIface]) ∧ LM w' F x n [] [] ∧ (∀ g, F g → w.heap.size ≤ g) ∧ Ext w w')
set_option maxRecDepth 100000 in
theorem LNew_any (n : Int) (w : World) : Calls Tryd.prog 11 #[.int .i64 n] w fun e w' => LNewR n w e w' := by
  by_cases hn : 1 ≤ n ∧ n ≤ 60
  · obtain ⟨h1, h2⟩ := hn
    have h1' : ¬ n < 1 := by omega
    have h2' : ¬ 60 < n := by omega
    go_enter Tryd.func11, Tryd.ntmps11
    go_wp2_with fail
    refine (SNew_any 0 _ (Nat.zero_le _)).mono ?_
    rintro _ w1 ⟨rfl, hs, hb⟩
    have HS := Lib.hid hs
    have B2 := Bk.at_ w1 51 #[.int .i64 n, .pointer (some ⟨w.heap.size, 0, none⟩), .slice none 0 0] w1.heap.size rfl
    have e2 : Ext w1 (w1.alloc (.cells #[.int .i64 n, .pointer (some ⟨w.heap.size, 0, none⟩), .slice none 0 0] 51)) := (Ext.refl _).alloc _
    clear hs
    go_wp2_with fail
    go_ret2
    refine .inr ⟨⟨h1, h2⟩, w1.heap.size, _, rfl, ⟨_, _, _, [], ⟨B2, HS.out.ext e2, own_nil _ _ _ _, fun t ht => by simp at ht, fun t ht => by simp at ht, Nat.zero_le _⟩, rfl, fun g hg => hg, fun g _ h => h⟩, fun g hg => ?_, hb.trans e2⟩
    have := hb.size
    rcases hg with rfl | rfl | hg | hg | ⟨t, ht, _⟩
    · exact this
    · exact Nat.le_refl _
    · simp [Value.ownBlock] at hg
    · simp [Value.ownBlock] at hg
    · simp at ht
  · have hn' : n < 1 ∨ (¬ n < 1 ∧ 60 < n) := by omega
    clear hn
    rcases hn' with h | ⟨h, h2⟩
    all_goals
      go_enter Tryd.func11, Tryd.ntmps11
      go_wp2_with fail
      go_ret2
      exact .inl ⟨by omega, rfl, rfl⟩
set_option maxRecDepth 100000 in
set_option maxHeartbeats 2000000 in
theorem lputH_any (F H : Nat → Prop) (x : Nat) (lim : Int) (Y : List Pr) (T : List (List Pr)) (p : Pr) (w : World) (h : LMH w F H x lim Y T) (hHl : ∀ g, H g → g < w.heap.size) (hp : p.gone = true → p.value.size = 0) :
    Calls Tryd.prog 32 #[.pointer (some ⟨x, 0, none⟩), p.val] w fun e w' => e = .returned (errR (putK Y p)) ∧ ∃ F', LOH w w' F H x lim (storeL Y p) T F' := by
  obtain ⟨sb, sv, lv, ts, hL, hT, hF, hH⟩ := h
  have HH := Lib.hid hH
  have HHL := Lib.hid hHl
  obtain ⟨pk, pv, pg⟩ := p
  have B1 := Bk.at_ w 30 #[.string pk, .string pv, .bool pg] w.heap.size rfl
  have e1 : Ext w (w.alloc (.cells #[.string pk, .string pv, .bool pg] 30)) := (Ext.refl _).alloc _
  have y0 : (w.alloc (.cells #[.string pk, .string pv, .bool pg] 30)).cell? ⟨w.heap.size, 0, none⟩ = some (.string pk) := B1.cell 0
  have y1 : (w.alloc (.cells #[.string pk, .string pv, .bool pg] 30)).cell? ⟨w.heap.size, 1, none⟩ = some (.string pv) := B1.cell 1
  have y2 : (w.alloc (.cells #[.string pk, .string pv, .bool pg] 30)).cell? ⟨w.heap.size, 2, none⟩ = some (.bool pg) := B1.cell 2
  have hL1 := hL.ext e1
  have x1 : (w.alloc (.cells #[.string pk, .string pv, .bool pg] 30)).cell? ⟨x, 1, none⟩ = some (.pointer (some ⟨sb, 0, none⟩)) := hL1.bk.cell 1
  have HT := Lib.hid hT
  have HF := Lib.hid hF
  have HL1 := Lib.hid hL1
  have hL2 := hL.ext e1.drew
  have HL2 := Lib.hid hL2
  have hfin : ∀ (w' : World) (v' : Value), StAt w' 0 sb v' (storeL Y ⟨pk, pv, pg⟩) → Chg (w.alloc (.cells #[.string pk, .string pv, .bool pg] 30)).drew w' (fun k => k = sb ∨ sv.ownBlock = some k) → (∀ g, v'.ownBlock = some g → sv.ownBlock = some g ∨ (w.alloc (.cells #[.string pk, .string pv, .bool pg] 30)).drew.heap.size ≤ g) → ∃ F', LOH w w' F H x lim (storeL Y ⟨pk, pv, pg⟩) T F' := fun w' v' hs k hv => by
    refine ⟨LFoot x sb v' lv ts, ⟨⟨sb, v', lv, ts, HL2.out.young k hs hv, HT.out, fun g hg => hg, fun g hg => ?_⟩, ((e1.drew.chg (fun g => F g ∧ ¬ H g)).trans (k.mono fun g _ hg => ?_) fun g _ hg => hg), fun g hg => ?_⟩⟩
    · rcases hg with hg | hg | hg | hg
      · exact HH.out g (.inl hg)
      · exact HH.out g (.inr (.inl hg))
      · rcases hv g hg with h | h
        · exact HH.out g (.inr (.inr (.inl h)))
        · intro hh
          have := e1.drew.size
          have := HHL.out g hh
          omega
      · exact HH.out g (.inr (.inr (.inr hg)))
    · rcases hg with rfl | hg
      · exact ⟨HF.out _ (.inr (.inl rfl)), HH.out _ (.inr (.inl rfl))⟩
      · exact ⟨HF.out _ (.inr (.inr (.inl hg))), HH.out _ (.inr (.inr (.inl hg)))⟩
    · rcases hg with rfl | rfl | hg | hg | ht
      · exact .inl (HF.out _ (.inl rfl))
      · exact .inl (HF.out _ (.inr (.inl rfl)))
      · rcases hv g hg with h | h
        · exact .inl (HF.out _ (.inr (.inr (.inl h))))
        · have := e1.drew.size
          exact .inr (by omega)
      · exact .inl (HF.out _ (.inr (.inr (.inr (.inl hg)))))
      · exact .inl (HF.out _ (.inr (.inr (.inr (.inr ht)))))
  have HFIN := Lib.hid hfin
  clear hT hF hL1 hL2 hL hfin hH hHl
  cases pg with
  | true =>
    have hv0 : pv = ⟨#[]⟩ := str_noneP (hp rfl)
    subst hv0
    have HC := Lib.hid (SDrop_any 0 sb sv Y pk _ HL2.out.st (Nat.zero_le _))
    clear hp
    go_enter Tryd.func32, Tryd.ntmps32
    go_wp2_with fail
    generalize w.alloc (.cells #[.string pk, .string ⟨#[]⟩, .bool true] 30) = W1 at *
    go_region_with (go_at_call 45; refine HC.out.mono ?_; rintro _ w2 ⟨rfl, hh⟩; have HHc := Lib.hid hh; clear hh)
    all_goals
      go_wp2_with fail
      go_ret
      obtain ⟨v', hs, k, hv⟩ := HHc.out
      exact ⟨rfl, HFIN.out _ v' hs k hv⟩
  | false =>
    have HC := Lib.hid (SPut_any 0 sb sv Y pk pv _ HL2.out.st (Nat.zero_le _))
    clear hp
    go_enter Tryd.func32, Tryd.ntmps32
    go_wp2_with fail
    generalize w.alloc (.cells #[.string pk, .string pv, .bool false] 30) = W1 at *
    go_region_with (go_at_call 46; refine HC.out.mono ?_; rintro _ w2 ⟨rfl, hh⟩; have HHc := Lib.hid hh; clear hh)
    all_goals
      go_wp2_with fail
      go_ret
      obtain ⟨v', hs, k, hv⟩ := HHc.out
      exact ⟨rfl, HFIN.out _ v' hs k hv⟩
theorem lput_any (F : Nat → Prop) (x : Nat) (lim : Int) (Y : List Pr) (T : List (List Pr)) (p : Pr) (w : World) (h : LM w F x lim Y T) (hp : p.gone = true → p.value.size = 0) :
    Calls Tryd.prog 32 #[.pointer (some ⟨x, 0, none⟩), p.val] w fun e w' => e = .returned (errR (putK Y p)) ∧ ∃ F', LOp w w' F x lim (storeL Y p) T F' :=
  (lputH_any F nH x lim Y T p w h (fun _ h => absurd h id) hp).mono fun _ _ ⟨he, F', ho⟩ => ⟨he, F', ho.free⟩
end Go.Proofs.YtcgfdhgceokcnaaDoor

/- lsm: the lists of all levels; merge. -/
namespace Go.Proofs.YtcgfdhgceokcnaaDoor
open Go.RowKit Go.WideShapes
set_option linter.unusedVariables false
attribute [local go_sem ↓] Go.wp_at_zero Go.wp_at_succ

theorem info_rowP : (Tryd.prog.info? 27).map (fun i => (i.zero, i.size, i.bytes)) = some (some (.slice none 0 0), 1, 24) := by kernel_rfl
theorem Rd.getT {w : World} {A : Option Addr} {n c : Nat} {ts : List Tb} (h : Rd w 2 A n c (ts.flatMap Tb.cells)) {j : Nat} {t : Tb} (ht : ts[j]? = some t) :
    ∃ ad, A = some ad ∧ ad.block < w.heap.size ∧ w.cell? (ad.add (j * 2)) = some (.string (tabB t.es)) ∧ w.cell? ⟨(ad.add (j * 2)).block, (ad.add (j * 2)).off + 1, none⟩ = some (.pointer (some ⟨t.blk, 0, none⟩)) := by
  have h0 := flat_nthP (f := Tb.cells) (k := 2) (fun _ => rfl) ts j t 0 ht (by omega)
  have h1 := flat_nthP (f := Tb.cells) (k := 2) (fun _ => rfl) ts j t 1 ht (by omega)
  obtain ⟨ad, e1, hb, hc0⟩ := h.at_ h0
  obtain ⟨ad', e2, _, hc1⟩ := h.at_ h1
  rw [e1] at e2
  obtain rfl : ad = ad' := by injection e2
  rw [← add_add'] at hc1
  exact ⟨ad, e1, hb, hc0, hc1⟩
/-- lists of pairs, each in a row that is owned -/
def OwLs (w : World) (vs : List Value) (T : List (List Pr)) : Prop :=
  vs.length = T.length ∧ ∀ (i : Nat) (v : Value) (es : List Pr), vs[i]? = some v → T[i]? = some es → w.ownsRow 0 30 3 v es.length (es.flatMap Pr.cells)
theorem OwLs.ext {w w' : World} {vs : List Value} {T : List (List Pr)} (h : OwLs w vs T) (k : Ext w w') : OwLs w' vs T := ⟨h.1, fun i v es hv hT => own_ext (h.2 i v es hv hT) k⟩
theorem OwLs.rd {w : World} {vs : List Value} {T : List (List Pr)} (h : OwLs w vs T) : RdLs w vs T := ⟨h.1, fun i v es hv hT => by
  obtain ⟨A, c, e, hc, hr, _⟩ := own_rd (h.2 i v es hv hT)
  exact ⟨A, c, e, hc, hr⟩⟩
theorem OwLs.grown {w w' : World} {vs us : List Value} {T : List (List Pr)} {o : Value} {base n : Nat} (h : OwLs w vs T) (ho : w.ownsRow base 27 1 o n us) (k : w.grownBy w' o.ownBlock) : OwLs w' vs T :=
  ⟨h.1, fun i v es hv hT => own_chg (h.2 i v es hv hT) (gb_chg k) fun g hg hg' => own_own (h.2 i v es hv hT) ho (by decide) hg hg'⟩
theorem OwLs.snoc {w : World} {vs : List Value} {T : List (List Pr)} (h : OwLs w vs T) {v : Value} {es : List Pr} (hr : w.ownsRow 0 30 3 v es.length (es.flatMap Pr.cells)) : OwLs w (vs ++ [v]) (T ++ [es]) := by
  refine ⟨by rw [List.length_append, List.length_append, h.1]; rfl, fun i u fs hv hT => ?_⟩
  by_cases hi : i < vs.length
  · rw [List.getElem?_append_left hi] at hv
    rw [List.getElem?_append_left (by rw [← h.1]; exact hi)] at hT
    exact h.2 i u fs hv hT
  · rw [List.getElem?_append_right (by omega)] at hv
    rw [List.getElem?_append_right (by rw [← h.1]; omega), ← h.1] at hT
    have hl := (List.getElem?_eq_some_iff.1 hv).1
    have h0 : i - vs.length = 0 := by simp at hl; omega
    rw [h0] at hv hT
    obtain rfl : v = u := by simpa using hv
    obtain rfl : es = fs := by simpa using hT
    exact hr
theorem OwLs.nil (w : World) : OwLs w [] [] := ⟨rfl, fun i v es h => by simp at h⟩

set_option maxRecDepth 100000 in
set_option maxHeartbeats 2000000 in
theorem lists_any (F : Nat → Prop) (x : Nat) (lim : Int) (Y : List Pr) (T : List (List Pr)) (w : World) (h : LM w F x lim Y T) :
    Calls Tryd.prog 17 #[.pointer (some ⟨x, 0, none⟩)] w fun e w' => (∃ v vs, e = .returned v ∧ w'.ownsRow w.heap.size 27 1 v T.length vs ∧ OwLs w' vs T) ∧ Ext w w' := by
  obtain ⟨sb, sv, lv, ts, hL, rfl, -, -⟩ := h
  obtain ⟨n, hn⟩ : ∃ n, ts.length = n := ⟨_, rfl⟩
  have hn8 : n ≤ 8 := by rw [← hn]; exact hL.len
  have ow := hL.own
  rw [hn] at ow
  obtain ⟨A, c, rfl, hc, hr, -⟩ := own_rd ow
  have hnc := hr.2.1
  have c2 : w.cell? ⟨x, 2, none⟩ = some (.slice A n c) := hL.bk.cell 2
  have HN := Lib.hid hn
  have HL := Lib.hid hL
  have H0 : Hid (w.ownsRow w.heap.size 27 1 (.slice none 0 0) 0 []) := own_nil _ _ _ _
  have H1 : Hid (OwLs w [] ((ts.map Tb.es).take 0)) := OwLs.nil w
  clear ow hn hL
  rw [List.length_map, HN.out]
  unfold maxLen at hc
  go_enter Tryd.func17, Tryd.ntmps17
  go_wp2_with fail
  go_loopw [2, 4, 10] (fun o _ y wr => ∃ (i : Nat) (vs : List Value), y = .int .i64 i ∧ i ≤ n ∧ Ext w wr ∧ Hid (wr.ownsRow w.heap.size 27 1 o i vs) ∧ Hid (OwLs wr vs ((ts.map Tb.es).take i))) (fun _ _ y _ => n - (intOf y).toNat)
  case atStart => exact ⟨0, [], rfl, Nat.zero_le _, Ext.refl _, H0, H1⟩
  case round =>
    obtain ⟨i, vs, rfl, hi, hbw, hown, hrd⟩ := hrel
    by_cases hc3 : i < n
    · obtain ⟨t, ht⟩ : ∃ t, ts[i]? = some t := ⟨_, List.getElem?_eq_getElem (by rw [HN.out]; exact hc3)⟩
      obtain ⟨ad, rfl, hb, y0, y1⟩ := (hr.ext hbw).getT ht
      have HTB := Lib.hid ((HL.out.tab t (List.mem_of_getElem? ht)).ext hbw)
      have HTT : Hid ((ts.map Tb.es).take (i + 1) = (ts.map Tb.es).take i ++ [t.es]) := by
        show _ = _
        have h1 : (ts.map Tb.es)[i]? = some t.es := by rw [List.getElem?_map, ht]; rfl
        obtain ⟨h2, h3⟩ := List.getElem?_eq_some_iff.1 h1
        rw [List.take_succ_eq_append_getElem h2, h3]
      obtain ⟨tb, tv, te⟩ := t
      simp only at y0 y1
      obtain ⟨bs, HBS⟩ : ∃ b, Hid (tabB te = b) := ⟨_, rfl⟩
      rw [HBS.out] at y0
      have B3 := Bk.at_ wr 68 #[.string bs, .pointer (some ⟨tb, 0, none⟩)] wr.heap.size rfl
      have e3 : Ext wr (wr.alloc (.cells #[.string bs, .pointer (some ⟨tb, 0, none⟩)] 68)) := (Ext.refl _).alloc _
      have z1 : (wr.alloc (.cells #[.string bs, .pointer (some ⟨tb, 0, none⟩)] 68)).cell? ⟨wr.heap.size, 1, none⟩ = some (.pointer (some ⟨tb, 0, none⟩)) := B3.cell 1
      have HT3 := Lib.hid (HTB.out.ext e3)
      have O3 := Lib.hid (own_ext hown.out e3)
      have R3 := Lib.hid (hrd.out.ext e3)
      have e3w := hbw.trans e3
      clear ht hown hrd HTB B3
      go_wp2_with fail
      refine (TAll_any 0 tb tv te _ HT3.out).mono ?_
      rintro _ w4 ⟨⟨v4, rfl, o4⟩, hb4⟩
      have e4 := e3w.trans hb4
      obtain ⟨A4, c4, rfl, hc4, hr4, -⟩ := own_rd o4
      have O4 := Lib.hid (own_ext O3.out hb4)
      have R4 := Lib.hid ((R3.out.ext hb4).snoc (own_lower o4 (Nat.zero_le _)))
      rw [← HTT.out] at R4
      generalize te.length = m4 at *
      have e5 : Ext w4 (w4.alloc (.cells #[.slice A4 m4 c4] 27)) := (Ext.refl _).alloc _
      have O5 := Lib.hid (own_ext O4.out e5)
      have R5 := Lib.hid (R4.out.ext e5)
      have e5w := e4.trans e5
      have hb5 := e5w.size
      obtain ⟨i0, hi0, hz0, hzs, hzb⟩ := info_parts info_rowP
      clear o4 hr4 z1 O3 R3 O4 R4
      go_wp2_with (at_builtin; go_loud (refine wpList_append_own _ rfl _ _ 47 rfl w.heap.size 27 i0 _ 1 24 Tryd.underlying47 hi0 hz0 hzs hzb rfl (by omega) u2 i _ rfl O5.out ⟨w4.heap.size, 0, none⟩ 1 1 [.slice A4 m4 c4] (by rfl) rfl (news_new w4 _ _ _ rfl) (by intro u hu; simp at hu; subst hu; rfl) (by unfold maxLen; omega) (by omega) hb5 ?_); intro v6 w6 own6 hg6 hH6; clear hH6; have e6 := own_grown O5.out hg6 w (Nat.le_refl _) e5w)
      have R6 := Lib.hid (R5.out.grown O5.out hg6)
      go_roundw
      case rel => exact ⟨i + 1, _, by go_num, by omega, e6, own6, R6⟩
      case measure => simp [intOf]; omega
    · obtain rfl : i = n := by omega
      have HO := Lib.hid hown.out
      have HR := Lib.hid hrd.out
      rw [List.take_of_length_le (by rw [List.length_map, HN.out]; exact Nat.le_refl _)] at HR
      clear hown hrd
      go_wp2_with fail
      go_ret
      exact ⟨⟨_, _, rfl, HO.out, HR.out⟩, hbw⟩
end Go.Proofs.YtcgfdhgceokcnaaDoor

/- lsm: Merge. -/
namespace Go.Proofs.YtcgfdhgceokcnaaDoor
open Go.RowKit Go.WideShapes
set_option linter.unusedVariables false
attribute [local go_sem ↓] Go.wp_at_zero Go.wp_at_succ

/-- the levels are others -/
theorem LAt.relevel {w w' : World} {x sb : Nat} {lim : Int} {sv lv lv' : Value} {Y : List Pr} {ts ts' : List Tb} (h : LAt w x lim sb sv Y lv ts) (k : Chg w w' (fun k => k = x)) (hb : Bk w' x 51 #[.int .i64 lim, .pointer (some ⟨sb, 0, none⟩), lv'])
    (ho : w'.ownsRow 0 68 2 lv' ts'.length (ts'.flatMap Tb.cells)) (ht : ∀ t ∈ ts', TbAt w' 0 t.blk t.row t.es) (hs : ∀ t ∈ ts', ∀ g, t.row.ownBlock = some g → sv.ownBlock ≠ some g) (hl : ts'.length ≤ 8) : LAt w' x lim sb sv Y lv' ts' :=
  ⟨hb, h.st.chg k (bk_ne h.st.bk h.bk (by decide)) (fun g hg e => own_type h.st.own h.bk (by decide) (by rw [← e]; exact hg)), ho, ht, hs, hl⟩
theorem own_one (w : World) (t : Tb) : (w.alloc (.cells #[.string (tabB t.es), .pointer (some ⟨t.blk, 0, none⟩)] 68)).ownsRow 0 68 2 (.slice (some ⟨w.heap.size, 0, none⟩) 1 1) 1 ([t].flatMap Tb.cells) :=
  ⟨rfl, .inr ⟨w.heap.size, 1, #[.string (tabB t.es), .pointer (some ⟨t.blk, 0, none⟩)], rfl, Nat.zero_le _, Bk.at_ w _ _ w.heap.size rfl, Nat.le_refl _, by unfold maxLen; omega, rfl, rfl⟩⟩

set_option maxRecDepth 100000 in
set_option maxHeartbeats 2000000 in
theorem LMergeH_any (F H : Nat → Prop) (x : Nat) (lim : Int) (Y : List Pr) (T : List (List Pr)) (w : World) (h : LMH w F H x lim Y T) (hHl : ∀ g, H g → g < w.heap.size) (htot : totL T ≤ 1000) :
    Calls Tryd.prog 56 #[.pointer (some ⟨x, 0, none⟩)] w fun e w' => e = .returned (errR (mgK T)) ∧ ∃ F', LOH w w' F H x lim Y (mergeT T) F' := by
  obtain ⟨hE, hN, hG⟩ := errR_rules
  have HM := Lib.hid h
  have HMY := Lib.hid h.many
  have HLI := Lib.hid (lists_any F x lim Y T w h.free)
  obtain ⟨sb, sv, lv, ts, hL, hT, hF, hH⟩ := h
  have HH := Lib.hid hH
  have HHL := Lib.hid hHl
  have HSV := Lib.hid (fun g (hg : sv.ownBlock = some g) => (hL.st.own.lt g hg).2)
  obtain ⟨n, hn⟩ : ∃ n, ts.length = n := ⟨_, rfl⟩
  have hTn : T.length = n := by rw [← hT, List.length_map, hn]
  have ow := hL.own
  rw [hn] at ow
  obtain ⟨A, c, rfl, hc, hr, -⟩ := own_rd ow
  have HL := Lib.hid hL
  have HT := Lib.hid hT
  have HF := Lib.hid hF
  have c2 : w.cell? ⟨x, 2, none⟩ = some (.slice A n c) := hL.bk.cell 2
  have HTN := Lib.hid hTn
  have HTOT := Lib.hid htot
  clear ow hr hL hT hF hn hTn htot hH hHl
  by_cases h0 : n = 0
  · subst h0
    have hk : mgK T = 6 := if_pos HTN.out
    have hmt : mergeT T = T := by rw [List.length_eq_zero_iff.1 HTN.out]; rfl
    rw [hk, hmt]
    clear hk hmt
    go_enter Tryd.func56, Tryd.ntmps56
    go_wp2_with fail
    go_ret
    exact ⟨rfl, F, HM.out.op (Ext.refl _)⟩
  · have hk : mgK T = 0 := if_neg (by rw [HTN.out]; exact h0)
    rw [hk, errR_0]
    have h0i : ¬ (n : Int) = 0 := by omega
    obtain ⟨L, hLL⟩ : ∃ L, liveL T = L := ⟨_, rfl⟩
    have HLL := Lib.hid hLL
    have hlen := live_len T
    rw [hLL] at hlen
    have hl2 : L.length ≤ 1000 := by have := HTOT.out; omega
    have HOK := Lib.hid (live_ok HMY.out.2.2.tl)
    rw [hLL] at HOK
    clear hk hLL hlen h0
    go_enter Tryd.func56, Tryd.ntmps56
    go_wp2_with fail
    refine HLI.out.mono ?_
    rintro _ w1 ⟨⟨v1, vs, rfl, o1, R1⟩, hb1⟩
    obtain ⟨A1, c1, rfl, hc1, hr1, -⟩ := own_rd o1
    have HC := Lib.hid (live_any A1 T.length c1 vs T w1 hr1 hc1 R1.rd HTOT.out)
    rw [HLL.out] at HC
    clear o1 R1 hr1 HLI
    generalize T.length = m at *
    go_wp2_with fail
    refine HC.out.mono ?_
    rintro _ w2 ⟨⟨v2, rfl, o2⟩, hb2⟩
    obtain ⟨k, hk⟩ : ∃ k, L.length = k := ⟨_, rfl⟩
    rw [hk] at o2 hl2
    obtain ⟨A2, c2', rfl, hc2, hr2, -⟩ := own_rd o2
    have HK := Lib.hid hk
    have HR2 := Lib.hid hr2
    have e2 := hb1.trans hb2
    have L2 := HL.out.ext e2
    have fr2 : w2.frozen? ⟨x, 2, none⟩ = false := L2.bk.frozen 2
    have s2 : w2.cell? ⟨x, 2, none⟩ = some (.slice A n c) := L2.bk.cell 2
    have HL2 := Lib.hid L2
    have hnc2 := hr2.2.1
    clear o2 hk hr2 HC L2
    by_cases hk0 : k = 0
    · subst hk0
      have hLn : L = [] := List.length_eq_zero_iff.1 HK.out
      have hmt : mergeT T = [] := by unfold mergeT; rw [if_pos (HLL.out.trans hLn)]
      have HMT := Lib.hid hmt
      clear hLn hmt
      go_wp2_with fail
      go_ret
      have g3 := gb_chg (gb_set w2 x 2 (.slice none 0 0))
      have k3 : Chg w2 (w2.setCell ⟨x, 2, none⟩ (.slice none 0 0)) (fun k => k = x) := g3.mono fun g _ hg => by injection hg with hg; exact hg.symm
      have B3 := HL2.out.bk.set_ 2 (.slice none 0 0)
      refine ⟨rfl, LFoot x sb sv (.slice none 0 0) [], ⟨⟨sb, sv, _, [], HL2.out.relevel k3 B3 (own_nil _ _ _ _) (fun t ht => by simp at ht) (fun t ht => by simp at ht) (Nat.zero_le _), HMT.out.symm, fun g hg => hg, fun g hg => ?_⟩, ((e2.chg (fun g => F g ∧ ¬ H g)).trans (k3.mono fun g _ hg => ⟨HF.out g (.inl hg), HH.out g (.inl hg)⟩) fun g _ hg => hg), fun g hg => .inl ?_⟩⟩
      · rcases hg with hg | hg | hg | hg
        · exact HH.out g (.inl hg)
        · exact HH.out g (.inr (.inl hg))
        · exact HH.out g (.inr (.inr (.inl hg)))
        · simp [Value.ownBlock] at hg
      · rcases hg with rfl | rfl | hg | hg | ⟨t, ht, _⟩
        · exact HF.out _ (.inl rfl)
        · exact HF.out _ (.inr (.inl rfl))
        · exact HF.out _ (.inr (.inr (.inl hg)))
        · simp [Value.ownBlock] at hg
        · simp at ht
    · have hk0i : ¬ (k : Int) = 0 := by omega
      have hLn : L ≠ [] := fun e => hk0 (by rw [← HK.out, e]; rfl)
      have hmt : mergeT T = [L] := by unfold mergeT; rw [HLL.out, if_neg hLn]
      have HMT := Lib.hid hmt
      have HB := Lib.hid (built_any A2 k c2' L w2 HR2.out hc2 (by omega) (tblK_zero.2 HOK.out))
      clear hLn hmt hk0
      go_wp2_with fail
      refine HB.out.mono ?_
      rintro _ w3 ⟨⟨tb, tv, rfl, tb3, htb⟩, hb3⟩
      have HTB := Lib.hid tb3
      obtain ⟨bs, HBS⟩ : ∃ b, Hid (tabB L = b) := ⟨_, rfl⟩
      rw [HBS.out]
      have B4 := Bk.at_ w3 68 #[.string bs, .pointer (some ⟨tb, 0, none⟩)] w3.heap.size rfl
      have e4 : Ext w3 (w3.alloc (.cells #[.string bs, .pointer (some ⟨tb, 0, none⟩)] 68)) := (Ext.refl _).alloc _
      have z0 : (w3.alloc (.cells #[.string bs, .pointer (some ⟨tb, 0, none⟩)] 68)).cell? ⟨w3.heap.size, 0, none⟩ = some (.string bs) := B4.cell 0
      have z1 : (w3.alloc (.cells #[.string bs, .pointer (some ⟨tb, 0, none⟩)] 68)).cell? ⟨w3.heap.size, 1, none⟩ = some (.pointer (some ⟨tb, 0, none⟩)) := B4.cell 1
      have HT4 := Lib.hid (HTB.out.ext e4)
      have HL4 := Lib.hid ((HL2.out.ext hb3).ext e4)
      have e4w := (e2.trans hb3).trans e4
      have htb2 : w.heap.size ≤ tb := by have := e2.size; omega
      have htv : ∀ g, tv.ownBlock = some g → w.heap.size ≤ g := fun g hg => by
        have h1 := own_block tb3.own g hg
        have := e2.size
        omega
      have HTV := Lib.hid htv
      clear tb3 B4 s2 fr2 htv htb
      go_upto_region 8 with (fail)
      generalize w3.alloc (.cells #[.string bs, .pointer (some ⟨tb, 0, none⟩)] 68) = W4 at *
      have e5 : Ext W4 (W4.alloc (.cells #[.string bs, .pointer (some ⟨tb, 0, none⟩)] 68)) := (Ext.refl _).alloc _
      have L5 := HL4.out.ext e5
      have HL5 := Lib.hid L5
      have x2 : (W4.alloc (.cells #[.string bs, .pointer (some ⟨tb, 0, none⟩)] 68)).cell? ⟨x, 2, none⟩ = some (.slice A n c) := L5.bk.cell 2
      have f2 : (W4.alloc (.cells #[.string bs, .pointer (some ⟨tb, 0, none⟩)] 68)).frozen? ⟨x, 2, none⟩ = false := L5.bk.frozen 2
      have o5 := own_one W4 ⟨tb, tv, L⟩
      simp only at o5
      rw [HBS.out] at o5
      have O5 := Lib.hid o5
      have T5 := Lib.hid (HT4.out.ext e5)
      have e5w := e4w.trans e5
      have hw4 := e4w.size
      clear L5 o5
      go_wp2_with fail
      go_ret
      generalize hW5 : W4.alloc (.cells #[.string bs, .pointer (some ⟨tb, 0, none⟩)] 68) = W5 at *
      have k6 : Chg W5 (W5.setCell ⟨x, 2, none⟩ (.slice (some ⟨W4.heap.size, 0, none⟩) 1 1)) (fun k => k = x) := (gb_chg (gb_set W5 x 2 _)).mono fun g _ hg => by injection hg with hg; exact hg.symm
      have B6 := HL5.out.bk.set_ 2 (.slice (some ⟨W4.heap.size, 0, none⟩) 1 1)
      have hxlt := HL.out.bk.lt
      have hsv : ∀ g, sv.ownBlock = some g → g < w.heap.size := fun g hg => (HL.out.st.own.lt _ hg).2
      refine ⟨rfl, LFoot x sb sv (.slice (some ⟨W4.heap.size, 0, none⟩) 1 1) [⟨tb, tv, L⟩], ⟨⟨sb, sv, _, [⟨tb, tv, L⟩], HL5.out.relevel k6 B6 ?_ ?_ ?_ (by simp), HMT.out.symm, fun g hg => hg, ?_⟩, ((e5w.chg (fun g => F g ∧ ¬ H g)).trans (k6.mono fun g _ hg => ⟨HF.out g (.inl hg), HH.out g (.inl hg)⟩) fun g _ hg => hg), fun g hg => ?_⟩⟩
      · exact own_chg O5.out k6 fun g hg e => own_type O5.out HL5.out.bk (by decide) (by rw [← e]; exact hg)
      · intro t ht
        obtain rfl : t = ⟨tb, tv, L⟩ := by simpa using ht
        exact TbAt.lower (T5.out.chg k6 (bk_ne T5.out.bk HL5.out.bk (by decide)) (fun g hg e => own_type T5.out.own HL5.out.bk (by decide) (by rw [← e]; exact hg))) (Nat.zero_le _)
      · intro t ht g hg hg'
        obtain rfl : t = ⟨tb, tv, L⟩ := by simpa using ht
        have h1 := HTV.out g hg
        have h2 := hsv g hg'
        omega
      · intro g hg
        rcases hg with hg | hg | hg | hg
        · exact HH.out g (.inl hg)
        · exact HH.out g (.inr (.inl hg))
        · exact HH.out g (.inr (.inr (.inl hg)))
        · obtain rfl : W4.heap.size = g := by simpa [Value.ownBlock] using hg
          intro hh
          have := HHL.out _ hh
          omega
      · rcases hg with rfl | rfl | hg | hg | ⟨t, ht, hg⟩
        · exact .inl (HF.out _ (.inl rfl))
        · exact .inl (HF.out _ (.inr (.inl rfl)))
        · exact .inl (HF.out _ (.inr (.inr (.inl hg))))
        · obtain rfl : W4.heap.size = g := by simpa [Value.ownBlock] using hg
          exact .inr hw4
        · obtain rfl : t = ⟨tb, tv, L⟩ := by simpa using ht
          rcases hg with rfl | hg
          · exact .inr htb2
          · exact .inr (HTV.out g hg)
theorem LMerge_any (F : Nat → Prop) (x : Nat) (lim : Int) (Y : List Pr) (T : List (List Pr)) (w : World) (h : LM w F x lim Y T) (htot : totL T ≤ 1000) :
    Calls Tryd.prog 56 #[.pointer (some ⟨x, 0, none⟩)] w fun e w' => e = .returned (errR (mgK T)) ∧ ∃ F', LOp w w' F x lim Y (mergeT T) F' :=
  (LMergeH_any F nH x lim Y T w h (fun _ h => absurd h id) htot).mono fun _ _ ⟨he, F', ho⟩ => ⟨he, F', ho.free⟩
end Go.Proofs.YtcgfdhgceokcnaaDoor

/- lsm: Flush. -/
namespace Go.Proofs.YtcgfdhgceokcnaaDoor
open Go.RowKit Go.WideShapes
set_option linter.unusedVariables false
attribute [local go_sem ↓] Go.wp_at_zero Go.wp_at_succ

set_option maxRecDepth 100000 in
set_option maxHeartbeats 2000000 in
theorem LFlushH_any (F H : Nat → Prop) (x : Nat) (lim : Int) (Y : List Pr) (T : List (List Pr)) (w : World) (h : LMH w F H x lim Y T) (hHl : ∀ g, H g → g < w.heap.size) (htot : totL T ≤ 1000) :
    Calls Tryd.prog 48 #[.pointer (some ⟨x, 0, none⟩)] w fun e w' => e = .returned (errR (flK Y)) ∧ ∃ F', LOH w w' F H x lim (flY Y) (flT Y T) F' := by
  obtain ⟨hE, hN, hG⟩ := errR_rules
  have HM := Lib.hid h
  have HMY := Lib.hid h.many
  have HME := Lib.hid (LMergeH_any F H x lim Y T w h hHl htot)
  have HFL := Lib.hid (flush_many (T := T))
  have HHL := Lib.hid hHl
  have hszh := Lib.hid (fun g (hg : H g) => hHl g hg)
  obtain ⟨sb, sv, lv, ts, hL, hT, -, -⟩ := h
  obtain ⟨n, hn⟩ : ∃ n, ts.length = n := ⟨_, rfl⟩
  have hTn : T.length = n := by rw [← hT, List.length_map, hn]
  have ow := hL.own
  rw [hn] at ow
  obtain ⟨A, c, rfl, hc, hr, -⟩ := own_rd ow
  have c1 : w.cell? ⟨x, 1, none⟩ = some (.pointer (some ⟨sb, 0, none⟩)) := hL.bk.cell 1
  have c2 : w.cell? ⟨x, 2, none⟩ = some (.slice A n c) := hL.bk.cell 2
  have HTN := Lib.hid hTn
  have HS := Lib.hid (SLen_any 0 sb sv Y w hL.st)
  clear ow hr hL hT hn hTn htot hHl hszh
  obtain ⟨y, hy⟩ : ∃ y, Y.length = y := ⟨_, rfl⟩
  rw [hy] at HS
  have HY := Lib.hid hy
  clear hy
  by_cases hy0 : y = 0
  · subst hy0
    have hk : flK Y = 6 := if_pos HY.out
    rw [hk, flY_nil HY.out, flT_nil HY.out]
    clear hk
    go_enter Tryd.func48, Tryd.ntmps48
    go_wp2_with fail
    refine HS.out.mono ?_
    rintro _ _ ⟨rfl, rfl⟩
    go_wp2_with fail
    go_ret
    exact ⟨rfl, F, HM.out.op (Ext.refl _)⟩
  · have hk : flK Y = 0 := if_neg (by rw [HY.out]; exact hy0)
    have hfl : flT Y T = Y :: flushT T := flT_cons (by rw [HY.out]; exact hy0)
    have hfy : flY Y = [] := rfl
    rw [hk, errR_0, hfl, hfy]
    have hyi : ¬ (y : Int) = 0 := by omega
    clear hk hfl hfy hy0
    go_enter Tryd.func48, Tryd.ntmps48
    go_wp2_with fail
    refine HS.out.mono ?_
    rintro _ _ ⟨rfl, rfl⟩
    clear HS
    go_upto_if 18 with (fail)
    go_cut [2, 3] (fun v u wc => v = .nilIface ∧ ∃ F1, LOH w wc F H x lim Y (flushT T) F1)
    case first =>
      as_aux_lemma =>
      by_cases h8 : 8 ≤ n
      · have h8i : (8 : Int) ≤ (n : Int) := by omega
        have hk : mgK T = 0 := if_neg (by rw [HTN.out]; omega)
        have hft : flushT T = mergeT T := if_pos (by rw [HTN.out]; exact h8)
        have HFT := Lib.hid hft
        rw [hk, errR_0] at HME
        clear hk hft
        go_wp2_with fail
        refine HME.out.mono ?_
        rintro _ w1 ⟨rfl, hop⟩
        have HOP := Lib.hid hop
        clear hop
        go_wp2_with fail
        go_meet
        exact ⟨rfl, by rw [HFT.out]; exact HOP.out⟩
      · have h8i : ¬ (8 : Int) ≤ (n : Int) := by omega
        have hft : flushT T = T := if_neg (by rw [HTN.out]; exact h8)
        have HFT := Lib.hid hft
        clear hft
        go_wp2_with fail
        go_meet
        exact ⟨rfl, F, by rw [HFT.out]; exact HM.out.op (Ext.refl _)⟩
    case rest =>
    as_aux_lemma =>
    rename_i v3 wc
    obtain ⟨rfl, F1, hop⟩ := hcut
    obtain ⟨sb1, sv1, lv1, ts1, hL1, hT1, hF1, hH1⟩ := id hop.at_
    have HH1 := Lib.hid hH1
    have HSZ := Lib.hid hop.chg.size
    have HOP := Lib.hid hop
    have HT1 := Lib.hid hT1
    have HF1 := Lib.hid hF1
    have HL1 := Lib.hid hL1
    have x1 : wc.cell? ⟨x, 1, none⟩ = some (.pointer (some ⟨sb1, 0, none⟩)) := hL1.bk.cell 1
    have HA := Lib.hid (SAll_any 0 sb1 sv1 Y wc hL1.st)
    rw [HY.out] at HA
    have hy60 : y ≤ 60 := by rw [← HY.out]; exact hL1.st.len
    have hn7 : ts1.length ≤ 7 := by
      have h1 := HFL.out
      rw [← hT1, List.length_map] at h1
      exact h1
    have HN7 := Lib.hid hn7
    clear hop hT1 hF1 hL1 hH1 c1 c2 hn7 HME HMY HFL HM
    go_wp2_with fail
    refine HA.out.mono ?_
    rintro _ w2 ⟨⟨v2, rfl, o2⟩, hb2⟩
    obtain ⟨A2, c2', rfl, hc2, hr2, -⟩ := own_rd o2
    have HB := Lib.hid (built_any A2 y c2' Y w2 hr2 hc2 (by omega) (tblK_zero.2 ⟨HL1.out.st.asc, HL1.out.st.ok⟩))
    clear o2 hr2 HA x1
    go_wp2_with fail
    refine HB.out.mono ?_
    rintro _ w3 ⟨⟨tb, tv, rfl, tb3, htb⟩, hb3⟩
    have HTB := Lib.hid tb3
    obtain ⟨bs, HBS⟩ : ∃ b, Hid (tabB Y = b) := ⟨_, rfl⟩
    rw [HBS.out]
    have B4 := Bk.at_ w3 68 #[.string bs, .pointer (some ⟨tb, 0, none⟩)] w3.heap.size rfl
    have e4 : Ext w3 (w3.alloc (.cells #[.string bs, .pointer (some ⟨tb, 0, none⟩)] 68)) := (Ext.refl _).alloc _
    have z0 : (w3.alloc (.cells #[.string bs, .pointer (some ⟨tb, 0, none⟩)] 68)).cell? ⟨w3.heap.size, 0, none⟩ = some (.string bs) := B4.cell 0
    have z1 : (w3.alloc (.cells #[.string bs, .pointer (some ⟨tb, 0, none⟩)] 68)).cell? ⟨w3.heap.size, 1, none⟩ = some (.pointer (some ⟨tb, 0, none⟩)) := B4.cell 1
    have HT4 := Lib.hid (HTB.out.ext e4)
    have e4w := (hb2.trans hb3).trans e4
    have HL4 := Lib.hid (HL1.out.ext e4w)
    have htv : ∀ g, tv.ownBlock = some g → wc.heap.size ≤ g := fun g hg => by
      have h1 := own_block tb3.own g hg
      have := hb2.size
      omega
    have HTV := Lib.hid htv
    have htb2 : wc.heap.size ≤ tb := by have := hb2.size; omega
    obtain ⟨n1, hn1⟩ : ∃ n, ts1.length = n := ⟨_, rfl⟩
    have HN1 := Lib.hid hn1
    have ow1 := HL4.out.own
    rw [hn1] at ow1
    obtain ⟨A1, c1, rfl, hc1, -, -⟩ := own_rd ow1
    have HOW := Lib.hid ow1
    have x2 : (w3.alloc (.cells #[.string bs, .pointer (some ⟨tb, 0, none⟩)] 68)).cell? ⟨x, 2, none⟩ = some (.slice A1 n1 c1) := HL4.out.bk.cell 2
    have hn18 : n1 ≤ 7 := by rw [← hn1]; exact HN7.out
    have HB4 := Lib.hid B4
    clear tb3 B4 htv htb hn1 ow1
    go_upto_region 10 with (fail)
    generalize w3.alloc (.cells #[.string bs, .pointer (some ⟨tb, 0, none⟩)] 68) = W4 at *
    have hin : ∀ (q : Nat) (W : World), Ext W4 W → Bk W q 68 #[.string bs, .pointer (some ⟨tb, 0, none⟩)] → W4.heap.size ≤ q → Calls Tryd.prog 58 #[.slice A1 n1 c1, .int .i64 0, .slice (some ⟨q, 0, none⟩) 1 1] W fun e w' =>
        ∃ g cap, e = .returned (.slice (some ⟨g, 0, none⟩) (n1 + 1) cap) ∧ w'.ownsRow 0 68 2 (.slice (some ⟨g, 0, none⟩) (n1 + 1) cap) (n1 + 1) (((⟨tb, tv, Y⟩ : Tb) :: ts1).flatMap Tb.cells) ∧ W.grownBy w' (Value.slice A1 n1 c1).ownBlock ∧ ((Value.slice A1 n1 c1).ownBlock = some g ∨ W.heap.size ≤ g) ∧ Bk w' x 51 #[.int .i64 lim, .pointer (some ⟨sb1, 0, none⟩), (.slice A1 n1 c1)] := fun q W hW hBk hq => by
      refine (InsLert_own 0 n1 0 q (.slice A1 n1 c1) (ts1.flatMap Tb.cells) #[.string bs, .pointer (some ⟨tb, 0, none⟩)] W (Nat.zero_le _) (by omega) (Nat.zero_le _) (own_ext HOW.out hW) rfl hBk ?_ ?_ ?_).mono ?_
      · intro e'
        have := (HOW.out.lt _ e').2
        omega
      · intro u hu
        rw [List.mem_flatMap] at hu
        obtain ⟨t, _, hu⟩ := hu
        simp [Tb.cells] at hu
        rcases hu with rfl | rfl <;> rfl
      · intro u hu
        simp at hu
        rcases hu with rfl | rfl <;> rfl
      · rintro e w' ⟨g, cap, he, ho, hg, hH⟩
        refine ⟨g, cap, he, ?_, hg, hH, (HL4.out.bk.ext hW).kept hg (own_type HOW.out HL4.out.bk (by decide))⟩
        rw [List.flatMap_cons, show Tb.cells ⟨tb, tv, Y⟩ = [.string bs, .pointer (some ⟨tb, 0, none⟩)] by unfold Tb.cells; rw [HBS.out]]
        exact ho
    have HIN := Lib.hid hin
    have hfin : ∀ (W6 w6 w7 : World) (g cap : Nat), Ext W4 W6 → W6.grownBy w6 (Value.slice A1 n1 c1).ownBlock → w6.ownsRow 0 68 2 (.slice (some ⟨g, 0, none⟩) (n1 + 1) cap) (n1 + 1) (((⟨tb, tv, Y⟩ : Tb) :: ts1).flatMap Tb.cells) → ((Value.slice A1 n1 c1).ownBlock = some g ∨ W6.heap.size ≤ g) → StAt w7 0 w6.heap.size (.slice none 0 0) [] → Ext w6 w7 →
        ∃ F', LOH w ((w7.setCell ⟨x, 2, none⟩ (.slice (some ⟨g, 0, none⟩) (n1 + 1) cap)).setCell ⟨x, 1, none⟩ (.pointer (some ⟨w6.heap.size, 0, none⟩))) F H x lim [] (Y :: flushT T) F' := by
      intro W6 w6 w7 g cap h6 hg6 own6 hH6 st7 hb7
      have L4 := HL4.out
      have k6 : Chg W4 w6 (fun k => (Value.slice A1 n1 c1).ownBlock = some k) := (h6.chg _).trans (gb_chg hg6) fun g _ hg => hg
      have k7 : Chg W4 w7 (fun k => (Value.slice A1 n1 c1).ownBlock = some k) := k6.trans (hb7.chg _) fun g _ hg => hg
      have bk7 := L4.bk.chg k7 (own_type HOW.out L4.bk (by decide))
      obtain ⟨W8, hW8⟩ : ∃ W8, W8 = (w7.setCell ⟨x, 2, none⟩ (.slice (some ⟨g, 0, none⟩) (n1 + 1) cap)).setCell ⟨x, 1, none⟩ (.pointer (some ⟨w6.heap.size, 0, none⟩)) := ⟨_, rfl⟩
      rw [← hW8]
      have bk8 : Bk W8 x 51 #[.int .i64 lim, .pointer (some ⟨w6.heap.size, 0, none⟩), .slice (some ⟨g, 0, none⟩) (n1 + 1) cap] := by
        rw [hW8]
        exact (bk7.set_ 2 _).set_ 1 _
      have k8 : Chg w7 W8 (fun k => k = x) := by
        rw [hW8]
        exact ((gb_chg (gb_set w7 x 2 _)).mono (T := fun k => k = x) fun g _ hg => by injection hg with hg; exact hg.symm).trans (gb_chg (gb_set _ x 1 _)) fun g _ hg => by injection hg with hg; exact hg.symm
      have own7 := own_ext own6 hb7
      have hx4 := L4.bk.lt
      have hs46 : W4.heap.size ≤ w6.heap.size := k6.size
      have hsc4 : wc.heap.size ≤ W4.heap.size := e4w.size
      have own8 := own_chg own7 k8 fun g hg e => own_type own7 bk7 (by decide) (by rw [← e]; exact hg)
      have ht : ∀ (b : Nat) (t : Tb), TbAt W4 b t.blk t.row t.es → TbAt W8 0 t.blk t.row t.es := fun b t h => by
        have h7 := h.chg k7 (own_type HOW.out h.bk (by decide)) (fun g hg hg' => own_own h.own HOW.out (by decide) hg hg')
        exact TbAt.lower (h7.chg k8 (bk_ne h7.bk bk7 (by decide)) (fun g hg e => own_type h7.own bk7 (by decide) (by rw [← e]; exact hg))) (Nat.zero_le _)
      have k48 : Chg W4 W8 (fun g => F1 g ∧ ¬ H g) := (k7.mono fun g _ hg => ⟨HF1.out g (.inr (.inr (.inr (.inl hg)))), HH1.out g (.inr (.inr (.inr hg)))⟩).trans (k8.mono fun g _ hg => ⟨HF1.out g (.inl hg), HH1.out g (.inl hg)⟩) fun g _ hg => hg
      have htm : ∀ t ∈ (⟨tb, tv, Y⟩ : Tb) :: ts1, TbAt W8 0 t.blk t.row t.es := fun t hm => by
        rcases List.mem_cons.1 hm with rfl | hm
        · exact ht _ ⟨tb, tv, Y⟩ HT4.out
        · exact ht _ t (L4.tab t hm)
      refine ⟨LFoot x w6.heap.size (.slice none 0 0) (.slice (some ⟨g, 0, none⟩) (n1 + 1) cap) (⟨tb, tv, Y⟩ :: ts1), HOP.out.trans ⟨⟨w6.heap.size, .slice none 0 0, .slice (some ⟨g, 0, none⟩) (n1 + 1) cap, ⟨tb, tv, Y⟩ :: ts1, ⟨bk8, ?_, ?_, htm, ?_, ?_⟩, ?_, fun g hg => hg, ?_⟩, (e4w.chg (fun g => F1 g ∧ ¬ H g)).trans k48 fun g _ hg => hg, fun u hu => ?_⟩⟩
      · exact st7.chg k8 (by omega) (fun g hg => by simp [Value.ownBlock] at hg)
      · rw [List.length_cons, HN1.out]; exact own8
      · intro t hm g hg hg'
        simp [Value.ownBlock] at hg'
      · rw [List.length_cons, HN1.out]; omega
      · rw [List.map_cons, HT1.out]
      · intro u hu
        have hsz := HSZ.out
        rcases hu with hu | hu | hu | hu
        · exact HH1.out u (.inl hu)
        · intro hh
          have := HHL.out u hh
          omega
        · simp [Value.ownBlock] at hu
        · obtain rfl : g = u := by simpa [Value.ownBlock] using hu
          rcases hH6 with h | h
          · exact HH1.out _ (.inr (.inr (.inr h)))
          · intro hh
            have := h6.size
            have := HHL.out _ hh
            omega
      · rcases hu with rfl | rfl | hu | hu | ⟨t, hm, hu⟩
        · exact .inl (HF1.out _ (.inl rfl))
        · exact .inr (by omega)
        · simp [Value.ownBlock] at hu
        · obtain rfl : g = u := by simpa [Value.ownBlock] using hu
          rcases hH6 with h | h
          · exact .inl (HF1.out _ (.inr (.inr (.inr (.inl h)))))
          · have := h6.size
            exact .inr (by omega)
        · rcases List.mem_cons.1 hm with rfl | hm
          · rcases hu with rfl | hu
            · exact .inr htb2
            · exact .inr (HTV.out u hu)
          · exact .inl (HF1.out _ (.inr (.inr (.inr (.inr ⟨t, hm, hu⟩)))))
    have HFIN := Lib.hid hfin
    clear hfin
    have hxl := HL4.out.bk.lt
    have hxne : x ≠ W4.heap.size := Nat.ne_of_lt hxl
    have x2a : (W4.alloc (.cells #[.string bs, .pointer (some ⟨tb, 0, none⟩)] 68)).cell? ⟨x, 2, none⟩ = some (.slice A1 n1 c1) := (HL4.out.bk.alloc _).cell 2
    clear hin
    go_region_with (first
      | (go_at_call 58; (with_reducible refine (HIN.out _ _ ?_ ?_ ?_).mono ?_); (focus ((repeat (with_reducible first | exact Ext.refl _ | assumption | refine Ext.drew ?_ | refine Ext.drewN ?_ _ | refine Ext.alloc ?_ _ | refine Ext.trans ?_ (by with_reducible assumption))); done)); (focus ((repeat (with_reducible first | assumption | (refine Bk.at_ _ _ _ _ ?_; simp; done) | refine Bk.drew ?_ | refine Bk.drewN ?_ _ | refine Bk.alloc ?_ _ | refine Bk.ext ?_ (by with_reducible assumption))); done)); (focus (first | (simp; done) | exact e7.size)); rintro _ w6 ⟨g, cap, rfl, own6, hg6, hH6, bk6⟩; have r61 : w6.cell? ⟨x, 1, none⟩ = some (.pointer (some ⟨sb1, 0, none⟩)) := bk6.cell 1; have r62 : w6.cell? ⟨x, 2, none⟩ = some (.slice A1 n1 c1) := bk6.cell 2; have f61 : w6.frozen? ⟨x, 1, none⟩ = false := bk6.frozen 1; have f62 : w6.frozen? ⟨x, 2, none⟩ = false := bk6.frozen 2)
      | (go_at_call 19; refine (SNew_any 0 _ (Nat.zero_le _)).mono ?_; rintro _ w7 ⟨rfl, st7, hb7⟩; first | (have bk7 := bk6.ext hb7; have r71 : w7.cell? ⟨x, 1, none⟩ = some (.pointer (some ⟨sb1, 0, none⟩)) := bk7.cell 1; have r72 : w7.cell? ⟨x, 2, none⟩ = some (.slice A1 n1 c1) := bk7.cell 2; have f71 : w7.frozen? ⟨x, 1, none⟩ = false := bk7.frozen 1; have f72 : w7.frozen? ⟨x, 2, none⟩ = false := bk7.frozen 2) | (have e7 : Ext W4 w7 := (by (repeat (with_reducible first | exact Ext.refl _ | assumption | refine Ext.drew ?_ | refine Ext.drewN ?_ _ | refine Ext.alloc ?_ _ | refine Ext.trans ?_ (by with_reducible assumption)))); have bk7 := HL4.out.bk.ext e7; have r72 : w7.cell? ⟨x, 2, none⟩ = some (.slice A1 n1 c1) := bk7.cell 2; have B7 := HB4.out.ext e7; have b70 : w7.cell? ⟨w3.heap.size, 0, none⟩ = some (.string bs) := B7.cell 0; have b71 : w7.cell? ⟨w3.heap.size, 1, none⟩ = some (.pointer (some ⟨tb, 0, none⟩)) := B7.cell 1)) | fail)
    all_goals
      go_wp2_with fail
      go_ret
      exact ⟨rfl, HFIN.out _ _ _ _ _ (by (repeat (with_reducible first | exact Ext.refl _ | assumption | refine Ext.drew ?_ | refine Ext.drewN ?_ _ | refine Ext.alloc ?_ _ | refine Ext.trans ?_ (by with_reducible assumption)))) hg6 own6 hH6 st7 hb7⟩
theorem LFlush_any (F : Nat → Prop) (x : Nat) (lim : Int) (Y : List Pr) (T : List (List Pr)) (w : World) (h : LM w F x lim Y T) (htot : totL T ≤ 1000) :
    Calls Tryd.prog 48 #[.pointer (some ⟨x, 0, none⟩)] w fun e w' => e = .returned (errR (flK Y)) ∧ ∃ F', LOp w w' F x lim (flY Y) (flT Y T) F' :=
  (LFlushH_any F nH x lim Y T w h (fun _ h => absurd h id) htot).mono fun _ _ ⟨he, F', ho⟩ => ⟨he, F', ho.free⟩
end Go.Proofs.YtcgfdhgceokcnaaDoor
