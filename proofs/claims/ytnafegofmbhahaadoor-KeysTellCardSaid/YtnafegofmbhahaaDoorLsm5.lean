/- lsm.live: lists laid over one another. -/
import Derived.Test.YtnafegofmbhahaaDoorLsm3
import Derived.Test.YtnafegofmbhahaaDoorLsmM
namespace Go.Proofs.YtnafegofmbhahaaDoor
open Go.RowKit Go.WideShapes
set_option linter.unusedVariables false
attribute [local go_sem ↓] Go.wp_at_zero Go.wp_at_succ

/-- lists of pairs, each as a slice that can be read -/
def RdLs (w : World) (vs : List Value) (T : List (List Pr)) : Prop :=
  vs.length = T.length ∧ ∀ (i : Nat) (v : Value) (es : List Pr), vs[i]? = some v → T[i]? = some es → ∃ A c, v = .slice A es.length c ∧ c ≤ maxLen ∧ Rd w 3 A es.length c (es.flatMap Pr.cells)
theorem RdLs.ext {w w' : World} {vs : List Value} {T : List (List Pr)} (h : RdLs w vs T) (k : Ext w w') : RdLs w' vs T :=
  ⟨h.1, fun i v es hv hT => by
    obtain ⟨A, c, e, hc, hr⟩ := h.2 i v es hv hT
    exact ⟨A, c, e, hc, hr.ext k⟩⟩

/-- of so many lists, and of the next one so many pairs -/
def outL (T : List (List Pr)) (i j : Nat) : List Pr := ((T.take i).flatten ++ ((T[i]?.getD []).take j)).foldl addL []
theorem outL_zero (T : List (List Pr)) (i : Nat) : outL T i 0 = ((T.take i).flatten).foldl addL [] := by simp [outL]
theorem outL_step {T : List (List Pr)} {i j : Nat} {es : List Pr} {p : Pr} (h : T[i]? = some es) (hp : es[j]? = some p) : outL T i (j + 1) = addL (outL T i j) p := by
  unfold outL
  rw [h, Option.getD_some, take_step hp, ← List.append_assoc, List.foldl_append]
  rfl
theorem outL_end {T : List (List Pr)} {i : Nat} {es : List Pr} (h : T[i]? = some es) : outL T i es.length = outL T (i + 1) 0 := by
  obtain ⟨h1, h2⟩ := List.getElem?_eq_some_iff.1 h
  unfold outL
  rw [h, Option.getD_some, List.take_of_length_le (Nat.le_refl _), List.take_zero, List.append_nil, List.take_succ_eq_append_getElem h1, h2, List.flatten_append]
  simp
theorem outL_all {T : List (List Pr)} : ngL (outL T T.length 0) = liveL T := by
  unfold outL liveL mergeL
  rw [List.take_of_length_le (Nat.le_refl _), List.take_zero, List.append_nil]
  rfl
theorem outL_asc (T : List (List Pr)) (i j : Nat) : Asc (outL T i j) := fold_asc _ _ Asc.nil
theorem outL_len {T : List (List Pr)} {i j : Nat} : (outL T i j).length ≤ (T.take i).flatten.length + j := by
  have h := fold_len ((T.take i).flatten ++ ((T[i]?.getD []).take j)) []
  unfold outL
  rw [List.length_append, List.length_take] at h
  simp only [List.length_nil] at h
  omega
theorem take_tot : ∀ {T : List (List Pr)} {i : Nat} {es : List Pr}, T[i]? = some es → (T.take i).flatten.length + es.length ≤ totL T
  | [], i, es, h => by simp at h
  | l :: T, 0, es, h => by
    obtain rfl : l = es := by simpa using h
    rw [totL_cons]
    simp
  | l :: T, i + 1, es, h => by
    have ih := take_tot (T := T) (i := i) (es := es) (by simpa using h)
    rw [totL_cons, List.take_succ_cons, List.flatten_cons, List.length_append]
    omega

set_option maxRecDepth 100000 in
set_option maxHeartbeats 2000000 in
theorem live_any (A : Option Addr) (n c : Nat) (vs : List Value) (T : List (List Pr)) (w : World) (hr : Rd w 1 A n c vs) (hm : c ≤ maxLen) (hl : RdLs w vs T) (htot : totL T ≤ 1000) :
    Calls Tryd.prog 91 #[.slice A n c] w fun e w' => (∃ v', e = .returned v' ∧ w'.ownsRow w.heap.size 25 3 v' (liveL T).length ((liveL T).flatMap Pr.cells)) ∧ Ext w w' := by
  have hvl : vs.length = n := by have := hr.1; omega
  have hTl : T.length = n := hl.1.symm.trans hvl
  have HT := Lib.hid hTl
  have HV := Lib.hid hvl
  have HL := Lib.hid hl
  have HTOT := Lib.hid htot
  have hnc := hr.2.1
  have H0 : Hid (w.ownsRow w.heap.size 25 3 (.slice none 0 0) (outL T 0 0).length ((outL T 0 0).flatMap Pr.cells)) := own_nil _ _ _ _
  clear hl hvl hTl htot
  unfold maxLen at hm
  go_enter Tryd.func91, Tryd.ntmps91
  go_wp2_with fail
  go_loopw [3, 5, 7, 8, 9, 12] (fun o _ _ _ _ x wr => ∃ i : Nat, x = .int .i64 i ∧ i ≤ n ∧ Ext w wr ∧ Hid (wr.ownsRow w.heap.size 25 3 o (outL T i 0).length ((outL T i 0).flatMap Pr.cells))) (fun _ _ _ _ _ x _ => n - (intOf x).toNat)
  case atStart => exact ⟨0, rfl, Nat.zero_le _, Ext.refl _, H0⟩
  case round =>
    obtain ⟨i, rfl, hi, hbw, hown⟩ := hrel
    by_cases hc : i < n
    · obtain ⟨ev, hev⟩ : ∃ v, vs[i]? = some v := ⟨_, List.getElem?_eq_getElem (by rw [HV.out]; exact hc)⟩
      obtain ⟨es, hes⟩ : ∃ es, T[i]? = some es := ⟨_, List.getElem?_eq_getElem (by rw [HT.out]; exact hc)⟩
      obtain ⟨ad, rfl, hb, c0⟩ := (hr.ext hbw).at_ hev
      obtain ⟨A1, c1, rfl, hc1, hr1⟩ := HL.out.2 i _ es hev hes
      obtain ⟨m, hm1⟩ : ∃ m, es.length = m := ⟨_, rfl⟩
      have HES := Lib.hid hes
      have HM := Lib.hid hm1
      have hm3 : m ≤ 1000 := by
        have h1 := take_tot hes
        have h2 := HTOT.out
        omega
      have hmc := hr1.2.1
      rw [hm1] at c0 hr1 hmc
      have HR1 := Lib.hid hr1
      unfold maxLen at hc1
      clear hes hm1 hev hr1
      go_wp2_with fail
      go_loopw [3, 7, 8, 9, 18] (fun o _ _ _ x wr => ∃ j : Nat, x = .int .i64 j ∧ j ≤ m ∧ Ext w wr ∧ Hid (wr.ownsRow w.heap.size 25 3 o (outL T i j).length ((outL T i j).flatMap Pr.cells))) (fun _ _ _ _ x _ => m - (intOf x).toNat)
      case atStart => exact ⟨0, rfl, Nat.zero_le _, hbw, hown⟩
      case round =>
        obtain ⟨j, rfl, hj, hbw2, hown2⟩ := hrel
        by_cases hc2 : j < m
        · obtain ⟨p, hp⟩ : ∃ p, es[j]? = some p := ⟨_, List.getElem?_eq_getElem (by rw [HM.out]; exact hc2)⟩
          obtain ⟨ad1, rfl, hb1, y0, y1, y2⟩ := (HR1.out.ext hbw2).getP hp
          have hst := outL_step HES.out hp
          have hol := outL_len (T := T) (i := i) (j := j)
          have hasc := outL_asc T i j
          have htt := take_tot HES.out
          rw [HM.out] at htt
          have htt2 := HTOT.out
          generalize outL T i j = O at *
          obtain ⟨k, hk⟩ : ∃ k, O.length = k := ⟨_, rfl⟩
          rw [hk] at hol
          have hk1 : k ≤ 1000 := by omega
          have ow := hown2.out
          rw [hk] at ow
          obtain ⟨A2, c2, rfl, hc3, hr2, -⟩ := own_rd ow
          obtain ⟨pk, pv, pg⟩ := p
          simp only at y0 y1 y2
          have HST := Lib.hid hst
          have HK := Lib.hid hk
          have HASC := Lib.hid hasc
          have HOW := Lib.hid ow
          have P3 := Bk.at_ wr 25 #[.string pk, .string pv, .bool pg] wr.heap.size rfl
          have e3 : Ext w (wr.alloc (.cells #[.string pk, .string pv, .bool pg] 25)) := hbw2.alloc _
          have e3r : Ext wr (wr.alloc (.cells #[.string pk, .string pv, .bool pg] 25)) := (Ext.refl _).alloc _
          have z0 : (wr.alloc (.cells #[.string pk, .string pv, .bool pg] 25)).cell? ⟨wr.heap.size, 0, none⟩ = some (.string pk) := P3.cell 0
          have HR2 := Lib.hid (hr2.ext e3r)
          clear hst hk hasc ow hown2 hr2 htt htt2 hol hp
          go_upto_region 8 with (fail)
          generalize wr.alloc (.cells #[.string pk, .string pv, .bool pg] 25) = W3 at *
          go_wp2_with fail
          refine (Find_any A2 k c2 O pk _ HR2.out hc3 (by omega) HASC.out).mono ?_
          obtain ⟨lo, HLO⟩ : ∃ x, Hid (lowN O pk = x) := ⟨_, rfl⟩
          obtain ⟨hb9, HHB⟩ : ∃ x, Hid (hasB O pk = x) := ⟨_, rfl⟩
          rw [HLO.out, HHB.out]
          rintro _ w4 ⟨rfl, hb4⟩
          have e4 := e3.trans hb4
          have P4 := P3.ext hb4
          have OW4 := Lib.hid (own_ext (own_ext HOW.out e3r) hb4)
          cases hb9 with
          | true =>
            have HN : Hid (w4.ownsRow w.heap.size 25 3 (.slice A2 k c2) (outL T i (j + 1)).length ((outL T i (j + 1)).flatMap Pr.cells)) := by
              show World.ownsRow _ _ _ _ _ _ _
              rw [HST.out, show addL O ⟨pk, pv, pg⟩ = O from if_pos HHB.out, HK.out]
              exact OW4.out
            clear P3 z0
            go_wp2_with fail
            go_roundw
            case rel => exact ⟨j + 1, by go_num, by omega, e4, HN⟩
            case measure => simp [intOf]; omega
          | false =>
            have hlo : lo ≤ k := by rw [← HLO.out, ← HK.out]; exact lowN_le _ _
            have q0 : w4.cell? ⟨wr.heap.size, 0, none⟩ = some (.string pk) := P4.cell 0
            have q1 : w4.cell? ⟨wr.heap.size, 1, none⟩ = some (.string pv) := P4.cell 1
            have q2 : w4.cell? ⟨wr.heap.size, 2, none⟩ = some (.bool pg) := P4.cell 2
            clear P3 z0 P4
            go_wp2_with fail
            have P5 := Bk.at_ w4 25 #[.string pk, .string pv, .bool pg] w4.heap.size rfl
            have e5 : Ext w4 (w4.alloc (.cells #[.string pk, .string pv, .bool pg] 25)) := (Ext.refl _).alloc _
            refine (Insert_own w.heap.size k lo w4.heap.size (.slice A2 k c2) (O.flatMap Pr.cells) #[.string pk, .string pv, .bool pg] _ hlo (by omega) (e4.trans e5).size (own_ext OW4.out e5) rfl P5 ?_ (cells_one O) ?_).mono ?_
            · intro e'
              have := OW4.out.lt _ e'
              omega
            · intro u hu
              simp at hu
              rcases hu with rfl | rfl | rfl <;> rfl
            · rintro _ w6 ⟨g, cap, rfl, own6, hg6, -⟩
              have HN : Hid (w6.ownsRow w.heap.size 25 3 (.slice (some ⟨g, 0, none⟩) (k + 1) cap) (outL T i (j + 1)).length ((outL T i (j + 1)).flatMap Pr.cells)) := by
                show World.ownsRow _ _ _ _ _ _ _
                rw [HST.out, show addL O ⟨pk, pv, pg⟩ = insL O lo ⟨pk, pv, pg⟩ from (if_neg (by rw [HHB.out]; decide)).trans (by rw [HLO.out]), ins_len (by rw [HK.out]; exact hlo), HK.out, ← cells_ins]
                exact own6
              have e6 := own_grown (own_ext OW4.out e5) hg6 w (Nat.le_refl _) (e4.trans e5)
              clear own6 hg6 P5
              go_wp2_with fail
              go_roundw
              case rel => exact ⟨j + 1, by go_num, by omega, e6, HN⟩
              case measure => simp [intOf]; omega
        · obtain rfl : j = m := by omega
          have HN := Lib.hid hown2.out
          rw [← HM.out, outL_end HES.out] at HN
          clear hown2 hc2
          go_wp2_with fail
          go_roundw
          case rel => exact ⟨i + 1, by go_num, by omega, hbw2, HN⟩
          case measure => simp [intOf]; omega
    · obtain rfl : i = n := by omega
      have hOl := outL_all (T := T)
      have hol := outL_len (T := T) (i := T.length) (j := 0)
      rw [HT.out] at hOl hol
      have h3 : (T.take i).flatten.length ≤ totL T := by
        rw [List.take_of_length_le (by rw [HT.out]; exact Nat.le_refl _), List.length_flatten]; exact Nat.le_refl _
      have h4 := HTOT.out
      have HOL := Lib.hid hOl
      generalize outL T i 0 = O at *
      have HC := Lib.hid (DeleteGone_any w.heap.size O.length _ O wr (by omega) rfl hown.out)
      have HOW := Lib.hid hown.out
      clear hown hOl hol h3 h4
      go_wp2_with fail
      refine HC.out.mono ?_
      rintro _ w5 ⟨⟨v', rfl, ho⟩, hg⟩
      rw [HOL.out] at ho
      have HO := Lib.hid ho
      have e5 := own_grown HOW.out hg w (Nat.le_refl _) hbw
      clear ho
      go_wp2_with fail
      go_ret
      exact ⟨⟨v', rfl, HO.out⟩, e5⟩
end Go.Proofs.YtnafegofmbhahaaDoor

/- an lsm in memory; what is young. -/
namespace Go.Proofs.YtnafegofmbhahaaDoor
open Go.RowKit Go.WideShapes
set_option linter.unusedVariables false
attribute [local go_sem ↓] Go.wp_at_zero Go.wp_at_succ

theorem bk_ne {w : World} {a b : Nat} {t t' : TypeId} {cs cs' : Array Value} (h : Bk w a t cs) (k : Bk w b t' cs') (hne : t ≠ t') : a ≠ b := by
  rintro rfl
  unfold Bk at h k
  rw [h] at k
  simp at k
  exact hne k.2
theorem own_own {w : World} {b b' n n' k k' : Nat} {e e' : TypeId} {v v' : Value} {xs xs' : List Value} (h : w.ownsRow b e k v n xs) (h' : w.ownsRow b' e' k' v' n' xs') (hne : e ≠ e') {g : Nat} (hg : v.ownBlock = some g) : v'.ownBlock ≠ some g := by
  intro hg'
  rcases h.2 with ⟨rfl, _⟩ | ⟨g1, cap, cur, rfl, _, hh, _⟩
  · simp [Value.ownBlock] at hg
  · rcases h'.2 with ⟨rfl, _⟩ | ⟨g2, cap', cur', rfl, _, hh', _⟩
    · simp [Value.ownBlock] at hg'
    · obtain rfl : g1 = g := by simpa [Value.ownBlock] using hg
      obtain rfl : g2 = g1 := by simpa [Value.ownBlock] using hg'
      rw [hh] at hh'
      simp at hh'
      exact hne hh'.2

/-- a level's table -/
structure Tb where
  blk : Nat
  row : Value
  es : List Pr
def Tb.cells (t : Tb) : List Value := [.string (tabB t.es), .pointer (some ⟨t.blk, 0, none⟩)]
structure LAt (w : World) (x : Nat) (lim : Int) (sb : Nat) (sv : Value) (Y : List Pr) (lv : Value) (ts : List Tb) : Prop where
  bk : Bk w x 116 #[.int .i64 lim, .pointer (some ⟨sb, 0, none⟩), lv]
  st : StAt w 0 sb sv Y
  own : w.ownsRow 0 118 2 lv ts.length (ts.flatMap Tb.cells)
  tab : ∀ t ∈ ts, TbAt w 0 t.blk t.row t.es
  sep : ∀ t ∈ ts, ∀ g, t.row.ownBlock = some g → sv.ownBlock ≠ some g
  len : ts.length ≤ 8
/-- the blocks that it lies in -/
def LFoot (x sb : Nat) (sv lv : Value) (ts : List Tb) (g : Nat) : Prop := g = x ∨ g = sb ∨ sv.ownBlock = some g ∨ lv.ownBlock = some g ∨ ∃ t ∈ ts, g = t.blk ∨ t.row.ownBlock = some g
theorem LAt.chg {w w' : World} {x sb : Nat} {lim : Int} {sv lv : Value} {Y : List Pr} {ts : List Tb} {S : Nat → Prop} (h : LAt w x lim sb sv Y lv ts) (k : Chg w w' S) (hS : ∀ g, LFoot x sb sv lv ts g → ¬ S g) : LAt w' x lim sb sv Y lv ts :=
  ⟨h.bk.chg k (hS x (.inl rfl)), h.st.chg k (hS sb (.inr (.inl rfl))) fun g hg => hS g (.inr (.inr (.inl hg))), own_chg h.own k fun g hg => hS g (.inr (.inr (.inr (.inl hg)))),
    fun t ht => (h.tab t ht).chg k (hS _ (.inr (.inr (.inr (.inr ⟨t, ht, .inl rfl⟩))))) fun g hg => hS g (.inr (.inr (.inr (.inr ⟨t, ht, .inr hg⟩)))), h.sep, h.len⟩
theorem LAt.ext {w w' : World} {x sb : Nat} {lim : Int} {sv lv : Value} {Y : List Pr} {ts : List Tb} (h : LAt w x lim sb sv Y lv ts) (k : Ext w w') : LAt w' x lim sb sv Y lv ts :=
  h.chg (k.chg fun _ => False) fun _ _ h => h
theorem LAt.lt {w : World} {x sb : Nat} {lim : Int} {sv lv : Value} {Y : List Pr} {ts : List Tb} (h : LAt w x lim sb sv Y lv ts) {g : Nat} (hg : LFoot x sb sv lv ts g) : g < w.heap.size := by
  rcases hg with rfl | rfl | hg | hg | ⟨t, ht, rfl | hg⟩
  · exact h.bk.lt
  · exact h.st.bk.lt
  · exact (h.st.own.lt _ hg).2
  · exact (h.own.lt _ hg).2
  · exact (h.tab t ht).bk.lt
  · exact ((h.tab t ht).own.lt _ hg).2
/-- what is young is written -/
theorem LAt.young {w w' : World} {x sb : Nat} {lim : Int} {sv lv v' : Value} {Y Y' : List Pr} {ts : List Tb} (h : LAt w x lim sb sv Y lv ts) (k : Chg w w' (fun k => k = sb ∨ sv.ownBlock = some k)) (hs : StAt w' 0 sb v' Y') (hv : ∀ g, v'.ownBlock = some g → sv.ownBlock = some g ∨ w.heap.size ≤ g) : LAt w' x lim sb v' Y' lv ts := by
  refine ⟨h.bk.chg k ?_, hs, own_chg h.own k ?_, fun t ht => (h.tab t ht).chg k ?_ ?_, fun t ht g hg hg' => ?_, h.len⟩
  · rintro (e | e)
    · exact bk_ne h.bk h.st.bk (by decide) e
    · exact own_type h.st.own h.bk (by decide) e
  · rintro g hg (e | e)
    · subst e; exact own_type h.own h.st.bk (by decide) hg
    · exact own_own h.own h.st.own (by decide) hg e
  · rintro (e | e)
    · exact bk_ne (h.tab t ht).bk h.st.bk (by decide) e
    · exact own_type h.st.own (h.tab t ht).bk (by decide) e
  · rintro g hg (e | e)
    · subst e; exact own_type (h.tab t ht).own h.st.bk (by decide) hg
    · exact h.sep t ht g hg e
  · rcases hv g hg' with e | e
    · exact h.sep t ht g hg e
    · have := ((h.tab t ht).own.lt _ hg).2
      omega
def LM (w : World) (F : Nat → Prop) (x : Nat) (lim : Int) (Y : List Pr) (T : List (List Pr)) : Prop :=
  ∃ sb sv lv ts, LAt w x lim sb sv Y lv ts ∧ ts.map Tb.es = T ∧ ∀ g, LFoot x sb sv lv ts g → F g
theorem LM.chg {w w' : World} {F S : Nat → Prop} {x : Nat} {lim : Int} {Y : List Pr} {T : List (List Pr)} (h : LM w F x lim Y T) (k : Chg w w' S) (hS : ∀ g, F g → ¬ S g) : LM w' F x lim Y T := by
  obtain ⟨sb, sv, lv, ts, hL, hT, hF⟩ := h
  exact ⟨sb, sv, lv, ts, hL.chg k fun g hg => hS g (hF g hg), hT, hF⟩
theorem LM.ext {w w' : World} {F : Nat → Prop} {x : Nat} {lim : Int} {Y : List Pr} {T : List (List Pr)} (h : LM w F x lim Y T) (k : Ext w w') : LM w' F x lim Y T := by
  obtain ⟨sb, sv, lv, ts, hL, hT, hF⟩ := h
  exact ⟨sb, sv, lv, ts, hL.ext k, hT, hF⟩
theorem LM.many {w : World} {F : Nat → Prop} {x : Nat} {lim : Int} {Y : List Pr} {T : List (List Pr)} (h : LM w F x lim Y T) : Y.length ≤ 60 ∧ T.length ≤ 8 ∧ LsOk (Y :: T) := by
  obtain ⟨sb, sv, lv, ts, hL, rfl, hF⟩ := h
  refine ⟨hL.st.len, by rw [List.length_map]; exact hL.len, LsOk.cons ⟨hL.st.asc, hL.st.ok⟩ fun l hl => ?_⟩
  obtain ⟨t, ht, rfl⟩ := List.mem_map.1 hl
  exact ⟨(hL.tab t ht).asc, (hL.tab t ht).ok⟩
/-- what an operation leaves: it wrote its own blocks alone -/
structure LOp (w w' : World) (F : Nat → Prop) (x : Nat) (lim : Int) (Y : List Pr) (T : List (List Pr)) (F' : Nat → Prop) : Prop where
  at_ : LM w' F' x lim Y T
  chg : Chg w w' F
  new : ∀ g, F' g → F g ∨ w.heap.size ≤ g
theorem LM.op {w w' : World} {F : Nat → Prop} {x : Nat} {lim : Int} {Y : List Pr} {T : List (List Pr)} (h : LM w F x lim Y T) (k : Ext w w') : LOp w w' F x lim Y T F := ⟨h.ext k, k.chg _, fun g hg => .inl hg⟩
theorem LOp.trans {w w1 w2 : World} {F F1 F2 : Nat → Prop} {x : Nat} {lim : Int} {Y Y' : List Pr} {T T' : List (List Pr)} (h : LOp w w1 F x lim Y T F1) (k : LOp w1 w2 F1 x lim Y' T' F2) : LOp w w2 F x lim Y' T' F2 :=
  ⟨k.at_, h.chg.trans k.chg fun g hg hF => (h.new g hF).resolve_right (by omega), fun g hg => (k.new g hg).elim (fun e => h.new g e) fun e => .inr (Nat.le_trans h.chg.size e)⟩
theorem LOp.keep {w0 w w' : World} {F F' : Nat → Prop} {x : Nat} {lim : Int} {Y : List Pr} {T : List (List Pr)} (h : LOp w w' F x lim Y T F') (e : Ext w0 w) (hF : ∀ g, F g → w0.heap.size ≤ g) : Ext w0 w' ∧ ∀ g, F' g → w0.heap.size ≤ g := by
  refine ⟨((e.chg F).trans h.chg fun g _ hg => hg).ext fun g hg hS => ?_, fun g hg => ?_⟩
  · have := hF g hS; omega
  · rcases h.new g hg with e' | e'
    · exact hF g e'
    · have := e.size; omega

def LNewR (n : Int) (w : World) (e : Ending) (w' : World) : Prop :=
    ((n < 1 ∨ 60 < n) ∧ e = .returned (.tuple #[.pointer none, errR 1]) ∧ w = w') ∨ ((1 ≤ n ∧ n ≤ 60) ∧ ∃ x F, e = .returned (.tuple #[.pointer (some ⟨x, 0, none⟩), .nilIface]) ∧ LM w' F x n [] [] ∧ (∀ g, F g → w.heap.size ≤ g) ∧ Ext w w')
set_option maxRecDepth 100000 in
theorem LNew_any (n : Int) (w : World) : Calls Tryd.prog 47 #[.int .i64 n] w fun e w' => LNewR n w e w' := by
  by_cases hn : 1 ≤ n ∧ n ≤ 60
  · obtain ⟨h1, h2⟩ := hn
    have h1' : ¬ n < 1 := by omega
    have h2' : ¬ 60 < n := by omega
    go_enter Tryd.func47, Tryd.ntmps47
    go_wp2_with fail
    refine (SNew_any 0 _ (Nat.zero_le _)).mono ?_
    rintro _ w1 ⟨rfl, hs, hb⟩
    have HS := Lib.hid hs
    have B2 := Bk.at_ w1 116 #[.int .i64 n, .pointer (some ⟨w.heap.size, 0, none⟩), .slice none 0 0] w1.heap.size rfl
    have e2 : Ext w1 (w1.alloc (.cells #[.int .i64 n, .pointer (some ⟨w.heap.size, 0, none⟩), .slice none 0 0] 116)) := (Ext.refl _).alloc _
    clear hs
    go_wp2_with fail
    go_ret2
    refine .inr ⟨⟨h1, h2⟩, w1.heap.size, _, rfl, ⟨_, _, _, [], ⟨B2, HS.out.ext e2, own_nil _ _ _ _, fun t ht => by simp at ht, fun t ht => by simp at ht, Nat.zero_le _⟩, rfl, fun g hg => hg⟩, fun g hg => ?_, hb.trans e2⟩
    have := hb.size
    rcases hg with rfl | rfl | hg | hg | ⟨t, ht, _⟩
    · exact this
    · exact Nat.le_refl _
    · simp [Value.ownBlock] at hg
    · simp [Value.ownBlock] at hg
    · simp at ht
  · have hn' : n < 1 ∨ (¬ n < 1 ∧ 60 < n) := by omega
    clear hn
    rcases hn' with h | ⟨h, h2⟩
    all_goals
      go_enter Tryd.func47, Tryd.ntmps47
      go_wp2_with fail
      go_ret2
      exact .inl ⟨by omega, rfl, rfl⟩
theorem LYoung_any (F : Nat → Prop) (x : Nat) (lim : Int) (Y : List Pr) (T : List (List Pr)) (w : World) (h : LM w F x lim Y T) :
    Calls Tryd.prog 49 #[.pointer (some ⟨x, 0, none⟩)] w fun e w' => e = .returned (.int .i64 (Y.length : Nat)) ∧ w = w' := by
  obtain ⟨sb, sv, lv, ts, hL, -, -⟩ := h
  have c1 : w.cell? ⟨x, 1, none⟩ = some (.pointer (some ⟨sb, 0, none⟩)) := hL.bk.cell 1
  have HC := Lib.hid (SLen_any 0 sb sv Y w hL.st)
  clear hL
  go_enter Tryd.func49, Tryd.ntmps49
  go_wp2_with fail
  refine HC.out.mono ?_
  rintro _ _ ⟨rfl, rfl⟩
  go_wp2_with fail
  go_ret
  exact ⟨rfl, rfl⟩

set_option maxRecDepth 100000 in
set_option maxHeartbeats 2000000 in
theorem lput_any (F : Nat → Prop) (x : Nat) (lim : Int) (Y : List Pr) (T : List (List Pr)) (p : Pr) (w : World) (h : LM w F x lim Y T) (hp : p.gone = true → p.value.size = 0) :
    Calls Tryd.prog 106 #[.pointer (some ⟨x, 0, none⟩), p.val] w fun e w' => e = .returned (errR (putK Y p)) ∧ ∃ F', LOp w w' F x lim (storeL Y p) T F' := by
  obtain ⟨sb, sv, lv, ts, hL, hT, hF⟩ := h
  obtain ⟨pk, pv, pg⟩ := p
  have B1 := Bk.at_ w 25 #[.string pk, .string pv, .bool pg] w.heap.size rfl
  have e1 : Ext w (w.alloc (.cells #[.string pk, .string pv, .bool pg] 25)) := (Ext.refl _).alloc _
  have y0 : (w.alloc (.cells #[.string pk, .string pv, .bool pg] 25)).cell? ⟨w.heap.size, 0, none⟩ = some (.string pk) := B1.cell 0
  have y1 : (w.alloc (.cells #[.string pk, .string pv, .bool pg] 25)).cell? ⟨w.heap.size, 1, none⟩ = some (.string pv) := B1.cell 1
  have y2 : (w.alloc (.cells #[.string pk, .string pv, .bool pg] 25)).cell? ⟨w.heap.size, 2, none⟩ = some (.bool pg) := B1.cell 2
  have hL1 := hL.ext e1
  have x1 : (w.alloc (.cells #[.string pk, .string pv, .bool pg] 25)).cell? ⟨x, 1, none⟩ = some (.pointer (some ⟨sb, 0, none⟩)) := hL1.bk.cell 1
  have HT := Lib.hid hT
  have HF := Lib.hid hF
  have HL1 := Lib.hid hL1
  have hL2 := hL.ext e1.drew
  have HL2 := Lib.hid hL2
  have hfin : ∀ (w' : World) (v' : Value), StAt w' 0 sb v' (storeL Y ⟨pk, pv, pg⟩) → Chg (w.alloc (.cells #[.string pk, .string pv, .bool pg] 25)).drew w' (fun k => k = sb ∨ sv.ownBlock = some k) → (∀ g, v'.ownBlock = some g → sv.ownBlock = some g ∨ (w.alloc (.cells #[.string pk, .string pv, .bool pg] 25)).drew.heap.size ≤ g) → ∃ F', LOp w w' F x lim (storeL Y ⟨pk, pv, pg⟩) T F' := fun w' v' hs k hv => by
    refine ⟨LFoot x sb v' lv ts, ⟨⟨sb, v', lv, ts, HL2.out.young k hs hv, HT.out, fun g hg => hg⟩, ((e1.drew.chg F).trans (k.mono fun g _ hg => ?_) fun g _ hg => hg), fun g hg => ?_⟩⟩
    · rcases hg with rfl | hg
      · exact HF.out _ (.inr (.inl rfl))
      · exact HF.out _ (.inr (.inr (.inl hg)))
    · rcases hg with rfl | rfl | hg | hg | ht
      · exact .inl (HF.out _ (.inl rfl))
      · exact .inl (HF.out _ (.inr (.inl rfl)))
      · rcases hv g hg with h | h
        · exact .inl (HF.out _ (.inr (.inr (.inl h))))
        · have := e1.drew.size
          exact .inr (by omega)
      · exact .inl (HF.out _ (.inr (.inr (.inr (.inl hg)))))
      · exact .inl (HF.out _ (.inr (.inr (.inr (.inr ht)))))
  have HFIN := Lib.hid hfin
  clear hT hF hL1 hL2 hL hfin
  cases pg with
  | true =>
    have hv0 : pv = ⟨#[]⟩ := str_noneP (hp rfl)
    subst hv0
    have HC := Lib.hid (SDrop_any 0 sb sv Y pk _ HL2.out.st (Nat.zero_le _))
    clear hp
    go_enter Tryd.func106, Tryd.ntmps106
    go_wp2_with fail
    generalize w.alloc (.cells #[.string pk, .string ⟨#[]⟩, .bool true] 25) = W1 at *
    go_region_with (go_at_call 41; refine HC.out.mono ?_; rintro _ w2 ⟨rfl, hh⟩; have HH := Lib.hid hh; clear hh)
    all_goals
      go_wp2_with fail
      go_ret
      obtain ⟨v', hs, k, hv⟩ := HH.out
      exact ⟨rfl, HFIN.out _ v' hs k hv⟩
  | false =>
    have HC := Lib.hid (SPut_any 0 sb sv Y pk pv _ HL2.out.st (Nat.zero_le _))
    clear hp
    go_enter Tryd.func106, Tryd.ntmps106
    go_wp2_with fail
    generalize w.alloc (.cells #[.string pk, .string pv, .bool false] 25) = W1 at *
    go_region_with (go_at_call 39; refine HC.out.mono ?_; rintro _ w2 ⟨rfl, hh⟩; have HH := Lib.hid hh; clear hh)
    all_goals
      go_wp2_with fail
      go_ret
      obtain ⟨v', hs, k, hv⟩ := HH.out
      exact ⟨rfl, HFIN.out _ v' hs k hv⟩
end Go.Proofs.YtnafegofmbhahaaDoor
