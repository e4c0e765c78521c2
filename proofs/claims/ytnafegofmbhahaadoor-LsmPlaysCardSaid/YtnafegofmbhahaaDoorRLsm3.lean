/- the references' lsm in memory; Merge, Flush. -/
import Derived.Test.YtnafegofmbhahaaDoorRLive
import Derived.Test.YtnafegofmbhahaaDoorRTable
import Derived.Test.YtnafegofmbhahaaDoorLsm11
import Derived.BigQuiet
namespace Go.Proofs.YtnafegofmbhahaaDoor
open Go.RowKit Go.WideShapes
set_option linter.unusedVariables false
attribute [local go_sem ↓] Go.wp_at_zero Go.wp_at_succ

structure RAt (w : World) (mb : Nat) (lim : Int) (Y : List Pr) (T : List (List Pr)) (yv lv : Value) (vs : List Value) : Prop where
  bk : Bk w mb 84 #[.int .i64 lim, yv, lv]
  yo : w.ownsRow 0 25 3 yv Y.length (Y.flatMap Pr.cells)
  lo : w.ownsRow 0 22 1 lv T.length vs
  ls : OwLs w vs T
def RFoot (mb : Nat) (yv lv : Value) (vs : List Value) (g : Nat) : Prop := g = mb ∨ yv.ownBlock = some g ∨ lv.ownBlock = some g ∨ ∃ v ∈ vs, v.ownBlock = some g
theorem OwLs.mem {w : World} {vs : List Value} {T : List (List Pr)} (h : OwLs w vs T) {v : Value} (hv : v ∈ vs) : ∃ es, w.ownsRow 0 25 3 v es.length ((es : List Pr).flatMap Pr.cells) := by
  obtain ⟨i, hi⟩ := List.getElem?_of_mem hv
  obtain ⟨es, hes⟩ : ∃ es, T[i]? = some es := ⟨_, List.getElem?_eq_getElem (by rw [← h.1]; exact (List.getElem?_eq_some_iff.1 hi).1)⟩
  exact ⟨es, h.2 i v es hi hes⟩
theorem RAt.lt {w : World} {mb : Nat} {lim : Int} {Y : List Pr} {T : List (List Pr)} {yv lv : Value} {vs : List Value} (h : RAt w mb lim Y T yv lv vs) {g : Nat} (hg : RFoot mb yv lv vs g) : g < w.heap.size := by
  rcases hg with rfl | hg | hg | ⟨v, hv, hg⟩
  · exact h.bk.lt
  · exact (h.yo.lt _ hg).2
  · exact (h.lo.lt _ hg).2
  · obtain ⟨es, he⟩ := h.ls.mem hv
    exact (he.lt _ hg).2
theorem OwLs.chg {w w' : World} {vs : List Value} {T : List (List Pr)} {S : Nat → Prop} (h : OwLs w vs T) (k : Chg w w' S) (hS : ∀ v ∈ vs, ∀ g, v.ownBlock = some g → ¬ S g) : OwLs w' vs T :=
  ⟨h.1, fun i v es hv hT => own_chg (h.2 i v es hv hT) k (hS v (List.mem_of_getElem? hv))⟩
theorem RAt.chg {w w' : World} {mb : Nat} {lim : Int} {Y : List Pr} {T : List (List Pr)} {yv lv : Value} {vs : List Value} {S : Nat → Prop} (h : RAt w mb lim Y T yv lv vs) (k : Chg w w' S) (hS : ∀ g, RFoot mb yv lv vs g → ¬ S g) : RAt w' mb lim Y T yv lv vs :=
  ⟨h.bk.chg k (hS _ (.inl rfl)), own_chg h.yo k fun g hg => hS g (.inr (.inl hg)), own_chg h.lo k fun g hg => hS g (.inr (.inr (.inl hg))), h.ls.chg k fun v hv g hg => hS g (.inr (.inr (.inr ⟨v, hv, hg⟩)))⟩
theorem RAt.ext {w w' : World} {mb : Nat} {lim : Int} {Y : List Pr} {T : List (List Pr)} {yv lv : Value} {vs : List Value} (h : RAt w mb lim Y T yv lv vs) (k : Ext w w') : RAt w' mb lim Y T yv lv vs :=
  h.chg (k.chg fun _ => False) fun _ _ h => h
/-- its block is written, the rows are others, or the same -/
theorem RAt.made {w w' : World} {mb : Nat} {lim : Int} {Y Y' : List Pr} {T T' : List (List Pr)} {yv lv yv' lv' : Value} {vs vs' : List Value} (h : RAt w mb lim Y T yv lv vs) (k : Chg w w' (fun g => g = mb)) (hb : Bk w' mb 84 #[.int .i64 lim, yv', lv'])
    (hy : w.ownsRow 0 25 3 yv' Y'.length (Y'.flatMap Pr.cells)) (hl : w.ownsRow 0 22 1 lv' T'.length vs') (hs : OwLs w vs' T') : RAt w' mb lim Y' T' yv' lv' vs' :=
  ⟨hb, own_chg hy k fun g hg e => own_type hy h.bk (by decide) (by rw [← e]; exact hg), own_chg hl k fun g hg e => own_type hl h.bk (by decide) (by rw [← e]; exact hg),
    hs.chg k fun v hv g hg e => by
      obtain ⟨es, he⟩ := hs.mem hv
      exact own_type he h.bk (by decide) (by rw [← e]; exact hg)⟩
def RM (w : World) (G : Nat → Prop) (mb : Nat) (lim : Int) (Y : List Pr) (T : List (List Pr)) : Prop :=
  ∃ yv lv vs, RAt w mb lim Y T yv lv vs ∧ ∀ g, RFoot mb yv lv vs g → G g
theorem RM.chg {w w' : World} {G S : Nat → Prop} {mb : Nat} {lim : Int} {Y : List Pr} {T : List (List Pr)} (h : RM w G mb lim Y T) (k : Chg w w' S) (hS : ∀ g, G g → ¬ S g) : RM w' G mb lim Y T := by
  obtain ⟨yv, lv, vs, hR, hG⟩ := h
  exact ⟨yv, lv, vs, hR.chg k fun g hg => hS g (hG g hg), hG⟩
theorem RM.ext {w w' : World} {G : Nat → Prop} {mb : Nat} {lim : Int} {Y : List Pr} {T : List (List Pr)} (h : RM w G mb lim Y T) (k : Ext w w') : RM w' G mb lim Y T := by
  obtain ⟨yv, lv, vs, hR, hG⟩ := h
  exact ⟨yv, lv, vs, hR.ext k, hG⟩
structure ROp (w w' : World) (G : Nat → Prop) (mb : Nat) (lim : Int) (Y : List Pr) (T : List (List Pr)) (G' : Nat → Prop) : Prop where
  at_ : RM w' G' mb lim Y T
  chg : Chg w w' G
  new : ∀ g, G' g → G g ∨ w.heap.size ≤ g
theorem RM.op {w w' : World} {G : Nat → Prop} {mb : Nat} {lim : Int} {Y : List Pr} {T : List (List Pr)} (h : RM w G mb lim Y T) (k : Ext w w') : ROp w w' G mb lim Y T G := ⟨h.ext k, k.chg _, fun g hg => .inl hg⟩
theorem ROp.trans {w w1 w2 : World} {G G1 G2 : Nat → Prop} {mb : Nat} {lim : Int} {Y Y' : List Pr} {T T' : List (List Pr)} (h : ROp w w1 G mb lim Y T G1) (k : ROp w1 w2 G1 mb lim Y' T' G2) : ROp w w2 G mb lim Y' T' G2 :=
  ⟨k.at_, h.chg.trans k.chg fun g hg hF => (h.new g hF).resolve_right (by omega), fun g hg => (k.new g hg).elim (fun e => h.new g e) fun e => .inr (Nat.le_trans h.chg.size e)⟩
/-- from what was made to what is left -/
theorem ROp.mk' {w w1 w' : World} {G : Nat → Prop} {mb : Nat} {lim : Int} {Y' : List Pr} {T' : List (List Pr)} {yv lv yv' lv' : Value} {vs vs' : List Value} (hG : ∀ g, RFoot mb yv lv vs g → G g) (e : Ext w w1) (k : Chg w1 w' (fun g => g = mb)) (hR : RAt w' mb lim Y' T' yv' lv' vs')
    (hy : ∀ g, yv'.ownBlock = some g → G g ∨ w.heap.size ≤ g) (hl : ∀ g, lv'.ownBlock = some g → G g ∨ w.heap.size ≤ g) (hs : ∀ v ∈ vs', ∀ g, v.ownBlock = some g → G g ∨ w.heap.size ≤ g) : ROp w w' G mb lim Y' T' (RFoot mb yv' lv' vs') :=
  ⟨⟨yv', lv', vs', hR, fun g hg => hg⟩, (e.chg G).trans (k.mono fun g _ hg => by rw [hg]; exact hG _ (.inl rfl)) fun g _ hg => hg, fun g hg => by
    rcases hg with rfl | hg | hg | ⟨v, hv, hg⟩
    · exact .inl (hG _ (.inl rfl))
    · exact hy g hg
    · exact hl g hg
    · exact hs v hv g hg⟩
theorem set_chg (w : World) (b o : Nat) (v : Value) : Chg w (w.setCell ⟨b, o, none⟩ v) (fun g => g = b) := (gb_chg (gb_set w b o v)).mono fun g _ hg => by injection hg with hg; exact hg.symm

set_option maxRecDepth 100000 in
set_option maxHeartbeats 2000000 in
theorem RMerge_any (G : Nat → Prop) (mb : Nat) (lim : Int) (Y : List Pr) (T : List (List Pr)) (w : World) (h : RM w G mb lim Y T) (htot : totL T ≤ 1000) (hT8 : T.length ≤ 1000) :
    Calls Tryd.prog 56 #[.pointer (some ⟨mb, 0, none⟩)] w fun e w' => e = .returned (.int .i64 (mgK T)) ∧ ∃ G', ROp w w' G mb lim Y (mergeT T) G' := by
  have HM := Lib.hid h
  obtain ⟨yv, lv, vs, hR, hG⟩ := h
  obtain ⟨n, hn⟩ : ∃ n, T.length = n := ⟨_, rfl⟩
  have ow := hR.lo
  rw [hn] at ow
  obtain ⟨A, c, rfl, hc, hr, -⟩ := own_rd ow
  have HR := Lib.hid hR
  have HG := Lib.hid hG
  have HN := Lib.hid hn
  have c2 : w.cell? ⟨mb, 2, none⟩ = some (.slice A n c) := hR.bk.cell 2
  have HLC := Lib.hid (RLive_any A n c vs T w hr hc hR.ls.rd htot)
  clear ow hR hG hn htot hr
  by_cases h0 : n = 0
  · subst h0
    have hk : mgK T = 6 := if_pos HN.out
    have hmt : mergeT T = T := by rw [List.length_eq_zero_iff.1 HN.out]; rfl
    rw [hk, hmt]
    clear hk hmt
    go_enter Tryd.func56, Tryd.ntmps56
    go_wp2_with fail
    go_ret
    exact ⟨rfl, G, HM.out.op (Ext.refl _)⟩
  · have hk : mgK T = 0 := if_neg (by rw [HN.out]; exact h0)
    rw [hk]
    have h0i : ¬ (n : Int) = 0 := by omega
    obtain ⟨L, hLL⟩ : ∃ L, liveL T = L := ⟨_, rfl⟩
    have HLL := Lib.hid hLL
    rw [hLL] at HLC
    clear hk hLL h0
    go_enter Tryd.func56, Tryd.ntmps56
    go_wp2_with fail
    refine HLC.out.mono ?_
    rintro _ w2 ⟨⟨v2, rfl, o2⟩, hb2⟩
    obtain ⟨k, hk⟩ : ∃ k, L.length = k := ⟨_, rfl⟩
    rw [hk] at o2
    obtain ⟨A2, c2', rfl, hc2, -, -⟩ := own_rd o2
    have HK := Lib.hid hk
    have HO2 := Lib.hid o2
    have R2 := HR.out.ext hb2
    have HR2 := Lib.hid R2
    have fr2 : w2.frozen? ⟨mb, 2, none⟩ = false := R2.bk.frozen 2
    have s2 : w2.cell? ⟨mb, 2, none⟩ = some (.slice A n c) := R2.bk.cell 2
    clear o2 hk HLC R2
    by_cases hk0 : k = 0
    · subst hk0
      have hmt : mergeT T = [] := by unfold mergeT; rw [if_pos (HLL.out.trans (List.length_eq_zero_iff.1 HK.out))]
      have HMT := Lib.hid hmt
      clear hmt
      go_wp2_with fail
      go_ret
      have k3 := set_chg w2 mb 2 (.slice none 0 0)
      have B3 := HR2.out.bk.set_ 2 (.slice none 0 0)
      refine ⟨rfl, _, ROp.mk' HG.out hb2 k3 (by rw [HMT.out]; exact HR2.out.made k3 B3 HR2.out.yo (own_nil _ _ _ _) (OwLs.nil _)) (fun g hg => .inl (HG.out g (.inr (.inl hg)))) (fun g hg => by simp [Value.ownBlock] at hg) (fun v hv => by simp at hv)⟩
    · have hk0i : (0 : Int) < (k : Int) := by omega
      have hLn : L ≠ [] := fun e => hk0 (by rw [← HK.out, e]; rfl)
      have hmt : mergeT T = [L] := by unfold mergeT; rw [HLL.out, if_neg hLn]
      have HMT := Lib.hid hmt
      have k3 := set_chg w2 mb 2 (.slice none 0 0)
      have B3 := HR2.out.bk.set_ 2 (.slice none 0 0)
      have HB3 := Lib.hid B3
      have HK3 := Lib.hid k3
      clear hLn hmt k3 B3
      go_upto_region 6 with (fail)
      have hO3 : Hid ((w2.setCell ⟨mb, 2, none⟩ (.slice none 0 0)).ownsRow 0 25 3 (.slice A2 k c2') k (L.flatMap Pr.cells)) := Lib.hid (own_chg (own_lower HO2.out (Nat.zero_le _)) HK3.out fun g hg e => own_type HO2.out HR2.out.bk (by decide) (by rw [← e]; exact hg))
      have HY3 : Hid ((w2.setCell ⟨mb, 2, none⟩ (.slice none 0 0)).ownsRow 0 25 3 yv Y.length (Y.flatMap Pr.cells)) := Lib.hid (own_chg HR2.out.yo HK3.out fun g hg e => own_type HR2.out.yo HR2.out.bk (by decide) (by rw [← e]; exact hg))
      generalize w2.setCell ⟨mb, 2, none⟩ (.slice none 0 0) = w3 at *
      have e4 : Ext w3 (w3.alloc (.cells #[.slice A2 k c2'] 22)) := (Ext.refl _).alloc _
      have ON : Hid ((w3.alloc (.cells #[.slice A2 k c2'] 22)).ownsRow w3.heap.size 22 1 (.slice none 0 0) 0 []) := own_nil _ _ _ _
      have x2 : w3.cell? ⟨mb, 2, none⟩ = some (.slice none 0 0) := HB3.out.cell 2
      obtain ⟨i0, hi0, hz0, hzs, hzb⟩ := info_parts info_rowP
      have hb4 := e4.size
      clear s2 fr2
      go_wp2_with (at_builtin; go_loud (refine wpList_append_own _ rfl _ _ 82 rfl w3.heap.size 22 i0 _ 1 24 Tryd.underlying82 hi0 hz0 hzs hzb rfl (by omega) (.slice none 0 0) 0 [] rfl ON.out ⟨w3.heap.size, 0, none⟩ 1 1 [.slice A2 k c2'] (by rfl) rfl (news_new w3 _ _ _ rfl) (by intro u hu; simp at hu; subst hu; rfl) (by unfold maxLen; omega) (by omega) hb4 ?_); intro v5 w5 own5 hg5 hH5; clear hH5; obtain ⟨A5, c5, rfl, -, -, -⟩ := own_rd own5; have e5 := own_grown ON.out hg5 w3 (Nat.le_refl _) e4; have B5 := HB3.out.ext e5; have x5 : w5.cell? ⟨mb, 2, none⟩ = some (.slice none 0 0) := B5.cell 2; have f5 : w5.frozen? ⟨mb, 2, none⟩ = false := B5.frozen 2)
      go_ret
      have k6 := set_chg w5 mb 2 (.slice A5 1 c5)
      have B6 := B5.set_ 2 (.slice A5 1 c5)
      have hw23 : w2.heap.size ≤ w3.heap.size := HK3.out.size
      have hw2 := hb2.size
      have hv5 := own_block own5
      have OL : OwLs w5 [.slice A2 k c2'] [L] := (OwLs.nil w5).cons (own_ext hO3.out e5) HK.out
      refine ⟨rfl, RFoot mb yv (.slice A5 1 c5) [.slice A2 k c2'], ?_⟩
      have hRA : RAt (w5.setCell ⟨mb, 2, none⟩ (.slice A5 1 c5)) mb lim Y [L] yv (.slice A5 1 c5) [.slice A2 k c2'] := by
        refine ⟨B6, own_chg (own_ext HY3.out e5) k6 fun g hg e => own_type (own_ext HY3.out e5) B5 (by decide) (by rw [← e]; exact hg), own_chg (own_lower own5 (Nat.zero_le _)) k6 fun g hg e => own_type own5 B5 (by decide) (by rw [← e]; exact hg), OL.chg k6 fun v hv g hg e => ?_⟩
        obtain ⟨es, he⟩ := OL.mem hv
        exact own_type he B5 (by decide) (by rw [← e]; exact hg)
      refine ⟨⟨yv, (.slice A5 1 c5), _, by rw [HMT.out]; exact hRA, fun g hg => hg⟩, ?_, fun g hg => ?_⟩
      · have k36 : Chg w2 (w5.setCell ⟨mb, 2, none⟩ (.slice A5 1 c5)) (fun g => g = mb) := (HK3.out.trans (e5.chg _) fun g _ hg => hg).trans k6 fun g _ hg => hg
        exact (hb2.chg G).trans (k36.mono fun g _ hg => by rw [hg]; exact HG.out _ (.inl rfl)) fun g _ hg => hg
      · rcases hg with rfl | hg | hg | ⟨v, hv, hg⟩
        · exact .inl (HG.out _ (.inl rfl))
        · exact .inl (HG.out g (.inr (.inl hg)))
        · have := hv5 g hg
          exact .inr (by omega)
        · obtain rfl : v = .slice A2 k c2' := by simpa using hv
          have := own_block HO2.out g hg
          exact .inr this
end Go.Proofs.YtnafegofmbhahaaDoor

/- the references' lsm: Flush, Put. -/
namespace Go.Proofs.YtnafegofmbhahaaDoor
open Go.RowKit Go.WideShapes
set_option linter.unusedVariables false
attribute [local go_sem ↓] Go.wp_at_zero Go.wp_at_succ

set_option maxRecDepth 100000 in
set_option maxHeartbeats 2000000 in
theorem RFlush_any (G : Nat → Prop) (mb : Nat) (lim : Int) (Y : List Pr) (T : List (List Pr)) (w : World) (h : RM w G mb lim Y T) (htot : totL T ≤ 1000) (hT8 : T.length ≤ 1000) :
    Calls Tryd.prog 55 #[.pointer (some ⟨mb, 0, none⟩)] w fun e w' => e = .returned (.int .i64 (flK Y)) ∧ ∃ G', ROp w w' G mb lim (flY Y) (flT Y T) G' := by
  have HM := Lib.hid h
  have HME := Lib.hid (RMerge_any G mb lim Y T w h htot hT8)
  obtain ⟨yv, lv, vs, hR, -⟩ := h
  obtain ⟨n, hn⟩ : ∃ n, T.length = n := ⟨_, rfl⟩
  obtain ⟨y, hy⟩ : ∃ y, Y.length = y := ⟨_, rfl⟩
  have ow := hR.lo
  have oy := hR.yo
  rw [hn] at ow
  rw [hy] at oy
  obtain ⟨A, c, rfl, hc, -, -⟩ := own_rd ow
  obtain ⟨Ay, cy, rfl, hcy, -, -⟩ := own_rd oy
  have HN := Lib.hid hn
  have HY := Lib.hid hy
  have HFL := Lib.hid (flush_many (T := T))
  have c1 : w.cell? ⟨mb, 1, none⟩ = some (.slice Ay y cy) := hR.bk.cell 1
  have c2 : w.cell? ⟨mb, 2, none⟩ = some (.slice A n c) := hR.bk.cell 2
  clear ow oy hR hn hy htot
  by_cases hy0 : y = 0
  · subst hy0
    have hk : flK Y = 6 := if_pos HY.out
    rw [hk, flY_nil HY.out, flT_nil HY.out]
    clear hk
    go_enter Tryd.func55, Tryd.ntmps55
    go_wp2_with fail
    go_ret
    exact ⟨rfl, G, HM.out.op (Ext.refl _)⟩
  · have hk : flK Y = 0 := if_neg (by rw [HY.out]; exact hy0)
    have hfl : flT Y T = Y :: flushT T := flT_cons (by rw [HY.out]; exact hy0)
    have hfy : flY Y = [] := rfl
    rw [hk, hfl, hfy]
    have hyi : ¬ (y : Int) = 0 := by omega
    clear hk hfl hfy hy0
    go_enter Tryd.func55, Tryd.ntmps55
    go_upto_if 15 with (fail)
    go_cut [2] (fun v wc => v = .int .i64 0 ∧ ∃ G1, ROp w wc G mb lim Y (flushT T) G1)
    case first =>
      as_aux_lemma =>
      by_cases h8 : 8 ≤ n
      · have h8i : (8 : Int) ≤ (n : Int) := by omega
        have hft : flushT T = mergeT T := if_pos (by rw [HN.out]; exact h8)
        have HFT := Lib.hid hft
        clear hft
        go_wp2_with fail
        refine HME.out.mono ?_
        rintro _ w1 ⟨rfl, hop⟩
        have HOP := Lib.hid hop
        clear hop
        go_wp2_with fail
        go_meet
        exact ⟨rfl, by rw [HFT.out]; exact HOP.out⟩
      · have h8i : ¬ (8 : Int) ≤ (n : Int) := by omega
        have hft : flushT T = T := if_neg (by rw [HN.out]; exact h8)
        have HFT := Lib.hid hft
        clear hft
        go_wp2_with fail
        go_meet
        exact ⟨rfl, G, by rw [HFT.out]; exact HM.out.op (Ext.refl _)⟩
    case rest =>
    as_aux_lemma =>
    obtain ⟨rfl, G1, hop⟩ := hcut
    obtain ⟨yv1, lv1, vs1, hR1, hG1⟩ := id hop.at_
    have HOP := Lib.hid hop
    have HG1 := Lib.hid hG1
    obtain ⟨n1, hn1⟩ : ∃ n, (flushT T).length = n := ⟨_, rfl⟩
    have hn17 : n1 ≤ 7 := by rw [← hn1]; exact HFL.out
    have ow := hR1.lo
    have oy := hR1.yo
    rw [hn1] at ow
    rw [HY.out] at oy
    obtain ⟨A1, c1', rfl, hc1, hr1, hnil⟩ := own_rd ow
    obtain ⟨Ay1, cy1, rfl, hcy1, -, -⟩ := own_rd oy
    have HN1 := Lib.hid hn1
    have HR1 := Lib.hid hR1
    have x1 : wc.cell? ⟨mb, 1, none⟩ = some (.slice Ay1 y cy1) := hR1.bk.cell 1
    have x2 : wc.cell? ⟨mb, 2, none⟩ = some (.slice A1 n1 c1') := hR1.bk.cell 2
    have hxl := hR1.bk.lt
    have hvl : vs1.length = n1 := by have := hR1.ls.1; omega
    have HVL := Lib.hid hvl
    have HRD := Lib.hid hr1
    have e3 : Ext wc (wc.alloc (.cells #[.slice Ay1 y cy1] 22)) := (Ext.refl _).alloc _
    have O3 := Lib.hid (own_row1 wc (.slice Ay1 y cy1) rfl)
    have hfin : ∀ (A9 : Option Addr) (c9 : Nat) (w5 : World), Ext wc w5 → w5.ownsRow wc.heap.size 22 1 (.slice A9 (1 + n1) c9) (1 + n1) ([.slice Ay1 y cy1] ++ vs1) →
        ∃ G', ROp w ((w5.setCell ⟨mb, 2, none⟩ (.slice A9 (1 + n1) c9)).setCell ⟨mb, 1, none⟩ (.slice none 0 0)) G mb lim [] (Y :: flushT T) G' := by
      intro A9 c9 w5 e5 o5
      have R5 := HR1.out.ext e5
      have k6 := set_chg w5 mb 2 (.slice A9 (1 + n1) c9)
      have k7 := set_chg (w5.setCell ⟨mb, 2, none⟩ (.slice A9 (1 + n1) c9)) mb 1 (.slice none 0 0)
      have B7 := (R5.bk.set_ 2 (.slice A9 (1 + n1) c9)).set_ 1 (.slice none 0 0)
      have k := k6.trans k7 fun g _ hg => hg
      have OL : OwLs w5 (.slice Ay1 y cy1 :: vs1) (Y :: flushT T) := R5.ls.cons R5.yo rfl
      have RA := R5.made (Y' := []) (T' := Y :: flushT T) (vs' := .slice Ay1 y cy1 :: vs1) k B7 (own_nil _ _ _ _) (by have h := own_lower o5 (Nat.zero_le _); rw [List.length_cons, HN1.out, show n1 + 1 = 1 + n1 from Nat.add_comm _ _]; exact h) OL
      refine ⟨_, HOP.out.trans (ROp.mk' HG1.out e5 k RA (fun g hg => by simp [Value.ownBlock] at hg) (fun g hg => .inr (own_block o5 g hg)) fun v hv g hg => ?_)⟩
      rcases List.mem_cons.1 hv with rfl | hv
      · exact .inl (HG1.out g (.inr (.inl hg)))
      · exact .inl (HG1.out g (.inr (.inr (.inr ⟨v, hv, hg⟩))))
    have HFIN := Lib.hid hfin
    obtain ⟨i0, hi0, hz0, hzs, hzb⟩ := info_parts info_rowP
    have hb3 := e3.size
    clear hop hG1 ow oy hn1 hR1 hvl hfin HM HME hr1
    go_upto_region 6 with (fail)
    have B3 := Lib.hid ((HR1.out.ext e3).bk)
    have z2 : (wc.alloc (.cells #[.slice Ay1 y cy1] 22)).cell? ⟨mb, 2, none⟩ = some (.slice A1 n1 c1') := B3.out.cell 2
    have RD3 := Lib.hid (HRD.out.ext e3)
    generalize wc.alloc (.cells #[.slice Ay1 y cy1] 22) = w3 at *
    obtain ⟨gb, hgb⟩ : ∃ gb, wc.heap.size = gb := ⟨_, rfl⟩
    rw [hgb] at O3 HFIN hb3
    try rw [hgb]
    clear x1 x2
    cases A1 with
    | none =>
      have h0 : n1 = 0 := by
        rcases Nat.eq_zero_or_pos n1 with h | h
        · exact h
        · obtain ⟨ad', h1, _⟩ := HRD.out.2.2 h
          cases h1
      subst h0
      obtain rfl : c1' = 0 := by
        rcases hnil rfl with h | h
        · exact h.2
        · exact absurd rfl h
      have hx0 : vs1 = [] := List.eq_nil_of_length_eq_zero HVL.out
      have HF := Lib.hid (HFIN.out _ 1 w3 e3 (by rw [hx0]; exact O3.out))
      have f2 : w3.frozen? ⟨mb, 2, none⟩ = false := B3.out.frozen 2
      have f1 : w3.frozen? ⟨mb, 1, none⟩ = false := B3.out.frozen 1
      have z1 : w3.cell? ⟨mb, 1, none⟩ = some (.slice Ay1 y cy1) := B3.out.cell 1
      clear hx0 hnil
      go_wp2_with (at_builtin; go_loud (refine wpList_append_own_none rfl _ _ 82 rfl gb 22 i0 1 Tryd.underlying82 hi0 _ _ _ rfl O3.out rfl ?_))
      go_ret
      exact ⟨rfl, HF.out⟩
    | some ad =>
      have hcl : ∀ (j : Nat) u, vs1[j]? = some u → w3.cell? (ad.add j) = some u := fun j u hj => by
        obtain ⟨ad', he, -, h3⟩ := RD3.out.at_ hj
        obtain rfl : ad = ad' := by injection he
        exact h3
      have h1c : ∀ u ∈ vs1, u.oneCell' = true := fun u hu => by
        obtain ⟨es, he⟩ := HR1.out.ls.mem hu
        obtain ⟨A, c, rfl, -, -, -⟩ := own_rd he
        rfl
      have HCL := Lib.hid hcl
      have H1C := Lib.hid h1c
      have hl1 : vs1.length = n1 * 1 := by have := HVL.out; omega
      have O3b := Lib.hid (own_lower O3.out (Nat.le_refl _))
      have hgw : wc.heap.size ≤ gb := Nat.le_of_eq hgb
      clear hcl h1c hnil
      go_wp2_with (at_builtin; go_loud (refine wpList_append_own _ rfl _ _ 82 rfl gb 22 i0 _ 1 24 Tryd.underlying82 hi0 hz0 hzs hzb rfl (by omega) _ _ _ rfl O3.out ad n1 _ vs1 rfl hl1 HCL.out H1C.out (by unfold maxLen; omega) (by omega) hb3 ?_); intro v9 w9 own9 hg9 hH9; clear hH9; obtain ⟨A9, c9, rfl, -, -, -⟩ := own_rd own9; have e9 := own_grown O3.out hg9 wc hgw e3; have HF := Lib.hid (HFIN.out A9 c9 w9 e9 own9); have B9 := (HR1.out.ext e9).bk; have f2 : w9.frozen? ⟨mb, 2, none⟩ = false := B9.frozen 2; have f1 : w9.frozen? ⟨mb, 1, none⟩ = false := B9.frozen 1; have z1 : w9.cell? ⟨mb, 1, none⟩ = some (.slice Ay1 y cy1) := B9.cell 1; have z3 : w9.cell? ⟨mb, 2, none⟩ = some (.slice (some ad) n1 c1') := B9.cell 2; clear own9 hg9)
      go_ret
      exact ⟨rfl, HF.out⟩

set_option maxRecDepth 100000 in
set_option maxHeartbeats 2000000 in
theorem RPut_any (G : Nat → Prop) (mb lim : Nat) (Y : List Pr) (T : List (List Pr)) (p : Pr) (w : World) (h : RM w G mb lim Y T) (htot : totL T ≤ 1000) (hT8 : T.length ≤ 1000) (hlim : 1 ≤ lim) (hY : Asc Y) (hy60 : Y.length ≤ 1000) :
    Calls Tryd.prog 57 #[.pointer (some ⟨mb, 0, none⟩), p.val] w fun e w' => e = .returned (.int .i64 (putK Y p)) ∧ ∃ G', ROp w w' G mb lim (doY lim Y p) (doT lim Y T p) G' := by
  have HM := Lib.hid h
  obtain ⟨yv, lv, vs, hR, hG⟩ := h
  have oy := hR.yo
  obtain ⟨y, hy⟩ : ∃ y, Y.length = y := ⟨_, rfl⟩
  rw [hy] at oy
  obtain ⟨Ay, cy, rfl, hcy, -, -⟩ := own_rd oy
  have HYY := Lib.hid hy
  obtain ⟨pk, pv, pg⟩ := p
  have B1 := Bk.at_ w 25 #[.string pk, .string pv, .bool pg] w.heap.size rfl
  have e1 : Ext w (w.alloc (.cells #[.string pk, .string pv, .bool pg] 25)) := (Ext.refl _).alloc _
  have HR := Lib.hid hR
  have HG := Lib.hid hG
  have R1 := hR.ext e1
  have p0 : (w.alloc (.cells #[.string pk, .string pv, .bool pg] 25)).cell? ⟨w.heap.size, 0, none⟩ = some (.string pk) := B1.cell 0
  have p1 : (w.alloc (.cells #[.string pk, .string pv, .bool pg] 25)).cell? ⟨w.heap.size, 1, none⟩ = some (.string pv) := B1.cell 1
  have p2 : (w.alloc (.cells #[.string pk, .string pv, .bool pg] 25)).cell? ⟨w.heap.size, 2, none⟩ = some (.bool pg) := B1.cell 2
  have c1 : (w.alloc (.cells #[.string pk, .string pv, .bool pg] 25)).cell? ⟨mb, 1, none⟩ = some (.slice Ay y cy) := R1.bk.cell 1
  have HC := Lib.hid (RSPut_any 0 _ Y ⟨pk, pv, pg⟩ (w.alloc (.cells #[.string pk, .string pv, .bool pg] 25)).drew (own_ext R1.yo (Ext.refl _).drew) (Nat.zero_le _) hY (by omega))
  have e1d := e1.drew
  obtain ⟨k, hk⟩ : ∃ k, putK Y ⟨pk, pv, pg⟩ = k := ⟨_, rfl⟩
  have HK := Lib.hid hk
  have HTOT := Lib.hid htot
  rw [hk] at HC ⊢
  have hpv : (⟨pk, pv, pg⟩ : Pr).val = Value.agg #[.string pk, .string pv, .bool pg] := rfl
  rw [hpv] at HC
  clear oy hR hG hk htot B1 R1 hY hpv hy
  go_enter Tryd.func57, Tryd.ntmps57
  go_upto_region 1 with (fail)
  generalize w.alloc (.cells #[.string pk, .string pv, .bool pg] 25) = W1 at *
  go_cut [5, 6] from 7 to 15 (fun a b wc => ∃ v', a = v' ∧ b = .int .i64 k ∧ Ext w wc ∧ Hid (wc.ownsRow 0 25 3 v' (storeL Y ⟨pk, pv, pg⟩).length ((storeL Y ⟨pk, pv, pg⟩).flatMap Pr.cells)) ∧ Hid (∀ g, v'.ownBlock = some g → (Value.slice Ay y cy).ownBlock = some g ∨ w.heap.size ≤ g))
  case first =>
    as_aux_lemma =>
    go_region_with (go_at_call 43; with_reducible refine HC.out.mono ?_; rintro _ w2 ⟨⟨v2, rfl, o2, hf2⟩, hb2⟩)
    all_goals
      have HO2 := Lib.hid o2
      have HF2 : Hid (∀ g, v2.ownBlock = some g → (Value.slice Ay y cy).ownBlock = some g ∨ w.heap.size ≤ g) := Lib.hid fun g hg => (hf2 g hg).imp id fun h => Nat.le_trans e1d.size h
      clear o2 hf2
      go_wp2_with fail
      go_meet
      exact ⟨v2, rfl, rfl, e1d.trans hb2, HO2, HF2⟩
  case rest =>
  as_aux_lemma =>
  obtain ⟨v2, rfl, rfl, e2, HO2, HF2⟩ := hcut
  obtain ⟨S, hS⟩ : ∃ S, storeL Y ⟨pk, pv, pg⟩ = S := ⟨_, rfl⟩
  have HS := Lib.hid hS
  rw [hS] at HO2
  have R2 := HR.out.ext e2
  clear hS c1 p0 p1 p2 HC
  by_cases hk0 : k = 0
  · subst hk0
    obtain ⟨s, hs⟩ : ∃ s, S.length = s := ⟨_, rfl⟩
    have oS := HO2.out
    rw [hs] at oS
    obtain ⟨A2, c2', rfl, hc2, -, -⟩ := own_rd oS
    have HSL := Lib.hid hs
    have HSO := Lib.hid oS
    have x1 : wc.cell? ⟨mb, 1, none⟩ = some (.slice Ay y cy) := R2.bk.cell 1
    have f1 : wc.frozen? ⟨mb, 1, none⟩ = false := R2.bk.frozen 1
    have HR2 := Lib.hid R2
    have k3 := set_chg wc mb 1 (.slice A2 s c2')
    have B3 := R2.bk.set_ 1 (.slice A2 s c2')
    have RA : RAt (wc.setCell ⟨mb, 1, none⟩ (.slice A2 s c2')) mb lim S T (.slice A2 s c2') lv vs := R2.made k3 B3 (by rw [hs]; exact oS) R2.lo R2.ls
    have HOP3 : Hid (ROp w (wc.setCell ⟨mb, 1, none⟩ (.slice A2 s c2')) G mb lim S T (RFoot mb (.slice A2 s c2') lv vs)) := Lib.hid (ROp.mk' HG.out e2 k3 RA (fun g hg => (HF2.out g hg).imp (fun h => HG.out g (.inr (.inl h))) id) (fun g hg => .inl (HG.out g (.inr (.inr (.inl hg))))) (fun v hv g hg => .inl (HG.out g (.inr (.inr (.inr ⟨v, hv, hg⟩))))))
    have hB3 : Bk (wc.setCell ⟨mb, 1, none⟩ (.slice A2 s c2')) mb 84 #[.int .i64 (lim : Int), .slice A2 s c2', lv] := B3
    have HB3 := Lib.hid hB3
    clear hs oS R2 k3 B3 RA hB3
    go_upto_region 5 with (fail)
    generalize wc.setCell ⟨mb, 1, none⟩ (.slice A2 s c2') = w3 at *
    have z0 : w3.cell? ⟨mb, 0, none⟩ = some (.int .i64 (lim : Int)) := HB3.out.cell 0
    have z1 : w3.cell? ⟨mb, 1, none⟩ = some (.slice A2 s c2') := HB3.out.cell 1
    clear x1 f1
    obtain ⟨tb, htb⟩ : ∃ tb : Bool, decide (lim ≤ s) = tb := ⟨_, rfl⟩
    have HTB := Lib.hid htb
    clear htb
    go_cut [32] from 23 to 32 (fun v wd => v = .bool tb ∧ Ext w3 wd)
    case first =>
      as_aux_lemma =>
      by_cases hc : lim ≤ s
      · obtain rfl : tb = true := by rw [← HTB.out]; exact decide_eq_true hc
        have hci : (lim : Int) ≤ (s : Int) := by omega
        clear hc
        go_quiet (fail)
        go_wp2_with fail
        go_meet
        exact ⟨rfl, by (repeat (with_reducible first | exact Ext.refl _ | assumption | refine Ext.drew ?_ | refine Ext.drewN ?_ _ | refine Ext.alloc ?_ _ | refine Ext.trans ?_ (by with_reducible assumption)))⟩
      · obtain rfl : tb = false := by rw [← HTB.out]; exact decide_eq_false hc
        have hci : ¬ (lim : Int) ≤ (s : Int) := by omega
        clear hc
        go_quiet (fail)
        go_wp2_with fail
        go_meet
        exact ⟨rfl, by (repeat (with_reducible first | exact Ext.refl _ | assumption | refine Ext.drew ?_ | refine Ext.drewN ?_ _ | refine Ext.alloc ?_ _ | refine Ext.trans ?_ (by with_reducible assumption)))⟩
    case rest =>
    as_aux_lemma =>
    obtain ⟨rfl, e4⟩ := hcut
    have HO4 := Lib.hid (HOP3.out.trans (HOP3.out.at_.op e4))
    clear z0 z1
    cases tb with
    | true =>
      have hc : lim ≤ s := of_decide_eq_true HTB.out
      have hfk : flK S = 0 := if_neg (by rw [HSL.out]; omega)
      have hY' : doY lim Y ⟨pk, pv, pg⟩ = flY S := by unfold doY flY; rw [if_pos ⟨HK.out, by rw [HS.out, HSL.out]; exact hc⟩]
      have hT' : doT lim Y T ⟨pk, pv, pg⟩ = flT S T := by
        rw [flT_cons (by rw [HSL.out]; omega)]
        unfold doT
        rw [if_pos ⟨HK.out, by rw [HS.out, HSL.out]; exact hc⟩, HS.out]
      have HYD := Lib.hid hY'
      have HTD := Lib.hid hT'
      have HFC := Lib.hid (RFlush_any _ mb lim S T _ HO4.out.at_ HTOT.out hT8)
      rw [hfk] at HFC
      clear hY' hT' hfk hc
      go_wp2_with fail
      refine HFC.out.mono ?_
      rintro _ w5 ⟨rfl, G5, hop5⟩
      have HO5 := Lib.hid hop5
      clear hop5
      go_wp2_with fail
      go_ret
      exact ⟨rfl, G5, by rw [HYD.out, HTD.out]; exact HO4.out.trans HO5.out⟩
    | false =>
      have hc : ¬ lim ≤ s := of_decide_eq_false HTB.out
      have hY' : doY lim Y ⟨pk, pv, pg⟩ = S := by unfold doY; rw [if_neg (fun h => hc (by rw [← HSL.out, ← HS.out]; exact h.2)), HS.out]
      have hT' : doT lim Y T ⟨pk, pv, pg⟩ = T := by unfold doT; rw [if_neg (fun h => hc (by rw [← HSL.out, ← HS.out]; exact h.2))]
      have HYD := Lib.hid hY'
      have HTD := Lib.hid hT'
      clear hY' hT' hc
      go_wp2_with fail
      go_ret
      exact ⟨rfl, _, by rw [HYD.out, HTD.out]; exact HO4.out⟩
  · have hb := do_bad (lim := lim) (T := T) (p := ⟨pk, pv, pg⟩) (by rw [HK.out]; exact hk0)
    have hs : S = Y := by rw [← HS.out]; exact store_bad (by rw [HK.out]; exact hk0)
    have HB := Lib.hid hb
    clear hb hs R2
    go_wp2_with fail
    go_ret
    exact ⟨rfl, G, by rw [HB.out.1, HB.out.2]; exact HM.out.op e2⟩
end Go.Proofs.YtnafegofmbhahaaDoor

/- the references' lsm: All, Tables; and whether texts are the same. -/
namespace Go.Proofs.YtnafegofmbhahaaDoor
open Go.RowKit Go.WideShapes
set_option linter.unusedVariables false
attribute [local go_sem ↓] Go.wp_at_zero Go.wp_at_succ

set_option maxRecDepth 100000 in
set_option maxHeartbeats 2000000 in
theorem RAll_any (G : Nat → Prop) (mb : Nat) (lim : Int) (Y : List Pr) (T : List (List Pr)) (w : World) (h : RM w G mb lim Y T) (htot : totL (Y :: T) ≤ 1000) (hT8 : T.length ≤ 1000) :
    Calls Tryd.prog 58 #[.pointer (some ⟨mb, 0, none⟩)] w fun e w' => (∃ v', e = .returned v' ∧ w'.ownsRow w.heap.size 25 3 v' (liveL (Y :: T)).length ((liveL (Y :: T)).flatMap Pr.cells)) ∧ Ext w w' := by
  have HTOT := Lib.hid htot
  obtain ⟨yv, lv, vs, hR, -⟩ := h
  obtain ⟨n, hn⟩ : ∃ n, T.length = n := ⟨_, rfl⟩
  obtain ⟨yl, hyl⟩ : ∃ y, Y.length = y := ⟨_, rfl⟩
  have ow := hR.lo
  have oy := hR.yo
  rw [hn] at ow hT8
  rw [hyl] at oy
  obtain ⟨A3, c3, rfl, hc3, hr3, hnil⟩ := own_rd ow
  obtain ⟨A1, c1', rfl, hc1, -, -⟩ := own_rd oy
  have HYL := Lib.hid hyl
  have HN := Lib.hid hn
  have HR := Lib.hid hR
  have c1 : w.cell? ⟨mb, 1, none⟩ = some (.slice A1 yl c1') := hR.bk.cell 1
  have hlen : vs.length = n := by have := hr3.1; omega
  have e2 : Ext w (w.alloc (.cells #[.slice A1 yl c1'] 22)) := (Ext.refl _).alloc _
  have O2 := Lib.hid (own_row1 w (.slice A1 yl c1') rfl)
  have R2 := hR.ext e2
  have c2 : (w.alloc (.cells #[.slice A1 yl c1'] 22)).cell? ⟨mb, 2, none⟩ = some (.slice A3 n c3) := R2.bk.cell 2
  have HR2 := Lib.hid R2
  have hr2 := hr3.ext e2
  clear ow oy hn hyl hR R2 htot
  obtain ⟨base, hbase⟩ : ∃ b, w.heap.size = b := ⟨_, rfl⟩
  go_enter Tryd.func58, Tryd.ntmps58
  go_upto_region 2 with (fail)
  generalize w.alloc (.cells #[.slice A1 yl c1'] 22) = w3 at *
  rw [hbase] at O2
  try rw [hbase]
  have hbw : w.heap.size ≤ base := Nat.le_of_eq hbase
  have hfin : ∀ (v9 : Value) (w9 : World), w9.ownsRow base 22 1 v9 (1 + n) ([.slice A1 yl c1'] ++ vs) → w3.grownBy w9 (Value.slice (some ⟨base, 0, none⟩) 1 1).ownBlock →
      ∃ A9 c9, v9 = .slice A9 (1 + n) c9 ∧ Ext w w9 ∧ Calls Tryd.prog 93 #[.slice A9 (1 + n) c9] w9 fun e w' => (∃ v', e = .returned v' ∧ w'.ownsRow w.heap.size 25 3 v' (liveL (Y :: T)).length ((liveL (Y :: T)).flatMap Pr.cells)) ∧ Ext w9 w' := fun v9 w9 h9 hg9 => by
    obtain ⟨A9, c9, rfl, hc9, hr9, -⟩ := own_rd h9
    have e9 := own_grown O2.out hg9 w hbw e2
    have R9 := HR.out.ext e9
    have OL : OwLs w9 (.slice A1 yl c1' :: vs) (Y :: T) := R9.ls.cons R9.yo rfl
    refine ⟨A9, c9, rfl, e9, (RLive_any A9 (1 + n) c9 _ (Y :: T) w9 hr9 hc9 OL.rd HTOT.out).mono ?_⟩
    rintro e w' ⟨⟨v', he, ho⟩, hb⟩
    exact ⟨⟨v', he, own_lower ho e9.size⟩, hb⟩
  have HFIN := Lib.hid hfin
  obtain ⟨i0, hi0, hz0, hzs, hzb⟩ := info_parts info_rowP
  have hb3s : base ≤ w3.heap.size := by rw [← hbase]; exact e2.size
  clear hfin c1 hr3
  cases A3 with
  | none =>
    have h0 : n = 0 := by
      rcases Nat.eq_zero_or_pos n with h | h
      · exact h
      · obtain ⟨ad', h1, _⟩ := hr2.2.2 h
        cases h1
    subst h0
    obtain rfl : c3 = 0 := by
      rcases hnil rfl with h | h
      · exact h.2
      · exact absurd rfl h
    have hx0 : vs = [] := List.eq_nil_of_length_eq_zero hlen
    obtain ⟨A9, c9, h9, E9, HC9⟩ := HFIN.out _ w3 (by rw [hx0]; exact O2.out) ((Ext.refl w3).gb _)
    injection h9 with h9a h9b h9c
    subst h9a h9c
    have HC9' := Lib.hid HC9
    clear HC9 h9b hnil hr2 hx0
    go_wp2_with (at_builtin; go_loud (refine wpList_append_own_none rfl _ _ 82 rfl base 22 i0 1 Tryd.underlying82 hi0 _ _ _ rfl O2.out rfl ?_))
    refine HC9'.out.mono ?_
    rintro _ w10 ⟨⟨v10, rfl, ho⟩, hb10⟩
    have HO := Lib.hid ho
    clear ho
    go_wp2_with fail
    go_ret
    exact ⟨⟨_, rfl, HO.out⟩, E9.trans hb10⟩
  | some ad =>
    have hcl : ∀ (j : Nat) u, vs[j]? = some u → w3.cell? (ad.add j) = some u := fun j u hj => by
      obtain ⟨ad', he, -, h3⟩ := hr2.at_ hj
      obtain rfl : ad = ad' := by injection he
      exact h3
    have h1c : ∀ u ∈ vs, u.oneCell' = true := fun u hu => by
      obtain ⟨es, he⟩ := HR.out.ls.mem hu
      obtain ⟨A, c, rfl, -, -, -⟩ := own_rd he
      rfl
    have HCL := Lib.hid hcl
    have H1C := Lib.hid h1c
    have hl1 : vs.length = n * 1 := by omega
    clear hcl h1c hnil hr2 hlen
    go_wp2_with (at_builtin; go_loud (refine wpList_append_own _ rfl _ _ 82 rfl base 22 i0 _ 1 24 Tryd.underlying82 hi0 hz0 hzs hzb rfl (by omega) _ _ _ rfl O2.out ad n _ vs rfl hl1 HCL.out H1C.out (by unfold maxLen; omega) (by omega) hb3s ?_); intro v9 w9 own9 hg9 hH9; clear hH9; obtain ⟨A9, c9, rfl, E9, HC9⟩ := HFIN.out v9 w9 own9 hg9)
    refine HC9.mono ?_
    rintro _ w10 ⟨⟨v10, rfl, ho⟩, hb10⟩
    have HO := Lib.hid ho
    clear ho
    go_wp2_with fail
    go_ret
    exact ⟨⟨_, rfl, HO.out⟩, E9.trans hb10⟩

set_option maxRecDepth 100000 in
set_option maxHeartbeats 2000000 in
theorem RTables_any (G : Nat → Prop) (mb : Nat) (lim : Int) (Y : List Pr) (T : List (List Pr)) (w : World) (h : RM w G mb lim Y T) (hT8 : T.length ≤ 1000) (hok : LsOk T) (htot : totL T ≤ 1000) :
    Calls Tryd.prog 61 #[.pointer (some ⟨mb, 0, none⟩)] w fun e w' => (∃ v, e = .returned v ∧ w'.ownsRow w.heap.size 9 1 v T.length (T.map tabV)) ∧ Ext w w' := by
  obtain ⟨yv, lv, vs, hR, -⟩ := h
  obtain ⟨n, hn⟩ : ∃ n, T.length = n := ⟨_, rfl⟩
  have ow := hR.lo
  rw [hn] at ow hT8
  obtain ⟨A, c, rfl, hc, hr, -⟩ := own_rd ow
  have hnc := hr.2.1
  have HR := Lib.hid hR
  have HN := Lib.hid hn
  have HOK := Lib.hid hok
  have HTOT := Lib.hid htot
  have HRD := Lib.hid hr
  have H0 : Hid (w.ownsRow w.heap.size 9 1 (.slice none 0 0) 0 ((T.take 0).map tabV)) := own_nil _ _ _ _
  clear ow hn hR hok htot hr
  rw [HN.out]
  unfold maxLen at hc
  go_enter Tryd.func61, Tryd.ntmps61
  go_wp2_with fail
  go_loopw [3, 4, 5] (fun o y _ wr => ∃ (i : Nat), y = .int .i64 i ∧ i ≤ n ∧ Ext w wr ∧ Hid (wr.ownsRow w.heap.size 9 1 o i ((T.take i).map tabV))) (fun _ y _ _ => n - (intOf y).toNat)
  case atStart => exact ⟨0, rfl, Nat.zero_le _, Ext.refl _, H0⟩
  case round =>
    obtain ⟨i, rfl, hi, hbw, hown⟩ := hrel
    have c2 : wr.cell? ⟨mb, 2, none⟩ = some (.slice A n c) := (HR.out.ext hbw).bk.cell 2
    by_cases hc3 : i < n
    · obtain ⟨es, hes⟩ : ∃ es, T[i]? = some es := ⟨_, List.getElem?_eq_getElem (by rw [HN.out]; exact hc3)⟩
      obtain ⟨ev, hev⟩ : ∃ v, vs[i]? = some v := ⟨_, List.getElem?_eq_getElem (by rw [HR.out.ls.1, HN.out]; exact hc3)⟩
      obtain ⟨ad, rfl, hb, y0⟩ := (HRD.out.ext hbw).at_ hev
      obtain ⟨A1, c1, rfl, hc1, hr1, -⟩ := own_rd ((HR.out.ext hbw).ls.2 i _ es hev hes)
      have hl1 := take_tot hes
      have htt := HTOT.out
      have HTC := Lib.hid (RTable_any A1 es.length c1 es wr hr1 hc1 (by omega) ((HOK.out es (List.mem_of_getElem? hes)).2))
      have HTT : Hid ((T.take (i + 1)).map tabV = (T.take i).map tabV ++ [.string (tabB es)]) := by
        show _ = _
        obtain ⟨h2, h3⟩ := List.getElem?_eq_some_iff.1 hes
        rw [List.take_succ_eq_append_getElem h2, h3, List.map_append]; rfl
      obtain ⟨bs, HBS⟩ : ∃ b, Hid (tabB es = b) := ⟨_, rfl⟩
      rw [HBS.out] at HTT HTC
      generalize es.length = ne at *
      clear hev hes hr1
      go_wp2_with fail
      refine HTC.out.mono ?_
      rintro _ w3 ⟨rfl, hb3⟩
      have e3w := hbw.trans hb3
      have O3 := Lib.hid (own_ext hown.out hb3)
      have e5 : Ext w3 (w3.alloc (.cells #[.string bs] 9)) := (Ext.refl _).alloc _
      have O5 := Lib.hid (own_ext O3.out e5)
      have e5w := e3w.trans e5
      have hb5 := e5w.size
      obtain ⟨i0, hi0, hz0, hzs, hzb⟩ := info_parts info_strT
      clear O3 hown c2
      go_wp2_with (at_builtin; go_loud (refine wpList_append_own _ rfl _ _ 79 rfl w.heap.size 9 i0 _ 1 16 Tryd.underlying79 hi0 hz0 hzs hzb rfl (by omega) u3 i _ rfl O5.out ⟨w3.heap.size, 0, none⟩ 1 1 [.string bs] (by rfl) rfl (news_new w3 _ _ _ rfl) (by intro u hu; simp at hu; subst hu; rfl) (by unfold maxLen; omega) (by omega) hb5 ?_); intro v6 w6 own6 hg6 hH6; clear hH6; have e6 := own_grown O5.out hg6 w (Nat.le_refl _) e5w)
      have R6 : Hid (w6.ownsRow w.heap.size 9 1 v6 (i + 1) ((T.take (i + 1)).map tabV)) := by
        show World.ownsRow _ _ _ _ _ _ _
        rw [HTT.out]; exact own6
      clear own6
      go_roundw
      case rel => exact ⟨i + 1, by go_num, by omega, e6, R6⟩
      case measure => simp [intOf]; omega
    · obtain rfl : i = n := by omega
      have HO := Lib.hid hown.out
      rw [List.take_of_length_le (by rw [HN.out]; exact Nat.le_refl _)] at HO
      clear hown
      go_wp2_with fail
      go_ret
      exact ⟨⟨_, rfl, HO.out⟩, hbw⟩

theorem str_at {w : World} {A : Option Addr} {n c : Nat} {T : List (List Pr)} (h : Rd w 1 A n c (T.map tabV)) {i : Nat} {es : List Pr} (he : T[i]? = some es) : ∃ ad, A = some ad ∧ w.cell? (ad.add i) = some (.string (tabB es)) := by
  obtain ⟨ad, e, _, hc⟩ := h.at_ (j := i) (u := .string (tabB es)) (by rw [List.getElem?_map, he]; rfl)
  exact ⟨ad, e, hc⟩
set_option maxRecDepth 100000 in
theorem Texts_same (A A' : Option Addr) (n c c' : Nat) (T : List (List Pr)) (w : World) (hn : T.length = n) (hr : Rd w 1 A n c (T.map tabV)) (hr' : Rd w 1 A' n c' (T.map tabV)) (hm : n ≤ 1000) :
    Calls Tryd.prog 60 #[.slice A n c, .slice A' n c'] w fun e w' => e = .returned (.bool true) ∧ Ext w w' := by
  have hl := hr.2.1
  have hl' := hr'.2.1
  have HN := Lib.hid hn
  have HR := Lib.hid hr
  have HR' := Lib.hid hr'
  clear hn hr hr'
  go_enter Tryd.func60, Tryd.ntmps60
  go_wp2_with fail
  go_loopw [5] (fun x wr => ∃ j : Nat, x = .int .i64 j ∧ j ≤ n ∧ Ext w wr) (fun x _ => n - (intOf x).toNat)
  case atStart => exact ⟨0, rfl, Nat.zero_le _, Ext.refl _⟩
  case round =>
    obtain ⟨j, rfl, hj, hbw⟩ := hrel
    by_cases hc : j < n
    · obtain ⟨es, hes⟩ : ∃ es, T[j]? = some es := ⟨_, List.getElem?_eq_getElem (by rw [HN.out]; exact hc)⟩
      obtain ⟨ad, rfl, y0⟩ := str_at (HR.out.ext hbw) hes
      obtain ⟨ad', rfl, y0'⟩ := str_at (HR'.out.ext hbw) hes
      generalize tabB es = bs at *
      clear hes
      go_wp2_with fail
      go_quiet (fail)
      go_wp2_with fail
      go_roundw
      case rel => exact ⟨j + 1, by go_num, by omega, by (repeat (with_reducible first | exact Ext.refl _ | assumption | refine Ext.drew ?_ | refine Ext.drewN ?_ _ | refine Ext.alloc ?_ _ | refine Ext.trans ?_ (by with_reducible assumption)))⟩
      case measure => simp [intOf]; omega
    · go_wp2_with fail
      go_ret
      exact ⟨rfl, hbw⟩
end Go.Proofs.YtnafegofmbhahaaDoor
