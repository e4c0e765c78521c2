/- table.Open: plain. -/
import Derived.Test.YtcgfdhgceokcnaaGreatDoorJWalKeeps18
import Derived.Test.YtcgfdhgceokcnaaGreatDoorJWalKeeps15
import Derived.Test.YtcgfdhgceokcnaaGreatDoorJWalKeeps14
namespace Go.Proofs.YtcgfdhgceokcnaaGreatDoor
open Go.RowKit Go.WideShapes
set_option linter.unusedVariables false

/-- a table of pairs -/
def opn (es : List Pr) (b : ByteArray) : Prop := tblK es = 0 ∧ tabB es = b
def Ok256 (es : List Pr) : Prop := ∀ p ∈ es, p.key.size < 256 ∧ p.value.size < 256
def cutB (b : ByteArray) : ByteArray := b.extract 0 (b.size - 8)
theorem ok256_of {es : List Pr} (h : ∀ p ∈ es, PrOk p) : Ok256 es := fun p hp => by
  have h1 := h p hp
  have h2 := (keyK_zero.1 h1.1).2
  have h3 := h1.2.1
  omega
theorem tabB_list (es : List Pr) : (tabB es).data.toList = bodyB es ++ (fourB es.length ++ fourB (sumL (tabhB es))) := by
  unfold tabB tabhB
  simp
theorem tabB_size (es : List Pr) : (tabB es).size = (bodyB es).length + 8 := by
  rw [← list_size', tabB_list, List.length_append, List.length_append]
  rfl
theorem opn_cut {es : List Pr} {b : ByteArray} (h : opn es b) : 8 ≤ b.size ∧ (cutB b).data.toList = bodyB es := by
  obtain ⟨_, rfl⟩ := h
  have hs := tabB_size es
  refine ⟨by omega, ?_⟩
  unfold cutB
  rw [ex_list', List.drop_zero, Nat.sub_zero, hs, tabB_list, show (bodyB es).length + 8 - 8 = (bodyB es).length by omega, List.take_left']
  rfl
theorem body_compl : ∀ {es es0 : List Pr} {rest : List UInt8}, Ok256 es → Ok256 es0 → bodyB es0 = bodyB es ++ rest → ∃ t, es0 = es ++ t ∧ rest = bodyB t
  | [], es0, rest, _, _, h => ⟨es0, rfl, by simpa [bodyB] using h.symm⟩
  | p :: es, [], rest, _, _, h => by
    have h1 := congrArg List.length h
    simp only [bodyB, List.flatMap_nil, List.flatMap_cons, List.length_nil, List.length_append, pairB_len] at h1
    omega
  | p :: es, q :: es0, rest, hp, hq, h => by
    have h1 : pairB q ++ bodyB es0 = pairB p ++ (bodyB es ++ rest) := by
      have := h
      simp only [bodyB, List.flatMap_cons, List.append_assoc] at this ⊢
      exact this
    obtain ⟨rfl, h2⟩ := fst_uniq (hq q (List.mem_cons_self ..)) (hp p (List.mem_cons_self ..)) h1
    obtain ⟨t, rfl, h3⟩ := body_compl (fun r hr => hp r (List.mem_cons_of_mem _ hr)) (fun r hr => hq r (List.mem_cons_of_mem _ hr)) h2
    exact ⟨t, rfl, h3⟩
theorem body_count (es : List Pr) : 3 * es.length ≤ (bodyB es).length := by
  induction es with
  | nil => simp [bodyB]
  | cons p es ih =>
    unfold bodyB at ih ⊢
    rw [List.flatMap_cons, List.length_append, pairB_len, List.length_cons]
    omega
theorem open_stuck {b rest : ByteArray} {es : List Pr} (h256 : Ok256 es) (h : (cutB b).data.toList = bodyB es ++ rest.data.toList) (hne : 0 < rest.size) (hno : ∀ p left, ¬ Fst rest p left) : ∀ es0, ¬ opn es0 b := by
  intro es0 ho
  have h0 := ok256_of (tblK_zero.1 ho.1).2
  obtain ⟨t, rfl, h2⟩ := body_compl h256 h0 ((opn_cut ho).2.symm.trans h)
  cases t with
  | nil =>
    have h3 : rest.data.toList.length = 0 := by rw [h2]; rfl
    rw [list_size'] at h3
    omega
  | cons q t =>
    refine hno q ⟨(bodyB t).toArray⟩ ⟨(h0 q (by simp)).1, (h0 q (by simp)).2, ?_⟩
    rw [h2]
    rfl
theorem open_last {b rest : ByteArray} {es : List Pr} (h256 : Ok256 es) (h : (cutB b).data.toList = bodyB es ++ rest.data.toList) (hne : rest.size = 0) (hno : ¬ opn es b) : ∀ es0, ¬ opn es0 b := by
  intro es0 ho
  have h0 := ok256_of (tblK_zero.1 ho.1).2
  obtain ⟨t, rfl, h2⟩ := body_compl h256 h0 ((opn_cut ho).2.symm.trans h)
  cases t with
  | nil => rw [List.append_nil] at ho; exact hno ho
  | cons q t =>
    have h3 := congrArg List.length h2
    rw [list_size'] at h3
    unfold bodyB at h3
    rw [List.flatMap_cons, List.length_append, pairB_len] at h3
    omega
theorem open_step {b rest left : ByteArray} {es : List Pr} {p : Pr} (h256 : Ok256 es) (h : (cutB b).data.toList = bodyB es ++ rest.data.toList) (hf : Fst rest p left) : Ok256 (es ++ [p]) ∧ (cutB b).data.toList = bodyB (es ++ [p]) ++ left.data.toList ∧ left.size < rest.size := by
  refine ⟨fun q hq => ?_, ?_, ?_⟩
  · rcases List.mem_append.1 hq with hq | hq
    · exact h256 q hq
    · obtain rfl : q = p := by simpa using hq
      exact ⟨hf.1, hf.2.1⟩
  · rw [h, hf.2.2, bodyB_snoc, List.append_assoc]
  · have := congrArg List.length hf.2.2
    rw [List.length_append, pairB_len, list_size', list_size'] at this
    omega
theorem open_count {b rest : ByteArray} {es : List Pr} (h : (cutB b).data.toList = bodyB es ++ rest.data.toList) : 3 * es.length ≤ b.size ∧ rest.size ≤ b.size := by
  have h1 := congrArg List.length h
  rw [List.length_append, list_size', list_size'] at h1
  have h2 := body_count es
  have h3 : (cutB b).size ≤ b.size := by unfold cutB; rw [ByteArray.size_extract]; omega
  omega
theorem opn_uniq {es es0 : List Pr} {b : ByteArray} (h : opn es b) (h0 : opn es0 b) : es = es0 := by
  have k := ok256_of (tblK_zero.1 h.1).2
  have k0 := ok256_of (tblK_zero.1 h0.1).2
  obtain ⟨t, rfl, h2⟩ := body_compl (rest := []) k k0 (by rw [List.append_nil, ← (opn_cut h).2, ← (opn_cut h0).2])
  cases t with
  | nil => simp
  | cons q t =>
    have h3 := congrArg List.length h2
    unfold bodyB at h3
    rw [List.flatMap_cons, List.length_append, pairB_len] at h3
    simp at h3
    omega
end Go.Proofs.YtcgfdhgceokcnaaGreatDoor

/- table.Open, Get and All. -/
namespace Go.Proofs.YtcgfdhgceokcnaaGreatDoor
open Go.RowKit Go.WideShapes
set_option linter.unusedVariables false
attribute [local go_sem ↓] Go.wp_at_zero Go.wp_at_succ

/-- a table in memory -/
structure TbAt (w : World) (B tb : Nat) (v : Value) (es : List Pr) : Prop where
  bk : Bk w tb 131 #[v]
  own : w.ownsRow B 31 3 v es.length (es.flatMap Pr.cells)
  asc : Asc es
  ok : ∀ p ∈ es, PrOk p
  len : es.length ≤ 200000000
theorem TbAt.ext {w w' : World} {B tb : Nat} {v : Value} {es : List Pr} (h : TbAt w B tb v es) (k : Ext w w') : TbAt w' B tb v es := ⟨h.bk.ext k, own_ext h.own k, h.asc, h.ok, h.len⟩

set_option maxRecDepth 100000 in
set_option maxHeartbeats 2000000 in
theorem Open_any (b : ByteArray) (w : World) (hb : b.size ≤ 500000000) :
    Calls Tryz.prog 142 #[.string b] w fun e w' => ((∃ es tb v, opn es b ∧ e = .returned (.tuple #[.pointer (some ⟨tb, 0, none⟩), .nilIface]) ∧ TbAt w' w.heap.size tb v es ∧ w.heap.size ≤ tb) ∨ ((∀ es, ¬ opn es b) ∧ e = .returned (.tuple #[.pointer none, errR 2]))) ∧ Ext w w' := by
  obtain ⟨hE, hN, hG⟩ := errR_rules
  by_cases h8 : b.size < 8
  · have hno : Hid (∀ es, ¬ opn es b) := Lib.hid fun es h => by have := (opn_cut h).1; omega
    have h8i : (b.size : Int) < 8 := by omega
    go_enter Tryz.func142, Tryz.ntmps142
    go_wp2_with fail
    go_ret2
    exact ⟨.inr ⟨hno.out, rfl⟩, Ext.refl _⟩
  · have h8i : ¬ (b.size : Int) < 8 := by omega
    have w1 : IntKind.i64.wrap ((b.size : Int) - 8) = (b.size : Int) - 8 := IntWalk.i64_in _ (by omega)
    have t1 : ((b.size : Int) - 8).toNat = b.size - 8 := by omega
    have i1 : (0 : Int) ≤ (b.size : Int) - 8 := by omega
    have i2 : (b.size : Int) - 8 ≤ (b.size : Int) := by omega
    have H0 : Hid ((cutB b).data.toList = bodyB [] ++ (b.extract 0 (b.size - 8)).data.toList) := by
      show _ = _
      simp [bodyB, cutB]
    have H1 : Hid (Ok256 []) := fun p hp => by simp at hp
    have HO : Hid (w.ownsRow w.heap.size 31 3 (.slice none 0 0) ([] : List Pr).length (([] : List Pr).flatMap Pr.cells)) := own_nil _ _ _ _
    obtain ⟨i0, hi0, hz0, hzs, hzb⟩ := info_parts info_pair
    have HB := Lib.hid hb
    go_enter Tryz.func142, Tryz.ntmps142
    go_wp2_with fail
    go_loopw [4, 5, 6, 7, 8] (fun x y _ _ _ wr => ∃ (es : List Pr) (rest : ByteArray), y = .string rest ∧ Ext w wr ∧ Hid (wr.ownsRow w.heap.size 31 3 x es.length (es.flatMap Pr.cells)) ∧ Hid ((cutB b).data.toList = bodyB es ++ rest.data.toList) ∧ Hid (Ok256 es)) (fun _ y _ _ _ _ => match y with | .string s => s.size | _ => 0)
    case atStart => exact ⟨[], _, rfl, Ext.refl _, HO, H0, H1⟩
    case round =>
      obtain ⟨es, rest, rfl, hbw, hown, hcut, h256⟩ := hrel
      have hcnt := open_count hcut.out
      by_cases hz : rest.size = 0
      · have HLAST : Hid (¬ opn es b → ∀ es0, ¬ opn es0 b) := Lib.hid fun h => open_last h256.out hcut.out hz h
        obtain rfl := str_noneP hz
        obtain ⟨A, c, rfl, hc, hr, hnil⟩ := own_rd hown.out
        clear hnil hz
        go_wp2_with fail
        refine (Build_any A es.length c es _ hr hc (by omega)).mono ?_
        obtain ⟨k, HK⟩ : ∃ x, Hid (tblK es = x) := ⟨_, rfl⟩
        obtain ⟨tr, HTR⟩ : ∃ x, Hid (tabR es = x) := ⟨_, rfl⟩
        rw [HK.out, HTR.out]
        rintro _ w2 ⟨rfl, hb2⟩
        have e2 := hbw.trans hb2
        have o2 := Lib.hid (own_ext hown.out hb2)
        clear hr
        by_cases hk : k = 0
        · subst hk
          have htr : tr = tabB es := by rw [← HTR.out]; exact if_pos HK.out
          by_cases hs : tr = b
          · have hop : Hid (opn es b) := ⟨HK.out, htr.symm.trans hs⟩
            rw [errR_0]
            subst hs
            have hsz : es.length ≤ 200000000 := by omega
            have B3 := Bk.at_ w2 131 #[.slice A es.length c] w2.heap.size rfl
            have e3 : Ext w2 (w2.alloc (.cells #[.slice A es.length c] 131)) := (Ext.refl _).alloc _
            clear htr
            go_wp2_with fail
            go_ret2
            exact ⟨.inl ⟨es, w2.heap.size, _, hop.out, rfl, ⟨B3, own_ext o2.out e3, (tblK_zero.1 HK.out).1, (tblK_zero.1 HK.out).2, hsz⟩, e2.size⟩, e2.trans e3⟩
          · have hno := Lib.hid (HLAST.out fun h => hs (htr.trans h.2))
            have hbe := (Lib.bytes_beq_false_iff tr b).2 hs
            rw [errR_0]
            clear hs htr
            go_wp2_with fail
            go_ret2
            exact ⟨.inr ⟨hno.out, rfl⟩, e2⟩
        · have hno := Lib.hid (HLAST.out fun h => hk (HK.out.symm.trans h.1))
          have hok := isOk_no hk
          clear hk
          go_wp2_with fail
          go_ret2
          exact ⟨.inr ⟨hno.out, rfl⟩, e2⟩
      · have hp : 0 < rest.size := Nat.pos_of_ne_zero hz
        obtain ⟨q1, q2⟩ := str_someP hp
        have hcl := hcnt.1
        clear hz
        go_wp2_with fail
        refine (First_any rest _ (by omega)).mono ?_
        rintro e w2 ⟨hf | hf, hb2⟩
        · obtain ⟨p, left, hf, rfl⟩ := hf
          obtain ⟨s1, s2, s3⟩ := open_step h256.out hcut.out hf
          have S1 := Lib.hid s1
          have S2 := Lib.hid s2
          have S3 := Lib.hid s3
          have e2 := hbw.trans hb2
          obtain ⟨pk, pv, pg⟩ := p
          have hcl2 := (open_count s2).1
          rw [List.length_append] at hcl2
          have hcl3 : 3 * (es.length + 1) ≤ b.size := hcl2
          have hnl : ((es ++ [(⟨pk, pv, pg⟩ : Pr)]).flatMap Pr.cells) = es.flatMap Pr.cells ++ [.string pk, .string pv, .bool pg] := by
            rw [List.flatMap_append]; rfl
          have HNL := Lib.hid hnl
          clear s1 s2 s3 hf hcl2 hnl hcl hcnt
          have P3 := Bk.at_ w2 31 #[.string pk, .string pv, .bool pg] w2.heap.size rfl
          have e3 : Ext w (w2.alloc (.cells #[.string pk, .string pv, .bool pg] 31)) := e2.alloc _
          have o3 := World.ownsRow.alloc (own_ext hown.out hb2) (.cells #[.string pk, .string pv, .bool pg] 31)
          go_upto_region 9 with (fail)
          generalize w2.alloc (.cells #[.string pk, .string pv, .bool pg] 31) = W3 at *
          generalize w2.heap.size = g at *
          have y0 : W3.cell? ⟨g, 0, none⟩ = some (.string pk) := P3.cell 0
          have y1 : W3.cell? ⟨g, 1, none⟩ = some (.string pv) := P3.cell 1
          have y2 : W3.cell? ⟨g, 2, none⟩ = some (.bool pg) := P3.cell 2
          have e4 : Ext w (W3.alloc (.cells #[.string pk, .string pv, .bool pg] 31)) := e3.alloc _
          have O4 := Lib.hid (World.ownsRow.alloc o3 (.cells #[.string pk, .string pv, .bool pg] 31))
          have hb4 := e4.size
          clear o3 P3 e2 hbw
          go_wp2_with (at_builtin; go_loud (refine wpList_append_own _ rfl _ _ 32 rfl w.heap.size 31 i0 _ 3 40 Tryz.underlying32 hi0 hz0 hzs hzb rfl (by omega) u4 es.length _ rfl O4.out ⟨W3.heap.size, 0, none⟩ 1 1 [.string pk, .string pv, .bool pg] (by rfl) rfl (news_new W3 _ _ _ rfl) (by intro u hu; simp at hu; rcases hu with rfl | rfl | rfl <;> rfl) (by unfold maxLen; omega) (by omega) hb4 ?_); intro v5 w5 own5 hg5 hH5; clear hH5; have e5 := own_grown O4.out hg5 w (Nat.le_refl _) e4)
          go_roundw
          case rel => exact ⟨_, left, rfl, e5, by
            show World.ownsRow _ _ _ _ _ _ _
            rw [HNL.out, List.length_append]
            exact own5, S2, S1⟩
          case measure => exact S3.out
        · obtain ⟨hf, rfl⟩ := hf
          have hno := Lib.hid (open_stuck h256.out hcut.out hp hf)
          clear hf
          go_wp2_with fail
          go_ret2
          exact ⟨.inr ⟨hno.out, rfl⟩, by (repeat (with_reducible first | exact Ext.refl _ | assumption | refine Ext.drew ?_ | refine Ext.drewN ?_ _ | refine Ext.alloc ?_ _ | refine Ext.trans ?_ (by with_reducible assumption)))⟩

theorem TAll_any (B tb : Nat) (v : Value) (es : List Pr) (w : World) (h : TbAt w B tb v es) :
    Calls Tryz.prog 71 #[.pointer (some ⟨tb, 0, none⟩)] w fun e w' => (∃ v', e = .returned v' ∧ w'.ownsRow w.heap.size 31 3 v' es.length (es.flatMap Pr.cells)) ∧ Ext w w' := by
  obtain ⟨A, c, rfl, hc, hr, hnil⟩ := own_rd h.own
  have s0 : w.cell? ⟨tb, 0, none⟩ = some (.slice A es.length c) := h.bk.cell 0
  have HC := Lib.hid (CloneP_any A es.length c (es.flatMap Pr.cells) w hr h.len hc (cells_one es))
  clear h hnil hr
  go_enter Tryz.func71, Tryz.ntmps71
  go_wp2_with fail
  refine HC.out.mono ?_
  rintro _ w1 ⟨⟨v', rfl, ho⟩, hb⟩
  have HO := Lib.hid ho
  clear ho
  go_wp2_with fail
  go_ret
  exact ⟨⟨v', rfl, HO.out⟩, hb⟩

def tgK (es : List Pr) (key : ByteArray) : Int := if hasB es key = true then 0 else 5
set_option maxRecDepth 100000 in
set_option maxHeartbeats 1000000 in
theorem TGet_any (B tb : Nat) (v : Value) (es : List Pr) (key : ByteArray) (w : World) (h : TbAt w B tb v es) :
    Calls Tryz.prog 44 #[.pointer (some ⟨tb, 0, none⟩), .string key] w fun e w' => e = .returned (.tuple #[(pairV es key).val, errR (tgK es key)]) ∧ Ext w w' := by
  obtain ⟨n, hn⟩ : ∃ n, es.length = n := ⟨_, rfl⟩
  have ow := h.own
  rw [hn] at ow
  obtain ⟨A, c, rfl, hc, hr, hnil⟩ := own_rd ow
  have HX := Lib.hid hn
  have hn60 : n ≤ 200000000 := by rw [← hn]; exact h.len
  have s0 : w.cell? ⟨tb, 0, none⟩ = some (.slice A n c) := h.bk.cell 0
  have hsl := h.bk.lt
  have HO := Lib.hid h.asc
  have HR := Lib.hid hr
  have B1 := Bk.at_ w 31 #[.string ⟨#[]⟩, .string ⟨#[]⟩, .bool false] w.heap.size rfl
  have e1 : Ext w (w.alloc (.cells #[.string ⟨#[]⟩, .string ⟨#[]⟩, .bool false] 31)) := (Ext.refl _).alloc _
  have s1 := (e1.cell (p := ⟨tb, 0, none⟩) hsl).trans s0
  have hne : tb ≠ w.heap.size := by omega
  clear h hnil hr ow hn s0
  go_enter Tryz.func44, Tryz.ntmps44
  go_wp2_with fail
  generalize w.alloc (.cells #[.string ⟨#[]⟩, .string ⟨#[]⟩, .bool false] 31) = W1 at *
  refine (Find_any A n c es key _ (HR.out.ext e1) hc (by omega) HO.out).mono ?_
  obtain ⟨lo, HLO⟩ : ∃ x, Hid (lowN es key = x) := ⟨_, rfl⟩
  obtain ⟨hb, HHB⟩ : ∃ x, Hid (hasB es key = x) := ⟨_, rfl⟩
  rw [HLO.out, HHB.out]
  rintro _ w2 ⟨rfl, hb2⟩
  have B2 := B1.ext hb2
  have hlt2 := B2.lt
  have f0 := B2.frozen 0
  have f1 := B2.frozen 1
  have f2 := B2.frozen 2
  have p0 : w2.cell? ⟨w.heap.size, 0, none⟩ = some (.string ⟨#[]⟩) := B2.cell 0
  have p1 : w2.cell? ⟨w.heap.size, 1, none⟩ = some (.string ⟨#[]⟩) := B2.cell 1
  have p2 : w2.cell? ⟨w.heap.size, 2, none⟩ = some (.bool false) := B2.cell 2
  have HB2 := Lib.hid B2
  have e2 := e1.trans hb2
  have s2 := (hb2.cell (p := ⟨tb, 0, none⟩) (e1.lt hsl)).trans s1
  clear B1 B2 s1
  cases hb with
  | false =>
    have hp : pairV es key = pr0 := by unfold pairV getE; rw [if_neg (by rw [HHB.out]; decide)]; rfl
    have hk : tgK es key = 5 := if_neg (by rw [HHB.out]; decide)
    have HP := Lib.hid hp
    have HK := Lib.hid hk
    clear hp hk
    go_wp2_with fail
    have B7 := ((HB2.out.set_ 0 (.string ⟨#[]⟩)).set_ 1 (.string ⟨#[]⟩)).set_ 2 (.bool false)
    have x0 : (((w2.setCell ⟨w.heap.size, 0, none⟩ (.string ⟨#[]⟩)).setCell ⟨w.heap.size, 1, none⟩ (.string ⟨#[]⟩)).setCell ⟨w.heap.size, 2, none⟩ (.bool false)).cell? ⟨w.heap.size, 0, none⟩ = some (.string ⟨#[]⟩) := (B7.cell 0).trans rfl
    have x1 : (((w2.setCell ⟨w.heap.size, 0, none⟩ (.string ⟨#[]⟩)).setCell ⟨w.heap.size, 1, none⟩ (.string ⟨#[]⟩)).setCell ⟨w.heap.size, 2, none⟩ (.bool false)).cell? ⟨w.heap.size, 1, none⟩ = some (.string ⟨#[]⟩) := (B7.cell 1).trans rfl
    have x2 : (((w2.setCell ⟨w.heap.size, 0, none⟩ (.string ⟨#[]⟩)).setCell ⟨w.heap.size, 1, none⟩ (.string ⟨#[]⟩)).setCell ⟨w.heap.size, 2, none⟩ (.bool false)).cell? ⟨w.heap.size, 2, none⟩ = some (.bool false) := (B7.cell 2).trans rfl
    have e7 := ((e2.setCell (p := ⟨w.heap.size, 0, none⟩) (Nat.le_refl _) (.string ⟨#[]⟩)).setCell (p := ⟨w.heap.size, 1, none⟩) (Nat.le_refl _) (.string ⟨#[]⟩)).setCell (p := ⟨w.heap.size, 2, none⟩) (Nat.le_refl _) (.bool false)
    refine bodyPost_ret (by simp [results, Tryz.results44, go_sem, x0, x1, x2]; try rfl) rfl ?_
    exact ⟨by first | (rw [HP.out, HK.out]; done) | (rw [HP.out, HK.out]; rfl), e7⟩
  | true =>
    obtain ⟨q, hq, hqk⟩ := has_get HHB.out
    rw [HLO.out] at hq
    have hlo : lo < n := by rw [← HX.out]; exact (List.getElem?_eq_some_iff.1 hq).1
    have hp : pairV es key = q := by unfold pairV getE; rw [if_pos HHB.out, HLO.out, hq]; rfl
    have hk : tgK es key = 0 := if_pos HHB.out
    have HP := Lib.hid hp
    have HK := Lib.hid hk
    obtain ⟨ad, rfl, hb', y0, y1, y2⟩ := (HR.out.ext e2).getP hq
    obtain ⟨qk, qv, qg⟩ := q
    simp only at y0 y1 y2
    have hl := HR.out.2.1
    clear hp hq hqk hk
    go_wp2_with fail
    have B7 := ((HB2.out.set_ 0 (.string qk)).set_ 1 (.string qv)).set_ 2 (.bool qg)
    have x0 : (((w2.setCell ⟨w.heap.size, 0, none⟩ (.string qk)).setCell ⟨w.heap.size, 1, none⟩ (.string qv)).setCell ⟨w.heap.size, 2, none⟩ (.bool qg)).cell? ⟨w.heap.size, 0, none⟩ = some (.string qk) := (B7.cell 0).trans rfl
    have x1 : (((w2.setCell ⟨w.heap.size, 0, none⟩ (.string qk)).setCell ⟨w.heap.size, 1, none⟩ (.string qv)).setCell ⟨w.heap.size, 2, none⟩ (.bool qg)).cell? ⟨w.heap.size, 1, none⟩ = some (.string qv) := (B7.cell 1).trans rfl
    have x2 : (((w2.setCell ⟨w.heap.size, 0, none⟩ (.string qk)).setCell ⟨w.heap.size, 1, none⟩ (.string qv)).setCell ⟨w.heap.size, 2, none⟩ (.bool qg)).cell? ⟨w.heap.size, 2, none⟩ = some (.bool qg) := (B7.cell 2).trans rfl
    have e7 := ((e2.setCell (p := ⟨w.heap.size, 0, none⟩) (Nat.le_refl _) (.string qk)).setCell (p := ⟨w.heap.size, 1, none⟩) (Nat.le_refl _) (.string qv)).setCell (p := ⟨w.heap.size, 2, none⟩) (Nat.le_refl _) (.bool qg)
    refine bodyPost_ret (by simp [results, Tryz.results44, go_sem, x0, x1, x2]; try rfl) rfl ?_
    exact ⟨by first | (rw [HP.out, HK.out]; done) | (rw [HP.out, HK.out]; rfl), e7⟩
end Go.Proofs.YtcgfdhgceokcnaaGreatDoor

/- slices.Insert of one level into a row that is owned (XInsert's text at two cells). -/
namespace Go.Proofs.YtcgfdhgceokcnaaGreatDoor
open Go.RowKit
set_option linter.unusedVariables false
attribute [local go_sem ↓] Go.wp_at_zero Go.wp_at_succ

theorem info_level : (Tryz.prog.info? 89).map (fun i => (i.zero, i.size, i.bytes)) = some (some (.agg #[.string ⟨#[]⟩, .pointer none]), 2, 24) := by kernel_rfl

set_option maxRecDepth 100000 in
set_option maxHeartbeats 2000000 in
theorem InsL_shift (g n c i q : Nat) (cur nw : Array Value) (w : World) (hi : i < n) (hroom : n + 1 ≤ c) (hc63 : c ≤ maxLen) (hg : w.heap[g]? = some (.cells cur 89 (0, 0))) (hcs : cur.size = c * 2)
    (hnl : nw.size = 2) (hq : w.heap[q]? = some (.cells nw 89 (0, 0))) (hqg : q ≠ g) (h1c : ∀ v ∈ cur.toList.take (n * 2), v.oneCell' = true) (h1v : ∀ v ∈ nw.toList, v.oneCell' = true) :
    Calls Tryz.prog 130 #[.slice (some ⟨g, 0, none⟩) n c, .int .i64 i, .slice (some ⟨q, 0, none⟩) 1 1] w fun e w' =>
      e = .returned (.slice (some ⟨g, 0, none⟩) (n + 1) c) ∧ w.grownBy w' (some g) ∧ ∃ cur', w'.heap[g]? = some (.cells cur' 89 (0, 0)) ∧ cur'.size = c * 2 ∧ cur'.toList.take ((n + 1) * 2) = laidIn (cur.toList.take (n * 2)) nw.toList (i * 2) := by
  unfold maxLen at hc63
  have hsz : (Tryz.prog.info? 89).map (·.size) = some 2 := by kernel_rfl
  have hov : ∀ lb cb, (callFunc 143 #[.slice (some ⟨q, 0, none⟩) 1 1, .slice (some ⟨g, (i + 1) * 2, none⟩) lb cb]).run Tryz.prog w = .ok (.value (.bool false)) w := fun lb cb => by
    rw [run_callFunc_extern Tryz.func143 (by kernel_rfl) (by kernel_rfl) (by kernel_rfl) (e := Extern.SlicesOverlaps.overlaps #[80, 80] #[4]) (by kernel_rfl),
      Lib.run_overlaps_apart w 80 4 89 Tryz.underlying80 2 Tryz.sizeOf89 ⟨q, 0, none⟩ ⟨g, (i + 1) * 2, none⟩ 1 1 lb cb hqg _ _ _ _ (shape_of hq) (shape_of hg) (by omega) (by simp [World.frozen?, hq]) (by simp [World.frozen?, hq])]
    rfl
  have hcl : cur.toList.length = c * 2 := by simpa using hcs
  obtain ⟨cs, hcsd⟩ : ∃ cs, cs = (cur.toList.take (n * 2)).drop (i * 2) := ⟨_, rfl⟩
  have hcsl : cs.length = (n - i) * 2 := by rw [hcsd, List.length_drop, List.length_take, hcl]; omega
  obtain ⟨R1, hR1⟩ : ∃ R1 : Array Value, R1 = (cur.toList.take ((i + 1) * 2) ++ cs ++ cur.toList.drop ((i + 1) * 2 + cs.length)).toArray := ⟨_, rfl⟩
  obtain ⟨R2, hR2⟩ : ∃ R2 : Array Value, R2 = (R1.toList.take (i * 2) ++ nw.toList ++ R1.toList.drop (i * 2 + nw.toList.length)).toArray := ⟨_, rfl⟩
  have hnl' : nw.toList.length = 2 := by simpa using hnl
  have hR1s : R1.size = c * 2 := by rw [hR1]; simp [hcl, hcsl]; omega
  have hR1l : R1.toList.length = c * 2 := by simpa using hR1s
  have hR2s : R2.size = c * 2 := by rw [hR2, List.size_toArray, List.length_append, List.length_append, List.length_take, List.length_drop, hR1l, hnl']; omega
  have hcurc : ∀ j v, cur.toList[j]? = some v → w.cell? ⟨g, j, none⟩ = some v := fun j v h => by rw [cell_of_row w g j cur _ (0, 0) hg]; simpa using h
  have hcp1 : ∀ ty dc sc, (Builtin.copy_ #[80, 80] ty #[.slice (some ⟨g, (i + 1) * 2, none⟩) (n - i) dc, .slice (some ⟨g, i * 2, none⟩) (n + 1 - i) sc]).run Tryz.prog w.drew = .ok (goInt (n - i : Nat)) (w.drew.setRow g R1) := fun ty dc sc => by
    have h := run_copy_rowK w.drew 80 80 ty 89 2 g ((i + 1) * 2) (n + 1 - (i + 1)) dc ⟨g, i * 2, none⟩ (n + 1 - i) sc cur 89 cs Tryz.underlying80 hsz hg
      (by rw [hcsl]; congr 1; simp only [Nat.min_def]; split <;> omega)
      (fun j v hj => by
        rw [Addr.add_lit]
        show w.cell? _ = _
        refine hcurc _ v ?_
        rw [hcsd, List.getElem?_drop, List.getElem?_take] at hj
        split at hj
        · exact hj
        · cases hj)
      (by rw [hcs, hcsl]; omega) (fun v hv => h1c v (by rw [hcsd] at hv; exact List.mem_of_mem_drop hv))
    rw [← hR1, show Nat.min (n + 1 - i) (n + 1 - (i + 1)) = n - i by simp only [Nat.min_def]; split <;> omega, show n + 1 - (i + 1) = n - i by omega] at h
    exact h
  have hW1g : (w.drew.setRow g R1).heap[g]? = some (.cells R1 89 (0, 0)) := setRow_heap w.drew g cur _ _ (0, 0) hg
  have hW1q : (w.drew.setRow g R1).heap[q]? = some (.cells nw 89 (0, 0)) := (setRow_other w.drew g q _ hqg).trans hq
  have hcp2 : ∀ ty dc, (Builtin.copy_ #[80, 80] ty #[.slice (some ⟨g, i * 2, none⟩) (n + 1 - i) dc, .slice (some ⟨q, 0, none⟩) 1 1]).run Tryz.prog (w.drew.setRow g R1) = .ok (goInt (1 : Nat)) ((w.drew.setRow g R1).setRow g R2) := fun ty dc => by
    have h := run_copy_rowK (w.drew.setRow g R1) 80 80 ty 89 2 g (i * 2) (n + 1 - i) dc ⟨q, 0, none⟩ 1 1 R1 89 nw.toList Tryz.underlying80 hsz hW1g
      (by rw [hnl', show Nat.min 1 (n + 1 - i) = 1 by simp only [Nat.min_def]; split <;> omega])
      (fun j v hj => by
        rw [Addr.add_lit, Nat.zero_add, cell_of_row _ q j nw _ (0, 0) hW1q]
        simpa using hj)
      (by rw [hR1s, hnl']; omega) h1v
    rw [← hR2, show Nat.min 1 (n + 1 - i) = 1 by simp only [Nat.min_def]; split <;> omega] at h
    exact h
  have hend : R2.toList.take ((n + 1) * 2) = laidIn (cur.toList.take (n * 2)) nw.toList (i * 2) := by
    rw [hR2, hR1]
    exact laid_end cur.toList nw.toList hi (by omega) (by rw [hcl]; omega) hnl' hcsd hcsl
  obtain ⟨W2, hW2⟩ : ∃ W2, W2 = (w.drew.setRow g R1).setRow g R2 := ⟨_, rfl⟩
  rw [← hW2] at hcp2
  obtain ⟨W1, hW1⟩ : ∃ W1, W1 = w.drew.setRow g R1 := ⟨_, rfl⟩
  rw [← hW1] at hcp1 hcp2
  have HE : Hid (w.grownBy W2 (some g) ∧ ∃ cur', W2.heap[g]? = some (.cells cur' 89 (0, 0)) ∧ cur'.size = c * 2 ∧ cur'.toList.take ((n + 1) * 2) = laidIn (cur.toList.take (n * 2)) nw.toList (i * 2)) := by
    refine ⟨?_, R2, ?_, hR2s, hend⟩
    · rw [hW2]
      exact ⟨rfl, rfl, rfl, by simp, fun k hk hne => by
        have hkg : k ≠ g := fun e => hne (by rw [e])
        rw [setRow_other _ _ _ _ hkg, setRow_other _ _ _ _ hkg]
        rfl⟩
    · rw [hW2]
      exact setRow_heap _ g R1 R2 _ (0, 0) hW1g
  clear hend hW1g hW1q hcurc hR1l hR2s hR1s hR1 hR2 hcsd hcsl hcl hcs hg hq h1c h1v hnl hnl' hsz hW1 hW2
  have hw1 : IntKind.i64.wrap ((i : Int) + 1) = (i : Int) + 1 := IntWalk.i64_in _ (by omega)
  have hb1 : (0 : Int) ≤ (i : Int) + 1 := by omega
  have hin : i ≤ n := by omega
  have htn : ((i : Int) + 1).toNat = i + 1 := by omega
  have hb2 : ¬ (c = i + 1) := by omega
  have hb3 : (i : Int) ≤ (n : Int) + 1 := by omega
  have hb4 : ¬ (c = i) := by omega
  go_enter Tryz.func130, Tryz.ntmps130
  go_wp2_with (simp only [hov])
  go_region_law (refine step_copy_runI rfl _ _ 80 80 rfl _ _ (by simp [Act.eval, Act.put]) (by simp [Act.eval, Act.put]) (hcp1 _ _ _) ?_)
  go_wp2_with (at_builtin; refine wpList_copy_runI _ rfl _ _ 80 80 rfl _ _ rfl rfl (hcp2 _ _) ?_)
  go_ret
  exact ⟨rfl, HE.out⟩
set_option maxRecDepth 100000 in
set_option maxHeartbeats 4000000 in
theorem InsL_grow (g n c i q : Nat) (xs : List Value) (nw : Array Value) (w : World) (hi : i < n) (hnc : n ≤ c) (hroom : c < n + 1) (hbig : n ≤ 1048576) (hg : g < w.heap.size) (hx : ∀ j v, xs[j]? = some v → w.cell? ⟨g, j, none⟩ = some v) (hxl : xs.length = n * 2)
    (hnl : nw.size = 2) (hq : w.heap[q]? = some (.cells nw 89 (0, 0))) (h1c : ∀ v ∈ xs, v.oneCell' = true) (h1v : ∀ v ∈ nw.toList, v.oneCell' = true) :
    Calls Tryz.prog 130 #[.slice (some ⟨g, 0, none⟩) n c, .int .i64 i, .slice (some ⟨q, 0, none⟩) 1 1] w fun e w' =>
      ∃ cap, e = .returned (.slice (some ⟨w.heap.size, 0, none⟩) (n + 1) cap) ∧ Ext w w' ∧ n + 1 ≤ cap ∧ cap ≤ maxLen ∧ ∃ cur', w'.heap[w.heap.size]? = some (.cells cur' 89 (0, 0)) ∧ cur'.size = cap * 2 ∧ cur'.toList.take ((n + 1) * 2) = laidIn xs nw.toList (i * 2) := by
  have hsz : (Tryz.prog.info? 89).map (·.size) = some 2 := by kernel_rfl
  obtain ⟨i0, hi0, hz0, hzs, hzb⟩ := info_parts info_level
  have hql : q < w.heap.size := (Array.getElem?_eq_some_iff.1 hq).1
  have hnl' : nw.toList.length = 2 := by simpa using hnl
  have hkk : (n : Int) + 1 - (i : Int) = ((n + 1 - i : Nat) : Int) := by omega
  have hik : i + (n + 1 - i) = n + 1 := by omega
  have hold : (Builtin.firstCells i0.size i (.slice (some ⟨g, 0, none⟩) i c)).run Tryz.prog w.drew = .ok (xs.take (i * 2)).toArray w.drew := by
    rw [hzs]
    exact run_firstCells_some w.drew 2 i ⟨g, 0, none⟩ i c (xs.take (i * 2)) (by rw [List.length_take, hxl]; omega) (fun j v hj => by
      rw [Addr.add_lit, Nat.zero_add]
      rw [List.getElem?_take] at hj
      split at hj
      · exact hx j v hj
      · cases hj)
  obtain ⟨ROW, hROW⟩ : ∃ ROW : Array Value, ROW = (xs.take (i * 2)).toArray ++ Builtin.zeroCells (Value.agg #[.string ⟨#[]⟩, .pointer none]).cells (n + 1 - i) ++ Builtin.zeroCells (Value.agg #[.string ⟨#[]⟩, .pointer none]).cells (grownCap w (n + 1) c 89 - (n + 1)) := ⟨_, rfl⟩
  have hGn : n + 1 ≤ grownCap w (n + 1) c 89 := grownCap_ge w _ _ _
  have hG63 : grownCap w (n + 1) c 89 ≤ maxLen := grownCap_le_maxLen w (n + 1) c _ (by unfold maxLen; omega)
  have hRs : ROW.size = grownCap w (n + 1) c 89 * 2 := by
    rw [hROW]
    simp only [Array.size_append, List.size_toArray, List.length_take, hxl, zsize]
    rw [Nat.min_eq_left (by omega)]
    show i * 2 + 2 * (n + 1 - i) + 2 * _ = _
    omega
  have hRt : ROW.toList.take (i * 2) = xs.take (i * 2) := by
    rw [hROW]
    simp only [Array.toList_append, List.append_assoc]
    exact List.take_left' (by rw [List.length_take, hxl]; omega)
  have hrz : ∀ ty, (Builtin.append_ #[80, 3] ty #[.slice (some ⟨g, 0, none⟩) i c, .int .i64 ((n : Int) + 1 - (i : Int))]).run Tryz.prog w =
      .ok (.slice (some ⟨w.heap.size, 0, none⟩) (n + 1) (grownCap w (n + 1) c 89)) (w.drew.alloc (.cells ROW 89)) := fun ty => by
    have h := Lib.run_append_grow_zeros w 80 3 ty 89 i0 _ .i64 .i64 Tryz.underlying80 Tryz.underlying3 hi0 hz0 (some ⟨g, 0, none⟩) i c (xs.take (i * 2)) hold (n + 1 - i) (by omega) (by omega) (by omega) (by omega) (by rw [hzb]; omega) (by rw [hzb, hik]; exact growslice_fits hroom (by omega))
    rw [hik] at h
    rw [hkk, hROW]
    exact h
  obtain ⟨G, hG⟩ : ∃ G, G = grownCap w (n + 1) c 89 := ⟨_, rfl⟩
  rw [← hG] at hrz hGn hG63 hRs
  clear hROW hold hik hG
  have hRl : ROW.toList.length = G * 2 := by simpa using hRs
  obtain ⟨cs, hcsd⟩ : ∃ cs, cs = xs.drop (i * 2) := ⟨_, rfl⟩
  have hcsl : cs.length = (n - i) * 2 := by rw [hcsd, List.length_drop, hxl]; omega
  obtain ⟨R1, hR1⟩ : ∃ R1 : Array Value, R1 = (ROW.toList.take (i * 2) ++ nw.toList ++ ROW.toList.drop (i * 2 + nw.toList.length)).toArray := ⟨_, rfl⟩
  obtain ⟨R2, hR2⟩ : ∃ R2 : Array Value, R2 = (R1.toList.take ((i + 1) * 2) ++ cs ++ R1.toList.drop ((i + 1) * 2 + cs.length)).toArray := ⟨_, rfl⟩
  have hR1s : R1.size = G * 2 := by rw [hR1, List.size_toArray, List.length_append, List.length_append, List.length_take, List.length_drop, hRl, hnl']; omega
  have hR1l : R1.toList.length = G * 2 := by simpa using hR1s
  have hR2s : R2.size = G * 2 := by rw [hR2, List.size_toArray, List.length_append, List.length_append, List.length_take, List.length_drop, hR1l, hcsl]; omega
  have hend : R2.toList.take ((n + 1) * 2) = laidIn xs nw.toList (i * 2) := by
    rw [hR2, hR1]
    exact laid_end2 ROW.toList xs nw.toList hi (by omega) (by rw [hRl]; omega) hnl' hxl hRt hcsd hcsl
  have hX : (w.drew.alloc (.cells ROW 89)).heap[w.heap.size]? = some (.cells ROW 89 (0, 0)) := heap_alloc_new w.drew _
  have hXo : ∀ k, k < w.heap.size → (w.drew.alloc (.cells ROW 89)).heap[k]? = w.heap[k]? := fun k hk => Below.heap_alloc w.drew _ k hk
  obtain ⟨X, hXd⟩ : ∃ X, X = w.drew.alloc (.cells ROW 89) := ⟨_, rfl⟩
  rw [← hXd] at hX hXo
  have hcpA : ∀ (W : World), W.heap = X.heap → ∀ ty dc, (Builtin.copy_ #[80, 80] ty #[.slice (some ⟨w.heap.size, i * 2, none⟩) (n + 1 - i) dc, .slice (some ⟨q, 0, none⟩) 1 1]).run Tryz.prog W = .ok (goInt (1 : Nat)) (W.setRow w.heap.size R1) := fun W hW ty dc => by
    have h := run_copy_rowK W 80 80 ty 89 2 w.heap.size (i * 2) (n + 1 - i) dc ⟨q, 0, none⟩ 1 1 ROW 89 nw.toList Tryz.underlying80 hsz (by rw [hW]; exact hX)
      (by rw [hnl', show Nat.min 1 (n + 1 - i) = 1 by simp only [Nat.min_def]; split <;> omega])
      (fun j v hj => by
        rw [Addr.add_lit, Nat.zero_add, cell_of_row _ q j nw _ (0, 0) (by rw [hW]; exact (hXo q hql).trans hq)]
        simpa using hj)
      (by rw [hRs, hnl']; omega) h1v
    rw [← hR1, show Nat.min 1 (n + 1 - i) = 1 by simp only [Nat.min_def]; split <;> omega] at h
    exact h
  have hY : (X.setRow w.heap.size R1).heap[w.heap.size]? = some (.cells R1 89 (0, 0)) := setRow_heap X w.heap.size ROW R1 _ (0, 0) hX
  have hYo : ∀ k, k < w.heap.size → (X.setRow w.heap.size R1).heap[k]? = w.heap[k]? := fun k hk => (setRow_other X w.heap.size k _ (by omega)).trans (hXo k hk)
  have hcpB : ∀ (W : World), W.heap = (X.setRow w.heap.size R1).heap → ∀ ty dc sc, (Builtin.copy_ #[80, 80] ty #[.slice (some ⟨w.heap.size, (i + 1) * 2, none⟩) (n - i) dc, .slice (some ⟨g, i * 2, none⟩) (n - i) sc]).run Tryz.prog W = .ok (goInt (n - i : Nat)) (W.setRow w.heap.size R2) := fun W hW ty dc sc => by
    have h := run_copy_rowK W 80 80 ty 89 2 w.heap.size ((i + 1) * 2) (n - i) dc ⟨g, i * 2, none⟩ (n - i) sc R1 89 cs Tryz.underlying80 hsz (by rw [hW]; exact hY)
      (by rw [hcsl]; congr 1; simp only [Nat.min_def]; split <;> omega)
      (fun j v hj => by
        rw [Addr.add_lit, World.cell?_of_block (w := w) (by rw [hW]; exact hYo g hg)]
        refine hx _ v ?_
        rw [hcsd, List.getElem?_drop] at hj
        exact hj)
      (by rw [hR1s, hcsl]; omega) (fun v hv => h1c v (by rw [hcsd] at hv; exact List.mem_of_mem_drop hv))
    rw [← hR2, show Nat.min (n - i) (n - i) = n - i by simp only [Nat.min_def]; split <;> omega] at h
    exact h
  have HF : ∀ W : World, W.heap = (X.setRow w.heap.size R1).heap → W.os = w.os → W.tape = w.tape → W.output = w.output → Ext w (W.setRow w.heap.size R2) ∧ (W.setRow w.heap.size R2).heap[w.heap.size]? = some (.cells R2 89 (0, 0)) := fun W hW h1 h2 h3 =>
    ⟨⟨h1, h2, h3, by rw [size_setRow, hW, size_setRow, hXd]; simp, fun k hk => by rw [setRow_other _ _ _ _ (by omega), hW]; exact hYo k hk⟩, setRow_heap W w.heap.size R1 R2 _ (0, 0) (by rw [hW]; exact hY)⟩
  have hEnd : Hid (∀ W : World, Ext w W ∧ W.heap[w.heap.size]? = some (.cells R2 89 (0, 0)) → ∃ cap, Ending.returned (.slice (some ⟨w.heap.size, 0, none⟩) (n + 1) G) = Ending.returned (.slice (some ⟨w.heap.size, 0, none⟩) (n + 1) cap) ∧ Ext w W ∧ n + 1 ≤ cap ∧ cap ≤ maxLen ∧ ∃ cur', W.heap[w.heap.size]? = some (.cells cur' 89 (0, 0)) ∧ cur'.size = cap * 2 ∧ cur'.toList.take ((n + 1) * 2) = laidIn xs nw.toList (i * 2)) := Lib.hid fun W h => ⟨G, rfl, h.1, hGn, hG63, R2, h.2, hR2s, hend⟩
  have HHF := Lib.hid HF
  subst hXd
  clear HF hend hX hXo hY hYo hR1l hR2s hR1s hR1 hR2 hcsd hcsl hRl hRs hRt hnl hnl' h1c h1v hx hq
  have hw1 : IntKind.i64.wrap ((i : Int) + 1) = (i : Int) + 1 := IntWalk.i64_in _ (by omega)
  have hb1 : (0 : Int) ≤ (i : Int) + 1 := by omega
  have hin : i ≤ n := by omega
  have htn : ((i : Int) + 1).toNat = i + 1 := by omega
  have hb3 : (i : Int) ≤ (n : Int) := by omega
  unfold maxLen at hG63
  have hGi : ¬ (G = i) := by omega
  have hGim : ¬ (G = i + 1) := by omega
  have hci : ¬ (c = i) := by omega
  have hz3 : (c : Int) < (n : Int) + 1 := by omega
  clear hkk
  have hE1 : ((w.alloc (.cells ROW 89)).drew).heap = (w.drew.alloc (.cells ROW 89)).heap := rfl
  have hF1 : (((w.alloc (.cells ROW 89)).drew.setRow w.heap.size R1).drew).heap = ((w.drew.alloc (.cells ROW 89)).setRow w.heap.size R1).heap := rfl
  go_enter Tryz.func130, Tryz.ntmps130
  go_wp2_with (first
    | (at_builtin; refine Lib.wpList_append_run _ rfl _ _ _ _ rfl _ _ rfl rfl _ _ (hrz _) ?_)
    | (at_builtin; refine wpList_copy_runI _ rfl _ _ 80 80 rfl _ _ rfl rfl (hcpA _ hE1 _ _) ?_))
  go_region_law (refine step_copy_runI rfl _ _ 80 80 rfl (.slice (some ⟨w.heap.size, (i + 1) * 2, none⟩) (n - i) (G - (i + 1))) (.slice (some ⟨g, i * 2, none⟩) (n - i) (c - i)) (by simp [Act.eval, Act.put]) (by simp [Act.eval, Act.put]) (hcpB _ hF1 3 (G - (i + 1)) (c - i)) ?_)
  go_wp2_with fail
  go_ret
  exact hEnd.out _ (HHF.out _ rfl rfl rfl rfl)

set_option maxRecDepth 100000 in
set_option maxHeartbeats 2000000 in
theorem InsL_end (base n q : Nat) (v : Value) (xs : List Value) (nw : Array Value) (w : World) (hn : n + 1 ≤ 1048576) (hb : base ≤ w.heap.size) (hown : w.ownsRow base 89 2 v n xs)
    (hnl : nw.size = 2) (hq : w.heap[q]? = some (.cells nw 89 (0, 0))) (h1v : ∀ u ∈ nw.toList, u.oneCell' = true) :
    Calls Tryz.prog 130 #[v, .int .i64 n, .slice (some ⟨q, 0, none⟩) 1 1] w fun e w' =>
      ∃ g cap, e = .returned (.slice (some ⟨g, 0, none⟩) (n + 1) cap) ∧ w'.ownsRow base 89 2 (.slice (some ⟨g, 0, none⟩) (n + 1) cap) (n + 1) (xs ++ nw.toList) ∧ w.grownBy w' v.ownBlock ∧ (v.ownBlock = some g ∨ g = w.heap.size) := by
  obtain ⟨i0, hi0, hz0, hzs, hzb⟩ := info_parts info_level
  have hq0 : ∀ (j : Nat) u, nw.toList[j]? = some u → w.cell? ((⟨q, 0, none⟩ : Addr).add j) = some u := fun j u hj => by
    rw [Addr.add_lit, Nat.zero_add, cell_of_row _ q j nw _ (0, 0) hq]
    simpa using hj
  have hnl' : nw.toList.length = 1 * 2 := by simpa using hnl
  obtain ⟨A, c, rfl, hc, hr, hnil⟩ := own_rd hown
  have hl := hr.2.1
  have hA : A = none → n = 0 := fun h => by
    rcases Nat.eq_zero_or_pos n with h0 | h0
    · exact h0
    · obtain ⟨ad, h2, _⟩ := hr.2.2 h0
      rw [h] at h2; cases h2
  have HN := Lib.hid hnil
  clear hnil hr
  unfold maxLen at hc
  have HQ := Lib.hid hq0
  have HL := Lib.hid hnl'
  have H1 := Lib.hid h1v
  clear hq hnl hnl' h1v hq0
  go_enter Tryz.func130, Tryz.ntmps130
  cases A with
  | none =>
    obtain rfl := hA rfl
    go_wp2_with (at_builtin; refine wpl_apps (by rfl) _ _ _ (by rfl) base 89 i0 _ 2 24 Tryz.underlying80 hi0 hz0 hzs hzb rfl (by omega) _ _ _ (by rfl) hown ⟨q, 0, none⟩ 1 1 nw.toList (by rfl) HL.out HQ.out H1.out (by omega) (by omega) (by omega) hb ?_; intro g cap w6 own6 hg6 hH6 hlt6)
    go_ret
    exact ⟨g, cap, rfl, own6, hg6, hH6⟩
  | some a =>
    obtain ⟨ab, ao, asp⟩ := a
    go_wp2_with (at_builtin; refine wpl_apps (by rfl) _ _ _ (by rfl) base 89 i0 _ 2 24 Tryz.underlying80 hi0 hz0 hzs hzb rfl (by omega) _ _ _ (by rfl) hown ⟨q, 0, none⟩ 1 1 nw.toList (by rfl) HL.out HQ.out H1.out (by omega) (by omega) (by omega) hb ?_; intro g cap w6 own6 hg6 hH6 hlt6)
    all_goals
      go_ret
      exact ⟨g, cap, rfl, own6, hg6, hH6⟩

theorem InsLert_own (base n i q : Nat) (v : Value) (xs : List Value) (nw : Array Value) (w : World) (hi : i ≤ n) (hn : n + 1 ≤ 1048576) (hb : base ≤ w.heap.size) (hown : w.ownsRow base 89 2 v n xs)
    (hnl : nw.size = 2) (hq : w.heap[q]? = some (.cells nw 89 (0, 0))) (hqv : v.ownBlock ≠ some q) (h1c : ∀ u ∈ xs, u.oneCell' = true) (h1v : ∀ u ∈ nw.toList, u.oneCell' = true) :
    Calls Tryz.prog 130 #[v, .int .i64 i, .slice (some ⟨q, 0, none⟩) 1 1] w fun e w' =>
      ∃ g cap, e = .returned (.slice (some ⟨g, 0, none⟩) (n + 1) cap) ∧ w'.ownsRow base 89 2 (.slice (some ⟨g, 0, none⟩) (n + 1) cap) (n + 1) (laidIn xs nw.toList (i * 2)) ∧ w.grownBy w' v.ownBlock ∧ (v.ownBlock = some g ∨ w.heap.size ≤ g) := by
  have hxl := own_len hown
  have hnl' : nw.toList.length = 2 := by simpa using hnl
  have hll : (laidIn xs nw.toList (i * 2)).length = (n + 1) * 2 := by
    unfold laidIn laidIn'
    simp only [List.length_append, List.length_take, List.length_drop]
    omega
  by_cases hin : i = n
  · subst hin
    refine (InsL_end base i q v xs nw w hn hb hown hnl hq h1v).mono ?_
    rintro e w' ⟨g, cap, he, ho, hg, hH⟩
    have e2 : laidIn xs nw.toList (i * 2) = xs ++ nw.toList := by
      unfold laidIn laidIn'
      rw [List.take_of_length_le (by omega), List.drop_of_length_le (by omega), List.append_nil]
    exact ⟨g, cap, he, by rw [e2]; exact ho, hg, hH.imp id (fun h => by omega)⟩
  · rcases hown.2 with ⟨rfl, rfl⟩ | ⟨g, cap, cur, rfl, hbg, hg, hnc, hcm, hcs, hcur⟩
    · omega
    · have hgl : g < w.heap.size := (Array.getElem?_eq_some_iff.1 hg).1
      by_cases hroom : n + 1 ≤ cap
      · refine (InsL_shift g n cap i q cur nw w (by omega) hroom hcm hg hcs hnl hq (fun e => hqv (by rw [e]; rfl)) (by rw [hcur]; exact h1c) h1v).mono ?_
        rintro e w' ⟨he, hgb, cur', h1, h2, h3⟩
        rw [hcur] at h3
        exact ⟨g, cap, he, ⟨hll, .inr ⟨g, cap, cur', rfl, hbg, h1, hroom, hcm, h2, h3⟩⟩, hgb, .inl rfl⟩
      · refine (InsL_grow g n cap i q xs nw w (by omega) hnc (by omega) (by omega) hgl (fun j u hj => by
          rw [cell_of_row w g j cur _ (0, 0) hg]
          rw [← hcur, List.getElem?_take] at hj
          split at hj
          · simpa using hj
          · cases hj) hxl hnl hq h1c h1v).mono ?_
        rintro e w' ⟨cap', he, hE, hc1, hc2, cur', h1, h2, h3⟩
        exact ⟨w.heap.size, cap', he, ⟨hll, .inr ⟨w.heap.size, cap', cur', rfl, hb, h1, hc1, hc2, h2, h3⟩⟩, hE.gb _, .inr (Nat.le_refl _)⟩
end Go.Proofs.YtcgfdhgceokcnaaGreatDoor
