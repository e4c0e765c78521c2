/- table.Open, Get and All. -/
import Derived.Test.YtcgfdhgceokcnaaDoorJWalWhole15
import Derived.Test.YtcgfdhgceokcnaaDoorJWalWhole13
import Derived.Test.YtcgfdhgceokcnaaDoorJWalWhole11
namespace Go.Proofs.YtcgfdhgceokcnaaDoor
open Go.RowKit Go.WideShapes
set_option linter.unusedVariables false
attribute [local go_sem ↓] Go.wp_at_zero Go.wp_at_succ

/-- a table in memory -/
structure TbAt (w : World) (B tb : Nat) (v : Value) (es : List Pr) : Prop where
  bk : Bk w tb 80 #[v]
  own : w.ownsRow B 30 3 v es.length (es.flatMap Pr.cells)
  asc : Asc es
  ok : ∀ p ∈ es, PrOk p
  len : es.length ≤ 200000000
theorem TbAt.ext {w w' : World} {B tb : Nat} {v : Value} {es : List Pr} (h : TbAt w B tb v es) (k : Ext w w') : TbAt w' B tb v es := ⟨h.bk.ext k, own_ext h.own k, h.asc, h.ok, h.len⟩

set_option maxRecDepth 100000 in
set_option maxHeartbeats 2000000 in
theorem Open_any (b : ByteArray) (w : World) (hb : b.size ≤ 500000000) :
    Calls Tryd.prog 64 #[.string b] w fun e w' => ((∃ es tb v, opn es b ∧ e = .returned (.tuple #[.pointer (some ⟨tb, 0, none⟩), .nilIface]) ∧ TbAt w' w.heap.size tb v es ∧ w.heap.size ≤ tb) ∨ ((∀ es, ¬ opn es b) ∧ e = .returned (.tuple #[.pointer none, errR 2]))) ∧ Ext w w' := by
  obtain ⟨hE, hN, hG⟩ := errR_rules
  by_cases h8 : b.size < 8
  · have hno : Hid (∀ es, ¬ opn es b) := Lib.hid fun es h => by have := (opn_cut h).1; omega
    have h8i : (b.size : Int) < 8 := by omega
    go_enter Tryd.func64, Tryd.ntmps64
    go_wp2_with fail
    go_ret2
    exact ⟨.inr ⟨hno.out, rfl⟩, Ext.refl _⟩
  · have h8i : ¬ (b.size : Int) < 8 := by omega
    have w1 : IntKind.i64.wrap ((b.size : Int) - 8) = (b.size : Int) - 8 := IntWalk.i64_in _ (by omega)
    have t1 : ((b.size : Int) - 8).toNat = b.size - 8 := by omega
    have i1 : (0 : Int) ≤ (b.size : Int) - 8 := by omega
    have i2 : (b.size : Int) - 8 ≤ (b.size : Int) := by omega
    have H0 : Hid ((cutB b).data.toList = bodyB [] ++ (b.extract 0 (b.size - 8)).data.toList) := by
      show _ = _
      simp [bodyB, cutB]
    have H1 : Hid (Ok256 []) := fun p hp => by simp at hp
    have HO : Hid (w.ownsRow w.heap.size 30 3 (.slice none 0 0) ([] : List Pr).length (([] : List Pr).flatMap Pr.cells)) := own_nil _ _ _ _
    obtain ⟨i0, hi0, hz0, hzs, hzb⟩ := info_parts info_pair
    have HB := Lib.hid hb
    go_enter Tryd.func64, Tryd.ntmps64
    go_wp2_with fail
    go_loopw [4, 5, 6, 7, 8] (fun x y _ _ _ wr => ∃ (es : List Pr) (rest : ByteArray), y = .string rest ∧ Ext w wr ∧ Hid (wr.ownsRow w.heap.size 30 3 x es.length (es.flatMap Pr.cells)) ∧ Hid ((cutB b).data.toList = bodyB es ++ rest.data.toList) ∧ Hid (Ok256 es)) (fun _ y _ _ _ _ => match y with | .string s => s.size | _ => 0)
    case atStart => exact ⟨[], _, rfl, Ext.refl _, HO, H0, H1⟩
    case round =>
      obtain ⟨es, rest, rfl, hbw, hown, hcut, h256⟩ := hrel
      have hcnt := open_count hcut.out
      by_cases hz : rest.size = 0
      · have HLAST : Hid (¬ opn es b → ∀ es0, ¬ opn es0 b) := Lib.hid fun h => open_last h256.out hcut.out hz h
        obtain rfl := str_noneP hz
        obtain ⟨A, c, rfl, hc, hr, hnil⟩ := own_rd hown.out
        clear hnil hz
        go_wp2_with fail
        refine (Build_any A es.length c es _ hr hc (by omega)).mono ?_
        obtain ⟨k, HK⟩ : ∃ x, Hid (tblK es = x) := ⟨_, rfl⟩
        obtain ⟨tr, HTR⟩ : ∃ x, Hid (tabR es = x) := ⟨_, rfl⟩
        rw [HK.out, HTR.out]
        rintro _ w2 ⟨rfl, hb2⟩
        have e2 := hbw.trans hb2
        have o2 := Lib.hid (own_ext hown.out hb2)
        clear hr
        by_cases hk : k = 0
        · subst hk
          have htr : tr = tabB es := by rw [← HTR.out]; exact if_pos HK.out
          by_cases hs : tr = b
          · have hop : Hid (opn es b) := ⟨HK.out, htr.symm.trans hs⟩
            rw [errR_0]
            subst hs
            have hsz : es.length ≤ 200000000 := by omega
            have B3 := Bk.at_ w2 80 #[.slice A es.length c] w2.heap.size rfl
            have e3 : Ext w2 (w2.alloc (.cells #[.slice A es.length c] 80)) := (Ext.refl _).alloc _
            clear htr
            go_wp2_with fail
            go_ret2
            exact ⟨.inl ⟨es, w2.heap.size, _, hop.out, rfl, ⟨B3, own_ext o2.out e3, (tblK_zero.1 HK.out).1, (tblK_zero.1 HK.out).2, hsz⟩, e2.size⟩, e2.trans e3⟩
          · have hno := Lib.hid (HLAST.out fun h => hs (htr.trans h.2))
            have hbe := (Lib.bytes_beq_false_iff tr b).2 hs
            rw [errR_0]
            clear hs htr
            go_wp2_with fail
            go_ret2
            exact ⟨.inr ⟨hno.out, rfl⟩, e2⟩
        · have hno := Lib.hid (HLAST.out fun h => hk (HK.out.symm.trans h.1))
          have hok := isOk_no hk
          clear hk
          go_wp2_with fail
          go_ret2
          exact ⟨.inr ⟨hno.out, rfl⟩, e2⟩
      · have hp : 0 < rest.size := Nat.pos_of_ne_zero hz
        obtain ⟨q1, q2⟩ := str_someP hp
        have hcl := hcnt.1
        clear hz
        go_wp2_with fail
        refine (First_any rest _ (by omega)).mono ?_
        rintro e w2 ⟨hf | hf, hb2⟩
        · obtain ⟨p, left, hf, rfl⟩ := hf
          obtain ⟨s1, s2, s3⟩ := open_step h256.out hcut.out hf
          have S1 := Lib.hid s1
          have S2 := Lib.hid s2
          have S3 := Lib.hid s3
          have e2 := hbw.trans hb2
          obtain ⟨pk, pv, pg⟩ := p
          have hcl2 := (open_count s2).1
          rw [List.length_append] at hcl2
          have hcl3 : 3 * (es.length + 1) ≤ b.size := hcl2
          have hnl : ((es ++ [(⟨pk, pv, pg⟩ : Pr)]).flatMap Pr.cells) = es.flatMap Pr.cells ++ [.string pk, .string pv, .bool pg] := by
            rw [List.flatMap_append]; rfl
          have HNL := Lib.hid hnl
          clear s1 s2 s3 hf hcl2 hnl hcl hcnt
          have P3 := Bk.at_ w2 30 #[.string pk, .string pv, .bool pg] w2.heap.size rfl
          have e3 : Ext w (w2.alloc (.cells #[.string pk, .string pv, .bool pg] 30)) := e2.alloc _
          have o3 := World.ownsRow.alloc (own_ext hown.out hb2) (.cells #[.string pk, .string pv, .bool pg] 30)
          go_upto_region 9 with (fail)
          generalize w2.alloc (.cells #[.string pk, .string pv, .bool pg] 30) = W3 at *
          generalize w2.heap.size = g at *
          have y0 : W3.cell? ⟨g, 0, none⟩ = some (.string pk) := P3.cell 0
          have y1 : W3.cell? ⟨g, 1, none⟩ = some (.string pv) := P3.cell 1
          have y2 : W3.cell? ⟨g, 2, none⟩ = some (.bool pg) := P3.cell 2
          have e4 : Ext w (W3.alloc (.cells #[.string pk, .string pv, .bool pg] 30)) := e3.alloc _
          have O4 := Lib.hid (World.ownsRow.alloc o3 (.cells #[.string pk, .string pv, .bool pg] 30))
          have hb4 := e4.size
          clear o3 P3 e2 hbw
          go_wp2_with (at_builtin; go_loud (refine wpList_append_own _ rfl _ _ 27 rfl w.heap.size 30 i0 _ 3 40 Tryd.underlying27 hi0 hz0 hzs hzb rfl (by omega) u4 es.length _ rfl O4.out ⟨W3.heap.size, 0, none⟩ 1 1 [.string pk, .string pv, .bool pg] (by rfl) rfl (news_new W3 _ _ _ rfl) (by intro u hu; simp at hu; rcases hu with rfl | rfl | rfl <;> rfl) (by unfold maxLen; omega) (by omega) hb4 ?_); intro v5 w5 own5 hg5 hH5; clear hH5; have e5 := own_grown O4.out hg5 w (Nat.le_refl _) e4)
          go_roundw
          case rel => exact ⟨_, left, rfl, e5, by
            show World.ownsRow _ _ _ _ _ _ _
            rw [HNL.out, List.length_append]
            exact own5, S2, S1⟩
          case measure => exact S3.out
        · obtain ⟨hf, rfl⟩ := hf
          have hno := Lib.hid (open_stuck h256.out hcut.out hp hf)
          clear hf
          go_wp2_with fail
          go_ret2
          exact ⟨.inr ⟨hno.out, rfl⟩, by (repeat (with_reducible first | exact Ext.refl _ | assumption | refine Ext.drew ?_ | refine Ext.drewN ?_ _ | refine Ext.alloc ?_ _ | refine Ext.trans ?_ (by with_reducible assumption)))⟩

theorem TAll_any (B tb : Nat) (v : Value) (es : List Pr) (w : World) (h : TbAt w B tb v es) :
    Calls Tryd.prog 29 #[.pointer (some ⟨tb, 0, none⟩)] w fun e w' => (∃ v', e = .returned v' ∧ w'.ownsRow w.heap.size 30 3 v' es.length (es.flatMap Pr.cells)) ∧ Ext w w' := by
  obtain ⟨A, c, rfl, hc, hr, hnil⟩ := own_rd h.own
  have s0 : w.cell? ⟨tb, 0, none⟩ = some (.slice A es.length c) := h.bk.cell 0
  have HC := Lib.hid (CloneP_any A es.length c (es.flatMap Pr.cells) w hr h.len hc (cells_one es))
  clear h hnil hr
  go_enter Tryd.func29, Tryd.ntmps29
  go_wp2_with fail
  refine HC.out.mono ?_
  rintro _ w1 ⟨⟨v', rfl, ho⟩, hb⟩
  have HO := Lib.hid ho
  clear ho
  go_wp2_with fail
  go_ret
  exact ⟨⟨v', rfl, HO.out⟩, hb⟩

def tgK (es : List Pr) (key : ByteArray) : Int := if hasB es key = true then 0 else 5
end Go.Proofs.YtcgfdhgceokcnaaDoor

/- slices.Insert of one level into a row that is owned (XInsert's text at two cells). -/
namespace Go.Proofs.YtcgfdhgceokcnaaDoor
open Go.RowKit
set_option linter.unusedVariables false
attribute [local go_sem ↓] Go.wp_at_zero Go.wp_at_succ

theorem info_level : (Tryd.prog.info? 68).map (fun i => (i.zero, i.size, i.bytes)) = some (some (.agg #[.string ⟨#[]⟩, .pointer none]), 2, 24) := by kernel_rfl

set_option maxRecDepth 100000 in
set_option maxHeartbeats 2000000 in
theorem InsL_shift (g n c i q : Nat) (cur nw : Array Value) (w : World) (hi : i < n) (hroom : n + 1 ≤ c) (hc63 : c ≤ maxLen) (hg : w.heap[g]? = some (.cells cur 68 (0, 0))) (hcs : cur.size = c * 2)
    (hnl : nw.size = 2) (hq : w.heap[q]? = some (.cells nw 68 (0, 0))) (hqg : q ≠ g) (h1c : ∀ v ∈ cur.toList.take (n * 2), v.oneCell' = true) (h1v : ∀ v ∈ nw.toList, v.oneCell' = true) :
    Calls Tryd.prog 58 #[.slice (some ⟨g, 0, none⟩) n c, .int .i64 i, .slice (some ⟨q, 0, none⟩) 1 1] w fun e w' =>
      e = .returned (.slice (some ⟨g, 0, none⟩) (n + 1) c) ∧ w.grownBy w' (some g) ∧ ∃ cur', w'.heap[g]? = some (.cells cur' 68 (0, 0)) ∧ cur'.size = c * 2 ∧ cur'.toList.take ((n + 1) * 2) = laidIn (cur.toList.take (n * 2)) nw.toList (i * 2) := by
  unfold maxLen at hc63
  have hsz : (Tryd.prog.info? 68).map (·.size) = some 2 := by kernel_rfl
  have hov : ∀ lb cb, (callFunc 65 #[.slice (some ⟨q, 0, none⟩) 1 1, .slice (some ⟨g, (i + 1) * 2, none⟩) lb cb]).run Tryd.prog w = .ok (.value (.bool false)) w := fun lb cb => by
    rw [run_callFunc_extern Tryd.func65 (by kernel_rfl) (by kernel_rfl) (by kernel_rfl) (e := Extern.SlicesOverlaps.overlaps #[49, 49] #[4]) (by kernel_rfl),
      Lib.run_overlaps_apart w 49 4 68 Tryd.underlying49 2 Tryd.sizeOf68 ⟨q, 0, none⟩ ⟨g, (i + 1) * 2, none⟩ 1 1 lb cb hqg _ _ _ _ (shape_of hq) (shape_of hg) (by omega) (by simp [World.frozen?, hq]) (by simp [World.frozen?, hq])]
    rfl
  have hcl : cur.toList.length = c * 2 := by simpa using hcs
  obtain ⟨cs, hcsd⟩ : ∃ cs, cs = (cur.toList.take (n * 2)).drop (i * 2) := ⟨_, rfl⟩
  have hcsl : cs.length = (n - i) * 2 := by rw [hcsd, List.length_drop, List.length_take, hcl]; omega
  obtain ⟨R1, hR1⟩ : ∃ R1 : Array Value, R1 = (cur.toList.take ((i + 1) * 2) ++ cs ++ cur.toList.drop ((i + 1) * 2 + cs.length)).toArray := ⟨_, rfl⟩
  obtain ⟨R2, hR2⟩ : ∃ R2 : Array Value, R2 = (R1.toList.take (i * 2) ++ nw.toList ++ R1.toList.drop (i * 2 + nw.toList.length)).toArray := ⟨_, rfl⟩
  have hnl' : nw.toList.length = 2 := by simpa using hnl
  have hR1s : R1.size = c * 2 := by rw [hR1]; simp [hcl, hcsl]; omega
  have hR1l : R1.toList.length = c * 2 := by simpa using hR1s
  have hR2s : R2.size = c * 2 := by rw [hR2, List.size_toArray, List.length_append, List.length_append, List.length_take, List.length_drop, hR1l, hnl']; omega
  have hcurc : ∀ j v, cur.toList[j]? = some v → w.cell? ⟨g, j, none⟩ = some v := fun j v h => by rw [cell_of_row w g j cur _ (0, 0) hg]; simpa using h
  have hcp1 : ∀ ty dc sc, (Builtin.copy_ #[49, 49] ty #[.slice (some ⟨g, (i + 1) * 2, none⟩) (n - i) dc, .slice (some ⟨g, i * 2, none⟩) (n + 1 - i) sc]).run Tryd.prog w.drew = .ok (goInt (n - i : Nat)) (w.drew.setRow g R1) := fun ty dc sc => by
    have h := run_copy_rowK w.drew 49 49 ty 68 2 g ((i + 1) * 2) (n + 1 - (i + 1)) dc ⟨g, i * 2, none⟩ (n + 1 - i) sc cur 68 cs Tryd.underlying49 hsz hg
      (by rw [hcsl]; congr 1; simp only [Nat.min_def]; split <;> omega)
      (fun j v hj => by
        rw [Addr.add_lit]
        show w.cell? _ = _
        refine hcurc _ v ?_
        rw [hcsd, List.getElem?_drop, List.getElem?_take] at hj
        split at hj
        · exact hj
        · cases hj)
      (by rw [hcs, hcsl]; omega) (fun v hv => h1c v (by rw [hcsd] at hv; exact List.mem_of_mem_drop hv))
    rw [← hR1, show Nat.min (n + 1 - i) (n + 1 - (i + 1)) = n - i by simp only [Nat.min_def]; split <;> omega, show n + 1 - (i + 1) = n - i by omega] at h
    exact h
  have hW1g : (w.drew.setRow g R1).heap[g]? = some (.cells R1 68 (0, 0)) := setRow_heap w.drew g cur _ _ (0, 0) hg
  have hW1q : (w.drew.setRow g R1).heap[q]? = some (.cells nw 68 (0, 0)) := (setRow_other w.drew g q _ hqg).trans hq
  have hcp2 : ∀ ty dc, (Builtin.copy_ #[49, 49] ty #[.slice (some ⟨g, i * 2, none⟩) (n + 1 - i) dc, .slice (some ⟨q, 0, none⟩) 1 1]).run Tryd.prog (w.drew.setRow g R1) = .ok (goInt (1 : Nat)) ((w.drew.setRow g R1).setRow g R2) := fun ty dc => by
    have h := run_copy_rowK (w.drew.setRow g R1) 49 49 ty 68 2 g (i * 2) (n + 1 - i) dc ⟨q, 0, none⟩ 1 1 R1 68 nw.toList Tryd.underlying49 hsz hW1g
      (by rw [hnl', show Nat.min 1 (n + 1 - i) = 1 by simp only [Nat.min_def]; split <;> omega])
      (fun j v hj => by
        rw [Addr.add_lit, Nat.zero_add, cell_of_row _ q j nw _ (0, 0) hW1q]
        simpa using hj)
      (by rw [hR1s, hnl']; omega) h1v
    rw [← hR2, show Nat.min 1 (n + 1 - i) = 1 by simp only [Nat.min_def]; split <;> omega] at h
    exact h
  have hend : R2.toList.take ((n + 1) * 2) = laidIn (cur.toList.take (n * 2)) nw.toList (i * 2) := by
    rw [hR2, hR1]
    exact laid_end cur.toList nw.toList hi (by omega) (by rw [hcl]; omega) hnl' hcsd hcsl
  obtain ⟨W2, hW2⟩ : ∃ W2, W2 = (w.drew.setRow g R1).setRow g R2 := ⟨_, rfl⟩
  rw [← hW2] at hcp2
  obtain ⟨W1, hW1⟩ : ∃ W1, W1 = w.drew.setRow g R1 := ⟨_, rfl⟩
  rw [← hW1] at hcp1 hcp2
  have HE : Hid (w.grownBy W2 (some g) ∧ ∃ cur', W2.heap[g]? = some (.cells cur' 68 (0, 0)) ∧ cur'.size = c * 2 ∧ cur'.toList.take ((n + 1) * 2) = laidIn (cur.toList.take (n * 2)) nw.toList (i * 2)) := by
    refine ⟨?_, R2, ?_, hR2s, hend⟩
    · rw [hW2]
      exact ⟨rfl, rfl, rfl, by simp, fun k hk hne => by
        have hkg : k ≠ g := fun e => hne (by rw [e])
        rw [setRow_other _ _ _ _ hkg, setRow_other _ _ _ _ hkg]
        rfl⟩
    · rw [hW2]
      exact setRow_heap _ g R1 R2 _ (0, 0) hW1g
  clear hend hW1g hW1q hcurc hR1l hR2s hR1s hR1 hR2 hcsd hcsl hcl hcs hg hq h1c h1v hnl hnl' hsz hW1 hW2
  have hw1 : IntKind.i64.wrap ((i : Int) + 1) = (i : Int) + 1 := IntWalk.i64_in _ (by omega)
  have hb1 : (0 : Int) ≤ (i : Int) + 1 := by omega
  have hin : i ≤ n := by omega
  have htn : ((i : Int) + 1).toNat = i + 1 := by omega
  have hb2 : ¬ (c = i + 1) := by omega
  have hb3 : (i : Int) ≤ (n : Int) + 1 := by omega
  have hb4 : ¬ (c = i) := by omega
  go_enter Tryd.func58, Tryd.ntmps58
  go_wp2_with (simp only [hov])
  go_region_law (refine step_copy_runI rfl _ _ 49 49 rfl _ _ (by simp [Act.eval, Act.put]) (by simp [Act.eval, Act.put]) (hcp1 _ _ _) ?_)
  go_wp2_with (at_builtin; refine wpList_copy_runI _ rfl _ _ 49 49 rfl _ _ rfl rfl (hcp2 _ _) ?_)
  go_ret
  exact ⟨rfl, HE.out⟩
set_option maxRecDepth 100000 in
set_option maxHeartbeats 4000000 in
theorem InsL_grow (g n c i q : Nat) (xs : List Value) (nw : Array Value) (w : World) (hi : i < n) (hnc : n ≤ c) (hroom : c < n + 1) (hbig : n ≤ 1048576) (hg : g < w.heap.size) (hx : ∀ j v, xs[j]? = some v → w.cell? ⟨g, j, none⟩ = some v) (hxl : xs.length = n * 2)
    (hnl : nw.size = 2) (hq : w.heap[q]? = some (.cells nw 68 (0, 0))) (h1c : ∀ v ∈ xs, v.oneCell' = true) (h1v : ∀ v ∈ nw.toList, v.oneCell' = true) :
    Calls Tryd.prog 58 #[.slice (some ⟨g, 0, none⟩) n c, .int .i64 i, .slice (some ⟨q, 0, none⟩) 1 1] w fun e w' =>
      ∃ cap, e = .returned (.slice (some ⟨w.heap.size, 0, none⟩) (n + 1) cap) ∧ Ext w w' ∧ n + 1 ≤ cap ∧ cap ≤ maxLen ∧ ∃ cur', w'.heap[w.heap.size]? = some (.cells cur' 68 (0, 0)) ∧ cur'.size = cap * 2 ∧ cur'.toList.take ((n + 1) * 2) = laidIn xs nw.toList (i * 2) := by
  have hsz : (Tryd.prog.info? 68).map (·.size) = some 2 := by kernel_rfl
  obtain ⟨i0, hi0, hz0, hzs, hzb⟩ := info_parts info_level
  have hql : q < w.heap.size := (Array.getElem?_eq_some_iff.1 hq).1
  have hnl' : nw.toList.length = 2 := by simpa using hnl
  have hkk : (n : Int) + 1 - (i : Int) = ((n + 1 - i : Nat) : Int) := by omega
  have hik : i + (n + 1 - i) = n + 1 := by omega
  have hold : (Builtin.firstCells i0.size i (.slice (some ⟨g, 0, none⟩) i c)).run Tryd.prog w.drew = .ok (xs.take (i * 2)).toArray w.drew := by
    rw [hzs]
    exact run_firstCells_some w.drew 2 i ⟨g, 0, none⟩ i c (xs.take (i * 2)) (by rw [List.length_take, hxl]; omega) (fun j v hj => by
      rw [Addr.add_lit, Nat.zero_add]
      rw [List.getElem?_take] at hj
      split at hj
      · exact hx j v hj
      · cases hj)
  obtain ⟨ROW, hROW⟩ : ∃ ROW : Array Value, ROW = (xs.take (i * 2)).toArray ++ Builtin.zeroCells (Value.agg #[.string ⟨#[]⟩, .pointer none]).cells (n + 1 - i) ++ Builtin.zeroCells (Value.agg #[.string ⟨#[]⟩, .pointer none]).cells (grownCap w (n + 1) c 68 - (n + 1)) := ⟨_, rfl⟩
  have hGn : n + 1 ≤ grownCap w (n + 1) c 68 := grownCap_ge w _ _ _
  have hG63 : grownCap w (n + 1) c 68 ≤ maxLen := grownCap_le_maxLen w (n + 1) c _ (by unfold maxLen; omega)
  have hRs : ROW.size = grownCap w (n + 1) c 68 * 2 := by
    rw [hROW]
    simp only [Array.size_append, List.size_toArray, List.length_take, hxl, zsize]
    rw [Nat.min_eq_left (by omega)]
    show i * 2 + 2 * (n + 1 - i) + 2 * _ = _
    omega
  have hRt : ROW.toList.take (i * 2) = xs.take (i * 2) := by
    rw [hROW]
    simp only [Array.toList_append, List.append_assoc]
    exact List.take_left' (by rw [List.length_take, hxl]; omega)
  have hrz : ∀ ty, (Builtin.append_ #[49, 3] ty #[.slice (some ⟨g, 0, none⟩) i c, .int .i64 ((n : Int) + 1 - (i : Int))]).run Tryd.prog w =
      .ok (.slice (some ⟨w.heap.size, 0, none⟩) (n + 1) (grownCap w (n + 1) c 68)) (w.drew.alloc (.cells ROW 68)) := fun ty => by
    have h := Lib.run_append_grow_zeros w 49 3 ty 68 i0 _ .i64 .i64 Tryd.underlying49 Tryd.underlying3 hi0 hz0 (some ⟨g, 0, none⟩) i c (xs.take (i * 2)) hold (n + 1 - i) (by omega) (by omega) (by omega) (by omega) (by rw [hzb]; omega) (by rw [hzb, hik]; exact growslice_fits hroom (by omega))
    rw [hik] at h
    rw [hkk, hROW]
    exact h
  obtain ⟨G, hG⟩ : ∃ G, G = grownCap w (n + 1) c 68 := ⟨_, rfl⟩
  rw [← hG] at hrz hGn hG63 hRs
  clear hROW hold hik hG
  have hRl : ROW.toList.length = G * 2 := by simpa using hRs
  obtain ⟨cs, hcsd⟩ : ∃ cs, cs = xs.drop (i * 2) := ⟨_, rfl⟩
  have hcsl : cs.length = (n - i) * 2 := by rw [hcsd, List.length_drop, hxl]; omega
  obtain ⟨R1, hR1⟩ : ∃ R1 : Array Value, R1 = (ROW.toList.take (i * 2) ++ nw.toList ++ ROW.toList.drop (i * 2 + nw.toList.length)).toArray := ⟨_, rfl⟩
  obtain ⟨R2, hR2⟩ : ∃ R2 : Array Value, R2 = (R1.toList.take ((i + 1) * 2) ++ cs ++ R1.toList.drop ((i + 1) * 2 + cs.length)).toArray := ⟨_, rfl⟩
  have hR1s : R1.size = G * 2 := by rw [hR1, List.size_toArray, List.length_append, List.length_append, List.length_take, List.length_drop, hRl, hnl']; omega
  have hR1l : R1.toList.length = G * 2 := by simpa using hR1s
  have hR2s : R2.size = G * 2 := by rw [hR2, List.size_toArray, List.length_append, List.length_append, List.length_take, List.length_drop, hR1l, hcsl]; omega
  have hend : R2.toList.take ((n + 1) * 2) = laidIn xs nw.toList (i * 2) := by
    rw [hR2, hR1]
    exact laid_end2 ROW.toList xs nw.toList hi (by omega) (by rw [hRl]; omega) hnl' hxl hRt hcsd hcsl
  have hX : (w.drew.alloc (.cells ROW 68)).heap[w.heap.size]? = some (.cells ROW 68 (0, 0)) := heap_alloc_new w.drew _
  have hXo : ∀ k, k < w.heap.size → (w.drew.alloc (.cells ROW 68)).heap[k]? = w.heap[k]? := fun k hk => Below.heap_alloc w.drew _ k hk
  obtain ⟨X, hXd⟩ : ∃ X, X = w.drew.alloc (.cells ROW 68) := ⟨_, rfl⟩
  rw [← hXd] at hX hXo
  have hcpA : ∀ (W : World), W.heap = X.heap → ∀ ty dc, (Builtin.copy_ #[49, 49] ty #[.slice (some ⟨w.heap.size, i * 2, none⟩) (n + 1 - i) dc, .slice (some ⟨q, 0, none⟩) 1 1]).run Tryd.prog W = .ok (goInt (1 : Nat)) (W.setRow w.heap.size R1) := fun W hW ty dc => by
    have h := run_copy_rowK W 49 49 ty 68 2 w.heap.size (i * 2) (n + 1 - i) dc ⟨q, 0, none⟩ 1 1 ROW 68 nw.toList Tryd.underlying49 hsz (by rw [hW]; exact hX)
      (by rw [hnl', show Nat.min 1 (n + 1 - i) = 1 by simp only [Nat.min_def]; split <;> omega])
      (fun j v hj => by
        rw [Addr.add_lit, Nat.zero_add, cell_of_row _ q j nw _ (0, 0) (by rw [hW]; exact (hXo q hql).trans hq)]
        simpa using hj)
      (by rw [hRs, hnl']; omega) h1v
    rw [← hR1, show Nat.min 1 (n + 1 - i) = 1 by simp only [Nat.min_def]; split <;> omega] at h
    exact h
  have hY : (X.setRow w.heap.size R1).heap[w.heap.size]? = some (.cells R1 68 (0, 0)) := setRow_heap X w.heap.size ROW R1 _ (0, 0) hX
  have hYo : ∀ k, k < w.heap.size → (X.setRow w.heap.size R1).heap[k]? = w.heap[k]? := fun k hk => (setRow_other X w.heap.size k _ (by omega)).trans (hXo k hk)
  have hcpB : ∀ (W : World), W.heap = (X.setRow w.heap.size R1).heap → ∀ ty dc sc, (Builtin.copy_ #[49, 49] ty #[.slice (some ⟨w.heap.size, (i + 1) * 2, none⟩) (n - i) dc, .slice (some ⟨g, i * 2, none⟩) (n - i) sc]).run Tryd.prog W = .ok (goInt (n - i : Nat)) (W.setRow w.heap.size R2) := fun W hW ty dc sc => by
    have h := run_copy_rowK W 49 49 ty 68 2 w.heap.size ((i + 1) * 2) (n - i) dc ⟨g, i * 2, none⟩ (n - i) sc R1 68 cs Tryd.underlying49 hsz (by rw [hW]; exact hY)
      (by rw [hcsl]; congr 1; simp only [Nat.min_def]; split <;> omega)
      (fun j v hj => by
        rw [Addr.add_lit, World.cell?_of_block (w := w) (by rw [hW]; exact hYo g hg)]
        refine hx _ v ?_
        rw [hcsd, List.getElem?_drop] at hj
        exact hj)
      (by rw [hR1s, hcsl]; omega) (fun v hv => h1c v (by rw [hcsd] at hv; exact List.mem_of_mem_drop hv))
    rw [← hR2, show Nat.min (n - i) (n - i) = n - i by simp only [Nat.min_def]; split <;> omega] at h
    exact h
  have HF : ∀ W : World, W.heap = (X.setRow w.heap.size R1).heap → W.os = w.os → W.tape = w.tape → W.output = w.output → Ext w (W.setRow w.heap.size R2) ∧ (W.setRow w.heap.size R2).heap[w.heap.size]? = some (.cells R2 68 (0, 0)) := fun W hW h1 h2 h3 =>
    ⟨⟨h1, h2, h3, by rw [size_setRow, hW, size_setRow, hXd]; simp, fun k hk => by rw [setRow_other _ _ _ _ (by omega), hW]; exact hYo k hk⟩, setRow_heap W w.heap.size R1 R2 _ (0, 0) (by rw [hW]; exact hY)⟩
  have hEnd : Hid (∀ W : World, Ext w W ∧ W.heap[w.heap.size]? = some (.cells R2 68 (0, 0)) → ∃ cap, Ending.returned (.slice (some ⟨w.heap.size, 0, none⟩) (n + 1) G) = Ending.returned (.slice (some ⟨w.heap.size, 0, none⟩) (n + 1) cap) ∧ Ext w W ∧ n + 1 ≤ cap ∧ cap ≤ maxLen ∧ ∃ cur', W.heap[w.heap.size]? = some (.cells cur' 68 (0, 0)) ∧ cur'.size = cap * 2 ∧ cur'.toList.take ((n + 1) * 2) = laidIn xs nw.toList (i * 2)) := Lib.hid fun W h => ⟨G, rfl, h.1, hGn, hG63, R2, h.2, hR2s, hend⟩
  have HHF := Lib.hid HF
  subst hXd
  clear HF hend hX hXo hY hYo hR1l hR2s hR1s hR1 hR2 hcsd hcsl hRl hRs hRt hnl hnl' h1c h1v hx hq
  have hw1 : IntKind.i64.wrap ((i : Int) + 1) = (i : Int) + 1 := IntWalk.i64_in _ (by omega)
  have hb1 : (0 : Int) ≤ (i : Int) + 1 := by omega
  have hin : i ≤ n := by omega
  have htn : ((i : Int) + 1).toNat = i + 1 := by omega
  have hb3 : (i : Int) ≤ (n : Int) := by omega
  unfold maxLen at hG63
  have hGi : ¬ (G = i) := by omega
  have hGim : ¬ (G = i + 1) := by omega
  have hci : ¬ (c = i) := by omega
  have hz3 : (c : Int) < (n : Int) + 1 := by omega
  clear hkk
  have hE1 : ((w.alloc (.cells ROW 68)).drew).heap = (w.drew.alloc (.cells ROW 68)).heap := rfl
  have hF1 : (((w.alloc (.cells ROW 68)).drew.setRow w.heap.size R1).drew).heap = ((w.drew.alloc (.cells ROW 68)).setRow w.heap.size R1).heap := rfl
  go_enter Tryd.func58, Tryd.ntmps58
  go_wp2_with (first
    | (at_builtin; refine Lib.wpList_append_run _ rfl _ _ _ _ rfl _ _ rfl rfl _ _ (hrz _) ?_)
    | (at_builtin; refine wpList_copy_runI _ rfl _ _ 49 49 rfl _ _ rfl rfl (hcpA _ hE1 _ _) ?_))
  go_region_law (refine step_copy_runI rfl _ _ 49 49 rfl (.slice (some ⟨w.heap.size, (i + 1) * 2, none⟩) (n - i) (G - (i + 1))) (.slice (some ⟨g, i * 2, none⟩) (n - i) (c - i)) (by simp [Act.eval, Act.put]) (by simp [Act.eval, Act.put]) (hcpB _ hF1 3 (G - (i + 1)) (c - i)) ?_)
  go_wp2_with fail
  go_ret
  exact hEnd.out _ (HHF.out _ rfl rfl rfl rfl)

set_option maxRecDepth 100000 in
set_option maxHeartbeats 2000000 in
theorem InsL_end (base n q : Nat) (v : Value) (xs : List Value) (nw : Array Value) (w : World) (hn : n + 1 ≤ 1048576) (hb : base ≤ w.heap.size) (hown : w.ownsRow base 68 2 v n xs)
    (hnl : nw.size = 2) (hq : w.heap[q]? = some (.cells nw 68 (0, 0))) (h1v : ∀ u ∈ nw.toList, u.oneCell' = true) :
    Calls Tryd.prog 58 #[v, .int .i64 n, .slice (some ⟨q, 0, none⟩) 1 1] w fun e w' =>
      ∃ g cap, e = .returned (.slice (some ⟨g, 0, none⟩) (n + 1) cap) ∧ w'.ownsRow base 68 2 (.slice (some ⟨g, 0, none⟩) (n + 1) cap) (n + 1) (xs ++ nw.toList) ∧ w.grownBy w' v.ownBlock ∧ (v.ownBlock = some g ∨ g = w.heap.size) := by
  obtain ⟨i0, hi0, hz0, hzs, hzb⟩ := info_parts info_level
  have hq0 : ∀ (j : Nat) u, nw.toList[j]? = some u → w.cell? ((⟨q, 0, none⟩ : Addr).add j) = some u := fun j u hj => by
    rw [Addr.add_lit, Nat.zero_add, cell_of_row _ q j nw _ (0, 0) hq]
    simpa using hj
  have hnl' : nw.toList.length = 1 * 2 := by simpa using hnl
  obtain ⟨A, c, rfl, hc, hr, hnil⟩ := own_rd hown
  have hl := hr.2.1
  have hA : A = none → n = 0 := fun h => by
    rcases Nat.eq_zero_or_pos n with h0 | h0
    · exact h0
    · obtain ⟨ad, h2, _⟩ := hr.2.2 h0
      rw [h] at h2; cases h2
  have HN := Lib.hid hnil
  clear hnil hr
  unfold maxLen at hc
  have HQ := Lib.hid hq0
  have HL := Lib.hid hnl'
  have H1 := Lib.hid h1v
  clear hq hnl hnl' h1v hq0
  go_enter Tryd.func58, Tryd.ntmps58
  cases A with
  | none =>
    obtain rfl := hA rfl
    go_wp2_with (at_builtin; refine wpl_apps (by rfl) _ _ _ (by rfl) base 68 i0 _ 2 24 Tryd.underlying49 hi0 hz0 hzs hzb rfl (by omega) _ _ _ (by rfl) hown ⟨q, 0, none⟩ 1 1 nw.toList (by rfl) HL.out HQ.out H1.out (by omega) (by omega) (by omega) hb ?_; intro g cap w6 own6 hg6 hH6 hlt6)
    go_ret
    exact ⟨g, cap, rfl, own6, hg6, hH6⟩
  | some a =>
    obtain ⟨ab, ao, asp⟩ := a
    go_wp2_with (at_builtin; refine wpl_apps (by rfl) _ _ _ (by rfl) base 68 i0 _ 2 24 Tryd.underlying49 hi0 hz0 hzs hzb rfl (by omega) _ _ _ (by rfl) hown ⟨q, 0, none⟩ 1 1 nw.toList (by rfl) HL.out HQ.out H1.out (by omega) (by omega) (by omega) hb ?_; intro g cap w6 own6 hg6 hH6 hlt6)
    all_goals
      go_ret
      exact ⟨g, cap, rfl, own6, hg6, hH6⟩

theorem InsLert_own (base n i q : Nat) (v : Value) (xs : List Value) (nw : Array Value) (w : World) (hi : i ≤ n) (hn : n + 1 ≤ 1048576) (hb : base ≤ w.heap.size) (hown : w.ownsRow base 68 2 v n xs)
    (hnl : nw.size = 2) (hq : w.heap[q]? = some (.cells nw 68 (0, 0))) (hqv : v.ownBlock ≠ some q) (h1c : ∀ u ∈ xs, u.oneCell' = true) (h1v : ∀ u ∈ nw.toList, u.oneCell' = true) :
    Calls Tryd.prog 58 #[v, .int .i64 i, .slice (some ⟨q, 0, none⟩) 1 1] w fun e w' =>
      ∃ g cap, e = .returned (.slice (some ⟨g, 0, none⟩) (n + 1) cap) ∧ w'.ownsRow base 68 2 (.slice (some ⟨g, 0, none⟩) (n + 1) cap) (n + 1) (laidIn xs nw.toList (i * 2)) ∧ w.grownBy w' v.ownBlock ∧ (v.ownBlock = some g ∨ w.heap.size ≤ g) := by
  have hxl := own_len hown
  have hnl' : nw.toList.length = 2 := by simpa using hnl
  have hll : (laidIn xs nw.toList (i * 2)).length = (n + 1) * 2 := by
    unfold laidIn laidIn'
    simp only [List.length_append, List.length_take, List.length_drop]
    omega
  by_cases hin : i = n
  · subst hin
    refine (InsL_end base i q v xs nw w hn hb hown hnl hq h1v).mono ?_
    rintro e w' ⟨g, cap, he, ho, hg, hH⟩
    have e2 : laidIn xs nw.toList (i * 2) = xs ++ nw.toList := by
      unfold laidIn laidIn'
      rw [List.take_of_length_le (by omega), List.drop_of_length_le (by omega), List.append_nil]
    exact ⟨g, cap, he, by rw [e2]; exact ho, hg, hH.imp id (fun h => by omega)⟩
  · rcases hown.2 with ⟨rfl, rfl⟩ | ⟨g, cap, cur, rfl, hbg, hg, hnc, hcm, hcs, hcur⟩
    · omega
    · have hgl : g < w.heap.size := (Array.getElem?_eq_some_iff.1 hg).1
      by_cases hroom : n + 1 ≤ cap
      · refine (InsL_shift g n cap i q cur nw w (by omega) hroom hcm hg hcs hnl hq (fun e => hqv (by rw [e]; rfl)) (by rw [hcur]; exact h1c) h1v).mono ?_
        rintro e w' ⟨he, hgb, cur', h1, h2, h3⟩
        rw [hcur] at h3
        exact ⟨g, cap, he, ⟨hll, .inr ⟨g, cap, cur', rfl, hbg, h1, hroom, hcm, h2, h3⟩⟩, hgb, .inl rfl⟩
      · refine (InsL_grow g n cap i q xs nw w (by omega) hnc (by omega) (by omega) hgl (fun j u hj => by
          rw [cell_of_row w g j cur _ (0, 0) hg]
          rw [← hcur, List.getElem?_take] at hj
          split at hj
          · simpa using hj
          · cases hj) hxl hnl hq h1c h1v).mono ?_
        rintro e w' ⟨cap', he, hE, hc1, hc2, cur', h1, h2, h3⟩
        exact ⟨w.heap.size, cap', he, ⟨hll, .inr ⟨w.heap.size, cap', cur', rfl, hb, h1, hc1, hc2, h2, h3⟩⟩, hE.gb _, .inr (Nat.le_refl _)⟩
end Go.Proofs.YtcgfdhgceokcnaaDoor

/- lsm: what is gone; a level that is built. -/
namespace Go.Proofs.YtcgfdhgceokcnaaDoor
open Go.RowKit Go.WideShapes
set_option linter.unusedVariables false
attribute [local go_sem ↓] Go.wp_at_zero Go.wp_at_succ

theorem gone_any (p : Pr) (w : World) : Calls Tryd.prog 27 #[p.val] w fun e w' => e = .returned (.bool p.gone) ∧ Ext w w' := by
  obtain ⟨pk, pv, pg⟩ := p
  have B := Bk.at_ w 30 #[.string pk, .string pv, .bool pg] w.heap.size rfl
  have e0 : Ext w (w.alloc (.cells #[.string pk, .string pv, .bool pg] 30)) := (Ext.refl _).alloc _
  have c2 : (w.alloc (.cells #[.string pk, .string pv, .bool pg] 30)).cell? ⟨w.heap.size, 2, none⟩ = some (.bool pg) := B.cell 2
  go_enter Tryd.func27, Tryd.ntmps27
  go_wp2_with fail
  go_ret
  exact ⟨rfl, e0⟩

set_option maxRecDepth 100000 in
set_option maxHeartbeats 1000000 in
theorem IndexGone_any (A : Option Addr) (n c : Nat) (es : List Pr) (w : World) (hr : Rd w 3 A n c (es.flatMap Pr.cells)) (hm : c ≤ maxLen) :
    Calls Tryd.prog 40 #[.slice A n c, .func (.func 27) #[] #[]] w fun e w' => (((∀ p ∈ es, p.gone = false) ∧ e = .returned (.int .i64 (-1))) ∨ ∃ (i : Nat) (p : Pr), es[i]? = some p ∧ p.gone = true ∧ (∀ q ∈ es.take i, q.gone = false) ∧ e = .returned (.int .i64 i)) ∧ Ext w w' := by
  have hl := hr.2.1
  have HX := Lib.hid hr.lenP
  have hrun : ∀ (v : Value) (w : World), (callFunc 27 #[v]).run Tryd.prog w = .ok (.enter 27 #[v]) w := fun v w => by kernel_rfl
  have H0 : Hid (∀ q ∈ es.take 0, q.gone = false) := Lib.hid fun q hq => by simp at hq
  unfold maxLen at hm
  go_enter Tryd.func40, Tryd.ntmps40
  go_wp2_with fail
  go_loopw [5, 8] (fun _ x wr => ∃ j : Nat, x = .int .i64 j ∧ j ≤ n ∧ Ext w wr ∧ Hid (∀ q ∈ es.take j, q.gone = false)) (fun _ x _ => n - (intOf x).toNat)
  case atStart => exact ⟨0, rfl, Nat.zero_le _, Ext.refl _, H0⟩
  case round =>
    obtain ⟨j, rfl, hj, hbw, hall⟩ := hrel
    by_cases hc : j < n
    · have hgj := List.getElem?_eq_getElem (l := es) (i := j) (by rw [HX.out]; exact hc)
      obtain ⟨ad, rfl, hb, c0, c1, c2⟩ := (hr.ext hbw).getP hgj
      have hnext : es.take (j + 1) = es.take j ++ [es[j]'(by rw [HX.out]; exact hc)] := List.take_succ_eq_append_getElem (by rw [HX.out]; exact hc)
      generalize es[j]'(by rw [HX.out]; exact hc) = p at *
      obtain ⟨pk, pv, pg⟩ := p
      have HNX := Lib.hid hnext
      have HG := Lib.hid hgj
      simp only at c0 c1 c2
      clear hnext hgj
      go_wp2_with fail
      refine (gone_any ⟨pk, pv, pg⟩ _).mono ?_
      rintro _ w1 ⟨rfl, hb1⟩
      have e1 := hbw.trans hb1
      cases pg with
      | true =>
        go_wp2_with fail
        go_ret
        exact ⟨.inr ⟨j, _, HG.out, rfl, hall.out, rfl⟩, e1⟩
      | false =>
        have HA : Hid (∀ q ∈ es.take (j + 1), q.gone = false) := Lib.hid fun q hq => by
          rw [HNX.out] at hq
          rcases List.mem_append.1 hq with h | h
          · exact hall.out q h
          · obtain rfl : q = ⟨pk, pv, false⟩ := by simpa using h
            rfl
        go_wp2_with fail
        go_roundw
        case rel => exact ⟨j + 1, by go_num, by omega, e1, HA⟩
        case measure => simp [intOf]; omega
    · have hfin : Hid (∀ p ∈ es, p.gone = false) := Lib.hid fun p hp => hall.out p (by rw [List.take_of_length_le (by rw [HX.out]; omega)]; exact hp)
      go_wp2_with fail
      go_ret
      exact ⟨.inl ⟨hfin.out, rfl⟩, hbw⟩

theorem TbAt.chg {w w' : World} {B tb : Nat} {v : Value} {es : List Pr} {S : Nat → Prop} (h : TbAt w B tb v es) (k : Chg w w' S) (h1 : ¬ S tb) (h2 : ∀ g, v.ownBlock = some g → ¬ S g) : TbAt w' B tb v es :=
  ⟨h.bk.chg k h1, own_chg h.own k h2, h.asc, h.ok, h.len⟩
theorem TbAt.lower {w : World} {B B' tb : Nat} {v : Value} {es : List Pr} (h : TbAt w B tb v es) (hB : B' ≤ B) : TbAt w B' tb v es := ⟨h.bk, own_lower h.own hB, h.asc, h.ok, h.len⟩

/-- a level that is built of pairs that are right -/
theorem built_any (A : Option Addr) (n c : Nat) (es : List Pr) (w : World) (hr : Rd w 3 A n c (es.flatMap Pr.cells)) (hm : c ≤ maxLen) (hn : n ≤ 1000) (hk : tblK es = 0) :
    Calls Tryd.prog 57 #[.slice A n c] w fun e w' => (∃ tb v, e = .returned (.tuple #[.agg #[.string (tabB es), .pointer (some ⟨tb, 0, none⟩)], .nilIface]) ∧ TbAt w' w.heap.size tb v es ∧ w.heap.size ≤ tb) ∧ Ext w w' := by
  obtain ⟨hE, hN, hG⟩ := errR_rules
  have HX := Lib.hid hr.lenP
  have HK := Lib.hid hk
  have htr : tabR es = tabB es := if_pos hk
  have hsz : (tabB es).size ≤ 500000000 := by
    have h1 := bodyB_len (tblK_zero.1 hk).2
    rw [HX.out] at h1
    rw [tabB_size]
    omega
  have HTR := Lib.hid htr
  have HSZ := Lib.hid hsz
  obtain ⟨tb, HTB⟩ : ∃ x, Hid (tabB es = x) := ⟨_, rfl⟩
  rw [HTB.out] at HTR HSZ
  have B0 := Bk.at_ w 68 #[.string ⟨#[]⟩, .pointer none] w.heap.size rfl
  have e0 : Ext w (w.alloc (.cells #[.string ⟨#[]⟩, .pointer none] 68)) := (Ext.refl _).alloc _
  have hr0 := hr.ext e0
  clear hk htr hsz
  go_enter Tryd.func57, Tryd.ntmps57
  go_wp2_with fail
  generalize w.alloc (.cells #[.string ⟨#[]⟩, .pointer none] 68) = W1 at *
  refine (Build_any A n c es _ hr0 hm (by omega)).mono ?_
  rw [HTR.out, HK.out, errR_0]
  rintro _ w2 ⟨rfl, hb2⟩
  go_wp2_with fail
  refine (Open_any tb _ HSZ.out).mono ?_
  rintro e w3 ⟨ho | ho, hb3⟩
  · obtain ⟨es', t3, v3, hop, rfl, T3, hlt⟩ := ho
    obtain rfl : es' = es := opn_uniq hop ⟨HK.out, HTB.out⟩
    have e3 := (e0.trans hb2).trans hb3
    have B3 := (B0.ext hb2).ext hb3
    have HT3 := Lib.hid T3
    have y0 : w3.cell? ⟨w.heap.size, 0, none⟩ = some (.string ⟨#[]⟩) := B3.cell 0
    have y1 : w3.cell? ⟨w.heap.size, 1, none⟩ = some (.pointer none) := B3.cell 1
    have f0 := B3.frozen 0
    have f1 := B3.frozen 1
    have e2 := e0.trans hb2
    have HB3 := Lib.hid B3
    clear T3 hop B3
    go_wp2_with fail
    have hlt1 : w.heap.size < w2.heap.size := hb2.lt B0.lt
    have T7 : TbAt ((w3.setCell ⟨w.heap.size, 0, none⟩ (.string tb)).setCell ⟨w.heap.size, 1, none⟩ (.pointer (some ⟨t3, 0, none⟩))) w.heap.size t3 v3 es' := by
      refine TbAt.lower (HT3.out.chg (gb_chg (gb_trans (gb_set w3 w.heap.size 0 _) (gb_set _ w.heap.size 1 _))) ?_ fun g hg => ?_) (Nat.le_of_lt hlt1)
      · intro e; injection e with e; omega
      · have := own_block HT3.out.own g hg
        intro e; injection e with e; omega
    have B7 := (HB3.out.set_ 0 (.string tb)).set_ 1 (.pointer (some ⟨t3, 0, none⟩))
    have x0 : ((w3.setCell ⟨w.heap.size, 0, none⟩ (.string tb)).setCell ⟨w.heap.size, 1, none⟩ (.pointer (some ⟨t3, 0, none⟩))).cell? ⟨w.heap.size, 0, none⟩ = some (.string tb) := (B7.cell 0).trans rfl
    have x1 : ((w3.setCell ⟨w.heap.size, 0, none⟩ (.string tb)).setCell ⟨w.heap.size, 1, none⟩ (.pointer (some ⟨t3, 0, none⟩))).cell? ⟨w.heap.size, 1, none⟩ = some (.pointer (some ⟨t3, 0, none⟩)) := (B7.cell 1).trans rfl
    have e7 := (e3.setCell (p := ⟨w.heap.size, 0, none⟩) (Nat.le_refl _) (.string tb)).setCell (p := ⟨w.heap.size, 1, none⟩) (Nat.le_refl _) (.pointer (some ⟨t3, 0, none⟩))
    refine bodyPost_ret (by simp [results, Tryd.results57, go_sem, x0, x1]; try rfl) rfl ?_
    exact ⟨⟨t3, v3, by rw [HTB.out], T7, by omega⟩, e7⟩
  · exact absurd ⟨HK.out, HTB.out⟩ (ho.1 es)
end Go.Proofs.YtcgfdhgceokcnaaDoor

/- slices.DeleteFunc of what is gone, in a row that is owned. -/
namespace Go.Proofs.YtcgfdhgceokcnaaDoor
open Go.RowKit Go.WideShapes
set_option linter.unusedVariables false
attribute [local go_sem ↓] Go.wp_at_zero Go.wp_at_succ

theorem wpList_clear_run {P : Program} (w : World) {ops : Array Oper} {rest : List Oper} {o : Oper} {a : Act} {Q : Exit → Act → World → Prop} (hgd : o.guard = none) (x : Operand) (t : TypeId)
    (ho : o.op = .call { callee := .builtin .clear, args := #[x], argTypes := #[t] }) (v : Value) (hx : a.eval x = v) {v' : Value} {w' : World}
    (hr : (Builtin.clear_ #[t] o.type #[v]).run P w = .ok v' w') (h : wpList P ops Q rest (a.put o.dst v') w') : wpList P ops Q (o :: rest) a w :=
  wpList_plain hgd fun K hK => by
    unfold Oper.wp execOp
    simp only [ho, resolve, invoke, builtin, Sem.run_bind, Sem.run_pure, Result.andThen_ok, List.map_toArray, List.map_cons, List.map_nil, hx, hr]
    exact hK _ _ h
theorem run_clear_rowK {P : Program} (w : World) (t ty e : TypeId) (z : Value) (ht : P.underlying t = some (.slice e)) (hv : ∀ w, (zeroValue e).run P w = .ok z w) (k g o n c : Nat) (hz : z.cells.size = k) (h1 : ∀ u ∈ z.cells.toList, u.oneCell' = true) (hn : 0 < n)
    (cur : Array Value) (tt : TypeId) (hg : w.heap[g]? = some (.cells cur tt (0, 0))) (hfit : o + n * k ≤ cur.size) :
    ∃ cur' : Array Value, (Builtin.clear_ #[t] ty #[.slice (some ⟨g, o, none⟩) n c]).run P w = .ok (.tuple #[]) (w.setRow g cur') ∧ cur'.size = cur.size ∧ cur'.toList.take o = cur.toList.take o := by
  have hl : (Builtin.zeroCells z.cells n).toList.length = n * k := by rw [Array.length_toList, zsize, hz, Nat.mul_comm]
  have h1' : ∀ u ∈ (Builtin.zeroCells z.cells n).toList, u.oneCell' = true := fun u hu => by
    unfold Builtin.zeroCells at hu
    rw [Array.toList_map, List.mem_map] at hu
    obtain ⟨i, hi, rfl⟩ := hu
    refine h1 _ ?_
    have hi' : i < n * z.cells.size := by simpa using hi
    have hp : 0 < z.cells.size := by
      rcases Nat.eq_zero_or_pos z.cells.size with h | h
      · rw [h] at hi'; omega
      · exact h
    rw [getElem!_pos z.cells (i % z.cells.size) (Nat.mod_lt _ hp)]
    simp
  have hst := run_storeCells_at P g o tt (Builtin.zeroCells z.cells n).toList 0 cur w hg (by rw [hl]; omega) h1'
  refine ⟨(cur.toList.take o ++ (Builtin.zeroCells z.cells n).toList ++ cur.toList.drop (o + n * k)).toArray, ?_, ?_, ?_⟩
  · rw [Nat.add_zero, hl] at hst
    cases n with
    | zero => omega
    | succ n => simp [Builtin.clear_, run_underlying ht, hv, hst]
  · rw [List.size_toArray, List.length_append, List.length_append, hl, List.length_take, List.length_drop, Array.length_toList]
    omega
  · show List.take o (cur.toList.take o ++ (Builtin.zeroCells z.cells n).toList ++ cur.toList.drop (o + n * k)) = _
    rw [List.append_assoc, List.take_append_of_le_length (by rw [List.length_take, Array.length_toList]; omega), List.take_take, Nat.min_self]
def ngL (es : List Pr) : List Pr := es.filter fun p => !p.gone
theorem ngL_all {es : List Pr} (h : ∀ p ∈ es, p.gone = false) : ngL es = es := List.filter_eq_self.2 fun p hp => by rw [h p hp]; rfl
theorem ngL_snoc (es : List Pr) (p : Pr) : ngL (es ++ [p]) = ngL es ++ if p.gone = true then [] else [p] := by
  unfold ngL
  rw [List.filter_append]
  congr 1
  obtain ⟨k, v, g⟩ := p
  cases g <;> rfl
theorem ngL_len (es : List Pr) : (ngL es).length ≤ es.length := List.length_filter_le _ _
end Go.Proofs.YtcgfdhgceokcnaaDoor

/- slices.DeleteFunc of what is gone, walked. -/
namespace Go.Proofs.YtcgfdhgceokcnaaDoor
open Go.RowKit Go.WideShapes
set_option linter.unusedVariables false
attribute [local go_sem ↓] Go.wp_at_zero Go.wp_at_succ

theorem own_part {w : World} {base n i c g : Nat} {e : TypeId} {xs ys : List Value} {k : Nat} (h : w.ownsRow base e k (.slice (some ⟨g, 0, none⟩) n c) n xs) (hi : i ≤ n) (hy : xs.take (i * k) = ys) : w.ownsRow base e k (.slice (some ⟨g, 0, none⟩) i c) i ys := by
  subst hy
  rcases h.2 with ⟨h1, _⟩ | ⟨g', cap, cur, h1, hb, hg, hn, hm, hs, ht⟩
  · cases h1
  · injection h1 with h1 h2 h3
    injection h1 with h1
    injection h1 with h1
    subst h1 h3
    have hle : i * k ≤ n * k := Nat.mul_le_mul_right _ hi
    refine ⟨by rw [List.length_take, h.1, Nat.min_eq_left hle], .inr ⟨g, c, cur, rfl, hb, hg, by omega, hm, hs, ?_⟩⟩
    rw [← ht, List.take_take, Nat.min_eq_left hle]

set_option maxRecDepth 100000 in
theorem own_cleared {w : World} {base n i c g : Nat} {xs ys : List Value} (h : w.ownsRow base 30 3 (.slice (some ⟨g, 0, none⟩) n c) n xs) (hi : i < n) (hy : xs.take (i * 3) = ys) (ty : TypeId) (c2 : Nat) :
    ∃ w', ((Builtin.clear_ #[27] ty #[.slice (some ⟨g, i * 3, none⟩) (n - i) c2]).run Tryd.prog w = .ok (.tuple #[]) w') ∧ w'.ownsRow base 30 3 (.slice (some ⟨g, 0, none⟩) i c) i ys ∧ w.grownBy w' (some g) := by
  subst hy
  rcases h.2 with ⟨h1, _⟩ | ⟨g', cap, cur, h1, hb, hg, hn, hm, hs, ht⟩
  · cases h1
  · injection h1 with h1 h2 h3
    injection h1 with h1
    injection h1 with h1
    subst h1 h3
    have hle : i * 3 ≤ n * 3 := Nat.mul_le_mul_right _ (Nat.le_of_lt hi)
    have hcc : n * 3 ≤ c * 3 := Nat.mul_le_mul_right _ hn
    have hcl := run_clear_rowK (P := Tryd.prog) w 27 ty 30 (.agg #[.string ⟨#[]⟩, .string ⟨#[]⟩, .bool false]) Tryd.underlying27 (fun w => by kernel_rfl) 3 g (i * 3) (n - i) c2 rfl (by intro u hu; simp [Value.cells] at hu; rcases hu with rfl | rfl | rfl <;> rfl) (by omega) cur _ hg (by omega)
    obtain ⟨cur', hr, hs', ht'⟩ := hcl
    refine ⟨w.setRow g cur', hr, ?_, ?_⟩
    · refine ⟨by rw [List.length_take, h.1, Nat.min_eq_left hle], .inr ⟨g, c, cur', rfl, hb, setRow_heap w g cur _ _ (0, 0) hg, by omega, hm, by omega, ?_⟩⟩
      rw [ht', ← ht, List.take_take, Nat.min_eq_left hle]
    · exact ⟨rfl, rfl, rfl, by simp, fun k hk hne => setRow_other _ _ _ _ fun e => hne (by rw [e])⟩
theorem own_set3 {w : World} {B g n c lo : Nat} {es : List Pr} {p : Pr} (ho : w.ownsRow B 30 3 (.slice (some ⟨g, 0, none⟩) n c) n (es.flatMap Pr.cells)) (hx : es.length = n) (hlo : lo < n) :
    (((w.setCell ⟨g, lo * 3, none⟩ (.string p.key)).setCell ⟨g, lo * 3 + 1, none⟩ (.string p.value)).setCell ⟨g, lo * 3 + 2, none⟩ (.bool p.gone)).ownsRow B 30 3 (.slice (some ⟨g, 0, none⟩) n c) n ((es.set lo p).flatMap Pr.cells) ∧
    w.grownBy (((w.setCell ⟨g, lo * 3, none⟩ (.string p.key)).setCell ⟨g, lo * 3 + 1, none⟩ (.string p.value)).setCell ⟨g, lo * 3 + 2, none⟩ (.bool p.gone)) (some g) := by
  have o1 := ho.stored (lo * 3) (.string p.key)
  have o2 := o1.1.stored (lo * 3 + 1) (.string p.value)
  have o3 := o2.1.stored (lo * 3 + 2) (.bool p.gone)
  refine ⟨?_, gb_trans (gb_trans o1.2 o2.2) o3.2⟩
  rw [← cells_set es lo p (by omega)]
  exact o3.1
theorem own_cells {w : World} {B g n c j : Nat} {es : List Pr} {p : Pr} (ho : w.ownsRow B 30 3 (.slice (some ⟨g, 0, none⟩) n c) n (es.flatMap Pr.cells)) (hx : es.length = n) (hp : es[j]? = some p) :
    w.cell? ⟨g, j * 3, none⟩ = some (.string p.key) ∧ w.cell? ⟨g, j * 3 + 1, none⟩ = some (.string p.value) ∧ w.cell? ⟨g, j * 3 + 2, none⟩ = some (.bool p.gone) ∧ w.frozen? ⟨g, j * 3, none⟩ = false ∧ w.frozen? ⟨g, j * 3 + 1, none⟩ = false ∧ w.frozen? ⟨g, j * 3 + 2, none⟩ = false := by
  have hj : j < n := by rw [← hx]; exact (List.getElem?_eq_some_iff.1 hp).1
  exact ⟨(ho.cellAt (j * 3) (by omega)).trans (flat_nthP (f := Pr.cells) (k := 3) (fun _ => rfl) es j p 0 hp (by omega)),
    (ho.cellAt (j * 3 + 1) (by omega)).trans (flat_nthP (f := Pr.cells) (k := 3) (fun _ => rfl) es j p 1 hp (by omega)),
    (ho.cellAt (j * 3 + 2) (by omega)).trans (flat_nthP (f := Pr.cells) (k := 3) (fun _ => rfl) es j p 2 hp (by omega)),
    ho.frozenAt (j * 3), ho.frozenAt (j * 3 + 1), ho.frozenAt (j * 3 + 2)⟩
/-- what the loop knows: of the first j those that are not gone lie ahead -/
def DelI (es e2 : List Pr) (n i j : Nat) : Prop := e2.length = n ∧ e2.take i = ngL (es.take j) ∧ e2.drop j = es.drop j
theorem del_get {es e2 : List Pr} {n i j : Nat} (h : DelI es e2 n i j) {p : Pr} (hp : e2[j]? = some p) : es[j]? = some p := by
  have h1 := congrArg (fun l : List Pr => l[0]?) h.2.2
  simp only [List.getElem?_drop, Nat.add_zero] at h1
  rw [← h1, hp]
theorem drop_step {a b : List Pr} {j : Nat} (h : a.drop j = b.drop j) : a.drop (j + 1) = b.drop (j + 1) := by
  have := congrArg (List.drop 1) h
  simpa [List.drop_drop, Nat.add_comm] using this
theorem take_step {es : List Pr} {j : Nat} {p : Pr} (h : es[j]? = some p) : es.take (j + 1) = es.take j ++ [p] := by
  obtain ⟨h1, h2⟩ := List.getElem?_eq_some_iff.1 h
  rw [List.take_succ_eq_append_getElem h1, h2]
theorem del_skip {es e2 : List Pr} {n i j : Nat} (h : DelI es e2 n i j) {p : Pr} (hp : e2[j]? = some p) (hg : p.gone = true) : DelI es e2 n i (j + 1) := by
  refine ⟨h.1, ?_, drop_step h.2.2⟩
  rw [take_step (del_get h hp), ngL_snoc, hg, if_pos rfl, List.append_nil]
  exact h.2.1
theorem del_keep {es e2 : List Pr} {n i j : Nat} (h : DelI es e2 n i j) {p : Pr} (hp : e2[j]? = some p) (hg : p.gone = false) (hij : i < j) : DelI es (e2.set i p) n (i + 1) (j + 1) := by
  have hln := h.1
  have hj := (List.getElem?_eq_some_iff.1 hp).1
  refine ⟨by rw [List.length_set]; exact h.1, ?_, ?_⟩
  · have hs : (e2.set i p)[i]? = some p := List.getElem?_set_self (by omega)
    rw [take_step (del_get h hp), ngL_snoc, hg, if_neg (by decide), take_step hs, List.take_set_of_le (Nat.le_refl _), h.2.1]
  · rw [List.drop_set_of_lt (by omega)]
    exact drop_step h.2.2
theorem del_end {es e2 : List Pr} {n i : Nat} (h : DelI es e2 n i n) (hx : es.length = n) : e2.take i = ngL es := by
  have := h.2.1
  rwa [List.take_of_length_le (l := es) (by omega)] at this

set_option maxRecDepth 100000 in
set_option maxHeartbeats 2000000 in
theorem DeleteGone_any (base n : Nat) (v : Value) (es : List Pr) (w : World) (hn : n ≤ 1000000) (hx : es.length = n) (hown : w.ownsRow base 30 3 v n (es.flatMap Pr.cells)) :
    Calls Tryd.prog 26 #[v, .func (.func 27) #[] #[]] w fun e w' => (∃ v', e = .returned v' ∧ w'.ownsRow base 30 3 v' (ngL es).length ((ngL es).flatMap Pr.cells)) ∧ w.grownBy w' v.ownBlock := by
  obtain ⟨A, c, rfl, hc, hr, hnil⟩ := own_rd hown
  have HX := Lib.hid hx
  have HO := Lib.hid hown
  have hl := hr.2.1
  have hI := IndexGone_any A n c es w hr hc
  have HI := Lib.hid hI
  clear hx hown hnil hr hI
  unfold maxLen at hc
  go_enter Tryd.func26, Tryd.ntmps26
  go_wp2_with fail
  refine HI.out.mono ?_
  rintro e w1 ⟨⟨hall, rfl⟩ | ⟨i, p, hp, hpg, hall, rfl⟩, hb1⟩
  · have HF : Hid (w1.ownsRow base 30 3 (.slice A n c) (ngL es).length ((ngL es).flatMap Pr.cells)) := by
      rw [ngL_all hall, HX.out]
      exact own_ext HO.out hb1
    clear hall
    go_wp2_with fail
    go_ret
    exact ⟨⟨_, rfl, HF.out⟩, hb1.gb _⟩
  · have hin : i < n := by rw [← HX.out]; exact (List.getElem?_eq_some_iff.1 hp).1
    obtain ⟨g, rfl⟩ : ∃ g, A = some ⟨g, 0, none⟩ := by
      rcases HO.out.2 with ⟨h1, h2⟩ | ⟨g, cap, cur, h1, _⟩
      · omega
      · injection h1 with h1; exact ⟨g, h1⟩
    have hz : ngL (es.take (i + 1)) = es.take i := by
      rw [List.take_succ_eq_append_getElem (by rw [HX.out]; exact hin), ngL_snoc, ngL_all hall]
      have h1 : es[i]'(by rw [HX.out]; exact hin) = p := by
        rw [List.getElem?_eq_getElem (by rw [HX.out]; exact hin)] at hp
        injection hp
      rw [h1, hpg, if_pos rfl, List.append_nil]
    have H0 : Hid (w1.ownsRow base 30 3 (.slice (some ⟨g, 0, none⟩) n c) n (es.flatMap Pr.cells)) := own_ext HO.out hb1
    have H1 : Hid (DelI es es n i (i + 1)) := Lib.hid ⟨HX.out, hz.symm, rfl⟩
    have hrun : ∀ (v : Value) (w : World), (callFunc 27 #[v]).run Tryd.prog w = .ok (.enter 27 #[v]) w := fun v w => by kernel_rfl
    have hm1 : ((i : Int) == -1) = false := beq_eq_false_iff_ne.2 (by omega)
    clear hall hz hp hpg
    go_wp2_with fail
    go_loopw [5, 6, 7] (fun x y _ wr => ∃ (i j : Nat) (e2 : List Pr), x = .int .i64 i ∧ y = .int .i64 j ∧ i < j ∧ j ≤ n ∧ w.grownBy wr (some g) ∧ Hid (wr.ownsRow base 30 3 (.slice (some ⟨g, 0, none⟩) n c) n (e2.flatMap Pr.cells)) ∧ Hid (DelI es e2 n i j)) (fun _ y _ _ => n - (intOf y).toNat)
    case atStart => exact ⟨_, _, es, rfl, by go_num, by omega, by omega, hb1.gb _, H0, H1⟩
    case round =>
      obtain ⟨i, j, e2, rfl, rfl, hij, hj, hgb, hown, hinv⟩ := hrel
      by_cases hc2 : j < n
      · have hjl : j < e2.length := by rw [hinv.out.1]; exact hc2
        have hgj : e2[j]? = some (e2[j]'hjl) := List.getElem?_eq_getElem hjl
        generalize e2[j]'hjl = p at *
        have HJ := Lib.hid hgj
        obtain ⟨c0, c1, c2, -, -, -⟩ := own_cells hown.out hinv.out.1 hgj
        obtain ⟨pk, pv, pg⟩ := p
        simp only at c0 c1 c2
        have P3 := Bk.at_ wr 30 #[.string pk, .string pv, .bool pg] wr.heap.size rfl
        have g3 : w.grownBy (wr.alloc (.cells #[.string pk, .string pv, .bool pg] 30)) (some g) := gb_alloc hgb _
        have o3 := World.ownsRow.alloc hown.out (.cells #[.string pk, .string pv, .bool pg] 30)
        clear hgj
        go_wp2_with fail
        refine (gone_any ⟨pk, pv, pg⟩ _).mono ?_
        rintro _ w5 ⟨rfl, hb5⟩
        have own5 := own_ext o3 hb5
        have g5 := gb_trans g3 (hb5.gb (some g))
        have P5 := P3.ext hb5
        have O5 := Lib.hid own5
        cases pg with
        | true =>
          have HD := Lib.hid (del_skip hinv.out HJ.out rfl)
          clear own5 P3 o3 g3
          go_wp2_with fail
          go_roundw
          case rel => exact ⟨i, j + 1, e2, rfl, by go_num, by omega, by omega, g5, O5, HD⟩
          case measure => simp [intOf]; omega
        | false =>
          have HD := Lib.hid (del_keep hinv.out HJ.out rfl hij)
          obtain ⟨q, hq⟩ : ∃ q, e2[i]? = some q := ⟨_, List.getElem?_eq_getElem (by omega)⟩
          obtain ⟨q0, q1, q2, f0, f1, f2⟩ := own_cells own5 hinv.out.1 hq
          have y0 : w5.cell? ⟨wr.heap.size, 0, none⟩ = some (.string pk) := P5.cell 0
          have y1 : w5.cell? ⟨wr.heap.size, 1, none⟩ = some (.string pv) := P5.cell 1
          have y2 : w5.cell? ⟨wr.heap.size, 2, none⟩ = some (.bool false) := P5.cell 2
          have hgb : g ≠ wr.heap.size := fun e => by
            have h3 := hown.out.lt g rfl
            omega
          have O7 := Lib.hid (own_set3 (lo := i) (p := ⟨pk, pv, false⟩) own5 hinv.out.1 (by omega))
          clear own5 P3 o3 g3 P5 c0 c1 c2 hq
          go_wp2_with fail
          go_roundw
          case rel => exact ⟨i + 1, j + 1, _, by go_num, by go_num, by omega, by omega, gb_trans g5 O7.out.2, O7.out.1, HD⟩
          case measure => simp [intOf]; omega
      · obtain rfl : j = n := by omega
        have HE := Lib.hid (del_end hinv.out HX.out)
        have hin2 : i < j := hij
        obtain ⟨w7, hcl, o7, g7⟩ := own_cleared hown.out hij ((flat_take (f := Pr.cells) (k := 3) (fun _ => rfl) e2 i).trans (congrArg _ HE.out)) 0 (c - i)
        have HO7 := Lib.hid o7
        have hlen : i = (ngL es).length := by
          rw [← HE.out, List.length_take, hinv.out.1]
          omega
        have HLN := Lib.hid hlen
        clear o7 hlen
        go_wp2_with fail
        go_ret
        exact ⟨⟨_, rfl, by rw [← HLN.out]; exact HO7.out⟩, gb_trans hgb g7⟩
end Go.Proofs.YtcgfdhgceokcnaaDoor
