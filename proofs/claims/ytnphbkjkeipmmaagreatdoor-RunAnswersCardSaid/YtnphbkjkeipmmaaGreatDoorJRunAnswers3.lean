/- The references' mirror in memory: Want, Root, forget, settle, Hear. -/
import Derived.Test.YtnphbkjkeipmmaaGreatDoorJRunBegins21
import Derived.Test.YtnphbkjkeipmmaaGreatDoorJRunBegins27
import Derived.Test.YtnphbkjkeipmmaaGreatDoorJRunBegins28
import Derived.Test.YtnphbkjkeipmmaaGreatDoorJRunAnswers2
import Derived.Test.YtnphbkjkeipmmaaGreatDoorJRunBegins10
namespace Go.Proofs.YtnphbkjkeipmmaaGreatDoor
open Go.RowKit Go.WideShapes
set_option linter.unusedVariables false
attribute [local go_sem ↓] Go.wp_at_zero Go.wp_at_succ

theorem info_entM : (Tryz.prog.info? 67).map (fun i => (i.zero, i.size, i.bytes)) = some (some (.agg #[.int .i64 0, .string ⟨#[]⟩]), 2, 24) := by kernel_rfl
/-- what an operation of the references' mirror leaves -/
def RPost (w : World) (P : Nat → Prop) (mb : Nat) (r : Mi × Int) (e : Ending) (w' : World) : Prop := e = .returned (.int .i64 r.2) ∧ MM 31 w' P mb r.1 ∧ Chg w w' P
theorem RPost.stay {w w' : World} {P : Nat → Prop} {mb : Nat} {va vw : Value} {m : Mi} {k : Int} (h : MiAt 31 w mb va vw m) (hP : ∀ g, MFoot mb va vw g → P g) (e : Ext w w') : RPost w P mb (m, k) (.returned (.int .i64 k)) w' := ⟨rfl, ⟨va, vw, h.ext e, hP⟩, e.chg P⟩
theorem MiAt.putR {w w' : World} {mb : Nat} {va vw va' vw' : Value} {m m' : Mi} {P : Nat → Prop} (h : MiAt 31 w mb va vw m) (hP : ∀ g, MFoot mb va vw g → P g) (hg : w.grownBy w' (some mb))
    (hb : Bk w' mb 31 (mcells m'.key va' m'.head m'.next vw')) (ho : w.ownsRow 0 67 2 va' m'.own.length (m'.own.flatMap Ent.cells)) (hw : w.ownsRow 0 67 2 vw' m'.waits.length (m'.waits.flatMap Ent.cells))
    (hap : ∀ g, va'.ownBlock = some g → vw'.ownBlock ≠ some g) (hgd : m'.Good) (hPa : ∀ g, va'.ownBlock = some g → P g) (hPw : ∀ g, vw'.ownBlock = some g → P g) :
    MM 31 w' P mb m' ∧ Chg w w' P := by
  refine ⟨⟨va', vw', ⟨hb, ho.kept hg (.inr (own_type ho h.bk (by decide))), hw.kept hg (.inr (own_type hw h.bk (by decide))), hap, hgd⟩, fun g hf => ?_⟩, (gb_chg hg).mono fun x _ hx => ?_⟩
  · rcases hf with rfl | hf | hf
    · exact hP _ (.inl rfl)
    · exact hPa g hf
    · exact hPw g hf
  · injection hx with hx
    subst hx
    exact hP _ (.inl rfl)

set_option maxRecDepth 100000 in
set_option maxHeartbeats 1000000 in
theorem RMWant_any (mb : Nat) (va vw : Value) (m : Mi) (w : World) (h : MiAt 31 w mb va vw m) :
    Calls Tryz.prog 17 #[.pointer (some ⟨mb, 0, none⟩)] w fun e w' => e = .returned m.want.val ∧ Ext w w' := by
  have B0 := Bk.at_ w 60 #[.int .i64 0, .int .i64 0, .int .i64 0] w.heap.size rfl
  have e0 : Ext w (w.alloc (.cells #[.int .i64 0, .int .i64 0, .int .i64 0] 60)) := (Ext.refl _).alloc _
  have hgd := h.good
  have h0 := h.ext e0
  clear h
  obtain ⟨n, hn⟩ : ∃ n, m.own.length = n := ⟨_, rfl⟩
  obtain ⟨k, hk⟩ : ∃ n, m.waits.length = n := ⟨_, rfl⟩
  obtain ⟨ns, hns⟩ : ∃ x, m.next.size = x := ⟨_, rfl⟩
  have HW1 : Hid (ns = 0 → m.want = ⟨1, 0, 0⟩) := Lib.hid fun e => if_pos (hns.trans e)
  have HW2 : Hid (ns ≠ 0 → (n : Int) + (k : Int) = ns → m.want = ⟨3, (n : Int), ns⟩) := Lib.hid fun e e2 => by
    unfold Mi.want Mi.have_; rw [hn, hk, hns, if_neg e, if_pos e2]
  have HW3 : Hid (ns ≠ 0 → (n : Int) + (k : Int) ≠ ns → m.want = ⟨2, (n : Int) + (k : Int), min ns ((n : Int) + (k : Int) + 16)⟩) := Lib.hid fun e e2 => by
    unfold Mi.want Mi.have_; rw [hn, hk, hns, if_neg e, if_neg e2]
  have hle := hgd.have_le
  have hnb := hgd.nsz
  have ow := h0.own
  have wa := h0.waits
  have hbk := h0.bk
  rw [hn] at ow hle
  rw [hk] at wa hle
  rw [hns] at hnb
  obtain ⟨A, c, rfl, hc, hr, -⟩ := own_rd ow
  obtain ⟨A', c', rfl, hc', hr', -⟩ := own_rd wa
  have c1 : (w.alloc (.cells #[.int .i64 0, .int .i64 0, .int .i64 0] 60)).cell? ⟨mb, 1, none⟩ = some (.slice A n c) := hbk.cell 1
  have c6 : (w.alloc (.cells #[.int .i64 0, .int .i64 0, .int .i64 0] 60)).cell? ⟨mb, 6, none⟩ = some (.int .i64 ns) := by rw [← hns]; exact hbk.cell 6
  have c10 : (w.alloc (.cells #[.int .i64 0, .int .i64 0, .int .i64 0] 60)).cell? ⟨mb, 10, none⟩ = some (.slice A' k c') := hbk.cell 10
  obtain ⟨wt, hwt⟩ : ∃ x, m.want = x := ⟨_, rfl⟩
  rw [hwt] at HW1 HW2 HW3
  rw [hwt]
  obtain ⟨hv, hhv⟩ : ∃ x : Int, (n : Int) + (k : Int) = x := ⟨_, rfl⟩
  have hw : IntKind.i64.wrap ((n : Int) + (k : Int)) = hv := by rw [← hhv]; exact IntWalk.i64_in _ (by omega)
  rw [hhv] at HW2 HW3
  have hv0 : 0 ≤ hv ∧ hv ≤ 200 := by omega
  have HHV := Lib.hid hhv
  obtain ⟨mn, hmn⟩ : ∃ x, min ns (hv + 16) = x := ⟨_, rfl⟩
  rw [hmn] at HW3
  have HMN := Lib.hid hmn
  clear hwt hns hn hk hgd h0 ow wa hr hr' hbk hle hhv hmn
  go_enter Tryz.func17, Tryz.ntmps17
  go_upto_region 1 with (fail)
  generalize (w.alloc (.cells #[.int .i64 0, .int .i64 0, .int .i64 0] 60)) = W0 at *
  obtain ⟨g0, hg0⟩ : ∃ g, w.heap.size = g := ⟨_, rfl⟩
  rw [hg0] at B0
  try rw [hg0]
  have HG := Lib.hid hg0
  have HE0 := Lib.hid e0
  have q0 := B0.frozen 0
  have q1 := B0.frozen 1
  have q2 := B0.frozen 2
  have y0 := B0.cell 0
  have y1 := B0.cell 1
  have y2 := B0.cell 2
  clear e0 hg0
  by_cases h0 : ns = 0
  · obtain rfl := HW1.out h0
    subst h0
    clear HW1 HW2 HW3
    go_wp2_with fail
    have P := B0.put3 (.int .i64 1) (.int .i64 0) (.int .i64 0)
    have p0 := P.cell 0
    have p1 := P.cell 1
    have p2 := P.cell 2
    refine bodyPost_ret (by simp [results, Tryz.results17, go_sem, p0, p1, p2]; try rfl) rfl ?_
    exact ⟨rfl, HE0.out.put3 (by rw [HG.out]; exact Nat.le_refl _) _ _ _⟩
  have hb0 : (ns == 0) = false := beq_eq_false_iff_ne.2 h0
  by_cases h1 : hv = ns
  · obtain rfl := HW2.out h0 h1
    subst h1
    clear HW1 HW2 HW3
    go_wp2_with fail
    go_quiet (fail)
    go_wp2_with fail
    have P := (B0.drewN (nq)).put3 (.int .i64 3) (.int .i64 n) (.int .i64 hv)
    have p0 := P.cell 0
    have p1 := P.cell 1
    have p2 := P.cell 2
    refine bodyPost_ret (by simp [results, Tryz.results17, go_sem, p0, p1, p2]; try rfl) rfl ?_
    exact ⟨rfl, (HE0.out.drewN (nq)).put3 (by rw [HG.out]; exact Nat.le_refl _) _ _ _⟩
  · obtain rfl := HW3.out h0 h1
    have hb1 : (hv == ns) = false := beq_eq_false_iff_ne.2 h1
    have hw16 : IntKind.i64.wrap (hv + 16) = hv + 16 := IntWalk.i64_in _ (by omega)
    clear HW1 HW2 HW3 h1
    by_cases h2 : ns < hv + 16
    · obtain rfl : mn = ns := by have := HMN.out; omega
      go_wp2_with fail
      go_quiet (fail)
      go_wp2_with fail
      have P := (B0.drewN (nq)).put3 (.int .i64 2) (.int .i64 hv) (.int .i64 mn)
      have p0 := P.cell 0
      have p1 := P.cell 1
      have p2 := P.cell 2
      refine bodyPost_ret (by simp [results, Tryz.results17, go_sem, p0, p1, p2]; try rfl) rfl ?_
      exact ⟨rfl, (HE0.out.drewN (nq)).put3 (by rw [HG.out]; exact Nat.le_refl _) _ _ _⟩
    · obtain rfl : mn = hv + 16 := by have := HMN.out; omega
      go_wp2_with fail
      go_quiet (fail)
      go_wp2_with fail
      have P := (B0.drewN (nq)).put3 (.int .i64 2) (.int .i64 hv) (.int .i64 (hv + 16))
      have p0 := P.cell 0
      have p1 := P.cell 1
      have p2 := P.cell 2
      refine bodyPost_ret (by simp [results, Tryz.results17, go_sem, p0, p1, p2]; try rfl) rfl ?_
      exact ⟨rfl, (HE0.out.drewN (nq)).put3 (by rw [HG.out]; exact Nat.le_refl _) _ _ _⟩

/-- the root of entries that are right, by the references -/
theorem RLeafRoot (A : Option Addr) (n c : Nat) (es : List Ent) (hk : entsOk es) :
    (∀ W, Rd W 2 A n c (es.flatMap Ent.cells) → c ≤ maxLen → Calls Tryz.prog 37 #[.slice A n c] W fun e w' => (∃ A2 c2, e = .returned (.slice A2 n c2) ∧ c2 ≤ maxLen ∧ Rd w' 1 A2 n c2 ((es.map Ent.leaf).map (Value.int .i64))) ∧ Ext W w') ∧
    (∀ W B d, Rd W 1 B n d ((es.map Ent.leaf).map (Value.int .i64)) → d ≤ maxLen → Calls Tryz.prog 39 #[.slice B n d] W fun e w' => e = .returned (.int .i64 (rootE es)) ∧ Ext W w') := by
  have hlo := leafs_of_ents hk
  refine ⟨fun W hr hm => ?_, fun W B d hB hd => ?_⟩
  · have hx := hr.lenE
    refine (REntryLeafs_ok A n c es W hr hm hk).mono fun e' w' hh => ?_
    obtain ⟨⟨v, q1, q2⟩, q3⟩ := hh
    obtain ⟨A2, c2, rfl, q4, q5⟩ := q2.rd
    rw [List.length_map, hx] at q1 q5
    exact ⟨⟨A2, c2, q1, q4, q5⟩, q3⟩
  · have hl := hB.lenI
    have h2 := hlo.1
    have := RRoot_any n B n d (es.map Ent.leaf) W (Nat.le_refl _) hB hd (by omega) hlo.2
    rw [← rootE_ok hk] at this
    exact this
set_option maxRecDepth 100000 in
theorem RMRoot_any (mb : Nat) (va vw : Value) (m : Mi) (w : World) (h : MiAt 31 w mb va vw m) :
    Calls Tryz.prog 21 #[.pointer (some ⟨mb, 0, none⟩)] w fun e w' => e = .returned (.int .i64 (rootE m.own)) ∧ Ext w w' := by
  have ow := h.own
  obtain ⟨n, hn⟩ : ∃ n, m.own.length = n := ⟨_, rfl⟩
  rw [hn] at ow
  obtain ⟨A, c, rfl, hc, hr, -⟩ := own_rd ow
  obtain ⟨H1, H2⟩ := RLeafRoot A n c m.own h.good.own
  have HL := Lib.hid (H1 w hr hc)
  have HRT := Lib.hid H2
  have y1 : w.cell? ⟨mb, 1, none⟩ = some (.slice A n c) := h.bk.cell 1
  obtain ⟨ro, hro⟩ : ∃ x, rootE m.own = x := ⟨_, rfl⟩
  rw [hro] at HRT
  rw [hro]
  clear h ow hr H1 H2 hro
  go_enter Tryz.func21, Tryz.ntmps21
  go_wp2_with fail
  refine HL.out.mono ?_
  rintro _ w1 ⟨⟨A2, c2, rfl, hc2, R2⟩, hb1⟩
  have HR2 := Lib.hid R2
  clear R2
  go_wp2_with fail
  refine (HRT.out _ _ _ HR2.out hc2).mono ?_
  rintro _ w2 ⟨rfl, hb2⟩
  go_wp2_with fail
  go_ret
  exact ⟨rfl, hb1.trans hb2⟩

set_option maxRecDepth 100000 in
set_option maxHeartbeats 1000000 in
theorem rforget_raw (mb : Nat) (key : Int) (va : Value) (h nx : Hd) (vw : Value) (w : World) (hb : Bk w mb 31 (mcells key va h nx vw)) :
    Calls Tryz.prog 66 #[.pointer (some ⟨mb, 0, none⟩)] w fun e w' => (∃ v, e = .returned v) ∧ Bk w' mb 31 (mcells key va h hd00 (.slice none 0 0)) ∧ w.grownBy w' (some mb) := by
  have y6 : w.cell? ⟨mb, 6, none⟩ = some (.int .i64 nx.size) := hb.cell 6
  have y7 : w.cell? ⟨mb, 7, none⟩ = some (.int .i64 nx.root) := hb.cell 7
  have y8 : w.cell? ⟨mb, 8, none⟩ = some (.int .i64 nx.time) := hb.cell 8
  have y9 : w.cell? ⟨mb, 9, none⟩ = some (.int .i64 nx.sign) := hb.cell 9
  have y10 : w.cell? ⟨mb, 10, none⟩ = some vw := hb.cell 10
  have q6 := hb.frozen 6
  have q7 := hb.frozen 7
  have q8 := hb.frozen 8
  have q9 := hb.frozen 9
  have q10 := hb.frozen 10
  have HB := Lib.hid hb
  clear hb
  go_enter Tryz.func66, Tryz.ntmps66
  go_wp2_with fail
  refine bodyPost_end (results_none rfl _ _ _) rfl ?_
  exact ⟨⟨_, rfl⟩, (((((HB.out.set_ 6 _).set_ 7 _).set_ 8 _).set_ 9 _).set_ 10 _),
    gb_trans (gb_trans (gb_trans (gb_trans (gb_set w mb 6 (.int .i64 0)) (gb_set _ mb 7 (.int .i64 0))) (gb_set _ mb 8 (.int .i64 0))) (gb_set _ mb 9 (.int .i64 0))) (gb_set _ mb 10 (.slice none 0 0))⟩
theorem rforget_any (P : Nat → Prop) (mb : Nat) (va vw : Value) (m : Mi) (w : World) (h : MiAt 31 w mb va vw m) (hP : ∀ g, MFoot mb va vw g → P g) :
    Calls Tryz.prog 66 #[.pointer (some ⟨mb, 0, none⟩)] w fun e w' => (∃ v, e = .returned v) ∧ MM 31 w' P mb m.forget ∧ Chg w w' P := by
  refine (rforget_raw mb m.key va m.head m.next vw w h.bk).mono fun e w' ⟨he, hb, hg⟩ => ?_
  obtain ⟨h1, h2⟩ := h.putR (m' := m.forget) (va' := va) (vw' := .slice none 0 0) hP hg hb h.own (own_nil _ _ _ _) (fun g _ hg => by simp [Value.ownBlock] at hg) h.good.forget (fun g hg => hP g (.inr (.inl hg))) (fun g hg => by simp [Value.ownBlock] at hg)
  exact ⟨he, h1, h2⟩
end Go.Proofs.YtnphbkjkeipmmaaGreatDoor
