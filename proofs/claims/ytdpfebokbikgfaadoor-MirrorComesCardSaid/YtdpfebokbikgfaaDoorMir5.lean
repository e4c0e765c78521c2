/- A mirror in memory: settle. -/
import Derived.Test.YtdpfebokbikgfaaDoorMir2
import Derived.Deep.RegionWith
import Derived.Deep.CutBlock
namespace Go.Proofs.YtdpfebokbikgfaaDoor
open Go.RowKit Go.WideShapes
set_option linter.unusedVariables false
attribute [local go_sem ↓] Go.wp_at_zero Go.wp_at_succ

set_option maxRecDepth 100000 in
set_option maxHeartbeats 2000000 in
theorem settle_any (P : Nat → Prop) (mb : Nat) (va vw : Value) (m : Mi) (w : World) (h : MiAt 83 w mb va vw m) (hP : ∀ g, MFoot mb va vw g → P g) (hPn : ∀ g, w.heap.size ≤ g → P g) (hn : m.next.size ≠ 0) (hf : m.have_ = m.next.size) :
    Calls Tryd.prog 50 #[.pointer (some ⟨mb, 0, none⟩)] w (MPost w P mb m.settle) := by
  have hgd := h.good
  have HG0 := Lib.hid (hgd.settle hn hf)
  have hall := hgd.all
  obtain ⟨n, hnl⟩ : ∃ n, m.own.length = n := ⟨_, rfl⟩
  obtain ⟨k, hkl⟩ : ∃ n, m.waits.length = n := ⟨_, rfl⟩
  have hle := hgd.have_le
  obtain ⟨ro, hro⟩ : ∃ v, rootE (m.own ++ m.waits) = v := ⟨_, rfl⟩
  obtain ⟨nr, hnr⟩ : ∃ v, m.next.root = v := ⟨_, rfl⟩
  have R1 : Hid (ro ≠ nr → m.settle = (m.forget, 8)) := Lib.hid fun e => by unfold Mi.settle; rw [hro, hnr, if_pos e]
  have R2 : Hid (ro = nr → m.settle = (⟨m.key, m.own ++ m.waits, m.next, hd00, []⟩, 0)) := Lib.hid fun e => by unfold Mi.settle; rw [hro, hnr, if_neg (not_not_intro e)]
  have ow := h.own
  have wa := h.waits
  rw [hnl] at ow
  rw [hkl] at wa
  rw [hnl, hkl] at hle
  obtain ⟨A, c, rfl, hc, hr, hnA⟩ := own_rd ow
  obtain ⟨A', c', rfl, hc', hr', hnA'⟩ := own_rd wa
  have hA : A = none → n = 0 ∧ c = 0 := fun e => by
    have h0 : n = 0 := by
      rcases Nat.eq_zero_or_pos n with h | h
      · exact h
      · obtain ⟨ad, h1, _⟩ := hr.2.2 h; rw [e] at h1; cases h1
    rcases hnA h0 with h1 | h1
    · exact ⟨h0, h1.2⟩
    · exact absurd e h1
  have hA' : A' = none → k = 0 ∧ c' = 0 := fun e => by
    have h0 : k = 0 := by
      rcases Nat.eq_zero_or_pos k with h | h
      · exact h
      · obtain ⟨ad, h1, _⟩ := hr'.2.2 h; rw [e] at h1; cases h1
    rcases hnA' h0 with h1 | h1
    · exact ⟨h0, h1.2⟩
    · exact absurd e h1
  have HCC : Hid (∀ W, Ext w W → ∀ H, Bk W H 22 #[.slice A n c, .slice A' k c'] → Calls Tryd.prog 79 #[.slice (some ⟨H, 0, none⟩) 2 2] W fun e w' => (∃ v, e = .returned v ∧ w'.ownsRow W.heap.size 42 2 v (n + k) ((m.own ++ m.waits).flatMap Ent.cells)) ∧ Ext W w') := Lib.hid fun W e H hB => by
    rw [List.flatMap_append]
    exact ConcatE_any H A A' n k c c' _ _ W hB (hr.ext e) (hr'.ext e) hA hA' hle (ones_ents _) (ones_ents _)
  have hlen : (m.own ++ m.waits).length = n + k := by rw [List.length_append, hnl, hkl]
  have HRT : Hid (∀ W B d, Rd W 2 B (n + k) d ((m.own ++ m.waits).flatMap Ent.cells) → d ≤ maxLen → Calls Tryd.prog 58 #[.slice B (n + k) d] W fun e w' => e = .returned (.int .i64 ro) ∧ Ext W w') := Lib.hid fun W B d hB hd => by
    have := rootOf_ok B (n + k) d (m.own ++ m.waits) W hB hd hall
    rw [hro] at this
    exact this
  have HF8 : Hid (∀ W, Ext w W → Calls Tryd.prog 49 #[.pointer (some ⟨mb, 0, none⟩), .iface 81 (.int .i64 8)] W (MPost W P mb (m.forget, 8))) := Lib.hid fun W e => forget_any P mb _ _ m 8 W (h.ext e) hP
  have HH := Lib.hid h
  have HP := Lib.hid hP
  have HPN := Lib.hid hPn
  have HLEN := Lib.hid hlen
  have HNR := Lib.hid hnr
  have y1 : w.cell? ⟨mb, 1, none⟩ = some (.slice A n c) := h.bk.cell 1
  have y10 : w.cell? ⟨mb, 10, none⟩ = some (.slice A' k c') := h.bk.cell 10
  clear hgd hall hnl hkl hro hnr ow wa hr hr' hnA hnA' hA hA' h hP hPn hn hf hlen
  go_enter Tryd.func50, Tryd.ntmps50
  go_upto_region 1 with (fail)
  go_cut [3] (fun v wc => Hid (wc.ownsRow w.heap.size 42 2 v (n + k) ((m.own ++ m.waits).flatMap Ent.cells)) ∧ Ext w wc)
  case first =>
    as_aux_lemma =>
    go_region_with (go_at_call 79; (with_reducible refine (HCC.out _ ?_ _ ?_).mono ?_); (focus ((repeat (with_reducible first | exact Ext.refl _ | assumption | refine Ext.drew ?_ | refine Ext.drewN ?_ _ | refine Ext.alloc ?_ _ | refine Ext.trans ?_ (by with_reducible assumption))); done)); (focus ((repeat (with_reducible first | assumption | (refine Bk.at_ _ _ _ _ ?_; simp; done) | refine Bk.drew ?_ | refine Bk.drewN ?_ _ | refine Bk.alloc ?_ _ | refine Bk.ext ?_ (by with_reducible assumption))); done)); rintro _ w2 ⟨⟨v2, rfl, own2⟩, hb2⟩)
    all_goals
      have e2 : Ext w w2 := Ext.trans (by (repeat (with_reducible first | exact Ext.refl _ | assumption | refine Ext.drew ?_ | refine Ext.drewN ?_ _ | refine Ext.alloc ?_ _ | refine Ext.trans ?_ (by with_reducible assumption)))) hb2
      go_wp2_with fail
      go_meet
      exact ⟨own_lower own2 (by simp), e2⟩
  case rest =>
  as_aux_lemma =>
  obtain ⟨own2, hb2⟩ := hcut
  obtain ⟨w2, rfl⟩ : ∃ W, W = wc := ⟨_, rfl⟩
  obtain ⟨nk, hnk⟩ : ∃ x, n + k = x := ⟨_, rfl⟩
  rw [hnk] at own2 HRT HLEN hle
  obtain ⟨B2, c2, rfl, hc2, hr2, -⟩ := own_rd own2.out
  have HR2 := Lib.hid hr2
  have HH2 := Lib.hid (HH.out.ext hb2)
  have HE2 := Lib.hid hb2
  have z7 : ∀ x : WE w2, x.W.cell? ⟨mb, 7, none⟩ = some (.int .i64 nr) := fun x => by
    have := (HH2.out.ext x.h).bk.cell 7
    rw [← HNR.out]; exact this
  clear y1 y10 hr2 HCC hnk hb2
  go_wp2_with fail
  (refine wp_region_ext (w0 := w2) (by kernel_rfl) (by kernel_rfl) (by (repeat (with_reducible first | exact Ext.refl _ | assumption | refine Ext.drew ?_ | refine Ext.drewN ?_ _ | refine Ext.alloc ?_ _ | refine Ext.trans ?_ (by with_reducible assumption)))) ?_; (repeat (go_big_quiet_step (((go_at_call 58; exact quietE (HRT.out _ B2 c2 (HR2.out.ext (WE.h _)) hc2)))))); refine wpQuiet_nil ?_)
  intro w3 hb3
  have HE3 := Lib.hid (HE2.out.trans hb3)
  have H3 := HH2.out.ext hb3
  have HH3 := Lib.hid H3
  have HO3 := Lib.hid (own_ext own2.out hb3)
  clear z7 HR2 HH2 own2 hb3 HE2
  by_cases hq : ro = nr
  · have HR := Lib.hid (R2.out hq)
    subst hq
    clear R1 R2 HF8 HRT
    have hg := HG0.out
    rw [HR.out] at hg
    have HG := Lib.hid hg
    obtain ⟨n0, hn0⟩ : ∃ v, m.next.size = v := ⟨_, rfl⟩
    obtain ⟨n2, hn2⟩ : ∃ v, m.next.time = v := ⟨_, rfl⟩
    obtain ⟨n3, hn3⟩ : ∃ v, m.next.sign = v := ⟨_, rfl⟩
    obtain ⟨m0, hm0⟩ : ∃ v, m.head.size = v := ⟨_, rfl⟩
    obtain ⟨m1, hm1⟩ : ∃ v, m.head.root = v := ⟨_, rfl⟩
    obtain ⟨m2, hm2⟩ : ∃ v, m.head.time = v := ⟨_, rfl⟩
    obtain ⟨m3, hm3⟩ : ∃ v, m.head.sign = v := ⟨_, rfl⟩
    have hnx : m.next = ⟨n0, ro, n2, n3⟩ := by rw [← hn0, ← HNR.out, ← hn2, ← hn3]
    have y1 : w3.cell? ⟨mb, 1, none⟩ = some (.slice A n c) := H3.bk.cell 1
    have y2 : w3.cell? ⟨mb, 2, none⟩ = some (.int .i64 m0) := by rw [← hm0]; exact H3.bk.cell 2
    have y3 : w3.cell? ⟨mb, 3, none⟩ = some (.int .i64 m1) := by rw [← hm1]; exact H3.bk.cell 3
    have y4 : w3.cell? ⟨mb, 4, none⟩ = some (.int .i64 m2) := by rw [← hm2]; exact H3.bk.cell 4
    have y5 : w3.cell? ⟨mb, 5, none⟩ = some (.int .i64 m3) := by rw [← hm3]; exact H3.bk.cell 5
    have y6 : w3.cell? ⟨mb, 6, none⟩ = some (.int .i64 n0) := by rw [← hn0]; exact H3.bk.cell 6
    have y7 : w3.cell? ⟨mb, 7, none⟩ = some (.int .i64 ro) := by rw [← HNR.out]; exact H3.bk.cell 7
    have y8 : w3.cell? ⟨mb, 8, none⟩ = some (.int .i64 n2) := by rw [← hn2]; exact H3.bk.cell 8
    have y9 : w3.cell? ⟨mb, 9, none⟩ = some (.int .i64 n3) := by rw [← hn3]; exact H3.bk.cell 9
    have q1 := H3.bk.frozen 1
    have q2 := H3.bk.frozen 2
    have q3 := H3.bk.frozen 3
    have q4 := H3.bk.frozen 4
    have q5 := H3.bk.frozen 5
    have HNX := Lib.hid hnx
    have S := (((((H3.bk.set_ 1 (.slice B2 nk c2)).set_ 2 (.int .i64 n0)).set_ 3 (.int .i64 ro)).set_ 4 (.int .i64 n2)).set_ 5 (.int .i64 n3))
    have S' : Bk (((((w3.setCell ⟨mb, 1, none⟩ (.slice B2 nk c2)).setCell ⟨mb, 2, none⟩ (.int .i64 n0)).setCell ⟨mb, 3, none⟩ (.int .i64 ro)).setCell ⟨mb, 4, none⟩ (.int .i64 n2)).setCell ⟨mb, 5, none⟩ (.int .i64 n3)) mb 83 (mcells m.key (.slice B2 nk c2) ⟨n0, ro, n2, n3⟩ m.next (.slice A' k c')) := S
    have G4 : w3.grownBy (((((w3.setCell ⟨mb, 1, none⟩ (.slice B2 nk c2)).setCell ⟨mb, 2, none⟩ (.int .i64 n0)).setCell ⟨mb, 3, none⟩ (.int .i64 ro)).setCell ⟨mb, 4, none⟩ (.int .i64 n2)).setCell ⟨mb, 5, none⟩ (.int .i64 n3)) (some mb) :=
      gb_trans (gb_trans (gb_trans (gb_trans (gb_set w3 mb 1 _) (gb_set _ mb 2 _)) (gb_set _ mb 3 _)) (gb_set _ mb 4 _)) (gb_set _ mb 5 _)
    have HS := Lib.hid S'
    have HG4 := Lib.hid G4
    clear S S' G4 H3 hn0 hn2 hn3 hm0 hm1 hm2 hm3 hg hnx HG0
    go_wp2_with fail
    have hf := forget_raw mb m.key (.slice B2 nk c2) ⟨n0, ro, n2, n3⟩ m.next (.slice A' k c') 0 _ HS.out
    rw [errR_0] at hf
    refine hf.mono ?_
    rintro _ w5 ⟨rfl, hb5, hg5⟩
    have HB5 := Lib.hid hb5
    clear hb5 hf
    go_wp2_with fail
    go_ret
    rw [HR.out]
    obtain ⟨h1, h2⟩ := HH3.out.put (m' := ⟨m.key, m.own ++ m.waits, m.next, hd00, []⟩) (va' := .slice B2 nk c2) (vw' := .slice none 0 0) HP.out (gb_trans HG4.out hg5) (by rw [HNX.out]; exact HB5.out)
      (by
        have := own_lower HO3.out (Nat.zero_le _)
        show World.ownsRow _ _ _ _ _ (m.own ++ m.waits).length _
        rw [HLEN.out]; exact this) (own_nil _ _ _ _) (fun g _ hg => by simp [Value.ownBlock] at hg) HG.out (fun g hg => HPN.out g (own_block HO3.out g hg)) (fun g hg => by simp [Value.ownBlock] at hg)
    exact ⟨rfl, h1, (HE3.out.chg P).trans h2 fun _ _ h => h⟩
  · have HR := Lib.hid (R1.out hq)
    have hb : (ro == nr) = false := beq_eq_false_iff_ne.2 hq
    clear R1 R2 HRT hq H3 HG0
    go_wp2_with fail
    refine (HF8.out _ HE3.out).mono ?_
    rintro _ w4 hp
    obtain ⟨rfl, hp2, hp3⟩ := hp
    have HP2 := Lib.hid hp2
    have HP3 := Lib.hid hp3
    clear hp2 hp3
    go_wp2_with fail
    go_ret
    rw [HR.out]
    exact ⟨rfl, HP2.out, (HE3.out.chg P).trans HP3.out fun _ _ h => h⟩
end Go.Proofs.YtdpfebokbikgfaaDoor

/- A mirror in memory: entries are heard. -/
namespace Go.Proofs.YtdpfebokbikgfaaDoor
open Go.RowKit Go.WideShapes
set_option linter.unusedVariables false
attribute [local go_sem ↓] Go.wp_at_zero Go.wp_at_succ

theorem eCheckE_any (e : Ent) (w : World) : Calls Tryd.prog 40 #[e.val] w fun v w' => v = .returned (errR (if e.ok then 0 else e.err)) ∧ Ext w w' := by
  obtain ⟨t, s⟩ := e
  by_cases h : (⟨t, s⟩ : Ent).ok
  · rw [if_pos h]
    exact eCheck_ok t s w h
  · rw [if_neg h]
    refine (eCheck_bad t s w h).mono fun v w' ⟨hv, hb⟩ => ⟨?_, hb⟩
    rw [hv, errR_ne (Ent.err_ne _)]
theorem Mi.Good.add {m : Mi} {l : List Ent} (h : m.Good) (hn : m.next.size ≠ 0) (hl : ∀ e ∈ l, e.ok) (hlen : m.have_ + l.length ≤ m.next.size) : ({ m with waits := m.waits ++ l } : Mi).Good :=
  ⟨h.own, fun e he => (List.mem_append.1 he).elim (h.waits e) (hl e), fun k => absurd k hn, fun k => ⟨by
    show (m.own.length : Int) + ((m.waits ++ l).length : Int) ≤ m.next.size
    rw [List.length_append]
    unfold Mi.have_ at hlen
    omega, (h.room k).2⟩, h.next, h.head, h.size⟩
theorem firstErr_at {l : List Ent} {j : Nat} {e : Ent} (h : l[j]? = some e) (hok : ∀ (i : Nat) (f : Ent), i < j → l[i]? = some f → f.ok) (hb : ¬ e.ok) : firstErr l = e.err := by
  obtain ⟨i, f, h1, h2, h3, h4⟩ := first_bad (es := l) (fun k => hb (k e (List.mem_of_getElem? h)))
  have : i = j := by
    rcases Nat.lt_trichotomy i j with h | h | h
    · exact absurd (hok i f h h1) h2
    · exact h
    · exact absurd (h3 j e h ‹_›) hb
  subst this
  rw [h] at h1
  injection h1 with h1
  rw [h4, h1]

set_option maxRecDepth 100000 in
set_option maxHeartbeats 4000000 in
theorem hearE_any (P : Nat → Prop) (mb : Nat) (va vw : Value) (m : Mi) (A : Option Addr) (n c : Nat) (l : List Ent) (w : World) (h : MiAt 83 w mb va vw m) (hP : ∀ g, MFoot mb va vw g → P g) (hPn : ∀ g, w.heap.size ≤ g → P g)
    (hr : Rd w 2 A n c (l.flatMap Ent.cells)) (hm : c ≤ maxLen) (hw : m.want.what = 2) :
    Calls Tryd.prog 47 #[.pointer (some ⟨mb, 0, none⟩), .slice A n c] w (MPost w P mb (m.hearE l)) := by
  obtain ⟨hE, hN, hG0⟩ := errR_rules
  have hnz : m.next.size ≠ 0 := fun e => by unfold Mi.want at hw; rw [if_pos e] at hw; cases hw
  have hfz : m.have_ ≠ m.next.size := fun e => by unfold Mi.want at hw; rw [if_neg hnz, if_pos e] at hw; cases hw
  have ww : m.want = ⟨2, m.have_, min m.next.size (m.have_ + 16)⟩ := by unfold Mi.want; rw [if_neg hnz, if_neg hfz]
  have hgd := h.good
  have HG := Lib.hid (hgd.hearE (l := l) hw)
  have hle := hgd.have_le
  have hnx := hgd.nsz
  have hrm := (hgd.room hnz).1
  have hlen := hr.lenE
  obtain ⟨o, ho⟩ : ∃ x, m.own.length = x := ⟨_, rfl⟩
  obtain ⟨k, hk⟩ : ∃ x, m.waits.length = x := ⟨_, rfl⟩
  obtain ⟨hv, hhv⟩ : ∃ x, m.have_ = x := ⟨_, rfl⟩
  obtain ⟨ns, hns⟩ : ∃ x, m.next.size = x := ⟨_, rfl⟩
  have hhv2 : hv = (o : Int) + (k : Int) := by rw [← hhv, ← ho, ← hk]; rfl
  rw [ho, hk] at hle
  rw [hhv, hns] at hrm
  rw [hns] at hnx
  rw [hns, hhv] at ww
  obtain ⟨to_, hto⟩ : ∃ x, min ns (hv + 16) = x := ⟨_, rfl⟩
  rw [hto] at ww
  have hto2 : to_ ≤ ns ∧ to_ ≤ hv + 16 ∧ hv ≤ to_ := by omega
  have hv0 : 0 ≤ hv ∧ hv ≤ 200 := by omega
  have HHV := Lib.hid hhv2
  have R1 : Hid (((n : Int) < 1 ∨ to_ - hv < n) → m.hearE l = (m.forget, 3)) := Lib.hid fun e => by
    unfold Mi.hearE; rw [ww, hlen]; exact if_pos e
  have R2 : Hid (¬ ((n : Int) < 1 ∨ to_ - hv < n) → firstErr l ≠ 0 → m.hearE l = (m.forget, firstErr l)) := Lib.hid fun e e2 => by
    unfold Mi.hearE; rw [ww, hlen]; dsimp only; rw [if_neg e, if_pos e2]
  have R3 : Hid (¬ ((n : Int) < 1 ∨ to_ - hv < n) → firstErr l = 0 → (o = 0 ∧ ((k + n : Nat) : Int) = ns) → m.hearE l = ({ m with waits := m.waits ++ l } : Mi).settle) := Lib.hid fun e e2 e3 => by
    unfold Mi.hearE; rw [ww, hlen]; dsimp only; rw [if_neg e, if_neg (not_not_intro e2), ho, List.length_append, hk, hlen, hns, if_pos e3]
  have R4 : Hid (¬ ((n : Int) < 1 ∨ to_ - hv < n) → firstErr l = 0 → ¬ (o = 0 ∧ ((k + n : Nat) : Int) = ns) → m.hearE l = ({ m with waits := m.waits ++ l }, 0)) := Lib.hid fun e e2 e3 => by
    unfold Mi.hearE; rw [ww, hlen]; dsimp only; rw [if_neg e, if_neg (not_not_intro e2), ho, List.length_append, hk, hlen, hns, if_neg e3]
  have HWT : Hid (∀ W, Ext w W → Calls Tryd.prog 20 #[.pointer (some ⟨mb, 0, none⟩)] W fun e w' => e = .returned (.agg #[.int .i64 2, .int .i64 hv, .int .i64 to_]) ∧ Ext W w') := Lib.hid fun W e => by
    have := MWant_any mb va vw m W (h.ext e)
    rw [ww] at this; exact this
  have HF : Hid (∀ k W, Ext w W → Calls Tryd.prog 49 #[.pointer (some ⟨mb, 0, none⟩), errR k] W (MPost W P mb (m.forget, k))) := Lib.hid fun k W e => forget_any P mb va vw m k W (h.ext e) hP
  have HF3 : Hid (∀ W, Ext w W → Calls Tryd.prog 49 #[.pointer (some ⟨mb, 0, none⟩), .iface 81 (.int .i64 3)] W (MPost W P mb (m.forget, 3))) := Lib.hid fun W e => forget_any P mb va vw m 3 W (h.ext e) hP
  have HGA : Hid ((∀ e ∈ l, e.ok) → hv + (n : Int) ≤ ns → ({ m with waits := m.waits ++ l } : Mi).Good) := Lib.hid fun e e2 => hgd.add hnz e (by rw [hhv, hns, hlen]; exact e2)
  have HH := Lib.hid h
  have HP := Lib.hid hP
  have HPN := Lib.hid hPn
  have HR := Lib.hid hr
  have HX := Lib.hid hlen
  have HO := Lib.hid ho
  have HK := Lib.hid hk
  have HNS := Lib.hid hns
  have HNZ : Hid (ns ≠ 0) := by rw [← hns]; exact hnz
  have hlc := hr.2.1
  have hms : c ≤ 9223372036854775807 := by unfold maxLen at hm; omega
  clear hnz hfz ww hgd hlen ho hk hhv hns h hP hPn hr hw hto hhv2
  go_enter Tryd.func47, Tryd.ntmps47
  go_wp2_with fail
  refine (HWT.out _ (Ext.refl _)).mono ?_
  rintro _ w1 ⟨rfl, hb1⟩
  have B1 := Bk.at_ w1 55 #[.int .i64 2, .int .i64 hv, .int .i64 to_] w1.heap.size rfl
  have e1 : Ext w (w1.alloc (.cells #[.int .i64 2, .int .i64 hv, .int .i64 to_] 55)) := hb1.alloc _
  go_upto_region 2 with (fail)
  generalize w1.alloc (.cells #[.int .i64 2, .int .i64 hv, .int .i64 to_] 55) = W1 at *
  generalize w1.heap.size = g1 at *
  have y1 := B1.cell 1
  have y2 := B1.cell 2
  have HE1 := Lib.hid e1
  have hsub : IntKind.i64.wrap (to_ - hv) = to_ - hv := IntWalk.i64_in _ (by omega)
  clear hb1 e1 HWT
  by_cases h1 : (n : Int) < 1
  · have HRR := Lib.hid (R1.out (.inl h1))
    clear R1 R2 R3 R4 HF
    go_wp2_with fail
    refine (HF3.out _ HE1.out).mono ?_
    rintro _ w4 ⟨rfl, hp2, hp3⟩
    have HP2 := Lib.hid hp2
    have HP3 := Lib.hid hp3
    clear hp2 hp3
    go_wp2_with fail
    go_ret
    rw [HRR.out]
    exact ⟨rfl, HP2.out, (HE1.out.chg P).trans HP3.out fun _ _ h => h⟩
  by_cases h2 : to_ - hv < (n : Int)
  · have HRR := Lib.hid (R1.out (.inr h2))
    clear R1 R2 R3 R4 HF
    go_wp2_with fail
    refine (HF3.out _ HE1.out).mono ?_
    rintro _ w4 ⟨rfl, hp2, hp3⟩
    have HP2 := Lib.hid hp2
    have HP3 := Lib.hid hp3
    clear hp2 hp3
    go_wp2_with fail
    go_ret
    rw [HRR.out]
    exact ⟨rfl, HP2.out, (HE1.out.chg P).trans HP3.out fun _ _ h => h⟩
  have hno : ¬ ((n : Int) < 1 ∨ to_ - hv < n) := by omega
  have HNO := Lib.hid hno
  have hn16 : n ≤ 16 := by omega
  have hn1 : 1 ≤ n := by omega
  clear R1 HF3 hno
  go_wp2_with fail
  go_loopw [29] (fun x wr => ∃ j : Nat, x = .int .i64 j ∧ j ≤ n ∧ Ext w wr ∧ Hid (∀ (i : Nat) (f : Ent), i < j → l[i]? = some f → f.ok)) (fun x _ => n - (intOf x).toNat)
  case atStart => exact ⟨0, rfl, Nat.zero_le _, HE1.out, Lib.hid fun i y h => absurd h (by omega)⟩
  case round =>
    obtain ⟨j, rfl, hj, hbw, HOK⟩ := hrel
    by_cases hc : j < n
    · have hgj := List.getElem?_eq_getElem (l := l) (i := j) (by rw [HX.out]; exact hc)
      obtain ⟨ad, rfl, hb, c0, c1⟩ := (HR.out.ext hbw).getE hgj
      generalize l[j]'(by rw [HX.out]; exact hc) = x at *
      have HGJ := Lib.hid hgj
      have HC := Lib.hid fun W => eCheckE_any x W
      have HCE : Hid (¬ x.ok → firstErr l = x.err) := Lib.hid fun e => firstErr_at HGJ.out (fun i y hi hy => HOK.out i y hi hy) e
      clear hgj
      by_cases hx : x.ok
      · have HXK := Lib.hid hx
        rw [if_pos hx, errR_0] at HC
        clear hx HCE
        obtain ⟨xt, xd⟩ := x
        simp only [Ent.val] at HC c0 c1
        go_wp2_with fail
        refine (HC.out _).mono ?_
        rintro _ w2 ⟨rfl, hb2⟩
        have e2 : Ext w w2 := Ext.trans (by (repeat (with_reducible first | exact Ext.refl _ | assumption | refine Ext.drew ?_ | refine Ext.drewN ?_ _ | refine Ext.alloc ?_ _ | refine Ext.trans ?_ (by with_reducible assumption)))) hb2
        go_wp2_with fail
        go_roundw
        case rel => exact ⟨j + 1, by go_num, by omega, e2, Lib.hid fun i y hi hy => by
          by_cases hij : i = j
          · subst hij
            have h1 := HGJ.out
            rw [hy] at h1
            injection h1 with h1
            rw [h1]; exact HXK.out
          · exact HOK.out i y (by omega) hy⟩
        case measure => simp [intOf]; omega
      · have hfe := HCE.out hx
        rw [if_neg hx] at HC
        have hne := Ent.err_ne x
        rw [← hfe] at HC hne
        have HRR := Lib.hid (R2.out HNO.out hne)
        obtain ⟨fe, hfe2⟩ : ∃ v, firstErr l = v := ⟨_, rfl⟩
        rw [hfe2] at HC hne HRR
        have hok := isOk_no hne
        clear hx hfe hne hfe2 HCE R2 R3 R4
        obtain ⟨xt, xd⟩ := x
        simp only [Ent.val] at HC c0 c1
        go_wp2_with fail
        refine (HC.out _).mono ?_
        rintro _ w2 ⟨rfl, hb2⟩
        have e2 : Ext w w2 := Ext.trans (by (repeat (with_reducible first | exact Ext.refl _ | assumption | refine Ext.drew ?_ | refine Ext.drewN ?_ _ | refine Ext.alloc ?_ _ | refine Ext.trans ?_ (by with_reducible assumption)))) hb2
        have HE2 := Lib.hid e2
        clear e2 hb2
        go_wp2_with fail
        refine (HF.out fe _ HE2.out).mono ?_
        rintro _ w4 ⟨rfl, hp2, hp3⟩
        have HP2 := Lib.hid hp2
        have HP3 := Lib.hid hp3
        clear hp2 hp3
        go_wp2_with fail
        go_ret
        rw [HRR.out]
        exact ⟨rfl, HP2.out, (HE2.out.chg P).trans HP3.out fun _ _ h => h⟩
    · obtain rfl : j = n := by omega
      have hall : ∀ e ∈ l, e.ok := fun e he => by
        obtain ⟨i, hi⟩ := List.getElem?_of_mem he
        exact HOK.out i e (by rw [← HX.out]; exact (List.getElem?_eq_some_iff.1 hi).1) hi
      have HFE := Lib.hid (firstErr_ok hall)
      have HGM := Lib.hid (HGA.out hall (by omega))
      obtain ⟨ad, hAd, hbA, hcA⟩ := (HR.out.ext hbw).2.2 (by omega)
      subst hAd
      obtain ⟨i0, hi0, hz0, hz1, hz2⟩ := info_parts info_ent
      have Hr := HH.out.ext hbw
      have HHr := Lib.hid Hr
      have HEr := Lib.hid hbw
      have HCA := Lib.hid hcA
      have HLL := Lib.hid (HR.out.1)
      have HWA : Hid (wr.ownsRow 0 42 2 vw k (m.waits.flatMap Ent.cells)) := by
        have := Hr.waits
        rw [HK.out] at this; exact this
      have HNE := Lib.hid (own_type HWA.out Hr.bk (by decide))
      have u10 : wr.cell? ⟨mb, 10, none⟩ = some vw := Hr.bk.cell 10
      clear hall HOK HGA HNO Hr hcA hbA hbw HF hc hj
      obtain ⟨A1, c1, hva, hc1, -, -⟩ := own_rd HHr.out.own
      rw [HO.out] at hva
      have HVA := Lib.hid hva
      have hkn : (k : Int) + (j : Int) ≤ ns := by
        have := HHV.out
        omega
      clear hva
      go_upto_region 12 with (at_builtin; refine wpl_apps (by rfl) _ _ _ (by rfl) 0 42 i0 _ 2 24 Tryd.underlying22 hi0 hz0 hz1 hz2 rfl (by omega) _ _ _ (by rfl) HWA.out ad j c _ (by rfl) HLL.out HCA.out (ones_ents _) (by omega) (by omega) (by omega) (Nat.zero_le _) ?_; intro g cap w5 own5 hg5 hH5 hl5; have B5 := HHr.out.bk.kept hg5 HNE.out; have v10 : w5.cell? ⟨mb, 10, none⟩ = some vw := B5.cell 10; have q10 := B5.frozen 10)
      have B6 : Bk (w5.setCell ⟨mb, 10, none⟩ (.slice (some ⟨g, 0, none⟩) (k + j) cap)) mb 83 (mcells m.key va m.head m.next (.slice (some ⟨g, 0, none⟩) (k + j) cap)) := B5.set_ 10 _
      have hset := gb_set w5 mb 10 (.slice (some ⟨g, 0, none⟩) (k + j) cap)
      have hgm : g ≠ mb := fun e => own_type own5 B5 (by decide) (by rw [e]; rfl)
      have M6 : ({ m with waits := m.waits ++ l } : Mi).Good → MiAt 83 (w5.setCell ⟨mb, 10, none⟩ (.slice (some ⟨g, 0, none⟩) (k + j) cap)) mb va (.slice (some ⟨g, 0, none⟩) (k + j) cap) { m with waits := m.waits ++ l } := fun hgood => by
        refine ⟨B6, ?_, ?_, ?_, hgood⟩
        · refine (HHr.out.own.kept hg5 ?_).kept hset (.inr (own_type HHr.out.own HHr.out.bk (by decide)))
          cases hb : va.ownBlock with
          | none => exact .inl rfl
          | some g' => exact .inr fun e => HHr.out.apart g' hb e.symm
        · have := own5.kept hset (.inr (own_type own5 B5 (by decide)))
          rw [← List.flatMap_append] at this
          show World.ownsRow _ _ _ _ _ (m.waits ++ l).length _
          rw [List.length_append, HK.out, HX.out]
          exact this
        · intro g' hg' e
          have e' : g = g' := by simpa [Value.ownBlock] using e
          subst e'
          rcases hH5 with h | h
          · exact HHr.out.apart g hg' h
          · have := (HHr.out.own.lt g hg').2; omega
      have F6 : ∀ x, MFoot mb va (.slice (some ⟨g, 0, none⟩) (k + j) cap) x → P x := fun x hx => by
        rcases hx with rfl | hx | hx
        · exact HP.out _ (.inl rfl)
        · exact HP.out _ (.inr (.inl hx))
        · have e' : g = x := by simpa [Value.ownBlock] using hx
          subst e'
          rcases hH5 with h | h
          · exact HP.out _ (.inr (.inr h))
          · exact HPN.out _ (by have := HEr.out.size; omega)
      have C6 : Chg w (w5.setCell ⟨mb, 10, none⟩ (.slice (some ⟨g, 0, none⟩) (k + j) cap)) P :=
        ((HEr.out.chg P).trans ((gb_chg hg5).mono fun x _ hx => HP.out x (.inr (.inr hx))) fun _ _ h => h).trans ((gb_chg hset).mono fun x _ hx => by injection hx with hx; subst hx; exact HP.out _ (.inl rfl)) fun _ _ h => h
      have HM6 := Lib.hid (M6 HGM.out)
      have HF6 := Lib.hid F6
      have HC6 := Lib.hid C6
      have HB6 := Lib.hid B6
      clear B6 hset M6 F6 C6 own5 hg5 hH5 B5 v10 q10 HWA HLL HCA u10
      generalize w5.setCell ⟨mb, 10, none⟩ (.slice (some ⟨g, 0, none⟩) (k + j) cap) = w6 at *
      have y1 : w6.cell? ⟨mb, 1, none⟩ = some (.slice A1 o c1) := by rw [← HVA.out]; exact HB6.out.cell 1
      have y10 : w6.cell? ⟨mb, 10, none⟩ = some (.slice (some ⟨g, 0, none⟩) (k + j) cap) := HB6.out.cell 10
      have y6 : w6.cell? ⟨mb, 6, none⟩ = some (.int .i64 ns) := by rw [← HNS.out]; exact HB6.out.cell 6
      by_cases h0 : o = 0 ∧ ((k + j : Nat) : Int) = ns
      · have HRR := Lib.hid (R3.out (by omega) HFE.out h0)
        have HSE : Hid (∀ W, Ext w6 W → Calls Tryd.prog 50 #[.pointer (some ⟨mb, 0, none⟩)] W (MPost W P mb ({ m with waits := m.waits ++ l } : Mi).settle)) := Lib.hid fun W e =>
          settle_any P mb _ _ _ W (HM6.out.ext e) HF6.out (fun g hg => HPN.out g (by have := HC6.out.size; have := e.size; omega)) (by show m.next.size ≠ 0; rw [HNS.out]; exact HNZ.out) (by
            show (m.own.length : Int) + ((m.waits ++ l).length : Int) = m.next.size
            rw [List.length_append, HO.out, HK.out, HX.out, HNS.out]
            have := h0.1
            have := h0.2
            omega)
        obtain ⟨h01, h02⟩ := h0
        subst h01
        have hkj : ((k + j : Nat) : Int) = ns := h02
        clear R3 R4 HGM HNZ h02
        subst hkj
        go_wp2_with fail
        go_quiet (fail)
        go_wp2_with fail
        refine (HSE.out _ (by (repeat (with_reducible first | exact Ext.refl _ | assumption | refine Ext.drew ?_ | refine Ext.drewN ?_ _ | refine Ext.alloc ?_ _ | refine Ext.trans ?_ (by with_reducible assumption))))).mono ?_
        rintro _ w8 ⟨rfl, hp2, hp3⟩
        have HP2 := Lib.hid hp2
        have HP3 := Lib.hid hp3
        clear hp2 hp3
        go_wp2_with fail
        go_ret
        rw [HRR.out]
        exact ⟨rfl, HP2.out, HC6.out.trans ((show Ext w6 _ from by (repeat (with_reducible first | exact Ext.refl _ | assumption | refine Ext.drew ?_ | refine Ext.drewN ?_ _ | refine Ext.alloc ?_ _ | refine Ext.trans ?_ (by with_reducible assumption)))).chg P |>.trans HP3.out fun _ _ h => h) fun _ _ h => h⟩
      · have HRR := Lib.hid (R4.out (by omega) HFE.out h0)
        by_cases h01 : o = 0
        · subst h01
          have hb : (((k + j : Nat) : Int) == ns) = false := beq_eq_false_iff_ne.2 fun e => h0 ⟨rfl, e⟩
          have hb' : ((k : Int) + (j : Int) == ns) = false := beq_eq_false_iff_ne.2 fun e => h0 ⟨rfl, by omega⟩
          clear R3 R4 HNZ h0
          go_wp2_with fail
          go_quiet (fail)
          go_wp2_with fail
          go_ret
          rw [HRR.out]
          exact ⟨rfl, (show MM _ w6 P mb _ from ⟨_, _, HM6.out, HF6.out⟩).ext (by (repeat (with_reducible first | exact Ext.refl _ | assumption | refine Ext.drew ?_ | refine Ext.drewN ?_ _ | refine Ext.alloc ?_ _ | refine Ext.trans ?_ (by with_reducible assumption)))), HC6.out.trans ((show Ext w6 _ from by (repeat (with_reducible first | exact Ext.refl _ | assumption | refine Ext.drew ?_ | refine Ext.drewN ?_ _ | refine Ext.alloc ?_ _ | refine Ext.trans ?_ (by with_reducible assumption)))).chg P) fun _ _ h => h⟩
        · have hb : ((o : Int) == 0) = false := beq_eq_false_iff_ne.2 (by omega)
          clear R3 R4 HNZ h0
          go_wp2_with fail
          go_quiet (fail)
          go_wp2_with fail
          go_ret
          rw [HRR.out]
          exact ⟨rfl, (show MM _ w6 P mb _ from ⟨_, _, HM6.out, HF6.out⟩).ext (by (repeat (with_reducible first | exact Ext.refl _ | assumption | refine Ext.drew ?_ | refine Ext.drewN ?_ _ | refine Ext.alloc ?_ _ | refine Ext.trans ?_ (by with_reducible assumption)))), HC6.out.trans ((show Ext w6 _ from by (repeat (with_reducible first | exact Ext.refl _ | assumption | refine Ext.drew ?_ | refine Ext.drewN ?_ _ | refine Ext.alloc ?_ _ | refine Ext.trans ?_ (by with_reducible assumption)))).chg P) fun _ _ h => h⟩
end Go.Proofs.YtdpfebokbikgfaaDoor

/- A mirror in memory: Hear. -/
namespace Go.Proofs.YtdpfebokbikgfaaDoor
open Go.RowKit Go.WideShapes
set_option linter.unusedVariables false
attribute [local go_sem ↓] Go.wp_at_zero Go.wp_at_succ

/-- a reply as a value -/
abbrev replyV (what : Int) (h : Hd) (A : Option Addr) (n c : Nat) (A' : Option Addr) (n' c' : Nat) : Value := .agg #[.int .i64 what, .int .i64 h.size, .int .i64 h.root, .int .i64 h.time, .int .i64 h.sign, .slice A n c, .slice A' n' c']
set_option maxRecDepth 100000 in
set_option maxHeartbeats 4000000 in
theorem HearP_any (P : Nat → Prop) (mb : Nat) (va vw : Value) (m : Mi) (r : Rp) (A : Option Addr) (n c : Nat) (A' : Option Addr) (n' c' : Nat) (w : World) (h : MiAt 83 w mb va vw m) (hP : ∀ g, MFoot mb va vw g → P g) (hPn : ∀ g, w.heap.size ≤ g → P g)
    (hD : DebG w) (hPow : PowG w) (hr : Rd w 2 A n c (r.ents.flatMap Ent.cells)) (hm : c ≤ maxLen) (hr' : Rd w 1 A' n' c' (r.proof.map (Value.int .i64))) (hm' : c' ≤ maxLen) :
    Calls Tryd.prog 19 #[.pointer (some ⟨mb, 0, none⟩), replyV r.what r.head A n c A' n' c'] w (MPost w P mb (m.hear r)) := by
  obtain ⟨hE, hN, hG0⟩ := errR_rules
  obtain ⟨rw_, rh, res, rps⟩ := r
  dsimp only at hr hr' ⊢
  have hww := m.want_what
  obtain ⟨o, ho⟩ : ∃ x, m.own.length = x := ⟨_, rfl⟩
  obtain ⟨wt, hwt⟩ : ∃ x, m.want = x := ⟨_, rfl⟩
  obtain ⟨ro, hro⟩ : ∃ x, rootE m.own = x := ⟨_, rfl⟩
  obtain ⟨ns, hns⟩ : ∃ x, m.next.size = x := ⟨_, rfl⟩
  obtain ⟨nr, hnr⟩ : ∃ x, m.next.root = x := ⟨_, rfl⟩
  obtain ⟨gk, hgk⟩ : ∃ x, gcheck ro o nr ns rps = x := ⟨_, rfl⟩
  have hwnz : wt.what ≠ 0 := by rw [← hwt]; omega
  have R0 : Hid (rw_ = 0 → m.hear ⟨rw_, rh, res, rps⟩ = (m, 0)) := Lib.hid fun e => if_pos e
  have R1 : Hid (rw_ ≠ 0 → rw_ ≠ wt.what → m.hear ⟨rw_, rh, res, rps⟩ = (m, 3)) := Lib.hid fun e e2 => by unfold Mi.hear; rw [hwt, if_neg e, if_pos e2]
  have R2 : Hid (wt.what = 1 → m.hear ⟨1, rh, res, rps⟩ = m.hearH rh) := Lib.hid fun e => by unfold Mi.hear; rw [hwt, if_neg (by show ¬ (1 : Int) = 0; decide), if_neg (by show ¬ (1 : Int) ≠ wt.what; rw [e]; decide), if_pos rfl]
  have R3 : Hid (wt.what = 2 → m.hear ⟨2, rh, res, rps⟩ = m.hearE res) := Lib.hid fun e => by unfold Mi.hear; rw [hwt, if_neg (by show ¬ (2 : Int) = 0; decide), if_neg (by show ¬ (2 : Int) ≠ wt.what; rw [e]; decide), if_neg (by show ¬ (2 : Int) = 1; decide), if_pos rfl]
  have R4 : Hid (wt.what = 3 → gk ≠ 0 → m.hear ⟨3, rh, res, rps⟩ = (m.forget, gk)) := Lib.hid fun e e2 => by
    unfold Mi.hear; rw [hwt, if_neg (by show ¬ (3 : Int) = 0; decide), if_neg (by show ¬ (3 : Int) ≠ wt.what; rw [e]; decide), if_neg (by show ¬ (3 : Int) = 1; decide), if_neg (by show ¬ (3 : Int) = 2; decide)]
    unfold Mi.hearP; rw [hro, ho, hnr, hns]; dsimp only; rw [hgk, if_pos e2]
  have R5 : Hid (wt.what = 3 → gk = 0 → m.hear ⟨3, rh, res, rps⟩ = m.settle) := Lib.hid fun e e2 => by
    unfold Mi.hear; rw [hwt, if_neg (by show ¬ (3 : Int) = 0; decide), if_neg (by show ¬ (3 : Int) ≠ wt.what; rw [e]; decide), if_neg (by show ¬ (3 : Int) = 1; decide), if_neg (by show ¬ (3 : Int) = 2; decide)]
    unfold Mi.hearP; rw [hro, ho, hnr, hns]; dsimp only; rw [hgk, if_neg (not_not_intro e2)]
  have hw3 : wt.what = 3 → m.next.size ≠ 0 ∧ m.have_ = m.next.size := fun e => by
    rw [← hwt] at e
    have hn : m.next.size ≠ 0 := fun e2 => by unfold Mi.want at e; rw [if_pos e2] at e; cases e
    refine ⟨hn, ?_⟩
    unfold Mi.want at e
    rw [if_neg hn] at e
    split at e
    · assumption
    · cases e
  have hw1 : wt.what = 1 → m.next.size = 0 := fun e => by rw [← hwt] at e; omega
  have HWT : Hid (∀ W, Ext w W → Calls Tryd.prog 20 #[.pointer (some ⟨mb, 0, none⟩)] W fun e w' => e = .returned wt.val ∧ Ext W w') := Lib.hid fun W e => by
    have := MWant_any mb va vw m W (h.ext e)
    rw [hwt] at this
    exact this
  have HH1 : Hid (wt.what = 1 → ∀ W, Ext w W → Calls Tryd.prog 46 #[.pointer (some ⟨mb, 0, none⟩), rh.val] W (MPost W P mb (m.hearH rh))) := Lib.hid fun e W k => hearH_any P mb va vw m rh W (h.ext k) hP (hD.ext k) (hPow.ext k) (hw1 e)
  have HH2 : Hid (wt.what = 2 → ∀ W, Ext w W → Calls Tryd.prog 47 #[.pointer (some ⟨mb, 0, none⟩), .slice A n c] W (MPost W P mb (m.hearE res))) := Lib.hid fun e W k => hearE_any P mb va vw m A n c res W (h.ext k) hP (fun g hg => hPn g (by have := k.size; omega)) (hr.ext k) hm (by rw [hwt]; exact e)
  have HH3 : Hid (wt.what = 3 → ∀ W, Ext w W → Calls Tryd.prog 50 #[.pointer (some ⟨mb, 0, none⟩)] W (MPost W P mb m.settle)) := Lib.hid fun e W k => settle_any P mb va vw m W (h.ext k) hP (fun g hg => hPn g (by have := k.size; omega)) (hw3 e).1 (hw3 e).2
  have HF : Hid (∀ W, Ext w W → Calls Tryd.prog 49 #[.pointer (some ⟨mb, 0, none⟩), errR gk] W (MPost W P mb (m.forget, gk))) := Lib.hid fun W e => forget_any P mb va vw m gk W (h.ext e) hP
  have HRO : Hid (∀ W, Ext w W → Calls Tryd.prog 26 #[.pointer (some ⟨mb, 0, none⟩)] W fun e w' => e = .returned (.int .i64 ro) ∧ Ext W w') := Lib.hid fun W e => by
    have := MRoot_any mb va vw m W (h.ext e)
    rw [hro] at this; exact this
  have HGC : Hid (∀ W, Ext w W → Calls Tryd.prog 48 #[.int .i64 ro, .int .i64 o, .int .i64 nr, .int .i64 ns, .slice A' n' c'] W fun e w' => e = .returned (errR gk) ∧ Ext W w') := Lib.hid fun W e => by
    have := GCheck_any ro o nr ns A' n' c' rps W (hr'.ext e) hm'
    rw [hgk] at this; exact this
  have HH := Lib.hid h
  have HP := Lib.hid hP
  obtain ⟨A1, c1, hva, hc1, -, -⟩ := own_rd h.own
  rw [ho] at hva
  have HVA := Lib.hid hva
  have HNS := Lib.hid hns
  have HNR := Lib.hid hnr
  have hww' : wt.what = 1 ∨ wt.what = 2 ∨ wt.what = 3 := by rw [← hwt]; omega
  have hr2 := hr.2.1
  have hr2' := hr'.2.1
  clear hww ho hwt hro hns hnr hgk hw3 hw1 h hP hPn hD hPow hr hr' hva
  obtain ⟨h0, h1, h2, h3⟩ := rh
  obtain ⟨tw, tf, tt⟩ := wt
  simp only [Hd.val, Wt.val, replyV] at *
  have B0 := Bk.at_ w 53 #[.int .i64 rw_, .int .i64 h0, .int .i64 h1, .int .i64 h2, .int .i64 h3, .slice A n c, .slice A' n' c'] w.heap.size rfl
  have e0 : Ext w (w.alloc (.cells #[.int .i64 rw_, .int .i64 h0, .int .i64 h1, .int .i64 h2, .int .i64 h3, .slice A n c, .slice A' n' c'] 53)) := (Ext.refl _).alloc _
  go_enter Tryd.func19, Tryd.ntmps19
  go_upto_region 1 with (fail)
  generalize w.alloc (.cells #[.int .i64 rw_, .int .i64 h0, .int .i64 h1, .int .i64 h2, .int .i64 h3, .slice A n c, .slice A' n' c'] 53) = W0 at *
  generalize w.heap.size = g0 at *
  have HE0 := Lib.hid e0
  clear e0
  go_wp2_with fail
  refine (HWT.out _ HE0.out).mono ?_
  rintro _ w1 ⟨rfl, hb1⟩
  have B1 := Bk.at_ w1 55 #[.int .i64 tw, .int .i64 tf, .int .i64 tt] w1.heap.size rfl
  have e1 : Ext W0 (w1.alloc (.cells #[.int .i64 tw, .int .i64 tf, .int .i64 tt] 55)) := hb1.alloc _
  go_upto_region 2 with (fail)
  generalize w1.alloc (.cells #[.int .i64 tw, .int .i64 tf, .int .i64 tt] 55) = W1 at *
  generalize w1.heap.size = g1 at *
  have HE2 := Lib.hid (HE0.out.trans e1)
  have B2 := B0.ext e1
  have HB2 := Lib.hid B2
  have HH1' := Lib.hid (HH.out.ext HE2.out)
  have y0 : W1.cell? ⟨g0, 0, none⟩ = some (.int .i64 rw_) := B2.cell 0
  have z0 : W1.cell? ⟨g1, 0, none⟩ = some (.int .i64 tw) := B1.cell 0
  clear hb1 e1 HWT HE0 B0 B1
  by_cases q0 : rw_ = 0
  · have HR := Lib.hid (R0.out q0)
    subst q0
    clear R1 R2 R3 R4 R5 HH1 HH2 HH3 HF HRO HGC B2
    go_wp2_with fail
    go_ret
    rw [HR.out]
    exact MPost.stay HH.out HP.out HE2.out
  have qb0 : (rw_ == 0) = false := beq_eq_false_iff_ne.2 q0
  by_cases q1 : rw_ = tw
  case neg =>
    have HR := Lib.hid (R1.out q0 q1)
    have qb1 : (rw_ == tw) = false := beq_eq_false_iff_ne.2 q1
    clear R0 R2 R3 R4 R5 HH1 HH2 HH3 HF HRO HGC B2 q0 q1
    go_wp2_with fail
    go_ret
    rw [HR.out]
    exact MPost.stay HH.out HP.out HE2.out
  subst q1
  clear R0 R1
  rcases hww' with q2 | q2 | q2
  · obtain rfl : rw_ = 1 := q2
    have HR := Lib.hid (R2.out rfl)
    have HHH := Lib.hid (HH1.out rfl)
    have y1 : W1.cell? ⟨g0, 1, none⟩ = some (.int .i64 h0) := B2.cell 1
    have y2 : W1.cell? ⟨g0, 2, none⟩ = some (.int .i64 h1) := B2.cell 2
    have y3 : W1.cell? ⟨g0, 3, none⟩ = some (.int .i64 h2) := B2.cell 3
    have y4 : W1.cell? ⟨g0, 4, none⟩ = some (.int .i64 h3) := B2.cell 4
    clear R2 R3 R4 R5 HH1 HH2 HH3 HF HRO HGC B2 q0 qb0 hwnz
    go_wp2_with fail
    refine (HHH.out _ HE2.out).mono ?_
    rintro _ w4 ⟨rfl, hp2, hp3⟩
    have HP2 := Lib.hid hp2
    have HP3 := Lib.hid hp3
    clear hp2 hp3
    go_wp2_with fail
    go_ret
    rw [HR.out]
    exact ⟨rfl, HP2.out, (HE2.out.chg P).trans HP3.out fun _ _ h => h⟩
  · obtain rfl : rw_ = 2 := q2
    have HR := Lib.hid (R3.out rfl)
    have HHH := Lib.hid (HH2.out rfl)
    have y5 : W1.cell? ⟨g0, 5, none⟩ = some (.slice A n c) := B2.cell 5
    clear R2 R3 R4 R5 HH1 HH2 HH3 HF HRO HGC B2 q0 qb0 hwnz
    go_wp2_with fail
    refine (HHH.out _ HE2.out).mono ?_
    rintro _ w4 ⟨rfl, hp2, hp3⟩
    have HP2 := Lib.hid hp2
    have HP3 := Lib.hid hp3
    clear hp2 hp3
    go_wp2_with fail
    go_ret
    rw [HR.out]
    exact ⟨rfl, HP2.out, (HE2.out.chg P).trans HP3.out fun _ _ h => h⟩
  · obtain rfl : rw_ = 3 := q2
    have x6 : ∀ x : WE W1, x.W.cell? ⟨g0, 6, none⟩ = some (.slice A' n' c') := fun x => (HB2.out.ext x.h).cell 6
    have x1 : ∀ x : WE W1, x.W.cell? ⟨mb, 1, none⟩ = some (.slice A1 o c1) := fun x => by rw [← HVA.out]; exact (HH1'.out.ext x.h).bk.cell 1
    have xs : ∀ x : WE W1, x.W.cell? ⟨mb, 6, none⟩ = some (.int .i64 ns) := fun x => by rw [← HNS.out]; exact (HH1'.out.ext x.h).bk.cell 6
    have xr : ∀ x : WE W1, x.W.cell? ⟨mb, 7, none⟩ = some (.int .i64 nr) := fun x => by rw [← HNR.out]; exact (HH1'.out.ext x.h).bk.cell 7
    have HHH := Lib.hid (HH3.out rfl)
    have R4' := Lib.hid (R4.out rfl)
    have R5' := Lib.hid (R5.out rfl)
    clear R2 R3 R4 R5 HH1 HH2 HH3 B2 q0 qb0 hwnz
    go_wp2_with fail
    (refine wp_region_ext (w0 := W1) (by kernel_rfl) (by kernel_rfl) (by (repeat (with_reducible first | exact Ext.refl _ | assumption | refine Ext.drew ?_ | refine Ext.drewN ?_ _ | refine Ext.alloc ?_ _ | refine Ext.trans ?_ (by with_reducible assumption)))) ?_; (repeat (go_big_quiet_step ((first | (go_at_call 26; exact quietE (HRO.out _ (HE2.out.trans (WE.h _)))) | (go_at_call 48; exact quietE (HGC.out _ (HE2.out.trans (WE.h _)))))))); refine wpQuiet_nil ?_)
    intro w3 hb3
    have HE3 := Lib.hid (HE2.out.trans hb3)
    clear y0 z0 x6 x1 xs xr HB2 HH1' HE2 hb3 HRO HGC
    have HE2 := HE3
    by_cases hk : gk = 0
    · have HR := Lib.hid (R5'.out hk)
      subst hk
      rw [errR_0]
      clear R4' R5' HF
      go_wp2_with fail
      refine (HHH.out _ HE2.out).mono ?_
      rintro _ w4 ⟨rfl, hp2, hp3⟩
      have HP2 := Lib.hid hp2
      have HP3 := Lib.hid hp3
      clear hp2 hp3
      go_wp2_with fail
      go_ret
      rw [HR.out]
      exact ⟨rfl, HP2.out, (HE2.out.chg P).trans HP3.out fun _ _ h => h⟩
    · have HR := Lib.hid (R4'.out hk)
      have hok := isOk_no hk
      clear R4' R5' HHH hk
      go_wp2_with fail
      refine (HF.out _ HE2.out).mono ?_
      rintro _ w4 ⟨rfl, hp2, hp3⟩
      have HP2 := Lib.hid hp2
      have HP3 := Lib.hid hp3
      clear hp2 hp3
      go_wp2_with fail
      go_ret
      rw [HR.out]
      exact ⟨rfl, HP2.out, (HE2.out.chg P).trans HP3.out fun _ _ h => h⟩
/-- Hear, of a mirror that lies in some blocks -/
theorem Hear_any (P : Nat → Prop) (mb : Nat) (m : Mi) (r : Rp) (A : Option Addr) (n c : Nat) (A' : Option Addr) (n' c' : Nat) (w : World) (h : MM 83 w P mb m) (hPn : ∀ g, w.heap.size ≤ g → P g)
    (hD : DebG w) (hPow : PowG w) (hr : Rd w 2 A n c (r.ents.flatMap Ent.cells)) (hm : c ≤ maxLen) (hr' : Rd w 1 A' n' c' (r.proof.map (Value.int .i64))) (hm' : c' ≤ maxLen) :
    Calls Tryd.prog 19 #[.pointer (some ⟨mb, 0, none⟩), replyV r.what r.head A n c A' n' c'] w (MPost w P mb (m.hear r)) := by
  obtain ⟨va, vw, h1, h2⟩ := h
  exact HearP_any P mb va vw m r A n c A' n' c' w h1 h2 hPn hD hPow hr hm hr' hm'
theorem MM.want {P : Nat → Prop} {mb : Nat} {m : Mi} {w : World} (h : MM 83 w P mb m) : Calls Tryd.prog 20 #[.pointer (some ⟨mb, 0, none⟩)] w fun e w' => e = .returned m.want.val ∧ Ext w w' := by
  obtain ⟨va, vw, h1, h2⟩ := h
  exact MWant_any mb va vw m w h1
theorem MM.sizeC {P : Nat → Prop} {mb : Nat} {m : Mi} {w : World} (h : MM 83 w P mb m) : Calls Tryd.prog 21 #[.pointer (some ⟨mb, 0, none⟩)] w fun e w' => e = .returned (.int .i64 (m.own.length : Nat)) ∧ w = w' := by
  obtain ⟨va, vw, h1, h2⟩ := h
  exact MSize_any mb va vw m w h1
theorem MM.rootC {P : Nat → Prop} {mb : Nat} {m : Mi} {w : World} (h : MM 83 w P mb m) : Calls Tryd.prog 26 #[.pointer (some ⟨mb, 0, none⟩)] w fun e w' => e = .returned (.int .i64 (rootE m.own)) ∧ Ext w w' := by
  obtain ⟨va, vw, h1, h2⟩ := h
  exact MRoot_any mb va vw m w h1
theorem MM.entriesC {P : Nat → Prop} {mb : Nat} {m : Mi} {w : World} (h : MM 83 w P mb m) : Calls Tryd.prog 23 #[.pointer (some ⟨mb, 0, none⟩)] w fun e w' => (∃ v, e = .returned v ∧ w'.ownsRow w.heap.size 42 2 v m.own.length (m.own.flatMap Ent.cells)) ∧ Ext w w' := by
  obtain ⟨va, vw, h1, h2⟩ := h
  exact MEntries_any mb va vw m w h1
theorem MM.headC {P : Nat → Prop} {mb : Nat} {m : Mi} {w : World} (h : MM 83 w P mb m) : Calls Tryd.prog 14 #[.pointer (some ⟨mb, 0, none⟩)] w fun e w' => e = .returned m.head.val ∧ Ext w w' := by
  obtain ⟨va, vw, h1, h2⟩ := h
  exact MHead_any mb va vw m w h1
end Go.Proofs.YtdpfebokbikgfaaDoor
