/- lsm: Merge. -/
import Derived.Test.YtblojobgchkipaaLsm6
namespace Go.Proofs.Ytblojobgchkipaa
open Go.RowKit Go.WideShapes
set_option linter.unusedVariables false
attribute [local go_sem ↓] Go.wp_at_zero Go.wp_at_succ

/-- the levels are others -/
theorem LAt.relevel {w w' : World} {x sb : Nat} {lim : Int} {sv lv lv' : Value} {Y : List Pr} {ts ts' : List Tb} (h : LAt w x lim sb sv Y lv ts) (k : Chg w w' (fun k => k = x)) (hb : Bk w' x 89 #[.int .i64 lim, .pointer (some ⟨sb, 0, none⟩), lv'])
    (ho : w'.ownsRow 0 91 2 lv' ts'.length (ts'.flatMap Tb.cells)) (ht : ∀ t ∈ ts', TbAt w' 0 t.blk t.row t.es) (hs : ∀ t ∈ ts', ∀ g, t.row.ownBlock = some g → sv.ownBlock ≠ some g) (hl : ts'.length ≤ 8) : LAt w' x lim sb sv Y lv' ts' :=
  ⟨hb, h.st.chg k (bk_ne h.st.bk h.bk (by decide)) (fun g hg e => own_type h.st.own h.bk (by decide) (by rw [← e]; exact hg)), ho, ht, hs, hl⟩
theorem own_one (w : World) (t : Tb) : (w.alloc (.cells #[.string (tabB t.es), .pointer (some ⟨t.blk, 0, none⟩)] 91)).ownsRow 0 91 2 (.slice (some ⟨w.heap.size, 0, none⟩) 1 1) 1 ([t].flatMap Tb.cells) :=
  ⟨rfl, .inr ⟨w.heap.size, 1, #[.string (tabB t.es), .pointer (some ⟨t.blk, 0, none⟩)], rfl, Nat.zero_le _, Bk.at_ w _ _ w.heap.size rfl, Nat.le_refl _, by unfold maxLen; omega, rfl, rfl⟩⟩

set_option maxRecDepth 100000 in
set_option maxHeartbeats 2000000 in
theorem LMerge_any (F : Nat → Prop) (x : Nat) (lim : Int) (Y : List Pr) (T : List (List Pr)) (w : World) (h : LM w F x lim Y T) (htot : totL T ≤ 1000) :
    Calls Try.prog 32 #[.pointer (some ⟨x, 0, none⟩)] w fun e w' => e = .returned (errR (mgK T)) ∧ ∃ F', LOp w w' F x lim Y (mergeT T) F' := by
  obtain ⟨hE, hN, hG⟩ := errR_rules
  have HM := Lib.hid h
  have HMY := Lib.hid h.many
  have HLI := Lib.hid (lists_any F x lim Y T w h)
  obtain ⟨sb, sv, lv, ts, hL, hT, hF⟩ := h
  obtain ⟨n, hn⟩ : ∃ n, ts.length = n := ⟨_, rfl⟩
  have hTn : T.length = n := by rw [← hT, List.length_map, hn]
  have ow := hL.own
  rw [hn] at ow
  obtain ⟨A, c, rfl, hc, hr, -⟩ := own_rd ow
  have HL := Lib.hid hL
  have HT := Lib.hid hT
  have HF := Lib.hid hF
  have c2 : w.cell? ⟨x, 2, none⟩ = some (.slice A n c) := hL.bk.cell 2
  have HTN := Lib.hid hTn
  have HTOT := Lib.hid htot
  clear ow hr hL hT hF hn hTn htot
  by_cases h0 : n = 0
  · subst h0
    have hk : mgK T = 6 := if_pos HTN.out
    have hmt : mergeT T = T := by rw [List.length_eq_zero_iff.1 HTN.out]; rfl
    rw [hk, hmt]
    clear hk hmt
    go_enter Try.func32, Try.ntmps32
    go_wp2_with fail
    go_ret
    exact ⟨rfl, F, HM.out.op (Ext.refl _)⟩
  · have hk : mgK T = 0 := if_neg (by rw [HTN.out]; exact h0)
    rw [hk, errR_0]
    have h0i : ¬ (n : Int) = 0 := by omega
    obtain ⟨L, hLL⟩ : ∃ L, liveL T = L := ⟨_, rfl⟩
    have HLL := Lib.hid hLL
    have hlen := live_len T
    rw [hLL] at hlen
    have hl2 : L.length ≤ 1000 := by have := HTOT.out; omega
    have HOK := Lib.hid (live_ok HMY.out.2.2.tl)
    rw [hLL] at HOK
    clear hk hLL hlen h0
    go_enter Try.func32, Try.ntmps32
    go_wp2_with fail
    refine HLI.out.mono ?_
    rintro _ w1 ⟨⟨v1, vs, rfl, o1, R1⟩, hb1⟩
    obtain ⟨A1, c1, rfl, hc1, hr1, -⟩ := own_rd o1
    have HC := Lib.hid (live_any A1 T.length c1 vs T w1 hr1 hc1 R1.rd HTOT.out)
    rw [HLL.out] at HC
    clear o1 R1 hr1 HLI
    generalize T.length = m at *
    go_wp2_with fail
    refine HC.out.mono ?_
    rintro _ w2 ⟨⟨v2, rfl, o2⟩, hb2⟩
    obtain ⟨k, hk⟩ : ∃ k, L.length = k := ⟨_, rfl⟩
    rw [hk] at o2 hl2
    obtain ⟨A2, c2', rfl, hc2, hr2, -⟩ := own_rd o2
    have HK := Lib.hid hk
    have HR2 := Lib.hid hr2
    have e2 := hb1.trans hb2
    have L2 := HL.out.ext e2
    have fr2 : w2.frozen? ⟨x, 2, none⟩ = false := L2.bk.frozen 2
    have s2 : w2.cell? ⟨x, 2, none⟩ = some (.slice A n c) := L2.bk.cell 2
    have HL2 := Lib.hid L2
    have hnc2 := hr2.2.1
    clear o2 hk hr2 HC L2
    by_cases hk0 : k = 0
    · subst hk0
      have hLn : L = [] := List.length_eq_zero_iff.1 HK.out
      have hmt : mergeT T = [] := by unfold mergeT; rw [if_pos (HLL.out.trans hLn)]
      have HMT := Lib.hid hmt
      clear hLn hmt
      go_wp2_with fail
      go_ret
      have g3 := gb_chg (gb_set w2 x 2 (.slice none 0 0))
      have k3 : Chg w2 (w2.setCell ⟨x, 2, none⟩ (.slice none 0 0)) (fun k => k = x) := g3.mono fun g _ hg => by injection hg with hg; exact hg.symm
      have B3 := HL2.out.bk.set_ 2 (.slice none 0 0)
      refine ⟨rfl, LFoot x sb sv (.slice none 0 0) [], ⟨⟨sb, sv, _, [], HL2.out.relevel k3 B3 (own_nil _ _ _ _) (fun t ht => by simp at ht) (fun t ht => by simp at ht) (Nat.zero_le _), HMT.out.symm, fun g hg => hg⟩, ((e2.chg F).trans (k3.mono fun g _ hg => HF.out g (.inl hg)) fun g _ hg => hg), fun g hg => .inl ?_⟩⟩
      rcases hg with rfl | rfl | hg | hg | ⟨t, ht, _⟩
      · exact HF.out _ (.inl rfl)
      · exact HF.out _ (.inr (.inl rfl))
      · exact HF.out _ (.inr (.inr (.inl hg)))
      · simp [Value.ownBlock] at hg
      · simp at ht
    · have hk0i : ¬ (k : Int) = 0 := by omega
      have hLn : L ≠ [] := fun e => hk0 (by rw [← HK.out, e]; rfl)
      have hmt : mergeT T = [L] := by unfold mergeT; rw [HLL.out, if_neg hLn]
      have HMT := Lib.hid hmt
      have HB := Lib.hid (built_any A2 k c2' L w2 HR2.out hc2 (by omega) (tblK_zero.2 HOK.out))
      clear hLn hmt hk0
      go_wp2_with fail
      refine HB.out.mono ?_
      rintro _ w3 ⟨⟨tb, tv, rfl, tb3, htb⟩, hb3⟩
      have HTB := Lib.hid tb3
      obtain ⟨bs, HBS⟩ : ∃ b, Hid (tabB L = b) := ⟨_, rfl⟩
      rw [HBS.out]
      have B4 := Bk.at_ w3 91 #[.string bs, .pointer (some ⟨tb, 0, none⟩)] w3.heap.size rfl
      have e4 : Ext w3 (w3.alloc (.cells #[.string bs, .pointer (some ⟨tb, 0, none⟩)] 91)) := (Ext.refl _).alloc _
      have z0 : (w3.alloc (.cells #[.string bs, .pointer (some ⟨tb, 0, none⟩)] 91)).cell? ⟨w3.heap.size, 0, none⟩ = some (.string bs) := B4.cell 0
      have z1 : (w3.alloc (.cells #[.string bs, .pointer (some ⟨tb, 0, none⟩)] 91)).cell? ⟨w3.heap.size, 1, none⟩ = some (.pointer (some ⟨tb, 0, none⟩)) := B4.cell 1
      have HT4 := Lib.hid (HTB.out.ext e4)
      have HL4 := Lib.hid ((HL2.out.ext hb3).ext e4)
      have e4w := (e2.trans hb3).trans e4
      have htb2 : w.heap.size ≤ tb := by have := e2.size; omega
      have htv : ∀ g, tv.ownBlock = some g → w.heap.size ≤ g := fun g hg => by
        have h1 := own_block tb3.own g hg
        have := e2.size
        omega
      have HTV := Lib.hid htv
      clear tb3 B4 s2 fr2 htv htb
      go_upto_region 8 with (fail)
      generalize w3.alloc (.cells #[.string bs, .pointer (some ⟨tb, 0, none⟩)] 91) = W4 at *
      have e5 : Ext W4 (W4.alloc (.cells #[.string bs, .pointer (some ⟨tb, 0, none⟩)] 91)) := (Ext.refl _).alloc _
      have L5 := HL4.out.ext e5
      have HL5 := Lib.hid L5
      have x2 : (W4.alloc (.cells #[.string bs, .pointer (some ⟨tb, 0, none⟩)] 91)).cell? ⟨x, 2, none⟩ = some (.slice A n c) := L5.bk.cell 2
      have f2 : (W4.alloc (.cells #[.string bs, .pointer (some ⟨tb, 0, none⟩)] 91)).frozen? ⟨x, 2, none⟩ = false := L5.bk.frozen 2
      have o5 := own_one W4 ⟨tb, tv, L⟩
      simp only at o5
      rw [HBS.out] at o5
      have O5 := Lib.hid o5
      have T5 := Lib.hid (HT4.out.ext e5)
      have e5w := e4w.trans e5
      have hw4 := e4w.size
      clear L5 o5
      go_wp2_with fail
      go_ret
      generalize hW5 : W4.alloc (.cells #[.string bs, .pointer (some ⟨tb, 0, none⟩)] 91) = W5 at *
      have k6 : Chg W5 (W5.setCell ⟨x, 2, none⟩ (.slice (some ⟨W4.heap.size, 0, none⟩) 1 1)) (fun k => k = x) := (gb_chg (gb_set W5 x 2 _)).mono fun g _ hg => by injection hg with hg; exact hg.symm
      have B6 := HL5.out.bk.set_ 2 (.slice (some ⟨W4.heap.size, 0, none⟩) 1 1)
      have hxlt := HL.out.bk.lt
      have hsv : ∀ g, sv.ownBlock = some g → g < w.heap.size := fun g hg => (HL.out.st.own.lt _ hg).2
      refine ⟨rfl, LFoot x sb sv (.slice (some ⟨W4.heap.size, 0, none⟩) 1 1) [⟨tb, tv, L⟩], ⟨⟨sb, sv, _, [⟨tb, tv, L⟩], HL5.out.relevel k6 B6 ?_ ?_ ?_ (by simp), HMT.out.symm, fun g hg => hg⟩, ((e5w.chg F).trans (k6.mono fun g _ hg => HF.out g (.inl hg)) fun g _ hg => hg), fun g hg => ?_⟩⟩
      · exact own_chg O5.out k6 fun g hg e => own_type O5.out HL5.out.bk (by decide) (by rw [← e]; exact hg)
      · intro t ht
        obtain rfl : t = ⟨tb, tv, L⟩ := by simpa using ht
        exact TbAt.lower (T5.out.chg k6 (bk_ne T5.out.bk HL5.out.bk (by decide)) (fun g hg e => own_type T5.out.own HL5.out.bk (by decide) (by rw [← e]; exact hg))) (Nat.zero_le _)
      · intro t ht g hg hg'
        obtain rfl : t = ⟨tb, tv, L⟩ := by simpa using ht
        have h1 := HTV.out g hg
        have h2 := hsv g hg'
        omega
      · rcases hg with rfl | rfl | hg | hg | ⟨t, ht, hg⟩
        · exact .inl (HF.out _ (.inl rfl))
        · exact .inl (HF.out _ (.inr (.inl rfl)))
        · exact .inl (HF.out _ (.inr (.inr (.inl hg))))
        · obtain rfl : W4.heap.size = g := by simpa [Value.ownBlock] using hg
          exact .inr hw4
        · obtain rfl : t = ⟨tb, tv, L⟩ := by simpa using ht
          rcases hg with rfl | hg
          · exact .inr htb2
          · exact .inr (HTV.out g hg)
end Go.Proofs.Ytblojobgchkipaa
