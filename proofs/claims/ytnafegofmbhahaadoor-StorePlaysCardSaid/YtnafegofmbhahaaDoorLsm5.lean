/- an lsm in memory; what is young. -/
import Derived.Test.YtnafegofmbhahaaDoorLsm4
namespace Go.Proofs.YtnafegofmbhahaaDoor
open Go.RowKit Go.WideShapes
set_option linter.unusedVariables false
attribute [local go_sem ↓] Go.wp_at_zero Go.wp_at_succ

theorem bk_ne {w : World} {a b : Nat} {t t' : TypeId} {cs cs' : Array Value} (h : Bk w a t cs) (k : Bk w b t' cs') (hne : t ≠ t') : a ≠ b := by
  rintro rfl
  unfold Bk at h k
  rw [h] at k
  simp at k
  exact hne k.2
theorem own_own {w : World} {b b' n n' k k' : Nat} {e e' : TypeId} {v v' : Value} {xs xs' : List Value} (h : w.ownsRow b e k v n xs) (h' : w.ownsRow b' e' k' v' n' xs') (hne : e ≠ e') {g : Nat} (hg : v.ownBlock = some g) : v'.ownBlock ≠ some g := by
  intro hg'
  rcases h.2 with ⟨rfl, _⟩ | ⟨g1, cap, cur, rfl, _, hh, _⟩
  · simp [Value.ownBlock] at hg
  · rcases h'.2 with ⟨rfl, _⟩ | ⟨g2, cap', cur', rfl, _, hh', _⟩
    · simp [Value.ownBlock] at hg'
    · obtain rfl : g1 = g := by simpa [Value.ownBlock] using hg
      obtain rfl : g2 = g1 := by simpa [Value.ownBlock] using hg'
      rw [hh] at hh'
      simp at hh'
      exact hne hh'.2

/-- a level's table -/
structure Tb where
  blk : Nat
  row : Value
  es : List Pr
def Tb.cells (t : Tb) : List Value := [.string (tabB t.es), .pointer (some ⟨t.blk, 0, none⟩)]
structure LAt (w : World) (x : Nat) (lim : Int) (sb : Nat) (sv : Value) (Y : List Pr) (lv : Value) (ts : List Tb) : Prop where
  bk : Bk w x 116 #[.int .i64 lim, .pointer (some ⟨sb, 0, none⟩), lv]
  st : StAt w 0 sb sv Y
  own : w.ownsRow 0 118 2 lv ts.length (ts.flatMap Tb.cells)
  tab : ∀ t ∈ ts, TbAt w 0 t.blk t.row t.es
  sep : ∀ t ∈ ts, ∀ g, t.row.ownBlock = some g → sv.ownBlock ≠ some g
  len : ts.length ≤ 8
/-- the blocks that it lies in -/
def LFoot (x sb : Nat) (sv lv : Value) (ts : List Tb) (g : Nat) : Prop := g = x ∨ g = sb ∨ sv.ownBlock = some g ∨ lv.ownBlock = some g ∨ ∃ t ∈ ts, g = t.blk ∨ t.row.ownBlock = some g
theorem LAt.chg {w w' : World} {x sb : Nat} {lim : Int} {sv lv : Value} {Y : List Pr} {ts : List Tb} {S : Nat → Prop} (h : LAt w x lim sb sv Y lv ts) (k : Chg w w' S) (hS : ∀ g, LFoot x sb sv lv ts g → ¬ S g) : LAt w' x lim sb sv Y lv ts :=
  ⟨h.bk.chg k (hS x (.inl rfl)), h.st.chg k (hS sb (.inr (.inl rfl))) fun g hg => hS g (.inr (.inr (.inl hg))), own_chg h.own k fun g hg => hS g (.inr (.inr (.inr (.inl hg)))),
    fun t ht => (h.tab t ht).chg k (hS _ (.inr (.inr (.inr (.inr ⟨t, ht, .inl rfl⟩))))) fun g hg => hS g (.inr (.inr (.inr (.inr ⟨t, ht, .inr hg⟩)))), h.sep, h.len⟩
theorem LAt.ext {w w' : World} {x sb : Nat} {lim : Int} {sv lv : Value} {Y : List Pr} {ts : List Tb} (h : LAt w x lim sb sv Y lv ts) (k : Ext w w') : LAt w' x lim sb sv Y lv ts :=
  h.chg (k.chg fun _ => False) fun _ _ h => h
theorem LAt.lt {w : World} {x sb : Nat} {lim : Int} {sv lv : Value} {Y : List Pr} {ts : List Tb} (h : LAt w x lim sb sv Y lv ts) {g : Nat} (hg : LFoot x sb sv lv ts g) : g < w.heap.size := by
  rcases hg with rfl | rfl | hg | hg | ⟨t, ht, rfl | hg⟩
  · exact h.bk.lt
  · exact h.st.bk.lt
  · exact (h.st.own.lt _ hg).2
  · exact (h.own.lt _ hg).2
  · exact (h.tab t ht).bk.lt
  · exact ((h.tab t ht).own.lt _ hg).2
/-- what is young is written -/
theorem LAt.young {w w' : World} {x sb : Nat} {lim : Int} {sv lv v' : Value} {Y Y' : List Pr} {ts : List Tb} (h : LAt w x lim sb sv Y lv ts) (k : Chg w w' (fun k => k = sb ∨ sv.ownBlock = some k)) (hs : StAt w' 0 sb v' Y') (hv : ∀ g, v'.ownBlock = some g → sv.ownBlock = some g ∨ w.heap.size ≤ g) : LAt w' x lim sb v' Y' lv ts := by
  refine ⟨h.bk.chg k ?_, hs, own_chg h.own k ?_, fun t ht => (h.tab t ht).chg k ?_ ?_, fun t ht g hg hg' => ?_, h.len⟩
  · rintro (e | e)
    · exact bk_ne h.bk h.st.bk (by decide) e
    · exact own_type h.st.own h.bk (by decide) e
  · rintro g hg (e | e)
    · subst e; exact own_type h.own h.st.bk (by decide) hg
    · exact own_own h.own h.st.own (by decide) hg e
  · rintro (e | e)
    · exact bk_ne (h.tab t ht).bk h.st.bk (by decide) e
    · exact own_type h.st.own (h.tab t ht).bk (by decide) e
  · rintro g hg (e | e)
    · subst e; exact own_type (h.tab t ht).own h.st.bk (by decide) hg
    · exact h.sep t ht g hg e
  · rcases hv g hg' with e | e
    · exact h.sep t ht g hg e
    · have := ((h.tab t ht).own.lt _ hg).2
      omega
def LM (w : World) (F : Nat → Prop) (x : Nat) (lim : Int) (Y : List Pr) (T : List (List Pr)) : Prop :=
  ∃ sb sv lv ts, LAt w x lim sb sv Y lv ts ∧ ts.map Tb.es = T ∧ ∀ g, LFoot x sb sv lv ts g → F g
theorem LM.chg {w w' : World} {F S : Nat → Prop} {x : Nat} {lim : Int} {Y : List Pr} {T : List (List Pr)} (h : LM w F x lim Y T) (k : Chg w w' S) (hS : ∀ g, F g → ¬ S g) : LM w' F x lim Y T := by
  obtain ⟨sb, sv, lv, ts, hL, hT, hF⟩ := h
  exact ⟨sb, sv, lv, ts, hL.chg k fun g hg => hS g (hF g hg), hT, hF⟩
theorem LM.ext {w w' : World} {F : Nat → Prop} {x : Nat} {lim : Int} {Y : List Pr} {T : List (List Pr)} (h : LM w F x lim Y T) (k : Ext w w') : LM w' F x lim Y T := by
  obtain ⟨sb, sv, lv, ts, hL, hT, hF⟩ := h
  exact ⟨sb, sv, lv, ts, hL.ext k, hT, hF⟩
theorem LM.many {w : World} {F : Nat → Prop} {x : Nat} {lim : Int} {Y : List Pr} {T : List (List Pr)} (h : LM w F x lim Y T) : Y.length ≤ 60 ∧ T.length ≤ 8 ∧ LsOk (Y :: T) := by
  obtain ⟨sb, sv, lv, ts, hL, rfl, hF⟩ := h
  refine ⟨hL.st.len, by rw [List.length_map]; exact hL.len, LsOk.cons ⟨hL.st.asc, hL.st.ok⟩ fun l hl => ?_⟩
  obtain ⟨t, ht, rfl⟩ := List.mem_map.1 hl
  exact ⟨(hL.tab t ht).asc, (hL.tab t ht).ok⟩
/-- what an operation leaves: it wrote its own blocks alone -/
structure LOp (w w' : World) (F : Nat → Prop) (x : Nat) (lim : Int) (Y : List Pr) (T : List (List Pr)) (F' : Nat → Prop) : Prop where
  at_ : LM w' F' x lim Y T
  chg : Chg w w' F
  new : ∀ g, F' g → F g ∨ w.heap.size ≤ g
theorem LM.op {w w' : World} {F : Nat → Prop} {x : Nat} {lim : Int} {Y : List Pr} {T : List (List Pr)} (h : LM w F x lim Y T) (k : Ext w w') : LOp w w' F x lim Y T F := ⟨h.ext k, k.chg _, fun g hg => .inl hg⟩
theorem LOp.trans {w w1 w2 : World} {F F1 F2 : Nat → Prop} {x : Nat} {lim : Int} {Y Y' : List Pr} {T T' : List (List Pr)} (h : LOp w w1 F x lim Y T F1) (k : LOp w1 w2 F1 x lim Y' T' F2) : LOp w w2 F x lim Y' T' F2 :=
  ⟨k.at_, h.chg.trans k.chg fun g hg hF => (h.new g hF).resolve_right (by omega), fun g hg => (k.new g hg).elim (fun e => h.new g e) fun e => .inr (Nat.le_trans h.chg.size e)⟩
theorem LOp.keep {w0 w w' : World} {F F' : Nat → Prop} {x : Nat} {lim : Int} {Y : List Pr} {T : List (List Pr)} (h : LOp w w' F x lim Y T F') (e : Ext w0 w) (hF : ∀ g, F g → w0.heap.size ≤ g) : Ext w0 w' ∧ ∀ g, F' g → w0.heap.size ≤ g := by
  refine ⟨((e.chg F).trans h.chg fun g _ hg => hg).ext fun g hg hS => ?_, fun g hg => ?_⟩
  · have := hF g hS; omega
  · rcases h.new g hg with e' | e'
    · exact hF g e'
    · have := e.size; omega

def LNewR (n : Int) (w : World) (e : Ending) (w' : World) : Prop :=
    ((n < 1 ∨ 60 < n) ∧ e = .returned (.tuple #[.pointer none, errR 1]) ∧ w = w') ∨ ((1 ≤ n ∧ n ≤ 60) ∧ ∃ x F, e = .returned (.tuple #[.pointer (some ⟨x, 0, none⟩), .nilIface]) ∧ LM w' F x n [] [] ∧ (∀ g, F g → w.heap.size ≤ g) ∧ Ext w w')
set_option maxRecDepth 100000 in
theorem LNew_any (n : Int) (w : World) : Calls Tryd.prog 47 #[.int .i64 n] w fun e w' => LNewR n w e w' := by
  by_cases hn : 1 ≤ n ∧ n ≤ 60
  · obtain ⟨h1, h2⟩ := hn
    have h1' : ¬ n < 1 := by omega
    have h2' : ¬ 60 < n := by omega
    go_enter Tryd.func47, Tryd.ntmps47
    go_wp2_with fail
    refine (SNew_any 0 _ (Nat.zero_le _)).mono ?_
    rintro _ w1 ⟨rfl, hs, hb⟩
    have HS := Lib.hid hs
    have B2 := Bk.at_ w1 116 #[.int .i64 n, .pointer (some ⟨w.heap.size, 0, none⟩), .slice none 0 0] w1.heap.size rfl
    have e2 : Ext w1 (w1.alloc (.cells #[.int .i64 n, .pointer (some ⟨w.heap.size, 0, none⟩), .slice none 0 0] 116)) := (Ext.refl _).alloc _
    clear hs
    go_wp2_with fail
    go_ret2
    refine .inr ⟨⟨h1, h2⟩, w1.heap.size, _, rfl, ⟨_, _, _, [], ⟨B2, HS.out.ext e2, own_nil _ _ _ _, fun t ht => by simp at ht, fun t ht => by simp at ht, Nat.zero_le _⟩, rfl, fun g hg => hg⟩, fun g hg => ?_, hb.trans e2⟩
    have := hb.size
    rcases hg with rfl | rfl | hg | hg | ⟨t, ht, _⟩
    · exact this
    · exact Nat.le_refl _
    · simp [Value.ownBlock] at hg
    · simp [Value.ownBlock] at hg
    · simp at ht
  · have hn' : n < 1 ∨ (¬ n < 1 ∧ 60 < n) := by omega
    clear hn
    rcases hn' with h | ⟨h, h2⟩
    all_goals
      go_enter Tryd.func47, Tryd.ntmps47
      go_wp2_with fail
      go_ret2
      exact .inl ⟨by omega, rfl, rfl⟩
theorem LYoung_any (F : Nat → Prop) (x : Nat) (lim : Int) (Y : List Pr) (T : List (List Pr)) (w : World) (h : LM w F x lim Y T) :
    Calls Tryd.prog 49 #[.pointer (some ⟨x, 0, none⟩)] w fun e w' => e = .returned (.int .i64 (Y.length : Nat)) ∧ w = w' := by
  obtain ⟨sb, sv, lv, ts, hL, -, -⟩ := h
  have c1 : w.cell? ⟨x, 1, none⟩ = some (.pointer (some ⟨sb, 0, none⟩)) := hL.bk.cell 1
  have HC := Lib.hid (SLen_any 0 sb sv Y w hL.st)
  clear hL
  go_enter Tryd.func49, Tryd.ntmps49
  go_wp2_with fail
  refine HC.out.mono ?_
  rintro _ _ ⟨rfl, rfl⟩
  go_wp2_with fail
  go_ret
  exact ⟨rfl, rfl⟩

set_option maxRecDepth 100000 in
set_option maxHeartbeats 2000000 in
theorem lput_any (F : Nat → Prop) (x : Nat) (lim : Int) (Y : List Pr) (T : List (List Pr)) (p : Pr) (w : World) (h : LM w F x lim Y T) (hp : p.gone = true → p.value.size = 0) :
    Calls Tryd.prog 106 #[.pointer (some ⟨x, 0, none⟩), p.val] w fun e w' => e = .returned (errR (putK Y p)) ∧ ∃ F', LOp w w' F x lim (storeL Y p) T F' := by
  obtain ⟨sb, sv, lv, ts, hL, hT, hF⟩ := h
  obtain ⟨pk, pv, pg⟩ := p
  have B1 := Bk.at_ w 25 #[.string pk, .string pv, .bool pg] w.heap.size rfl
  have e1 : Ext w (w.alloc (.cells #[.string pk, .string pv, .bool pg] 25)) := (Ext.refl _).alloc _
  have y0 : (w.alloc (.cells #[.string pk, .string pv, .bool pg] 25)).cell? ⟨w.heap.size, 0, none⟩ = some (.string pk) := B1.cell 0
  have y1 : (w.alloc (.cells #[.string pk, .string pv, .bool pg] 25)).cell? ⟨w.heap.size, 1, none⟩ = some (.string pv) := B1.cell 1
  have y2 : (w.alloc (.cells #[.string pk, .string pv, .bool pg] 25)).cell? ⟨w.heap.size, 2, none⟩ = some (.bool pg) := B1.cell 2
  have hL1 := hL.ext e1
  have x1 : (w.alloc (.cells #[.string pk, .string pv, .bool pg] 25)).cell? ⟨x, 1, none⟩ = some (.pointer (some ⟨sb, 0, none⟩)) := hL1.bk.cell 1
  have HT := Lib.hid hT
  have HF := Lib.hid hF
  have HL1 := Lib.hid hL1
  have hL2 := hL.ext e1.drew
  have HL2 := Lib.hid hL2
  have hfin : ∀ (w' : World) (v' : Value), StAt w' 0 sb v' (storeL Y ⟨pk, pv, pg⟩) → Chg (w.alloc (.cells #[.string pk, .string pv, .bool pg] 25)).drew w' (fun k => k = sb ∨ sv.ownBlock = some k) → (∀ g, v'.ownBlock = some g → sv.ownBlock = some g ∨ (w.alloc (.cells #[.string pk, .string pv, .bool pg] 25)).drew.heap.size ≤ g) → ∃ F', LOp w w' F x lim (storeL Y ⟨pk, pv, pg⟩) T F' := fun w' v' hs k hv => by
    refine ⟨LFoot x sb v' lv ts, ⟨⟨sb, v', lv, ts, HL2.out.young k hs hv, HT.out, fun g hg => hg⟩, ((e1.drew.chg F).trans (k.mono fun g _ hg => ?_) fun g _ hg => hg), fun g hg => ?_⟩⟩
    · rcases hg with rfl | hg
      · exact HF.out _ (.inr (.inl rfl))
      · exact HF.out _ (.inr (.inr (.inl hg)))
    · rcases hg with rfl | rfl | hg | hg | ht
      · exact .inl (HF.out _ (.inl rfl))
      · exact .inl (HF.out _ (.inr (.inl rfl)))
      · rcases hv g hg with h | h
        · exact .inl (HF.out _ (.inr (.inr (.inl h))))
        · have := e1.drew.size
          exact .inr (by omega)
      · exact .inl (HF.out _ (.inr (.inr (.inr (.inl hg)))))
      · exact .inl (HF.out _ (.inr (.inr (.inr (.inr ht)))))
  have HFIN := Lib.hid hfin
  clear hT hF hL1 hL2 hL hfin
  cases pg with
  | true =>
    have hv0 : pv = ⟨#[]⟩ := str_noneP (hp rfl)
    subst hv0
    have HC := Lib.hid (SDrop_any 0 sb sv Y pk _ HL2.out.st (Nat.zero_le _))
    clear hp
    go_enter Tryd.func106, Tryd.ntmps106
    go_wp2_with fail
    generalize w.alloc (.cells #[.string pk, .string ⟨#[]⟩, .bool true] 25) = W1 at *
    go_region_with (go_at_call 41; refine HC.out.mono ?_; rintro _ w2 ⟨rfl, hh⟩; have HH := Lib.hid hh; clear hh)
    all_goals
      go_wp2_with fail
      go_ret
      obtain ⟨v', hs, k, hv⟩ := HH.out
      exact ⟨rfl, HFIN.out _ v' hs k hv⟩
  | false =>
    have HC := Lib.hid (SPut_any 0 sb sv Y pk pv _ HL2.out.st (Nat.zero_le _))
    clear hp
    go_enter Tryd.func106, Tryd.ntmps106
    go_wp2_with fail
    generalize w.alloc (.cells #[.string pk, .string pv, .bool false] 25) = W1 at *
    go_region_with (go_at_call 39; refine HC.out.mono ?_; rintro _ w2 ⟨rfl, hh⟩; have HH := Lib.hid hh; clear hh)
    all_goals
      go_wp2_with fail
      go_ret
      obtain ⟨v', hs, k, hv⟩ := HH.out
      exact ⟨rfl, HFIN.out _ v' hs k hv⟩
end Go.Proofs.YtnafegofmbhahaaDoor
