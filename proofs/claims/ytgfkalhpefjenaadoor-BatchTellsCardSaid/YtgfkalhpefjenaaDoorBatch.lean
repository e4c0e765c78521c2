import Derived.Test.YtgfkalhpefjenaaDoorPCheck
import Derived.Test.YtgfkalhpefjenaaDoorBatchPure
import Derived.Test.YtgfkalhpefjenaaDoorGrown
namespace Go.Proofs.YtgfkalhpefjenaaDoor
open Go.RowKit Go.WideShapes
set_option linter.unusedVariables false
attribute [local go_sem ↓] Go.wp_at_zero Go.wp_at_succ

set_option maxRecDepth 100000 in
theorem below_any (A : Option Addr) (n c : Nat) (l : List Int) (k : Int) (w : World) (hr : Rd w 1 A n c (l.map (Value.int .i64))) (hm : c ≤ maxLen) :
    Calls Tryd.prog 146 #[.slice A n c, .int .i64 k] w fun e w' => e = .returned (.int .i64 (belowN l k : Nat)) ∧ w = w' := by
  have HX := Lib.hid hr.lenI
  have hnc := hr.2.1
  unfold maxLen at hm
  go_enter Tryd.func146, Tryd.ntmps146
  go_wp2_with fail
  go_loop [5] (fun x => ∃ j : Nat, x = .int .i64 j ∧ j ≤ n ∧ Hid (∀ (i : Nat) (u : Int), i < j → l[i]? = some u → u < k)) (fun x => n - (intOf x).toNat)
  case atStart => exact ⟨0, rfl, Nat.zero_le _, fun i u h => absurd h (by omega)⟩
  case round =>
    obtain ⟨j, rfl, hj, HJ⟩ := hrel
    by_cases hc : j < n
    · have hz := List.getElem?_eq_getElem (l := l) (i := j) (by rw [HX.out]; exact hc)
      obtain ⟨ad, rfl, hb, hcell⟩ := hr.getI hz
      generalize l[j]'(by rw [HX.out]; exact hc) = z at *
      have HZ := Lib.hid hz
      have hcI : (j : Int) < (n : Int) := by omega
      clear hz
      by_cases hk : z < k
      · go_wp2_with fail
        go_round
        case rel => exact ⟨j + 1, by go_num, by omega, fun i u hi hu => by
          by_cases e : i < j
          · exact HJ.out i u e hu
          · obtain rfl : i = j := by omega
            rw [HZ.out] at hu
            injection hu with hu
            rw [← hu]; exact hk⟩
        case measure => simp [intOf]; omega
      · have HR := Lib.hid (below_step HZ.out HJ.out hk)
        go_wp2_with fail
        go_ret
        exact ⟨ret_int (by rw [HR.out]), rfl⟩
    · obtain rfl : j = n := by omega
      have HR := Lib.hid (below_end (l := l) (k := k) (fun i u hi hu => HJ.out i u (by rw [HX.out] at hi; exact hi) hu))
      go_wp2_with fail
      go_ret
      exact ⟨ret_int (by rw [HR.out, HX.out]), rfl⟩

set_option maxRecDepth 100000 in
set_option maxHeartbeats 2000000 in
theorem walk_M (B g1 g2 : Nat) {σ : Type} (told : σ → Nat → Nat → Option (Int × σ)) (leaf : σ → Option (Int × σ)) (St : σ → World → Prop) (hE : ∀ (x : σ) (w w' : World), St x w → Ext w w' → St x w')
    (hT : ∀ (x : σ) (f s : Nat) (v : Int) (y : σ) (w : World), St x w → B ≤ w.heap.size → 1 ≤ s → f + s ≤ 200 → told x f s = some (v, y) → 0 ≤ v ∧ Calls Tryd.prog 128 #[.int .i64 (f : Nat), .int .i64 (s : Nat), .pointer (some ⟨g1, 0, none⟩), .pointer (some ⟨g2, 0, none⟩)] w fun e w' => e = .returned (.int .i64 v) ∧ St y w' ∧ Below B w w')
    (hL : ∀ (x : σ) (v : Int) (y : σ) (w : World), St x w → B ≤ w.heap.size → leaf x = some (v, y) → 0 ≤ v ∧ Calls Tryd.prog 129 #[] w fun e w' => e = .returned (.int .i64 v) ∧ St y w' ∧ Below B w w') (N : Nat) :
    ∀ (f s : Nat) (A : Option Addr) (n c : Nat) (l : List Int) (x : σ) (v : Int) (y : σ) (w : World), s ≤ N → 1 ≤ s → f + s ≤ 200 → Rd w 1 A n c (l.map (Value.int .i64)) → (0 < n → ∀ ad, A = some ad → ad.block < B) → c ≤ maxLen → B ≤ w.heap.size → St x w → walkP told leaf f s l x = some (v, y) →
      0 ≤ v ∧ Calls Tryd.prog 127 #[.int .i64 f, .int .i64 s, .slice A n c, .func (.func 128) #[] #[.pointer (some ⟨g1, 0, none⟩), .pointer (some ⟨g2, 0, none⟩)], .func (.func 129) #[] #[]] w fun e w' => e = .returned (.int .i64 v) ∧ St y w' ∧ Below B w w' := by
  induction N with
  | zero => intro f s A n c l x v y w h h1; omega
  | succ N ih =>
    intro f s A n c l x v y w hN h1 hf hr hb hm hB hs hw
    have hx := hr.lenI
    have hnc := hr.2.1
    have i1 : (s : Int) ≤ 200 := by omega
    have i2 : (f : Int) ≤ 200 := by omega
    have i3 : 1 ≤ (s : Int) := by omega
    by_cases hl : l = []
    · subst hl
      rw [walkP_none] at hw
      obtain ⟨h0, hc⟩ := hT x f s v y w hs hB h1 hf hw
      obtain rfl : n = 0 := by simpa using hx.symm
      have HC := Lib.hid hc
      refine ⟨h0, ?_⟩
      clear hT hL ih hw hr hx hc
      go_enter Tryd.func127, Tryd.ntmps127
      go_wp2_with fail
      refine HC.out.mono ?_
      rintro _ w1 ⟨rfl, hs1, hb1⟩
      go_wp2_with fail
      go_ret
      exact ⟨rfl, hs1, hb1⟩
    · have hn : 0 < n := by rw [← hx]; exact List.length_pos_iff.2 hl
      have hn' : ((n : Int) == 0) = false := by simp; omega
      by_cases h2 : 2 ≤ s
      · have hh := half_lt (n := s) h2 (by omega)
        have hp := half_pos s
        obtain ⟨a, b, z, e1, e2, rfl⟩ := walkP_split hl h2 (by omega) hw
        have hi := belowN_le l ((f : Int) + (half s : Nat))
        rw [hx] at hi
        have R1 := hr.takeI hi
        have R2 := hr.dropI hi
        have HBL := Lib.hid fun W (h : Ext w W) => below_any A n c l ((f : Int) + (half s : Nat)) W (hr.ext h) hm
        have n1 : Hid ((f : Int) + ((half s : Nat) : Int) = ((f + half s : Nat) : Int)) := by show _ = _; omega
        have n2 : Hid ((s : Int) - ((half s : Nat) : Int) = ((s - half s : Nat) : Int)) := by show _ = _; omega
        have s1 : ((s : Int) == 1) = false := by simp; omega
        generalize belowN l ((f : Int) + (half s : Nat)) = i at *
        obtain ⟨a0, c0⟩ := ih f (half s) A i c (l.take i) x a z w (by omega) (by omega) (by omega) R1 (fun h0 => hb hn) hm hB hs e1
        have c1 := fun (w1 : World) (hs1 : St z w1) (hb1 : Below B w w1) => ih (f + half s) (s - half s) (if c = i then A else A.map (fun x => x.add i)) (n - i) (c - i) (l.drop i) z b y w1 (by omega) (by omega) (by omega)
          (R2.below hb1 (fun h0 ad had => by rw [if_neg (by omega)] at had; cases A with
            | none => cases had
            | some ad' => injection had with had; rw [← had, blk_add]; exact hb hn ad' rfl))
          (fun h0 ad had => by rw [if_neg (by omega)] at had; cases A with
            | none => cases had
            | some ad' => injection had with had; rw [← had, blk_add]; exact hb hn ad' rfl) (by omega) (Nat.le_trans hB hb1.size) hs1 e2
        refine ⟨(nodeL_bd _ _).1, ?_⟩
        have HC0 := Lib.hid c0
        have HC1 := Lib.hid c1
        have j1 : (i : Int) ≤ (n : Int) := by omega
        have j2 : (n : Int) ≤ (c : Int) := by omega
        have j3 : (i : Int) ≤ (c : Int) := by omega
        clear hT hL ih hw e1 e2 hr R1 R2 hx c0 c1 hl
        unfold maxLen at hm
        go_enter Tryd.func127, Tryd.ntmps127
        go_wp2_with fail
        refine (Half_any _ _ (by omega) (by omega)).mono ?_
        rintro _ w' ⟨rfl, rfl⟩
        rw [Int.toNat_natCast]
        go_wp2_with fail
        refine (HBL.out _ (Ext.refl _)).mono ?_
        rintro _ w' ⟨rfl, rfl⟩
        go_wp2_with fail
        refine HC0.out.mono ?_
        rintro _ w1 ⟨rfl, hs1, hb1⟩
        obtain ⟨b0, c1⟩ := HC1.out w1 hs1 hb1
        by_cases hci : c = i
        · rw [if_pos hci, show c - i = 0 by omega] at c1
          have HC2 := Lib.hid c1
          clear c1
          go_wp2_with fail
          rw [n1.out, n2.out]
          refine HC2.out.mono ?_
          rintro _ w2 ⟨rfl, hs2, hb2⟩
          go_wp2_with fail
          refine (NodeOf_any _ _ _ a0 b0).mono ?_
          rintro _ w3 ⟨rfl, hb3⟩
          have hq1 := hb1.size
          have hq2 := hb2.size
          go_wp2_with fail
          go_ret
          exact ⟨rfl, hE _ _ _ hs2 hb3, below_trans (below_trans hb1 hb2) (Below.mono hb3 (by omega))⟩
        · rw [if_neg hci] at c1
          have HC2 := Lib.hid c1
          clear c1
          go_wp2_with fail
          rw [n1.out, n2.out]
          refine HC2.out.mono ?_
          rintro _ w2 ⟨rfl, hs2, hb2⟩
          go_wp2_with fail
          refine (NodeOf_any _ _ _ a0 b0).mono ?_
          rintro _ w3 ⟨rfl, hb3⟩
          have hq1 := hb1.size
          have hq2 := hb2.size
          go_wp2_with fail
          go_ret
          exact ⟨rfl, hE _ _ _ hs2 hb3, below_trans (below_trans hb1 hb2) (Below.mono hb3 (by omega))⟩
      · obtain rfl : s = 1 := by omega
        rw [walkP_leaf f hl] at hw
        obtain ⟨h0, hc⟩ := hL x v y w hs hB hw
        have HC := Lib.hid hc
        refine ⟨h0, ?_⟩
        clear hT hL ih hw hr hx hc hl
        go_enter Tryd.func127, Tryd.ntmps127
        go_wp2_with fail
        refine HC.out.mono ?_
        rintro _ w1 ⟨rfl, hs1, hb1⟩
        go_wp2_with fail
        go_ret
        exact ⟨rfl, hs1, hb1⟩


set_option maxRecDepth 100000 in
set_option maxHeartbeats 2000000 in
theorem walk_N (B g1 : Nat) {σ : Type} (told : σ → Nat → Nat → Option (Int × σ)) (leaf : σ → Option (Int × σ)) (St : σ → World → Prop) (hE : ∀ (x : σ) (w w' : World), St x w → Ext w w' → St x w')
    (hT : ∀ (x : σ) (f s : Nat) (v : Int) (y : σ) (w : World), St x w → B ≤ w.heap.size → 1 ≤ s → f + s ≤ 200 → told x f s = some (v, y) → 0 ≤ v ∧ Calls Tryd.prog 130 #[.int .i64 (f : Nat), .int .i64 (s : Nat), .pointer (some ⟨g1, 0, none⟩)] w fun e w' => e = .returned (.int .i64 v) ∧ St y w' ∧ Below B w w')
    (hL : ∀ (x : σ) (v : Int) (y : σ) (w : World), St x w → B ≤ w.heap.size → leaf x = some (v, y) → 0 ≤ v ∧ Calls Tryd.prog 131 #[] w fun e w' => e = .returned (.int .i64 v) ∧ St y w' ∧ Below B w w') (N : Nat) :
    ∀ (f s : Nat) (A : Option Addr) (n c : Nat) (l : List Int) (x : σ) (v : Int) (y : σ) (w : World), s ≤ N → 1 ≤ s → f + s ≤ 200 → Rd w 1 A n c (l.map (Value.int .i64)) → (0 < n → ∀ ad, A = some ad → ad.block < B) → c ≤ maxLen → B ≤ w.heap.size → St x w → walkP told leaf f s l x = some (v, y) →
      0 ≤ v ∧ Calls Tryd.prog 127 #[.int .i64 f, .int .i64 s, .slice A n c, .func (.func 130) #[] #[.pointer (some ⟨g1, 0, none⟩)], .func (.func 131) #[] #[]] w fun e w' => e = .returned (.int .i64 v) ∧ St y w' ∧ Below B w w' := by
  induction N with
  | zero => intro f s A n c l x v y w h h1; omega
  | succ N ih =>
    intro f s A n c l x v y w hN h1 hf hr hb hm hB hs hw
    have hx := hr.lenI
    have hnc := hr.2.1
    have i1 : (s : Int) ≤ 200 := by omega
    have i2 : (f : Int) ≤ 200 := by omega
    have i3 : 1 ≤ (s : Int) := by omega
    by_cases hl : l = []
    · subst hl
      rw [walkP_none] at hw
      obtain ⟨h0, hc⟩ := hT x f s v y w hs hB h1 hf hw
      obtain rfl : n = 0 := by simpa using hx.symm
      have HC := Lib.hid hc
      refine ⟨h0, ?_⟩
      clear hT hL ih hw hr hx hc
      go_enter Tryd.func127, Tryd.ntmps127
      go_wp2_with fail
      refine HC.out.mono ?_
      rintro _ w1 ⟨rfl, hs1, hb1⟩
      go_wp2_with fail
      go_ret
      exact ⟨rfl, hs1, hb1⟩
    · have hn : 0 < n := by rw [← hx]; exact List.length_pos_iff.2 hl
      have hn' : ((n : Int) == 0) = false := by simp; omega
      by_cases h2 : 2 ≤ s
      · have hh := half_lt (n := s) h2 (by omega)
        have hp := half_pos s
        obtain ⟨a, b, z, e1, e2, rfl⟩ := walkP_split hl h2 (by omega) hw
        have hi := belowN_le l ((f : Int) + (half s : Nat))
        rw [hx] at hi
        have R1 := hr.takeI hi
        have R2 := hr.dropI hi
        have HBL := Lib.hid fun W (h : Ext w W) => below_any A n c l ((f : Int) + (half s : Nat)) W (hr.ext h) hm
        have n1 : Hid ((f : Int) + ((half s : Nat) : Int) = ((f + half s : Nat) : Int)) := by show _ = _; omega
        have n2 : Hid ((s : Int) - ((half s : Nat) : Int) = ((s - half s : Nat) : Int)) := by show _ = _; omega
        have s1 : ((s : Int) == 1) = false := by simp; omega
        generalize belowN l ((f : Int) + (half s : Nat)) = i at *
        obtain ⟨a0, c0⟩ := ih f (half s) A i c (l.take i) x a z w (by omega) (by omega) (by omega) R1 (fun h0 => hb hn) hm hB hs e1
        have c1 := fun (w1 : World) (hs1 : St z w1) (hb1 : Below B w w1) => ih (f + half s) (s - half s) (if c = i then A else A.map (fun x => x.add i)) (n - i) (c - i) (l.drop i) z b y w1 (by omega) (by omega) (by omega)
          (R2.below hb1 (fun h0 ad had => by rw [if_neg (by omega)] at had; cases A with
            | none => cases had
            | some ad' => injection had with had; rw [← had, blk_add]; exact hb hn ad' rfl))
          (fun h0 ad had => by rw [if_neg (by omega)] at had; cases A with
            | none => cases had
            | some ad' => injection had with had; rw [← had, blk_add]; exact hb hn ad' rfl) (by omega) (Nat.le_trans hB hb1.size) hs1 e2
        refine ⟨(nodeL_bd _ _).1, ?_⟩
        have HC0 := Lib.hid c0
        have HC1 := Lib.hid c1
        have j1 : (i : Int) ≤ (n : Int) := by omega
        have j2 : (n : Int) ≤ (c : Int) := by omega
        have j3 : (i : Int) ≤ (c : Int) := by omega
        clear hT hL ih hw e1 e2 hr R1 R2 hx c0 c1 hl
        unfold maxLen at hm
        go_enter Tryd.func127, Tryd.ntmps127
        go_wp2_with fail
        refine (Half_any _ _ (by omega) (by omega)).mono ?_
        rintro _ w' ⟨rfl, rfl⟩
        rw [Int.toNat_natCast]
        go_wp2_with fail
        refine (HBL.out _ (Ext.refl _)).mono ?_
        rintro _ w' ⟨rfl, rfl⟩
        go_wp2_with fail
        refine HC0.out.mono ?_
        rintro _ w1 ⟨rfl, hs1, hb1⟩
        obtain ⟨b0, c1⟩ := HC1.out w1 hs1 hb1
        by_cases hci : c = i
        · rw [if_pos hci, show c - i = 0 by omega] at c1
          have HC2 := Lib.hid c1
          clear c1
          go_wp2_with fail
          rw [n1.out, n2.out]
          refine HC2.out.mono ?_
          rintro _ w2 ⟨rfl, hs2, hb2⟩
          go_wp2_with fail
          refine (NodeOf_any _ _ _ a0 b0).mono ?_
          rintro _ w3 ⟨rfl, hb3⟩
          have hq1 := hb1.size
          have hq2 := hb2.size
          go_wp2_with fail
          go_ret
          exact ⟨rfl, hE _ _ _ hs2 hb3, below_trans (below_trans hb1 hb2) (Below.mono hb3 (by omega))⟩
        · rw [if_neg hci] at c1
          have HC2 := Lib.hid c1
          clear c1
          go_wp2_with fail
          rw [n1.out, n2.out]
          refine HC2.out.mono ?_
          rintro _ w2 ⟨rfl, hs2, hb2⟩
          go_wp2_with fail
          refine (NodeOf_any _ _ _ a0 b0).mono ?_
          rintro _ w3 ⟨rfl, hb3⟩
          have hq1 := hb1.size
          have hq2 := hb2.size
          go_wp2_with fail
          go_ret
          exact ⟨rfl, hE _ _ _ hs2 hb3, below_trans (below_trans hb1 hb2) (Below.mono hb3 (by omega))⟩
      · obtain rfl : s = 1 := by omega
        rw [walkP_leaf f hl] at hw
        obtain ⟨h0, hc⟩ := hL x v y w hs hB hw
        have HC := Lib.hid hc
        refine ⟨h0, ?_⟩
        clear hT hL ih hw hr hx hc hl
        go_enter Tryd.func127, Tryd.ntmps127
        go_wp2_with fail
        refine HC.out.mono ?_
        rintro _ w1 ⟨rfl, hs1, hb1⟩
        go_wp2_with fail
        go_ret
        exact ⟨rfl, hs1, hb1⟩


set_option maxRecDepth 100000 in
set_option maxHeartbeats 2000000 in
theorem walk_C (B g1 g2 g3 : Nat) {σ : Type} (told : σ → Nat → Nat → Option (Int × σ)) (leaf : σ → Option (Int × σ)) (St : σ → World → Prop) (hE : ∀ (x : σ) (w w' : World), St x w → Ext w w' → St x w')
    (hT : ∀ (x : σ) (f s : Nat) (v : Int) (y : σ) (w : World), St x w → B ≤ w.heap.size → 1 ≤ s → f + s ≤ 200 → told x f s = some (v, y) → 0 ≤ v ∧ Calls Tryd.prog 133 #[.int .i64 (f : Nat), .int .i64 (s : Nat), .pointer (some ⟨g1, 0, none⟩), .pointer (some ⟨g2, 0, none⟩)] w fun e w' => e = .returned (.int .i64 v) ∧ St y w' ∧ Below B w w')
    (hL : ∀ (x : σ) (v : Int) (y : σ) (w : World), St x w → B ≤ w.heap.size → leaf x = some (v, y) → 0 ≤ v ∧ Calls Tryd.prog 134 #[.pointer (some ⟨g1, 0, none⟩), .pointer (some ⟨g3, 0, none⟩)] w fun e w' => e = .returned (.int .i64 v) ∧ St y w' ∧ Below B w w') (N : Nat) :
    ∀ (f s : Nat) (A : Option Addr) (n c : Nat) (l : List Int) (x : σ) (v : Int) (y : σ) (w : World), s ≤ N → 1 ≤ s → f + s ≤ 200 → Rd w 1 A n c (l.map (Value.int .i64)) → (0 < n → ∀ ad, A = some ad → ad.block < B) → c ≤ maxLen → B ≤ w.heap.size → St x w → walkP told leaf f s l x = some (v, y) →
      0 ≤ v ∧ Calls Tryd.prog 127 #[.int .i64 f, .int .i64 s, .slice A n c, .func (.func 133) #[] #[.pointer (some ⟨g1, 0, none⟩), .pointer (some ⟨g2, 0, none⟩)], .func (.func 134) #[] #[.pointer (some ⟨g1, 0, none⟩), .pointer (some ⟨g3, 0, none⟩)]] w fun e w' => e = .returned (.int .i64 v) ∧ St y w' ∧ Below B w w' := by
  induction N with
  | zero => intro f s A n c l x v y w h h1; omega
  | succ N ih =>
    intro f s A n c l x v y w hN h1 hf hr hb hm hB hs hw
    have hx := hr.lenI
    have hnc := hr.2.1
    have i1 : (s : Int) ≤ 200 := by omega
    have i2 : (f : Int) ≤ 200 := by omega
    have i3 : 1 ≤ (s : Int) := by omega
    by_cases hl : l = []
    · subst hl
      rw [walkP_none] at hw
      obtain ⟨h0, hc⟩ := hT x f s v y w hs hB h1 hf hw
      obtain rfl : n = 0 := by simpa using hx.symm
      have HC := Lib.hid hc
      refine ⟨h0, ?_⟩
      clear hT hL ih hw hr hx hc
      go_enter Tryd.func127, Tryd.ntmps127
      go_wp2_with fail
      refine HC.out.mono ?_
      rintro _ w1 ⟨rfl, hs1, hb1⟩
      go_wp2_with fail
      go_ret
      exact ⟨rfl, hs1, hb1⟩
    · have hn : 0 < n := by rw [← hx]; exact List.length_pos_iff.2 hl
      have hn' : ((n : Int) == 0) = false := by simp; omega
      by_cases h2 : 2 ≤ s
      · have hh := half_lt (n := s) h2 (by omega)
        have hp := half_pos s
        obtain ⟨a, b, z, e1, e2, rfl⟩ := walkP_split hl h2 (by omega) hw
        have hi := belowN_le l ((f : Int) + (half s : Nat))
        rw [hx] at hi
        have R1 := hr.takeI hi
        have R2 := hr.dropI hi
        have HBL := Lib.hid fun W (h : Ext w W) => below_any A n c l ((f : Int) + (half s : Nat)) W (hr.ext h) hm
        have n1 : Hid ((f : Int) + ((half s : Nat) : Int) = ((f + half s : Nat) : Int)) := by show _ = _; omega
        have n2 : Hid ((s : Int) - ((half s : Nat) : Int) = ((s - half s : Nat) : Int)) := by show _ = _; omega
        have s1 : ((s : Int) == 1) = false := by simp; omega
        generalize belowN l ((f : Int) + (half s : Nat)) = i at *
        obtain ⟨a0, c0⟩ := ih f (half s) A i c (l.take i) x a z w (by omega) (by omega) (by omega) R1 (fun h0 => hb hn) hm hB hs e1
        have c1 := fun (w1 : World) (hs1 : St z w1) (hb1 : Below B w w1) => ih (f + half s) (s - half s) (if c = i then A else A.map (fun x => x.add i)) (n - i) (c - i) (l.drop i) z b y w1 (by omega) (by omega) (by omega)
          (R2.below hb1 (fun h0 ad had => by rw [if_neg (by omega)] at had; cases A with
            | none => cases had
            | some ad' => injection had with had; rw [← had, blk_add]; exact hb hn ad' rfl))
          (fun h0 ad had => by rw [if_neg (by omega)] at had; cases A with
            | none => cases had
            | some ad' => injection had with had; rw [← had, blk_add]; exact hb hn ad' rfl) (by omega) (Nat.le_trans hB hb1.size) hs1 e2
        refine ⟨(nodeL_bd _ _).1, ?_⟩
        have HC0 := Lib.hid c0
        have HC1 := Lib.hid c1
        have j1 : (i : Int) ≤ (n : Int) := by omega
        have j2 : (n : Int) ≤ (c : Int) := by omega
        have j3 : (i : Int) ≤ (c : Int) := by omega
        clear hT hL ih hw e1 e2 hr R1 R2 hx c0 c1 hl
        unfold maxLen at hm
        go_enter Tryd.func127, Tryd.ntmps127
        go_wp2_with fail
        refine (Half_any _ _ (by omega) (by omega)).mono ?_
        rintro _ w' ⟨rfl, rfl⟩
        rw [Int.toNat_natCast]
        go_wp2_with fail
        refine (HBL.out _ (Ext.refl _)).mono ?_
        rintro _ w' ⟨rfl, rfl⟩
        go_wp2_with fail
        refine HC0.out.mono ?_
        rintro _ w1 ⟨rfl, hs1, hb1⟩
        obtain ⟨b0, c1⟩ := HC1.out w1 hs1 hb1
        by_cases hci : c = i
        · rw [if_pos hci, show c - i = 0 by omega] at c1
          have HC2 := Lib.hid c1
          clear c1
          go_wp2_with fail
          rw [n1.out, n2.out]
          refine HC2.out.mono ?_
          rintro _ w2 ⟨rfl, hs2, hb2⟩
          go_wp2_with fail
          refine (NodeOf_any _ _ _ a0 b0).mono ?_
          rintro _ w3 ⟨rfl, hb3⟩
          have hq1 := hb1.size
          have hq2 := hb2.size
          go_wp2_with fail
          go_ret
          exact ⟨rfl, hE _ _ _ hs2 hb3, below_trans (below_trans hb1 hb2) (Below.mono hb3 (by omega))⟩
        · rw [if_neg hci] at c1
          have HC2 := Lib.hid c1
          clear c1
          go_wp2_with fail
          rw [n1.out, n2.out]
          refine HC2.out.mono ?_
          rintro _ w2 ⟨rfl, hs2, hb2⟩
          go_wp2_with fail
          refine (NodeOf_any _ _ _ a0 b0).mono ?_
          rintro _ w3 ⟨rfl, hb3⟩
          have hq1 := hb1.size
          have hq2 := hb2.size
          go_wp2_with fail
          go_ret
          exact ⟨rfl, hE _ _ _ hs2 hb3, below_trans (below_trans hb1 hb2) (Below.mono hb3 (by omega))⟩
      · obtain rfl : s = 1 := by omega
        rw [walkP_leaf f hl] at hw
        obtain ⟨h0, hc⟩ := hL x v y w hs hB hw
        have HC := Lib.hid hc
        refine ⟨h0, ?_⟩
        clear hT hL ih hw hr hx hc hl
        go_enter Tryd.func127, Tryd.ntmps127
        go_wp2_with fail
        refine HC.out.mono ?_
        rintro _ w1 ⟨rfl, hs1, hb1⟩
        go_wp2_with fail
        go_ret
        exact ⟨rfl, hs1, hb1⟩

end Go.Proofs.YtgfkalhpefjenaaDoor
