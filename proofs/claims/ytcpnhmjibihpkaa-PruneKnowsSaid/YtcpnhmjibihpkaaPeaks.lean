/- Peaks: New, Append, Size. -/
import Derived.Test.YtcpnhmjibihpkaaPeaksPure
import Derived.Test.YtcpnhmjibihpkaaErr
import Derived.Test.YtcpnhmjibihpkaaGrown
import Derived.Test.YtcpnhmjibihpkaaOwnI
import Derived.Deep.RegionHeld3
import Derived.Deep.DrawnRows
import Derived.Deep.LoopGhost
namespace Go.Proofs.Ytcpnhmjibihpkaa
open Go.RowKit Go.WideShapes
set_option linter.unusedVariables false
attribute [local go_sem ↓] Go.wp_at_zero Go.wp_at_succ

/-- a peaks' memory: the block, and the row of its parts (the last one is the smallest one) -/
structure PkS (w : World) (base pb : Nat) (v : Value) (n : Nat) (L : List Int) : Prop where
  le : base ≤ pb
  bk : Bk w pb 122 #[.int .i64 n, v]
  own : w.ownsRow base 3 1 v L.length (L.reverse.map (Value.int .i64))
  ne : v.ownBlock ≠ some pb
theorem PkS.ext {w w' : World} {base pb n : Nat} {v : Value} {L : List Int} (h : PkS w base pb v n L) (e : Ext w w') : PkS w' base pb v n L :=
  ⟨h.le, h.bk.ext e, own_ext h.own e, h.ne⟩
theorem own_pre {w : World} {base n k c : Nat} {e : TypeId} {A : Option Addr} {xs : List Value} (h : w.ownsRow base e 1 (.slice A n c) n xs) (hA : A ≠ none) (hk : k ≤ n) : w.ownsRow base e 1 (.slice A k c) k (xs.take k) := by
  obtain ⟨h1, h2⟩ := h
  rcases h2 with ⟨hv, _⟩ | ⟨g, cap, cur, hv, hg, hh, hn, hm, hs, ht⟩
  · injection hv with h1 h2 h3; exact absurd h1 hA
  · injection hv with e1 e2 e3
    subst e1; subst e3
    refine ⟨by rw [List.length_take, h1]; omega, .inr ⟨g, c, cur, rfl, hg, hh, by omega, hm, hs, ?_⟩⟩
    rw [← ht, List.take_take]
    congr 1
    omega

theorem PkS.last {w : World} {base pb n : Nat} {v : Value} {hd : Int} {tl : List Int} (h : PkS w base pb v n (hd :: tl)) :
    ∃ g cap, v = .slice (some ⟨g, 0, none⟩) (tl.length + 1) cap ∧ g ≠ pb ∧ g < w.heap.size ∧ w.cell? ⟨g, tl.length, none⟩ = some (.int .i64 hd) ∧ tl.length + 1 ≤ cap ∧ cap ≤ maxLen ∧ w.ownsRow base 3 1 (.slice (some ⟨g, 0, none⟩) tl.length cap) tl.length (tl.reverse.map (Value.int .i64)) := by
  obtain ⟨hle, hbk, hown, hne⟩ := h
  rcases hown.2 with ⟨hv, h0⟩ | ⟨g, cap, cur, rfl, hg, hh, hn, hm, r⟩
  · simp at h0
  · have hlt : g < w.heap.size := (Array.getElem?_eq_some_iff.1 hh).1
    have hc := hown.cells (g := g) rfl tl.length (.int .i64 hd) (by simp)
    rw [add_mk, Nat.zero_add] at hc
    refine ⟨g, cap, rfl, fun e => hne (by rw [e]; rfl), hlt, hc, hn, hm, ?_⟩
    have := own_pre hown (by simp) (Nat.le_succ tl.length)
    rwa [show ((hd :: tl).reverse.map (Value.int .i64)).take tl.length = tl.reverse.map (Value.int .i64) by
      rw [List.reverse_cons, List.map_append, List.take_append_of_le_length (by simp), List.take_of_length_le (by simp)]] at this
theorem info_intP : (Try.prog.info? 3).map (fun i => (i.zero, i.size, i.bytes)) = some (some (.int .i64 0), 1, 8) := by kernel_rfl
theorem and_one_i64 (m : Nat) (h : m ≤ 255) : bits BinOp.and IntKind.i64 (m : Int) 1 = ((m % 2 : Nat) : Int) := by
  have : ∀ k : Fin 256, bits BinOp.and IntKind.i64 ((k.val : Nat) : Int) 1 = ((k.val % 2 : Nat) : Int) := by decide +kernel
  exact this ⟨m, by omega⟩

set_option maxRecDepth 100000 in
theorem PNew_any (w : World) : Calls Try.prog 45 #[] w fun e w' => e = .returned (.pointer (some ⟨w.heap.size, 0, none⟩)) ∧ PkS w' w.heap.size w.heap.size (.slice none 0 0) 0 [] ∧ Ext w w' := by
  go_enter Try.func45, Try.ntmps45
  go_wp2_with fail
  go_ret
  exact ⟨rfl, ⟨Nat.le_refl _, Bk.at_ _ _ _ _ rfl, own_nil _ _ _ _, by simp [Value.ownBlock]⟩, by (repeat (with_reducible first | exact Ext.refl _ | assumption | refine Ext.drew ?_ | refine Ext.drewN ?_ _ | refine Ext.alloc ?_ _ | refine Ext.trans ?_ (by with_reducible assumption)))⟩
set_option maxRecDepth 100000 in
theorem PSize_any {w : World} {base pb n : Nat} {v : Value} {L : List Int} (h : PkS w base pb v n L) : Calls Try.prog 49 #[.pointer (some ⟨pb, 0, none⟩)] w fun e w' => e = .returned (.int .i64 n) ∧ w = w' := by
  have b0 := h.bk.cell 0
  go_enter Try.func49, Try.ntmps49
  go_wp2_with fail
  go_ret
  exact ⟨rfl, rfl⟩

/-- what Append tells -/
def appK (n : Nat) (s : Int) : Int := if vld s = true then (if n < 200 then 0 else 4) else 1
set_option maxRecDepth 100000 in
theorem Append_bad {w : World} {base pb n : Nat} {v : Value} {L : List Int} (h : PkS w base pb v n L) (s : Int) (hv : ¬ (vld s = true ∧ n < 200)) :
    Calls Try.prog 46 #[.pointer (some ⟨pb, 0, none⟩), .int .i64 s] w fun e w' => e = .returned (errR (appK n s)) ∧ w = w' := by
  have b0 := h.bk.cell 0
  obtain ⟨k, HK⟩ : ∃ k, Hid (appK n s = k) := ⟨_, rfl⟩
  rw [HK.out]
  go_enter Try.func46, Try.ntmps46
  go_wp2_with fail
  refine (Valid_any _ _).mono ?_
  rintro _ _ ⟨rfl, rfl⟩
  have hk := HK.out
  unfold appK at hk
  cases hs : vld s
  · rw [hs, if_neg (by decide)] at hk
    subst hk
    clear hv HK hs
    go_wp2_with fail
    go_ret
    exact ⟨rfl, rfl⟩
  · have hn : ¬ n < 200 := fun h => hv ⟨hs, h⟩
    rw [hs, if_pos rfl, if_neg hn] at hk
    subst hk
    clear hv HK hs
    go_wp2_with fail
    go_ret
    exact ⟨rfl, rfl⟩

/-- blocks a and row alone were written -/
structure Two (w w' : World) (a : Nat) (row : Option Nat) : Prop where
  os : w'.os = w.os
  tape : w'.tape = w.tape
  output : w'.output = w.output
  size : w.heap.size ≤ w'.heap.size
  block : ∀ k, k < w.heap.size → k ≠ a → some k ≠ row → w'.heap[k]? = w.heap[k]?
theorem Two.of {w w1 w2 w3 : World} {a : Nat} {row : Option Nat} (h1 : w.grownBy w1 (some a)) (h2 : w1.grownBy w2 row) (h3 : w2.grownBy w3 (some a)) : Two w w3 a row :=
  ⟨h3.os.trans (h2.os.trans h1.os), h3.tape.trans (h2.tape.trans h1.tape), h3.output.trans (h2.output.trans h1.output), Nat.le_trans h1.size (Nat.le_trans h2.size h3.size), fun k hk ha hr =>
    ((h3.block k (Nat.lt_of_lt_of_le hk (Nat.le_trans h1.size h2.size)) (by simp [ha])).trans (h2.block k (Nat.lt_of_lt_of_le hk h1.size) hr)).trans (h1.block k hk (by simp [ha]))⟩
theorem Two.below {w w' : World} {a N : Nat} {row : Option Nat} (h : Two w w' a row) (hN : N ≤ w.heap.size) (ha : N ≤ a) (hr : ∀ g, row = some g → N ≤ g) : Below N w w' :=
  ⟨h.os, h.tape, h.output, h.size, fun k hk => h.block k (by omega) (by omega) (fun e => by have := hr k e.symm; omega)⟩

set_option maxRecDepth 100000 in
set_option maxHeartbeats 2000000 in
theorem Append_ok {w : World} {base pb : Nat} {v : Value} (xs : List Int) (h : PkS w base pb v xs.length (partsF xs 0 xs.length)) (hb : base ≤ w.heap.size) (hn : xs.length < 200) (hv : allV xs = true) (s : Int) (hs : vld s = true) :
    Calls Try.prog 46 #[.pointer (some ⟨pb, 0, none⟩), .int .i64 s] w fun e w' => e = .returned .nilIface ∧ ∃ v', PkS w' base pb v' (xs.length + 1) (partsF (xs ++ [s]) 0 (xs.length + 1)) ∧ Two w w' pb v.ownBlock ∧ (v'.ownBlock = v.ownBlock ∨ ∀ g, v'.ownBlock = some g → w.heap.size ≤ g) := by
  obtain ⟨n, HN⟩ : ∃ n, n = xs.length := ⟨_, rfl⟩
  rw [← HN] at h hn ⊢
  obtain ⟨ys, HY⟩ : ∃ ys, Hid (xs ++ [s] = ys) := ⟨_, rfl⟩
  have HYL : Hid (ys.length = n + 1) := by show _ = _; rw [← HY.out, List.length_append, HN]; rfl
  have HYV : Hid (allV ys = true) := by
    show _ = _
    rw [← HY.out]
    simp [allV] at hv ⊢
    exact ⟨hv, hs⟩
  have HY0 : Hid (ofL (seg ys (n * 2 ^ 0) (2 ^ 0)) = s) := by
    show _ = _
    have : seg ys (n * 2 ^ 0) (2 ^ 0) = [s] := by
      rw [Nat.pow_zero, Nat.mul_one, ← HY.out, HN]
      unfold seg
      rw [List.take_of_length_le (by simp), List.drop_left]
    rw [this, ofL_one]
  have HP0 : Hid (partsF xs 0 n = partsF ys 0 n) := by
    show _ = _
    rw [← HY.out, partsF_append xs [s] n 0 n (Nat.le_refl _) (by rw [Nat.pow_zero, Nat.mul_one, HN]; exact Nat.le_refl _)]
  rw [HP0.out] at h
  rw [HY.out]
  have b0 := h.bk.cell 0
  clear HN hv HP0 HY
  go_enter Try.func46, Try.ntmps46
  go_wp2_with fail
  refine (Valid_any _ _).mono ?_
  rintro _ _ ⟨rfl, rfl⟩
  rw [hs]
  go_wp2_with fail
  go_loopw [1, 5] (fun u x wr => ∃ (j m : Nat) (vj : Value), x = .int .i64 m ∧ u = .int .i64 (ofL (seg ys (m * 2 ^ j) (2 ^ j))) ∧ Hid ((m + 1) * 2 ^ j = n + 1) ∧ m ≤ n ∧ PkS wr base pb vj n (partsF ys j m) ∧ w.grownBy wr (some pb) ∧ vj.ownBlock = v.ownBlock) (fun _ x _ => (intOf x).toNat)
  case atStart =>
    exact ⟨0, n, v, rfl, by rw [HY0.out], by show _ = _; omega, Nat.le_refl _, h, (Ext.refl w).gb _, rfl⟩
  case round =>
    obtain ⟨j, m, vj, rfl, rfl, HJ, hm, hp, hg, ho⟩ := hrel
    by_cases hc : m % 2 = 1
    · have HO := Lib.hid (partsF_odd ys j hc)
      rw [HO.out] at hp
      obtain ⟨g, cap, rfl, hgp, hgl, hcl, hkc, hcm, hown⟩ := hp.last
      have b0 := hp.bk.cell 0
      have b1 := hp.bk.cell 1
      have f1 := hp.bk.frozen 1
      have hlt := hp.bk.lt
      have HST := Lib.hid (partsF_step (xs := ys) (j := j) (m := m) hc (by rw [HJ.out, HYL.out]; exact Nat.le_refl _) (by rw [HYL.out]; omega))
      have hand := and_one_i64 m (by omega)
      rw [hc] at hand
      generalize hhd : ofL (seg ys (m / 2 * 2 ^ (j + 1)) (2 ^ j)) = hd at *
      generalize htl : partsF ys (j + 1) (m / 2) = tl at *
      have hkl : tl.length ≤ 4096 := by rw [← htl, partsF_len ys m (j+1) (m/2) (by omega)]; have := ones_le m (m / 2) (by omega); omega
      have HHD : Hid (0 ≤ hd) := by
        show _ ≤ _
        rw [← hhd]
        exact (vld_true (vld_ofL (allV_seg HYV.out _ _) (by unfold seg; simp; rw [HYL.out]; omega))).1
      have HSM : Hid (0 ≤ ofL (seg ys (m * 2 ^ j) (2 ^ j))) := (vld_true (vld_ofL (allV_seg HYV.out _ _) (by unfold seg; simp; rw [HYL.out]; omega))).1
      generalize ofL (seg ys (m * 2 ^ j) (2 ^ j)) = sm at *
      have HTL : Hid (partsF ys (j + 1) (m / 2) = tl) := htl
      clear hhd htl
      go_wp2_with fail
      refine (NodeOf_any hd sm _ HHD.out HSM.out).mono ?_
      rintro _ w1 ⟨rfl, hb1⟩
      have hp1 := hp.ext hb1
      have hown1 := own_ext hown hb1
      have hlt1 := hp1.bk.lt
      clear b0 b1 f1
      have b0 := hp1.bk.cell 0
      have b1 := hp1.bk.cell 1
      have f1 := hp1.bk.frozen 1
      go_wp2_with fail
      go_roundw
      case rel =>
        refine ⟨j + 1, m / 2, .slice (some ⟨g, 0, none⟩) tl.length cap, by congr 1, by rw [HST.out.1], HST.out.2.trans HJ.out, by omega, ?_, ?_, ho⟩
        · rw [HTL.out]; refine ⟨hp1.le, hp1.bk.set_ 1 _, hown1.kept (gb_set _ _ _ _) (.inr (by simp [Value.ownBlock]; exact hgp)), by simp [Value.ownBlock]; exact hgp⟩
        · exact gb_trans (gb_ext hg hb1) (gb_set _ _ _ _)
      case measure => simp [intOf]; omega
    · obtain he : m % 2 = 0 := by omega
      have hand := and_one_i64 m (by omega)
      rw [he] at hand
      have hcmp : (bits BinOp.and IntKind.i64 (m : Int) 1 == 1) = false := by rw [hand]; rfl
      have HE := Lib.hid (partsF_end (xs := ys) (j := j) he)
      rw [HJ.out] at HE
      have b1 := hp.bk.cell 1
      have HSM : Hid (0 ≤ ofL (seg ys (m * 2 ^ j) (2 ^ j))) := (vld_true (vld_ofL (allV_seg HYV.out _ _) (by unfold seg; simp; rw [HYL.out]; omega))).1
      generalize ofL (seg ys (m * 2 ^ j) (2 ^ j)) = sm at *
      have hLL : (partsF ys j m).length ≤ 4096 := by rw [partsF_len ys m j m (Nat.le_refl _)]; have := ones_le m m (Nat.le_refl _); omega
      generalize partsF ys j m = L at *
      have hne := hp.ne
      have hbw : base ≤ wr.heap.size := Nat.le_trans hb hg.size
      obtain ⟨i0, hi0, hz0, hz1, hz2⟩ := info_parts info_intP
      have HP := Lib.hid hp
      have HA := Lib.hid (hp.bk.alloc (.cells #[.int .i64 sm] 3))
      go_wp2_with (at_builtin; refine wpl_apps (by rfl) _ _ _ (by rfl) base 3 i0 _ 1 8 Try.underlying48 hi0 hz0 hz1 hz2 rfl (by omega) vj _ _ (by rfl) (HP.out.own.alloc _) ⟨wr.heap.size, 0, none⟩ 1 1 [.int .i64 sm] (by rfl) (by rfl) (news_new wr _ _ _ rfl) (fun u hu => by simp at hu; subst hu; rfl) (by omega) (by omega) (by omega) (by simp; omega) ?_; intro g cap w3 own3 hg3 hH3 hlt3; have B3 := HA.out.kept hg3 hne; have b0 := B3.cell 0; have b1 := B3.cell 1; have f0 := B3.frozen 0; have f1 := B3.frozen 1; have hlt := B3.lt)
      have hgne : g ≠ pb := by
        rcases hH3 with e | e
        · intro e'; rw [e'] at e; exact hne e
        · have := HP.out.bk.lt
          simp at e
          omega
      go_ret
      refine ⟨rfl, .slice (some ⟨g, 0, none⟩) (L.length + 1) cap, ?_, ?_, ?_⟩
      · rw [← HE.out]
        refine ⟨HP.out.le, (B3.set_ 1 _).set_ 0 _, ?_, by simp [Value.ownBlock]; exact hgne⟩
        have o1 := own3.kept (gb_trans (gb_set w3 pb 1 (.slice (some ⟨g, 0, none⟩) (L.length + 1) cap)) (gb_set _ pb 0 (.int .i64 ((n : Int) + 1)))) (.inr (by simp [Value.ownBlock]; exact hgne))
        rw [List.reverse_cons, List.map_append]
        exact o1
      · rw [ho] at hg3
        exact Two.of (gb_alloc hg _) hg3 (gb_trans (gb_set _ _ _ _) (gb_set _ _ _ _))
      · rcases hH3 with e | e
        · left; rw [← ho, e]; rfl
        · right
          intro g' e'
          simp [Value.ownBlock] at e'
          have := hg.size
          simp at e
          omega
end Go.Proofs.Ytcpnhmjibihpkaa
