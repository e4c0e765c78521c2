/- ForkFinds: the walk. -/
import Derived.Test.YtdefdcaeiojmeaaDoorSrvH
import Derived.Test.YtdefdcaeiojmeaaDoorTot2
import Derived.Test.YtdefdcaeiojmeaaDoorFindF
import Derived.Test.YtdefdcaeiojmeaaDoorError
import Derived.Test.YtdefdcaeiojmeaaDoorGrown
import Derived.Test.YtdefdcaeiojmeaaDoorStore4
import Derived.Deep.DeepCutAuto
import Derived.Deep.CutRange
import Derived.Deep.CutBlock
namespace Go.Proofs.YtdefdcaeiojmeaaDoor.forkFinds
open Go.RowKit Go.WideShapes
set_option linter.unusedVariables false
attribute [local go_sem ↓] Go.wp_at_zero Go.wp_at_succ

theorem info_head : (Tryd.prog.info? 31).map (fun i => (i.zero, i.size, i.bytes)) = some (some (.agg #[.int .i64 0, .int .i64 0, .int .i64 0, .int .i64 0]), 4, 32) := by kernel_rfl
theorem oneH (h : Hd) : ∀ u ∈ h.cells, u.oneCell' = true := by intro u hu; simp [Hd.cells] at hu; rcases hu with rfl | rfl | rfl | rfl <;> rfl
theorem build_two (a b c d a' b' c' d' : Int) : ∀ W : World, (Instr.buildSlice 58 2 #[(0, .agg #[.int .i64 a, .int .i64 b, .int .i64 c, .int .i64 d]), (1, .agg #[.int .i64 a', .int .i64 b', .int .i64 c', .int .i64 d'])]).run Tryd.prog W = .ok (.slice (some ⟨W.heap.size, 0, none⟩) 2 2) (W.alloc (.cells #[.int .i64 a, .int .i64 b, .int .i64 c, .int .i64 d, .int .i64 a', .int .i64 b', .int .i64 c', .int .i64 d'] 31)) := fun _ => by kernel_rfl
theorem wpl_build2 {w : World} {ops : Array Oper} {rest : List Oper} {o : Oper} {a : Act} {Q : Exit → Act → World → Prop} (hg : o.guard = none) (x y : Operand) (hop : o.op = .buildSlice 58 2 #[(0, x), (1, y)]) (a0 a1 a2 a3 b0 b1 b2 b3 : Int)
    (hx : a.eval x = .agg #[.int .i64 a0, .int .i64 a1, .int .i64 a2, .int .i64 a3]) (hy : a.eval y = .agg #[.int .i64 b0, .int .i64 b1, .int .i64 b2, .int .i64 b3])
    (hK : wpList Tryd.prog ops Q rest (a.put o.dst (.slice (some ⟨w.heap.size, 0, none⟩) 2 2)) (w.alloc (.cells #[.int .i64 a0, .int .i64 a1, .int .i64 a2, .int .i64 a3, .int .i64 b0, .int .i64 b1, .int .i64 b2, .int .i64 b3] 31))) :
    wpList Tryd.prog ops Q (o :: rest) a w := by
  refine wpList_plain hg fun K' hK' => ?_
  have h1 := build_two a0 a1 a2 a3 b0 b1 b2 b3 w
  unfold Oper.wp
  simp [execOp, hop, hx, hy, h1, Result.andThen]
  exact hK' _ _ hK
/-- a signed head -/
def hdF (rt sg : Nat → Int) (k : Nat) : Hd := ⟨(k : Int), rt k, 0, sg k⟩
theorem hdF_sign {n : Nat} {r key : Int} (hn : n ≤ 200) (hr : vld r = true) (hk : keyI key = true) : sgnH (lgB n r 0) key = ⟨(n : Int), r, 0, signI (lgB n r 0) key⟩ :=
  (sgn_ver (lg_ok hn hr ⟨by decide, by decide⟩ hk).1).2.2.2

theorem Leafs_tot (A : Option Addr) (n c : Nat) (es : List Ent) (w : World) (hr : Rd w 2 A n c (es.flatMap Ent.cells)) (hm : c ≤ maxLen) :
    Calls Tryd.prog 14 #[.slice A n c] w fun e w' => (∃ v, e = .returned (.tuple #[v, errR (entsErr es)])) ∧ Ext w w' := by
  by_cases h : entsOk es
  · refine (Leafs_ok A n c es w hr hm h).mono fun e w' hh => ⟨?_, hh.2⟩
    obtain ⟨⟨v, he, _⟩, _⟩ := hh
    exact ⟨v, he.trans (by rw [entsErr_ok h]; rfl)⟩
  · refine (Leafs_bad A n c es w hr hm h).mono fun e w' hh => ⟨?_, hh.2⟩
    exact ⟨_, hh.1.trans (by rw [errR_ne (entsErr_bad h)])⟩
set_option maxRecDepth 100000 in
set_option maxHeartbeats 40000000 in
theorem walk_yes (A : Option Addr) (n c : Nat) (es : List Ent) (A' : Option Addr) (n' c' : Nat) (os : List Ent) (key : Int) (A3 : Option Addr) (m c3 : Nat) (zs : List Int) (w : World)
    (hm : c ≤ maxLen) (hr : Rd w 2 A n c (es.flatMap Ent.cells)) (hm' : c' ≤ maxLen) (hr' : Rd w 2 A' n' c' (os.flatMap Ent.cells)) (hm3 : c3 ≤ maxLen) (hr3 : Rd w 1 A3 m c3 (zs.map (Value.int .i64)))
    (hD : DebG w) (hP : PowG w) (hg : ErrG w) (hk : entsOk es) (hk' : entsOk os) (hkey : keyI key = true) :
    Calls Tryd.prog 4 #[.slice A n c, .slice A' n' c', .int .i64 key, .slice A3 m c3] w fun e w' => e = .returned (.bool true) ∧ Ext w w' := by
  obtain ⟨hE, hN, hG0⟩ := errR_rules
  have hx := hr.lenE
  have hx' := hr'.lenE
  have hn200 : n ≤ 200 := by have := hk.1; omega
  have hn200' : n' ≤ 200 := by have := hk'.1; omega
  have h3c := hr3.2.1
  have hc3s : c3 ≤ 9223372036854775807 := by unfold maxLen at hm3; omega
  obtain ⟨k1, k2⟩ := keyI_true hkey
  obtain ⟨xs, hxs⟩ : ∃ xs, es.map Ent.leaf = xs := ⟨_, rfl⟩
  obtain ⟨ys, hys⟩ : ∃ xs, os.map Ent.leaf = xs := ⟨_, rfl⟩
  have hlo : leafsOk xs := by rw [← hxs]; exact leafs_of_ents hk
  have hlo' : leafsOk ys := by rw [← hys]; exact leafs_of_ents hk'
  have hxl : xs.length = n := by rw [← hxs, List.length_map, hx]
  have hyl : ys.length = n' := by rw [← hys, List.length_map, hx']
  have hlen := Lib.hid hxl
  obtain ⟨rt, hrt⟩ : ∃ f : Nat → Int, ∀ k, ofL (xs.take k) = f k := ⟨fun k => ofL (xs.take k), fun _ => rfl⟩
  obtain ⟨rt', hrt'⟩ : ∃ f : Nat → Int, ∀ k, ofL (ys.take k) = f k := ⟨fun k => ofL (ys.take k), fun _ => rfl⟩
  obtain ⟨sg, hsg⟩ : ∃ f : Nat → Int, ∀ k, signI (lgB k (rt k) 0) key = f k := ⟨fun k => signI (lgB k (rt k) 0) key, fun _ => rfl⟩
  obtain ⟨sg', hsg'⟩ : ∃ f : Nat → Int, ∀ k, signI (lgB k (rt' k) 0) key = f k := ⟨fun k => signI (lgB k (rt' k) 0) key, fun _ => rfl⟩
  have hvr : ∀ k, vld (rt k) = true := fun k => by rw [← hrt k]; exact vld_root (leafsOk_take hlo k)
  have hvr' : ∀ k, vld (rt' k) = true := fun k => by rw [← hrt' k]; exact vld_root (leafsOk_take hlo' k)
  have hH : ∀ k, k ≤ n → sgnH (lgB k (rt k) 0) key = hdF rt sg k ∧ sgnK (lgB k (rt k) 0) key = 0 ∧ verK (hdF rt sg k) key = 0 := fun k hk2 => by
    obtain ⟨a1, a2, a3, a4⟩ := lg_ok (n := k) (r := rt k) (t := 0) (key := key) (by omega) (hvr k) ⟨by decide, by decide⟩ hkey
    have e : sgnH (lgB k (rt k) 0) key = hdF rt sg k := by rw [hdF_sign (by omega) (hvr k) hkey, hsg k]; rfl
    exact ⟨e, a1, by rw [← e]; exact a2⟩
  have hH' : ∀ k, k ≤ n' → sgnH (lgB k (rt' k) 0) key = hdF rt' sg' k ∧ sgnK (lgB k (rt' k) 0) key = 0 ∧ verK (hdF rt' sg' k) key = 0 := fun k hk2 => by
    obtain ⟨a1, a2, a3, a4⟩ := lg_ok (n := k) (r := rt' k) (t := 0) (key := key) (by omega) (hvr' k) ⟨by decide, by decide⟩ hkey
    have e : sgnH (lgB k (rt' k) 0) key = hdF rt' sg' k := by rw [hdF_sign (by omega) (hvr' k) hkey, hsg' k]; rfl
    exact ⟨e, a1, by rw [← e]; exact a2⟩
  -- the closed fact
  obtain ⟨x1, x2, x3, x4⟩ := lg_ok (n := 1) (r := 5) (t := 0) (key := 7) (by omega) (by decide) ⟨by decide, by decide⟩ (by decide)
  obtain ⟨y1, y2, y3, y4⟩ := lg_ok (n := 1) (r := 6) (t := 0) (key := 7) (by omega) (by decide) ⟨by decide, by decide⟩ (by decide)
  obtain ⟨fa, hfa⟩ : ∃ x, sgnH (lgB 1 5 0) 7 = x := ⟨_, rfl⟩
  obtain ⟨fb, hfb⟩ : ∃ x, sgnH (lgB 1 6 0) 7 = x := ⟨_, rfl⟩
  rw [hfa] at x2 x3 x4
  rw [hfb] at y2 y3 y4
  have hbo : bothK fa fb 7 = 0 := by unfold bothK; rw [if_neg (not_not_intro x2), y2]
  have hpv : prvB fa fb 7 = true := by
    unfold prvB splB
    rw [hbo, x3, y3, x4, y4]; decide
  have HS5 : Hid (∀ W, Ext w W → Calls Tryd.prog 18 #[.agg #[.int .i64 1, .int .i64 5, .int .i64 0, .int .i64 0], .int .i64 7] W fun e w' => e = .returned (.tuple #[fa.val, .nilIface]) ∧ Ext W w') := Lib.hid fun W e => by
    have := Sign_any (lgB 1 5 0) 7 W (hD.ext e) (hP.ext e)
    rw [hfa, x1] at this; exact this
  have HS6 : Hid (∀ W, Ext w W → Calls Tryd.prog 18 #[.agg #[.int .i64 1, .int .i64 6, .int .i64 0, .int .i64 0], .int .i64 7] W fun e w' => e = .returned (.tuple #[fb.val, .nilIface]) ∧ Ext W w') := Lib.hid fun W e => by
    have := Sign_any (lgB 1 6 0) 7 W (hD.ext e) (hP.ext e)
    rw [hfb, y1] at this; exact this
  have HPV : Hid (∀ W, Ext w W → Calls Tryd.prog 19 #[fa.val, fb.val, .int .i64 7] W fun e w' => e = .returned (.tuple #[.bool true, .nilIface]) ∧ Ext W w') := Lib.hid fun W e => by
    have := Proves_any fa fb 7 W (hD.ext e) (hP.ext e)
    rw [hpv, hbo] at this; exact this
  -- the callees
  have HL1 : Hid (∀ W, Ext w W → Calls Tryd.prog 14 #[.slice A n c] W fun e w' => (∃ v, e = .returned (.tuple #[v, .nilIface]) ∧ w'.ownsRow W.heap.size 3 1 v n (xs.map (Value.int .i64))) ∧ Ext W w') := Lib.hid fun W e => by
    have := Leafs_ok A n c es W (hr.ext e) hm hk
    rw [hx, hxs] at this; exact this
  have HL2 : Hid (∀ W, Ext w W → Calls Tryd.prog 14 #[.slice A' n' c'] W fun e w' => (∃ v, e = .returned (.tuple #[v, .nilIface]) ∧ w'.ownsRow W.heap.size 3 1 v n' (ys.map (Value.int .i64))) ∧ Ext W w') := Lib.hid fun W e => by
    have := Leafs_ok A' n' c' os W (hr'.ext e) hm' hk'
    rw [hx', hys] at this; exact this
  have HRO : Hid (∀ k, k ≤ n → ∀ B d W, Rd W 1 B n d (xs.map (Value.int .i64)) → d ≤ maxLen → Calls Tryd.prog 15 #[.slice B k d] W fun e w' => e = .returned (.tuple #[.int .i64 (rt k), .nilIface]) ∧ Ext W w') := Lib.hid fun k hk2 B d W hB hd => by
    have := Root_ok B k d (xs.take k) W (hB.takeI hk2) hd (leafsOk_take hlo k)
    rw [hrt k] at this; exact this
  have HRO' : Hid (∀ k, k ≤ n' → ∀ B d W, Rd W 1 B n' d (ys.map (Value.int .i64)) → d ≤ maxLen → Calls Tryd.prog 15 #[.slice B k d] W fun e w' => e = .returned (.tuple #[.int .i64 (rt' k), .nilIface]) ∧ Ext W w') := Lib.hid fun k hk2 B d W hB hd => by
    have := Root_ok B k d (ys.take k) W (hB.takeI hk2) hd (leafsOk_take hlo' k)
    rw [hrt' k] at this; exact this
  have HSG : Hid (∀ k, k ≤ n → ∀ W, Ext w W → Calls Tryd.prog 18 #[.agg #[.int .i64 k, .int .i64 (rt k), .int .i64 0, .int .i64 0], .int .i64 key] W fun e w' => e = .returned (.tuple #[.agg #[.int .i64 k, .int .i64 (rt k), .int .i64 0, .int .i64 (sg k)], .nilIface]) ∧ Ext W w') := Lib.hid fun k hk2 W e => by
    have := Sign_any (lgB k (rt k) 0) key W (hD.ext e) (hP.ext e)
    rw [(hH k hk2).1, (hH k hk2).2.1] at this; exact this
  have HSG' : Hid (∀ k, k ≤ n' → ∀ W, Ext w W → Calls Tryd.prog 18 #[.agg #[.int .i64 k, .int .i64 (rt' k), .int .i64 0, .int .i64 0], .int .i64 key] W fun e w' => e = .returned (.tuple #[.agg #[.int .i64 k, .int .i64 (rt' k), .int .i64 0, .int .i64 (sg' k)], .nilIface]) ∧ Ext W w') := Lib.hid fun k hk2 W e => by
    have := Sign_any (lgB k (rt' k) 0) key W (hD.ext e) (hP.ext e)
    rw [(hH' k hk2).1, (hH' k hk2).2.1] at this; exact this
  have HCK : Hid (∀ p q, p ≤ q → q ≤ n → ∀ B l d W, Ext w W → Rd W 1 B l d ((goP xs p q).map (Value.int .i64)) → d ≤ maxLen → Calls Tryd.prog 21 #[.agg #[.int .i64 p, .int .i64 (rt p), .int .i64 0, .int .i64 (sg p)], .agg #[.int .i64 q, .int .i64 (rt q), .int .i64 0, .int .i64 (sg q)], .int .i64 key, .slice B l d] W fun e w' => e = .returned (.tuple #[.bool true, .nilIface]) ∧ Ext W w') := Lib.hid fun p q hpq hq B l d W e hB hd => by
    have h1 := (chk_older hlo hpq (by omega) (t := 0) (u := 0) (key := key) ⟨by decide, by decide⟩ ⟨by decide, by decide⟩ hkey).1
    rw [hrt p, hrt q, (hH p (by omega)).1, (hH q hq).1] at h1
    have := FCheck_any (hdF rt sg p) (hdF rt sg q) key B l d (goP xs p q) W (hD.ext e) (hP.ext e) (hg.ext e) hB hd
    rw [h1] at this; exact this
  have HGM : Hid (∀ p q, 1 ≤ p → p < q → q ≤ n → ∀ B d W, Rd W 1 B n d (xs.map (Value.int .i64)) → d ≤ maxLen → Calls Tryd.prog 20 #[.slice B n d, .int .i64 p, .int .i64 q] W fun e w' => (∃ v, e = .returned (.tuple #[v, .nilIface]) ∧ OwnI W w' v (goP xs p q)) ∧ Ext W w') := Lib.hid fun p q h1 h2 h3 B d W hB hd => by
    have := GMake_any B n d xs p q W hB hd
    obtain ⟨g1, g2⟩ := gmV_goP hlo h1 h2 (by omega)
    rw [g1, g2] at this; exact this
  have HNP : Hid (∀ p q, ¬ (1 ≤ p ∧ p < q) → goP xs p q = []) := Lib.hid fun p q h => if_neg h
  have HFI : Hid (∀ ns : List Nat, (∀ k ∈ ns, k ≤ n) → ns.length ≤ 8 → ∀ B d W, Ext w W → Rd W 4 B ns.length d ((ns.map (hdF rt sg)).flatMap Hd.cells) → d ≤ maxLen → Calls Tryd.prog 22 #[.slice B ns.length d, .int .i64 key] W fun e w' => e = .returned (.tuple #[.int .i64 0, .int .i64 0, errR 5]) ∧ Ext W w') := Lib.hid fun ns hns h8 B d W e hB hd => by
    have := FFind_any B ns.length d (ns.map (hdF rt sg)) key W (hD.ext e) (hP.ext e) hB hd
    rw [findV_none (by rw [List.length_map]; omega) (fun x hx => by
      obtain ⟨k, hk2, rfl⟩ := List.mem_map.1 hx
      exact (hH k (hns k hk2)).2.2) (fun a ha b hb => by
      obtain ⟨k, hk2, rfl⟩ := List.mem_map.1 ha
      obtain ⟨j, hj2, rfl⟩ := List.mem_map.1 hb
      unfold splB hdF
      by_cases e : k = j
      · subst e; simp
      · have : ¬ ((k : Int) = (j : Int)) := by omega
        simp [this])] at this
    exact this
  have HF2 : Hid (∀ q, q ≤ n → q ≤ n' → rt q ≠ rt' q → ∀ B d W, Ext w W → Rd W 4 B 2 d ([hdF rt sg q, hdF rt' sg' q].flatMap Hd.cells) → d ≤ maxLen → Calls Tryd.prog 22 #[.slice B 2 d, .int .i64 key] W fun e w' => e = .returned (.tuple #[.int .i64 0, .int .i64 1, .nilIface]) ∧ Ext W w') := Lib.hid fun q h1 h2 hne B d W e hB hd => by
    have := FFind_any B 2 d [hdF rt sg q, hdF rt' sg' q] key W (hD.ext e) (hP.ext e) hB hd
    rw [findV_two (hH q h1).2.2 (hH' q h2).2.2 (by unfold splB hdF; simp [hne])] at this
    exact this
  have HG := Lib.hid hg
  have HR3 := Lib.hid hr3
  have HZL := Lib.hid hr3.lenI
  clear hrt hrt' hsg hsg' hvr hvr' hH hH' x1 x2 x3 x4 y1 y2 y3 y4 hfa hfb hbo hpv hxs hys hlo hlo' hxl hyl hx hx' hk hk' hkey hD hP hg hr hr' hr3 hm hm' hm3
  obtain ⟨fa0, fa1, fa2, fa3⟩ := fa
  obtain ⟨fb0, fb1, fb2, fb3⟩ := fb
  simp only [Hd.val] at HS5 HS6 HPV
  go_enter Tryd.func4, Tryd.ntmps4
  go_wp2_with fail
  refine (HS5.out _ (Ext.refl _)).mono ?_
  rintro _ w1 ⟨rfl, hb1⟩
  have HA := Lib.hid (Bk.at_ w1 31 #[.int .i64 fa0, .int .i64 fa1, .int .i64 fa2, .int .i64 fa3] w1.heap.size rfl)
  have HE1 := Lib.hid (hb1.alloc (.cells #[.int .i64 fa0, .int .i64 fa1, .int .i64 fa2, .int .i64 fa3] 31))
  go_upto_region 2 with (fail)
  generalize w1.alloc (.cells #[.int .i64 fa0, .int .i64 fa1, .int .i64 fa2, .int .i64 fa3] 31) = W1 at *
  generalize w1.heap.size = g1 at *
  clear hb1
  go_wp2_with fail
  refine (HS6.out _ HE1.out).mono ?_
  rintro _ w2 ⟨rfl, hb2⟩
  have HB := Lib.hid (Bk.at_ w2 31 #[.int .i64 fb0, .int .i64 fb1, .int .i64 fb2, .int .i64 fb3] w2.heap.size rfl)
  have e2 : Ext W1 (w2.alloc (.cells #[.int .i64 fb0, .int .i64 fb1, .int .i64 fb2, .int .i64 fb3] 31)) := hb2.alloc _
  have HE2 := Lib.hid (HE1.out.trans e2)
  have HA2 := Lib.hid (HA.out.ext e2)
  go_upto_region 3 with (fail)
  generalize w2.alloc (.cells #[.int .i64 fb0, .int .i64 fb1, .int .i64 fb2, .int .i64 fb3] 31) = W2 at *
  generalize w2.heap.size = g2 at *
  have a0 := HA2.out.cell 0
  have a1 := HA2.out.cell 1
  have a2 := HA2.out.cell 2
  have a3 := HA2.out.cell 3
  have b0 := HB.out.cell 0
  have b1 := HB.out.cell 1
  have b2 := HB.out.cell 2
  have b3 := HB.out.cell 3
  clear hb2 e2 HE1 HA
  go_wp2_with fail
  refine (HPV.out _ HE2.out).mono ?_
  rintro _ w3 ⟨rfl, hb3⟩
  have HE3 := Lib.hid (HE2.out.trans hb3)
  clear a0 a1 a2 a3 b0 b1 b2 b3 HA2 HB HE2 hb3 HS5 HS6 HPV
  go_wp2_with fail
  refine (HL1.out _ HE3.out).mono ?_
  rintro _ w4 ⟨⟨v4, rfl, own4⟩, hb4⟩
  obtain ⟨A4, c4, rfl, hc4, R4, -⟩ := own_rd own4
  have HE4 := Lib.hid (HE3.out.trans hb4)
  have HR4 := Lib.hid R4
  clear own4 R4 hb4 HE3 HL1
  go_wp2_with fail
  refine (HL2.out _ HE4.out).mono ?_
  rintro _ w5 ⟨⟨v5, rfl, own5⟩, hb5⟩
  obtain ⟨A5, c5, rfl, hc5, R5, -⟩ := own_rd own5
  have HE5 := Lib.hid (HE4.out.trans hb5)
  have HR5 := Lib.hid R5
  have HR45 := Lib.hid (HR4.out.ext hb5)
  have h4c : n ≤ c4 := HR4.out.2.1
  have h5c : n' ≤ c5 := HR5.out.2.1
  have hc4s : c4 ≤ 9223372036854775807 := by unfold maxLen at hc4; omega
  have hc5s : c5 ≤ 9223372036854775807 := by unfold maxLen at hc5; omega
  clear own5 R5 hb5 HE4 HR4 HL2
  obtain ⟨i0, hi0, hz0, hz1, hz2⟩ := info_parts info_head
  go_upto_block 0 with (fail)
  go_cut [8, 19, 20, 21, 22, 23, 24, 25, 26, 27, 28, 29, 30, 31] (fun _ v _ _ _ _ _ _ _ _ _ _ _ _ wc => ∃ ns : List Nat, Hid ((∀ k ∈ ns, k ≤ n) ∧ ns.length ≤ 8) ∧ Ext w5 wc ∧ Hid (wc.ownsRow w5.heap.size 31 4 v ns.length ((ns.map (hdF rt sg)).flatMap Hd.cells)))
  case first =>
    as_aux_lemma =>
    go_wp2_with fail
    go_loopw [19, 20] (fun v x wr => ∃ (i : Nat) (ns : List Nat), x = .int .i64 i ∧ i ≤ m ∧ i ≤ 8 ∧ ns.length ≤ i ∧ Ext w5 wr ∧ Hid (∀ k ∈ ns, k ≤ n) ∧ Hid (wr.ownsRow w5.heap.size 31 4 v ns.length ((ns.map (hdF rt sg)).flatMap Hd.cells))) (fun _ x _ => 8 - (intOf x).toNat)
    case atStart => exact ⟨0, [], rfl, Nat.zero_le _, Nat.zero_le _, Nat.le_refl _, Ext.refl _, Lib.hid (fun k hk => by cases hk), own_nil _ _ _ _⟩
    case round =>
      obtain ⟨i, ns, rfl, him, hi8, hnl, hbw, HNS, HOW⟩ := hrel
      by_cases hc : i < m
      case neg =>
        obtain rfl : i = m := by omega
        go_wp2_with fail
        go_meet
        exact ⟨ns, Lib.hid ⟨HNS.out, by omega⟩, hbw, HOW⟩
      by_cases hc8 : i < 8
      case neg =>
        obtain rfl : i = 8 := by omega
        have hcI : (8 : Int) < (m : Int) := by omega
        go_wp2_with fail
        go_meet
        exact ⟨ns, Lib.hid ⟨HNS.out, by omega⟩, hbw, HOW⟩
      have hgz := List.getElem?_eq_getElem (l := zs) (i := i) (by rw [HZL.out]; exact hc)
      generalize zs[i]'(by rw [HZL.out]; exact hc) = z at *
      obtain ⟨adz, rfl, hbz, cz⟩ := (HR3.out.ext (HE5.out.trans hbw)).getI hgz
      clear hgz
      by_cases hz : 0 ≤ z ∧ z ≤ n
      case neg =>
        have h' : z < 0 ∨ (0 ≤ z ∧ (n : Int) < z) := by omega
        clear hz
        rcases h' with h | ⟨h, h2⟩
        all_goals
          go_wp2_with fail
          go_roundw
          case rel => exact ⟨i + 1, ns, by go_num, by omega, by omega, by omega, hbw, HNS, HOW⟩
          case measure => simp [intOf]; omega
      obtain ⟨hz00, hzn⟩ := hz
      obtain ⟨q, rfl⟩ := Int.eq_ofNat_of_zero_le hz00
      have hqn : q ≤ n := by omega
      go_wp2_with fail
      refine (HRO.out q hqn A4 c4 _ (HR45.out.ext hbw) hc4).mono ?_
      rintro _ w6 ⟨rfl, hb6⟩
      go_wp2_with fail
      refine (HSG.out q hqn _ ((HE5.out.trans hbw).trans hb6)).mono ?_
      rintro _ w7 ⟨rfl, hb7⟩
      have HB := Lib.hid (Bk.at_ w7 31 #[.int .i64 q, .int .i64 (rt q), .int .i64 0, .int .i64 (sg q)] w7.heap.size rfl)
      have e7 : Ext wr (w7.alloc (.cells #[.int .i64 q, .int .i64 (rt q), .int .i64 0, .int .i64 (sg q)] 31)) := (hb6.trans hb7).alloc _
      have HE7 := Lib.hid (hbw.trans e7)
      have HOW7 := Lib.hid (own_ext HOW.out e7)
      go_upto_region 18 with (fail)
      generalize w7.alloc (.cells #[.int .i64 q, .int .i64 (rt q), .int .i64 0, .int .i64 (sg q)] 31) = W7 at *
      generalize w7.heap.size = g7 at *
      obtain ⟨Ah, ch, rfl, hch, Rh, -⟩ := own_rd HOW7.out
      obtain ⟨l, hl⟩ : ∃ l, ns.length = l := ⟨_, rfl⟩
      rw [hl] at Rh HOW7 hnl ⊢
      have HNL := Lib.hid hl
      have HRh := Lib.hid Rh
      have hlc : l ≤ ch := Rh.2.1
      have hchs : ch ≤ 9223372036854775807 := by unfold maxLen at hch; omega
      clear hl Rh hb6 hb7 e7 HOW hbw
      go_wp2_with fail
      go_loopw [23, 26] (fun e x wr => ∃ k : Nat, e = .nilIface ∧ x = .int .i64 k ∧ k ≤ l ∧ Ext W7 wr) (fun _ x _ => l - (intOf x).toNat)
      case atStart => exact ⟨0, rfl, rfl, Nat.zero_le _, Ext.refl _⟩
      case round =>
        obtain ⟨k, rfl, rfl, hk, hbw2⟩ := hrel
        have B7 := HB.out.ext hbw2
        by_cases hkl : k < l
        · have hgp := List.getElem?_eq_getElem (l := ns) (i := k) (by rw [HNL.out]; exact hkl)
          have hpn := HNS.out _ (List.mem_of_getElem? hgp)
          generalize ns[k]'(by rw [HNL.out]; exact hkl) = p at *
          obtain ⟨adh, rfl, hbh, c0, c1, c2, c3'⟩ := (HRh.out.ext hbw2).getH (j := k) (e := hdF rt sg p) (by rw [List.getElem?_map, hgp]; rfl)
          simp only [hdF] at c0 c1 c2 c3'
          have hkI : (k : Int) < (l : Int) := by omega
          have e8 : Ext wr (wr.alloc (.cells #[.int .i64 p, .int .i64 (rt p), .int .i64 0, .int .i64 (sg p)] 31)) := (Ext.refl _).alloc _
          have B8 := B7.ext e8
          have d0 := B8.cell 0
          have d1 := B8.cell 1
          have d2 := B8.cell 2
          have d3 := B8.cell 3
          have P27 := (Bk.at_ wr 31 #[.int .i64 p, .int .i64 (rt p), .int .i64 0, .int .i64 (sg p)] wr.heap.size rfl).alloc (.cells #[.int .i64 q, .int .i64 (rt q), .int .i64 0, .int .i64 (sg q)] 31)
          have P28 := Bk.at_ (wr.alloc (.cells #[.int .i64 p, .int .i64 (rt p), .int .i64 0, .int .i64 (sg p)] 31)) 31 #[.int .i64 q, .int .i64 (rt q), .int .i64 0, .int .i64 (sg q)] (wr.heap.size + 1) (by simp)
          have e9 : Ext wr ((wr.alloc (.cells #[.int .i64 p, .int .i64 (rt p), .int .i64 0, .int .i64 (sg p)] 31)).alloc (.cells #[.int .i64 q, .int .i64 (rt q), .int .i64 0, .int .i64 (sg q)] 31)) := e8.alloc _
          have B9 := B7.ext e9
          have hlt7 := hbw2.size
          clear hgp B8
          go_upto_region 25 with (fail)
          generalize ((wr.alloc (.cells #[.int .i64 p, .int .i64 (rt p), .int .i64 0, .int .i64 (sg p)] 31)).alloc (.cells #[.int .i64 q, .int .i64 (rt q), .int .i64 0, .int .i64 (sg q)] 31)) = W9 at *
          have HE9 := Lib.hid e9
          obtain ⟨g27, hg27⟩ : ∃ g, wr.heap.size = g := ⟨_, rfl⟩
          rw [hg27] at P27 P28
          try rw [hg27]
          have HG27 := Lib.hid hg27
          have hbh' : (adh.add (k * 4)).block < wr.heap.size := by rw [blk_add]; exact hbh
          have u0 := (HE9.out.cell hbh').trans c0
          have u1 := (HE9.out.cell (p := ⟨(adh.add (k * 4)).block, (adh.add (k * 4)).off + 1, none⟩) hbh').trans c1
          have u2 := (HE9.out.cell (p := ⟨(adh.add (k * 4)).block, (adh.add (k * 4)).off + 2, none⟩) hbh').trans c2
          have u3 := (HE9.out.cell (p := ⟨(adh.add (k * 4)).block, (adh.add (k * 4)).off + 3, none⟩) hbh').trans c3'
          clear c0 c1 c2 c3' d0 d1 d2 d3 hg27 e8 e9
          have s0 := P27.cell 0
          have t0 := P28.cell 0
          rcases Nat.lt_or_ge q p with hpq | hpq
          · have htb : ((q : Int) < (p : Int)) = True := by simp; omega
            go_upto_if 155 with (fail)
            have HTB := Lib.hid hpq
            clear htb s0 t0
            have HP27 := Lib.hid P27
            have HP28 := Lib.hid P28
            have HB9 := Lib.hid B9
            clear P27 P28 B9
            go_cut [27] from 140 to 197 (fun v wc => v = .pointer (some ⟨g27, 0, none⟩) ∧ ∃ lo hi : Nat, lo ≤ hi ∧ hi ≤ n ∧ Hid (Bk wc g27 31 #[.int .i64 lo, .int .i64 (rt lo), .int .i64 0, .int .i64 (sg lo)]) ∧ Hid (Bk wc (g27 + 1) 31 #[.int .i64 hi, .int .i64 (rt hi), .int .i64 0, .int .i64 (sg hi)]) ∧ Hid (Ext wr wc))
            case first =>
              as_aux_lemma =>
              have d0 := HB9.out.cell 0
              have d1 := HB9.out.cell 1
              have d2 := HB9.out.cell 2
              have d3 := HB9.out.cell 3
              go_upto_region 27 with (refine wpl_store4 (by rfl) 31 _ _ (by rfl) g27 31 _ _ _ _ (q : Int) (rt q) 0 (sg q) (by rfl) (by rfl) Tryd.sizeOf31 HP27.out ?_; intro W10 k1 k2; have K1 := Lib.hid k1; have K2 := Lib.hid k2; clear k1 k2)
              have E10 : Ext wr W10 := HE9.out.gbn K2.out (by rw [HG27.out]; exact Nat.le_refl _)
              have HE10 := Lib.hid E10
              have HQ28 := Lib.hid (HP28.out.kept K2.out (by simp))
              have v0 : W10.cell? (adh.add (k * 4)) = some (.int .i64 p) := (E10.cell hbh').trans ((HE9.out.cell hbh').symm.trans u0)
              have v1 : W10.cell? ⟨(adh.add (k * 4)).block, (adh.add (k * 4)).off + 1, none⟩ = some (.int .i64 (rt p)) := (E10.cell (p := ⟨(adh.add (k * 4)).block, (adh.add (k * 4)).off + 1, none⟩) hbh').trans ((HE9.out.cell (p := ⟨(adh.add (k * 4)).block, (adh.add (k * 4)).off + 1, none⟩) hbh').symm.trans u1)
              have v2 : W10.cell? ⟨(adh.add (k * 4)).block, (adh.add (k * 4)).off + 2, none⟩ = some (.int .i64 0) := (E10.cell (p := ⟨(adh.add (k * 4)).block, (adh.add (k * 4)).off + 2, none⟩) hbh').trans ((HE9.out.cell (p := ⟨(adh.add (k * 4)).block, (adh.add (k * 4)).off + 2, none⟩) hbh').symm.trans u2)
              have v3 : W10.cell? ⟨(adh.add (k * 4)).block, (adh.add (k * 4)).off + 3, none⟩ = some (.int .i64 (sg p)) := (E10.cell (p := ⟨(adh.add (k * 4)).block, (adh.add (k * 4)).off + 3, none⟩) hbh').trans ((HE9.out.cell (p := ⟨(adh.add (k * 4)).block, (adh.add (k * 4)).off + 3, none⟩) hbh').symm.trans u3)
              clear u0 u1 u2 u3 d0 d1 d2 d3 E10
              go_wp2_with (refine wpl_store4 (by rfl) 31 _ _ (by rfl) (g27 + 1) 31 _ _ _ _ (p : Int) (rt p) 0 (sg p) (by rfl) (by rfl) Tryd.sizeOf31 HQ28.out ?_; intro W12 k3 k4; have K3 := Lib.hid k3; have K4 := Lib.hid k4; clear k3 k4)
              go_meet
              exact ⟨rfl, q, p, by omega, hpn, Lib.hid (K1.out.kept K4.out (by simp)), K3, Lib.hid (HE10.out.gbn K4.out (by rw [HG27.out]; omega))⟩
            case rest =>
            obtain ⟨rfl, lo, hi, hlh, hhn, HL27, HL28, HE11⟩ := hcut
            obtain ⟨W11, rfl⟩ : ∃ W, W = wc := ⟨_, rfl⟩
            have L27 := HL27.out
            have L28 := HL28.out
            clear u0 u1 u2 u3 HP27 HP28 HB9 HL27 HL28 HTB
            have s0 := L27.cell 0
            have s1 := L27.cell 1
            have s2 := L27.cell 2
            have s3 := L27.cell 3
            have t0 := L28.cell 0
            have t1 := L28.cell 1
            have t2 := L28.cell 2
            have t3 := L28.cell 3
            by_cases hg : 1 ≤ lo ∧ lo < hi
            · obtain ⟨hg1, hg2⟩ := hg
              have hg1i : (1 : Int) ≤ (lo : Int) := by omega
              have hg2i : (lo : Int) < (hi : Int) := by omega
              have e711 : Ext W7 W11 := hbw2.trans HE11.out
              go_wp2_with fail
              refine (HGM.out lo hi hg1 hg2 hhn A4 c4 _ (HR45.out.ext (HE7.out.trans e711)) hc4).mono ?_
              rintro _ w12 ⟨⟨v12, rfl, own12⟩, hb12⟩
              obtain ⟨A12, c12, rfl, hc12, R12⟩ := own12.rd
              have L27' := L27.ext hb12
              have L28' := L28.ext hb12
              clear s0 s1 s2 s3 t0 t1 t2 t3 own12
              have s0 := L27'.cell 0
              have s1 := L27'.cell 1
              have s2 := L27'.cell 2
              have s3 := L27'.cell 3
              have t0 := L28'.cell 0
              have t1 := L28'.cell 1
              have t2 := L28'.cell 2
              have t3 := L28'.cell 3
              go_wp2_with fail
              refine (HCK.out lo hi hlh hhn A12 _ c12 _ ((HE5.out.trans (HE7.out.trans e711)).trans hb12) R12 hc12).mono ?_
              rintro _ w13 ⟨rfl, hb13⟩
              go_wp2_with fail
              go_roundw
              case rel => exact ⟨k + 1, rfl, by go_num, by omega, (e711.trans hb12).trans hb13⟩
              case measure => simp [intOf]; omega
            · have hno := HNP.out lo hi hg
              have HNO := Lib.hid hno
              have hg' : ¬ (1 : Int) ≤ (lo : Int) ∨ ((1 : Int) ≤ (lo : Int) ∧ ¬ (lo : Int) < (hi : Int)) := by omega
              have e711 : Ext W7 W11 := hbw2.trans HE11.out
              clear hno hg
              rcases hg' with hg1 | ⟨hg1, hg2⟩
              all_goals
                go_wp2_with fail
                refine (HCK.out lo hi hlh hhn none 0 0 _ (HE5.out.trans (HE7.out.trans e711)) (by rw [HNO.out]; exact Rd.nil _ _ _ _) (Nat.zero_le _)).mono ?_
                rintro _ w13 ⟨rfl, hb13⟩
                go_wp2_with fail
                go_roundw
                case rel => exact ⟨k + 1, rfl, by go_num, by omega, e711.trans hb13⟩
                case measure => simp [intOf]; omega
          · have htb : ((q : Int) < (p : Int)) = False := by simp; omega
            go_upto_if 155 with (fail)
            have HTB := Lib.hid hpq
            clear htb s0 t0
            have HP27 := Lib.hid P27
            have HP28 := Lib.hid P28
            have HB9 := Lib.hid B9
            clear P27 P28 B9
            go_cut [27] from 140 to 197 (fun v wc => v = .pointer (some ⟨g27, 0, none⟩) ∧ ∃ lo hi : Nat, lo ≤ hi ∧ hi ≤ n ∧ Hid (Bk wc g27 31 #[.int .i64 lo, .int .i64 (rt lo), .int .i64 0, .int .i64 (sg lo)]) ∧ Hid (Bk wc (g27 + 1) 31 #[.int .i64 hi, .int .i64 (rt hi), .int .i64 0, .int .i64 (sg hi)]) ∧ Hid (Ext wr wc))
            case first =>
              as_aux_lemma =>
              clear u0 u1 u2 u3
              go_wp2_with fail
              go_meet
              exact ⟨rfl, p, q, hpq, hqn, HP27, HP28, HE9⟩
            case rest =>
            obtain ⟨rfl, lo, hi, hlh, hhn, HL27, HL28, HE11⟩ := hcut
            obtain ⟨W11, rfl⟩ : ∃ W, W = wc := ⟨_, rfl⟩
            have L27 := HL27.out
            have L28 := HL28.out
            clear u0 u1 u2 u3 HP27 HP28 HB9 HL27 HL28 HTB
            have s0 := L27.cell 0
            have s1 := L27.cell 1
            have s2 := L27.cell 2
            have s3 := L27.cell 3
            have t0 := L28.cell 0
            have t1 := L28.cell 1
            have t2 := L28.cell 2
            have t3 := L28.cell 3
            by_cases hg : 1 ≤ lo ∧ lo < hi
            · obtain ⟨hg1, hg2⟩ := hg
              have hg1i : (1 : Int) ≤ (lo : Int) := by omega
              have hg2i : (lo : Int) < (hi : Int) := by omega
              have e711 : Ext W7 W11 := hbw2.trans HE11.out
              go_wp2_with fail
              refine (HGM.out lo hi hg1 hg2 hhn A4 c4 _ (HR45.out.ext (HE7.out.trans e711)) hc4).mono ?_
              rintro _ w12 ⟨⟨v12, rfl, own12⟩, hb12⟩
              obtain ⟨A12, c12, rfl, hc12, R12⟩ := own12.rd
              have L27' := L27.ext hb12
              have L28' := L28.ext hb12
              clear s0 s1 s2 s3 t0 t1 t2 t3 own12
              have s0 := L27'.cell 0
              have s1 := L27'.cell 1
              have s2 := L27'.cell 2
              have s3 := L27'.cell 3
              have t0 := L28'.cell 0
              have t1 := L28'.cell 1
              have t2 := L28'.cell 2
              have t3 := L28'.cell 3
              go_wp2_with fail
              refine (HCK.out lo hi hlh hhn A12 _ c12 _ ((HE5.out.trans (HE7.out.trans e711)).trans hb12) R12 hc12).mono ?_
              rintro _ w13 ⟨rfl, hb13⟩
              go_wp2_with fail
              go_roundw
              case rel => exact ⟨k + 1, rfl, by go_num, by omega, (e711.trans hb12).trans hb13⟩
              case measure => simp [intOf]; omega
            · have hno := HNP.out lo hi hg
              have HNO := Lib.hid hno
              have hg' : ¬ (1 : Int) ≤ (lo : Int) ∨ ((1 : Int) ≤ (lo : Int) ∧ ¬ (lo : Int) < (hi : Int)) := by omega
              have e711 : Ext W7 W11 := hbw2.trans HE11.out
              clear hno hg
              rcases hg' with hg1 | ⟨hg1, hg2⟩
              all_goals
                go_wp2_with fail
                refine (HCK.out lo hi hlh hhn none 0 0 _ (HE5.out.trans (HE7.out.trans e711)) (by rw [HNO.out]; exact Rd.nil _ _ _ _) (Nat.zero_le _)).mono ?_
                rintro _ w13 ⟨rfl, hb13⟩
                go_wp2_with fail
                go_roundw
                case rel => exact ⟨k + 1, rfl, by go_num, by omega, e711.trans hb13⟩
                case measure => simp [intOf]; omega
        · obtain rfl : k = l := by omega
          have d0 := B7.cell 0
          have d1 := B7.cell 1
          have d2 := B7.cell 2
          have d3 := B7.cell 3
          have e5 : Ext w5 wr := HE7.out.trans hbw2
          have HO2 := Lib.hid (own_ext HOW7.out hbw2)
          have hs5 := e5.size
          go_wp2_with (at_builtin; refine wpl_app (by rfl) _ _ _ (by rfl) w5.heap.size 31 i0 _ 4 32 Tryd.underlying58 hi0 hz0 hz1 hz2 rfl (by omega) (.slice Ah k ch) _ _ (by rfl) (own_ext HO2.out ((Ext.refl _).alloc _)) wr.heap.size 1 (Hd.cells (hdF rt sg q)) rfl (by rfl) (news_new wr _ _ _ rfl) (oneH _) (by omega) (by omega) (by simp; omega) ?_; intro g cap w12 own12 hext12)
          go_roundw
          case rel => exact ⟨i + 1, ns ++ [q], by go_num, by omega, by omega, by rw [List.length_append, HNL.out]; simp; omega, hext12 _ (Nat.le_refl _) (e5.alloc _), Lib.hid (fun k2 hk2 => by
            rcases List.mem_append.1 hk2 with h | h
            · exact HNS.out k2 h
            · obtain rfl : k2 = q := by simpa using h
              exact hqn), by
            have h2 := own12
            show World.ownsRow _ _ _ _ _ _ _
            rw [List.length_append, HNL.out, List.map_append, List.flatMap_append]
            simpa using h2⟩
          case measure => simp [intOf]; omega
  case rest =>
  as_aux_lemma =>
  obtain ⟨ns, HNS, hb6, HOW⟩ := hcut
  obtain ⟨w6, rfl⟩ : ∃ W, W = wc := ⟨_, rfl⟩
  obtain ⟨Ah, ch, rfl, hch, Rh, -⟩ := own_rd HOW.out
  have HRh := Lib.hid Rh
  clear Rh HOW HCK HGM HNP
  go_wp2_with fail
  refine (HFI.out ns HNS.out.1 HNS.out.2 Ah ch _ (HE5.out.trans hb6) HRh.out hch).mono ?_
  rintro _ w7 ⟨rfl, hb7⟩
  have e7 := (HE5.out.trans hb6).trans hb7
  go_wp2_with fail
  refine (Error_is 5 _ (HG.out.ext e7)).mono ?_
  rintro _ w8 ⟨rfl, hb8'⟩
  have hb8 : Ext w6 w8 := hb7.trans hb8'
  clear hb7 hb8' e7 HFI HRh HNS
  rcases Nat.lt_or_ge n n' with hnn | hnn
  · have hnI : (n : Int) < (n' : Int) := by omega
    have hq1 : n ≤ n := by omega
    have hq2 : n ≤ n' := by omega
    have R1 := Lib.hid (HRO.out n hq1)
    have R2 := Lib.hid (HRO'.out n hq2)
    have S1 := Lib.hid (HSG.out n hq1)
    have S2 := Lib.hid (HSG'.out n hq2)
    have F2 : Hid (rt n ≠ rt' n → ∀ B d W, Ext w W → Rd W 4 B 2 d [.int .i64 n, .int .i64 (rt n), .int .i64 0, .int .i64 (sg n), .int .i64 n, .int .i64 (rt' n), .int .i64 0, .int .i64 (sg' n)] → d ≤ maxLen → Calls Tryd.prog 22 #[.slice B 2 d, .int .i64 key] W fun e w' => e = .returned (.tuple #[.int .i64 0, .int .i64 1, .nilIface]) ∧ Ext W w') := Lib.hid fun hne B d W e hB hd => HF2.out n hq1 hq2 hne B d W e hB hd
    clear HRO HRO' HSG HSG' HF2
    generalize rt n = va at *
    generalize rt' n = vb at *
    generalize sg n = sa at *
    generalize sg' n = sb at *
    go_wp2_with fail
    refine (R1.out A4 c4 _ (HR45.out.ext (hb6.trans hb8)) hc4).mono ?_
    rintro _ w9 ⟨rfl, hb9⟩
    have e9 := (hb6.trans hb8).trans hb9
    go_wp2_with fail
    refine (R2.out A5 c5 _ (HR5.out.ext e9) hc5).mono ?_
    rintro _ w10 ⟨rfl, hb10⟩
    have HE10 := Lib.hid (HE5.out.trans (e9.trans hb10))
    clear e9 hb9 hb10
    by_cases heq : va = vb
    · subst heq
      go_wp2_with fail
      go_ret
      exact ⟨rfl, HE10.out⟩
    · have F3 := Lib.hid (F2.out heq)
      have q1 : (va == vb) = false := by simp [heq]
      clear heq F2
      go_wp2_with fail
      refine (S1.out _ HE10.out).mono ?_
      rintro _ w11 ⟨rfl, hb11⟩
      have HA := Lib.hid (Bk.at_ w11 31 #[.int .i64 n, .int .i64 va, .int .i64 0, .int .i64 sa] w11.heap.size rfl)
      have HE11 := Lib.hid ((HE10.out.trans hb11).alloc (.cells #[.int .i64 n, .int .i64 va, .int .i64 0, .int .i64 sa] 31))
      go_upto_region 47 with (fail)
      generalize w11.alloc (.cells #[.int .i64 n, .int .i64 va, .int .i64 0, .int .i64 sa] 31) = W11 at *
      generalize w11.heap.size = g11 at *
      clear hb11
      go_wp2_with fail
      refine (S2.out _ HE11.out).mono ?_
      rintro _ w12 ⟨rfl, hb12⟩
      have B12 := Bk.at_ w12 31 #[.int .i64 n, .int .i64 vb, .int .i64 0, .int .i64 sb] w12.heap.size rfl
      have e12 : Ext W11 (w12.alloc (.cells #[.int .i64 n, .int .i64 vb, .int .i64 0, .int .i64 sb] 31)) := hb12.alloc _
      have A12 := HA.out.ext e12
      have HE12 := Lib.hid (HE11.out.trans e12)
      go_upto_region 48 with (fail)
      generalize w12.alloc (.cells #[.int .i64 n, .int .i64 vb, .int .i64 0, .int .i64 sb] 31) = W12 at *
      generalize w12.heap.size = g12 at *
      have s0 := A12.cell 0
      have s1 := A12.cell 1
      have s2 := A12.cell 2
      have s3 := A12.cell 3
      have t0 := B12.cell 0
      have t1 := B12.cell 1
      have t2 := B12.cell 2
      have t3 := B12.cell 3
      have rP : Rd (W12.alloc (.cells #[.int .i64 n, .int .i64 va, .int .i64 0, .int .i64 sa, .int .i64 n, .int .i64 vb, .int .i64 0, .int .i64 sb] 31)) 4 (some ⟨W12.heap.size, 0, none⟩) 2 2 [.int .i64 n, .int .i64 va, .int .i64 0, .int .i64 sa, .int .i64 n, .int .i64 vb, .int .i64 0, .int .i64 sb] :=
        ⟨rfl, Nat.le_refl _, fun _ => ⟨_, rfl, by simp, fun j u hu => news_new W12 31 [.int .i64 n, .int .i64 va, .int .i64 0, .int .i64 sa, .int .i64 n, .int .i64 vb, .int .i64 0, .int .i64 sb] _ rfl j u hu⟩⟩
      have HRP := Lib.hid rP
      clear rP hb12 e12 HA HE10 HE11 A12 B12
      go_wp2_with (refine wpl_build2 (by rfl) _ _ (by rfl) (n : Int) va 0 sa (n : Int) vb 0 sb (by rfl) (by rfl) ?_)
      refine (F3.out _ 2 _ (HE12.out.alloc _) HRP.out (by simp only [maxLen]; omega)).mono ?_
      rintro _ w13 ⟨rfl, hb13⟩
      have e13 := (HE12.out.alloc _).trans hb13
      go_wp2_with fail
      go_ret
      exact ⟨rfl, e13⟩
  · have hnI : ¬ (n : Int) < (n' : Int) := by omega
    have hq1 : n' ≤ n := by omega
    have hq2 : n' ≤ n' := by omega
    have R1 := Lib.hid (HRO.out n' hq1)
    have R2 := Lib.hid (HRO'.out n' hq2)
    have S1 := Lib.hid (HSG.out n' hq1)
    have S2 := Lib.hid (HSG'.out n' hq2)
    have F2 : Hid (rt n' ≠ rt' n' → ∀ B d W, Ext w W → Rd W 4 B 2 d [.int .i64 n', .int .i64 (rt n'), .int .i64 0, .int .i64 (sg n'), .int .i64 n', .int .i64 (rt' n'), .int .i64 0, .int .i64 (sg' n')] → d ≤ maxLen → Calls Tryd.prog 22 #[.slice B 2 d, .int .i64 key] W fun e w' => e = .returned (.tuple #[.int .i64 0, .int .i64 1, .nilIface]) ∧ Ext W w') := Lib.hid fun hne B d W e hB hd => HF2.out n' hq1 hq2 hne B d W e hB hd
    clear HRO HRO' HSG HSG' HF2
    generalize rt n' = va at *
    generalize rt' n' = vb at *
    generalize sg n' = sa at *
    generalize sg' n' = sb at *
    go_wp2_with fail
    refine (R1.out A4 c4 _ (HR45.out.ext (hb6.trans hb8)) hc4).mono ?_
    rintro _ w9 ⟨rfl, hb9⟩
    have e9 := (hb6.trans hb8).trans hb9
    go_wp2_with fail
    refine (R2.out A5 c5 _ (HR5.out.ext e9) hc5).mono ?_
    rintro _ w10 ⟨rfl, hb10⟩
    have HE10 := Lib.hid (HE5.out.trans (e9.trans hb10))
    clear e9 hb9 hb10
    by_cases heq : va = vb
    · subst heq
      go_wp2_with fail
      go_ret
      exact ⟨rfl, HE10.out⟩
    · have F3 := Lib.hid (F2.out heq)
      have q1 : (va == vb) = false := by simp [heq]
      clear heq F2
      go_wp2_with fail
      refine (S1.out _ HE10.out).mono ?_
      rintro _ w11 ⟨rfl, hb11⟩
      have HA := Lib.hid (Bk.at_ w11 31 #[.int .i64 n', .int .i64 va, .int .i64 0, .int .i64 sa] w11.heap.size rfl)
      have HE11 := Lib.hid ((HE10.out.trans hb11).alloc (.cells #[.int .i64 n', .int .i64 va, .int .i64 0, .int .i64 sa] 31))
      go_upto_region 47 with (fail)
      generalize w11.alloc (.cells #[.int .i64 n', .int .i64 va, .int .i64 0, .int .i64 sa] 31) = W11 at *
      generalize w11.heap.size = g11 at *
      clear hb11
      go_wp2_with fail
      refine (S2.out _ HE11.out).mono ?_
      rintro _ w12 ⟨rfl, hb12⟩
      have B12 := Bk.at_ w12 31 #[.int .i64 n', .int .i64 vb, .int .i64 0, .int .i64 sb] w12.heap.size rfl
      have e12 : Ext W11 (w12.alloc (.cells #[.int .i64 n', .int .i64 vb, .int .i64 0, .int .i64 sb] 31)) := hb12.alloc _
      have A12 := HA.out.ext e12
      have HE12 := Lib.hid (HE11.out.trans e12)
      go_upto_region 48 with (fail)
      generalize w12.alloc (.cells #[.int .i64 n', .int .i64 vb, .int .i64 0, .int .i64 sb] 31) = W12 at *
      generalize w12.heap.size = g12 at *
      have s0 := A12.cell 0
      have s1 := A12.cell 1
      have s2 := A12.cell 2
      have s3 := A12.cell 3
      have t0 := B12.cell 0
      have t1 := B12.cell 1
      have t2 := B12.cell 2
      have t3 := B12.cell 3
      have rP : Rd (W12.alloc (.cells #[.int .i64 n', .int .i64 va, .int .i64 0, .int .i64 sa, .int .i64 n', .int .i64 vb, .int .i64 0, .int .i64 sb] 31)) 4 (some ⟨W12.heap.size, 0, none⟩) 2 2 [.int .i64 n', .int .i64 va, .int .i64 0, .int .i64 sa, .int .i64 n', .int .i64 vb, .int .i64 0, .int .i64 sb] :=
        ⟨rfl, Nat.le_refl _, fun _ => ⟨_, rfl, by simp, fun j u hu => news_new W12 31 [.int .i64 n', .int .i64 va, .int .i64 0, .int .i64 sa, .int .i64 n', .int .i64 vb, .int .i64 0, .int .i64 sb] _ rfl j u hu⟩⟩
      have HRP := Lib.hid rP
      clear rP hb12 e12 HA HE10 HE11 A12 B12
      go_wp2_with (refine wpl_build2 (by rfl) _ _ (by rfl) (n' : Int) va 0 sa (n' : Int) vb 0 sb (by rfl) (by rfl) ?_)
      refine (F3.out _ 2 _ (HE12.out.alloc _) HRP.out (by simp only [maxLen]; omega)).mono ?_
      rintro _ w13 ⟨rfl, hb13⟩
      have e13 := (HE12.out.alloc _).trans hb13
      go_wp2_with fail
      go_ret
      exact ⟨rfl, e13⟩

set_option maxRecDepth 100000 in
set_option maxHeartbeats 2000000 in
theorem walk (A : Option Addr) (n c : Nat) (es : List Ent) (A' : Option Addr) (n' c' : Nat) (os : List Ent) (key : Int) (A3 : Option Addr) (m c3 : Nat) (zs : List Int) (w : World)
    (hl : es.length = n) (hm : c ≤ maxLen) (hr : Rd w 2 A n c (es.flatMap Ent.cells)) (ge : ∀ y ∈ es, y.good) (hl' : os.length = n') (hm' : c' ≤ maxLen) (hr' : Rd w 2 A' n' c' (os.flatMap Ent.cells)) (ge' : ∀ y ∈ os, y.good) (gk : igood key)
    (hl3 : zs.length = m) (hm3 : c3 ≤ maxLen) (hr3 : Rd w 1 A3 m c3 (zs.map (Value.int .i64))) (gz : ∀ y ∈ zs, igood y)
    (hD : DebG w) (hP : PowG w) (hg : ErrG w) :
    Calls Tryd.prog 4 #[.slice A n c, .slice A' n' c', .int .i64 key, .slice A3 m c3] w fun e w' => e = .returned (.bool true) ∧ Ext w w' := by
  by_cases hk : entsErr es = 0 ∧ entsErr os = 0 ∧ keyI key = true
  · exact walk_yes A n c es A' n' c' os key A3 m c3 zs w hm hr hm' hr' hm3 hr3 hD hP hg (Classical.byContradiction fun h => entsErr_bad h hk.1) (Classical.byContradiction fun h => entsErr_bad h hk.2.1) hk.2.2
  · obtain ⟨hE, hN, hG0⟩ := errR_rules
    obtain ⟨x1, x2, x3, x4⟩ := lg_ok (n := 1) (r := 5) (t := 0) (key := 7) (by omega) (by decide) ⟨by decide, by decide⟩ (by decide)
    obtain ⟨y1, y2, y3, y4⟩ := lg_ok (n := 1) (r := 6) (t := 0) (key := 7) (by omega) (by decide) ⟨by decide, by decide⟩ (by decide)
    obtain ⟨fa, hfa⟩ : ∃ x, sgnH (lgB 1 5 0) 7 = x := ⟨_, rfl⟩
    obtain ⟨fb, hfb⟩ : ∃ x, sgnH (lgB 1 6 0) 7 = x := ⟨_, rfl⟩
    rw [hfa] at x2 x3 x4
    rw [hfb] at y2 y3 y4
    have hbo : bothK fa fb 7 = 0 := by unfold bothK; rw [if_neg (not_not_intro x2), y2]
    have hpv : prvB fa fb 7 = true := by
      unfold prvB splB
      rw [hbo, x3, y3, x4, y4]; decide
    have HS5 : Hid (∀ W, Ext w W → Calls Tryd.prog 18 #[.agg #[.int .i64 1, .int .i64 5, .int .i64 0, .int .i64 0], .int .i64 7] W fun e w' => e = .returned (.tuple #[fa.val, .nilIface]) ∧ Ext W w') := Lib.hid fun W e => by
      have := Sign_any (lgB 1 5 0) 7 W (hD.ext e) (hP.ext e)
      rw [hfa, x1] at this; exact this
    have HS6 : Hid (∀ W, Ext w W → Calls Tryd.prog 18 #[.agg #[.int .i64 1, .int .i64 6, .int .i64 0, .int .i64 0], .int .i64 7] W fun e w' => e = .returned (.tuple #[fb.val, .nilIface]) ∧ Ext W w') := Lib.hid fun W e => by
      have := Sign_any (lgB 1 6 0) 7 W (hD.ext e) (hP.ext e)
      rw [hfb, y1] at this; exact this
    have HPV : Hid (∀ W, Ext w W → Calls Tryd.prog 19 #[fa.val, fb.val, .int .i64 7] W fun e w' => e = .returned (.tuple #[.bool true, .nilIface]) ∧ Ext W w') := Lib.hid fun W e => by
      have := Proves_any fa fb 7 W (hD.ext e) (hP.ext e)
      rw [hpv, hbo] at this; exact this
    have HL1 := Lib.hid fun W (e : Ext w W) => Leafs_tot A n c es W (hr.ext e) hm
    have HL2 := Lib.hid fun W (e : Ext w W) => Leafs_tot A' n' c' os W (hr'.ext e) hm'
    obtain ⟨ek, hek⟩ : ∃ x, entsErr es = x := ⟨_, rfl⟩
    obtain ⟨ok, hok⟩ : ∃ x, entsErr os = x := ⟨_, rfl⟩
    rw [hek] at HL1 hk
    rw [hok] at HL2 hk
    have hk4 : ek ≠ 0 ∨ (ek = 0 ∧ ok ≠ 0) ∨ (ek = 0 ∧ ok = 0 ∧ key < 1) ∨ (ek = 0 ∧ ok = 0 ∧ 1 ≤ key ∧ 1000000 < key) := by
      by_cases h1 : ek = 0
      · by_cases h2 : ok = 0
        · have h3 : keyI key = false := by
            cases h : keyI key with
            | false => rfl
            | true => exact absurd ⟨h1, h2, h⟩ hk
          have h4 := keyI_false h3
          by_cases h5 : key < 1
          · exact .inr (.inr (.inl ⟨h1, h2, h5⟩))
          · exact .inr (.inr (.inr ⟨h1, h2, by omega, by omega⟩))
        · exact .inr (.inl ⟨h1, h2⟩)
      · exact .inl h1
    clear hfa hfb x1 x2 x3 x4 y1 y2 y3 y4 hbo hpv hek hok hk hl hr ge hl' hr' ge' gk hl3 hr3 gz hD hP hg hm hm' hm3
    obtain ⟨fa0, fa1, fa2, fa3⟩ := fa
    obtain ⟨fb0, fb1, fb2, fb3⟩ := fb
    simp only [Hd.val] at HS5 HS6 HPV
    go_enter Tryd.func4, Tryd.ntmps4
    go_wp2_with fail
    refine (HS5.out _ (Ext.refl _)).mono ?_
    rintro _ w1 ⟨rfl, hb1⟩
    have HA := Lib.hid (Bk.at_ w1 31 #[.int .i64 fa0, .int .i64 fa1, .int .i64 fa2, .int .i64 fa3] w1.heap.size rfl)
    have HE1 := Lib.hid (hb1.alloc (.cells #[.int .i64 fa0, .int .i64 fa1, .int .i64 fa2, .int .i64 fa3] 31))
    go_upto_region 2 with (fail)
    generalize w1.alloc (.cells #[.int .i64 fa0, .int .i64 fa1, .int .i64 fa2, .int .i64 fa3] 31) = W1 at *
    generalize w1.heap.size = g1 at *
    clear hb1
    go_wp2_with fail
    refine (HS6.out _ HE1.out).mono ?_
    rintro _ w2 ⟨rfl, hb2⟩
    have HB := Lib.hid (Bk.at_ w2 31 #[.int .i64 fb0, .int .i64 fb1, .int .i64 fb2, .int .i64 fb3] w2.heap.size rfl)
    have e2 : Ext W1 (w2.alloc (.cells #[.int .i64 fb0, .int .i64 fb1, .int .i64 fb2, .int .i64 fb3] 31)) := hb2.alloc _
    have HE2 := Lib.hid (HE1.out.trans e2)
    have HA2 := Lib.hid (HA.out.ext e2)
    go_upto_region 3 with (fail)
    generalize w2.alloc (.cells #[.int .i64 fb0, .int .i64 fb1, .int .i64 fb2, .int .i64 fb3] 31) = W2 at *
    generalize w2.heap.size = g2 at *
    have a0 := HA2.out.cell 0
    have a1 := HA2.out.cell 1
    have a2 := HA2.out.cell 2
    have a3 := HA2.out.cell 3
    have b0 := HB.out.cell 0
    have b1 := HB.out.cell 1
    have b2 := HB.out.cell 2
    have b3 := HB.out.cell 3
    clear hb2 e2 HE1 HA
    go_wp2_with fail
    refine (HPV.out _ HE2.out).mono ?_
    rintro _ w3 ⟨rfl, hb3⟩
    have HE3 := Lib.hid (HE2.out.trans hb3)
    clear a0 a1 a2 a3 b0 b1 b2 b3 HA2 HB HE2 hb3 HS5 HS6 HPV
    go_wp2_with fail
    refine (HL1.out _ HE3.out).mono ?_
    rintro _ w4 ⟨⟨v4, rfl⟩, hb4⟩
    have HE4 := Lib.hid (HE3.out.trans hb4)
    clear HE3 hb4 HL1
    go_wp2_with fail
    refine (HL2.out _ HE4.out).mono ?_
    rintro _ w5 ⟨⟨v5, rfl⟩, hb5⟩
    have HE5 := Lib.hid (HE4.out.trans hb5)
    clear HE4 hb5 HL2
    rcases hk4 with h1 | ⟨rfl, h2⟩ | ⟨rfl, rfl, h3⟩ | ⟨rfl, rfl, h3, h4⟩
    · have hok := isOk_no h1
      clear h1
      go_wp2_with fail
      go_ret
      exact ⟨rfl, HE5.out⟩
    · have hok := isOk_no h2
      rw [errR_0]
      clear h2
      go_wp2_with fail
      go_ret
      exact ⟨rfl, HE5.out⟩
    · rw [errR_0]
      go_wp2_with fail
      go_ret
      exact ⟨rfl, HE5.out⟩
    · rw [errR_0]
      go_wp2_with fail
      go_ret
      exact ⟨rfl, HE5.out⟩
end Go.Proofs.YtdefdcaeiojmeaaDoor.forkFinds
