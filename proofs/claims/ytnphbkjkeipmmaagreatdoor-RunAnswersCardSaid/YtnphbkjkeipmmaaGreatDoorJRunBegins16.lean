/- The proof that a log grew is one; plain. -/
import Derived.Test.YtnphbkjkeipmmaaGreatDoorJRunBegins14
import Derived.Test.YtnphbkjkeipmmaaGreatDoorJRunBegins15
import Derived.Test.YtnphbkjkeipmmaaGreatDoorJRunBegins11
import Derived.Test.YtnphbkjkeipmmaaGreatDoorJRunBegins6
namespace Go.Proofs.YtnphbkjkeipmmaaGreatDoor
set_option linter.unusedVariables false

/-- the proof that a log grew is one -/
theorem gcheck_grow {xs : List Int} {o m : Nat} (h : 1 ≤ o) (h2 : o ≤ m) (hm : m ≤ xs.length) (hk : leafsOk xs) : gcheck (ofL (xs.take o)) o (ofL (xs.take m)) m (growL (xs.take m) o true) = 0 := by
  have hx := hk.1
  have hlm : (xs.take m).length = m := by rw [List.length_take]; omega
  have hvm := allV_take hk.2 m
  have va : vld (ofL (xs.take o)) = true := vld_ofL (allV_take hk.2 o) (by rw [List.length_take]; omega)
  have vb : vld (ofL (xs.take m)) = true := vld_ofL hvm (by omega)
  have hlen := growL_len m (xs.take m) o true (by omega) h (by omega) (by omega)
  have hvp := growL_vld m (xs.take m) o true (by omega) h (by omega) (by omega) hvm
  have hg := groots_grow m (ofL (xs.take o)) (xs.take m) o true (by omega) h (by omega) (by omega) (fun _ => by rw [List.take_take, Nat.min_eq_left h2])
  rw [List.take_take, Nat.min_eq_left h2, hlm] at hg
  rw [hlm] at hlen
  unfold gcheck
  rw [if_neg (by omega), if_neg (by simp [va, vb, hvp]), Int.toNat_natCast, Int.toNat_natCast, if_neg (by omega), if_neg (by simp [hg])]
theorem leafsOk_take {xs : List Int} (hk : leafsOk xs) (n : Nat) : leafsOk (xs.take n) := ⟨by have := hk.1; rw [List.length_take]; omega, allV_take hk.2 n⟩
theorem vld_root {xs : List Int} (hk : leafsOk xs) : vld (ofL xs) = true := vld_ofL hk.2 (by have := hk.1; omega)
/-- the proof that goes with two sizes of a log -/
def goP (xs : List Int) (n m : Nat) : List Int := if 1 ≤ n ∧ n < m then growL (xs.take m) n true else []
end Go.Proofs.YtnphbkjkeipmmaaGreatDoor

/- Heads of one log go together; plain. -/
namespace Go.Proofs.YtnphbkjkeipmmaaGreatDoor
set_option linter.unusedVariables false

/-- a head of so many entries, of that root -/
def lgB (n : Nat) (r t : Int) : Hd := ⟨(n : Int), r, t, 0⟩
theorem lg_ok {n : Nat} {r t key : Int} (hn : n ≤ 200) (hr : vld r = true) (ht : 0 ≤ t ∧ t ≤ 1000000) (hkey : keyI key = true) :
    sgnK (lgB n r t) key = 0 ∧ verK (sgnH (lgB n r t) key) key = 0 ∧ (sgnH (lgB n r t) key).size = n ∧ (sgnH (lgB n r t) key).root = r := by
  have hb : (blank (lgB n r t)).ok = true := Hd.ok_of ⟨by show (0 : Int) ≤ (n : Int); omega, by show (n : Int) ≤ 200; omega, ht.1, ht.2, hr, vld_mk ⟨Int.le_refl 0, by show (0 : Int) < 2147483647; decide⟩⟩
  have hs : sgnK (lgB n r t) key = 0 := if_pos (by rw [hkey, hb]; rfl)
  obtain ⟨h1, _, _, h4⟩ := sgn_ver hs
  refine ⟨hs, h1, ?_, ?_⟩
  · rw [h4]; rfl
  · rw [h4]; rfl
theorem chk_older {xs : List Int} (hk : leafsOk xs) {n m : Nat} (h : n ≤ m) (hm : m ≤ xs.length) {t u key : Int} (ht : 0 ≤ t ∧ t ≤ 1000000) (hu : 0 ≤ u ∧ u ≤ 1000000) (hkey : keyI key = true) :
    chk (sgnH (lgB n (ofL (xs.take n)) t) key) (sgnH (lgB m (ofL (xs.take m)) u) key) key (goP xs n m) = (true, 0) ∧ prvB (sgnH (lgB n (ofL (xs.take n)) t) key) (sgnH (lgB m (ofL (xs.take m)) u) key) key = false ∧ bothK (sgnH (lgB n (ofL (xs.take n)) t) key) (sgnH (lgB m (ofL (xs.take m)) u) key) key = 0 := by
  have hx := hk.1
  obtain ⟨a1, a2, a3, a4⟩ := lg_ok (n := n) (t := t) (key := key) (by omega) (vld_root (leafsOk_take hk n)) ht hkey
  obtain ⟨b1, b2, b3, b4⟩ := lg_ok (n := m) (t := u) (key := key) (by omega) (vld_root (leafsOk_take hk m)) hu hkey
  have hb : bothK (sgnH (lgB n (ofL (xs.take n)) t) key) (sgnH (lgB m (ofL (xs.take m)) u) key) key = 0 := by
    unfold bothK; rw [if_neg (not_not_intro a2), b2]
  refine ⟨?_, ?_, hb⟩
  · unfold chk chkX
    rw [hb, if_neg (not_not_intro rfl), a3, b3, if_neg (by omega)]
    by_cases e : n = m
    · subst e
      have hp : goP xs n n = [] := if_neg (by omega)
      rw [if_pos rfl, hp, if_neg (by simp), a4, b4]; simp
    · rw [if_neg (by omega)]
      by_cases e0 : n = 0
      · rw [if_pos ⟨by omega, by omega⟩]
      · rw [if_neg (by omega)]
        have hp : goP xs n m = growL (xs.take m) n true := if_pos ⟨by omega, by omega⟩
        have hg := gcheck_grow (xs := xs) (o := n) (m := m) (by omega) h hm hk
        rw [hp, a4, b4, hg]; rfl
  · unfold prvB splB
    rw [hb, a3, b3, a4, b4]
    by_cases e : n = m
    · subst e; simp
    · have : ¬ ((n : Int) = (m : Int)) := by omega
      simp [this]
theorem gmV_goP {xs : List Int} (hk : leafsOk xs) {n m : Nat} (h : 1 ≤ n) (h2 : n < m) (hm : m ≤ xs.length) : gmK xs n m = 0 ∧ gmV xs n m = goP xs n m := by
  have h0 : gmK xs n m = 0 := gmK_ok hk ⟨by omega, by omega, by omega⟩
  refine ⟨h0, ?_⟩
  unfold gmV goP
  rw [if_pos h0, if_pos ⟨h, h2⟩]
  rfl
/-! ### entries have leafs -/
theorem leafs_of_ents {es : List Ent} (hk : entsOk es) : leafsOk (es.map Ent.leaf) := ⟨by rw [List.length_map]; exact hk.1, by
  unfold allV
  rw [List.all_eq_true]
  intro x hx
  rw [List.mem_map] at hx
  obtain ⟨e, _, rfl⟩ := hx
  exact vld_sum _⟩
/-! ### Find -/
theorem findV_many {l : List Hd} {key : Int} (h : 20 < l.length) : findV l key = (0, 0, 4) := if_pos h
theorem findV_ill {l : List Hd} {key : Int} (h : ¬ 20 < l.length) (h2 : verL key l ≠ 0) : findV l key = (0, 0, verL key l) := by
  unfold findV findX; rw [if_neg h, if_pos h2]
theorem findV_well {l : List Hd} {key : Int} (h : ¬ 20 < l.length) (h2 : verL key l = 0) : findV l key = pairV (fK l l.length 0) := by
  unfold findV findX; rw [if_neg h, if_neg (not_not_intro h2)]
theorem findV_none {l : List Hd} {key : Int} (h : l.length ≤ 20) (h2 : ∀ x ∈ l, verK x key = 0) (h3 : ∀ a ∈ l, ∀ b ∈ l, splB a b = false) : findV l key = (0, 0, 5) := by
  rw [findV_well (by omega) (verL_ok h2), fK_none]
  · rfl
  · intro m _ hm
    refine fI_none fun i _ hi => ?_
    unfold spAt
    cases e1 : l[i]? with
    | none => rfl
    | some a =>
      cases e2 : l[m]? with
      | none => rfl
      | some b => exact h3 a (List.mem_of_getElem? e1) b (List.mem_of_getElem? e2)
theorem findV_two {p q : Hd} {key : Int} (hp : verK p key = 0) (hq : verK q key = 0) (h : splB p q = true) : findV [p, q] key = (0, 1, 0) := by
  rw [findV_well (by simp) (verL_ok (by intro x hx; simp at hx; rcases hx with rfl | rfl <;> assumption))]
  have h0 : fI [p, q] 0 0 0 = none := rfl
  have h1 : fI [p, q] 1 1 0 = some 0 := by
    show (if spAt [p, q] 0 1 = true then some 0 else fI [p, q] 1 0 1) = some 0
    rw [if_pos (by exact h)]
  show pairV (fK [p, q] 2 0) = _
  rw [fK_some (i := 0) (q := 1) (by omega) (by omega) h1 (fun m _ hm => by obtain rfl : m = 0 := by omega
                                                                           exact h0)]
  rfl
/-- the law's search: ahead of row k -/
def FK (l : List Hd) (n k : Nat) (f x y : Int) : Prop := (f = 5 ∧ x = 0 ∧ y = 0 ∧ ∀ m, m < k → fI l m m 0 = none) ∨ (f = 0 ∧ pairV (fK l n 0) = (x, y, 0))
/-- in row k, ahead of i -/
def FI (l : List Hd) (n k i : Nat) (f x y : Int) : Prop := (f = 5 ∧ x = 0 ∧ y = 0 ∧ (∀ m, m < k → fI l m m 0 = none) ∧ ∀ m, m < i → spAt l m k = false) ∨ (f = 0 ∧ pairV (fK l n 0) = (x, y, 0))
theorem FI_hit {l : List Hd} {n k i : Nat} {x y : Int} (h : FI l n k i 5 x y) (hi : i < k) (hk : k < n) (hs : spAt l i k = true) : pairV (fK l n 0) = ((i : Int), (k : Int), 0) := by
  rcases h with ⟨_, _, _, h1, h2⟩ | ⟨h, _⟩
  · rw [fK_some (i := i) (q := k) (by omega) (by omega) (fI_some (by omega) (by omega) hs fun m _ hm => h2 m hm) fun m _ hm => h1 m hm]
    rfl
  · cases h
theorem FI_next {l : List Hd} {n k i : Nat} {x y : Int} (h : FI l n k i 5 x y) (hs : spAt l i k = false) : FI l n k (i + 1) 5 x y := by
  rcases h with ⟨h0, hx, hy, h1, h2⟩ | ⟨h, _⟩
  · exact .inl ⟨h0, hx, hy, h1, fun m hm => by
      by_cases e : m = i
      · subst e; exact hs
      · exact h2 m (by omega)⟩
  · cases h
theorem FK_next {l : List Hd} {n k : Nat} {f x y : Int} (h : FI l n k k f x y) : FK l n (k + 1) f x y := by
  rcases h with ⟨h0, hx, hy, h1, h2⟩ | h
  · exact .inl ⟨h0, hx, hy, fun m hm => by
      by_cases e : m = k
      · subst e; exact fI_none fun i _ hi => h2 i (by omega)
      · exact h1 m (by omega)⟩
  · exact .inr h
theorem FK_end {l : List Hd} {n : Nat} {f x y : Int} (h : FK l n n f x y) : pairV (fK l n 0) = (x, y, f) := by
  rcases h with ⟨rfl, rfl, rfl, h1⟩ | ⟨rfl, h⟩
  · rw [fK_none fun m _ hm => h1 m (by omega)]; rfl
  · exact h
end Go.Proofs.YtnphbkjkeipmmaaGreatDoor

/- serve.Head. -/
namespace Go.Proofs.YtnphbkjkeipmmaaGreatDoor
open Go.RowKit Go.WideShapes
set_option linter.unusedVariables false
attribute [local go_sem ↓] Go.wp_at_zero Go.wp_at_succ

/-- the head of a log: what is wrong -/
def shK (es : List Ent) (key now : Int) : Int := if entsErr es ≠ 0 then entsErr es else sgnK (lgB es.length (ofL (es.map Ent.leaf)) now) key
def shH (es : List Ent) (key now : Int) : Hd := if entsErr es ≠ 0 then ⟨0, 0, 0, 0⟩ else sgnH (lgB es.length (ofL (es.map Ent.leaf)) now) key

set_option maxRecDepth 100000 in
set_option maxHeartbeats 1000000 in
theorem SHead_any (A : Option Addr) (n c : Nat) (es : List Ent) (key now : Int) (w : World) (hr : Rd w 2 A n c (es.flatMap Ent.cells)) (hm : c ≤ maxLen) (hD : DebG w) (hP : PowG w) :
    Calls Tryz.prog 83 #[.slice A n c, .int .i64 key, .int .i64 now] w fun e w' => e = .returned (.tuple #[(shH es key now).val, errR (shK es key now)]) ∧ Ext w w' := by
  obtain ⟨hE, hN, hG0⟩ := errR_rules
  have hx := hr.lenE
  by_cases hk : entsOk es
  · have hn : n ≤ 200 := by have := hk.1; omega
    have hsk : shK es key now = sgnK (lgB n (ofL (es.map Ent.leaf)) now) key := by unfold shK; rw [if_neg (not_not_intro (entsErr_ok hk)), hx]
    have hsh : shH es key now = sgnH (lgB n (ofL (es.map Ent.leaf)) now) key := by unfold shH; rw [if_neg (not_not_intro (entsErr_ok hk)), hx]
    have hlo := leafs_of_ents hk
    have HL := Lib.hid (Leafs_ok A n c es)
    rw [hx] at HL
    rw [hsk, hsh]
    obtain ⟨xs, hxs⟩ : ∃ xs, es.map Ent.leaf = xs := ⟨_, rfl⟩
    rw [hxs] at hlo HL ⊢
    have HLO := Lib.hid hlo.2
    have HS := Lib.hid fun W (e : Ext w W) => Sign_any (lgB n (ofL xs) now) key W (hD.ext e) (hP.ext e)
    obtain ⟨zk, hzk⟩ : ∃ v, sgnK (lgB n (ofL xs) now) key = v := ⟨_, rfl⟩
    obtain ⟨zh, hzh⟩ : ∃ v, sgnH (lgB n (ofL xs) now) key = v := ⟨_, rfl⟩
    rw [hzk, hzh] at HS ⊢
    obtain ⟨r, hr2⟩ : ∃ v, ofL xs = v := ⟨_, rfl⟩
    have HO := Lib.hid hr2
    rw [hr2] at HS
    have HK := Lib.hid hk
    have B0 := Bk.at_ w 29 #[.int .i64 0, .int .i64 0, .int .i64 0, .int .i64 0] w.heap.size rfl
    have e0 : Ext w (w.alloc (.cells #[.int .i64 0, .int .i64 0, .int .i64 0, .int .i64 0] 29)) := by (repeat (with_reducible first | exact Ext.refl _ | assumption | refine Ext.drew ?_ | refine Ext.drewN ?_ _ | refine Ext.alloc ?_ _ | refine Ext.trans ?_ (by with_reducible assumption)))
    have HR := Lib.hid hr
    clear hzk hzh hr2 hxs hsk hsh hk hlo hx hD hP hr
    obtain ⟨z0, z1, z2, z3⟩ := zh
    simp only [Hd.val, lgB] at *
    go_enter Tryz.func83, Tryz.ntmps83
    go_upto_region 1 with (fail)
    generalize (w.alloc (.cells #[.int .i64 0, .int .i64 0, .int .i64 0, .int .i64 0] 29)) = W0 at *
    obtain ⟨g0, hg0⟩ : ∃ g, w.heap.size = g := ⟨_, rfl⟩
    rw [hg0] at B0
    try rw [hg0]
    have HG := Lib.hid hg0
    have HE0 := Lib.hid e0
    clear e0 hg0
    go_wp2_with fail
    refine (HL.out W0 (HR.out.ext HE0.out) hm HK.out).mono ?_
    rintro _ w1 ⟨⟨v1, rfl, own1⟩, hb1⟩
    obtain ⟨A1, c1, rfl, hc1, R1, _⟩ := own_rd own1
    have HR1 := Lib.hid R1
    have HE1 := Lib.hid (HE0.out.trans hb1)
    have B1 := B0.ext hb1
    clear own1 R1 hb1 HE0 B0
    go_wp2_with fail
    refine (Of_any n A1 n c1 xs _ (Nat.le_refl _) HR1.out hc1 (by omega) HLO.out).mono ?_
    rw [HO.out]
    rintro _ w2 ⟨rfl, hb2⟩
    have HE2 := Lib.hid (HE1.out.trans hb2)
    have B2 := B1.ext hb2
    clear hb2 HE1 B1 HR1
    go_wp2_with fail
    refine (HS.out _ HE2.out).mono ?_
    rintro _ w3 ⟨rfl, hb3⟩
    have HE3 := Lib.hid (HE2.out.trans hb3)
    have B3 := B2.ext hb3
    clear hb3 HE2 B2
    have q0 := B3.frozen 0
    have q1 := B3.frozen 1
    have q2 := B3.frozen 2
    have q3 := B3.frozen 3
    have y0 := B3.cell 0
    have y1 := B3.cell 1
    have y2 := B3.cell 2
    have y3 := B3.cell 3
    go_wp2_with fail
    have P := B3.put4 (.int .i64 z0) (.int .i64 z1) (.int .i64 z2) (.int .i64 z3)
    have p0 := P.cell 0
    have p1 := P.cell 1
    have p2 := P.cell 2
    have p3 := P.cell 3
    refine bodyPost_ret (by simp [results, Tryz.results83, go_sem, p0, p1, p2, p3]; try rfl) rfl ?_
    exact ⟨rfl, HE3.out.put4 (by rw [HG.out]; exact Nat.le_refl _) _ _ _ _⟩
  · have hne := entsErr_bad hk
    have hsk : shK es key now = entsErr es := by unfold shK; rw [if_pos hne]
    have hsh : shH es key now = ⟨0, 0, 0, 0⟩ := by unfold shH; rw [if_pos hne]
    have HL := Lib.hid (Leafs_bad A n c es)
    rw [hsk, hsh]
    obtain ⟨zk, hzk⟩ : ∃ v, entsErr es = v := ⟨_, rfl⟩
    rw [hzk] at HL hne ⊢
    have hok := isOk_no hne
    rw [errR_ne hne]
    have HK := Lib.hid hk
    have B0 := Bk.at_ w 29 #[.int .i64 0, .int .i64 0, .int .i64 0, .int .i64 0] w.heap.size rfl
    have e0 : Ext w (w.alloc (.cells #[.int .i64 0, .int .i64 0, .int .i64 0, .int .i64 0] 29)) := by (repeat (with_reducible first | exact Ext.refl _ | assumption | refine Ext.drew ?_ | refine Ext.drewN ?_ _ | refine Ext.alloc ?_ _ | refine Ext.trans ?_ (by with_reducible assumption)))
    have HR := Lib.hid hr
    clear hzk hsk hsh hk hx hD hP hr hne
    simp only [Hd.val] at *
    go_enter Tryz.func83, Tryz.ntmps83
    go_upto_region 1 with (fail)
    generalize (w.alloc (.cells #[.int .i64 0, .int .i64 0, .int .i64 0, .int .i64 0] 29)) = W0 at *
    obtain ⟨g0, hg0⟩ : ∃ g, w.heap.size = g := ⟨_, rfl⟩
    rw [hg0] at B0
    try rw [hg0]
    have HG := Lib.hid hg0
    have HE0 := Lib.hid e0
    clear e0 hg0
    go_wp2_with fail
    refine (HL.out W0 (HR.out.ext HE0.out) hm HK.out).mono ?_
    rintro _ w1 ⟨rfl, hb1⟩
    have HE3 := Lib.hid (HE0.out.trans hb1)
    have B3 := B0.ext hb1
    simp only [errV]
    have q0 := B3.frozen 0
    have q1 := B3.frozen 1
    have q2 := B3.frozen 2
    have q3 := B3.frozen 3
    have y0 := B3.cell 0
    have y1 := B3.cell 1
    have y2 := B3.cell 2
    have y3 := B3.cell 3
    clear hb1 B0
    go_wp2_with fail
    have P := B3.put4 (.int .i64 0) (.int .i64 0) (.int .i64 0) (.int .i64 0)
    have p0 := P.cell 0
    have p1 := P.cell 1
    have p2 := P.cell 2
    have p3 := P.cell 3
    refine bodyPost_ret (by simp [results, Tryz.results83, go_sem, p0, p1, p2, p3]; try rfl) rfl ?_
    exact ⟨rfl, HE3.out.put4 (by rw [HG.out]; exact Nat.le_refl _) _ _ _ _⟩
/-- the head that serve tells -/
theorem sh_parts {es : List Ent} {key now : Int} (h : shK es key now = 0) : entsOk es ∧ shH es key now = ⟨(es.length : Int), ofL (es.map Ent.leaf), now, signI (lgB es.length (ofL (es.map Ent.leaf)) now) key⟩ ∧ verK (shH es key now) key = 0 ∧ keyI key = true := by
  have hk : entsOk es := Classical.byContradiction fun hn => by
    have h1 := entsErr_bad hn
    unfold shK at h
    rw [if_pos h1] at h
    exact h1 h
  have h0 := entsErr_ok hk
  have hs : sgnK (lgB es.length (ofL (es.map Ent.leaf)) now) key = 0 := by
    unfold shK at h
    rwa [if_neg (not_not_intro h0)] at h
  have hh : shH es key now = sgnH (lgB es.length (ofL (es.map Ent.leaf)) now) key := by unfold shH; rw [if_neg (not_not_intro h0)]
  obtain ⟨a1, a2, a3, a4⟩ := sgn_ver hs
  exact ⟨hk, hh.trans a4, by rw [hh]; exact a1, a2⟩
end Go.Proofs.YtnphbkjkeipmmaaGreatDoor
