import Derived.Test.YtfccbjfiionepaaGreatDoorJServeTells14
import Derived.Test.YtfccbjfiionepaaGreatDoorJServeTells4
import Derived.Deep.LoopGhost
import Derived.Test.YtfccbjfiionepaaGreatDoorJServeTells13
namespace Go.Proofs.YtfccbjfiionepaaGreatDoor
open Go.RowKit
set_option linter.unusedVariables false
attribute [local go_sem ↓] Go.wp_at_zero Go.wp_at_succ

theorem info_ent : (Tryz.prog.info? 75).map (fun i => (i.zero, i.size, i.bytes)) = some (some (.agg #[.int .i64 0, .string ⟨#[]⟩]), 2, 24) := by kernel_rfl
theorem oneE (e : Ent) : ∀ u ∈ e.cells, u.oneCell' = true := by intro u hu; simp [Ent.cells] at hu; rcases hu with rfl | rfl <;> rfl
theorem flat_nth {α : Type} {f : α → List Value} {k : Nat} (hf : ∀ x, (f x).length = k) : ∀ (l : List α) (j : Nat) (x : α) (i : Nat), l[j]? = some x → i < k → (l.flatMap f)[j * k + i]? = (f x)[i]?
  | [], j, x, i, h, _ => by simp at h
  | y :: l, 0, x, i, h, hi => by
    obtain rfl : y = x := by simpa using h
    rw [List.flatMap_cons, Nat.zero_mul, Nat.zero_add, List.getElem?_append_left (by rw [hf]; exact hi)]
  | y :: l, j + 1, x, i, h, hi => by
    rw [List.flatMap_cons, List.getElem?_append_right (by rw [hf, Nat.succ_mul]; omega), hf, show (j + 1) * k + i - k = j * k + i by rw [Nat.succ_mul]; omega]
    exact flat_nth hf l j x i (by simpa using h) hi
theorem Rd.getE {w : World} {A : Option Addr} {n c : Nat} {es : List Ent} (h : Rd w 2 A n c (es.flatMap Ent.cells)) {j : Nat} {e : Ent} (he : es[j]? = some e) :
    ∃ ad, A = some ad ∧ ad.block < w.heap.size ∧ w.cell? (ad.add (j * 2)) = some (.int .i64 e.time) ∧ w.cell? ⟨(ad.add (j * 2)).block, (ad.add (j * 2)).off + 1, none⟩ = some (.string e.data) := by
  have h0 := flat_nth (f := Ent.cells) (k := 2) (fun _ => rfl) es j e 0 he (by omega)
  have h1 := flat_nth (f := Ent.cells) (k := 2) (fun _ => rfl) es j e 1 he (by omega)
  obtain ⟨ad, e1, hb, hc0⟩ := h.at_ h0
  obtain ⟨ad', e2, _, hc1⟩ := h.at_ h1
  rw [e1] at e2
  obtain rfl : ad = ad' := by injection e2
  rw [← add_add'] at hc1
  exact ⟨ad, e1, hb, hc0, hc1⟩
theorem Rd.lenE {w : World} {A : Option Addr} {n c : Nat} {es : List Ent} (h : Rd w 2 A n c (es.flatMap Ent.cells)) : es.length = n := by
  have := h.1
  rw [flat_len Ent.cells 2 (fun _ => rfl)] at this
  omega

def entsOk (es : List Ent) : Prop := es.length ≤ 200 ∧ ∀ e ∈ es, e.ok

set_option maxRecDepth 100000 in
theorem ready_ok (A : Option Addr) (n c : Nat) (es : List Ent) (w : World) (hr : Rd w 2 A n c (es.flatMap Ent.cells)) (hm : c ≤ maxLen) (hk : entsOk es) :
    Calls Tryz.prog 35 #[.slice A n c] w fun e w' => e = .returned .nilIface ∧ Ext w w' := by
  have hx := hr.lenE
  have hn : n ≤ 200 := by have := hk.1; omega
  have HX := Lib.hid hx
  have HK := Lib.hid hk.2
  have hl := hr.2.1
  clear hx
  go_enter Tryz.func35, Tryz.ntmps35
  go_wp2_with fail
  go_loopw [12] (fun x wr => ∃ j : Nat, x = .int .i64 j ∧ j ≤ n ∧ Ext w wr) (fun x _ => n - (intOf x).toNat)
  case atStart => exact ⟨0, rfl, Nat.zero_le _, by (repeat (with_reducible first | exact Ext.refl _ | assumption | refine Ext.drew ?_ | refine Ext.drewN ?_ _ | refine Ext.alloc ?_ _ | refine Ext.trans ?_ (by with_reducible assumption)))⟩
  case round =>
    obtain ⟨j, rfl, hj, hbw⟩ := hrel
    by_cases hc : j < n
    · have hgj := List.getElem?_eq_getElem (l := es) (i := j) (by rw [HX.out]; exact hc)
      have hok := HK.out _ (List.mem_of_getElem? hgj)
      obtain ⟨ad, rfl, hb, c0, c1⟩ := (hr.ext hbw).getE hgj
      generalize es[j]'(by rw [HX.out]; exact hc) = e at *
      have hbk : ad.block < wr.heap.size := hb
      go_wp2_with fail
      refine (eCheck_ok _ _ _ hok).mono ?_
      rintro _ w1 ⟨rfl, hb1⟩
      go_wp2_with fail
      go_roundw
      case rel => exact ⟨j + 1, by go_num, by omega, by (repeat (with_reducible first | exact Ext.refl _ | assumption | refine Ext.drew ?_ | refine Ext.drewN ?_ _ | refine Ext.alloc ?_ _ | refine Ext.trans ?_ (by with_reducible assumption)))⟩
      case measure => simp [intOf]; omega
    · go_wp2_with fail
      go_ret
      exact ⟨rfl, by (repeat (with_reducible first | exact Ext.refl _ | assumption | refine Ext.drew ?_ | refine Ext.drewN ?_ _ | refine Ext.alloc ?_ _ | refine Ext.trans ?_ (by with_reducible assumption)))⟩

/-- the fault of some -/
def firstErr : List Ent → Int
  | [] => 0
  | e :: l => if e.ok then firstErr l else e.err
def entsErr (es : List Ent) : Int := if 200 < es.length then 4 else firstErr es
theorem Ent.err_ne (e : Ent) : e.err ≠ 0 := by unfold Ent.err; split <;> decide
theorem firstErr_ok {es : List Ent} (h : ∀ e ∈ es, e.ok) : firstErr es = 0 := by
  induction es with
  | nil => rfl
  | cons x es ih => rw [firstErr, if_pos (h x (by simp)), ih fun e he => h e (by simp [he])]
theorem entsErr_ok {es : List Ent} (h : entsOk es) : entsErr es = 0 := by
  unfold entsErr; rw [if_neg (by have := h.1; omega), firstErr_ok h.2]
theorem first_bad {es : List Ent} (h : ¬ ∀ e ∈ es, e.ok) : ∃ (j : Nat) (e : Ent), es[j]? = some e ∧ ¬ e.ok ∧ (∀ (i : Nat) (f : Ent), i < j → es[i]? = some f → f.ok) ∧ firstErr es = e.err := by
  induction es with
  | nil => exact absurd (fun e he => by simp at he) h
  | cons x es ih =>
    by_cases hx : x.ok
    · obtain ⟨j, e, h1, h2, h3, h4⟩ := ih fun hh => h fun e he => by
        rcases List.mem_cons.1 he with rfl | he
        · exact hx
        · exact hh e he
      refine ⟨j + 1, e, by simpa using h1, h2, fun i f hi hf => ?_, by rw [firstErr, if_pos hx, h4]⟩
      rcases i with _ | i
      · simp at hf; subst hf; exact hx
      · exact h3 i f (by omega) (by simpa using hf)
    · exact ⟨0, x, rfl, hx, fun i f hi => absurd hi (by omega), by rw [firstErr, if_neg hx]⟩
theorem entsErr_bad {es : List Ent} (h : ¬ entsOk es) : entsErr es ≠ 0 := by
  unfold entsErr
  by_cases hl : 200 < es.length
  · rw [if_pos hl]; decide
  · rw [if_neg hl]
    obtain ⟨_, e, _, _, _, h4⟩ := first_bad (es := es) fun hh => h ⟨by omega, hh⟩
    rw [h4]; exact e.err_ne

set_option maxRecDepth 100000 in
theorem ready_bad (A : Option Addr) (n c : Nat) (es : List Ent) (w : World) (hr : Rd w 2 A n c (es.flatMap Ent.cells)) (hm : c ≤ maxLen) (hk : ¬ entsOk es) :
    Calls Tryz.prog 35 #[.slice A n c] w fun e w' => e = .returned (errV (entsErr es)) ∧ Ext w w' := by
  have hx := hr.lenE
  by_cases hn : n ≤ 200
  · obtain ⟨j0, e0, hj0, hbad, hbef, hfe⟩ := first_bad (es := es) fun h => hk ⟨by omega, h⟩
    have HE : Hid (Ending.returned (errV e0.err) = Ending.returned (errV (entsErr es))) := by
      show _ = _
      unfold entsErr
      rw [if_neg (by omega), hfe]
    clear hfe
    have hjl : j0 < n := by have := (List.getElem?_eq_some_iff.1 hj0).1; omega
    have HX := Lib.hid hx
    have HB := Lib.hid hbef
    have HJ := Lib.hid hj0
    have HBAD := Lib.hid hbad
    have hl := hr.2.1
    clear hx hbef hj0 hk hbad
    go_enter Tryz.func35, Tryz.ntmps35
    go_wp2_with fail
    go_loopw [12] (fun x wr => ∃ j : Nat, x = .int .i64 j ∧ j ≤ j0 ∧ Ext w wr) (fun x _ => n - (intOf x).toNat)
    case atStart => exact ⟨0, rfl, Nat.zero_le _, by (repeat (with_reducible first | exact Ext.refl _ | assumption | refine Ext.drew ?_ | refine Ext.drewN ?_ _ | refine Ext.alloc ?_ _ | refine Ext.trans ?_ (by with_reducible assumption)))⟩
    case round =>
      obtain ⟨j, rfl, hj, hbw⟩ := hrel
      by_cases hc : j < j0
      · have hgj := List.getElem?_eq_getElem (l := es) (i := j) (by rw [HX.out]; omega)
        have hok := HB.out j _ hc hgj
        obtain ⟨ad, rfl, hb, c0, c1⟩ := (hr.ext hbw).getE hgj
        generalize es[j]'(by rw [HX.out]; omega) = e at *
        have hjn : j < n := by omega
        go_wp2_with fail
        refine (eCheck_ok _ _ _ hok).mono ?_
        rintro _ w1 ⟨rfl, hb1⟩
        go_wp2_with fail
        go_roundw
        case rel => exact ⟨j + 1, by go_num, by omega, by (repeat (with_reducible first | exact Ext.refl _ | assumption | refine Ext.drew ?_ | refine Ext.drewN ?_ _ | refine Ext.alloc ?_ _ | refine Ext.trans ?_ (by with_reducible assumption)))⟩
        case measure => simp [intOf]; omega
      · obtain rfl : j = j0 := by omega
        obtain ⟨ad, rfl, hb, c0, c1⟩ := (hr.ext hbw).getE HJ.out
        go_wp2_with fail
        refine (eCheck_bad _ _ _ HBAD.out).mono ?_
        rintro _ w1 ⟨rfl, hb1⟩
        simp only [errV]
        go_wp2_with fail
        go_ret
        exact ⟨HE.out, by (repeat (with_reducible first | exact Ext.refl _ | assumption | refine Ext.drew ?_ | refine Ext.drewN ?_ _ | refine Ext.alloc ?_ _ | refine Ext.trans ?_ (by with_reducible assumption)))⟩
  · have HE : Hid (Ending.returned (errV 4) = Ending.returned (errV (entsErr es))) := by
      show _ = _
      unfold entsErr
      rw [if_pos (by omega)]
    clear hx
    go_enter Tryz.func35, Tryz.ntmps35
    go_wp2_with fail
    go_ret
    exact ⟨HE.out, by (repeat (with_reducible first | exact Ext.refl _ | assumption | refine Ext.drew ?_ | refine Ext.drewN ?_ _ | refine Ext.alloc ?_ _ | refine Ext.trans ?_ (by with_reducible assumption)))⟩

theorem info_intL : (Tryz.prog.info? 3).map (fun i => (i.zero, i.size, i.bytes)) = some (some (.int .i64 0), 1, 8) := by kernel_rfl
/-- an entry's leaf -/
def Ent.leaf (e : Ent) : Int := leafL e.bytes.data.toList
theorem oneL (z : Int) : ∀ u ∈ [Value.int .i64 z], u.oneCell' = true := by intro u hu; simp at hu; subst hu; rfl

set_option maxRecDepth 100000 in
set_option maxHeartbeats 1000000 in
theorem Leafs_ok (A : Option Addr) (n c : Nat) (es : List Ent) (w : World) (hr : Rd w 2 A n c (es.flatMap Ent.cells)) (hm : c ≤ maxLen) (hk : entsOk es) :
    Calls Tryz.prog 7 #[.slice A n c] w fun e w' => (∃ v, e = .returned (.tuple #[v, .nilIface]) ∧ w'.ownsRow w.heap.size 3 1 v es.length ((es.map Ent.leaf).map (Value.int .i64))) ∧ Ext w w' := by
  have hx := hr.lenE
  have hn : n ≤ 200 := by have := hk.1; omega
  have HX := Lib.hid hx
  have HK := Lib.hid hk
  have hl := hr.2.1
  clear hx
  obtain ⟨i0, hi0, hz0, hz1, hz2⟩ := info_parts info_intL
  go_enter Tryz.func7, Tryz.ntmps7
  go_wp2_with fail
  refine (ready_ok A n c es _ hr hm HK.out).mono ?_
  rintro _ w0 ⟨rfl, hb0⟩
  go_wp2_with fail
  go_loopw [5, 15] (fun v x wr => ∃ j : Nat, x = .int .i64 j ∧ j ≤ n ∧ Ext w wr ∧ Hid (wr.ownsRow w.heap.size 3 1 v j (((es.take j).map Ent.leaf).map (Value.int .i64)))) (fun _ x _ => n - (intOf x).toNat)
  case atStart => exact ⟨0, rfl, Nat.zero_le _, by (repeat (with_reducible first | exact Ext.refl _ | assumption | refine Ext.drew ?_ | refine Ext.drewN ?_ _ | refine Ext.alloc ?_ _ | refine Ext.trans ?_ (by with_reducible assumption))), own_nil _ _ _ _⟩
  case round =>
    obtain ⟨j, rfl, hj, hbw, hown⟩ := hrel
    by_cases hc : j < n
    · have hgj := List.getElem?_eq_getElem (l := es) (i := j) (by rw [HX.out]; exact hc)
      have hok := HK.out.2 _ (List.mem_of_getElem? hgj)
      obtain ⟨ad, rfl, hb, c0, c1⟩ := (hr.ext hbw).getE hgj
      have HT : Hid ((es.take (j + 1)).map Ent.leaf = (es.take j).map Ent.leaf ++ [(es[j]'(by rw [HX.out]; exact hc)).leaf]) := by
        show _ = _
        rw [List.take_succ_eq_append_getElem (by rw [HX.out]; exact hc), List.map_append]; rfl
      generalize es[j]'(by rw [HX.out]; exact hc) = e at *
      obtain ⟨k0, k1, k2⟩ := hok
      have hsz := e.bytes_size
      have HLF : Hid (leafL e.bytes.data.toList = e.leaf) := rfl
      have hbw0 := hbw.size
      go_wp2_with fail
      refine (eBytes_any _ _ _ k0 (by omega)).mono ?_
      rintro _ w1 ⟨rfl, hb1⟩
      go_wp2_with fail
      refine (Leaf_any e.bytes _ (by omega)).mono ?_
      rintro _ w2 ⟨rfl, hb2⟩
      rw [HLF.out]
      have hs1 := hb1.size
      have hs2 := hb2.size
      go_wp2_with (at_builtin; refine wpl_app (by rfl) _ _ _ (by rfl) w.heap.size 3 i0 _ 1 8 Tryz.underlying24 hi0 hz0 hz1 hz2 rfl (by omega) u5 _ _ (by rfl) ((own_ext hown.out (by (repeat (with_reducible first | exact Ext.refl _ | assumption | refine Ext.drew ?_ | refine Ext.drewN ?_ _ | refine Ext.alloc ?_ _ | refine Ext.trans ?_ (by with_reducible assumption))))).alloc _) w2.heap.size 1 [.int .i64 e.leaf] rfl (by rfl) (news_new w2 _ _ _ rfl) (oneL _) (by omega) (by omega) (by simp at hs1 ⊢; omega) ?_; intro g cap w3 own3 hext3)
      go_roundw
      case rel => exact ⟨j + 1, by go_num, by omega, hext3 _ (Nat.le_refl _) (by (repeat (with_reducible first | exact Ext.refl _ | assumption | refine Ext.drew ?_ | refine Ext.drewN ?_ _ | refine Ext.alloc ?_ _ | refine Ext.trans ?_ (by with_reducible assumption)))), by rw [HT.out, List.map_append]; exact own3⟩
      case measure => simp [intOf]; omega
    · obtain rfl : j = n := by omega
      have hall : es.take j = es := List.take_of_length_le (by rw [HX.out]; omega)
      have HO : Hid (wr.ownsRow w.heap.size 3 1 u5 es.length ((es.map Ent.leaf).map (Value.int .i64))) := by have := hown.out; rw [hall] at this; rw [HX.out]; exact this
      clear hall
      go_wp2_with fail
      go_ret2
      exact ⟨⟨_, rfl, HO.out⟩, by (repeat (with_reducible first | exact Ext.refl _ | assumption | refine Ext.drew ?_ | refine Ext.drewN ?_ _ | refine Ext.alloc ?_ _ | refine Ext.trans ?_ (by with_reducible assumption)))⟩
set_option maxRecDepth 100000 in
theorem Leafs_bad (A : Option Addr) (n c : Nat) (es : List Ent) (w : World) (hr : Rd w 2 A n c (es.flatMap Ent.cells)) (hm : c ≤ maxLen) (hk : ¬ entsOk es) :
    Calls Tryz.prog 7 #[.slice A n c] w fun e w' => e = .returned (.tuple #[.slice none 0 0, errV (entsErr es)]) ∧ Ext w w' := by
  go_enter Tryz.func7, Tryz.ntmps7
  go_wp2_with fail
  refine (ready_bad A n c es _ hr hm hk).mono ?_
  rintro _ w0 ⟨rfl, hb0⟩
  simp only [errV]
  go_wp2_with fail
  go_ret2
  exact ⟨rfl, by (repeat (with_reducible first | exact Ext.refl _ | assumption | refine Ext.drew ?_ | refine Ext.drewN ?_ _ | refine Ext.alloc ?_ _ | refine Ext.trans ?_ (by with_reducible assumption)))⟩
end Go.Proofs.YtfccbjfiionepaaGreatDoor

/- The proof that a log grew is one; plain. -/
namespace Go.Proofs.YtfccbjfiionepaaGreatDoor
set_option linter.unusedVariables false

/-- the proof that a log grew is one -/
theorem gcheck_grow {xs : List Int} {o m : Nat} (h : 1 ≤ o) (h2 : o ≤ m) (hm : m ≤ xs.length) (hk : leafsOk xs) : gcheck (ofL (xs.take o)) o (ofL (xs.take m)) m (growL (xs.take m) o true) = 0 := by
  have hx := hk.1
  have hlm : (xs.take m).length = m := by rw [List.length_take]; omega
  have hvm := allV_take hk.2 m
  have va : vld (ofL (xs.take o)) = true := vld_ofL (allV_take hk.2 o) (by rw [List.length_take]; omega)
  have vb : vld (ofL (xs.take m)) = true := vld_ofL hvm (by omega)
  have hlen := growL_len m (xs.take m) o true (by omega) h (by omega) (by omega)
  have hvp := growL_vld m (xs.take m) o true (by omega) h (by omega) (by omega) hvm
  have hg := groots_grow m (ofL (xs.take o)) (xs.take m) o true (by omega) h (by omega) (by omega) (fun _ => by rw [List.take_take, Nat.min_eq_left h2])
  rw [List.take_take, Nat.min_eq_left h2, hlm] at hg
  rw [hlm] at hlen
  unfold gcheck
  rw [if_neg (by omega), if_neg (by simp [va, vb, hvp]), Int.toNat_natCast, Int.toNat_natCast, if_neg (by omega), if_neg (by simp [hg])]
theorem leafsOk_take {xs : List Int} (hk : leafsOk xs) (n : Nat) : leafsOk (xs.take n) := ⟨by have := hk.1; rw [List.length_take]; omega, allV_take hk.2 n⟩
theorem vld_root {xs : List Int} (hk : leafsOk xs) : vld (ofL xs) = true := vld_ofL hk.2 (by have := hk.1; omega)
/-- the proof that goes with two sizes of a log -/
def goP (xs : List Int) (n m : Nat) : List Int := if 1 ≤ n ∧ n < m then growL (xs.take m) n true else []
end Go.Proofs.YtfccbjfiionepaaGreatDoor

/- Heads of one log go together; plain. -/
namespace Go.Proofs.YtfccbjfiionepaaGreatDoor
set_option linter.unusedVariables false

/-- a head of so many entries, of that root -/
def lgB (n : Nat) (r t : Int) : Hd := ⟨(n : Int), r, t, 0⟩
theorem lg_ok {n : Nat} {r t key : Int} (hn : n ≤ 200) (hr : vld r = true) (ht : 0 ≤ t ∧ t ≤ 1000000) (hkey : keyI key = true) :
    sgnK (lgB n r t) key = 0 ∧ verK (sgnH (lgB n r t) key) key = 0 ∧ (sgnH (lgB n r t) key).size = n ∧ (sgnH (lgB n r t) key).root = r := by
  have hb : (blank (lgB n r t)).ok = true := Hd.ok_of ⟨by show (0 : Int) ≤ (n : Int); omega, by show (n : Int) ≤ 200; omega, ht.1, ht.2, hr, vld_mk ⟨Int.le_refl 0, by show (0 : Int) < 2147483647; decide⟩⟩
  have hs : sgnK (lgB n r t) key = 0 := if_pos (by rw [hkey, hb]; rfl)
  obtain ⟨h1, _, _, h4⟩ := sgn_ver hs
  refine ⟨hs, h1, ?_, ?_⟩
  · rw [h4]; rfl
  · rw [h4]; rfl
theorem chk_older {xs : List Int} (hk : leafsOk xs) {n m : Nat} (h : n ≤ m) (hm : m ≤ xs.length) {t u key : Int} (ht : 0 ≤ t ∧ t ≤ 1000000) (hu : 0 ≤ u ∧ u ≤ 1000000) (hkey : keyI key = true) :
    chk (sgnH (lgB n (ofL (xs.take n)) t) key) (sgnH (lgB m (ofL (xs.take m)) u) key) key (goP xs n m) = (true, 0) ∧ prvB (sgnH (lgB n (ofL (xs.take n)) t) key) (sgnH (lgB m (ofL (xs.take m)) u) key) key = false ∧ bothK (sgnH (lgB n (ofL (xs.take n)) t) key) (sgnH (lgB m (ofL (xs.take m)) u) key) key = 0 := by
  have hx := hk.1
  obtain ⟨a1, a2, a3, a4⟩ := lg_ok (n := n) (t := t) (key := key) (by omega) (vld_root (leafsOk_take hk n)) ht hkey
  obtain ⟨b1, b2, b3, b4⟩ := lg_ok (n := m) (t := u) (key := key) (by omega) (vld_root (leafsOk_take hk m)) hu hkey
  have hb : bothK (sgnH (lgB n (ofL (xs.take n)) t) key) (sgnH (lgB m (ofL (xs.take m)) u) key) key = 0 := by
    unfold bothK; rw [if_neg (not_not_intro a2), b2]
  refine ⟨?_, ?_, hb⟩
  · unfold chk chkX
    rw [hb, if_neg (not_not_intro rfl), a3, b3, if_neg (by omega)]
    by_cases e : n = m
    · subst e
      have hp : goP xs n n = [] := if_neg (by omega)
      rw [if_pos rfl, hp, if_neg (by simp), a4, b4]; simp
    · rw [if_neg (by omega)]
      by_cases e0 : n = 0
      · rw [if_pos ⟨by omega, by omega⟩]
      · rw [if_neg (by omega)]
        have hp : goP xs n m = growL (xs.take m) n true := if_pos ⟨by omega, by omega⟩
        have hg := gcheck_grow (xs := xs) (o := n) (m := m) (by omega) h hm hk
        rw [hp, a4, b4, hg]; rfl
  · unfold prvB splB
    rw [hb, a3, b3, a4, b4]
    by_cases e : n = m
    · subst e; simp
    · have : ¬ ((n : Int) = (m : Int)) := by omega
      simp [this]
theorem gmV_goP {xs : List Int} (hk : leafsOk xs) {n m : Nat} (h : 1 ≤ n) (h2 : n < m) (hm : m ≤ xs.length) : gmK xs n m = 0 ∧ gmV xs n m = goP xs n m := by
  have h0 : gmK xs n m = 0 := gmK_ok hk ⟨by omega, by omega, by omega⟩
  refine ⟨h0, ?_⟩
  unfold gmV goP
  rw [if_pos h0, if_pos ⟨h, h2⟩]
  rfl
/-! ### entries have leafs -/
theorem leafs_of_ents {es : List Ent} (hk : entsOk es) : leafsOk (es.map Ent.leaf) := ⟨by rw [List.length_map]; exact hk.1, by
  unfold allV
  rw [List.all_eq_true]
  intro x hx
  rw [List.mem_map] at hx
  obtain ⟨e, _, rfl⟩ := hx
  exact vld_sum _⟩
/-! ### Find -/
theorem findV_many {l : List Hd} {key : Int} (h : 20 < l.length) : findV l key = (0, 0, 4) := if_pos h
theorem findV_ill {l : List Hd} {key : Int} (h : ¬ 20 < l.length) (h2 : verL key l ≠ 0) : findV l key = (0, 0, verL key l) := by
  unfold findV findX; rw [if_neg h, if_pos h2]
theorem findV_well {l : List Hd} {key : Int} (h : ¬ 20 < l.length) (h2 : verL key l = 0) : findV l key = pairV (fK l l.length 0) := by
  unfold findV findX; rw [if_neg h, if_neg (not_not_intro h2)]
theorem findV_none {l : List Hd} {key : Int} (h : l.length ≤ 20) (h2 : ∀ x ∈ l, verK x key = 0) (h3 : ∀ a ∈ l, ∀ b ∈ l, splB a b = false) : findV l key = (0, 0, 5) := by
  rw [findV_well (by omega) (verL_ok h2), fK_none]
  · rfl
  · intro m _ hm
    refine fI_none fun i _ hi => ?_
    unfold spAt
    cases e1 : l[i]? with
    | none => rfl
    | some a =>
      cases e2 : l[m]? with
      | none => rfl
      | some b => exact h3 a (List.mem_of_getElem? e1) b (List.mem_of_getElem? e2)
theorem findV_two {p q : Hd} {key : Int} (hp : verK p key = 0) (hq : verK q key = 0) (h : splB p q = true) : findV [p, q] key = (0, 1, 0) := by
  rw [findV_well (by simp) (verL_ok (by intro x hx; simp at hx; rcases hx with rfl | rfl <;> assumption))]
  have h0 : fI [p, q] 0 0 0 = none := rfl
  have h1 : fI [p, q] 1 1 0 = some 0 := by
    show (if spAt [p, q] 0 1 = true then some 0 else fI [p, q] 1 0 1) = some 0
    rw [if_pos (by exact h)]
  show pairV (fK [p, q] 2 0) = _
  rw [fK_some (i := 0) (q := 1) (by omega) (by omega) h1 (fun m _ hm => by obtain rfl : m = 0 := by omega
                                                                           exact h0)]
  rfl
/-- the law's search: ahead of row k -/
def FK (l : List Hd) (n k : Nat) (f x y : Int) : Prop := (f = 5 ∧ x = 0 ∧ y = 0 ∧ ∀ m, m < k → fI l m m 0 = none) ∨ (f = 0 ∧ pairV (fK l n 0) = (x, y, 0))
/-- in row k, ahead of i -/
def FI (l : List Hd) (n k i : Nat) (f x y : Int) : Prop := (f = 5 ∧ x = 0 ∧ y = 0 ∧ (∀ m, m < k → fI l m m 0 = none) ∧ ∀ m, m < i → spAt l m k = false) ∨ (f = 0 ∧ pairV (fK l n 0) = (x, y, 0))
theorem FI_hit {l : List Hd} {n k i : Nat} {x y : Int} (h : FI l n k i 5 x y) (hi : i < k) (hk : k < n) (hs : spAt l i k = true) : pairV (fK l n 0) = ((i : Int), (k : Int), 0) := by
  rcases h with ⟨_, _, _, h1, h2⟩ | ⟨h, _⟩
  · rw [fK_some (i := i) (q := k) (by omega) (by omega) (fI_some (by omega) (by omega) hs fun m _ hm => h2 m hm) fun m _ hm => h1 m hm]
    rfl
  · cases h
theorem FI_next {l : List Hd} {n k i : Nat} {x y : Int} (h : FI l n k i 5 x y) (hs : spAt l i k = false) : FI l n k (i + 1) 5 x y := by
  rcases h with ⟨h0, hx, hy, h1, h2⟩ | ⟨h, _⟩
  · exact .inl ⟨h0, hx, hy, h1, fun m hm => by
      by_cases e : m = i
      · subst e; exact hs
      · exact h2 m (by omega)⟩
  · cases h
theorem FK_next {l : List Hd} {n k : Nat} {f x y : Int} (h : FI l n k k f x y) : FK l n (k + 1) f x y := by
  rcases h with ⟨h0, hx, hy, h1, h2⟩ | h
  · exact .inl ⟨h0, hx, hy, fun m hm => by
      by_cases e : m = k
      · subst e; exact fI_none fun i _ hi => h2 i (by omega)
      · exact h1 m (by omega)⟩
  · exact .inr h
theorem FK_end {l : List Hd} {n : Nat} {f x y : Int} (h : FK l n n f x y) : pairV (fK l n 0) = (x, y, f) := by
  rcases h with ⟨rfl, rfl, rfl, h1⟩ | ⟨rfl, h⟩
  · rw [fK_none fun m _ hm => h1 m (by omega)]; rfl
  · exact h
end Go.Proofs.YtfccbjfiionepaaGreatDoor
