/- fork.Find, plain: the first two that split. -/
import Derived.Test.YtnphbkjkeipmmaaGreatDoorJRunBegins14
import Derived.Test.YtnphbkjkeipmmaaGreatDoorJRunBegins11
import Derived.Test.YtnphbkjkeipmmaaGreatDoorJRunBegins10
import Derived.Test.YtnphbkjkeipmmaaGreatDoorJRunBegins3
import Derived.Test.YtnphbkjkeipmmaaGreatDoorJRunBegins0
import Derived.Deep.RegionHeld3
import Derived.Deep.DrawnRows
import Derived.Test.YtnphbkjkeipmmaaGreatDoorJRunBegins4
import Derived.Deep.LoopGhost
namespace Go.Proofs.YtnphbkjkeipmmaaGreatDoor
set_option linter.unusedVariables false

/-- the first head's fault -/
def verL (key : Int) : List Hd → Int
  | [] => 0
  | h :: l => if verK h key = 0 then verL key l else verK h key
theorem verL_ok {key : Int} {l : List Hd} (h : ∀ x ∈ l, verK x key = 0) : verL key l = 0 := by
  induction l with
  | nil => rfl
  | cons x l ih => rw [verL, if_pos (h x (by simp)), ih fun e he => h e (by simp [he])]
theorem verL_at {key : Int} {l : List Hd} {j : Nat} {x : Hd} (hx : l[j]? = some x) (hk : verK x key ≠ 0) (h : ∀ (i : Nat) (y : Hd), i < j → l[i]? = some y → verK y key = 0) : verL key l = verK x key := by
  induction l generalizing j with
  | nil => simp at hx
  | cons y l ih =>
    rcases j with _ | j
    · obtain rfl : y = x := by simpa using hx
      rw [verL, if_neg hk]
    · rw [verL, if_pos (h 0 y (by omega) rfl)]
      exact ih (by simpa using hx) fun i z hi hz => h (i + 1) z (by omega) (by simpa using hz)
/-- do the i-th and the k-th split? -/
def spAt (l : List Hd) (i k : Nat) : Bool := match l[i]?, l[k]? with
  | some a, some b => splB a b
  | _, _ => false
/-- the first i of n, from i on -/
def fI (l : List Hd) (k : Nat) : Nat → Nat → Option Nat
  | 0, i => none
  | n + 1, i => if spAt l i k then some i else fI l k n (i + 1)
/-- the first pair of n rows, from row k on -/
def fK (l : List Hd) : Nat → Nat → Option (Nat × Nat)
  | 0, k => none
  | n + 1, k => match fI l k k 0 with
    | some i => some (i, k)
    | none => fK l n (k + 1)
def pairV : Option (Nat × Nat) → Int × Int × Int
  | some (i, k) => (i, k, 0)
  | none => (0, 0, 5)
def findX (l : List Hd) (key : Int) (n : Nat) : Int × Int × Int :=
  if 20 < n then (0, 0, 4) else if verL key l ≠ 0 then (0, 0, verL key l) else pairV (fK l n 0)
def findV (l : List Hd) (key : Int) : Int × Int × Int := findX l key l.length
theorem fI_some {l : List Hd} {k : Nat} : ∀ {n i j : Nat}, i ≤ j → j < i + n → spAt l j k = true → (∀ m, i ≤ m → m < j → spAt l m k = false) → fI l k n i = some j
  | 0, i, j, h, h2, _, _ => by omega
  | n + 1, i, j, h, h2, h3, h4 => by
    by_cases he : i = j
    · subst he; rw [fI, if_pos h3]
    · rw [fI, if_neg (by rw [h4 i (Nat.le_refl _) (by omega)]; decide)]
      exact fI_some (by omega) (by omega) h3 fun m a b => h4 m (by omega) b
theorem fI_none {l : List Hd} {k : Nat} : ∀ {n i : Nat}, (∀ m, i ≤ m → m < i + n → spAt l m k = false) → fI l k n i = none
  | 0, i, _ => rfl
  | n + 1, i, h => by
    rw [fI, if_neg (by rw [h i (Nat.le_refl _) (by omega)]; decide)]
    exact fI_none fun m a b => h m (by omega) (by omega)
theorem fK_some {l : List Hd} {i : Nat} : ∀ {n k q : Nat}, k ≤ q → q < k + n → fI l q q 0 = some i → (∀ m, k ≤ m → m < q → fI l m m 0 = none) → fK l n k = some (i, q)
  | 0, k, q, h, h2, _, _ => by omega
  | n + 1, k, q, h, h2, h3, h4 => by
    by_cases he : k = q
    · subst he; simp [fK, h3]
    · rw [fK, h4 k (Nat.le_refl _) (by omega)]
      exact fK_some (by omega) (by omega) h3 fun m a b => h4 m (by omega) b
theorem fK_none {l : List Hd} : ∀ {n k : Nat}, (∀ m, k ≤ m → m < k + n → fI l m m 0 = none) → fK l n k = none
  | 0, k, _ => rfl
  | n + 1, k, h => by
    rw [fK, h k (Nat.le_refl _) (by omega)]
    exact fK_none fun m a b => h m (by omega) (by omega)
end Go.Proofs.YtnphbkjkeipmmaaGreatDoor

/- fork.Find, walked. -/
namespace Go.Proofs.YtnphbkjkeipmmaaGreatDoor
open Go.RowKit Go.WideShapes
set_option linter.unusedVariables false
attribute [local go_sem ↓] Go.wp_at_zero Go.wp_at_succ

theorem spAt_eq {l : List Hd} {i k : Nat} {a b : Hd} (h1 : l[i]? = some a) (h2 : l[k]? = some b) : spAt l i k = splB a b := by unfold spAt; rw [h1, h2]
/-- a cell of a row, in every world beyond -/
theorem WE.row {w : World} {p : Addr} {v : Value} (h : w.cell? p = some v) (hl : p.block < w.heap.size) (x : WE w) : x.W.cell? p = some v := (x.h.cell hl).trans h

end Go.Proofs.YtnphbkjkeipmmaaGreatDoor

namespace Go.Proofs.YtnphbkjkeipmmaaGreatDoor
open Go.RowKit
set_option linter.unusedVariables false
attribute [local go_sem ↓] Go.wp_at_zero Go.wp_at_succ

/-- which fault an entry has -/
def Ent.ok (e : Ent) : Prop := 0 ≤ e.time ∧ e.time ≤ 1000000 ∧ e.data.size ≤ 200
def Ent.err (e : Ent) : Int := if e.time < 0 ∨ 1000000 < e.time then 1 else 4
instance (e : Ent) : Decidable e.ok := by unfold Ent.ok; infer_instance

theorem eCheck_ok (t : Int) (s : ByteArray) (w : World) (h : (⟨t, s⟩ : Ent).ok) :
    Calls Tryz.prog 81 #[.agg #[.int .i64 t, .string s]] w fun e w' => e = .returned .nilIface ∧ Ext w w' := by
  obtain ⟨h0, h1, h2⟩ := h
  dsimp only at h0 h1 h2
  go_enter Tryz.func81, Tryz.ntmps81
  go_wp2
  go_ret
  exact ⟨rfl, by (repeat (with_reducible first | exact Ext.refl _ | assumption | refine Ext.drew ?_ | refine Ext.drewN ?_ _ | refine Ext.alloc ?_ _ | refine Ext.trans ?_ (by with_reducible assumption)))⟩
theorem eCheck_bad (t : Int) (s : ByteArray) (w : World) (h : ¬ (⟨t, s⟩ : Ent).ok) :
    Calls Tryz.prog 81 #[.agg #[.int .i64 t, .string s]] w fun e w' => e = .returned (errV (⟨t, s⟩ : Ent).err) ∧ Ext w w' := by
  have h' : (t < 0) ∨ (0 ≤ t ∧ 1000000 < t) ∨ (0 ≤ t ∧ t ≤ 1000000 ∧ 200 < s.size) := by
    unfold Ent.ok at h
    dsimp only at h
    omega
  clear h
  rcases h' with h | ⟨h, h'⟩ | ⟨h, h', h''⟩
  · have HE : Hid ((⟨t, s⟩ : Ent).err = 1) := by show Ent.err _ = 1; unfold Ent.err; rw [if_pos (by dsimp only; omega)]
    go_enter Tryz.func81, Tryz.ntmps81
    go_wp2
    go_ret
    exact ⟨by rw [HE.out]; rfl, by (repeat (with_reducible first | exact Ext.refl _ | assumption | refine Ext.drew ?_ | refine Ext.drewN ?_ _ | refine Ext.alloc ?_ _ | refine Ext.trans ?_ (by with_reducible assumption)))⟩
  · have HE : Hid ((⟨t, s⟩ : Ent).err = 1) := by show Ent.err _ = 1; unfold Ent.err; rw [if_pos (by dsimp only; omega)]
    go_enter Tryz.func81, Tryz.ntmps81
    go_wp2
    go_ret
    exact ⟨by rw [HE.out]; rfl, by (repeat (with_reducible first | exact Ext.refl _ | assumption | refine Ext.drew ?_ | refine Ext.drewN ?_ _ | refine Ext.alloc ?_ _ | refine Ext.trans ?_ (by with_reducible assumption)))⟩
  · have HE : Hid ((⟨t, s⟩ : Ent).err = 4) := by show Ent.err _ = 4; unfold Ent.err; rw [if_neg (by dsimp only; omega)]
    go_enter Tryz.func81, Tryz.ntmps81
    go_wp2
    go_ret
    exact ⟨by rw [HE.out]; rfl, by (repeat (with_reducible first | exact Ext.refl _ | assumption | refine Ext.drew ?_ | refine Ext.drewN ?_ _ | refine Ext.alloc ?_ _ | refine Ext.trans ?_ (by with_reducible assumption)))⟩

/-- an entry's bytes -/
def entH (t : Int) (n : Nat) : List UInt8 := [byteOf (t / 65536 % 256), byteOf (t / 256 % 256), byteOf (t % 256), byteOf ((n : Int) % 256)]
def entB (t : Int) (l : List UInt8) : List UInt8 := entH t l.length ++ l
def Ent.bytes (e : Ent) : ByteArray := (⟨(entH e.time e.data.size).toArray⟩ : ByteArray) ++ e.data
theorem Ent.bytes_list (e : Ent) : e.bytes.data.toList = entB e.time e.data.data.toList := by unfold Ent.bytes; rw [toList_cat]; rfl
theorem Ent.bytes_size (e : Ent) : e.bytes.size = 4 + e.data.size := by unfold Ent.bytes; rw [size_cat]; rfl
theorem extract_tail (l : List UInt8) (s : ByteArray) (k : Nat) (hk : l.length = k) : ((⟨l.toArray⟩ : ByteArray) ++ s).extract k (k + s.size) = s := by
  subst hk
  have h := ByteArray.extract_append_eq_right (a := (⟨l.toArray⟩ : ByteArray)) (b := s) (i := l.length) (j := l.length + s.size) rfl rfl
  exact h
theorem Ent.bytes_tail (e : Ent) : e.bytes.extract 4 (4 + e.data.size) = e.data := extract_tail _ _ 4 rfl
set_option maxRecDepth 100000 in
theorem eBytes_any (t : Int) (s : ByteArray) (w : World) (h0 : 0 ≤ t) (h2 : s.size ≤ 140737488355328) :
    Calls Tryz.prog 114 #[.agg #[.int .i64 t, .string s]] w fun e w' => e = .returned (.string (⟨t, s⟩ : Ent).bytes) ∧ Ext w w' := by
  have hk := conv4
  go_enter Tryz.func114, Tryz.ntmps114
  go_wp2
  go_ret
  exact ⟨rfl, by (repeat (with_reducible first | exact Ext.refl _ | assumption | refine Ext.drew ?_ | refine Ext.drewN ?_ _ | refine Ext.alloc ?_ _ | refine Ext.trans ?_ (by with_reducible assumption)))⟩

end Go.Proofs.YtnphbkjkeipmmaaGreatDoor

namespace Go.Proofs.YtnphbkjkeipmmaaGreatDoor
open Go.RowKit
set_option linter.unusedVariables false
attribute [local go_sem ↓] Go.wp_at_zero Go.wp_at_succ

theorem info_ent : (Tryz.prog.info? 67).map (fun i => (i.zero, i.size, i.bytes)) = some (some (.agg #[.int .i64 0, .string ⟨#[]⟩]), 2, 24) := by kernel_rfl
theorem oneE (e : Ent) : ∀ u ∈ e.cells, u.oneCell' = true := by intro u hu; simp [Ent.cells] at hu; rcases hu with rfl | rfl <;> rfl
theorem flat_nth {α : Type} {f : α → List Value} {k : Nat} (hf : ∀ x, (f x).length = k) : ∀ (l : List α) (j : Nat) (x : α) (i : Nat), l[j]? = some x → i < k → (l.flatMap f)[j * k + i]? = (f x)[i]?
  | [], j, x, i, h, _ => by simp at h
  | y :: l, 0, x, i, h, hi => by
    obtain rfl : y = x := by simpa using h
    rw [List.flatMap_cons, Nat.zero_mul, Nat.zero_add, List.getElem?_append_left (by rw [hf]; exact hi)]
  | y :: l, j + 1, x, i, h, hi => by
    rw [List.flatMap_cons, List.getElem?_append_right (by rw [hf, Nat.succ_mul]; omega), hf, show (j + 1) * k + i - k = j * k + i by rw [Nat.succ_mul]; omega]
    exact flat_nth hf l j x i (by simpa using h) hi
theorem Rd.getE {w : World} {A : Option Addr} {n c : Nat} {es : List Ent} (h : Rd w 2 A n c (es.flatMap Ent.cells)) {j : Nat} {e : Ent} (he : es[j]? = some e) :
    ∃ ad, A = some ad ∧ ad.block < w.heap.size ∧ w.cell? (ad.add (j * 2)) = some (.int .i64 e.time) ∧ w.cell? ⟨(ad.add (j * 2)).block, (ad.add (j * 2)).off + 1, none⟩ = some (.string e.data) := by
  have h0 := flat_nth (f := Ent.cells) (k := 2) (fun _ => rfl) es j e 0 he (by omega)
  have h1 := flat_nth (f := Ent.cells) (k := 2) (fun _ => rfl) es j e 1 he (by omega)
  obtain ⟨ad, e1, hb, hc0⟩ := h.at_ h0
  obtain ⟨ad', e2, _, hc1⟩ := h.at_ h1
  rw [e1] at e2
  obtain rfl : ad = ad' := by injection e2
  rw [← add_add'] at hc1
  exact ⟨ad, e1, hb, hc0, hc1⟩
theorem Rd.lenE {w : World} {A : Option Addr} {n c : Nat} {es : List Ent} (h : Rd w 2 A n c (es.flatMap Ent.cells)) : es.length = n := by
  have := h.1
  rw [flat_len Ent.cells 2 (fun _ => rfl)] at this
  omega

def entsOk (es : List Ent) : Prop := es.length ≤ 200 ∧ ∀ e ∈ es, e.ok

set_option maxRecDepth 100000 in
theorem ready_ok (A : Option Addr) (n c : Nat) (es : List Ent) (w : World) (hr : Rd w 2 A n c (es.flatMap Ent.cells)) (hm : c ≤ maxLen) (hk : entsOk es) :
    Calls Tryz.prog 112 #[.slice A n c] w fun e w' => e = .returned .nilIface ∧ Ext w w' := by
  have hx := hr.lenE
  have hn : n ≤ 200 := by have := hk.1; omega
  have HX := Lib.hid hx
  have HK := Lib.hid hk.2
  have hl := hr.2.1
  clear hx
  go_enter Tryz.func112, Tryz.ntmps112
  go_wp2_with fail
  go_loopw [12] (fun x wr => ∃ j : Nat, x = .int .i64 j ∧ j ≤ n ∧ Ext w wr) (fun x _ => n - (intOf x).toNat)
  case atStart => exact ⟨0, rfl, Nat.zero_le _, by (repeat (with_reducible first | exact Ext.refl _ | assumption | refine Ext.drew ?_ | refine Ext.drewN ?_ _ | refine Ext.alloc ?_ _ | refine Ext.trans ?_ (by with_reducible assumption)))⟩
  case round =>
    obtain ⟨j, rfl, hj, hbw⟩ := hrel
    by_cases hc : j < n
    · have hgj := List.getElem?_eq_getElem (l := es) (i := j) (by rw [HX.out]; exact hc)
      have hok := HK.out _ (List.mem_of_getElem? hgj)
      obtain ⟨ad, rfl, hb, c0, c1⟩ := (hr.ext hbw).getE hgj
      generalize es[j]'(by rw [HX.out]; exact hc) = e at *
      have hbk : ad.block < wr.heap.size := hb
      go_wp2_with fail
      refine (eCheck_ok _ _ _ hok).mono ?_
      rintro _ w1 ⟨rfl, hb1⟩
      go_wp2_with fail
      go_roundw
      case rel => exact ⟨j + 1, by go_num, by omega, by (repeat (with_reducible first | exact Ext.refl _ | assumption | refine Ext.drew ?_ | refine Ext.drewN ?_ _ | refine Ext.alloc ?_ _ | refine Ext.trans ?_ (by with_reducible assumption)))⟩
      case measure => simp [intOf]; omega
    · go_wp2_with fail
      go_ret
      exact ⟨rfl, by (repeat (with_reducible first | exact Ext.refl _ | assumption | refine Ext.drew ?_ | refine Ext.drewN ?_ _ | refine Ext.alloc ?_ _ | refine Ext.trans ?_ (by with_reducible assumption)))⟩

/-- the fault of some -/
def firstErr : List Ent → Int
  | [] => 0
  | e :: l => if e.ok then firstErr l else e.err
def entsErr (es : List Ent) : Int := if 200 < es.length then 4 else firstErr es
theorem Ent.err_ne (e : Ent) : e.err ≠ 0 := by unfold Ent.err; split <;> decide
theorem firstErr_ok {es : List Ent} (h : ∀ e ∈ es, e.ok) : firstErr es = 0 := by
  induction es with
  | nil => rfl
  | cons x es ih => rw [firstErr, if_pos (h x (by simp)), ih fun e he => h e (by simp [he])]
theorem entsErr_ok {es : List Ent} (h : entsOk es) : entsErr es = 0 := by
  unfold entsErr; rw [if_neg (by have := h.1; omega), firstErr_ok h.2]
theorem first_bad {es : List Ent} (h : ¬ ∀ e ∈ es, e.ok) : ∃ (j : Nat) (e : Ent), es[j]? = some e ∧ ¬ e.ok ∧ (∀ (i : Nat) (f : Ent), i < j → es[i]? = some f → f.ok) ∧ firstErr es = e.err := by
  induction es with
  | nil => exact absurd (fun e he => by simp at he) h
  | cons x es ih =>
    by_cases hx : x.ok
    · obtain ⟨j, e, h1, h2, h3, h4⟩ := ih fun hh => h fun e he => by
        rcases List.mem_cons.1 he with rfl | he
        · exact hx
        · exact hh e he
      refine ⟨j + 1, e, by simpa using h1, h2, fun i f hi hf => ?_, by rw [firstErr, if_pos hx, h4]⟩
      rcases i with _ | i
      · simp at hf; subst hf; exact hx
      · exact h3 i f (by omega) (by simpa using hf)
    · exact ⟨0, x, rfl, hx, fun i f hi => absurd hi (by omega), by rw [firstErr, if_neg hx]⟩
theorem entsErr_bad {es : List Ent} (h : ¬ entsOk es) : entsErr es ≠ 0 := by
  unfold entsErr
  by_cases hl : 200 < es.length
  · rw [if_pos hl]; decide
  · rw [if_neg hl]
    obtain ⟨_, e, _, _, _, h4⟩ := first_bad (es := es) fun hh => h ⟨by omega, hh⟩
    rw [h4]; exact e.err_ne

set_option maxRecDepth 100000 in
theorem ready_bad (A : Option Addr) (n c : Nat) (es : List Ent) (w : World) (hr : Rd w 2 A n c (es.flatMap Ent.cells)) (hm : c ≤ maxLen) (hk : ¬ entsOk es) :
    Calls Tryz.prog 112 #[.slice A n c] w fun e w' => e = .returned (errV (entsErr es)) ∧ Ext w w' := by
  have hx := hr.lenE
  by_cases hn : n ≤ 200
  · obtain ⟨j0, e0, hj0, hbad, hbef, hfe⟩ := first_bad (es := es) fun h => hk ⟨by omega, h⟩
    have HE : Hid (Ending.returned (errV e0.err) = Ending.returned (errV (entsErr es))) := by
      show _ = _
      unfold entsErr
      rw [if_neg (by omega), hfe]
    clear hfe
    have hjl : j0 < n := by have := (List.getElem?_eq_some_iff.1 hj0).1; omega
    have HX := Lib.hid hx
    have HB := Lib.hid hbef
    have HJ := Lib.hid hj0
    have HBAD := Lib.hid hbad
    have hl := hr.2.1
    clear hx hbef hj0 hk hbad
    go_enter Tryz.func112, Tryz.ntmps112
    go_wp2_with fail
    go_loopw [12] (fun x wr => ∃ j : Nat, x = .int .i64 j ∧ j ≤ j0 ∧ Ext w wr) (fun x _ => n - (intOf x).toNat)
    case atStart => exact ⟨0, rfl, Nat.zero_le _, by (repeat (with_reducible first | exact Ext.refl _ | assumption | refine Ext.drew ?_ | refine Ext.drewN ?_ _ | refine Ext.alloc ?_ _ | refine Ext.trans ?_ (by with_reducible assumption)))⟩
    case round =>
      obtain ⟨j, rfl, hj, hbw⟩ := hrel
      by_cases hc : j < j0
      · have hgj := List.getElem?_eq_getElem (l := es) (i := j) (by rw [HX.out]; omega)
        have hok := HB.out j _ hc hgj
        obtain ⟨ad, rfl, hb, c0, c1⟩ := (hr.ext hbw).getE hgj
        generalize es[j]'(by rw [HX.out]; omega) = e at *
        have hjn : j < n := by omega
        go_wp2_with fail
        refine (eCheck_ok _ _ _ hok).mono ?_
        rintro _ w1 ⟨rfl, hb1⟩
        go_wp2_with fail
        go_roundw
        case rel => exact ⟨j + 1, by go_num, by omega, by (repeat (with_reducible first | exact Ext.refl _ | assumption | refine Ext.drew ?_ | refine Ext.drewN ?_ _ | refine Ext.alloc ?_ _ | refine Ext.trans ?_ (by with_reducible assumption)))⟩
        case measure => simp [intOf]; omega
      · obtain rfl : j = j0 := by omega
        obtain ⟨ad, rfl, hb, c0, c1⟩ := (hr.ext hbw).getE HJ.out
        go_wp2_with fail
        refine (eCheck_bad _ _ _ HBAD.out).mono ?_
        rintro _ w1 ⟨rfl, hb1⟩
        simp only [errV]
        go_wp2_with fail
        go_ret
        exact ⟨HE.out, by (repeat (with_reducible first | exact Ext.refl _ | assumption | refine Ext.drew ?_ | refine Ext.drewN ?_ _ | refine Ext.alloc ?_ _ | refine Ext.trans ?_ (by with_reducible assumption)))⟩
  · have HE : Hid (Ending.returned (errV 4) = Ending.returned (errV (entsErr es))) := by
      show _ = _
      unfold entsErr
      rw [if_pos (by omega)]
    clear hx
    go_enter Tryz.func112, Tryz.ntmps112
    go_wp2_with fail
    go_ret
    exact ⟨HE.out, by (repeat (with_reducible first | exact Ext.refl _ | assumption | refine Ext.drew ?_ | refine Ext.drewN ?_ _ | refine Ext.alloc ?_ _ | refine Ext.trans ?_ (by with_reducible assumption)))⟩

theorem info_intL : (Tryz.prog.info? 3).map (fun i => (i.zero, i.size, i.bytes)) = some (some (.int .i64 0), 1, 8) := by kernel_rfl
/-- an entry's leaf -/
def Ent.leaf (e : Ent) : Int := leafL e.bytes.data.toList
theorem oneL (z : Int) : ∀ u ∈ [Value.int .i64 z], u.oneCell' = true := by intro u hu; simp at hu; subst hu; rfl

set_option maxRecDepth 100000 in
set_option maxHeartbeats 1000000 in
theorem Leafs_ok (A : Option Addr) (n c : Nat) (es : List Ent) (w : World) (hr : Rd w 2 A n c (es.flatMap Ent.cells)) (hm : c ≤ maxLen) (hk : entsOk es) :
    Calls Tryz.prog 84 #[.slice A n c] w fun e w' => (∃ v, e = .returned (.tuple #[v, .nilIface]) ∧ w'.ownsRow w.heap.size 3 1 v es.length ((es.map Ent.leaf).map (Value.int .i64))) ∧ Ext w w' := by
  have hx := hr.lenE
  have hn : n ≤ 200 := by have := hk.1; omega
  have HX := Lib.hid hx
  have HK := Lib.hid hk
  have hl := hr.2.1
  clear hx
  obtain ⟨i0, hi0, hz0, hz1, hz2⟩ := info_parts info_intL
  go_enter Tryz.func84, Tryz.ntmps84
  go_wp2_with fail
  refine (ready_ok A n c es _ hr hm HK.out).mono ?_
  rintro _ w0 ⟨rfl, hb0⟩
  go_wp2_with fail
  go_loopw [5, 15] (fun v x wr => ∃ j : Nat, x = .int .i64 j ∧ j ≤ n ∧ Ext w wr ∧ Hid (wr.ownsRow w.heap.size 3 1 v j (((es.take j).map Ent.leaf).map (Value.int .i64)))) (fun _ x _ => n - (intOf x).toNat)
  case atStart => exact ⟨0, rfl, Nat.zero_le _, by (repeat (with_reducible first | exact Ext.refl _ | assumption | refine Ext.drew ?_ | refine Ext.drewN ?_ _ | refine Ext.alloc ?_ _ | refine Ext.trans ?_ (by with_reducible assumption))), own_nil _ _ _ _⟩
  case round =>
    obtain ⟨j, rfl, hj, hbw, hown⟩ := hrel
    by_cases hc : j < n
    · have hgj := List.getElem?_eq_getElem (l := es) (i := j) (by rw [HX.out]; exact hc)
      have hok := HK.out.2 _ (List.mem_of_getElem? hgj)
      obtain ⟨ad, rfl, hb, c0, c1⟩ := (hr.ext hbw).getE hgj
      have HT : Hid ((es.take (j + 1)).map Ent.leaf = (es.take j).map Ent.leaf ++ [(es[j]'(by rw [HX.out]; exact hc)).leaf]) := by
        show _ = _
        rw [List.take_succ_eq_append_getElem (by rw [HX.out]; exact hc), List.map_append]; rfl
      generalize es[j]'(by rw [HX.out]; exact hc) = e at *
      obtain ⟨k0, k1, k2⟩ := hok
      have hsz := e.bytes_size
      have HLF : Hid (leafL e.bytes.data.toList = e.leaf) := rfl
      have hbw0 := hbw.size
      go_wp2_with fail
      refine (eBytes_any _ _ _ k0 (by omega)).mono ?_
      rintro _ w1 ⟨rfl, hb1⟩
      go_wp2_with fail
      refine (Leaf_any e.bytes _ (by omega)).mono ?_
      rintro _ w2 ⟨rfl, hb2⟩
      rw [HLF.out]
      have hs1 := hb1.size
      have hs2 := hb2.size
      go_wp2_with (at_builtin; refine wpl_app (by rfl) _ _ _ (by rfl) w.heap.size 3 i0 _ 1 8 Tryz.underlying85 hi0 hz0 hz1 hz2 rfl (by omega) u5 _ _ (by rfl) ((own_ext hown.out (by (repeat (with_reducible first | exact Ext.refl _ | assumption | refine Ext.drew ?_ | refine Ext.drewN ?_ _ | refine Ext.alloc ?_ _ | refine Ext.trans ?_ (by with_reducible assumption))))).alloc _) w2.heap.size 1 [.int .i64 e.leaf] rfl (by rfl) (news_new w2 _ _ _ rfl) (oneL _) (by omega) (by omega) (by simp at hs1 ⊢; omega) ?_; intro g cap w3 own3 hext3)
      go_roundw
      case rel => exact ⟨j + 1, by go_num, by omega, hext3 _ (Nat.le_refl _) (by (repeat (with_reducible first | exact Ext.refl _ | assumption | refine Ext.drew ?_ | refine Ext.drewN ?_ _ | refine Ext.alloc ?_ _ | refine Ext.trans ?_ (by with_reducible assumption)))), by rw [HT.out, List.map_append]; exact own3⟩
      case measure => simp [intOf]; omega
    · obtain rfl : j = n := by omega
      have hall : es.take j = es := List.take_of_length_le (by rw [HX.out]; omega)
      have HO : Hid (wr.ownsRow w.heap.size 3 1 u5 es.length ((es.map Ent.leaf).map (Value.int .i64))) := by have := hown.out; rw [hall] at this; rw [HX.out]; exact this
      clear hall
      go_wp2_with fail
      go_ret2
      exact ⟨⟨_, rfl, HO.out⟩, by (repeat (with_reducible first | exact Ext.refl _ | assumption | refine Ext.drew ?_ | refine Ext.drewN ?_ _ | refine Ext.alloc ?_ _ | refine Ext.trans ?_ (by with_reducible assumption)))⟩
set_option maxRecDepth 100000 in
theorem Leafs_bad (A : Option Addr) (n c : Nat) (es : List Ent) (w : World) (hr : Rd w 2 A n c (es.flatMap Ent.cells)) (hm : c ≤ maxLen) (hk : ¬ entsOk es) :
    Calls Tryz.prog 84 #[.slice A n c] w fun e w' => e = .returned (.tuple #[.slice none 0 0, errV (entsErr es)]) ∧ Ext w w' := by
  go_enter Tryz.func84, Tryz.ntmps84
  go_wp2_with fail
  refine (ready_bad A n c es _ hr hm hk).mono ?_
  rintro _ w0 ⟨rfl, hb0⟩
  simp only [errV]
  go_wp2_with fail
  go_ret2
  exact ⟨rfl, by (repeat (with_reducible first | exact Ext.refl _ | assumption | refine Ext.drew ?_ | refine Ext.drewN ?_ _ | refine Ext.alloc ?_ _ | refine Ext.trans ?_ (by with_reducible assumption)))⟩
end Go.Proofs.YtnphbkjkeipmmaaGreatDoor
