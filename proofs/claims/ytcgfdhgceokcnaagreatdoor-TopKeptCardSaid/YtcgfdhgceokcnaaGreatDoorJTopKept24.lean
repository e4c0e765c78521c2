/- wal: what is done to it, beside an elder world. -/
import Derived.Test.YtcgfdhgceokcnaaGreatDoorJTopKept23
import Derived.Test.YtcgfdhgceokcnaaGreatDoorJTopKept3
import Derived.Test.YtcgfdhgceokcnaaGreatDoorJTopKept0
import Derived.Deep.RegionHeld3
import Derived.Deep.DrawnRows
import Derived.Test.YtcgfdhgceokcnaaGreatDoorJTopKept4
import Derived.Deep.LoopGhost
namespace Go.Proofs.YtcgfdhgceokcnaaGreatDoor
open Go.RowKit Go.WideShapes
set_option linter.unusedVariables false

theorem fold_young (lim : Nat) : ∀ (bs : List (List Pr)) (z : List Pr × List (List Pr)), z.1.length < lim → (bs.foldl (fun z b => doZ lim z.1 z.2 b) z).1.length < lim
  | [], z, h => h
  | b :: bs, z, h => by
    rw [List.foldl_cons]
    refine fold_young lim bs _ ?_
    unfold doZ
    split
    · exact runB_young lim b _ _ h
    · exact h
theorem stZ_young {lim : Nat} (h : 1 ≤ lim) (bs : List (List Pr)) : (stZ lim bs).1.length < lim := fold_young lim bs ([], []) h
theorem fold_okZ (lim : Nat) : ∀ (bs : List (List Pr)) (z : List Pr × List (List Pr)), LsOk (z.1 :: z.2) → LsOk ((bs.foldl (fun z b => doZ lim z.1 z.2 b) z).1 :: (bs.foldl (fun z b => doZ lim z.1 z.2 b) z).2)
  | [], z, h => h
  | b :: bs, z, h => by
    rw [List.foldl_cons]
    refine fold_okZ lim bs _ ?_
    unfold doZ
    split
    · rename_i hk
      exact runB_ok lim b _ _ (doK_len hk).2.1 h
    · exact h
theorem stZ_ok (lim : Nat) (bs : List (List Pr)) : LsOk ((stZ lim bs).1 :: (stZ lim bs).2) := fold_okZ lim bs ([], []) (LsOk.cons ⟨Asc.nil, by simp⟩ LsOk.nil)
theorem doK_one (lim : Nat) (Y : List Pr) (T : List (List Pr)) (p : Pr) (h : p.gone = false) : doK lim Y T [p] = putK Y p := by
  rw [doK_run (by simp) (by intro q hq; rw [List.mem_singleton] at hq; subst hq; unfold badP; rw [h]; rfl)]
  unfold runK
  split
  · rename_i hk; rw [hk]; rfl
  · rfl
theorem put_freeZ {Y : List Pr} {p : Pr} (hY : Y.length < 60) (hk : keyK p.key = 0) (hv : p.value.size ≤ 200) : putK Y p = 0 := by
  unfold putK
  rw [if_neg (not_not_intro hk), if_neg]
  rintro (h1 | ⟨_, h1⟩)
  · omega
  · omega
theorem rd_one (w : World) (k v : ByteArray) (g : Bool) : Rd (w.alloc (.cells #[.string k, .string v, .bool g] 31)) 3 (some ⟨w.heap.size, 0, none⟩) 1 1 ([(⟨k, v, g⟩ : Pr)].flatMap Pr.cells) :=
  ⟨rfl, Nat.le_refl _, fun _ => ⟨_, rfl, by simp, fun j u hu => news_new w 31 _ _ rfl j u hu⟩⟩
theorem beside {w0 w w' : World} {b : Nat} (e : Ext w0 w) (hb0 : w0.heap.size ≤ b) (k : Chg w w' (fun g => g = b)) : Ext w0 w' := ((e.chg _).trans k fun g _ hg => hg).ext fun g hg hS => by
  have h1 : g = b := hS
  omega
theorem put_one (w0 w : World) (b lim : Nat) (z z' : WS) (k v : ByteArray) (g : Bool) (c : Int) (h : WG w b lim z) (e : Ext w0 w) (hb0 : w0.heap.size ≤ b) (hm : z.few) (hP : PowG w0) (hz : z.put lim [⟨k, v, g⟩] = (c, z')) :
    Calls Tryz.prog 7 #[.pointer (some ⟨b, 0, none⟩), .slice (some ⟨w.heap.size, 0, none⟩) 1 1] (w.alloc (.cells #[.string k, .string v, .bool g] 31)) fun e w' => e = .returned (errR c) ∧ WG w' b lim z' ∧ Ext w0 w' := by
  have ea : Ext w (w.alloc (.cells #[.string k, .string v, .bool g] 31)) := (Ext.refl _).alloc _
  refine (WPutF_any b lim z _ 1 1 [⟨k, v, g⟩] _ (h.ext ea) (rd_one w k v g) rfl (by decide) hm (hP.ext (e.trans ea))).mono ?_
  rintro _ w' ⟨rfl, hw, k⟩
  rw [hz] at hw ⊢
  exact ⟨rfl, hw, beside (e.trans ea) hb0 k⟩
theorem sync_one (w0 w : World) (b lim : Nat) (z z' : WS) (c : Int) (h : WG w b lim z) (e : Ext w0 w) (hb0 : w0.heap.size ≤ b) (hz : z.sync = (c, z')) :
    Calls Tryz.prog 8 #[.pointer (some ⟨b, 0, none⟩)] w fun e w' => e = .returned (errR c) ∧ WG w' b lim z' ∧ Ext w0 w' := by
  refine (WSync_any h).mono ?_
  rintro _ w' ⟨rfl, hw, k⟩
  rw [hz] at hw ⊢
  exact ⟨rfl, hw, beside e hb0 k⟩
theorem crash_one (w0 w : World) (b lim : Nat) (z : WS) (keep : Int) (h : WG w b lim z) (e : Ext w0 w) (hb0 : w0.heap.size ≤ b) (hm : z.few) (gk : igood keep) (hG : StrG w0) (hM : MaxG w0) :
    Calls Tryz.prog 9 #[.pointer (some ⟨b, 0, none⟩), .int .i64 keep] w fun e w' => (∃ v, e = .returned v) ∧ WG w' b lim (z.crash keep) ∧ Ext w0 w' := by
  refine (WCrashF_any w0 b lim z keep w h e hb0 hm (igood_bd gk).1 (igood_bd gk).2 hG hM).mono ?_
  rintro e' w' ⟨he, hw, k⟩
  exact ⟨he, hw, beside e hb0 k⟩
end Go.Proofs.YtcgfdhgceokcnaaGreatDoor

namespace Go.Proofs.YtcgfdhgceokcnaaGreatDoor
open Go.RowKit
set_option linter.unusedVariables false
attribute [local go_sem ↓] Go.wp_at_zero Go.wp_at_succ

/-- which fault an entry has -/
def Ent.ok (e : Ent) : Prop := 0 ≤ e.time ∧ e.time ≤ 1000000 ∧ e.data.size ≤ 200
def Ent.err (e : Ent) : Int := if e.time < 0 ∨ 1000000 < e.time then 1 else 4
instance (e : Ent) : Decidable e.ok := by unfold Ent.ok; infer_instance

theorem eCheck_ok (t : Int) (s : ByteArray) (w : World) (h : (⟨t, s⟩ : Ent).ok) :
    Calls Tryz.prog 51 #[.agg #[.int .i64 t, .string s]] w fun e w' => e = .returned .nilIface ∧ Ext w w' := by
  obtain ⟨h0, h1, h2⟩ := h
  dsimp only at h0 h1 h2
  go_enter Tryz.func51, Tryz.ntmps51
  go_wp2
  go_ret
  exact ⟨rfl, by (repeat (with_reducible first | exact Ext.refl _ | assumption | refine Ext.drew ?_ | refine Ext.drewN ?_ _ | refine Ext.alloc ?_ _ | refine Ext.trans ?_ (by with_reducible assumption)))⟩
theorem eCheck_bad (t : Int) (s : ByteArray) (w : World) (h : ¬ (⟨t, s⟩ : Ent).ok) :
    Calls Tryz.prog 51 #[.agg #[.int .i64 t, .string s]] w fun e w' => e = .returned (errV (⟨t, s⟩ : Ent).err) ∧ Ext w w' := by
  have h' : (t < 0) ∨ (0 ≤ t ∧ 1000000 < t) ∨ (0 ≤ t ∧ t ≤ 1000000 ∧ 200 < s.size) := by
    unfold Ent.ok at h
    dsimp only at h
    omega
  clear h
  rcases h' with h | ⟨h, h'⟩ | ⟨h, h', h''⟩
  · have HE : Hid ((⟨t, s⟩ : Ent).err = 1) := by show Ent.err _ = 1; unfold Ent.err; rw [if_pos (by dsimp only; omega)]
    go_enter Tryz.func51, Tryz.ntmps51
    go_wp2
    go_ret
    exact ⟨by rw [HE.out]; rfl, by (repeat (with_reducible first | exact Ext.refl _ | assumption | refine Ext.drew ?_ | refine Ext.drewN ?_ _ | refine Ext.alloc ?_ _ | refine Ext.trans ?_ (by with_reducible assumption)))⟩
  · have HE : Hid ((⟨t, s⟩ : Ent).err = 1) := by show Ent.err _ = 1; unfold Ent.err; rw [if_pos (by dsimp only; omega)]
    go_enter Tryz.func51, Tryz.ntmps51
    go_wp2
    go_ret
    exact ⟨by rw [HE.out]; rfl, by (repeat (with_reducible first | exact Ext.refl _ | assumption | refine Ext.drew ?_ | refine Ext.drewN ?_ _ | refine Ext.alloc ?_ _ | refine Ext.trans ?_ (by with_reducible assumption)))⟩
  · have HE : Hid ((⟨t, s⟩ : Ent).err = 4) := by show Ent.err _ = 4; unfold Ent.err; rw [if_neg (by dsimp only; omega)]
    go_enter Tryz.func51, Tryz.ntmps51
    go_wp2
    go_ret
    exact ⟨by rw [HE.out]; rfl, by (repeat (with_reducible first | exact Ext.refl _ | assumption | refine Ext.drew ?_ | refine Ext.drewN ?_ _ | refine Ext.alloc ?_ _ | refine Ext.trans ?_ (by with_reducible assumption)))⟩

/-- an entry's bytes -/
def entH (t : Int) (n : Nat) : List UInt8 := [byteOf (t / 65536 % 256), byteOf (t / 256 % 256), byteOf (t % 256), byteOf ((n : Int) % 256)]
def entB (t : Int) (l : List UInt8) : List UInt8 := entH t l.length ++ l
def Ent.bytes (e : Ent) : ByteArray := (⟨(entH e.time e.data.size).toArray⟩ : ByteArray) ++ e.data
theorem Ent.bytes_list (e : Ent) : e.bytes.data.toList = entB e.time e.data.data.toList := by unfold Ent.bytes; rw [toList_cat]; rfl
theorem Ent.bytes_size (e : Ent) : e.bytes.size = 4 + e.data.size := by unfold Ent.bytes; rw [size_cat]; rfl
theorem extract_tail (l : List UInt8) (s : ByteArray) (k : Nat) (hk : l.length = k) : ((⟨l.toArray⟩ : ByteArray) ++ s).extract k (k + s.size) = s := by
  subst hk
  have h := ByteArray.extract_append_eq_right (a := (⟨l.toArray⟩ : ByteArray)) (b := s) (i := l.length) (j := l.length + s.size) rfl rfl
  exact h
theorem Ent.bytes_tail (e : Ent) : e.bytes.extract 4 (4 + e.data.size) = e.data := extract_tail _ _ 4 rfl
set_option maxRecDepth 100000 in
theorem eBytes_any (t : Int) (s : ByteArray) (w : World) (h0 : 0 ≤ t) (h2 : s.size ≤ 140737488355328) :
    Calls Tryz.prog 50 #[.agg #[.int .i64 t, .string s]] w fun e w' => e = .returned (.string (⟨t, s⟩ : Ent).bytes) ∧ Ext w w' := by
  have hk := conv4
  go_enter Tryz.func50, Tryz.ntmps50
  go_wp2
  go_ret
  exact ⟨rfl, by (repeat (with_reducible first | exact Ext.refl _ | assumption | refine Ext.drew ?_ | refine Ext.drewN ?_ _ | refine Ext.alloc ?_ _ | refine Ext.trans ?_ (by with_reducible assumption)))⟩

set_option maxRecDepth 100000 in
theorem Encode_ok (t : Int) (s : ByteArray) (w : World) (h : (⟨t, s⟩ : Ent).ok) :
    Calls Tryz.prog 25 #[.agg #[.int .i64 t, .string s]] w fun e w' => e = .returned (.tuple #[.string (⟨t, s⟩ : Ent).bytes, .nilIface]) ∧ Ext w w' := by
  obtain ⟨h0, h1, h2⟩ := id h
  dsimp only at h0 h1 h2
  have HH := Lib.hid h
  clear h
  go_enter Tryz.func25, Tryz.ntmps25
  go_wp2_with fail
  refine (eCheck_ok _ _ _ HH.out).mono ?_
  rintro e w1 ⟨rfl, hb1⟩
  have B1 : Bk w1 w.heap.size 60 #[.int .i64 t, .string s] := by (repeat (with_reducible first | assumption | (refine Bk.at_ _ _ _ _ ?_; simp; done) | refine Bk.drew ?_ | refine Bk.drewN ?_ _ | refine Bk.alloc ?_ _ | refine Bk.ext ?_ (by with_reducible assumption)))
  have q := B1.cell
  go_wp2_with fail
  refine (eBytes_any _ _ _ h0 (by omega)).mono ?_
  rintro e w2 ⟨rfl, hb2⟩
  clear q
  go_wp2_with fail
  go_ret2
  exact ⟨rfl, by (repeat (with_reducible first | exact Ext.refl _ | assumption | refine Ext.drew ?_ | refine Ext.drewN ?_ _ | refine Ext.alloc ?_ _ | refine Ext.trans ?_ (by with_reducible assumption)))⟩
set_option maxRecDepth 100000 in
theorem Encode_bad (t : Int) (s : ByteArray) (w : World) (h : ¬ (⟨t, s⟩ : Ent).ok) :
    Calls Tryz.prog 25 #[.agg #[.int .i64 t, .string s]] w fun e w' => e = .returned (.tuple #[.string ⟨#[]⟩, errV (⟨t, s⟩ : Ent).err]) ∧ Ext w w' := by
  have HH := Lib.hid h
  clear h
  go_enter Tryz.func25, Tryz.ntmps25
  go_wp2_with fail
  refine (eCheck_bad _ _ _ HH.out).mono ?_
  rintro e w1 ⟨rfl, hb1⟩
  simp only [errV]
  go_wp2_with fail
  go_ret2
  exact ⟨rfl, by (repeat (with_reducible first | exact Ext.refl _ | assumption | refine Ext.drew ?_ | refine Ext.drewN ?_ _ | refine Ext.alloc ?_ _ | refine Ext.trans ?_ (by with_reducible assumption)))⟩
end Go.Proofs.YtcgfdhgceokcnaaGreatDoor

namespace Go.Proofs.YtcgfdhgceokcnaaGreatDoor
open Go.RowKit
set_option linter.unusedVariables false
attribute [local go_sem ↓] Go.wp_at_zero Go.wp_at_succ

theorem info_ent : (Tryz.prog.info? 60).map (fun i => (i.zero, i.size, i.bytes)) = some (some (.agg #[.int .i64 0, .string ⟨#[]⟩]), 2, 24) := by kernel_rfl
theorem oneE (e : Ent) : ∀ u ∈ e.cells, u.oneCell' = true := by intro u hu; simp [Ent.cells] at hu; rcases hu with rfl | rfl <;> rfl
theorem flat_nth {α : Type} {f : α → List Value} {k : Nat} (hf : ∀ x, (f x).length = k) : ∀ (l : List α) (j : Nat) (x : α) (i : Nat), l[j]? = some x → i < k → (l.flatMap f)[j * k + i]? = (f x)[i]?
  | [], j, x, i, h, _ => by simp at h
  | y :: l, 0, x, i, h, hi => by
    obtain rfl : y = x := by simpa using h
    rw [List.flatMap_cons, Nat.zero_mul, Nat.zero_add, List.getElem?_append_left (by rw [hf]; exact hi)]
  | y :: l, j + 1, x, i, h, hi => by
    rw [List.flatMap_cons, List.getElem?_append_right (by rw [hf, Nat.succ_mul]; omega), hf, show (j + 1) * k + i - k = j * k + i by rw [Nat.succ_mul]; omega]
    exact flat_nth hf l j x i (by simpa using h) hi
theorem Rd.getE {w : World} {A : Option Addr} {n c : Nat} {es : List Ent} (h : Rd w 2 A n c (es.flatMap Ent.cells)) {j : Nat} {e : Ent} (he : es[j]? = some e) :
    ∃ ad, A = some ad ∧ ad.block < w.heap.size ∧ w.cell? (ad.add (j * 2)) = some (.int .i64 e.time) ∧ w.cell? ⟨(ad.add (j * 2)).block, (ad.add (j * 2)).off + 1, none⟩ = some (.string e.data) := by
  have h0 := flat_nth (f := Ent.cells) (k := 2) (fun _ => rfl) es j e 0 he (by omega)
  have h1 := flat_nth (f := Ent.cells) (k := 2) (fun _ => rfl) es j e 1 he (by omega)
  obtain ⟨ad, e1, hb, hc0⟩ := h.at_ h0
  obtain ⟨ad', e2, _, hc1⟩ := h.at_ h1
  rw [e1] at e2
  obtain rfl : ad = ad' := by injection e2
  rw [← add_add'] at hc1
  exact ⟨ad, e1, hb, hc0, hc1⟩
theorem Rd.lenE {w : World} {A : Option Addr} {n c : Nat} {es : List Ent} (h : Rd w 2 A n c (es.flatMap Ent.cells)) : es.length = n := by
  have := h.1
  rw [flat_len Ent.cells 2 (fun _ => rfl)] at this
  omega

def entsOk (es : List Ent) : Prop := es.length ≤ 200 ∧ ∀ e ∈ es, e.ok

set_option maxRecDepth 100000 in
theorem ready_ok (A : Option Addr) (n c : Nat) (es : List Ent) (w : World) (hr : Rd w 2 A n c (es.flatMap Ent.cells)) (hm : c ≤ maxLen) (hk : entsOk es) :
    Calls Tryz.prog 48 #[.slice A n c] w fun e w' => e = .returned .nilIface ∧ Ext w w' := by
  have hx := hr.lenE
  have hn : n ≤ 200 := by have := hk.1; omega
  have HX := Lib.hid hx
  have HK := Lib.hid hk.2
  have hl := hr.2.1
  clear hx
  go_enter Tryz.func48, Tryz.ntmps48
  go_wp2_with fail
  go_loopw [12] (fun x wr => ∃ j : Nat, x = .int .i64 j ∧ j ≤ n ∧ Ext w wr) (fun x _ => n - (intOf x).toNat)
  case atStart => exact ⟨0, rfl, Nat.zero_le _, by (repeat (with_reducible first | exact Ext.refl _ | assumption | refine Ext.drew ?_ | refine Ext.drewN ?_ _ | refine Ext.alloc ?_ _ | refine Ext.trans ?_ (by with_reducible assumption)))⟩
  case round =>
    obtain ⟨j, rfl, hj, hbw⟩ := hrel
    by_cases hc : j < n
    · have hgj := List.getElem?_eq_getElem (l := es) (i := j) (by rw [HX.out]; exact hc)
      have hok := HK.out _ (List.mem_of_getElem? hgj)
      obtain ⟨ad, rfl, hb, c0, c1⟩ := (hr.ext hbw).getE hgj
      generalize es[j]'(by rw [HX.out]; exact hc) = e at *
      have hbk : ad.block < wr.heap.size := hb
      go_wp2_with fail
      refine (eCheck_ok _ _ _ hok).mono ?_
      rintro _ w1 ⟨rfl, hb1⟩
      go_wp2_with fail
      go_roundw
      case rel => exact ⟨j + 1, by go_num, by omega, by (repeat (with_reducible first | exact Ext.refl _ | assumption | refine Ext.drew ?_ | refine Ext.drewN ?_ _ | refine Ext.alloc ?_ _ | refine Ext.trans ?_ (by with_reducible assumption)))⟩
      case measure => simp [intOf]; omega
    · go_wp2_with fail
      go_ret
      exact ⟨rfl, by (repeat (with_reducible first | exact Ext.refl _ | assumption | refine Ext.drew ?_ | refine Ext.drewN ?_ _ | refine Ext.alloc ?_ _ | refine Ext.trans ?_ (by with_reducible assumption)))⟩

/-- the fault of some -/
def firstErr : List Ent → Int
  | [] => 0
  | e :: l => if e.ok then firstErr l else e.err
def entsErr (es : List Ent) : Int := if 200 < es.length then 4 else firstErr es
theorem Ent.err_ne (e : Ent) : e.err ≠ 0 := by unfold Ent.err; split <;> decide
theorem firstErr_ok {es : List Ent} (h : ∀ e ∈ es, e.ok) : firstErr es = 0 := by
  induction es with
  | nil => rfl
  | cons x es ih => rw [firstErr, if_pos (h x (by simp)), ih fun e he => h e (by simp [he])]
theorem entsErr_ok {es : List Ent} (h : entsOk es) : entsErr es = 0 := by
  unfold entsErr; rw [if_neg (by have := h.1; omega), firstErr_ok h.2]
theorem first_bad {es : List Ent} (h : ¬ ∀ e ∈ es, e.ok) : ∃ (j : Nat) (e : Ent), es[j]? = some e ∧ ¬ e.ok ∧ (∀ (i : Nat) (f : Ent), i < j → es[i]? = some f → f.ok) ∧ firstErr es = e.err := by
  induction es with
  | nil => exact absurd (fun e he => by simp at he) h
  | cons x es ih =>
    by_cases hx : x.ok
    · obtain ⟨j, e, h1, h2, h3, h4⟩ := ih fun hh => h fun e he => by
        rcases List.mem_cons.1 he with rfl | he
        · exact hx
        · exact hh e he
      refine ⟨j + 1, e, by simpa using h1, h2, fun i f hi hf => ?_, by rw [firstErr, if_pos hx, h4]⟩
      rcases i with _ | i
      · simp at hf; subst hf; exact hx
      · exact h3 i f (by omega) (by simpa using hf)
    · exact ⟨0, x, rfl, hx, fun i f hi => absurd hi (by omega), by rw [firstErr, if_neg hx]⟩
theorem entsErr_bad {es : List Ent} (h : ¬ entsOk es) : entsErr es ≠ 0 := by
  unfold entsErr
  by_cases hl : 200 < es.length
  · rw [if_pos hl]; decide
  · rw [if_neg hl]
    obtain ⟨_, e, _, _, _, h4⟩ := first_bad (es := es) fun hh => h ⟨by omega, hh⟩
    rw [h4]; exact e.err_ne

set_option maxRecDepth 100000 in
theorem ready_bad (A : Option Addr) (n c : Nat) (es : List Ent) (w : World) (hr : Rd w 2 A n c (es.flatMap Ent.cells)) (hm : c ≤ maxLen) (hk : ¬ entsOk es) :
    Calls Tryz.prog 48 #[.slice A n c] w fun e w' => e = .returned (errV (entsErr es)) ∧ Ext w w' := by
  have hx := hr.lenE
  by_cases hn : n ≤ 200
  · obtain ⟨j0, e0, hj0, hbad, hbef, hfe⟩ := first_bad (es := es) fun h => hk ⟨by omega, h⟩
    have HE : Hid (Ending.returned (errV e0.err) = Ending.returned (errV (entsErr es))) := by
      show _ = _
      unfold entsErr
      rw [if_neg (by omega), hfe]
    clear hfe
    have hjl : j0 < n := by have := (List.getElem?_eq_some_iff.1 hj0).1; omega
    have HX := Lib.hid hx
    have HB := Lib.hid hbef
    have HJ := Lib.hid hj0
    have HBAD := Lib.hid hbad
    have hl := hr.2.1
    clear hx hbef hj0 hk hbad
    go_enter Tryz.func48, Tryz.ntmps48
    go_wp2_with fail
    go_loopw [12] (fun x wr => ∃ j : Nat, x = .int .i64 j ∧ j ≤ j0 ∧ Ext w wr) (fun x _ => n - (intOf x).toNat)
    case atStart => exact ⟨0, rfl, Nat.zero_le _, by (repeat (with_reducible first | exact Ext.refl _ | assumption | refine Ext.drew ?_ | refine Ext.drewN ?_ _ | refine Ext.alloc ?_ _ | refine Ext.trans ?_ (by with_reducible assumption)))⟩
    case round =>
      obtain ⟨j, rfl, hj, hbw⟩ := hrel
      by_cases hc : j < j0
      · have hgj := List.getElem?_eq_getElem (l := es) (i := j) (by rw [HX.out]; omega)
        have hok := HB.out j _ hc hgj
        obtain ⟨ad, rfl, hb, c0, c1⟩ := (hr.ext hbw).getE hgj
        generalize es[j]'(by rw [HX.out]; omega) = e at *
        have hjn : j < n := by omega
        go_wp2_with fail
        refine (eCheck_ok _ _ _ hok).mono ?_
        rintro _ w1 ⟨rfl, hb1⟩
        go_wp2_with fail
        go_roundw
        case rel => exact ⟨j + 1, by go_num, by omega, by (repeat (with_reducible first | exact Ext.refl _ | assumption | refine Ext.drew ?_ | refine Ext.drewN ?_ _ | refine Ext.alloc ?_ _ | refine Ext.trans ?_ (by with_reducible assumption)))⟩
        case measure => simp [intOf]; omega
      · obtain rfl : j = j0 := by omega
        obtain ⟨ad, rfl, hb, c0, c1⟩ := (hr.ext hbw).getE HJ.out
        go_wp2_with fail
        refine (eCheck_bad _ _ _ HBAD.out).mono ?_
        rintro _ w1 ⟨rfl, hb1⟩
        simp only [errV]
        go_wp2_with fail
        go_ret
        exact ⟨HE.out, by (repeat (with_reducible first | exact Ext.refl _ | assumption | refine Ext.drew ?_ | refine Ext.drewN ?_ _ | refine Ext.alloc ?_ _ | refine Ext.trans ?_ (by with_reducible assumption)))⟩
  · have HE : Hid (Ending.returned (errV 4) = Ending.returned (errV (entsErr es))) := by
      show _ = _
      unfold entsErr
      rw [if_pos (by omega)]
    clear hx
    go_enter Tryz.func48, Tryz.ntmps48
    go_wp2_with fail
    go_ret
    exact ⟨HE.out, by (repeat (with_reducible first | exact Ext.refl _ | assumption | refine Ext.drew ?_ | refine Ext.drewN ?_ _ | refine Ext.alloc ?_ _ | refine Ext.trans ?_ (by with_reducible assumption)))⟩

theorem info_intL : (Tryz.prog.info? 3).map (fun i => (i.zero, i.size, i.bytes)) = some (some (.int .i64 0), 1, 8) := by kernel_rfl
/-- an entry's leaf -/
def Ent.leaf (e : Ent) : Int := leafL e.bytes.data.toList
theorem oneL (z : Int) : ∀ u ∈ [Value.int .i64 z], u.oneCell' = true := by intro u hu; simp at hu; subst hu; rfl

set_option maxRecDepth 100000 in
set_option maxHeartbeats 1000000 in
theorem Leafs_ok (A : Option Addr) (n c : Nat) (es : List Ent) (w : World) (hr : Rd w 2 A n c (es.flatMap Ent.cells)) (hm : c ≤ maxLen) (hk : entsOk es) :
    Calls Tryz.prog 24 #[.slice A n c] w fun e w' => (∃ v, e = .returned (.tuple #[v, .nilIface]) ∧ w'.ownsRow w.heap.size 3 1 v es.length ((es.map Ent.leaf).map (Value.int .i64))) ∧ Ext w w' := by
  have hx := hr.lenE
  have hn : n ≤ 200 := by have := hk.1; omega
  have HX := Lib.hid hx
  have HK := Lib.hid hk
  have hl := hr.2.1
  clear hx
  obtain ⟨i0, hi0, hz0, hz1, hz2⟩ := info_parts info_intL
  go_enter Tryz.func24, Tryz.ntmps24
  go_wp2_with fail
  refine (ready_ok A n c es _ hr hm HK.out).mono ?_
  rintro _ w0 ⟨rfl, hb0⟩
  go_wp2_with fail
  go_loopw [5, 15] (fun v x wr => ∃ j : Nat, x = .int .i64 j ∧ j ≤ n ∧ Ext w wr ∧ Hid (wr.ownsRow w.heap.size 3 1 v j (((es.take j).map Ent.leaf).map (Value.int .i64)))) (fun _ x _ => n - (intOf x).toNat)
  case atStart => exact ⟨0, rfl, Nat.zero_le _, by (repeat (with_reducible first | exact Ext.refl _ | assumption | refine Ext.drew ?_ | refine Ext.drewN ?_ _ | refine Ext.alloc ?_ _ | refine Ext.trans ?_ (by with_reducible assumption))), own_nil _ _ _ _⟩
  case round =>
    obtain ⟨j, rfl, hj, hbw, hown⟩ := hrel
    by_cases hc : j < n
    · have hgj := List.getElem?_eq_getElem (l := es) (i := j) (by rw [HX.out]; exact hc)
      have hok := HK.out.2 _ (List.mem_of_getElem? hgj)
      obtain ⟨ad, rfl, hb, c0, c1⟩ := (hr.ext hbw).getE hgj
      have HT : Hid ((es.take (j + 1)).map Ent.leaf = (es.take j).map Ent.leaf ++ [(es[j]'(by rw [HX.out]; exact hc)).leaf]) := by
        show _ = _
        rw [List.take_succ_eq_append_getElem (by rw [HX.out]; exact hc), List.map_append]; rfl
      generalize es[j]'(by rw [HX.out]; exact hc) = e at *
      obtain ⟨k0, k1, k2⟩ := hok
      have hsz := e.bytes_size
      have HLF : Hid (leafL e.bytes.data.toList = e.leaf) := rfl
      have hbw0 := hbw.size
      go_wp2_with fail
      refine (eBytes_any _ _ _ k0 (by omega)).mono ?_
      rintro _ w1 ⟨rfl, hb1⟩
      go_wp2_with fail
      refine (Leaf_any e.bytes _ (by omega)).mono ?_
      rintro _ w2 ⟨rfl, hb2⟩
      rw [HLF.out]
      have hs1 := hb1.size
      have hs2 := hb2.size
      go_wp2_with (at_builtin; refine wpl_app (by rfl) _ _ _ (by rfl) w.heap.size 3 i0 _ 1 8 Tryz.underlying23 hi0 hz0 hz1 hz2 rfl (by omega) u5 _ _ (by rfl) ((own_ext hown.out (by (repeat (with_reducible first | exact Ext.refl _ | assumption | refine Ext.drew ?_ | refine Ext.drewN ?_ _ | refine Ext.alloc ?_ _ | refine Ext.trans ?_ (by with_reducible assumption))))).alloc _) w2.heap.size 1 [.int .i64 e.leaf] rfl (by rfl) (news_new w2 _ _ _ rfl) (oneL _) (by omega) (by omega) (by simp at hs1 ⊢; omega) ?_; intro g cap w3 own3 hext3)
      go_roundw
      case rel => exact ⟨j + 1, by go_num, by omega, hext3 _ (Nat.le_refl _) (by (repeat (with_reducible first | exact Ext.refl _ | assumption | refine Ext.drew ?_ | refine Ext.drewN ?_ _ | refine Ext.alloc ?_ _ | refine Ext.trans ?_ (by with_reducible assumption)))), by rw [HT.out, List.map_append]; exact own3⟩
      case measure => simp [intOf]; omega
    · obtain rfl : j = n := by omega
      have hall : es.take j = es := List.take_of_length_le (by rw [HX.out]; omega)
      have HO : Hid (wr.ownsRow w.heap.size 3 1 u5 es.length ((es.map Ent.leaf).map (Value.int .i64))) := by have := hown.out; rw [hall] at this; rw [HX.out]; exact this
      clear hall
      go_wp2_with fail
      go_ret2
      exact ⟨⟨_, rfl, HO.out⟩, by (repeat (with_reducible first | exact Ext.refl _ | assumption | refine Ext.drew ?_ | refine Ext.drewN ?_ _ | refine Ext.alloc ?_ _ | refine Ext.trans ?_ (by with_reducible assumption)))⟩
set_option maxRecDepth 100000 in
theorem Leafs_bad (A : Option Addr) (n c : Nat) (es : List Ent) (w : World) (hr : Rd w 2 A n c (es.flatMap Ent.cells)) (hm : c ≤ maxLen) (hk : ¬ entsOk es) :
    Calls Tryz.prog 24 #[.slice A n c] w fun e w' => e = .returned (.tuple #[.slice none 0 0, errV (entsErr es)]) ∧ Ext w w' := by
  go_enter Tryz.func24, Tryz.ntmps24
  go_wp2_with fail
  refine (ready_bad A n c es _ hr hm hk).mono ?_
  rintro _ w0 ⟨rfl, hb0⟩
  simp only [errV]
  go_wp2_with fail
  go_ret2
  exact ⟨rfl, by (repeat (with_reducible first | exact Ext.refl _ | assumption | refine Ext.drew ?_ | refine Ext.drewN ?_ _ | refine Ext.alloc ?_ _ | refine Ext.trans ?_ (by with_reducible assumption)))⟩
end Go.Proofs.YtcgfdhgceokcnaaGreatDoor
