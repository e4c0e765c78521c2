/- The references' entries: many. -/
import Derived.Test.YtgfkalhpefjenaaDoorRE4
namespace Go.Proofs.YtgfkalhpefjenaaDoor
open Go.RowKit Go.WideShapes
set_option linter.unusedVariables false
attribute [local go_sem ↓] Go.wp_at_zero Go.wp_at_succ

theorem first_step {es : List Ent} {j : Nat} {e : Ent} (h : es[j]? = some e) : firstErr (es.drop j) = if encK e = 0 then firstErr (es.drop (j + 1)) else encK e := by
  obtain ⟨hl, rfl⟩ := List.getElem?_eq_some_iff.1 h
  rw [List.drop_eq_getElem_cons hl, firstErr]
  by_cases hk : (es[j]).ok
  · rw [if_pos hk, if_pos (encK_zero.2 hk)]
  · rw [if_neg hk, if_neg (fun hh => hk (encK_zero.1 hh))]
    unfold encK; rw [if_neg hk]
theorem first_end {es : List Ent} : firstErr (es.drop es.length) = 0 := by rw [List.drop_length]; rfl

set_option maxRecDepth 100000 in
theorem REntries_any (A : Option Addr) (n c : Nat) (es : List Ent) (w : World) (hr : Rd w 2 A n c (es.flatMap Ent.cells)) (hm : c ≤ maxLen) :
    Calls Tryd.prog 40 #[.slice A n c] w fun e w' => e = .returned (.int .i64 (entsErr es)) ∧ Ext w w' := by
  have hx := hr.lenE
  have hlc := hr.2.1
  by_cases h2 : 200 < n
  · have HF : Hid (entsErr es = 4) := by show _ = _; unfold entsErr; rw [if_pos (by omega)]
    clear hx
    go_enter Tryd.func40, Tryd.ntmps40
    go_wp2_with fail
    go_ret
    exact ⟨ret_int HF.out.symm, by (repeat (with_reducible first | exact Ext.refl _ | assumption | refine Ext.drew ?_ | refine Ext.drewN ?_ _ | refine Ext.alloc ?_ _ | refine Ext.trans ?_ (by with_reducible assumption)))⟩
  · have HX := Lib.hid hx
    have HF : Hid (entsErr es = firstErr es) := by show _ = _; unfold entsErr; rw [if_neg (by omega)]
    clear hx
    go_enter Tryd.func40, Tryd.ntmps40
    go_wp2_with fail
    go_loopw [3] (fun x wr => ∃ j : Nat, x = .int .i64 j ∧ j ≤ n ∧ Ext w wr ∧ Hid (firstErr (es.drop j) = firstErr es)) (fun x _ => n - (intOf x).toNat)
    case atStart => exact ⟨0, rfl, Nat.zero_le _, by (repeat (with_reducible first | exact Ext.refl _ | assumption | refine Ext.drew ?_ | refine Ext.drewN ?_ _ | refine Ext.alloc ?_ _ | refine Ext.trans ?_ (by with_reducible assumption))), rfl⟩
    case round =>
      obtain ⟨j, rfl, hj, hbw, HJ⟩ := hrel
      by_cases hc : j < n
      · have hgj := List.getElem?_eq_getElem (l := es) (i := j) (by rw [HX.out]; exact hc)
        obtain ⟨ad, rfl, hb, c0, c1⟩ := (hr.ext hbw).getE hgj
        have HS := Lib.hid (first_step hgj)
        generalize es[j]'(by rw [HX.out]; exact hc) = e at *
        clear hgj
        obtain ⟨kk, HEK⟩ : ∃ kk, Hid (encK e = kk) := ⟨_, rfl⟩
        go_wp2_with fail
        refine (REntry_any _ _ _).mono ?_
        rw [show encK ⟨e.time, e.data⟩ = kk from HEK.out]
        rintro _ w1 ⟨rfl, hb1⟩
        have HS2 := Lib.hid (HJ.out.symm.trans HS.out)
        rw [HEK.out] at HS2
        by_cases hk : kk = 0
        · have HS3 : Hid (firstErr (es.drop (j + 1)) = firstErr es) := (HS2.out.trans (if_pos hk)).symm
          clear HS HS2 HEK
          subst hk
          go_wp2_with fail
          go_roundw
          case rel => exact ⟨j + 1, by go_num, by omega, by (repeat (with_reducible first | exact Ext.refl _ | assumption | refine Ext.drew ?_ | refine Ext.drewN ?_ _ | refine Ext.alloc ?_ _ | refine Ext.trans ?_ (by with_reducible assumption))), HS3.out⟩
          case measure => simp [intOf]; omega
        · have HS3 : Hid (entsErr es = kk) := (HF.out.trans HS2.out).trans (if_neg hk)
          clear HS HS2 HEK
          go_wp2_with fail
          go_ret
          exact ⟨ret_int HS3.out.symm, by (repeat (with_reducible first | exact Ext.refl _ | assumption | refine Ext.drew ?_ | refine Ext.drewN ?_ _ | refine Ext.alloc ?_ _ | refine Ext.trans ?_ (by with_reducible assumption)))⟩
      · obtain rfl : j = n := by omega
        have HS3 : Hid (entsErr es = 0) := by
          show _ = _
          rw [HF.out, ← HJ.out, ← HX.out, first_end]
        go_wp2_with fail
        go_ret
        exact ⟨ret_int HS3.out.symm, by (repeat (with_reducible first | exact Ext.refl _ | assumption | refine Ext.drew ?_ | refine Ext.drewN ?_ _ | refine Ext.alloc ?_ _ | refine Ext.trans ?_ (by with_reducible assumption)))⟩

set_option maxRecDepth 100000 in
theorem REntryLeafs_ok (A : Option Addr) (n c : Nat) (es : List Ent) (w : World) (hr : Rd w 2 A n c (es.flatMap Ent.cells)) (hm : c ≤ maxLen) (hk : entsOk es) :
    Calls Tryd.prog 41 #[.slice A n c] w fun e w' => (∃ v, e = .returned v ∧ OwnI w w' v (es.map Ent.leaf)) ∧ Ext w w' := by
  have hx := hr.lenE
  have hn : n ≤ 200 := by have := hk.1; omega
  have HX := Lib.hid hx
  have HK := Lib.hid hk.2
  have hl := hr.2.1
  clear hx
  obtain ⟨i0, hi0, hz0, hz1, hz2⟩ := info_parts info_int
  go_enter Tryd.func41, Tryd.ntmps41
  go_wp2_with fail
  go_loopw [3, 4] (fun v x wr => ∃ j : Nat, x = .int .i64 j ∧ j ≤ n ∧ Ext w wr ∧ Hid (OwnI w wr v ((es.take j).map Ent.leaf))) (fun _ x _ => n - (intOf x).toNat)
  case atStart => exact ⟨0, rfl, Nat.zero_le _, by (repeat (with_reducible first | exact Ext.refl _ | assumption | refine Ext.drew ?_ | refine Ext.drewN ?_ _ | refine Ext.alloc ?_ _ | refine Ext.trans ?_ (by with_reducible assumption))), own_nil _ _ _ _⟩
  case round =>
    obtain ⟨j, rfl, hj, hbw, hown⟩ := hrel
    by_cases hc : j < n
    · have hgj := List.getElem?_eq_getElem (l := es) (i := j) (by rw [HX.out]; exact hc)
      have hok := Lib.hid (HK.out _ (List.mem_of_getElem? hgj))
      obtain ⟨ad, rfl, hb, c0, c1⟩ := (hr.ext hbw).getE hgj
      have HT : Hid ((es.take (j + 1)).map Ent.leaf = (es.take j).map Ent.leaf ++ [(es[j]'(by rw [HX.out]; exact hc)).leaf]) := by
        show _ = _
        rw [List.take_succ_eq_append_getElem (by rw [HX.out]; exact hc), List.map_append]; rfl
      have hlen : ((es.take j).map Ent.leaf).length = j := by rw [List.length_map, List.length_take, HX.out, Nat.min_eq_left (by omega)]
      generalize es[j]'(by rw [HX.out]; exact hc) = e at *
      generalize (es.take j).map Ent.leaf = L at *
      have hsz := e.bytes_size
      have hds := hok.out.2.2
      have HLF : Hid (leafL e.bytes.data.toList = e.leaf) := rfl
      have hbw0 := hbw.size
      have hlL : L.length ≤ 4096 := by omega
      clear hgj hlen
      go_wp2_with fail
      refine (RBytes_any _ _ _ hok.out).mono ?_
      rintro _ w1 ⟨rfl, hb1⟩
      go_wp2_with fail
      refine (RLeaf_any e.bytes _ (by omega)).mono ?_
      rintro _ w2 ⟨rfl, hb2⟩
      rw [HLF.out]
      have hs1 := hb1.size
      have hs2 := hb2.size
      go_wp2_with (at_builtin; refine wpl_app (by rfl) _ _ _ (by rfl) w.heap.size 3 i0 _ 1 8 Tryd.underlying36 hi0 hz0 hz1 hz2 rfl (by omega) u3 _ _ (by rfl) ((own_ext hown.out (by (repeat (with_reducible first | exact Ext.refl _ | assumption | refine Ext.drew ?_ | refine Ext.drewN ?_ _ | refine Ext.alloc ?_ _ | refine Ext.trans ?_ (by with_reducible assumption))))).alloc _) w2.heap.size 1 [.int .i64 e.leaf] rfl (by rfl) (news_new w2 _ _ _ rfl) (oneL _) (by omega) (by omega) (by simp at hs1 ⊢; omega) ?_; intro g cap w3 own3 hext3)
      go_roundw
      case rel => exact ⟨j + 1, by go_num, by omega, hext3 _ (Nat.le_refl _) (by (repeat (with_reducible first | exact Ext.refl _ | assumption | refine Ext.drew ?_ | refine Ext.drewN ?_ _ | refine Ext.alloc ?_ _ | refine Ext.trans ?_ (by with_reducible assumption)))), OwnI.mk own3 (by rw [HT.out]; simp) (by rw [HT.out]; simp)⟩
      case measure => simp [intOf]; omega
    · obtain rfl : j = n := by omega
      have HT : Hid (es.take j = es) := by show _ = _; rw [List.take_of_length_le (by rw [HX.out]; exact Nat.le_refl _)]
      rw [HT.out] at hown
      go_wp2_with fail
      go_ret
      exact ⟨⟨_, rfl, hown.out⟩, by (repeat (with_reducible first | exact Ext.refl _ | assumption | refine Ext.drew ?_ | refine Ext.drewN ?_ _ | refine Ext.alloc ?_ _ | refine Ext.trans ?_ (by with_reducible assumption)))⟩

/-! ### the program's, both ways -/
def leafsE (es : List Ent) : List Int := if entsErr es = 0 then es.map Ent.leaf else []
theorem OwnI.none (w w' : World) : OwnI w w' (.slice none 0 0) [] := own_nil _ _ _ _
theorem Leafs_any (A : Option Addr) (n c : Nat) (es : List Ent) (w : World) (hr : Rd w 2 A n c (es.flatMap Ent.cells)) (hm : c ≤ maxLen) :
    Calls Tryd.prog 43 #[.slice A n c] w fun e w' => (∃ v, e = .returned (.tuple #[v, errR (entsErr es)]) ∧ OwnI w w' v (leafsE es)) ∧ Ext w w' := by
  by_cases h : entsOk es
  · refine (Leafs_ok A n c es w hr hm h).mono fun e w' hh => ⟨?_, hh.2⟩
    obtain ⟨⟨v, he, ho⟩, _⟩ := hh
    refine ⟨v, he.trans ?_, ?_⟩
    · rw [entsErr_ok h]; rfl
    · unfold leafsE; rw [if_pos (entsErr_ok h)]
      exact OwnI.mk ho (by simp) rfl
  · refine (Leafs_bad A n c es w hr hm h).mono fun e w' hh => ⟨?_, hh.2⟩
    refine ⟨.slice none 0 0, hh.1.trans ?_, ?_⟩
    · rw [errR_ne (entsErr_bad h)]
    · unfold leafsE; rw [if_neg (entsErr_bad h)]
      exact OwnI.none _ _

def unpL (s : ByteArray) : List Ent := (unpackE s).getD []
def unpB (s : ByteArray) : Bool := (unpackE s).isSome
def unpK (s : ByteArray) : Int := if unpB s then 0 else 2
theorem unp_some {s : ByteArray} {es : List Ent} (h : unpackE s = some es) : unpL s = es ∧ unpB s = true ∧ unpK s = 0 := by
  have hb : unpB s = true := by unfold unpB; rw [h]; rfl
  exact ⟨by unfold unpL; rw [h]; rfl, hb, by unfold unpK; rw [hb]; rfl⟩
theorem unp_none {s : ByteArray} (h : unpackE s = none) : unpL s = [] ∧ unpB s = false ∧ unpK s = 2 := by
  have hb : unpB s = false := by unfold unpB; rw [h]; rfl
  exact ⟨by unfold unpL; rw [h]; rfl, hb, by unfold unpK; rw [hb]; rfl⟩
theorem unpL_len (s : ByteArray) : (unpL s).length ≤ 200 := by
  cases h : unpackE s with
  | none => rw [(unp_none h).1]; exact Nat.zero_le _
  | some es => rw [(unp_some h).1]; exact (unpackE_some h).2.1
/-- entries of one's own -/
def OwnE (w w' : World) (v : Value) (es : List Ent) : Prop := w'.ownsRow w.heap.size 52 2 v es.length (es.flatMap Ent.cells)
theorem Unpack_tot (s : ByteArray) (w : World) (hs : s.size ≤ 140737488355328) :
    Calls Tryd.prog 45 #[.string s] w fun e w' => (∃ v, e = .returned (.tuple #[v, errR (unpK s)]) ∧ OwnE w w' v (unpL s)) ∧ Ext w w' := by
  refine (Unpack_any s w hs).mono fun e w' hh => ⟨?_, hh.2⟩
  have h1 := hh.1
  unfold UnpPost at h1
  cases h : unpackE s with
  | none =>
    obtain ⟨q1, q2, q3⟩ := unp_none h
    rw [h] at h1
    rw [q1, q3]
    exact ⟨_, h1, own_nil _ _ _ _⟩
  | some es =>
    obtain ⟨q1, q2, q3⟩ := unp_some h
    rw [h] at h1
    rw [q1, q3]
    exact h1
theorem RUnpack_tot (s : ByteArray) (w : World) (hs : s.size ≤ 140737488355328) :
    Calls Tryd.prog 44 #[.string s] w fun e w' => (∃ v, e = .returned (.tuple #[v, .bool (unpB s)]) ∧ (unpB s = true → OwnE w w' v (unpL s))) ∧ Ext w w' := by
  refine (RUnpack_any s w hs).mono fun e w' hh => ⟨?_, hh.2⟩
  have h1 := hh.1
  unfold RUnpPost at h1
  cases h : unpackE s with
  | none =>
    obtain ⟨q1, q2, q3⟩ := unp_none h
    rw [h] at h1
    rw [q1, q2]
    obtain ⟨v, hv⟩ := h1
    exact ⟨v, hv, fun hh => by cases hh⟩
  | some es =>
    obtain ⟨q1, q2, q3⟩ := unp_some h
    rw [h] at h1
    rw [q1, q2]
    obtain ⟨v, hv, ho⟩ := h1
    exact ⟨v, hv, fun _ => ho⟩
end Go.Proofs.YtgfkalhpefjenaaDoor
