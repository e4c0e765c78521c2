/- The references' entries: all walks. -/
import Derived.Test.YtgfkalhpefjenaaDoorRE3
namespace Go.Proofs.YtgfkalhpefjenaaDoor
open Go.RowKit Go.WideShapes
set_option linter.unusedVariables false
attribute [local go_sem ↓] Go.wp_at_zero Go.wp_at_succ

/-! ### Check, both ways -/
theorem eCheck_any (t : Int) (s : ByteArray) (w : World) :
    Calls Tryd.prog 35 #[.agg #[.int .i64 t, .string s]] w fun e w' => e = .returned (errR (encK ⟨t, s⟩)) ∧ Ext w w' := by
  by_cases h : (⟨t, s⟩ : Ent).ok
  · refine (eCheck_ok t s w h).mono fun e w' hh => ⟨hh.1.trans ?_, hh.2⟩
    unfold encK; rw [if_pos h]; rfl
  · refine (eCheck_bad t s w h).mono fun e w' hh => ⟨hh.1.trans ?_, hh.2⟩
    unfold encK; rw [if_neg h, errR_ne (Ent.err_ne _)]

/-! ### Decode -/
def decO (s : ByteArray) : Option Ent := match takeE s with
  | some (e, r) => if r.size = 0 then some e else none
  | none => none
def decE (s : ByteArray) : Ent := (decO s).getD ⟨0, ⟨#[]⟩⟩
def decB (s : ByteArray) : Bool := (decO s).isSome
def decK (s : ByteArray) : Int := if decB s then 0 else 2
theorem dec_some {s r : ByteArray} {e : Ent} (h : takeE s = some (e, r)) (hr : r.size = 0) : decE s = e ∧ decB s = true ∧ decK s = 0 := by
  have : decO s = some e := by unfold decO; rw [h]; exact if_pos hr
  have hb : decB s = true := by unfold decB; rw [this]; rfl
  exact ⟨by unfold decE; rw [this]; rfl, hb, by unfold decK; rw [hb]; rfl⟩
theorem dec_none' {s : ByteArray} (h : decO s = none) : decE s = ⟨0, ⟨#[]⟩⟩ ∧ decB s = false ∧ decK s = 2 := by
  have hb : decB s = false := by unfold decB; rw [h]; rfl
  exact ⟨by unfold decE; rw [h]; rfl, hb, by unfold decK; rw [hb]; rfl⟩
theorem dec_none {s : ByteArray} (h : takeE s = none) : decE s = ⟨0, ⟨#[]⟩⟩ ∧ decB s = false ∧ decK s = 2 := dec_none' (by unfold decO; rw [h])
theorem dec_rest {s r : ByteArray} {e : Ent} (h : takeE s = some (e, r)) (hr : r.size ≠ 0) : decE s = ⟨0, ⟨#[]⟩⟩ ∧ decB s = false ∧ decK s = 2 := dec_none' (by unfold decO; rw [h]; exact if_neg hr)

set_option maxRecDepth 100000 in
theorem RDecode_ok (s : ByteArray) (e : Ent) (w : World) (hs : s.size ≤ maxLen) (h : takeE s = some (e, ⟨#[]⟩)) :
    Calls Tryd.prog 38 #[.string s] w fun x w' => x = .returned (.tuple #[.agg #[.int .i64 e.time, .string e.data], .bool true]) ∧ Ext w w' := by
  go_enter Tryd.func38, Tryd.ntmps38
  go_wp2_with fail
  refine (rtake_some s e _ _ hs h).mono ?_
  rintro _ w1 ⟨rfl, hb1⟩
  have B0 : Bk w1 w.heap.size 52 #[.int .i64 0, .string ⟨#[]⟩] := by (repeat (with_reducible first | assumption | (refine Bk.at_ _ _ _ _ ?_; simp; done) | refine Bk.drew ?_ | refine Bk.drewN ?_ _ | refine Bk.alloc ?_ _ | refine Bk.ext ?_ (by with_reducible assumption)))
  have hz := B0.lt
  have c0 := B0.cell
  have f0 := B0.frozen
  go_wp2_with fail
  have B1 := ((B0.set_ 0 (.int .i64 e.time)).set_ 1 (.string e.data)).alloc (.cells #[.int .i64 e.time, .string e.data] 52)
  have e0 := B1.cell 0
  have e1 := B1.cell 1
  simp at e0 e1
  refine bodyPost_ret (by simp [results, Tryd.results38, go_sem, e0, e1]; try rfl) rfl ?_
  have E1 : Ext w w1 := by (repeat (with_reducible first | exact Ext.refl _ | assumption | refine Ext.drew ?_ | refine Ext.drewN ?_ _ | refine Ext.alloc ?_ _ | refine Ext.trans ?_ (by with_reducible assumption)))
  exact ⟨rfl, ((E1.setCell (p := ⟨w.heap.size, 0, none⟩) (Nat.le_refl _) _).setCell (p := ⟨w.heap.size, 1, none⟩) (Nat.le_refl _) _).alloc _⟩

set_option maxRecDepth 100000 in
theorem RDecode_rest (s : ByteArray) (e : Ent) (r : ByteArray) (w : World) (hs : s.size ≤ maxLen) (h : takeE s = some (e, r)) (hr : r.size ≠ 0) :
    Calls Tryd.prog 38 #[.string s] w fun x w' => x = .returned (.tuple #[.agg #[.int .i64 0, .string ⟨#[]⟩], .bool false]) ∧ Ext w w' := by
  obtain ⟨q1, q2⟩ := str_some (s := r) (by omega)
  go_enter Tryd.func38, Tryd.ntmps38
  go_wp2_with fail
  refine (rtake_some s e _ _ hs h).mono ?_
  rintro _ w1 ⟨rfl, hb1⟩
  have B0 : Bk w1 w.heap.size 52 #[.int .i64 0, .string ⟨#[]⟩] := by (repeat (with_reducible first | assumption | (refine Bk.at_ _ _ _ _ ?_; simp; done) | refine Bk.drew ?_ | refine Bk.drewN ?_ _ | refine Bk.alloc ?_ _ | refine Bk.ext ?_ (by with_reducible assumption)))
  have hz := B0.lt
  have c0 := B0.cell
  have f0 := B0.frozen
  go_wp2_with fail
  have B1 := ((B0.set_ 0 (.int .i64 0)).set_ 1 (.string ⟨#[]⟩)).alloc (.cells #[.int .i64 e.time, .string e.data] 52)
  have e0 := B1.cell 0
  have e1 := B1.cell 1
  simp at e0 e1
  refine bodyPost_ret (by simp [results, Tryd.results38, go_sem, e0, e1]; try rfl) rfl ?_
  have E1 : Ext w w1 := by (repeat (with_reducible first | exact Ext.refl _ | assumption | refine Ext.drew ?_ | refine Ext.drewN ?_ _ | refine Ext.alloc ?_ _ | refine Ext.trans ?_ (by with_reducible assumption)))
  exact ⟨rfl, ((E1.setCell (p := ⟨w.heap.size, 0, none⟩) (Nat.le_refl _) _).setCell (p := ⟨w.heap.size, 1, none⟩) (Nat.le_refl _) _).alloc _⟩
set_option maxRecDepth 100000 in
theorem RDecode_none (s : ByteArray) (w : World) (hs : s.size ≤ maxLen) (h : takeE s = none) :
    Calls Tryd.prog 38 #[.string s] w fun x w' => x = .returned (.tuple #[.agg #[.int .i64 0, .string ⟨#[]⟩], .bool false]) ∧ Ext w w' := by
  go_enter Tryd.func38, Tryd.ntmps38
  go_wp2_with fail
  refine (rtake_none s _ hs h).mono ?_
  rintro _ w1 ⟨⟨t', d', r', rfl⟩, hb1⟩
  have B0 : Bk w1 w.heap.size 52 #[.int .i64 0, .string ⟨#[]⟩] := by (repeat (with_reducible first | assumption | (refine Bk.at_ _ _ _ _ ?_; simp; done) | refine Bk.drew ?_ | refine Bk.drewN ?_ _ | refine Bk.alloc ?_ _ | refine Bk.ext ?_ (by with_reducible assumption)))
  have hz := B0.lt
  have c0 := B0.cell
  have f0 := B0.frozen
  go_wp2_with fail
  have B1 := ((B0.set_ 0 (.int .i64 0)).set_ 1 (.string ⟨#[]⟩)).alloc (.cells #[.int .i64 t', .string d'] 52)
  have e0 := B1.cell 0
  have e1 := B1.cell 1
  simp at e0 e1
  refine bodyPost_ret (by simp [results, Tryd.results38, go_sem, e0, e1]; try rfl) rfl ?_
  have E1 : Ext w w1 := by (repeat (with_reducible first | exact Ext.refl _ | assumption | refine Ext.drew ?_ | refine Ext.drewN ?_ _ | refine Ext.alloc ?_ _ | refine Ext.trans ?_ (by with_reducible assumption)))
  exact ⟨rfl, ((E1.setCell (p := ⟨w.heap.size, 0, none⟩) (Nat.le_refl _) _).setCell (p := ⟨w.heap.size, 1, none⟩) (Nat.le_refl _) _).alloc _⟩

set_option maxRecDepth 100000 in
theorem Decode_rest (s : ByteArray) (e : Ent) (r : ByteArray) (w : World) (hs : s.size ≤ maxLen) (h : takeE s = some (e, r)) (hr : r.size ≠ 0) :
    Calls Tryd.prog 39 #[.string s] w fun x w' => x = .returned (.tuple #[.agg #[.int .i64 0, .string ⟨#[]⟩], errV 2]) ∧ Ext w w' := by
  obtain ⟨q1, q2⟩ := str_some (s := r) (by omega)
  go_enter Tryd.func39, Tryd.ntmps39
  go_wp2_with fail
  refine (first_some s e _ _ hs h).mono ?_
  rintro _ w1 ⟨rfl, hb1⟩
  have B0 : Bk w1 w.heap.size 52 #[.int .i64 0, .string ⟨#[]⟩] := by (repeat (with_reducible first | assumption | (refine Bk.at_ _ _ _ _ ?_; simp; done) | refine Bk.drew ?_ | refine Bk.drewN ?_ _ | refine Bk.alloc ?_ _ | refine Bk.ext ?_ (by with_reducible assumption)))
  have hz := B0.lt
  have c0 := B0.cell
  have f0 := B0.frozen
  go_wp2_with fail
  have B1 := ((B0.set_ 0 (.int .i64 0)).set_ 1 (.string ⟨#[]⟩)).alloc (.cells #[.int .i64 e.time, .string e.data] 52)
  have e0 := B1.cell 0
  have e1 := B1.cell 1
  simp at e0 e1
  refine bodyPost_ret (by simp [results, Tryd.results39, go_sem, e0, e1]; try rfl) rfl ?_
  have E1 : Ext w w1 := by (repeat (with_reducible first | exact Ext.refl _ | assumption | refine Ext.drew ?_ | refine Ext.drewN ?_ _ | refine Ext.alloc ?_ _ | refine Ext.trans ?_ (by with_reducible assumption)))
  exact ⟨rfl, ((E1.setCell (p := ⟨w.heap.size, 0, none⟩) (Nat.le_refl _) _).setCell (p := ⟨w.heap.size, 1, none⟩) (Nat.le_refl _) _).alloc _⟩
set_option maxRecDepth 100000 in
theorem Decode_none (s : ByteArray) (w : World) (hs : s.size ≤ maxLen) (h : takeE s = none) :
    Calls Tryd.prog 39 #[.string s] w fun x w' => x = .returned (.tuple #[.agg #[.int .i64 0, .string ⟨#[]⟩], errV 2]) ∧ Ext w w' := by
  go_enter Tryd.func39, Tryd.ntmps39
  go_wp2_with fail
  refine (first_none s _ hs h).mono ?_
  rintro _ w1 ⟨⟨t', d', r', rfl⟩, hb1⟩
  have B0 : Bk w1 w.heap.size 52 #[.int .i64 0, .string ⟨#[]⟩] := by (repeat (with_reducible first | assumption | (refine Bk.at_ _ _ _ _ ?_; simp; done) | refine Bk.drew ?_ | refine Bk.drewN ?_ _ | refine Bk.alloc ?_ _ | refine Bk.ext ?_ (by with_reducible assumption)))
  have hz := B0.lt
  have c0 := B0.cell
  have f0 := B0.frozen
  go_wp2_with fail
  have B1 := ((B0.set_ 0 (.int .i64 0)).set_ 1 (.string ⟨#[]⟩)).alloc (.cells #[.int .i64 t', .string d'] 52)
  have e0 := B1.cell 0
  have e1 := B1.cell 1
  simp at e0 e1
  refine bodyPost_ret (by simp [results, Tryd.results39, go_sem, e0, e1]; try rfl) rfl ?_
  have E1 : Ext w w1 := by (repeat (with_reducible first | exact Ext.refl _ | assumption | refine Ext.drew ?_ | refine Ext.drewN ?_ _ | refine Ext.alloc ?_ _ | refine Ext.trans ?_ (by with_reducible assumption)))
  exact ⟨rfl, ((E1.setCell (p := ⟨w.heap.size, 0, none⟩) (Nat.le_refl _) _).setCell (p := ⟨w.heap.size, 1, none⟩) (Nat.le_refl _) _).alloc _⟩

theorem Decode_any (s : ByteArray) (w : World) (hs : s.size ≤ maxLen) :
    Calls Tryd.prog 39 #[.string s] w fun x w' => x = .returned (.tuple #[.agg #[.int .i64 (decE s).time, .string (decE s).data], errR (decK s)]) ∧ Ext w w' := by
  cases ht : takeE s with
  | none =>
    obtain ⟨h1, h2, h3⟩ := dec_none ht
    rw [h1, h3]
    exact Decode_none s w hs ht
  | some p =>
    obtain ⟨e, r⟩ := p
    by_cases hr : r.size = 0
    · obtain ⟨h1, h2, h3⟩ := dec_some ht hr
      obtain rfl := str_none hr
      rw [h1, h3]
      exact Decode_ok s e w hs ht
    · obtain ⟨h1, h2, h3⟩ := dec_rest ht hr
      rw [h1, h3]
      exact Decode_rest s e r w hs ht hr
theorem RDecode_any (s : ByteArray) (w : World) (hs : s.size ≤ maxLen) :
    Calls Tryd.prog 38 #[.string s] w fun x w' => x = .returned (.tuple #[.agg #[.int .i64 (decE s).time, .string (decE s).data], .bool (decB s)]) ∧ Ext w w' := by
  cases ht : takeE s with
  | none =>
    obtain ⟨h1, h2, h3⟩ := dec_none ht
    rw [h1, h2]
    exact RDecode_none s w hs ht
  | some p =>
    obtain ⟨e, r⟩ := p
    by_cases hr : r.size = 0
    · obtain ⟨h1, h2, h3⟩ := dec_some ht hr
      obtain rfl := str_none hr
      rw [h1, h2]
      exact RDecode_ok s e w hs ht
    · obtain ⟨h1, h2, h3⟩ := dec_rest ht hr
      rw [h1, h2]
      exact RDecode_rest s e r w hs ht hr

/-! ### Unpack -/
def RUnpPost (s : ByteArray) (w : World) (e : Ending) (w' : World) : Prop :=
  match unpackE s with
  | some es => ∃ v, e = .returned (.tuple #[v, .bool true]) ∧ w'.ownsRow w.heap.size 52 2 v es.length (es.flatMap Ent.cells)
  | none => ∃ v, e = .returned (.tuple #[v, .bool false])
theorem RUnpPost.none {s : ByteArray} {w w' : World} {e : Ending} {v : Value} (h : unpackE s = none) (k : e = .returned (.tuple #[v, .bool false])) : RUnpPost s w e w' := by
  unfold RUnpPost; rw [h]; exact ⟨v, k⟩
theorem RUnpPost.some {s : ByteArray} {w w' : World} {v : Value} {es : List Ent} (h : unpackE s = some es) (k : w'.ownsRow w.heap.size 52 2 v es.length (es.flatMap Ent.cells)) : RUnpPost s w (.returned (.tuple #[v, .bool true])) w' := by
  unfold RUnpPost; rw [h]; exact ⟨_, rfl, k⟩

set_option maxRecDepth 100000 in
set_option maxHeartbeats 2000000 in
theorem RUnpack_any (s : ByteArray) (w : World) (hs : s.size ≤ 140737488355328) :
    Calls Tryd.prog 44 #[.string s] w fun e w' => RUnpPost s w e w' ∧ Ext w w' := by
  by_cases h0 : s.size = 0
  · have HU : Hid (unpackE s = none) := by show _ = _; unfold unpackE; rw [if_pos (.inl h0)]
    have e1 : s.data.toList = [] := List.eq_nil_of_length_eq_zero (by rw [list_size]; exact h0)
    have e2 : s = ⟨#[]⟩ := ba_ext e1
    subst e2
    clear h0 e1 hs
    go_enter Tryd.func44, Tryd.ntmps44
    go_wp2_with fail
    go_ret2
    exact ⟨RUnpPost.none HU.out rfl, by (repeat (with_reducible first | exact Ext.refl _ | assumption | refine Ext.drew ?_ | refine Ext.drewN ?_ _ | refine Ext.alloc ?_ _ | refine Ext.trans ?_ (by with_reducible assumption)))⟩
  · have h0' : 0 < s.size := by omega
    obtain ⟨e1, e2⟩ := str_some h0'
    have g0 := byB_get s 0 h0'
    by_cases h2 : 200 < (byB s 0).toNat
    · have HU : Hid (unpackE s = none) := by show _ = _; unfold unpackE; rw [if_pos (.inr h2)]
      generalize byB s 0 = b0 at *
      have k0 := w_small (u8_lt b0).1 (u8_lt b0).2
      have l0 := (u8_lt b0).2
      go_enter Tryd.func44, Tryd.ntmps44
      go_wp2_with fail
      go_ret2
      exact ⟨RUnpPost.none HU.out rfl, by (repeat (with_reducible first | exact Ext.refl _ | assumption | refine Ext.drew ?_ | refine Ext.drewN ?_ _ | refine Ext.alloc ?_ _ | refine Ext.trans ?_ (by with_reducible assumption)))⟩
    · obtain ⟨m, hm⟩ : ∃ m, m = (byB s 0).toNat := ⟨_, rfl⟩
      have hm2 : m ≤ 200 := by omega
      have HUP : Hid (unpackE s = unpEnd (unpN m (s.extract 1 s.size))) := by
        show _ = _
        unfold unpackE
        rw [if_neg (by omega), hm]
      have g0' : (s[0].toNat : Int) = (m : Int) := by rw [g0, hm]
      have hq1 : (s.extract 1 s.size).size ≤ s.size := by rw [ByteArray.size_extract]; omega
      clear g0 h2 hm
      obtain ⟨i0, hi0, hz0, hz1, hz2⟩ := info_parts info_ent
      go_enter Tryd.func44, Tryd.ntmps44
      go_wp2_with fail
      generalize s.extract 1 s.size = s1 at *
      go_loopw [4, 5, 6] (fun o r i wr => ∃ (j : Nat) (es : List Ent) (q : ByteArray), i = .int .i64 j ∧ r = .string q ∧ j ≤ m ∧ Hid (unpN j s1 = some (es, q)) ∧ Hid (es.length = j) ∧ q.size ≤ 140737488355328 ∧ Ext w wr ∧ Hid (wr.ownsRow w.heap.size 52 2 o j (es.flatMap Ent.cells))) (fun _ _ i _ => m - (intOf i).toNat)
      case atStart => exact ⟨0, [], s1, rfl, rfl, Nat.zero_le _, rfl, rfl, by omega, by (repeat (with_reducible first | exact Ext.refl _ | assumption | refine Ext.drew ?_ | refine Ext.drewN ?_ _ | refine Ext.alloc ?_ _ | refine Ext.trans ?_ (by with_reducible assumption))), own_nil _ _ _ _⟩
      case round =>
        obtain ⟨j, es, q, rfl, rfl, hj, hun, hlen, hqs, hbw, hown⟩ := hrel
        by_cases hc : j < m
        · cases hte : takeE q with
          | none =>
            have HT := Lib.hid hte
            have HN : Hid (unpackE s = none) := by
              show _ = _
              rw [HUP.out, show m = (j + 1) + (m - (j + 1)) by omega, unpN_later (unpN_stop hun.out hte)]
              rfl
            clear hte
            go_wp2_with fail
            refine (rtake_none q _ (by simp only [maxLen]; omega) HT.out).mono ?_
            rintro _ w1 ⟨⟨t', d', r', rfl⟩, hb1⟩
            go_wp2_with fail
            go_ret2
            exact ⟨RUnpPost.none HN.out rfl, by (repeat (with_reducible first | exact Ext.refl _ | assumption | refine Ext.drew ?_ | refine Ext.drewN ?_ _ | refine Ext.alloc ?_ _ | refine Ext.trans ?_ (by with_reducible assumption)))⟩
          | some p =>
            obtain ⟨e, r⟩ := p
            have HT := Lib.hid hte
            have hrs := takeE_size hte
            have HN := Lib.hid (unpN_next hun.out hte)
            clear hte
            go_wp2_with fail
            refine (rtake_some q e r _ (by simp only [maxLen]; omega) HT.out).mono ?_
            rintro _ w1 ⟨rfl, hb1⟩
            have hs1 := hb1.size
            have hs0 := hbw.size
            go_wp2_with (at_builtin; refine wpl_app (by rfl) _ _ _ (by rfl) w.heap.size 52 i0 _ 2 24 Tryd.underlying53 hi0 hz0 hz1 hz2 rfl (by omega) u4 _ _ (by rfl) (((own_ext hown.out (by (repeat (with_reducible first | exact Ext.refl _ | assumption | refine Ext.drew ?_ | refine Ext.drewN ?_ _ | refine Ext.alloc ?_ _ | refine Ext.trans ?_ (by with_reducible assumption))))).alloc _).alloc _) (w1.heap.size + 1) 1 e.cells rfl (by rfl) (news_new _ _ _ _ (by simp)) (oneE _) (by omega) (by omega) (by simp; omega) ?_; intro g cap w3 own3 hext3)
            go_roundw
            case rel => exact ⟨j + 1, es ++ [e], r, by go_num, rfl, by omega, HN.out, by show _ = _; rw [List.length_append, hlen.out]; rfl, by omega, hext3 _ (Nat.le_refl _) (by (repeat (with_reducible first | exact Ext.refl _ | assumption | refine Ext.drew ?_ | refine Ext.drewN ?_ _ | refine Ext.alloc ?_ _ | refine Ext.trans ?_ (by with_reducible assumption)))), by rw [flat_snoc]; exact own3⟩
            case measure => simp [intOf]; omega
        · obtain rfl : j = m := by omega
          by_cases hq0 : q.size = 0
          · obtain rfl := str_none hq0
            have HN : Hid (unpackE s = some es) := by
              show _ = _
              rw [HUP.out, hun.out]; rfl
            clear hq0
            go_wp2_with fail
            go_ret2
            exact ⟨RUnpPost.some HN.out (by rw [hlen.out]; exact hown.out), by (repeat (with_reducible first | exact Ext.refl _ | assumption | refine Ext.drew ?_ | refine Ext.drewN ?_ _ | refine Ext.alloc ?_ _ | refine Ext.trans ?_ (by with_reducible assumption)))⟩
          · have HN : Hid (unpackE s = none) := by
              show _ = _
              rw [HUP.out, hun.out]
              unfold unpEnd
              simp only
              rw [if_neg hq0]
            obtain ⟨q1, q2⟩ := str_some (s := q) (by omega)
            clear hq0
            go_wp2_with fail
            go_ret2
            exact ⟨RUnpPost.none HN.out rfl, by (repeat (with_reducible first | exact Ext.refl _ | assumption | refine Ext.drew ?_ | refine Ext.drewN ?_ _ | refine Ext.alloc ?_ _ | refine Ext.trans ?_ (by with_reducible assumption)))⟩

end Go.Proofs.YtgfkalhpefjenaaDoor
