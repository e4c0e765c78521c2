import Derived.Test.YtgfkalhpefjenaaDoorFirst
namespace Go.Proofs.YtgfkalhpefjenaaDoor
open Go.RowKit
set_option linter.unusedVariables false
attribute [local go_sem ↓] Go.wp_at_zero Go.wp_at_succ

theorem takeE_size {s : ByteArray} {e : Ent} {r : ByteArray} (h : takeE s = some (e, r)) : r.size ≤ s.size := by
  obtain ⟨_, h2⟩ := takeE_some h
  rw [h2, size_cat]; omega

/-- bytes of one entry alone -/
theorem takeE_one (e : Ent) (h : e.ok) : takeE e.bytes = some (e, ⟨#[]⟩) := by
  have := takeE_bytes e ⟨#[]⟩ h
  rwa [show e.bytes ++ ⟨#[]⟩ = e.bytes from ba_ext (by rw [toList_cat]; simp)] at this
set_option maxRecDepth 100000 in
theorem Decode_ok (s : ByteArray) (e : Ent) (w : World) (hs : s.size ≤ maxLen) (h : takeE s = some (e, ⟨#[]⟩)) :
    Calls Tryd.prog 39 #[.string s] w fun x w' => x = .returned (.tuple #[.agg #[.int .i64 e.time, .string e.data], .nilIface]) ∧ Ext w w' := by
  go_enter Tryd.func39, Tryd.ntmps39
  go_wp2_with fail
  refine (first_some s e _ _ hs h).mono ?_
  rintro _ w1 ⟨rfl, hb1⟩
  have B0 : Bk w1 w.heap.size 52 #[.int .i64 0, .string ⟨#[]⟩] := by (repeat (with_reducible first | assumption | (refine Bk.at_ _ _ _ _ ?_; simp; done) | refine Bk.drew ?_ | refine Bk.drewN ?_ _ | refine Bk.alloc ?_ _ | refine Bk.ext ?_ (by with_reducible assumption)))
  have hz := B0.lt
  have c0 := B0.cell
  have f0 := B0.frozen
  go_wp2_with fail
  have B1 := ((B0.set_ 0 (.int .i64 e.time)).set_ 1 (.string e.data)).alloc (.cells #[.int .i64 e.time, .string e.data] 52)
  have e0 := B1.cell 0
  have e1 := B1.cell 1
  simp at e0 e1
  refine bodyPost_ret (by simp [results, Tryd.results39, go_sem, e0, e1]; try rfl) rfl ?_
  have E1 : Ext w w1 := by (repeat (with_reducible first | exact Ext.refl _ | assumption | refine Ext.drew ?_ | refine Ext.drewN ?_ _ | refine Ext.alloc ?_ _ | refine Ext.trans ?_ (by with_reducible assumption)))
  exact ⟨rfl, ((E1.setCell (p := ⟨w.heap.size, 0, none⟩) (Nat.le_refl _) _).setCell (p := ⟨w.heap.size, 1, none⟩) (Nat.le_refl _) _).alloc _⟩

set_option maxRecDepth 100000 in
set_option maxHeartbeats 1000000 in
theorem Pack_ok (A : Option Addr) (n c : Nat) (es : List Ent) (w : World) (hr : Rd w 2 A n c (es.flatMap Ent.cells)) (hm : c ≤ maxLen) (hk : entsOk es) :
    Calls Tryd.prog 42 #[.slice A n c] w fun e w' => e = .returned (.tuple #[.string (packB es es.length), .nilIface]) ∧ Ext w w' := by
  have hx := hr.lenE
  have hn : n ≤ 200 := by have := hk.1; omega
  have hl := hr.2.1
  have HZ := Lib.hid fun j => packB_size hk.2 j hk.1
  have HP0 : Hid ((⟨#[byteOf (n : Int)]⟩ : ByteArray) = packB es 0) := by
    show _ = _
    rw [packB_zero, hx]
  have HX := Lib.hid hx
  have HK := Lib.hid hk
  have hcv := fun (w : World) (g : Nat) (x : Int) (hg : g = w.heap.size) => run_conv_new (P := Tryd.prog) w g hg 64 9 5 1 [x] Tryd.underlying64 Tryd.underlying5 Tryd.underlying9
  simp only [List.map_cons, List.map_nil, List.length_singleton] at hcv
  clear hx hk
  go_enter Tryd.func42, Tryd.ntmps42
  go_wp2_with fail
  refine (ready_ok A n c es _ hr hm HK.out).mono ?_
  rintro _ w0 ⟨rfl, hb0⟩
  go_wp2_with fail
  rw [HP0.out]
  go_loopw [5, 20] (fun s x wr => ∃ j : Nat, x = .int .i64 j ∧ s = .string (packB es j) ∧ j ≤ n ∧ Ext w wr) (fun _ x _ => n - (intOf x).toNat)
  case atStart => exact ⟨0, rfl, rfl, Nat.zero_le _, by (repeat (with_reducible first | exact Ext.refl _ | assumption | refine Ext.drew ?_ | refine Ext.drewN ?_ _ | refine Ext.alloc ?_ _ | refine Ext.trans ?_ (by with_reducible assumption)))⟩
  case round =>
    obtain ⟨j, rfl, rfl, hj, hbw⟩ := hrel
    by_cases hc : j < n
    · have hgj := List.getElem?_eq_getElem (l := es) (i := j) (by rw [HX.out]; exact hc)
      have hok := HK.out.2 _ (List.mem_of_getElem? hgj)
      obtain ⟨ad, rfl, hb, c0, c1⟩ := (hr.ext hbw).getE hgj
      have HT := Lib.hid (packB_next hgj)
      generalize es[j]'(by rw [HX.out]; exact hc) = e at *
      obtain ⟨k0, k1, k2⟩ := hok
      have hsz := e.bytes_size
      have hz0 := HZ.out j
      generalize packB es j = b at *
      go_wp2_with fail
      refine (eBytes_any _ _ _ k0 (by omega)).mono ?_
      rintro _ w1 ⟨rfl, hb1⟩
      generalize Ent.bytes ⟨e.time, e.data⟩ = b2 at *
      go_wp2_with fail
      go_roundw
      case rel => exact ⟨j + 1, by go_num, by rw [HT.out], by omega, by (repeat (with_reducible first | exact Ext.refl _ | assumption | refine Ext.drew ?_ | refine Ext.drewN ?_ _ | refine Ext.alloc ?_ _ | refine Ext.trans ?_ (by with_reducible assumption)))⟩
      case measure => simp [intOf]; omega
    · obtain rfl : j = n := by omega
      go_wp2_with fail
      go_ret2
      exact ⟨by rw [HX.out]; rfl, by (repeat (with_reducible first | exact Ext.refl _ | assumption | refine Ext.drew ?_ | refine Ext.drewN ?_ _ | refine Ext.alloc ?_ _ | refine Ext.trans ?_ (by with_reducible assumption)))⟩

set_option maxRecDepth 100000 in
theorem Pack_bad (A : Option Addr) (n c : Nat) (es : List Ent) (w : World) (hr : Rd w 2 A n c (es.flatMap Ent.cells)) (hm : c ≤ maxLen) (hk : ¬ entsOk es) :
    Calls Tryd.prog 42 #[.slice A n c] w fun e w' => e = .returned (.tuple #[.string ⟨#[]⟩, errV (entsErr es)]) ∧ Ext w w' := by
  go_enter Tryd.func42, Tryd.ntmps42
  go_wp2_with fail
  refine (ready_bad A n c es _ hr hm hk).mono ?_
  rintro _ w0 ⟨rfl, hb0⟩
  simp only [errV]
  go_wp2_with fail
  go_ret2
  exact ⟨rfl, by (repeat (with_reducible first | exact Ext.refl _ | assumption | refine Ext.drew ?_ | refine Ext.drewN ?_ _ | refine Ext.alloc ?_ _ | refine Ext.trans ?_ (by with_reducible assumption)))⟩

theorem info_ent : (Tryd.prog.info? 52).map (fun i => (i.zero, i.size, i.bytes)) = some (some (.agg #[.int .i64 0, .string ⟨#[]⟩]), 2, 24) := by kernel_rfl
theorem oneE (e : Ent) : ∀ u ∈ e.cells, u.oneCell' = true := by intro u hu; simp [Ent.cells] at hu; rcases hu with rfl | rfl <;> rfl
theorem flat_snoc (es : List Ent) (e : Ent) : (es ++ [e]).flatMap Ent.cells = es.flatMap Ent.cells ++ e.cells := by simp
theorem unpN_size {n : Nat} {s q : ByteArray} {es : List Ent} (h : unpN n s = some (es, q)) : q.size ≤ s.size := by
  have := (unpN_some _ _ _ _ h).2.2
  have h2 := congrArg List.length this
  rw [List.length_append, list_size, list_size] at h2
  omega

theorem str_some {s : ByteArray} (h : 0 < s.size) : s.toList.isEmpty = false ∧ ¬ s.toList = [] := by
  have : ¬ s.toList = [] := by
    rw [Lib.toList_data]
    intro h'
    rw [← list_size, h'] at h
    exact absurd h (by simp)
  refine ⟨?_, this⟩
  cases hs : s.toList with
  | nil => exact absurd hs this
  | cons a l => rfl
theorem str_none {s : ByteArray} (h : s.size = 0) : s = ⟨#[]⟩ := ba_ext (List.eq_nil_of_length_eq_zero (by rw [list_size]; exact h))
/-- what Unpack answers -/
def UnpPost (s : ByteArray) (w : World) (e : Ending) (w' : World) : Prop :=
  match unpackE s with
  | some es => ∃ v, e = .returned (.tuple #[v, .nilIface]) ∧ w'.ownsRow w.heap.size 52 2 v es.length (es.flatMap Ent.cells)
  | none => e = .returned (.tuple #[.slice none 0 0, errV 2])
theorem UnpPost.none {s : ByteArray} {w w' : World} {e : Ending} (h : unpackE s = none) (k : e = .returned (.tuple #[.slice none 0 0, errV 2])) : UnpPost s w e w' := by
  unfold UnpPost; rw [h]; exact k
theorem UnpPost.some {s : ByteArray} {w w' : World} {v : Value} {es : List Ent} (h : unpackE s = some es) (k : w'.ownsRow w.heap.size 52 2 v es.length (es.flatMap Ent.cells)) : UnpPost s w (.returned (.tuple #[v, .nilIface])) w' := by
  unfold UnpPost; rw [h]; exact ⟨_, rfl, k⟩

set_option maxRecDepth 100000 in
set_option maxHeartbeats 2000000 in
theorem Unpack_any (s : ByteArray) (w : World) (hs : s.size ≤ 140737488355328) :
    Calls Tryd.prog 45 #[.string s] w fun e w' => UnpPost s w e w' ∧ Ext w w' := by
  by_cases h0 : s.size = 0
  · have HU : Hid (unpackE s = none) := by show _ = _; unfold unpackE; rw [if_pos (.inl h0)]
    have e1 : s.data.toList = [] := List.eq_nil_of_length_eq_zero (by rw [list_size]; exact h0)
    have e2 : s = ⟨#[]⟩ := ba_ext e1
    subst e2
    clear h0 e1 hs
    go_enter Tryd.func45, Tryd.ntmps45
    go_wp2_with fail
    go_ret2
    exact ⟨UnpPost.none HU.out rfl, by (repeat (with_reducible first | exact Ext.refl _ | assumption | refine Ext.drew ?_ | refine Ext.drewN ?_ _ | refine Ext.alloc ?_ _ | refine Ext.trans ?_ (by with_reducible assumption)))⟩
  · have h0' : 0 < s.size := by omega
    obtain ⟨e1, e2⟩ := str_some h0'
    have g0 := byB_get s 0 h0'
    by_cases h2 : 200 < (byB s 0).toNat
    · have HU : Hid (unpackE s = none) := by show _ = _; unfold unpackE; rw [if_pos (.inr h2)]
      generalize byB s 0 = b0 at *
      have k0 := w_small (u8_lt b0).1 (u8_lt b0).2
      have l0 := (u8_lt b0).2
      go_enter Tryd.func45, Tryd.ntmps45
      go_wp2_with fail
      go_ret2
      exact ⟨UnpPost.none HU.out rfl, by (repeat (with_reducible first | exact Ext.refl _ | assumption | refine Ext.drew ?_ | refine Ext.drewN ?_ _ | refine Ext.alloc ?_ _ | refine Ext.trans ?_ (by with_reducible assumption)))⟩
    · obtain ⟨m, hm⟩ : ∃ m, m = (byB s 0).toNat := ⟨_, rfl⟩
      have hm2 : m ≤ 200 := by omega
      have HUP : Hid (unpackE s = unpEnd (unpN m (s.extract 1 s.size))) := by
        show _ = _
        unfold unpackE
        rw [if_neg (by omega), hm]
      have g0' : (s[0].toNat : Int) = (m : Int) := by rw [g0, hm]
      have hq1 : (s.extract 1 s.size).size ≤ s.size := by rw [ByteArray.size_extract]; omega
      clear g0 h2 hm
      obtain ⟨i0, hi0, hz0, hz1, hz2⟩ := info_parts info_ent
      go_enter Tryd.func45, Tryd.ntmps45
      go_wp2_with fail
      generalize s.extract 1 s.size = s1 at *
      go_loopw [4, 5, 23] (fun o r i wr => ∃ (j : Nat) (es : List Ent) (q : ByteArray), i = .int .i64 j ∧ r = .string q ∧ j ≤ m ∧ Hid (unpN j s1 = some (es, q)) ∧ Hid (es.length = j) ∧ q.size ≤ 140737488355328 ∧ Ext w wr ∧ Hid (wr.ownsRow w.heap.size 52 2 o j (es.flatMap Ent.cells))) (fun _ _ i _ => m - (intOf i).toNat)
      case atStart => exact ⟨0, [], s1, rfl, rfl, Nat.zero_le _, rfl, rfl, by omega, by (repeat (with_reducible first | exact Ext.refl _ | assumption | refine Ext.drew ?_ | refine Ext.drewN ?_ _ | refine Ext.alloc ?_ _ | refine Ext.trans ?_ (by with_reducible assumption))), own_nil _ _ _ _⟩
      case round =>
        obtain ⟨j, es, q, rfl, rfl, hj, hun, hlen, hqs, hbw, hown⟩ := hrel
        by_cases hc : j < m
        · cases hte : takeE q with
          | none =>
            have HT := Lib.hid hte
            have HN : Hid (unpackE s = none) := by
              show _ = _
              rw [HUP.out, show m = (j + 1) + (m - (j + 1)) by omega, unpN_later (unpN_stop hun.out hte)]
              rfl
            clear hte
            go_wp2_with fail
            refine (first_none q _ (by simp only [maxLen]; omega) HT.out).mono ?_
            rintro _ w1 ⟨⟨t', d', r', rfl⟩, hb1⟩
            go_wp2_with fail
            go_ret2
            exact ⟨UnpPost.none HN.out rfl, by (repeat (with_reducible first | exact Ext.refl _ | assumption | refine Ext.drew ?_ | refine Ext.drewN ?_ _ | refine Ext.alloc ?_ _ | refine Ext.trans ?_ (by with_reducible assumption)))⟩
          | some p =>
            obtain ⟨e, r⟩ := p
            have HT := Lib.hid hte
            have hrs := takeE_size hte
            have HN := Lib.hid (unpN_next hun.out hte)
            clear hte
            go_wp2_with fail
            refine (first_some q e r _ (by simp only [maxLen]; omega) HT.out).mono ?_
            rintro _ w1 ⟨rfl, hb1⟩
            have hs1 := hb1.size
            have hs0 := hbw.size
            go_wp2_with (at_builtin; refine wpl_app (by rfl) _ _ _ (by rfl) w.heap.size 52 i0 _ 2 24 Tryd.underlying53 hi0 hz0 hz1 hz2 rfl (by omega) u4 _ _ (by rfl) (((own_ext hown.out (by (repeat (with_reducible first | exact Ext.refl _ | assumption | refine Ext.drew ?_ | refine Ext.drewN ?_ _ | refine Ext.alloc ?_ _ | refine Ext.trans ?_ (by with_reducible assumption))))).alloc _).alloc _) (w1.heap.size + 1) 1 e.cells rfl (by rfl) (news_new _ _ _ _ (by simp)) (oneE _) (by omega) (by omega) (by simp; omega) ?_; intro g cap w3 own3 hext3)
            go_roundw
            case rel => exact ⟨j + 1, es ++ [e], r, by go_num, rfl, by omega, HN.out, by show _ = _; rw [List.length_append, hlen.out]; rfl, by omega, hext3 _ (Nat.le_refl _) (by (repeat (with_reducible first | exact Ext.refl _ | assumption | refine Ext.drew ?_ | refine Ext.drewN ?_ _ | refine Ext.alloc ?_ _ | refine Ext.trans ?_ (by with_reducible assumption)))), by rw [flat_snoc]; exact own3⟩
            case measure => simp [intOf]; omega
        · obtain rfl : j = m := by omega
          by_cases hq0 : q.size = 0
          · obtain rfl := str_none hq0
            have HN : Hid (unpackE s = some es) := by
              show _ = _
              rw [HUP.out, hun.out]; rfl
            clear hq0
            go_wp2_with fail
            go_ret2
            exact ⟨UnpPost.some HN.out (by rw [hlen.out]; exact hown.out), by (repeat (with_reducible first | exact Ext.refl _ | assumption | refine Ext.drew ?_ | refine Ext.drewN ?_ _ | refine Ext.alloc ?_ _ | refine Ext.trans ?_ (by with_reducible assumption)))⟩
          · have HN : Hid (unpackE s = none) := by
              show _ = _
              rw [HUP.out, hun.out]
              unfold unpEnd
              simp only
              rw [if_neg hq0]
            obtain ⟨q1, q2⟩ := str_some (s := q) (by omega)
            clear hq0
            go_wp2_with fail
            go_ret2
            exact ⟨UnpPost.none HN.out rfl, by (repeat (with_reducible first | exact Ext.refl _ | assumption | refine Ext.drew ?_ | refine Ext.drewN ?_ _ | refine Ext.alloc ?_ _ | refine Ext.trans ?_ (by with_reducible assumption)))⟩

set_option maxRecDepth 100000 in
theorem Entries_same (A A' : Option Addr) (n c c' : Nat) (es : List Ent) (w : World) (hr : Rd w 2 A n c (es.flatMap Ent.cells)) (hr' : Rd w 2 A' n c' (es.flatMap Ent.cells)) (hm : n ≤ 200) :
    Calls Tryd.prog 46 #[.slice A n c, .slice A' n c'] w fun e w' => e = .returned (.bool true) ∧ Ext w w' := by
  have HX := Lib.hid hr.lenE
  have hl := hr.2.1
  have hl' := hr'.2.1
  go_enter Tryd.func46, Tryd.ntmps46
  go_wp2_with fail
  go_loopw [5] (fun x wr => ∃ j : Nat, x = .int .i64 j ∧ j ≤ n ∧ Ext w wr) (fun x _ => n - (intOf x).toNat)
  case atStart => exact ⟨0, rfl, Nat.zero_le _, by (repeat (with_reducible first | exact Ext.refl _ | assumption | refine Ext.drew ?_ | refine Ext.drewN ?_ _ | refine Ext.alloc ?_ _ | refine Ext.trans ?_ (by with_reducible assumption)))⟩
  case round =>
    obtain ⟨j, rfl, hj, hbw⟩ := hrel
    by_cases hc : j < n
    · have hgj := List.getElem?_eq_getElem (l := es) (i := j) (by rw [HX.out]; exact hc)
      obtain ⟨ad, rfl, hb, c0, c1⟩ := (hr.ext hbw).getE hgj
      obtain ⟨ad', rfl, hb', c0', c1'⟩ := (hr'.ext hbw).getE hgj
      generalize es[j]'(by rw [HX.out]; exact hc) = e at *
      have hcN : (j : Int) < (n : Int) := by omega
      go_wp2_with fail
      go_quiet (fail)
      go_wp2_with fail
      go_roundw
      case rel => exact ⟨j + 1, by go_num, by omega, by (repeat (with_reducible first | exact Ext.refl _ | assumption | refine Ext.drew ?_ | refine Ext.drewN ?_ _ | refine Ext.alloc ?_ _ | refine Ext.trans ?_ (by with_reducible assumption)))⟩
      case measure => simp [intOf]; omega
    · go_wp2_with fail
      go_ret
      exact ⟨rfl, by (repeat (with_reducible first | exact Ext.refl _ | assumption | refine Ext.drew ?_ | refine Ext.drewN ?_ _ | refine Ext.alloc ?_ _ | refine Ext.trans ?_ (by with_reducible assumption)))⟩

/-! ### Both ways at once: the fault by its number -/
def encK (e : Ent) : Int := if e.ok then 0 else e.err
def encB (e : Ent) : ByteArray := if e.ok then e.bytes else ⟨#[]⟩
theorem Encode_any (t : Int) (s : ByteArray) (w : World) :
    Calls Tryd.prog 37 #[.agg #[.int .i64 t, .string s]] w fun e w' => e = .returned (.tuple #[.string (encB ⟨t, s⟩), errR (encK ⟨t, s⟩)]) ∧ Ext w w' := by
  by_cases h : (⟨t, s⟩ : Ent).ok
  · refine (Encode_ok t s w h).mono fun e w' hh => ⟨hh.1.trans ?_, hh.2⟩
    unfold encB encK; rw [if_pos h, if_pos h]; rfl
  · refine (Encode_bad t s w h).mono fun e w' hh => ⟨hh.1.trans ?_, hh.2⟩
    unfold encB encK; rw [if_neg h, if_neg h, errR_ne (Ent.err_ne _)]
theorem encK_zero {e : Ent} : encK e = 0 ↔ e.ok := by
  unfold encK
  by_cases h : e.ok
  · simp [h]
  · simp [h, e.err_ne]
def packR (es : List Ent) : ByteArray := if entsErr es = 0 then packB es es.length else ⟨#[]⟩
theorem entsErr_zero {es : List Ent} : entsErr es = 0 ↔ entsOk es :=
  ⟨fun h => Classical.byContradiction fun hk => entsErr_bad hk h, entsErr_ok⟩
theorem Pack_any (A : Option Addr) (n c : Nat) (es : List Ent) (w : World) (hr : Rd w 2 A n c (es.flatMap Ent.cells)) (hm : c ≤ maxLen) :
    Calls Tryd.prog 42 #[.slice A n c] w fun e w' => e = .returned (.tuple #[.string (packR es), errR (entsErr es)]) ∧ Ext w w' := by
  by_cases h : entsOk es
  · refine (Pack_ok A n c es w hr hm h).mono fun e w' hh => ⟨hh.1.trans ?_, hh.2⟩
    unfold packR; rw [if_pos (entsErr_ok h), entsErr_ok h]; rfl
  · refine (Pack_bad A n c es w hr hm h).mono fun e w' hh => ⟨hh.1.trans ?_, hh.2⟩
    unfold packR; rw [if_neg (entsErr_bad h), errR_ne (entsErr_bad h)]
end Go.Proofs.YtgfkalhpefjenaaDoor
