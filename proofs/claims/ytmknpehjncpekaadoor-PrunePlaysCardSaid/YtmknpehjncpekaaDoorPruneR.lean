/- Prune, all of it, with the rows' own base (for PrunePlays). -/
import Derived.Maps.OwnSet
import Derived.Test.YtmknpehjncpekaaDoorPCheck
import Derived.Test.YtmknpehjncpekaaDoorPeaks4
import Derived.Test.YtmknpehjncpekaaDoorGrown
import Derived.Deep.RegionHeld3
import Derived.Test.YtmknpehjncpekaaDoorWayP
/- Prune: a tree of which some leafs are known; New, Many, find. -/
namespace Go.Proofs.YtmknpehjncpekaaDoor
open Go.RowKit Go.WideShapes
open Go.Maps (int_keyed keyOf_int_mk)
set_option linter.unusedVariables false
attribute [local go_sem ↓] Go.wp_at_zero Go.wp_at_succ

/-- what is known: of each place the sum and its proof -/
abbrev Kn := Int → Option (Int × List Int)
def Kn.set (K : Kn) (i : Int) (x : Option (Int × List Int)) : Kn := fun j => if j = i then x else K j
/-- an element of the map is read as itself -/
def elR (v : Value) : Option (DataW Value × List MemPlace) := some (.held v, [])
abbrev kl (i : Int) : Lit := .int .i64 i
def EntK (w : World) (base : Nat) (D : DataW Value) (i : Int) : Option (Int × List Int) → Prop
  | none => Maps.has D (kl i) = false
  | some (s, p) => Maps.has D (kl i) = true ∧ ∃ v, (∀ z, D.atKey (kl i) z = .held (.agg #[.int .i64 s, v])) ∧ w.ownsRow base 3 1 v p.length (p.map (Value.int .i64))
structure Tr (w : World) (base tb mb : Nat) (size root : Int) (N : Nat) (K : Kn) (cnt : Nat) : Prop where
  bk : Bk w tb 74 #[.int .i64 size, .int .i64 root, .map (some mb)]
  ex : ∃ D : DataW Value, w.ownsMap Tryd.prog 3 elR mb N D ∧ Maps.size D = cnt ∧ ∀ i, (kl i).wf = true → EntK w base D i (K i)
theorem EntK.ext {w w' : World} {base : Nat} {D : DataW Value} {i : Int} {x : Option (Int × List Int)} (h : EntK w base D i x) (e : Ext w w') : EntK w' base D i x := by
  cases x with
  | none => exact h
  | some x =>
    obtain ⟨s, p⟩ := x
    obtain ⟨h1, v, h2, h3⟩ := h
    exact ⟨h1, v, h2, own_ext h3 e⟩
theorem Tr.ext {w w' : World} {base tb mb N cnt : Nat} {size root : Int} {K : Kn} (h : Tr w base tb mb size root N K cnt) (e : Ext w w') : Tr w' base tb mb size root N K cnt := by
  obtain ⟨D, h1, h2, h3⟩ := h.ex
  exact ⟨h.bk.ext e, D, h1.kept (e.gb none) (by simp), h2, fun i hi => (h3 i hi).ext e⟩
theorem Tr.lower {w : World} {base b tb mb N cnt : Nat} {size root : Int} {K : Kn} (h : Tr w base tb mb size root N K cnt) (hb : b ≤ base) : Tr w b tb mb size root N K cnt := by
  obtain ⟨D, h1, h2, h3⟩ := h.ex
  refine ⟨h.bk, D, h1, h2, fun i hi => ?_⟩
  have := h3 i hi
  cases hx : K i with
  | none => rw [hx] at this; exact this
  | some x =>
    rw [hx] at this
    obtain ⟨s, p⟩ := x
    obtain ⟨q1, v, q2, q3⟩ := this
    exact ⟨q1, v, q2, own_lower q3 hb⟩

/-- what New tells -/
def newK (size root : Int) : Int := if 1 ≤ size ∧ size ≤ 200 ∧ vld root = true then 0 else 1
set_option maxRecDepth 100000 in
theorem PrNew_ok (size root : Int) (w : World) (h1 : 1 ≤ size) (h2 : size ≤ 200) (hv : vld root = true) :
    Calls Tryd.prog 6 #[.int .i64 size, .int .i64 root] w fun e w' => (∃ tb mb, e = .returned (.tuple #[.pointer (some ⟨tb, 0, none⟩), .nilIface]) ∧ (∀ base, Tr w' base tb mb size root 0 (fun _ => none) 0) ∧ w.heap.size ≤ tb ∧ w.heap.size ≤ mb ∧ tb < w'.heap.size ∧ mb < w'.heap.size ∧ tb ≠ mb) ∧ Ext w w' := by
  have hmm := @run_makeMap Tryd.prog
  go_enter Tryd.func6, Tryd.ntmps6
  go_wp2_with fail
  refine (Valid_any root _).mono ?_
  rw [hv]
  rintro _ _ ⟨rfl, rfl⟩
  go_wp2_with fail
  go_ret2
  refine ⟨⟨_, w.heap.size, rfl, fun base => ⟨Bk.at_ _ _ _ _ (by simp), .map [], (World.ownsMap_made w _ _ _).alloc _, rfl, fun i hi => rfl⟩, by simp, Nat.le_refl _, by simp, by simp; omega, by simp⟩, by (repeat (with_reducible first | exact Ext.refl _ | assumption | refine Ext.drew ?_ | refine Ext.drewN ?_ _ | refine Ext.alloc ?_ _ | refine Ext.trans ?_ (by with_reducible assumption)))⟩
set_option maxRecDepth 100000 in
theorem PrNew_bad (size root : Int) (w : World) (h : ¬ (1 ≤ size ∧ size ≤ 200 ∧ vld root = true)) :
    Calls Tryd.prog 6 #[.int .i64 size, .int .i64 root] w fun e w' => e = .returned (.tuple #[.pointer none, errV 1]) ∧ Ext w w' := by
  have hh : size < 1 ∨ (1 ≤ size ∧ 200 < size) ∨ (1 ≤ size ∧ size ≤ 200 ∧ vld root = false) := by
    by_cases a : 1 ≤ size
    · by_cases b : size ≤ 200
      · cases hv : vld root
        · exact .inr (.inr ⟨a, b, rfl⟩)
        · exact absurd ⟨a, b, hv⟩ h
      · exact .inr (.inl ⟨a, by omega⟩)
    · exact .inl (by omega)
  clear h
  rcases hh with h | ⟨h, h'⟩ | ⟨h, h', hv⟩
  · go_enter Tryd.func6, Tryd.ntmps6
    go_wp2_with fail
    go_ret2
    exact ⟨rfl, Ext.refl _⟩
  · go_enter Tryd.func6, Tryd.ntmps6
    go_wp2_with fail
    go_ret2
    exact ⟨rfl, Ext.refl _⟩
  · go_enter Tryd.func6, Tryd.ntmps6
    go_wp2_with fail
    refine (Valid_any root _).mono ?_
    rw [hv]
    rintro _ _ ⟨rfl, rfl⟩
    go_wp2_with fail
    go_ret2
    exact ⟨rfl, Ext.refl _⟩
/-- what find tells -/
def fdK (size : Int) (K : Kn) (i : Int) : Int := if 0 ≤ i ∧ i < size then (if (K i).isSome then 0 else 5) else 1
/-- .. and the leaf -/
def FdPost (w : World) (base : Nat) (size : Int) (K : Kn) (i : Int) (e : Ending) : Prop :=
  (fdK size K i ≠ 0 ∧ e = .returned (.tuple #[.agg #[.int .i64 0, .slice none 0 0], errR (fdK size K i)])) ∨
  (fdK size K i = 0 ∧ ∃ s p v, K i = some (s, p) ∧ e = .returned (.tuple #[.agg #[.int .i64 s, v], .nilIface]) ∧ w.ownsRow base 3 1 v p.length (p.map (Value.int .i64)))
theorem fdK_range {size i : Int} (K : Kn) (h : ¬ (0 ≤ i ∧ i < size)) : fdK size K i = 1 := if_neg h
theorem fdK_none {size i : Int} {K : Kn} (h : 0 ≤ i ∧ i < size) (hk : K i = none) : fdK size K i = 5 := by unfold fdK; rw [if_pos h, hk]; rfl
theorem fdK_some {size i : Int} {K : Kn} {x : Int × List Int} (h : 0 ≤ i ∧ i < size) (hk : K i = some x) : fdK size K i = 0 := by unfold fdK; rw [if_pos h, hk]; rfl

set_option maxRecDepth 100000 in
theorem find_range {w : World} {base tb mb N cnt : Nat} {size root : Int} {K : Kn} (h : Tr w base tb mb size root N K cnt) (i : Int) (hi : ¬ (0 ≤ i ∧ i < size)) :
    Calls Tryd.prog 39 #[.pointer (some ⟨tb, 0, none⟩), .int .i64 i] w fun e w' => e = .returned (.tuple #[.agg #[.int .i64 0, .slice none 0 0], errV 1]) ∧ Ext w w' := by
  have b0 := (h.bk.alloc (.cells #[.int .i64 0, .slice none 0 0] 79)).cell 0
  have hh : i < 0 ∨ (0 ≤ i ∧ size ≤ i) := by omega
  clear h hi
  rcases hh with hi | ⟨hi, hi'⟩
  all_goals
    go_enter Tryd.func39, Tryd.ntmps39
    go_wp2_with fail
    refine bodyPost_ret (by simp [results, Tryd.results39, go_sem]; try rfl) rfl ?_
    exact ⟨rfl, by (repeat (with_reducible first | exact Ext.refl _ | assumption | refine Ext.drew ?_ | refine Ext.drewN ?_ _ | refine Ext.alloc ?_ _ | refine Ext.trans ?_ (by with_reducible assumption)))⟩

/-- the look-up -/
theorem look_run {w w0 : World} {mb N : Nat} {D : DataW Value} (h : w.ownsMap Tryd.prog 3 elR mb N D) {i : Int} (hi : (kl i).wf = true) {base : Nat} {x : Option (Int × List Int)} (hx : EntK w0 base D i x) :
    ∃ v b, (Instr.lookup 72 (.map (some mb)) (.int .i64 i) true).run Tryd.prog w = .ok (.tuple #[v, .bool b]) w ∧
      ((x = none ∧ b = false ∧ v = .agg #[.int .i64 0, .slice none 0 0]) ∨ (∃ s p u, x = some (s, p) ∧ b = true ∧ v = .agg #[.int .i64 s, u] ∧ w0.ownsRow base 3 1 u p.length (p.map (Value.int .i64)))) := by
  obtain ⟨v, ps, hrun, hv⟩ := h.look_ok (t := 72) (e := 79) (int_keyed Tryd.underlying3) Tryd.underlying72 (Tryd.zeroValue79 w) (zd := .held (.agg #[.int .i64 0, .slice none 0 0])) (zp := []) rfl (keyOf_int_mk Tryd.underlying3 hi)
  refine ⟨v, _, hrun, ?_⟩
  have hv' : DataW.held v = D.atKey (kl i) (.held (.agg #[.int .i64 0, .slice none 0 0])) := by
    unfold elR at hv
    simp only [Option.some.injEq, Prod.mk.injEq] at hv
    exact hv.1
  cases x with
  | none =>
    have hn : Maps.has D (kl i) = false := hx
    rw [Maps.atKey_of_not_has hn] at hv'
    injection hv' with hv'
    exact .inl ⟨rfl, hn, hv'⟩
  | some x =>
    obtain ⟨s, p⟩ := x
    obtain ⟨h1, u, h2, h3⟩ := hx
    rw [h2] at hv'
    injection hv' with hv'
    exact .inr ⟨s, p, u, rfl, h1, hv', h3⟩

set_option maxRecDepth 100000 in
theorem find_in {w : World} {base tb mb N cnt : Nat} {size root : Int} {K : Kn} (h : Tr w base tb mb size root N K cnt) (i : Int) (hi : 0 ≤ i ∧ i < size) (hs : size ≤ 200) :
    Calls Tryd.prog 39 #[.pointer (some ⟨tb, 0, none⟩), .int .i64 i] w fun e w' => (∃ v, e = .returned (.tuple #[v, errR (fdK size K i)]) ∧
      ((K i = none ∧ v = .agg #[.int .i64 0, .slice none 0 0]) ∨ ∃ s p u, K i = some (s, p) ∧ v = .agg #[.int .i64 s, u] ∧ w'.ownsRow base 3 1 u p.length (p.map (Value.int .i64)))) ∧ Ext w w' := by
  obtain ⟨hi0, hi1⟩ := hi
  have hwf : (kl i).wf = true := by simp [Lit.wf, IntKind.min, IntKind.max, IntKind.signed, IntKind.bits]; omega
  have b0 := (h.bk.alloc (.cells #[.int .i64 0, .slice none 0 0] 79)).cell 0
  have b2 := (h.bk.alloc (.cells #[.int .i64 0, .slice none 0 0] 79)).cell 2
  obtain ⟨D, h1, h2, h3⟩ := h.ex
  have X1 : Ext w (w.alloc (.cells #[.int .i64 0, .slice none 0 0] 79)) := by (repeat (with_reducible first | exact Ext.refl _ | assumption | refine Ext.drew ?_ | refine Ext.drewN ?_ _ | refine Ext.alloc ?_ _ | refine Ext.trans ?_ (by with_reducible assumption)))
  obtain ⟨v, b, hrun, hc⟩ := look_run (h1.alloc (.cells #[.int .i64 0, .slice none 0 0] 79)) hwf (h3 i hwf)
  have B1 := Bk.at_ w 79 #[.int .i64 0, .slice none 0 0] w.heap.size rfl
  have f0 := B1.frozen 0
  have f1 := B1.frozen 1
  rcases hc with ⟨hx, rfl, rfl⟩ | ⟨s, p, u, hx, rfl, rfl, ho⟩
  · have HK := Lib.hid (fdK_none ⟨hi0, hi1⟩ hx)
    rw [HK.out]
    clear h h1 h2 h3 hwf
    go_enter Tryd.func39, Tryd.ntmps39
    go_wp2_with fail
    refine bodyPost_ret (by simp [results, Tryd.results39, go_sem]; try rfl) rfl ?_
    exact ⟨⟨_, rfl, .inl ⟨hx, rfl⟩⟩, by (repeat (with_reducible first | exact Ext.refl _ | assumption | refine Ext.drew ?_ | refine Ext.drewN ?_ _ | refine Ext.alloc ?_ _ | refine Ext.trans ?_ (by with_reducible assumption)))⟩
  · have HK := Lib.hid (fdK_some ⟨hi0, hi1⟩ hx)
    rw [HK.out]
    clear h h1 h2 h3 hwf
    obtain ⟨A4, c4, rfl, -, -, -⟩ := own_rd ho
    go_enter Tryd.func39, Tryd.ntmps39
    go_wp2_with fail
    refine bodyPost_ret (by simp [results, Tryd.results39, go_sem]; try rfl) rfl ?_
    exact ⟨⟨_, rfl, .inr ⟨s, p, _, hx, rfl, (ho.alloc _).alloc _⟩⟩, by (repeat (with_reducible first | exact Ext.refl _ | assumption | refine Ext.drew ?_ | refine Ext.drewN ?_ _ | refine Ext.alloc ?_ _ | refine Ext.trans ?_ (by with_reducible assumption)))⟩
theorem fd_none {size i : Int} {K : Kn} (h : ¬ (0 ≤ i ∧ i < size)) : fdK size K i = 1 := if_neg h
/-- find, all ways: what is wrong, the sum, and the proof's row -/
def knS (size : Int) (K : Kn) (i : Int) : Int := if fdK size K i = 0 then ((K i).getD (0, [])).1 else 0
def knP (size : Int) (K : Kn) (i : Int) : List Int := if fdK size K i = 0 then ((K i).getD (0, [])).2 else []
theorem find_any {w : World} {base tb mb N cnt : Nat} {size root : Int} {K : Kn} (h : Tr w base tb mb size root N K cnt) (i : Int) (hs : size ≤ 200) :
    Calls Tryd.prog 39 #[.pointer (some ⟨tb, 0, none⟩), .int .i64 i] w fun e w' => (∃ u, e = .returned (.tuple #[.agg #[.int .i64 (knS size K i), u], errR (fdK size K i)]) ∧
      w'.ownsRow base 3 1 u (knP size K i).length ((knP size K i).map (Value.int .i64))) ∧ Ext w w' := by
  by_cases hi : 0 ≤ i ∧ i < size
  · refine (find_in h i hi hs).mono fun e w' hh => ⟨?_, hh.2⟩
    obtain ⟨⟨v, he, hc⟩, _⟩ := hh
    rcases hc with ⟨h1, rfl⟩ | ⟨s, p, u, h1, rfl, h3⟩
    · have hk := fdK_none hi h1
      have e1 : knS size K i = 0 := if_neg (by rw [hk]; decide)
      have e2 : knP size K i = [] := if_neg (by rw [hk]; decide)
      rw [e1, e2]
      exact ⟨_, he, own_nil _ _ _ _⟩
    · have hk := fdK_some hi h1
      have e1 : knS size K i = s := by unfold knS; rw [if_pos hk, h1]; rfl
      have e2 : knP size K i = p := by unfold knP; rw [if_pos hk, h1]; rfl
      rw [e1, e2]
      exact ⟨_, he, h3⟩
  · have hk := fdK_range K hi
    have e1 : knS size K i = 0 := if_neg (by rw [hk]; decide)
    have e2 : knP size K i = [] := if_neg (by rw [hk]; decide)
    rw [e1, e2, hk]
    exact (find_range h i hi).mono fun e w' hh => ⟨⟨_, hh.1, own_nil _ _ _ _⟩, hh.2⟩
set_option maxRecDepth 100000 in
theorem Knows_any {w : World} {base tb mb N cnt : Nat} {size root : Int} {K : Kn} (h : Tr w base tb mb size root N K cnt) (i : Int) (hs : size ≤ 200) :
    Calls Tryd.prog 15 #[.pointer (some ⟨tb, 0, none⟩), .int .i64 i] w fun e w' => e = .returned (.tuple #[.int .i64 (knS size K i), errR (fdK size K i)]) ∧ Ext w w' := by
  obtain ⟨s, HS⟩ : ∃ s, Hid (knS size K i = s) := ⟨_, rfl⟩
  obtain ⟨p, HP⟩ : ∃ s, Hid (knP size K i = s) := ⟨_, rfl⟩
  obtain ⟨k, HK⟩ : ∃ s, Hid (fdK size K i = s) := ⟨_, rfl⟩
  rw [HS.out, HK.out]
  go_enter Tryd.func15, Tryd.ntmps15
  go_wp2_with fail
  refine (find_any h i hs).mono ?_
  rw [HS.out, HP.out, HK.out]
  rintro _ w1 ⟨⟨u, rfl, ho⟩, hb1⟩
  obtain ⟨A4, c4, rfl, -, -, -⟩ := own_rd ho
  go_wp2_with fail
  go_ret2
  exact ⟨rfl, by (repeat (with_reducible first | exact Ext.refl _ | assumption | refine Ext.drew ?_ | refine Ext.drewN ?_ _ | refine Ext.alloc ?_ _ | refine Ext.trans ?_ (by with_reducible assumption)))⟩
set_option maxRecDepth 100000 in
theorem Prove_any {w : World} {base tb mb N cnt : Nat} {size root : Int} {K : Kn} (h : Tr w base tb mb size root N K cnt) (i : Int) (hs : size ≤ 200) (hp : (knP size K i).length ≤ 4096) :
    Calls Tryd.prog 16 #[.pointer (some ⟨tb, 0, none⟩), .int .i64 i] w fun e w' => (∃ v, e = .returned (.tuple #[v, errR (fdK size K i)]) ∧ OwnI w w' v (knP size K i)) ∧ Ext w w' := by
  obtain ⟨s, HS⟩ : ∃ s, Hid (knS size K i = s) := ⟨_, rfl⟩
  obtain ⟨p, HP⟩ : ∃ s, Hid (knP size K i = s) := ⟨_, rfl⟩
  obtain ⟨k, HK⟩ : ∃ s, Hid (fdK size K i = s) := ⟨_, rfl⟩
  rw [HP.out, HK.out]
  rw [HP.out] at hp
  go_enter Tryd.func16, Tryd.ntmps16
  go_wp2_with fail
  refine (find_any h i hs).mono ?_
  rw [HS.out, HP.out, HK.out]
  rintro _ w1 ⟨⟨u, rfl, ho⟩, hb1⟩
  obtain ⟨A4, c4, rfl, -, -, -⟩ := own_rd ho
  have HO := Lib.hid (World.ownsRow.alloc ho (.cells #[.int .i64 s, .slice A4 p.length c4] 79))
  clear ho
  go_wp2_with fail
  refine (Clone_own HO.out hp).mono ?_
  rintro _ w2 ⟨⟨v2, rfl, o2⟩, hb2⟩
  go_wp2_with fail
  go_ret2
  refine ⟨⟨_, rfl, own_lower o2 ?_⟩, by (repeat (with_reducible first | exact Ext.refl _ | assumption | refine Ext.drew ?_ | refine Ext.drewN ?_ _ | refine Ext.alloc ?_ _ | refine Ext.trans ?_ (by with_reducible assumption)))⟩
  simp
  have := hb1.size
  omega
end Go.Proofs.YtmknpehjncpekaaDoor

/- Prune: Learn and Forget. -/
namespace Go.Proofs.YtmknpehjncpekaaDoor
open Go.RowKit Go.WideShapes
open Go.Maps (int_keyed keyOf_int_mk)
set_option linter.unusedVariables false
attribute [local go_sem ↓] Go.wp_at_zero Go.wp_at_succ

theorem own_map {w w' : World} {base n size mb : Nat} {e : TypeId} {v : Value} {xs : List Value} (h : w.ownsRow base e size v n xs) (hg : w.grownBy w' (some mb)) {es : Array MapEntry} {ck : Nat} (hm : w.heap[mb]? = some (.map es ck)) : w'.ownsRow base e size v n xs := by
  refine h.kept hg ?_
  rcases h.2 with ⟨rfl, _⟩ | ⟨g, cap, cur, rfl, _, hh, _⟩
  · exact .inl rfl
  · refine .inr fun e => ?_
    simp [Value.ownBlock] at e
    subst e
    rw [hm] at hh
    cases hh
theorem EntK.mapped {w w' : World} {base mb : Nat} {D : DataW Value} {i : Int} {x : Option (Int × List Int)} (h : EntK w base D i x) (hg : w.grownBy w' (some mb)) {es : Array MapEntry} {ck : Nat} (hm : w.heap[mb]? = some (.map es ck)) : EntK w' base D i x := by
  cases x with
  | none => exact h
  | some x =>
    obtain ⟨s, p⟩ := x
    obtain ⟨h1, v, h2, h3⟩ := h
    exact ⟨h1, v, h2, own_map h3 hg hm⟩
theorem kl_ne {i j : Int} (h : j ≠ i) : kl j ≠ kl i := fun e => by injection e with _ e; exact h e
theorem EntK.put {w : World} {base : Nat} {D : DataW Value} {i j : Int} {x : Option (Int × List Int)} (hj : j ≠ i) (d : DataW Value) (h : EntK w base D j x) : EntK w base (D.put (kl i) d) j x := by
  cases x with
  | none => exact (Maps.has_put_other (kl_ne hj) d).trans h
  | some x =>
    obtain ⟨s, p⟩ := x
    obtain ⟨h1, v, h2, h3⟩ := h
    exact ⟨(Maps.has_put_other (kl_ne hj) d).trans h1, v, fun z => (Maps.atKey_put_other (kl_ne hj) d z).trans (h2 z), h3⟩
theorem EntK.del {w : World} {base : Nat} {D : DataW Value} {i j : Int} {x : Option (Int × List Int)} (hj : j ≠ i) (h : EntK w base D j x) : EntK w base (D.del (kl i)) j x := by
  cases x with
  | none => exact (Maps.has_del_other (kl_ne hj)).trans h
  | some x =>
    obtain ⟨s, p⟩ := x
    obtain ⟨h1, v, h2, h3⟩ := h
    exact ⟨(Maps.has_del_other (kl_ne hj)).trans h1, v, fun z => (Maps.atKey_del_other (kl_ne hj) z).trans (h2 z), h3⟩
theorem EntK.hasK {w : World} {base : Nat} {D : DataW Value} {i : Int} {x : Option (Int × List Int)} (h : EntK w base D i x) : Maps.has D (kl i) = x.isSome := by
  cases x with
  | none => exact h
  | some x => exact h.1
def cntL (K : Kn) (i : Int) (cnt : Nat) : Nat := if (K i).isSome then cnt else cnt + 1

/-- a leaf was stored -/
theorem Tr.put {w : World} {base tb mb N cnt : Nat} {size root : Int} {K : Kn} (h : Tr w base tb mb size root N K cnt) (hN : N < 1000000) {i s : Int} {p : List Int} {v : Value} (hi : (kl i).wf = true) (hv : w.ownsRow base 3 1 v p.length (p.map (Value.int .i64))) :
    ∃ w', (Instr.mapUpdate 72 (.map (some mb)) (.int .i64 i) (.agg #[.int .i64 s, v])).run Tryd.prog w = .ok () w' ∧ Tr w' base tb mb size root (N + 1) (K.set i (some (s, p))) (cntL K i cnt) ∧ w.grownBy w' (some mb) := by
  obtain ⟨D, h1, h2, h3⟩ := h.ex
  have hK := int_keyed (P := Tryd.prog) Tryd.underlying3
  have hkey := keyOf_int_mk (P := Tryd.prog) Tryd.underlying3 hi
  obtain ⟨w', hrun, hown, ht⟩ := h1.store (t := 72) (e := 79) hK Tryd.underlying72 (by simp only [maxLen]; omega) hkey (val := .agg #[.int .i64 s, v]) (d := .held (.agg #[.int .i64 s, v])) (ps := []) rfl
  have hg := ht.grown
  obtain ⟨es, ck, hb, _⟩ := id h1
  refine ⟨w', hrun, ⟨h.bk.kept hg ?_, D.put (kl i) (.held (.agg #[.int .i64 s, v])), hown, ?_, fun j hj => ?_⟩, hg⟩
  · intro e
    injection e with e
    have := h.bk
    unfold Bk at this
    rw [← e, hb] at this
    cases this
  · rw [Maps.size_put (h1.tidy hK), (h3 i hi).hasK, h2]
    rfl
  · by_cases hji : j = i
    · subst hji
      have e1 : (K.set j (some (s, p))) j = some (s, p) := if_pos rfl
      rw [e1]
      exact ⟨Maps.has_put_same h1.isMap (hK.key hkey) _, v, fun z => Maps.atKey_put_same h1.isMap (hK.key hkey) _ z, own_map hv hg hb⟩
    · have e1 : (K.set i (some (s, p))) j = K j := if_neg hji
      rw [e1]
      exact ((h3 j hj).mapped hg hb).put hji _
/-- a leaf was struck -/
theorem Tr.del {w : World} {base tb mb N cnt : Nat} {size root : Int} {K : Kn} (h : Tr w base tb mb size root N K cnt) {i : Int} (hi : (kl i).wf = true) (ty : TypeId) :
    ∃ w', (Builtin.delete_ #[72, 3] ty #[.map (some mb), .int .i64 i]).run Tryd.prog w = .ok (.tuple #[]) w' ∧ Tr w' base tb mb size root N (K.set i none) (cnt - (if (K i).isSome then 1 else 0)) ∧ w.grownBy w' (some mb) := by
  obtain ⟨D, h1, h2, h3⟩ := h.ex
  have hK := int_keyed (P := Tryd.prog) Tryd.underlying3
  have hkey := keyOf_int_mk (P := Tryd.prog) Tryd.underlying3 hi
  obtain ⟨w', hrun, hown, ht⟩ := h1.drop (t := 72) (e := 79) hK Tryd.underlying72 hkey ty
  have hg := ht.grown
  obtain ⟨es, ck, hb, _⟩ := id h1
  refine ⟨w', hrun, ⟨h.bk.kept hg ?_, D.del (kl i), hown, ?_, fun j hj => ?_⟩, hg⟩
  · intro e
    injection e with e
    have := h.bk
    unfold Bk at this
    rw [← e, hb] at this
    cases this
  · have := Maps.size_del (k := kl i) (h1.tidy hK)
    rw [(h3 i hi).hasK, h2] at this
    omega
  · by_cases hji : j = i
    · subst hji
      have e1 : (K.set j none) j = none := if_pos rfl
      rw [e1]
      exact Maps.has_del_same
    · have e1 : (K.set i none) j = K j := if_neg hji
      rw [e1]
      exact ((h3 j hj).mapped hg hb).del hji

set_option maxRecDepth 100000 in
theorem Forget_ok {w : World} {base tb mb N cnt : Nat} {size root : Int} {K : Kn} (h : Tr w base tb mb size root N K cnt) (i : Int) (hs : size ≤ 200) (hk : fdK size K i = 0) (hi : (kl i).wf = true) :
    Calls Tryd.prog 14 #[.pointer (some ⟨tb, 0, none⟩), .int .i64 i] w fun e w' => e = .returned .nilIface ∧ Tr w' base tb mb size root N (K.set i none) (cnt - 1) ∧ w.grownBy w' (some mb) := by
  have hsome : (K i).isSome = true := by
    unfold fdK at hk
    by_cases h1 : 0 ≤ i ∧ i < size
    · rw [if_pos h1] at hk
      cases hx : K i with
      | none => rw [hx] at hk; cases hk
      | some x => rfl
    · rw [if_neg h1] at hk; cases hk
  go_enter Tryd.func14, Tryd.ntmps14
  go_wp2_with fail
  refine (find_any h i hs).mono ?_
  rw [hk]
  rintro _ w1 ⟨⟨u, rfl, ho⟩, hb1⟩
  obtain ⟨A4, c4, rfl, -, -, -⟩ := own_rd ho
  have X1 : Ext w (w1.alloc (.cells #[.int .i64 (knS size K i), .slice A4 (knP size K i).length c4] 79)) := by (repeat (with_reducible first | exact Ext.refl _ | assumption | refine Ext.drew ?_ | refine Ext.drewN ?_ _ | refine Ext.alloc ?_ _ | refine Ext.trans ?_ (by with_reducible assumption)))
  have h2 := h.ext X1
  obtain ⟨w3, hrun, h3, hg3⟩ := h2.del hi 0
  have b2 := h2.bk.cell 2
  simp only [errR_0]
  go_wp2_with fail
  go_ret
  rw [if_pos hsome] at h3
  exact ⟨rfl, h3, X1.gbt hg3⟩

set_option maxRecDepth 100000 in
set_option maxHeartbeats 2000000 in
theorem Learn_ok {w : World} {base tb mb N cnt : Nat} {size root : Int} {K : Kn} (h : Tr w base tb mb size root N K cnt) (hN : N < 1000000) (i s : Int) (A : Option Addr) (m c : Nat) (p : List Int) (hr : Rd w 1 A m c (p.map (Value.int .i64))) (hm : c ≤ maxLen) (hl : m ≤ 4096)
    (hb : base ≤ w.heap.size) (hc : pcheck root size i s p = 0) (hK : K i = none ∨ ∃ q, K i = some (s, q)) (hi : (kl i).wf = true) :
    Calls Tryd.prog 13 #[.pointer (some ⟨tb, 0, none⟩), .int .i64 i, .int .i64 s, .slice A m c] w fun e w' => e = .returned .nilIface ∧ Tr w' base tb mb size root (N + 1) (K.set i (some (s, p))) (cntL K i cnt) ∧ w.grownBy w' (some mb) := by
  have b0 := h.bk.cell 0
  have b1 := h.bk.cell 1
  have HC := Lib.hid hc
  go_enter Tryd.func13, Tryd.ntmps13
  go_wp2_with fail
  go_region_held3 (fun W => W.cell? ⟨tb, 0, none⟩ = some (.int .i64 size) ∧ W.cell? ⟨tb, 1, none⟩ = some (.int .i64 root)) (first | exact ⟨b0, b1⟩ | exact ⟨(h.bk.ext (by (repeat (with_reducible first | exact Ext.refl _ | assumption | refine Ext.drew ?_ | refine Ext.drewN ?_ _ | refine Ext.alloc ?_ _ | refine Ext.trans ?_ (by with_reducible assumption))))).cell 0, (h.bk.ext (by (repeat (with_reducible first | exact Ext.refl _ | assumption | refine Ext.drew ?_ | refine Ext.drewN ?_ _ | refine Ext.alloc ?_ _ | refine Ext.trans ?_ (by with_reducible assumption))))).cell 1⟩) (first
    | (go_at_call 37; (with_reducible refine (PCheck_any root size i s A m c p _ (hr.ext (by (repeat (with_reducible first | exact Ext.refl _ | assumption | refine Ext.drew ?_ | refine Ext.drewN ?_ _ | refine Ext.alloc ?_ _ | refine Ext.trans ?_ (by with_reducible assumption))))) hm).mono ?_); rw [HC.out]; rintro _ w1 ⟨rfl, hb1⟩)
    | fail)
  have X1 : Ext w w1 := by (repeat (with_reducible first | exact Ext.refl _ | assumption | refine Ext.drew ?_ | refine Ext.drewN ?_ _ | refine Ext.alloc ?_ _ | refine Ext.trans ?_ (by with_reducible assumption)))
  have h1 := h.ext X1
  have b2 := h1.bk.cell 2
  obtain ⟨D, d1, d2, d3⟩ := h1.ex
  obtain ⟨v, b, hrun, hcs⟩ := look_run d1 hi (d3 i hi)
  clear b0 b1 d1 d2 d3
  simp only [errR_0]
  rcases hcs with ⟨hx, rfl, rfl⟩ | ⟨s', q, u, hx, rfl, rfl, ho⟩
  · skip
    go_wp2_with fail
    have X2 : Ext w (w1.alloc (.cells #[.int .i64 0, .slice none 0 0] 79)) := X1.alloc _
    have h2 := h1.ext (Ext.alloc (Ext.refl w1) (.cells #[.int .i64 0, .slice none 0 0] 79))
    generalize w1.alloc (.cells #[.int .i64 0, .slice none 0 0] 79) = w2 at *
    have c2 := h2.bk.cell 2
    go_region_held3 (fun W => W.cell? ⟨tb, 2, none⟩ = some (.map (some mb))) (first | exact c2 | exact h5.bk.cell 2 | exact (h2.bk.ext (by (repeat (with_reducible first | exact Ext.refl _ | assumption | refine Ext.drew ?_ | refine Ext.drewN ?_ _ | refine Ext.alloc ?_ _ | refine Ext.trans ?_ (by with_reducible assumption))))).cell 2) (first
      | (go_at_call 38; (with_reducible refine (Clone_rd (hr.ext (Ext.trans X2 (by (repeat (with_reducible first | exact Ext.refl _ | assumption | refine Ext.drew ?_ | refine Ext.drewN ?_ _ | refine Ext.alloc ?_ _ | refine Ext.trans ?_ (by with_reducible assumption)))))) hl).mono ?_); rintro _ w4 ⟨⟨v4, rfl, o4⟩, hb4⟩; obtain ⟨A4, c4, rfl, -, -, -⟩ := own_rd o4; have h4 := h2.ext (show Ext w2 w4 by (repeat (with_reducible first | exact Ext.refl _ | assumption | refine Ext.drew ?_ | refine Ext.drewN ?_ _ | refine Ext.alloc ?_ _ | refine Ext.trans ?_ (by with_reducible assumption)))); obtain ⟨w5, hrun5, h5, hg5⟩ := h4.put hN (s := s) hi (own_lower o4 (by have := X2.size; simp; omega)))
      | fail)
    go_wp2_with fail
    go_ret
    exact ⟨rfl, h5, Ext.gbt (show Ext w w4 by (repeat (with_reducible first | exact Ext.refl _ | assumption | refine Ext.drew ?_ | refine Ext.drewN ?_ _ | refine Ext.alloc ?_ _ | refine Ext.trans ?_ (by with_reducible assumption)))) hg5⟩
  · obtain rfl : s' = s := by
      rcases hK with h0 | ⟨q0, h0⟩
      · rw [h0] at hx; cases hx
      · rw [h0] at hx; injection hx with hx; injection hx with hx; exact hx.symm
    obtain ⟨A3, c3, rfl, -, -, -⟩ := own_rd ho
    go_wp2_with fail
    have X2 : Ext w (w1.alloc (.cells #[.int .i64 s', .slice A3 q.length c3] 79)) := X1.alloc _
    have h2 := h1.ext (Ext.alloc (Ext.refl w1) (.cells #[.int .i64 s', .slice A3 q.length c3] 79))
    generalize w1.alloc (.cells #[.int .i64 s', .slice A3 q.length c3] 79) = w2 at *
    have c2 := h2.bk.cell 2
    go_region_held3 (fun W => W.cell? ⟨tb, 2, none⟩ = some (.map (some mb))) (first | exact c2 | exact h5.bk.cell 2 | exact (h2.bk.ext (by (repeat (with_reducible first | exact Ext.refl _ | assumption | refine Ext.drew ?_ | refine Ext.drewN ?_ _ | refine Ext.alloc ?_ _ | refine Ext.trans ?_ (by with_reducible assumption))))).cell 2) (first
      | (go_at_call 38; (with_reducible refine (Clone_rd (hr.ext (Ext.trans X2 (by (repeat (with_reducible first | exact Ext.refl _ | assumption | refine Ext.drew ?_ | refine Ext.drewN ?_ _ | refine Ext.alloc ?_ _ | refine Ext.trans ?_ (by with_reducible assumption)))))) hl).mono ?_); rintro _ w4 ⟨⟨v4, rfl, o4⟩, hb4⟩; obtain ⟨A4, c4, rfl, -, -, -⟩ := own_rd o4; have h4 := h2.ext (show Ext w2 w4 by (repeat (with_reducible first | exact Ext.refl _ | assumption | refine Ext.drew ?_ | refine Ext.drewN ?_ _ | refine Ext.alloc ?_ _ | refine Ext.trans ?_ (by with_reducible assumption)))); obtain ⟨w5, hrun5, h5, hg5⟩ := h4.put hN (s := s') hi (own_lower o4 (by have := X2.size; simp; omega)))
      | fail)
    go_wp2_with fail
    go_ret
    exact ⟨rfl, h5, Ext.gbt (show Ext w w4 by (repeat (with_reducible first | exact Ext.refl _ | assumption | refine Ext.drew ?_ | refine Ext.drewN ?_ _ | refine Ext.alloc ?_ _ | refine Ext.trans ?_ (by with_reducible assumption)))) hg5⟩
/-- another block is written -/
theorem Tr.far {w w' : World} {base tb mb N cnt g : Nat} {size root : Int} {K : Kn} (h : Tr w base tb mb size root N K cnt) (hg : w.grownBy w' (some g)) (h1 : g ≠ tb) (h2 : g ≠ mb) (h3 : g < base) : Tr w' base tb mb size root N K cnt := by
  obtain ⟨D, d1, d2, d3⟩ := h.ex
  refine ⟨h.bk.kept hg (fun e => h1 (by injection e)), D, d1.kept hg (fun e => h2 (by injection e with e; exact e.symm)), d2, fun i hi => ?_⟩
  have := d3 i hi
  cases hx : K i with
  | none => rw [hx] at this; exact this
  | some x =>
    rw [hx] at this
    obtain ⟨s, p⟩ := x
    obtain ⟨q1, v, q2, q3⟩ := this
    exact ⟨q1, v, q2, q3.kept hg (by
      rcases q3.2 with ⟨rfl, _⟩ | ⟨g', cap, cur, rfl, hle, _⟩
      · exact .inl rfl
      · refine .inr fun e => ?_
        simp [Value.ownBlock] at e
        omega)⟩
theorem Tr.pos {w : World} {base tb mb N cnt : Nat} {size root : Int} {K : Kn} (h : Tr w base tb mb size root N K cnt) {i : Int} (hi : (kl i).wf = true) (hs : (K i).isSome = true) : 1 ≤ cnt := by
  obtain ⟨D, h1, h2, h3⟩ := h.ex
  have := Maps.size_del (k := kl i) (h1.tidy (int_keyed (P := Tryd.prog) Tryd.underlying3))
  rw [(h3 i hi).hasK, h2, hs] at this
  simp at this
  omega
end Go.Proofs.YtmknpehjncpekaaDoor

/- Prune: the proofs that are made, learned. -/
namespace Go.Proofs.YtmknpehjncpekaaDoor
open Go.RowKit
set_option linter.unusedVariables false

theorem kl_wf {i : Int} (h : 0 ≤ i) (h2 : i ≤ 1000000) : (kl i).wf = true := by simp [Lit.wf, IntKind.min, IntKind.max, IntKind.signed, IntKind.bits]; omega
/-! ### how many are known -/
def cntN (f : Nat → Bool) : Nat → Nat
  | 0 => 0
  | n + 1 => cntN f n + (if f n = true then 1 else 0)
theorem cntN_le (f : Nat → Bool) : ∀ n, cntN f n ≤ n
  | 0 => Nat.le_refl _
  | n + 1 => by
    have := cntN_le f n
    rw [cntN]
    split <;> omega
theorem cntN_same {f g : Nat → Bool} : ∀ {n : Nat}, (∀ j, j < n → f j = g j) → cntN f n = cntN g n
  | 0, _ => rfl
  | n + 1, h => by rw [cntN, cntN, cntN_same (n := n) fun j hj => h j (by omega), h n (by omega)]
theorem cntN_set {f g : Nat → Bool} {i : Nat} (h : ∀ j, j ≠ i → f j = g j) : ∀ {n : Nat}, i < n → cntN g n + (if f i = true then 1 else 0) = cntN f n + (if g i = true then 1 else 0)
  | 0, hi => by omega
  | n + 1, hi => by
    rw [cntN, cntN]
    by_cases hin : i = n
    · subst hin
      rw [cntN_same (f := f) (g := g) fun j hj => h j (by omega)]
      omega
    · have := cntN_set h (n := n) (by omega)
      rw [h n (by omega)]
      omega
theorem cntN_none : ∀ n, cntN (fun _ => false) n = 0
  | 0 => rfl
  | n + 1 => by rw [cntN, cntN_none n]; rfl
/-- all that is known is right -/
structure KGood (xs : List Int) (n : Nat) (K : Kn) (cnt : Nat) : Prop where
  inv : ∀ (j : Int) (s : Int) (q : List Int), K j = some (s, q) → ∃ jn : Nat, j = (jn : Int) ∧ xs[jn]? = some s ∧ q = wayL xs jn
  num : cnt = cntN (fun j => (K (j : Int)).isSome) n
theorem KGood.start (xs : List Int) (n : Nat) : KGood xs n (fun _ => none) 0 := ⟨fun j s q h => (by cases h), (cntN_none n).symm⟩
theorem KGood.learn {xs : List Int} {n cnt i : Nat} {K : Kn} {z : Int} (h : KGood xs n K cnt) (hz : xs[i]? = some z) (hi : i < n) : KGood xs n (K.set (i : Int) (some (z, wayL xs i))) (cntL K (i : Int) cnt) := by
  refine ⟨fun j s q hj => ?_, ?_⟩
  · unfold Kn.set at hj
    by_cases e : j = (i : Int)
    · rw [if_pos e] at hj
      injection hj with hj
      injection hj with h1 h2
      subst h1 h2 e
      exact ⟨i, rfl, hz, rfl⟩
    · rw [if_neg e] at hj
      exact h.inv j s q hj
  · have := cntN_set (f := fun j => (K (j : Int)).isSome) (g := fun j : Nat => (K.set (i : Int) (some (z, wayL xs i)) (j : Int)).isSome) (i := i) (fun j hj => by
      show _ = Option.isSome (Kn.set _ _ _ _)
      unfold Kn.set
      rw [if_neg (by omega)]) hi
    have e1 : (K.set (i : Int) (some (z, wayL xs i)) (i : Int)).isSome = true := by unfold Kn.set; rw [if_pos rfl]; rfl
    simp only [e1, if_true] at this
    unfold cntL
    rw [h.num]
    cases hk : (K (i : Int)).isSome
    · rw [hk] at this; simp at this ⊢; omega
    · rw [hk] at this; simp at this ⊢; omega
theorem KGood.forget {xs : List Int} {n cnt i : Nat} {K : Kn} (h : KGood xs n K cnt) (hs : (K (i : Int)).isSome = true) (hi : i < n) : KGood xs n (K.set (i : Int) none) (cnt - 1) := by
  refine ⟨fun j s q hj => ?_, ?_⟩
  · unfold Kn.set at hj
    by_cases e : j = (i : Int)
    · rw [if_pos e] at hj; cases hj
    · rw [if_neg e] at hj
      exact h.inv j s q hj
  · have := cntN_set (f := fun j => (K (j : Int)).isSome) (g := fun j : Nat => (K.set (i : Int) none (j : Int)).isSome) (i := i) (fun j hj => by
      show _ = Option.isSome (Kn.set _ _ _ _)
      unfold Kn.set
      rw [if_neg (by omega)]) hi
    have e1 : (K.set (i : Int) none (i : Int)).isSome = false := by unfold Kn.set; rw [if_pos rfl]; rfl
    simp only [e1, hs] at this
    rw [h.num]
    simp at this
    omega
theorem KGood.other {xs : List Int} {n cnt i : Nat} {K : Kn} {z : Int} (h : KGood xs n K cnt) (hz : xs[i]? = some z) : K (i : Int) = none ∨ ∃ q, K (i : Int) = some (z, q) := by
  cases hk : K (i : Int) with
  | none => exact .inl rfl
  | some x =>
    obtain ⟨s, q⟩ := x
    obtain ⟨jn, e, h2, _⟩ := h.inv _ _ _ hk
    have : i = jn := by omega
    subst this
    rw [hz] at h2
    injection h2 with h2
    subst h2
    exact .inr ⟨q, rfl⟩
theorem KGood.le {xs : List Int} {n cnt : Nat} {K : Kn} (h : KGood xs n K cnt) : cnt ≤ n := by rw [h.num]; exact cntN_le _ _
theorem set_known {K : Kn} {i size : Int} {z : Int} {p : List Int} (h : 0 ≤ i ∧ i < size) : fdK size (K.set i (some (z, p))) i = 0 ∧ knS size (K.set i (some (z, p))) i = z ∧ knP size (K.set i (some (z, p))) i = p := by
  have e1 : K.set i (some (z, p)) i = some (z, p) := if_pos rfl
  have e2 := fdK_some h e1
  refine ⟨e2, ?_, ?_⟩
  · unfold knS; rw [if_pos e2, e1]; rfl
  · unfold knP; rw [if_pos e2, e1]; rfl
theorem way_two : wayL [5, 6] 0 = [6] ∧ ofL [5, 6] = nodeL 5 6 := by
  have h2 : half 2 = 1 := half_eq (n := 2) (k := 0) (by decide) (by decide) (by decide) (by decide)
  constructor
  · rw [wayL_left (by decide) (by decide) (by show 0 < half 2; rw [h2]; decide)]
    show wayL (List.take (half 2) [5, 6]) 0 ++ [ofL (List.drop (half 2) [5, 6])] = [6]
    rw [h2]
    show wayL [5] 0 ++ [ofL [6]] = [6]
    rw [wayL_one (by decide), ofL_one]; rfl
  · rw [ofL_node (by decide) (by decide)]
    show nodeL (ofL (List.take (half 2) [5, 6])) (ofL (List.drop (half 2) [5, 6])) = _
    rw [h2]
    show nodeL (ofL [5]) (ofL [6]) = _
    rw [ofL_one, ofL_one]
theorem Tr.mlt {w : World} {base tb mb N cnt : Nat} {size root : Int} {K : Kn} (h : Tr w base tb mb size root N K cnt) : mb < w.heap.size := by
  obtain ⟨D, h1, _⟩ := h.ex
  exact h1.lt
theorem fdK_known {size i : Int} {K : Kn} (h : fdK size K i = 0) : (K i).isSome = true := by
  unfold fdK at h
  by_cases h1 : 0 ≤ i ∧ i < size
  · rw [if_pos h1] at h
    cases hk : (K i).isSome
    · rw [hk] at h; cases h
    · rfl
  · rw [if_neg h1] at h; cases h
end Go.Proofs.YtmknpehjncpekaaDoor

/- Prune: Many. -/
namespace Go.Proofs.YtmknpehjncpekaaDoor
open Go.RowKit Go.WideShapes
open Go.Maps (int_keyed keyOf_int_mk)
set_option linter.unusedVariables false
attribute [local go_sem ↓] Go.wp_at_zero Go.wp_at_succ

set_option maxRecDepth 100000 in
theorem Many_any {w : World} {base tb mb N cnt : Nat} {size root : Int} {K : Kn} (h : Tr w base tb mb size root N K cnt) :
    Calls Tryd.prog 18 #[.pointer (some ⟨tb, 0, none⟩)] w fun e w' => e = .returned (.int .i64 cnt) ∧ w = w' := by
  obtain ⟨D, h1, h2, h3⟩ := h.ex
  have hlen := h1.len (t := 72) (e := 79) Tryd.underlying72 3
  rw [h2] at hlen
  have b2 := h.bk.cell 2
  clear h h1 h2 h3
  go_enter Tryd.func18, Tryd.ntmps18
  go_wp2_with fail
  go_ret
  exact ⟨rfl, rfl⟩

end Go.Proofs.YtmknpehjncpekaaDoor

/- Prune: Learn and Forget, all ways. -/
namespace Go.Proofs.YtmknpehjncpekaaDoor
open Go.RowKit Go.WideShapes
open Go.Maps (int_keyed keyOf_int_mk)
set_option linter.unusedVariables false
attribute [local go_sem ↓] Go.wp_at_zero Go.wp_at_succ

theorem stepsN_le (N : Nat) : ∀ (i n : Nat), n ≤ N → n ≤ 4096 → stepsN i n ≤ n := by
  induction N with
  | zero => intro i n h _; rw [stepsN_one i (by omega)]; omega
  | succ N ih =>
    intro i n hN hn
    by_cases h2 : 2 ≤ n
    · have hl := half_lt (n := n) h2 hn
      have hp := half_pos n
      by_cases hi : i < half n
      · rw [stepsN_left h2 hn hi]
        have := ih i (half n) (by omega) (by omega)
        omega
      · rw [stepsN_right h2 hn hi]
        have := ih (i - half n) (n - half n) (by omega) (by omega)
        omega
    · rw [stepsN_one i h2]; omega
def clashB (K : Kn) (i s : Int) : Bool := match K i with | some (z, _) => decide (z ≠ s) | none => false
def learnK (size root : Int) (K : Kn) (i s : Int) (p : List Int) : Int := if pcheck root size i s p ≠ 0 then pcheck root size i s p else if clashB K i s = true then 7 else 0
theorem learnK_bad {size root : Int} {K : Kn} {i s : Int} {p : List Int} (h : pcheck root size i s p ≠ 0) : learnK size root K i s p = pcheck root size i s p := if_pos h
theorem learnK_clash {size root : Int} {K : Kn} {i s : Int} {p : List Int} (h : pcheck root size i s p = 0) (hc : clashB K i s = true) : learnK size root K i s p = 7 := by unfold learnK; rw [if_neg (not_not_intro h), if_pos hc]
theorem learnK_ok {size root : Int} {K : Kn} {i s : Int} {p : List Int} (h : pcheck root size i s p = 0) (hc : clashB K i s = false) : learnK size root K i s p = 0 := by unfold learnK; rw [if_neg (not_not_intro h), if_neg (by rw [hc]; decide)]
theorem learn_zero {size root : Int} {K : Kn} {i s : Int} {p : List Int} (h : learnK size root K i s p = 0) : pcheck root size i s p = 0 ∧ clashB K i s = false := by
  unfold learnK at h
  by_cases h1 : pcheck root size i s p = 0
  · rw [if_neg (not_not_intro h1)] at h
    cases hc : clashB K i s with
    | false => exact ⟨h1, rfl⟩
    | true => rw [hc, if_pos rfl] at h; cases h
  · rw [if_pos h1] at h; exact absurd h h1
set_option maxRecDepth 100000 in
set_option maxHeartbeats 2000000 in
theorem Learn_bad {w : World} {base tb mb N cnt : Nat} {size root : Int} {K : Kn} (h : Tr w base tb mb size root N K cnt) (i s : Int) (A : Option Addr) (m c : Nat) (p : List Int) (hr : Rd w 1 A m c (p.map (Value.int .i64))) (hm : c ≤ maxLen)
    (hc : pcheck root size i s p ≠ 0) :
    Calls Tryd.prog 13 #[.pointer (some ⟨tb, 0, none⟩), .int .i64 i, .int .i64 s, .slice A m c] w fun e w' => e = .returned (errR (pcheck root size i s p)) ∧ Ext w w' := by
  obtain ⟨hE, hN, hG0⟩ := errR_rules
  have b0 := h.bk.cell 0
  have b1 := h.bk.cell 1
  obtain ⟨k, hk⟩ : ∃ k, pcheck root size i s p = k := ⟨_, rfl⟩
  have HK := Lib.hid hk
  rw [hk] at hc ⊢
  have hok := isOk_no hc
  clear hk hc
  go_enter Tryd.func13, Tryd.ntmps13
  go_wp2_with fail
  go_region_held3 (fun W => W.cell? ⟨tb, 0, none⟩ = some (.int .i64 size) ∧ W.cell? ⟨tb, 1, none⟩ = some (.int .i64 root)) (first | exact ⟨b0, b1⟩ | exact ⟨(h.bk.ext (by (repeat (with_reducible first | exact Ext.refl _ | assumption | refine Ext.drew ?_ | refine Ext.drewN ?_ _ | refine Ext.alloc ?_ _ | refine Ext.trans ?_ (by with_reducible assumption))))).cell 0, (h.bk.ext (by (repeat (with_reducible first | exact Ext.refl _ | assumption | refine Ext.drew ?_ | refine Ext.drewN ?_ _ | refine Ext.alloc ?_ _ | refine Ext.trans ?_ (by with_reducible assumption))))).cell 1⟩) (first
    | (go_at_call 37; (with_reducible refine (PCheck_any root size i s A m c p _ (hr.ext (by (repeat (with_reducible first | exact Ext.refl _ | assumption | refine Ext.drew ?_ | refine Ext.drewN ?_ _ | refine Ext.alloc ?_ _ | refine Ext.trans ?_ (by with_reducible assumption))))) hm).mono ?_); rw [HK.out]; rintro _ w1 ⟨rfl, hb1⟩)
    | fail)
  all_goals
    have X1 : Ext w w1 := by (repeat (with_reducible first | exact Ext.refl _ | assumption | refine Ext.drew ?_ | refine Ext.drewN ?_ _ | refine Ext.alloc ?_ _ | refine Ext.trans ?_ (by with_reducible assumption)))
    go_wp2_with fail
    go_ret
    exact ⟨rfl, X1⟩
set_option maxRecDepth 100000 in
set_option maxHeartbeats 2000000 in
theorem Learn_clash {w : World} {base tb mb N cnt : Nat} {size root : Int} {K : Kn} (h : Tr w base tb mb size root N K cnt) (i s : Int) (A : Option Addr) (m c : Nat) (p : List Int) (hr : Rd w 1 A m c (p.map (Value.int .i64))) (hm : c ≤ maxLen)
    (hc : pcheck root size i s p = 0) (hcl : clashB K i s = true) (hi : (kl i).wf = true) :
    Calls Tryd.prog 13 #[.pointer (some ⟨tb, 0, none⟩), .int .i64 i, .int .i64 s, .slice A m c] w fun e w' => e = .returned (errV 7) ∧ Ext w w' := by
  have b0 := h.bk.cell 0
  have b1 := h.bk.cell 1
  have HC := Lib.hid hc
  go_enter Tryd.func13, Tryd.ntmps13
  go_wp2_with fail
  go_region_held3 (fun W => W.cell? ⟨tb, 0, none⟩ = some (.int .i64 size) ∧ W.cell? ⟨tb, 1, none⟩ = some (.int .i64 root)) (first | exact ⟨b0, b1⟩ | exact ⟨(h.bk.ext (by (repeat (with_reducible first | exact Ext.refl _ | assumption | refine Ext.drew ?_ | refine Ext.drewN ?_ _ | refine Ext.alloc ?_ _ | refine Ext.trans ?_ (by with_reducible assumption))))).cell 0, (h.bk.ext (by (repeat (with_reducible first | exact Ext.refl _ | assumption | refine Ext.drew ?_ | refine Ext.drewN ?_ _ | refine Ext.alloc ?_ _ | refine Ext.trans ?_ (by with_reducible assumption))))).cell 1⟩) (first
    | (go_at_call 37; (with_reducible refine (PCheck_any root size i s A m c p _ (hr.ext (by (repeat (with_reducible first | exact Ext.refl _ | assumption | refine Ext.drew ?_ | refine Ext.drewN ?_ _ | refine Ext.alloc ?_ _ | refine Ext.trans ?_ (by with_reducible assumption))))) hm).mono ?_); rw [HC.out]; rintro _ w1 ⟨rfl, hb1⟩)
    | fail)
  all_goals
    have X1 : Ext w w1 := by (repeat (with_reducible first | exact Ext.refl _ | assumption | refine Ext.drew ?_ | refine Ext.drewN ?_ _ | refine Ext.alloc ?_ _ | refine Ext.trans ?_ (by with_reducible assumption)))
    have h1 := h.ext X1
    have b2 := h1.bk.cell 2
    obtain ⟨D, d1, d2, d3⟩ := h1.ex
    obtain ⟨v, b, hrun, hcs⟩ := look_run d1 hi (d3 i hi)
    clear b0 b1 d1 d2 d3
    simp only [errR_0]
    rcases hcs with ⟨hx, rfl, rfl⟩ | ⟨s', q, u, hx, rfl, rfl, ho⟩
    · unfold clashB at hcl; rw [hx] at hcl; cases hcl
    · have hne : s' ≠ s := by unfold clashB at hcl; rw [hx] at hcl; exact of_decide_eq_true hcl
      have hb : (s' == s) = false := beq_eq_false_iff_ne.2 hne
      obtain ⟨A3, c3, rfl, -, -, -⟩ := own_rd ho
      clear hcl hne hx ho
      go_wp2_with fail
      go_ret
      exact ⟨rfl, by (repeat (with_reducible first | exact Ext.refl _ | assumption | refine Ext.drew ?_ | refine Ext.drewN ?_ _ | refine Ext.alloc ?_ _ | refine Ext.trans ?_ (by with_reducible assumption)))⟩
/-- what is known behind Learn -/
def learnKn (size root : Int) (K : Kn) (i s : Int) (p : List Int) : Kn := if learnK size root K i s p = 0 then K.set i (some (s, p)) else K
def learnN (size root : Int) (K : Kn) (i s : Int) (p : List Int) (cnt : Nat) : Nat := if learnK size root K i s p = 0 then cntL K i cnt else cnt
theorem Learn_any {w : World} {base tb mb N cnt : Nat} {size root : Int} {K : Kn} (h : Tr w base tb mb size root N K cnt) (hN : N < 1000000) (i s : Int) (A : Option Addr) (m c : Nat) (p : List Int) (hr : Rd w 1 A m c (p.map (Value.int .i64))) (hm : c ≤ maxLen)
    (hb : base ≤ w.heap.size) (hi : (kl i).wf = true) :
    Calls Tryd.prog 13 #[.pointer (some ⟨tb, 0, none⟩), .int .i64 i, .int .i64 s, .slice A m c] w fun e w' => e = .returned (errR (learnK size root K i s p)) ∧ (∃ N', N' ≤ N + 1 ∧ Tr w' base tb mb size root N' (learnKn size root K i s p) (learnN size root K i s p cnt)) ∧ w.grownBy w' (some mb) := by
  unfold learnKn learnN
  by_cases h1 : pcheck root size i s p = 0
  · cases h2 : clashB K i s with
    | true =>
      have hk := learnK_clash (K := K) h1 h2
      refine (Learn_clash h i s A m c p hr hm h1 h2 hi).mono fun e w' hh => ?_
      rw [hk, if_neg (by decide), if_neg (by decide)]
      exact ⟨hh.1, ⟨N, by omega, h.ext hh.2⟩, hh.2.gb _⟩
    | false =>
      have hk := learnK_ok (K := K) h1 h2
      have hl : m ≤ 4096 := by
        have e1 : p.length = m := hr.lenI
        unfold pcheck at h1
        split at h1
        · cases h1
        · rename_i h3
          split at h1
          · cases h1
          · split at h1
            · cases h1
            · rename_i h4
              have := stepsN_le size.toNat i.toNat size.toNat (Nat.le_refl _) (by omega)
              omega
      refine (Learn_ok h hN i s A m c p hr hm hl hb h1 ?_ hi).mono fun e w' hh => ?_
      · cases hx : K i with
        | none => exact .inl rfl
        | some y =>
          obtain ⟨z, q⟩ := y
          unfold clashB at h2
          rw [hx] at h2
          have := of_decide_eq_false h2
          exact .inr ⟨q, by rw [Decidable.not_not.1 this]⟩
      · rw [hk, if_pos rfl, if_pos rfl]
        exact ⟨hh.1, ⟨N + 1, Nat.le_refl _, hh.2.1⟩, hh.2.2⟩
  · have hk := learnK_bad (K := K) h1
    refine (Learn_bad h i s A m c p hr hm h1).mono fun e w' hh => ?_
    rw [hk, if_neg h1, if_neg h1]
    exact ⟨hh.1, ⟨N, by omega, h.ext hh.2⟩, hh.2.gb _⟩

set_option maxRecDepth 100000 in
theorem Forget_bad {w : World} {base tb mb N cnt : Nat} {size root : Int} {K : Kn} (h : Tr w base tb mb size root N K cnt) (i : Int) (hs : size ≤ 200) (hk : fdK size K i ≠ 0) :
    Calls Tryd.prog 14 #[.pointer (some ⟨tb, 0, none⟩), .int .i64 i] w fun e w' => e = .returned (errR (fdK size K i)) ∧ Ext w w' := by
  obtain ⟨hE, hN, hG0⟩ := errR_rules
  have HF := Lib.hid (find_any h i hs)
  obtain ⟨k, hkk⟩ : ∃ k, fdK size K i = k := ⟨_, rfl⟩
  rw [hkk] at HF hk ⊢
  have hok := isOk_no hk
  clear hkk hk h
  go_enter Tryd.func14, Tryd.ntmps14
  go_wp2_with fail
  refine HF.out.mono ?_
  rintro _ w1 ⟨⟨u, rfl, ho⟩, hb1⟩
  obtain ⟨A4, c4, rfl, -, -, -⟩ := own_rd ho
  clear ho
  go_wp2_with fail
  go_ret
  exact ⟨rfl, by (repeat (with_reducible first | exact Ext.refl _ | assumption | refine Ext.drew ?_ | refine Ext.drewN ?_ _ | refine Ext.alloc ?_ _ | refine Ext.trans ?_ (by with_reducible assumption)))⟩
def fgKn (size : Int) (K : Kn) (i : Int) : Kn := if fdK size K i = 0 then K.set i none else K
def fgN (size : Int) (K : Kn) (i : Int) (cnt : Nat) : Nat := if fdK size K i = 0 then cnt - 1 else cnt
theorem Forget_any {w : World} {base tb mb N cnt : Nat} {size root : Int} {K : Kn} (h : Tr w base tb mb size root N K cnt) (i : Int) (hs : size ≤ 200) (hi : (kl i).wf = true) :
    Calls Tryd.prog 14 #[.pointer (some ⟨tb, 0, none⟩), .int .i64 i] w fun e w' => e = .returned (errR (fdK size K i)) ∧ Tr w' base tb mb size root N (fgKn size K i) (fgN size K i cnt) ∧ w.grownBy w' (some mb) := by
  unfold fgKn fgN
  by_cases hk : fdK size K i = 0
  · refine (Forget_ok h i hs hk hi).mono fun e w' hh => ?_
    rw [if_pos hk, if_pos hk, hk]
    exact ⟨hh.1, hh.2.1, hh.2.2⟩
  · refine (Forget_bad h i hs hk).mono fun e w' hh => ?_
    rw [if_neg hk, if_neg hk]
    exact ⟨hh.1, h.ext hh.2, hh.2.gb _⟩
end Go.Proofs.YtmknpehjncpekaaDoor
