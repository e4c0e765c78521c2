/- Prune: a tree of which some leafs are known; New, Many, find. -/
import Derived.Maps.OwnSet
import Derived.Test.YtcpnhmjibihpkaaPCheck
import Derived.Test.YtcpnhmjibihpkaaPeaks4
namespace Go.Proofs.Ytcpnhmjibihpkaa
open Go.RowKit Go.WideShapes
open Go.Maps (int_keyed keyOf_int_mk)
set_option linter.unusedVariables false
attribute [local go_sem ↓] Go.wp_at_zero Go.wp_at_succ

/-- what is known: of each place the sum and its proof -/
abbrev Kn := Int → Option (Int × List Int)
def Kn.set (K : Kn) (i : Int) (x : Option (Int × List Int)) : Kn := fun j => if j = i then x else K j
/-- an element of the map is read as itself -/
def elR (v : Value) : Option (DataW Value × List MemPlace) := some (.held v, [])
abbrev kl (i : Int) : Lit := .int .i64 i
def EntK (w : World) (base : Nat) (D : DataW Value) (i : Int) : Option (Int × List Int) → Prop
  | none => Maps.has D (kl i) = false
  | some (s, p) => Maps.has D (kl i) = true ∧ ∃ v, (∀ z, D.atKey (kl i) z = .held (.agg #[.int .i64 s, v])) ∧ w.ownsRow base 3 1 v p.length (p.map (Value.int .i64))
structure Tr (w : World) (base tb mb : Nat) (size root : Int) (N : Nat) (K : Kn) (cnt : Nat) : Prop where
  le1 : base ≤ tb
  le2 : base ≤ mb
  bk : Bk w tb 131 #[.int .i64 size, .int .i64 root, .map (some mb)]
  ex : ∃ D : DataW Value, w.ownsMap Try.prog 3 elR mb N D ∧ Maps.size D = cnt ∧ ∀ i, (kl i).wf = true → EntK w base D i (K i)
theorem EntK.ext {w w' : World} {base : Nat} {D : DataW Value} {i : Int} {x : Option (Int × List Int)} (h : EntK w base D i x) (e : Ext w w') : EntK w' base D i x := by
  cases x with
  | none => exact h
  | some x =>
    obtain ⟨s, p⟩ := x
    obtain ⟨h1, v, h2, h3⟩ := h
    exact ⟨h1, v, h2, own_ext h3 e⟩
theorem Tr.ext {w w' : World} {base tb mb N cnt : Nat} {size root : Int} {K : Kn} (h : Tr w base tb mb size root N K cnt) (e : Ext w w') : Tr w' base tb mb size root N K cnt := by
  obtain ⟨D, h1, h2, h3⟩ := h.ex
  exact ⟨h.le1, h.le2, h.bk.ext e, D, h1.kept (e.gb none) (by simp), h2, fun i hi => (h3 i hi).ext e⟩
theorem Tr.lower {w : World} {base b tb mb N cnt : Nat} {size root : Int} {K : Kn} (h : Tr w base tb mb size root N K cnt) (hb : b ≤ base) : Tr w b tb mb size root N K cnt := by
  obtain ⟨D, h1, h2, h3⟩ := h.ex
  refine ⟨Nat.le_trans hb h.le1, Nat.le_trans hb h.le2, h.bk, D, h1, h2, fun i hi => ?_⟩
  have := h3 i hi
  cases hx : K i with
  | none => rw [hx] at this; exact this
  | some x =>
    rw [hx] at this
    obtain ⟨s, p⟩ := x
    obtain ⟨q1, v, q2, q3⟩ := this
    exact ⟨q1, v, q2, own_lower q3 hb⟩

/-- what New tells -/
def newK (size root : Int) : Int := if 1 ≤ size ∧ size ≤ 200 ∧ vld root = true then 0 else 1
set_option maxRecDepth 100000 in
theorem PrNew_ok (size root : Int) (w : World) (h1 : 1 ≤ size) (h2 : size ≤ 200) (hv : vld root = true) :
    Calls Try.prog 51 #[.int .i64 size, .int .i64 root] w fun e w' => (∃ tb mb, e = .returned (.tuple #[.pointer (some ⟨tb, 0, none⟩), .nilIface]) ∧ Tr w' w.heap.size tb mb size root 0 (fun _ => none) 0) ∧ Ext w w' := by
  have hmm := @run_makeMap Try.prog
  go_enter Try.func51, Try.ntmps51
  go_wp2_with fail
  refine (Valid_any root _).mono ?_
  rw [hv]
  rintro _ _ ⟨rfl, rfl⟩
  go_wp2_with fail
  go_ret2
  refine ⟨⟨_, w.heap.size, rfl, by simp, Nat.le_refl _, Bk.at_ _ _ _ _ (by simp), .map [], (World.ownsMap_made w _ _ _).alloc _, rfl, fun i hi => rfl⟩, by (repeat (with_reducible first | exact Ext.refl _ | assumption | refine Ext.drew ?_ | refine Ext.drewN ?_ _ | refine Ext.alloc ?_ _ | refine Ext.trans ?_ (by with_reducible assumption)))⟩
set_option maxRecDepth 100000 in
theorem PrNew_bad (size root : Int) (w : World) (h : ¬ (1 ≤ size ∧ size ≤ 200 ∧ vld root = true)) :
    Calls Try.prog 51 #[.int .i64 size, .int .i64 root] w fun e w' => e = .returned (.tuple #[.pointer none, errV 1]) ∧ Ext w w' := by
  have hh : size < 1 ∨ (1 ≤ size ∧ 200 < size) ∨ (1 ≤ size ∧ size ≤ 200 ∧ vld root = false) := by
    by_cases a : 1 ≤ size
    · by_cases b : size ≤ 200
      · cases hv : vld root
        · exact .inr (.inr ⟨a, b, rfl⟩)
        · exact absurd ⟨a, b, hv⟩ h
      · exact .inr (.inl ⟨a, by omega⟩)
    · exact .inl (by omega)
  clear h
  rcases hh with h | ⟨h, h'⟩ | ⟨h, h', hv⟩
  · go_enter Try.func51, Try.ntmps51
    go_wp2_with fail
    go_ret2
    exact ⟨rfl, Ext.refl _⟩
  · go_enter Try.func51, Try.ntmps51
    go_wp2_with fail
    go_ret2
    exact ⟨rfl, Ext.refl _⟩
  · go_enter Try.func51, Try.ntmps51
    go_wp2_with fail
    refine (Valid_any root _).mono ?_
    rw [hv]
    rintro _ _ ⟨rfl, rfl⟩
    go_wp2_with fail
    go_ret2
    exact ⟨rfl, Ext.refl _⟩
set_option maxRecDepth 100000 in
theorem Many_any {w : World} {base tb mb N cnt : Nat} {size root : Int} {K : Kn} (h : Tr w base tb mb size root N K cnt) :
    Calls Try.prog 53 #[.pointer (some ⟨tb, 0, none⟩)] w fun e w' => e = .returned (.int .i64 cnt) ∧ w = w' := by
  obtain ⟨D, h1, h2, h3⟩ := h.ex
  have hlen := h1.len (t := 129) (e := 133) Try.underlying129 3
  rw [h2] at hlen
  have b2 := h.bk.cell 2
  clear h h1 h2 h3
  go_enter Try.func53, Try.ntmps53
  go_wp2_with fail
  go_ret
  exact ⟨rfl, rfl⟩

/-- what find tells -/
def fdK (size : Int) (K : Kn) (i : Int) : Int := if 0 ≤ i ∧ i < size then (if (K i).isSome then 0 else 5) else 1
/-- .. and the leaf -/
def FdPost (w : World) (base : Nat) (size : Int) (K : Kn) (i : Int) (e : Ending) : Prop :=
  (fdK size K i ≠ 0 ∧ e = .returned (.tuple #[.agg #[.int .i64 0, .slice none 0 0], errR (fdK size K i)])) ∨
  (fdK size K i = 0 ∧ ∃ s p v, K i = some (s, p) ∧ e = .returned (.tuple #[.agg #[.int .i64 s, v], .nilIface]) ∧ w.ownsRow base 3 1 v p.length (p.map (Value.int .i64)))
theorem fdK_range {size i : Int} (K : Kn) (h : ¬ (0 ≤ i ∧ i < size)) : fdK size K i = 1 := if_neg h
theorem fdK_none {size i : Int} {K : Kn} (h : 0 ≤ i ∧ i < size) (hk : K i = none) : fdK size K i = 5 := by unfold fdK; rw [if_pos h, hk]; rfl
theorem fdK_some {size i : Int} {K : Kn} {x : Int × List Int} (h : 0 ≤ i ∧ i < size) (hk : K i = some x) : fdK size K i = 0 := by unfold fdK; rw [if_pos h, hk]; rfl

set_option maxRecDepth 100000 in
theorem find_range {w : World} {base tb mb N cnt : Nat} {size root : Int} {K : Kn} (h : Tr w base tb mb size root N K cnt) (i : Int) (hi : ¬ (0 ≤ i ∧ i < size)) :
    Calls Try.prog 90 #[.pointer (some ⟨tb, 0, none⟩), .int .i64 i] w fun e w' => e = .returned (.tuple #[.agg #[.int .i64 0, .slice none 0 0], errV 1]) ∧ Ext w w' := by
  have b0 := (h.bk.alloc (.cells #[.int .i64 0, .slice none 0 0] 133)).cell 0
  have hh : i < 0 ∨ (0 ≤ i ∧ size ≤ i) := by omega
  clear h hi
  rcases hh with hi | ⟨hi, hi'⟩
  all_goals
    go_enter Try.func90, Try.ntmps90
    go_wp2_with fail
    refine bodyPost_ret (by simp [results, Try.results90, go_sem]; try rfl) rfl ?_
    exact ⟨rfl, by (repeat (with_reducible first | exact Ext.refl _ | assumption | refine Ext.drew ?_ | refine Ext.drewN ?_ _ | refine Ext.alloc ?_ _ | refine Ext.trans ?_ (by with_reducible assumption)))⟩

/-- the look-up -/
theorem look_run {w w0 : World} {mb N : Nat} {D : DataW Value} (h : w.ownsMap Try.prog 3 elR mb N D) {i : Int} (hi : (kl i).wf = true) {base : Nat} {x : Option (Int × List Int)} (hx : EntK w0 base D i x) :
    ∃ v b, (Instr.lookup 129 (.map (some mb)) (.int .i64 i) true).run Try.prog w = .ok (.tuple #[v, .bool b]) w ∧
      ((x = none ∧ b = false ∧ v = .agg #[.int .i64 0, .slice none 0 0]) ∨ (∃ s p u, x = some (s, p) ∧ b = true ∧ v = .agg #[.int .i64 s, u] ∧ w0.ownsRow base 3 1 u p.length (p.map (Value.int .i64)))) := by
  obtain ⟨v, ps, hrun, hv⟩ := h.look_ok (t := 129) (e := 133) (int_keyed Try.underlying3) Try.underlying129 (Try.zeroValue133 w) (zd := .held (.agg #[.int .i64 0, .slice none 0 0])) (zp := []) rfl (keyOf_int_mk Try.underlying3 hi)
  refine ⟨v, _, hrun, ?_⟩
  have hv' : DataW.held v = D.atKey (kl i) (.held (.agg #[.int .i64 0, .slice none 0 0])) := by
    unfold elR at hv
    simp only [Option.some.injEq, Prod.mk.injEq] at hv
    exact hv.1
  cases x with
  | none =>
    have hn : Maps.has D (kl i) = false := hx
    rw [Maps.atKey_of_not_has hn] at hv'
    injection hv' with hv'
    exact .inl ⟨rfl, hn, hv'⟩
  | some x =>
    obtain ⟨s, p⟩ := x
    obtain ⟨h1, u, h2, h3⟩ := hx
    rw [h2] at hv'
    injection hv' with hv'
    exact .inr ⟨s, p, u, rfl, h1, hv', h3⟩

set_option maxRecDepth 100000 in
theorem find_in {w : World} {base tb mb N cnt : Nat} {size root : Int} {K : Kn} (h : Tr w base tb mb size root N K cnt) (i : Int) (hi : 0 ≤ i ∧ i < size) (hs : size ≤ 200) :
    Calls Try.prog 90 #[.pointer (some ⟨tb, 0, none⟩), .int .i64 i] w fun e w' => (∃ v, e = .returned (.tuple #[v, errR (fdK size K i)]) ∧
      ((K i = none ∧ v = .agg #[.int .i64 0, .slice none 0 0]) ∨ ∃ s p u, K i = some (s, p) ∧ v = .agg #[.int .i64 s, u] ∧ w'.ownsRow base 3 1 u p.length (p.map (Value.int .i64)))) ∧ Ext w w' := by
  obtain ⟨hi0, hi1⟩ := hi
  have hwf : (kl i).wf = true := by simp [Lit.wf, IntKind.min, IntKind.max, IntKind.signed, IntKind.bits]; omega
  have b0 := (h.bk.alloc (.cells #[.int .i64 0, .slice none 0 0] 133)).cell 0
  have b2 := (h.bk.alloc (.cells #[.int .i64 0, .slice none 0 0] 133)).cell 2
  obtain ⟨D, h1, h2, h3⟩ := h.ex
  have X1 : Ext w (w.alloc (.cells #[.int .i64 0, .slice none 0 0] 133)) := by (repeat (with_reducible first | exact Ext.refl _ | assumption | refine Ext.drew ?_ | refine Ext.drewN ?_ _ | refine Ext.alloc ?_ _ | refine Ext.trans ?_ (by with_reducible assumption)))
  obtain ⟨v, b, hrun, hc⟩ := look_run (h1.alloc (.cells #[.int .i64 0, .slice none 0 0] 133)) hwf (h3 i hwf)
  have B1 := Bk.at_ w 133 #[.int .i64 0, .slice none 0 0] w.heap.size rfl
  have f0 := B1.frozen 0
  have f1 := B1.frozen 1
  rcases hc with ⟨hx, rfl, rfl⟩ | ⟨s, p, u, hx, rfl, rfl, ho⟩
  · have HK := Lib.hid (fdK_none ⟨hi0, hi1⟩ hx)
    rw [HK.out]
    clear h h1 h2 h3 hwf
    go_enter Try.func90, Try.ntmps90
    go_wp2_with fail
    refine bodyPost_ret (by simp [results, Try.results90, go_sem]; try rfl) rfl ?_
    exact ⟨⟨_, rfl, .inl ⟨hx, rfl⟩⟩, by (repeat (with_reducible first | exact Ext.refl _ | assumption | refine Ext.drew ?_ | refine Ext.drewN ?_ _ | refine Ext.alloc ?_ _ | refine Ext.trans ?_ (by with_reducible assumption)))⟩
  · have HK := Lib.hid (fdK_some ⟨hi0, hi1⟩ hx)
    rw [HK.out]
    clear h h1 h2 h3 hwf
    obtain ⟨A4, c4, rfl, -, -, -⟩ := own_rd ho
    go_enter Try.func90, Try.ntmps90
    go_wp2_with fail
    refine bodyPost_ret (by simp [results, Try.results90, go_sem]; try rfl) rfl ?_
    exact ⟨⟨_, rfl, .inr ⟨s, p, _, hx, rfl, (ho.alloc _).alloc _⟩⟩, by (repeat (with_reducible first | exact Ext.refl _ | assumption | refine Ext.drew ?_ | refine Ext.drewN ?_ _ | refine Ext.alloc ?_ _ | refine Ext.trans ?_ (by with_reducible assumption)))⟩
theorem fd_none {size i : Int} {K : Kn} (h : ¬ (0 ≤ i ∧ i < size)) : fdK size K i = 1 := if_neg h
/-- find, all ways: what is wrong, the sum, and the proof's row -/
def knS (size : Int) (K : Kn) (i : Int) : Int := if fdK size K i = 0 then ((K i).getD (0, [])).1 else 0
def knP (size : Int) (K : Kn) (i : Int) : List Int := if fdK size K i = 0 then ((K i).getD (0, [])).2 else []
theorem find_any {w : World} {base tb mb N cnt : Nat} {size root : Int} {K : Kn} (h : Tr w base tb mb size root N K cnt) (i : Int) (hs : size ≤ 200) :
    Calls Try.prog 90 #[.pointer (some ⟨tb, 0, none⟩), .int .i64 i] w fun e w' => (∃ u, e = .returned (.tuple #[.agg #[.int .i64 (knS size K i), u], errR (fdK size K i)]) ∧
      w'.ownsRow base 3 1 u (knP size K i).length ((knP size K i).map (Value.int .i64))) ∧ Ext w w' := by
  by_cases hi : 0 ≤ i ∧ i < size
  · refine (find_in h i hi hs).mono fun e w' hh => ⟨?_, hh.2⟩
    obtain ⟨⟨v, he, hc⟩, _⟩ := hh
    rcases hc with ⟨h1, rfl⟩ | ⟨s, p, u, h1, rfl, h3⟩
    · have hk := fdK_none hi h1
      have e1 : knS size K i = 0 := if_neg (by rw [hk]; decide)
      have e2 : knP size K i = [] := if_neg (by rw [hk]; decide)
      rw [e1, e2]
      exact ⟨_, he, own_nil _ _ _ _⟩
    · have hk := fdK_some hi h1
      have e1 : knS size K i = s := by unfold knS; rw [if_pos hk, h1]; rfl
      have e2 : knP size K i = p := by unfold knP; rw [if_pos hk, h1]; rfl
      rw [e1, e2]
      exact ⟨_, he, h3⟩
  · have hk := fdK_range K hi
    have e1 : knS size K i = 0 := if_neg (by rw [hk]; decide)
    have e2 : knP size K i = [] := if_neg (by rw [hk]; decide)
    rw [e1, e2, hk]
    exact (find_range h i hi).mono fun e w' hh => ⟨⟨_, hh.1, own_nil _ _ _ _⟩, hh.2⟩
set_option maxRecDepth 100000 in
theorem Knows_any {w : World} {base tb mb N cnt : Nat} {size root : Int} {K : Kn} (h : Tr w base tb mb size root N K cnt) (i : Int) (hs : size ≤ 200) :
    Calls Try.prog 54 #[.pointer (some ⟨tb, 0, none⟩), .int .i64 i] w fun e w' => e = .returned (.tuple #[.int .i64 (knS size K i), errR (fdK size K i)]) ∧ Ext w w' := by
  obtain ⟨s, HS⟩ : ∃ s, Hid (knS size K i = s) := ⟨_, rfl⟩
  obtain ⟨p, HP⟩ : ∃ s, Hid (knP size K i = s) := ⟨_, rfl⟩
  obtain ⟨k, HK⟩ : ∃ s, Hid (fdK size K i = s) := ⟨_, rfl⟩
  rw [HS.out, HK.out]
  go_enter Try.func54, Try.ntmps54
  go_wp2_with fail
  refine (find_any h i hs).mono ?_
  rw [HS.out, HP.out, HK.out]
  rintro _ w1 ⟨⟨u, rfl, ho⟩, hb1⟩
  obtain ⟨A4, c4, rfl, -, -, -⟩ := own_rd ho
  go_wp2_with fail
  go_ret2
  exact ⟨rfl, by (repeat (with_reducible first | exact Ext.refl _ | assumption | refine Ext.drew ?_ | refine Ext.drewN ?_ _ | refine Ext.alloc ?_ _ | refine Ext.trans ?_ (by with_reducible assumption)))⟩
set_option maxRecDepth 100000 in
theorem Prove_any {w : World} {base tb mb N cnt : Nat} {size root : Int} {K : Kn} (h : Tr w base tb mb size root N K cnt) (i : Int) (hs : size ≤ 200) (hp : (knP size K i).length ≤ 4096) :
    Calls Try.prog 55 #[.pointer (some ⟨tb, 0, none⟩), .int .i64 i] w fun e w' => (∃ v, e = .returned (.tuple #[v, errR (fdK size K i)]) ∧ OwnI w w' v (knP size K i)) ∧ Ext w w' := by
  obtain ⟨s, HS⟩ : ∃ s, Hid (knS size K i = s) := ⟨_, rfl⟩
  obtain ⟨p, HP⟩ : ∃ s, Hid (knP size K i = s) := ⟨_, rfl⟩
  obtain ⟨k, HK⟩ : ∃ s, Hid (fdK size K i = s) := ⟨_, rfl⟩
  rw [HP.out, HK.out]
  rw [HP.out] at hp
  go_enter Try.func55, Try.ntmps55
  go_wp2_with fail
  refine (find_any h i hs).mono ?_
  rw [HS.out, HP.out, HK.out]
  rintro _ w1 ⟨⟨u, rfl, ho⟩, hb1⟩
  obtain ⟨A4, c4, rfl, -, -, -⟩ := own_rd ho
  have HO := Lib.hid (World.ownsRow.alloc ho (.cells #[.int .i64 s, .slice A4 p.length c4] 133))
  clear ho
  go_wp2_with fail
  refine (Clone_own HO.out hp).mono ?_
  rintro _ w2 ⟨⟨v2, rfl, o2⟩, hb2⟩
  go_wp2_with fail
  go_ret2
  refine ⟨⟨_, rfl, own_lower o2 ?_⟩, by (repeat (with_reducible first | exact Ext.refl _ | assumption | refine Ext.drew ?_ | refine Ext.drewN ?_ _ | refine Ext.alloc ?_ _ | refine Ext.trans ?_ (by with_reducible assumption)))⟩
  simp
  have := hb1.size
  omega
end Go.Proofs.Ytcpnhmjibihpkaa
