/- Two peaks beside each other. -/
import Derived.Test.YtfccbjfiionepaaGreatDoorJTopPieces24
import Derived.Maps.OwnSet
import Derived.Test.YtfccbjfiionepaaGreatDoorJTopPieces7
import Derived.Test.YtfccbjfiionepaaGreatDoorJTopPieces4
import Derived.Deep.RegionHeld3
namespace Go.Proofs.YtfccbjfiionepaaGreatDoor
open Go.RowKit Go.WideShapes
set_option linter.unusedVariables false

theorem Pk.lower {w : World} {base b pb : Nat} {r : Option Nat} {xs : List Int} (h : Pk w base pb r xs) (hb : b ≤ base) : Pk w b pb r xs := by
  obtain ⟨v, rfl, hp⟩ := h
  exact ⟨v, rfl, Nat.le_trans hb hp.le, hp.bk, own_lower hp.own hb, hp.ne⟩
theorem Pk.two {w w' : World} {base pb qb : Nat} {r rq : Option Nat} {ys : List Int} (h : Pk w base qb rq ys) (h2 : Two w w' pb r) (h3 : qb ≠ pb) (h4 : r ≠ some qb) (h5 : ∀ g, rq = some g → g ≠ pb ∧ r ≠ some g) : Pk w' base qb rq ys := by
  obtain ⟨v, rfl, hp⟩ := h
  exact ⟨v, rfl, hp.le, (h2.block qb hp.bk.lt h3 (fun e => h4 e.symm)).trans hp.bk, own_two hp.own h2 h5, hp.ne⟩
/-- apart -/
def Sep (pb qb : Nat) (rp rq : Option Nat) : Prop := pb ≠ qb ∧ rp ≠ some qb ∧ rq ≠ some pb ∧ ∀ g, rp = some g → rq ≠ some g
theorem Sep.symm {pb qb : Nat} {rp rq : Option Nat} (h : Sep pb qb rp rq) : Sep qb pb rq rp := ⟨fun e => h.1 e.symm, h.2.2.1, h.2.1, fun g e e' => h.2.2.2 g e' e⟩
theorem Pk.other {w w' : World} {base pb qb : Nat} {r rq : Option Nat} {ys : List Int} (h : Pk w base qb rq ys) (h2 : Two w w' pb r) (hs : Sep pb qb r rq) : Pk w' base qb rq ys :=
  h.two h2 (fun e => hs.1 e.symm) hs.2.1 fun g e => ⟨fun e' => hs.2.2.1 (by rw [e, e']), fun e' => hs.2.2.2 g e' e⟩
theorem Sep.next {w : World} {base pb qb : Nat} {r r' rq : Option Nat} {ys : List Int} (hs : Sep pb qb r rq) (h : Pk w base qb rq ys) (hr : r' = r ∨ ∀ g, r' = some g → w.heap.size ≤ g) : Sep pb qb r' rq := by
  rcases hr with rfl | hr
  · exact hs
  · obtain ⟨h1, h2⟩ := h.below
    refine ⟨hs.1, fun e => ?_, hs.2.2.1, fun g e e' => ?_⟩
    · have := hr _ e; omega
    · have := hr _ e
      have := h2 _ e'
      omega
/-- one that lies all beyond -/
theorem Sep.fresh {w w' : World} {base pb qb : Nat} {r rq : Option Nat} {xs ys : List Int} (h : Pk w base pb r xs) (hq : Pk w' w.heap.size qb rq ys) : Sep pb qb r rq := by
  obtain ⟨h1, h2⟩ := h.below
  obtain ⟨h3, h4⟩ := hq.row
  refine ⟨by omega, fun e => ?_, fun e => ?_, fun g e e' => ?_⟩
  · have := h2 _ e; omega
  · have := h4 _ e; omega
  · have := h2 _ e
    have := h4 _ e'
    omega
theorem appX_next {xs : List Int} {j : Nat} {z : Int} (h : xs[j]? = some z) (hv : allV xs = true) (hl : xs.length ≤ 200) : appX (xs.take j) z = xs.take (j + 1) ∧ appK (xs.take j).length z = 0 := by
  obtain ⟨hj, rfl⟩ := List.getElem?_eq_some_iff.1 h
  have hz := allV_get hv h
  have hlt : (xs.take j).length < 200 := by rw [List.length_take]; omega
  exact ⟨by rw [appX_yes ⟨hz, hlt⟩, List.take_succ_eq_append_getElem hj], appK_zero ⟨hz, hlt⟩⟩
/-- the parts of peaks, begun anew -/
theorem ofK_parts {xs : List Int} (hv : allV xs = true) (hl : xs.length ≤ 200) : ofK (xs.length : Nat) (partsF xs 0 xs.length).reverse = 0 := by
  have h1 := partsF_len xs xs.length 0 _ (Nat.le_refl _)
  have h2 := allV_parts hv (by omega) xs.length 0 xs.length (Nat.le_refl _) (by rw [Nat.pow_zero]; omega)
  have h3 : allV (partsF xs 0 xs.length).reverse = true := by
    unfold allV at h2 ⊢
    rw [List.all_reverse]; exact h2
  rw [ofK_val (by omega) (by rw [List.length_reverse, h1, Int.toNat_natCast]; simp), if_pos h3]
theorem Pk.ofS {w : World} {base qb : Nat} {v : Value} {xs : List Int} (h : PkS w base qb v ((xs.length : Nat) : Int).toNat ((partsF xs 0 xs.length).reverse).reverse) : Pk w base qb v.ownBlock xs := by
  rw [List.reverse_reverse, Int.toNat_natCast] at h
  exact ⟨v, rfl, h⟩
theorem partsF_three : ∃ z, partsF [5, 6, 7] 0 3 = [7, z] := by
  refine ⟨ofL (seg [5, 6, 7] ((1 / 2) * 2 ^ 2) (2 ^ 1)), ?_⟩
  rw [partsF_odd _ 0 (m := 3) (by decide), show 3 / 2 = 1 from rfl, show 0 + 1 = 1 from rfl, partsF_odd _ 1 (m := 1) (by decide), show 1 / 2 = 0 from rfl, partsF_zero]
  congr 1
  exact ofL_one 7
end Go.Proofs.YtfccbjfiionepaaGreatDoor

/- Prune: a tree of which some leafs are known; New, Many, find. -/
namespace Go.Proofs.YtfccbjfiionepaaGreatDoor
open Go.RowKit Go.WideShapes
open Go.Maps (int_keyed keyOf_int_mk)
set_option linter.unusedVariables false
attribute [local go_sem ↓] Go.wp_at_zero Go.wp_at_succ

/-- what is known: of each place the sum and its proof -/
abbrev Kn := Int → Option (Int × List Int)
def Kn.set (K : Kn) (i : Int) (x : Option (Int × List Int)) : Kn := fun j => if j = i then x else K j
/-- an element of the map is read as itself -/
def elR (v : Value) : Option (DataW Value × List MemPlace) := some (.held v, [])
abbrev kl (i : Int) : Lit := .int .i64 i
def EntK (w : World) (base : Nat) (D : DataW Value) (i : Int) : Option (Int × List Int) → Prop
  | none => Maps.has D (kl i) = false
  | some (s, p) => Maps.has D (kl i) = true ∧ ∃ v, (∀ z, D.atKey (kl i) z = .held (.agg #[.int .i64 s, v])) ∧ w.ownsRow base 3 1 v p.length (p.map (Value.int .i64))
structure Tr (w : World) (base tb mb : Nat) (size root : Int) (N : Nat) (K : Kn) (cnt : Nat) : Prop where
  le1 : base ≤ tb
  le2 : base ≤ mb
  bk : Bk w tb 101 #[.int .i64 size, .int .i64 root, .map (some mb)]
  ex : ∃ D : DataW Value, w.ownsMap Tryz.prog 3 elR mb N D ∧ Maps.size D = cnt ∧ ∀ i, (kl i).wf = true → EntK w base D i (K i)
theorem EntK.ext {w w' : World} {base : Nat} {D : DataW Value} {i : Int} {x : Option (Int × List Int)} (h : EntK w base D i x) (e : Ext w w') : EntK w' base D i x := by
  cases x with
  | none => exact h
  | some x =>
    obtain ⟨s, p⟩ := x
    obtain ⟨h1, v, h2, h3⟩ := h
    exact ⟨h1, v, h2, own_ext h3 e⟩
theorem Tr.ext {w w' : World} {base tb mb N cnt : Nat} {size root : Int} {K : Kn} (h : Tr w base tb mb size root N K cnt) (e : Ext w w') : Tr w' base tb mb size root N K cnt := by
  obtain ⟨D, h1, h2, h3⟩ := h.ex
  exact ⟨h.le1, h.le2, h.bk.ext e, D, h1.kept (e.gb none) (by simp), h2, fun i hi => (h3 i hi).ext e⟩
theorem Tr.lower {w : World} {base b tb mb N cnt : Nat} {size root : Int} {K : Kn} (h : Tr w base tb mb size root N K cnt) (hb : b ≤ base) : Tr w b tb mb size root N K cnt := by
  obtain ⟨D, h1, h2, h3⟩ := h.ex
  refine ⟨Nat.le_trans hb h.le1, Nat.le_trans hb h.le2, h.bk, D, h1, h2, fun i hi => ?_⟩
  have := h3 i hi
  cases hx : K i with
  | none => rw [hx] at this; exact this
  | some x =>
    rw [hx] at this
    obtain ⟨s, p⟩ := x
    obtain ⟨q1, v, q2, q3⟩ := this
    exact ⟨q1, v, q2, own_lower q3 hb⟩

/-- what New tells -/
def newK (size root : Int) : Int := if 1 ≤ size ∧ size ≤ 200 ∧ vld root = true then 0 else 1
set_option maxRecDepth 100000 in
theorem PrNew_ok (size root : Int) (w : World) (h1 : 1 ≤ size) (h2 : size ≤ 200) (hv : vld root = true) :
    Calls Tryz.prog 17 #[.int .i64 size, .int .i64 root] w fun e w' => (∃ tb mb, e = .returned (.tuple #[.pointer (some ⟨tb, 0, none⟩), .nilIface]) ∧ Tr w' w.heap.size tb mb size root 0 (fun _ => none) 0) ∧ Ext w w' := by
  have hmm := @run_makeMap Tryz.prog
  go_enter Tryz.func17, Tryz.ntmps17
  go_wp2_with fail
  refine (Valid_any root _).mono ?_
  rw [hv]
  rintro _ _ ⟨rfl, rfl⟩
  go_wp2_with fail
  go_ret2
  refine ⟨⟨_, w.heap.size, rfl, by simp, Nat.le_refl _, Bk.at_ _ _ _ _ (by simp), .map [], (World.ownsMap_made w _ _ _).alloc _, rfl, fun i hi => rfl⟩, by (repeat (with_reducible first | exact Ext.refl _ | assumption | refine Ext.drew ?_ | refine Ext.drewN ?_ _ | refine Ext.alloc ?_ _ | refine Ext.trans ?_ (by with_reducible assumption)))⟩
set_option maxRecDepth 100000 in
theorem PrNew_bad (size root : Int) (w : World) (h : ¬ (1 ≤ size ∧ size ≤ 200 ∧ vld root = true)) :
    Calls Tryz.prog 17 #[.int .i64 size, .int .i64 root] w fun e w' => e = .returned (.tuple #[.pointer none, errV 1]) ∧ Ext w w' := by
  have hh : size < 1 ∨ (1 ≤ size ∧ 200 < size) ∨ (1 ≤ size ∧ size ≤ 200 ∧ vld root = false) := by
    by_cases a : 1 ≤ size
    · by_cases b : size ≤ 200
      · cases hv : vld root
        · exact .inr (.inr ⟨a, b, rfl⟩)
        · exact absurd ⟨a, b, hv⟩ h
      · exact .inr (.inl ⟨a, by omega⟩)
    · exact .inl (by omega)
  clear h
  rcases hh with h | ⟨h, h'⟩ | ⟨h, h', hv⟩
  · go_enter Tryz.func17, Tryz.ntmps17
    go_wp2_with fail
    go_ret2
    exact ⟨rfl, Ext.refl _⟩
  · go_enter Tryz.func17, Tryz.ntmps17
    go_wp2_with fail
    go_ret2
    exact ⟨rfl, Ext.refl _⟩
  · go_enter Tryz.func17, Tryz.ntmps17
    go_wp2_with fail
    refine (Valid_any root _).mono ?_
    rw [hv]
    rintro _ _ ⟨rfl, rfl⟩
    go_wp2_with fail
    go_ret2
    exact ⟨rfl, Ext.refl _⟩
/-- what find tells -/
def fdK (size : Int) (K : Kn) (i : Int) : Int := if 0 ≤ i ∧ i < size then (if (K i).isSome then 0 else 5) else 1
/-- .. and the leaf -/
def FdPost (w : World) (base : Nat) (size : Int) (K : Kn) (i : Int) (e : Ending) : Prop :=
  (fdK size K i ≠ 0 ∧ e = .returned (.tuple #[.agg #[.int .i64 0, .slice none 0 0], errR (fdK size K i)])) ∨
  (fdK size K i = 0 ∧ ∃ s p v, K i = some (s, p) ∧ e = .returned (.tuple #[.agg #[.int .i64 s, v], .nilIface]) ∧ w.ownsRow base 3 1 v p.length (p.map (Value.int .i64)))
theorem fdK_range {size i : Int} (K : Kn) (h : ¬ (0 ≤ i ∧ i < size)) : fdK size K i = 1 := if_neg h
theorem fdK_none {size i : Int} {K : Kn} (h : 0 ≤ i ∧ i < size) (hk : K i = none) : fdK size K i = 5 := by unfold fdK; rw [if_pos h, hk]; rfl
theorem fdK_some {size i : Int} {K : Kn} {x : Int × List Int} (h : 0 ≤ i ∧ i < size) (hk : K i = some x) : fdK size K i = 0 := by unfold fdK; rw [if_pos h, hk]; rfl

set_option maxRecDepth 100000 in
theorem find_range {w : World} {base tb mb N cnt : Nat} {size root : Int} {K : Kn} (h : Tr w base tb mb size root N K cnt) (i : Int) (hi : ¬ (0 ≤ i ∧ i < size)) :
    Calls Tryz.prog 55 #[.pointer (some ⟨tb, 0, none⟩), .int .i64 i] w fun e w' => e = .returned (.tuple #[.agg #[.int .i64 0, .slice none 0 0], errV 1]) ∧ Ext w w' := by
  have b0 := (h.bk.alloc (.cells #[.int .i64 0, .slice none 0 0] 104)).cell 0
  have hh : i < 0 ∨ (0 ≤ i ∧ size ≤ i) := by omega
  clear h hi
  rcases hh with hi | ⟨hi, hi'⟩
  all_goals
    go_enter Tryz.func55, Tryz.ntmps55
    go_wp2_with fail
    refine bodyPost_ret (by simp [results, Tryz.results55, go_sem]; try rfl) rfl ?_
    exact ⟨rfl, by (repeat (with_reducible first | exact Ext.refl _ | assumption | refine Ext.drew ?_ | refine Ext.drewN ?_ _ | refine Ext.alloc ?_ _ | refine Ext.trans ?_ (by with_reducible assumption)))⟩

/-- the look-up -/
theorem look_run {w w0 : World} {mb N : Nat} {D : DataW Value} (h : w.ownsMap Tryz.prog 3 elR mb N D) {i : Int} (hi : (kl i).wf = true) {base : Nat} {x : Option (Int × List Int)} (hx : EntK w0 base D i x) :
    ∃ v b, (Instr.lookup 99 (.map (some mb)) (.int .i64 i) true).run Tryz.prog w = .ok (.tuple #[v, .bool b]) w ∧
      ((x = none ∧ b = false ∧ v = .agg #[.int .i64 0, .slice none 0 0]) ∨ (∃ s p u, x = some (s, p) ∧ b = true ∧ v = .agg #[.int .i64 s, u] ∧ w0.ownsRow base 3 1 u p.length (p.map (Value.int .i64)))) := by
  obtain ⟨v, ps, hrun, hv⟩ := h.look_ok (t := 99) (e := 104) (int_keyed Tryz.underlying3) Tryz.underlying99 (Tryz.zeroValue104 w) (zd := .held (.agg #[.int .i64 0, .slice none 0 0])) (zp := []) rfl (keyOf_int_mk Tryz.underlying3 hi)
  refine ⟨v, _, hrun, ?_⟩
  have hv' : DataW.held v = D.atKey (kl i) (.held (.agg #[.int .i64 0, .slice none 0 0])) := by
    unfold elR at hv
    simp only [Option.some.injEq, Prod.mk.injEq] at hv
    exact hv.1
  cases x with
  | none =>
    have hn : Maps.has D (kl i) = false := hx
    rw [Maps.atKey_of_not_has hn] at hv'
    injection hv' with hv'
    exact .inl ⟨rfl, hn, hv'⟩
  | some x =>
    obtain ⟨s, p⟩ := x
    obtain ⟨h1, u, h2, h3⟩ := hx
    rw [h2] at hv'
    injection hv' with hv'
    exact .inr ⟨s, p, u, rfl, h1, hv', h3⟩

set_option maxRecDepth 100000 in
theorem find_in {w : World} {base tb mb N cnt : Nat} {size root : Int} {K : Kn} (h : Tr w base tb mb size root N K cnt) (i : Int) (hi : 0 ≤ i ∧ i < size) (hs : size ≤ 200) :
    Calls Tryz.prog 55 #[.pointer (some ⟨tb, 0, none⟩), .int .i64 i] w fun e w' => (∃ v, e = .returned (.tuple #[v, errR (fdK size K i)]) ∧
      ((K i = none ∧ v = .agg #[.int .i64 0, .slice none 0 0]) ∨ ∃ s p u, K i = some (s, p) ∧ v = .agg #[.int .i64 s, u] ∧ w'.ownsRow base 3 1 u p.length (p.map (Value.int .i64)))) ∧ Ext w w' := by
  obtain ⟨hi0, hi1⟩ := hi
  have hwf : (kl i).wf = true := by simp [Lit.wf, IntKind.min, IntKind.max, IntKind.signed, IntKind.bits]; omega
  have b0 := (h.bk.alloc (.cells #[.int .i64 0, .slice none 0 0] 104)).cell 0
  have b2 := (h.bk.alloc (.cells #[.int .i64 0, .slice none 0 0] 104)).cell 2
  obtain ⟨D, h1, h2, h3⟩ := h.ex
  have X1 : Ext w (w.alloc (.cells #[.int .i64 0, .slice none 0 0] 104)) := by (repeat (with_reducible first | exact Ext.refl _ | assumption | refine Ext.drew ?_ | refine Ext.drewN ?_ _ | refine Ext.alloc ?_ _ | refine Ext.trans ?_ (by with_reducible assumption)))
  obtain ⟨v, b, hrun, hc⟩ := look_run (h1.alloc (.cells #[.int .i64 0, .slice none 0 0] 104)) hwf (h3 i hwf)
  have B1 := Bk.at_ w 104 #[.int .i64 0, .slice none 0 0] w.heap.size rfl
  have f0 := B1.frozen 0
  have f1 := B1.frozen 1
  rcases hc with ⟨hx, rfl, rfl⟩ | ⟨s, p, u, hx, rfl, rfl, ho⟩
  · have HK := Lib.hid (fdK_none ⟨hi0, hi1⟩ hx)
    rw [HK.out]
    clear h h1 h2 h3 hwf
    go_enter Tryz.func55, Tryz.ntmps55
    go_wp2_with fail
    refine bodyPost_ret (by simp [results, Tryz.results55, go_sem]; try rfl) rfl ?_
    exact ⟨⟨_, rfl, .inl ⟨hx, rfl⟩⟩, by (repeat (with_reducible first | exact Ext.refl _ | assumption | refine Ext.drew ?_ | refine Ext.drewN ?_ _ | refine Ext.alloc ?_ _ | refine Ext.trans ?_ (by with_reducible assumption)))⟩
  · have HK := Lib.hid (fdK_some ⟨hi0, hi1⟩ hx)
    rw [HK.out]
    clear h h1 h2 h3 hwf
    obtain ⟨A4, c4, rfl, -, -, -⟩ := own_rd ho
    go_enter Tryz.func55, Tryz.ntmps55
    go_wp2_with fail
    refine bodyPost_ret (by simp [results, Tryz.results55, go_sem]; try rfl) rfl ?_
    exact ⟨⟨_, rfl, .inr ⟨s, p, _, hx, rfl, (ho.alloc _).alloc _⟩⟩, by (repeat (with_reducible first | exact Ext.refl _ | assumption | refine Ext.drew ?_ | refine Ext.drewN ?_ _ | refine Ext.alloc ?_ _ | refine Ext.trans ?_ (by with_reducible assumption)))⟩
theorem fd_none {size i : Int} {K : Kn} (h : ¬ (0 ≤ i ∧ i < size)) : fdK size K i = 1 := if_neg h
/-- find, all ways: what is wrong, the sum, and the proof's row -/
def knS (size : Int) (K : Kn) (i : Int) : Int := if fdK size K i = 0 then ((K i).getD (0, [])).1 else 0
def knP (size : Int) (K : Kn) (i : Int) : List Int := if fdK size K i = 0 then ((K i).getD (0, [])).2 else []
theorem find_any {w : World} {base tb mb N cnt : Nat} {size root : Int} {K : Kn} (h : Tr w base tb mb size root N K cnt) (i : Int) (hs : size ≤ 200) :
    Calls Tryz.prog 55 #[.pointer (some ⟨tb, 0, none⟩), .int .i64 i] w fun e w' => (∃ u, e = .returned (.tuple #[.agg #[.int .i64 (knS size K i), u], errR (fdK size K i)]) ∧
      w'.ownsRow base 3 1 u (knP size K i).length ((knP size K i).map (Value.int .i64))) ∧ Ext w w' := by
  by_cases hi : 0 ≤ i ∧ i < size
  · refine (find_in h i hi hs).mono fun e w' hh => ⟨?_, hh.2⟩
    obtain ⟨⟨v, he, hc⟩, _⟩ := hh
    rcases hc with ⟨h1, rfl⟩ | ⟨s, p, u, h1, rfl, h3⟩
    · have hk := fdK_none hi h1
      have e1 : knS size K i = 0 := if_neg (by rw [hk]; decide)
      have e2 : knP size K i = [] := if_neg (by rw [hk]; decide)
      rw [e1, e2]
      exact ⟨_, he, own_nil _ _ _ _⟩
    · have hk := fdK_some hi h1
      have e1 : knS size K i = s := by unfold knS; rw [if_pos hk, h1]; rfl
      have e2 : knP size K i = p := by unfold knP; rw [if_pos hk, h1]; rfl
      rw [e1, e2]
      exact ⟨_, he, h3⟩
  · have hk := fdK_range K hi
    have e1 : knS size K i = 0 := if_neg (by rw [hk]; decide)
    have e2 : knP size K i = [] := if_neg (by rw [hk]; decide)
    rw [e1, e2, hk]
    exact (find_range h i hi).mono fun e w' hh => ⟨⟨_, hh.1, own_nil _ _ _ _⟩, hh.2⟩
set_option maxRecDepth 100000 in
theorem Knows_any {w : World} {base tb mb N cnt : Nat} {size root : Int} {K : Kn} (h : Tr w base tb mb size root N K cnt) (i : Int) (hs : size ≤ 200) :
    Calls Tryz.prog 20 #[.pointer (some ⟨tb, 0, none⟩), .int .i64 i] w fun e w' => e = .returned (.tuple #[.int .i64 (knS size K i), errR (fdK size K i)]) ∧ Ext w w' := by
  obtain ⟨s, HS⟩ : ∃ s, Hid (knS size K i = s) := ⟨_, rfl⟩
  obtain ⟨p, HP⟩ : ∃ s, Hid (knP size K i = s) := ⟨_, rfl⟩
  obtain ⟨k, HK⟩ : ∃ s, Hid (fdK size K i = s) := ⟨_, rfl⟩
  rw [HS.out, HK.out]
  go_enter Tryz.func20, Tryz.ntmps20
  go_wp2_with fail
  refine (find_any h i hs).mono ?_
  rw [HS.out, HP.out, HK.out]
  rintro _ w1 ⟨⟨u, rfl, ho⟩, hb1⟩
  obtain ⟨A4, c4, rfl, -, -, -⟩ := own_rd ho
  go_wp2_with fail
  go_ret2
  exact ⟨rfl, by (repeat (with_reducible first | exact Ext.refl _ | assumption | refine Ext.drew ?_ | refine Ext.drewN ?_ _ | refine Ext.alloc ?_ _ | refine Ext.trans ?_ (by with_reducible assumption)))⟩
end Go.Proofs.YtfccbjfiionepaaGreatDoor

/- Prune: Learn and Forget. -/
namespace Go.Proofs.YtfccbjfiionepaaGreatDoor
open Go.RowKit Go.WideShapes
open Go.Maps (int_keyed keyOf_int_mk)
set_option linter.unusedVariables false
attribute [local go_sem ↓] Go.wp_at_zero Go.wp_at_succ

theorem own_map {w w' : World} {base n size mb : Nat} {e : TypeId} {v : Value} {xs : List Value} (h : w.ownsRow base e size v n xs) (hg : w.grownBy w' (some mb)) {es : Array MapEntry} {ck : Nat} (hm : w.heap[mb]? = some (.map es ck)) : w'.ownsRow base e size v n xs := by
  refine h.kept hg ?_
  rcases h.2 with ⟨rfl, _⟩ | ⟨g, cap, cur, rfl, _, hh, _⟩
  · exact .inl rfl
  · refine .inr fun e => ?_
    simp [Value.ownBlock] at e
    subst e
    rw [hm] at hh
    cases hh
theorem EntK.mapped {w w' : World} {base mb : Nat} {D : DataW Value} {i : Int} {x : Option (Int × List Int)} (h : EntK w base D i x) (hg : w.grownBy w' (some mb)) {es : Array MapEntry} {ck : Nat} (hm : w.heap[mb]? = some (.map es ck)) : EntK w' base D i x := by
  cases x with
  | none => exact h
  | some x =>
    obtain ⟨s, p⟩ := x
    obtain ⟨h1, v, h2, h3⟩ := h
    exact ⟨h1, v, h2, own_map h3 hg hm⟩
theorem kl_ne {i j : Int} (h : j ≠ i) : kl j ≠ kl i := fun e => by injection e with _ e; exact h e
theorem EntK.put {w : World} {base : Nat} {D : DataW Value} {i j : Int} {x : Option (Int × List Int)} (hj : j ≠ i) (d : DataW Value) (h : EntK w base D j x) : EntK w base (D.put (kl i) d) j x := by
  cases x with
  | none => exact (Maps.has_put_other (kl_ne hj) d).trans h
  | some x =>
    obtain ⟨s, p⟩ := x
    obtain ⟨h1, v, h2, h3⟩ := h
    exact ⟨(Maps.has_put_other (kl_ne hj) d).trans h1, v, fun z => (Maps.atKey_put_other (kl_ne hj) d z).trans (h2 z), h3⟩
theorem EntK.del {w : World} {base : Nat} {D : DataW Value} {i j : Int} {x : Option (Int × List Int)} (hj : j ≠ i) (h : EntK w base D j x) : EntK w base (D.del (kl i)) j x := by
  cases x with
  | none => exact (Maps.has_del_other (kl_ne hj)).trans h
  | some x =>
    obtain ⟨s, p⟩ := x
    obtain ⟨h1, v, h2, h3⟩ := h
    exact ⟨(Maps.has_del_other (kl_ne hj)).trans h1, v, fun z => (Maps.atKey_del_other (kl_ne hj) z).trans (h2 z), h3⟩
theorem EntK.hasK {w : World} {base : Nat} {D : DataW Value} {i : Int} {x : Option (Int × List Int)} (h : EntK w base D i x) : Maps.has D (kl i) = x.isSome := by
  cases x with
  | none => exact h
  | some x => exact h.1
def cntL (K : Kn) (i : Int) (cnt : Nat) : Nat := if (K i).isSome then cnt else cnt + 1

/-- a leaf was stored -/
theorem Tr.put {w : World} {base tb mb N cnt : Nat} {size root : Int} {K : Kn} (h : Tr w base tb mb size root N K cnt) (hN : N < 1000000) {i s : Int} {p : List Int} {v : Value} (hi : (kl i).wf = true) (hv : w.ownsRow base 3 1 v p.length (p.map (Value.int .i64))) :
    ∃ w', (Instr.mapUpdate 99 (.map (some mb)) (.int .i64 i) (.agg #[.int .i64 s, v])).run Tryz.prog w = .ok () w' ∧ Tr w' base tb mb size root (N + 1) (K.set i (some (s, p))) (cntL K i cnt) ∧ w.grownBy w' (some mb) := by
  obtain ⟨D, h1, h2, h3⟩ := h.ex
  have hK := int_keyed (P := Tryz.prog) Tryz.underlying3
  have hkey := keyOf_int_mk (P := Tryz.prog) Tryz.underlying3 hi
  obtain ⟨w', hrun, hown, ht⟩ := h1.store (t := 99) (e := 104) hK Tryz.underlying99 (by simp only [maxLen]; omega) hkey (val := .agg #[.int .i64 s, v]) (d := .held (.agg #[.int .i64 s, v])) (ps := []) rfl
  have hg := ht.grown
  obtain ⟨es, ck, hb, _⟩ := id h1
  refine ⟨w', hrun, ⟨h.le1, h.le2, h.bk.kept hg ?_, D.put (kl i) (.held (.agg #[.int .i64 s, v])), hown, ?_, fun j hj => ?_⟩, hg⟩
  · intro e
    injection e with e
    have := h.bk
    unfold Bk at this
    rw [← e, hb] at this
    cases this
  · rw [Maps.size_put (h1.tidy hK), (h3 i hi).hasK, h2]
    rfl
  · by_cases hji : j = i
    · subst hji
      have e1 : (K.set j (some (s, p))) j = some (s, p) := if_pos rfl
      rw [e1]
      exact ⟨Maps.has_put_same h1.isMap (hK.key hkey) _, v, fun z => Maps.atKey_put_same h1.isMap (hK.key hkey) _ z, own_map hv hg hb⟩
    · have e1 : (K.set i (some (s, p))) j = K j := if_neg hji
      rw [e1]
      exact ((h3 j hj).mapped hg hb).put hji _
/-- a leaf was struck -/
theorem Tr.del {w : World} {base tb mb N cnt : Nat} {size root : Int} {K : Kn} (h : Tr w base tb mb size root N K cnt) {i : Int} (hi : (kl i).wf = true) (ty : TypeId) :
    ∃ w', (Builtin.delete_ #[99, 3] ty #[.map (some mb), .int .i64 i]).run Tryz.prog w = .ok (.tuple #[]) w' ∧ Tr w' base tb mb size root N (K.set i none) (cnt - (if (K i).isSome then 1 else 0)) ∧ w.grownBy w' (some mb) := by
  obtain ⟨D, h1, h2, h3⟩ := h.ex
  have hK := int_keyed (P := Tryz.prog) Tryz.underlying3
  have hkey := keyOf_int_mk (P := Tryz.prog) Tryz.underlying3 hi
  obtain ⟨w', hrun, hown, ht⟩ := h1.drop (t := 99) (e := 104) hK Tryz.underlying99 hkey ty
  have hg := ht.grown
  obtain ⟨es, ck, hb, _⟩ := id h1
  refine ⟨w', hrun, ⟨h.le1, h.le2, h.bk.kept hg ?_, D.del (kl i), hown, ?_, fun j hj => ?_⟩, hg⟩
  · intro e
    injection e with e
    have := h.bk
    unfold Bk at this
    rw [← e, hb] at this
    cases this
  · have := Maps.size_del (k := kl i) (h1.tidy hK)
    rw [(h3 i hi).hasK, h2] at this
    omega
  · by_cases hji : j = i
    · subst hji
      have e1 : (K.set j none) j = none := if_pos rfl
      rw [e1]
      exact Maps.has_del_same
    · have e1 : (K.set i none) j = K j := if_neg hji
      rw [e1]
      exact ((h3 j hj).mapped hg hb).del hji

set_option maxRecDepth 100000 in
set_option maxHeartbeats 2000000 in
theorem Learn_ok {w : World} {base tb mb N cnt : Nat} {size root : Int} {K : Kn} (h : Tr w base tb mb size root N K cnt) (hN : N < 1000000) (i s : Int) (A : Option Addr) (m c : Nat) (p : List Int) (hr : Rd w 1 A m c (p.map (Value.int .i64))) (hm : c ≤ maxLen) (hl : m ≤ 4096)
    (hb : base ≤ w.heap.size) (hc : pcheck root size i s p = 0) (hK : K i = none ∨ ∃ q, K i = some (s, q)) (hi : (kl i).wf = true) :
    Calls Tryz.prog 19 #[.pointer (some ⟨tb, 0, none⟩), .int .i64 i, .int .i64 s, .slice A m c] w fun e w' => e = .returned .nilIface ∧ Tr w' base tb mb size root (N + 1) (K.set i (some (s, p))) (cntL K i cnt) ∧ w.grownBy w' (some mb) := by
  have b0 := h.bk.cell 0
  have b1 := h.bk.cell 1
  have HC := Lib.hid hc
  go_enter Tryz.func19, Tryz.ntmps19
  go_wp2_with fail
  go_region_held3 (fun W => W.cell? ⟨tb, 0, none⟩ = some (.int .i64 size) ∧ W.cell? ⟨tb, 1, none⟩ = some (.int .i64 root)) (first | exact ⟨b0, b1⟩ | exact ⟨(h.bk.ext (by (repeat (with_reducible first | exact Ext.refl _ | assumption | refine Ext.drew ?_ | refine Ext.drewN ?_ _ | refine Ext.alloc ?_ _ | refine Ext.trans ?_ (by with_reducible assumption))))).cell 0, (h.bk.ext (by (repeat (with_reducible first | exact Ext.refl _ | assumption | refine Ext.drew ?_ | refine Ext.drewN ?_ _ | refine Ext.alloc ?_ _ | refine Ext.trans ?_ (by with_reducible assumption))))).cell 1⟩) (first
    | (go_at_call 34; (with_reducible refine (PCheck_any root size i s A m c p _ (hr.ext (by (repeat (with_reducible first | exact Ext.refl _ | assumption | refine Ext.drew ?_ | refine Ext.drewN ?_ _ | refine Ext.alloc ?_ _ | refine Ext.trans ?_ (by with_reducible assumption))))) hm).mono ?_); rw [HC.out]; rintro _ w1 ⟨rfl, hb1⟩)
    | fail)
  have X1 : Ext w w1 := by (repeat (with_reducible first | exact Ext.refl _ | assumption | refine Ext.drew ?_ | refine Ext.drewN ?_ _ | refine Ext.alloc ?_ _ | refine Ext.trans ?_ (by with_reducible assumption)))
  have h1 := h.ext X1
  have b2 := h1.bk.cell 2
  obtain ⟨D, d1, d2, d3⟩ := h1.ex
  obtain ⟨v, b, hrun, hcs⟩ := look_run d1 hi (d3 i hi)
  clear b0 b1 d1 d2 d3
  simp only [errR_0]
  rcases hcs with ⟨hx, rfl, rfl⟩ | ⟨s', q, u, hx, rfl, rfl, ho⟩
  · skip
    go_wp2_with fail
    have X2 : Ext w (w1.alloc (.cells #[.int .i64 0, .slice none 0 0] 104)) := X1.alloc _
    have h2 := h1.ext (Ext.alloc (Ext.refl w1) (.cells #[.int .i64 0, .slice none 0 0] 104))
    generalize w1.alloc (.cells #[.int .i64 0, .slice none 0 0] 104) = w2 at *
    have c2 := h2.bk.cell 2
    go_region_held3 (fun W => W.cell? ⟨tb, 2, none⟩ = some (.map (some mb))) (first | exact c2 | exact h5.bk.cell 2 | exact (h2.bk.ext (by (repeat (with_reducible first | exact Ext.refl _ | assumption | refine Ext.drew ?_ | refine Ext.drewN ?_ _ | refine Ext.alloc ?_ _ | refine Ext.trans ?_ (by with_reducible assumption))))).cell 2) (first
      | (go_at_call 54; (with_reducible refine (Clone_rd (hr.ext (Ext.trans X2 (by (repeat (with_reducible first | exact Ext.refl _ | assumption | refine Ext.drew ?_ | refine Ext.drewN ?_ _ | refine Ext.alloc ?_ _ | refine Ext.trans ?_ (by with_reducible assumption)))))) hl).mono ?_); rintro _ w4 ⟨⟨v4, rfl, o4⟩, hb4⟩; obtain ⟨A4, c4, rfl, -, -, -⟩ := own_rd o4; have h4 := h2.ext (show Ext w2 w4 by (repeat (with_reducible first | exact Ext.refl _ | assumption | refine Ext.drew ?_ | refine Ext.drewN ?_ _ | refine Ext.alloc ?_ _ | refine Ext.trans ?_ (by with_reducible assumption)))); obtain ⟨w5, hrun5, h5, hg5⟩ := h4.put hN (s := s) hi (own_lower o4 (by have := X2.size; simp; omega)))
      | fail)
    go_wp2_with fail
    go_ret
    exact ⟨rfl, h5, Ext.gbt (show Ext w w4 by (repeat (with_reducible first | exact Ext.refl _ | assumption | refine Ext.drew ?_ | refine Ext.drewN ?_ _ | refine Ext.alloc ?_ _ | refine Ext.trans ?_ (by with_reducible assumption)))) hg5⟩
  · obtain rfl : s' = s := by
      rcases hK with h0 | ⟨q0, h0⟩
      · rw [h0] at hx; cases hx
      · rw [h0] at hx; injection hx with hx; injection hx with hx; exact hx.symm
    obtain ⟨A3, c3, rfl, -, -, -⟩ := own_rd ho
    go_wp2_with fail
    have X2 : Ext w (w1.alloc (.cells #[.int .i64 s', .slice A3 q.length c3] 104)) := X1.alloc _
    have h2 := h1.ext (Ext.alloc (Ext.refl w1) (.cells #[.int .i64 s', .slice A3 q.length c3] 104))
    generalize w1.alloc (.cells #[.int .i64 s', .slice A3 q.length c3] 104) = w2 at *
    have c2 := h2.bk.cell 2
    go_region_held3 (fun W => W.cell? ⟨tb, 2, none⟩ = some (.map (some mb))) (first | exact c2 | exact h5.bk.cell 2 | exact (h2.bk.ext (by (repeat (with_reducible first | exact Ext.refl _ | assumption | refine Ext.drew ?_ | refine Ext.drewN ?_ _ | refine Ext.alloc ?_ _ | refine Ext.trans ?_ (by with_reducible assumption))))).cell 2) (first
      | (go_at_call 54; (with_reducible refine (Clone_rd (hr.ext (Ext.trans X2 (by (repeat (with_reducible first | exact Ext.refl _ | assumption | refine Ext.drew ?_ | refine Ext.drewN ?_ _ | refine Ext.alloc ?_ _ | refine Ext.trans ?_ (by with_reducible assumption)))))) hl).mono ?_); rintro _ w4 ⟨⟨v4, rfl, o4⟩, hb4⟩; obtain ⟨A4, c4, rfl, -, -, -⟩ := own_rd o4; have h4 := h2.ext (show Ext w2 w4 by (repeat (with_reducible first | exact Ext.refl _ | assumption | refine Ext.drew ?_ | refine Ext.drewN ?_ _ | refine Ext.alloc ?_ _ | refine Ext.trans ?_ (by with_reducible assumption)))); obtain ⟨w5, hrun5, h5, hg5⟩ := h4.put hN (s := s') hi (own_lower o4 (by have := X2.size; simp; omega)))
      | fail)
    go_wp2_with fail
    go_ret
    exact ⟨rfl, h5, Ext.gbt (show Ext w w4 by (repeat (with_reducible first | exact Ext.refl _ | assumption | refine Ext.drew ?_ | refine Ext.drewN ?_ _ | refine Ext.alloc ?_ _ | refine Ext.trans ?_ (by with_reducible assumption)))) hg5⟩
theorem Tr.step {w0 w w' : World} {base tb mb N cnt : Nat} {size root : Int} {K : Kn} (h : Tr w base tb mb size root N K cnt) (hw : Ext w0 w) (hb : w0.heap.size ≤ base) (h2 : w.grownBy w' (some mb)) : Ext w0 w' :=
  hw.gbn h2 (Nat.le_trans hb h.le2)
end Go.Proofs.YtfccbjfiionepaaGreatDoor
