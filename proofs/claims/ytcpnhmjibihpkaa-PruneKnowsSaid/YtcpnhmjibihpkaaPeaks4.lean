/- Peaks: Of. -/
import Derived.Test.YtcpnhmjibihpkaaPeaks2
import Derived.Deep.DeepCutAuto
import Derived.Deep.CutBlock
namespace Go.Proofs.Ytcpnhmjibihpkaa
open Go.RowKit Go.WideShapes
set_option linter.unusedVariables false
attribute [local go_sem ↓] Go.wp_at_zero Go.wp_at_succ

theorem asks_peaks : AsksNot 88 := by
  refine ⟨fun n w => ?_, fun v w => by kernel_rfl⟩
  go_enter Try.func88, Try.ntmps88
  go_wp2_with (go_at_call 70; refine (Valid_any _ _).mono ?_; rintro e w' ⟨rfl, rfl⟩)
  go_ret
  exact ⟨rfl, rfl⟩
def onesF : Nat → Nat → Nat
  | 0, _ => 0
  | f + 1, m => m % 2 + onesF f (m / 2)
theorem ones_F : ∀ (f m : Nat), m < 2 ^ f → ones m = onesF f m
  | 0, m, h => by
    obtain rfl : m = 0 := by simpa using h
    simp [ones, onesF]
  | f + 1, m, h => by
    by_cases h0 : m = 0
    · subst h0
      rw [ones, dif_pos rfl, onesF, ← ones_F f 0 (Nat.pow_pos (by decide))]
      simp [ones]
    · rw [ones, dif_neg h0, onesF, ones_F f (m / 2) (by rw [Nat.pow_succ] at h; omega)]
def oc1 (x : Int) : Int := IntKind.u64.wrap (bits .and .u64 (x / 2) 6148914691236517205 + bits .and .u64 x 6148914691236517205)
def oc2 (x : Int) : Int := IntKind.u64.wrap (bits .and .u64 (x / 4) 3689348814741910323 + bits .and .u64 x 3689348814741910323)
def oc3 (x : Int) : Int := bits .and .u64 (IntKind.u64.wrap (x / 16 + x)) 1085102592571150095
def oc4 (x : Int) : Int := IntKind.u64.wrap (x + x / 256)
def oc5 (x : Int) : Int := IntKind.u64.wrap (x + x / 65536)
def oc6 (x : Int) : Int := IntKind.u64.wrap (x + x / 4294967296)
theorem oc_all : ∀ k : Fin 201, bits .and .i64 (wrap64 (oc6 (oc5 (oc4 (oc3 (oc2 (oc1 ((k.val : Nat) : Int)))))))) 127 = ((onesF 8 k.val : Nat) : Int) := by decide +kernel
set_option maxRecDepth 100000 in
theorem OnesCount64_any (n : Nat) (w : World) (hn : n ≤ 200) :
    Calls Try.prog 101 #[.int .u64 n] w fun e w' => e = .returned (.int .i64 (ones n : Nat)) ∧ w = w' := by
  have HO := Lib.hid (ones_F 8 n (by show n < 256; omega))
  have i1 : (n : Int) ≤ 200 := by omega
  have i2 : (0 : Int) ≤ n := by omega
  obtain ⟨v1, H1⟩ : ∃ v, Hid (oc1 n = v) := ⟨_, rfl⟩
  obtain ⟨v2, H2⟩ : ∃ v, Hid (oc2 v1 = v) := ⟨_, rfl⟩
  obtain ⟨v3, H3⟩ : ∃ v, Hid (oc3 v2 = v) := ⟨_, rfl⟩
  obtain ⟨v4, H4⟩ : ∃ v, Hid (oc4 v3 = v) := ⟨_, rfl⟩
  obtain ⟨v5, H5⟩ : ∃ v, Hid (oc5 v4 = v) := ⟨_, rfl⟩
  obtain ⟨v6, H6⟩ : ∃ v, Hid (oc6 v5 = v) := ⟨_, rfl⟩
  go_enter Try.func101, Try.ntmps101
  go_upto_region 2 with (fail)
  rw [show IntKind.u64.wrap (bits .and .u64 ((n : Int) / 2) 6148914691236517205 + bits .and .u64 (n : Int) 6148914691236517205) = v1 from H1.out]
  go_upto_region 3 with (fail)
  rw [show IntKind.u64.wrap (bits .and .u64 (v1 / 4) 3689348814741910323 + bits .and .u64 v1 3689348814741910323) = v2 from H2.out]
  go_upto_region 4 with (fail)
  rw [show bits .and .u64 (IntKind.u64.wrap (v2 / 16 + v2)) 1085102592571150095 = v3 from H3.out]
  go_upto_region 5 with (fail)
  rw [show IntKind.u64.wrap (v3 + v3 / 256) = v4 from H4.out]
  go_upto_region 6 with (fail)
  rw [show IntKind.u64.wrap (v4 + v4 / 65536) = v5 from H5.out]
  go_upto_region 7 with (fail)
  rw [show IntKind.u64.wrap (v5 + v5 / 4294967296) = v6 from H6.out]
  go_wp2_with fail
  go_ret
  exact ⟨ret_int (by rw [← H6.out, ← H5.out, ← H4.out, ← H3.out, ← H2.out, ← H1.out, HO.out]; exact oc_all ⟨n, by omega⟩), rfl⟩
theorem OnesCount_any (n : Nat) (w : World) (hn : n ≤ 200) :
    Calls Try.prog 87 #[.int .u64 n] w fun e w' => e = .returned (.int .i64 (ones n : Nat)) ∧ w = w' := by
  have i1 : (n : Int) ≤ 200 := by omega
  have i2 : (0 : Int) ≤ n := by omega
  go_enter Try.func87, Try.ntmps87
  go_wp2_with fail
  refine (OnesCount64_any n _ hn).mono ?_
  rintro _ _ ⟨rfl, rfl⟩
  go_wp2_with fail
  go_ret
  exact ⟨rfl, rfl⟩

theorem Clone_rd {w : World} {A : Option Addr} {n c : Nat} {xs : List Int} (hr : Rd w 1 A n c (xs.map (Value.int .i64))) (hl : n ≤ 4096) :
    Calls Try.prog 86 #[.slice A n c] w fun e w' => (∃ v', e = .returned v' ∧ OwnI w w' v' xs) ∧ Ext w w' := by
  have hx := hr.lenI
  cases A with
  | none =>
    have : n = 0 := by
      rcases Nat.eq_zero_or_pos n with h | h
      · exact h
      · obtain ⟨ad, h1, _⟩ := hr.2.2 h; cases h1
    subst this
    have : xs = [] := List.eq_nil_of_length_eq_zero hx
    subst this
    refine (Try.slices_Clone_int_nil 0 c w).mono fun e w' hh => ?_
    obtain ⟨rfl, rfl⟩ := hh
    exact ⟨⟨_, rfl, own_nil _ _ _ _⟩, Ext.refl _⟩
  | some a =>
    rcases Nat.eq_zero_or_pos n with h | h
    · subst h
      have : xs = [] := List.eq_nil_of_length_eq_zero hx
      subst this
      refine (Try.slices_Clone_int_zero a c w).mono fun e w' hh => ?_
      obtain ⟨v', rfl, h1, _, h3⟩ := hh
      exact ⟨⟨v', rfl, h1⟩, h3⟩
    · obtain ⟨ad, h1, h2, h3⟩ := hr.2.2 h
      obtain rfl : a = ad := by injection h1
      have hat : ∀ j, j < xs.length → w.cell? (a.add j) = some (.int .i64 (xs.getD j 0)) := fun j hj => h3 j _ (by rw [List.getElem?_map, List.getD_eq_getElem?_getD, List.getElem?_eq_getElem hj]; rfl)
      obtain ⟨b, off, sp⟩ := a
      have h0 := hat 0 (by omega)
      have hs : sp = none := by
        cases sp with
        | none => rfl
        | some q =>
          rw [show (⟨b, off, some q⟩ : Addr).add 0 = ⟨b, off, some q⟩ from rfl] at h0
          unfold World.cell? at h0
          simp at h0
          split at h0 <;> simp at h0
      subst hs
      refine (Try.slices_Clone_int b off n c xs w (by omega) (by omega) fun j hj => ?_).mono fun e w' hh => ?_
      · have := hat j hj
        rwa [add_mk] at this
      · obtain ⟨v', rfl, h1, _, h3⟩ := hh
        refine ⟨⟨v', rfl, ?_⟩, h3⟩
        rw [← hx, List.take_of_length_le (Nat.le_refl _)] at h1
        exact h1
/-- what Of tells -/
def ofK (size : Int) (xs : List Int) : Int := if size < 0 ∨ 200 < size then 1 else if xs.length ≠ ones size.toNat then 3 else if allV xs = true then 0 else 1
theorem ofK_range {size : Int} {xs : List Int} (h : size < 0 ∨ 200 < size) : ofK size xs = 1 := if_pos h
theorem ofK_len {size : Int} {xs : List Int} (h : ¬ (size < 0 ∨ 200 < size)) (h2 : xs.length ≠ ones size.toNat) : ofK size xs = 3 := by unfold ofK; rw [if_neg h, if_pos h2]
theorem ofK_val {size : Int} {xs : List Int} (h : ¬ (size < 0 ∨ 200 < size)) (h2 : ¬ xs.length ≠ ones size.toNat) : ofK size xs = if allV xs = true then 0 else 1 := by unfold ofK; rw [if_neg h, if_neg h2]
theorem ofK_zero {size : Int} {xs : List Int} (h : ofK size xs = 0) : 0 ≤ size ∧ size ≤ 200 ∧ xs.length = ones size.toNat := by
  by_cases h1 : size < 0 ∨ 200 < size
  · rw [ofK_range h1] at h; cases h
  · by_cases h2 : xs.length ≠ ones size.toNat
    · rw [ofK_len h1 h2] at h; cases h
    · exact ⟨by omega, by omega, by omega⟩
def OfPost (size : Int) (xs : List Int) (w : World) (e : Ending) (w' : World) : Prop :=
  (ofK size xs ≠ 0 ∧ e = .returned (.tuple #[.pointer none, errR (ofK size xs)])) ∨
  (ofK size xs = 0 ∧ ∃ (qb : Nat) (v : Value), e = .returned (.tuple #[.pointer (some ⟨qb, 0, none⟩), .nilIface]) ∧ PkS w' w.heap.size qb v size.toNat xs.reverse)

set_option maxRecDepth 100000 in
theorem POf_any (size : Int) (A : Option Addr) (n c : Nat) (xs : List Int) (w : World) (hr : Rd w 1 A n c (xs.map (Value.int .i64))) (hm : c ≤ maxLen) :
    Calls Try.prog 48 #[.int .i64 size, .slice A n c] w fun e w' => OfPost size xs w e w' ∧ Ext w w' := by
  have hx := hr.lenI
  have hlc := hr.2.1
  unfold maxLen at hm
  by_cases h1 : size < 0 ∨ 200 < size
  · have HK := Lib.hid (ofK_range (xs := xs) h1)
    rcases (show size < 0 ∨ (0 ≤ size ∧ 200 < size) by omega) with h | ⟨h, h'⟩
    all_goals
      clear h1 hx
      go_enter Try.func48, Try.ntmps48
      go_wp2_with fail
      go_ret2
      exact ⟨.inl ⟨by rw [HK.out]; decide, by rw [HK.out]; rfl⟩, Ext.refl _⟩
  · obtain ⟨m, rfl⟩ := Int.eq_ofNat_of_zero_le (show 0 ≤ size by omega)
    have hm2 : m ≤ 200 := by omega
    have i1 : (m : Int) ≤ 200 := by omega
    have i2 : (0 : Int) ≤ m := by omega
    by_cases h2 : xs.length ≠ ones m
    · have HK := Lib.hid (ofK_len h1 (xs := xs) (by rw [Int.toNat_natCast]; exact h2))
      have hne : ((n : Int) == ((ones m : Nat) : Int)) = false := by simp; omega
      clear h1 h2 hx
      go_enter Try.func48, Try.ntmps48
      go_wp2_with fail
      refine (OnesCount_any m _ hm2).mono ?_
      rintro _ _ ⟨rfl, rfl⟩
      generalize ones m = q at *
      go_wp2_with fail
      go_ret2
      exact ⟨.inl ⟨by rw [HK.out]; decide, by rw [HK.out]; rfl⟩, Ext.refl _⟩
    · have HK := Lib.hid (ofK_val h1 (xs := xs) (by rw [Int.toNat_natCast]; exact h2))
      have hq : n = ones m := by omega
      have HX := Lib.hid hx
      have hol := ones_le m m (Nat.le_refl _)
      have hqq : ((n : Int) == ((ones m : Nat) : Int)) = true := by simp; omega
      clear h1 h2 hx
      cases hv : allV xs
      · rw [hv, if_neg (by decide)] at HK
        go_enter Try.func48, Try.ntmps48
        go_wp2_with fail
        refine (OnesCount_any m _ hm2).mono ?_
        rintro _ _ ⟨rfl, rfl⟩
        generalize ones m = q at *
        subst hq
        go_wp2_with fail
        refine (ContainsFunc_any _ asks_peaks A n c xs _ hr (by simp only [maxLen]; omega)).mono ?_
        rw [hv]
        rintro _ _ ⟨rfl, rfl⟩
        go_wp2_with fail
        go_ret2
        exact ⟨.inl ⟨by rw [HK.out]; decide, by rw [HK.out]; rfl⟩, Ext.refl _⟩
      · rw [hv, if_pos rfl] at HK
        go_enter Try.func48, Try.ntmps48
        go_wp2_with fail
        refine (OnesCount_any m _ hm2).mono ?_
        rintro _ _ ⟨rfl, rfl⟩
        generalize ones m = q at *
        subst hq
        go_wp2_with fail
        refine (ContainsFunc_any _ asks_peaks A n c xs _ hr (by simp only [maxLen]; omega)).mono ?_
        rw [hv]
        rintro _ _ ⟨rfl, rfl⟩
        go_wp2_with fail
        refine (Clone_rd hr (by omega)).mono ?_
        rintro _ w1 ⟨⟨v1, rfl, o1⟩, hb1⟩
        obtain ⟨A1, c1, rfl, -, -, -⟩ := own_rd o1
        go_wp2_with fail
        go_ret2
        refine ⟨.inr ⟨HK.out, _, _, rfl, ⟨hb1.size, Bk.at_ _ _ _ _ rfl, ?_, ?_⟩⟩, by (repeat (with_reducible first | exact Ext.refl _ | assumption | refine Ext.drew ?_ | refine Ext.drewN ?_ _ | refine Ext.alloc ?_ _ | refine Ext.trans ?_ (by with_reducible assumption)))⟩
        · rw [List.length_reverse, List.reverse_reverse]
          exact World.ownsRow.alloc o1 _
        · intro h
          have := (World.ownsRow.lt o1 _ h).2
          omega
set_option maxRecDepth 100000 in
theorem PParts_any {w : World} {base pb n : Nat} {v : Value} {L : List Int} (h : PkS w base pb v n L) (hk : L.length ≤ 4096) :
    Calls Try.prog 47 #[.pointer (some ⟨pb, 0, none⟩)] w fun e w' => (∃ v, e = .returned v ∧ OwnI w w' v L.reverse) ∧ Ext w w' := by
  have b1 := h.bk.cell 1
  have ho : w.ownsRow base 3 1 v L.reverse.length (L.reverse.map (Value.int .i64)) := by rw [List.length_reverse]; exact h.own
  have HO := Lib.hid ho
  clear ho h
  go_enter Try.func47, Try.ntmps47
  go_wp2_with fail
  refine (Clone_own HO.out (by rw [List.length_reverse]; exact hk)).mono ?_
  rintro _ w1 ⟨⟨v1, rfl, o1⟩, hb1⟩
  go_wp2_with fail
  go_ret
  exact ⟨⟨_, rfl, o1⟩, hb1⟩

/-! ### two rows apart -/
theorem own_two {w w' : World} {base n size a : Nat} {e : TypeId} {v : Value} {xs : List Value} {row : Option Nat} (h : w.ownsRow base e size v n xs) (h2 : Two w w' a row) (ha : ∀ g, v.ownBlock = some g → g ≠ a ∧ row ≠ some g) : w'.ownsRow base e size v n xs := by
  refine ⟨h.1, ?_⟩
  rcases h.2 with h3 | ⟨g, cap, cur, rfl, hg, hh, r⟩
  · exact .inl h3
  · obtain ⟨q1, q2⟩ := ha g rfl
    exact .inr ⟨g, cap, cur, rfl, hg, (h2.block g (Array.getElem?_eq_some_iff.1 hh).1 q1 (fun e => q2 e.symm)).trans hh, r⟩
theorem Pk.kept {w w' : World} {base pb : Nat} {r row : Option Nat} {xs : List Int} (h : Pk w base pb r xs) (hg : w.grownBy w' row) (h1 : row ≠ some pb) (h2 : ∀ g, row = some g → r ≠ some g) : Pk w' base pb r xs := by
  obtain ⟨v, rfl, hp⟩ := h
  refine ⟨v, rfl, hp.le, hp.bk.kept hg h1, hp.own.kept hg ?_, hp.ne⟩
  cases hv : v.ownBlock with
  | none => exact .inl rfl
  | some g => exact .inr fun e => h2 g e.symm hv
theorem Pk.below {w : World} {base pb : Nat} {r : Option Nat} {xs : List Int} (h : Pk w base pb r xs) : pb < w.heap.size ∧ ∀ g, r = some g → g < w.heap.size := by
  obtain ⟨v, rfl, hp⟩ := h
  exact ⟨hp.bk.lt, fun g hg => (hp.own.lt g hg).2⟩
end Go.Proofs.Ytcpnhmjibihpkaa
