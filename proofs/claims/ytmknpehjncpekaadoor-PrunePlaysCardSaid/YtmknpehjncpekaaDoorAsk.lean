import Derived.Test.YtmknpehjncpekaaDoorErrA
import Derived.Test.YtmknpehjncpekaaDoorOpen
import Derived.Deep.RegionHeld3
import Derived.Deep.DrawnRows
namespace Go.Proofs.YtmknpehjncpekaaDoor
open Go.RowKit Go.WideShapes
set_option linter.unusedVariables false
attribute [local go_sem ↓] Go.wp_at_zero Go.wp_at_succ

/-- a function value that asks whether a number is no sum -/
def AsksNot (K : Nat) : Prop := (∀ (n : Int) (w : World), Calls Tryd.prog K #[.int .i64 n] w fun e w' => e = .returned (.bool (!vld n)) ∧ w = w') ∧ ∀ (v : Value) (w : World), (callFunc K #[v]).run Tryd.prog w = .ok (.enter K #[v]) w
set_option maxRecDepth 100000 in
theorem IndexFunc_all (K : Nat) (hK : AsksNot K) (A : Option Addr) (n c : Nat) (xs : List Int) (w : World) (hr : Rd w 1 A n c (xs.map (Value.int .i64))) (hm : c ≤ maxLen) (hv : allV xs = true) :
    Calls Tryd.prog 105 #[.slice A n c, .func (.func K) #[] #[]] w fun e w' => e = .returned (.int .i64 (-1)) ∧ w = w' := by
  have HV := Lib.hid hv
  have hl : n ≤ c := hr.2.1
  have HX := Lib.hid hr.lenI
  have HK := Lib.hid hK.1
  have hrun := hK.2
  clear hv hK
  unfold maxLen at hm
  go_enter Tryd.func105, Tryd.ntmps105
  go_wp2
  go_loop [8] (fun i => ∃ k : Nat, k ≤ n ∧ i = .int .i64 k) (fun i => n - (intOf i).toNat)
  case atStart => exact ⟨0, Nat.zero_le _, rfl⟩
  case round =>
    obtain ⟨k, hk, rfl⟩ := hrel
    by_cases hlt : k < n
    · obtain ⟨ad, hA, hb, hcell⟩ := hr.getI (j := k) (List.getElem?_eq_getElem (by rw [HX.out]; exact hlt))
      subst hA
      have hvk := allV_get HV.out (j := k) (List.getElem?_eq_getElem (by rw [HX.out]; exact hlt))
      generalize xs[k]'(by rw [HX.out]; exact hlt) = z at *
      go_wp2_with fail
      refine (HK.out z _).mono ?_
      rintro e w' ⟨rfl, rfl⟩
      go_wp2_with fail
      go_round
      case rel => exact ⟨k + 1, by omega, by go_num⟩
      case measure => simp [intOf]; omega
    · go_wp2_with fail
      go_ret
      exact ⟨rfl, rfl⟩

set_option maxRecDepth 100000 in
theorem IndexFunc_some (K : Nat) (hK : AsksNot K) (A : Option Addr) (n c : Nat) (xs : List Int) (w : World) (hr : Rd w 1 A n c (xs.map (Value.int .i64))) (hm : c ≤ maxLen) (hv : allV xs = false) :
    Calls Tryd.prog 105 #[.slice A n c, .func (.func K) #[] #[]] w fun e w' => (∃ k : Nat, e = .returned (.int .i64 k)) ∧ w = w' := by
  obtain ⟨j, z, hj, hz, hbefore⟩ := allV_not hv
  have hl : n ≤ c := hr.2.1
  have hx := hr.lenI
  have hjl : j < xs.length := (List.getElem?_eq_some_iff.1 hj).1
  have hjn : j < n := by omega
  have HX := Lib.hid hx
  have HJ := Lib.hid hj
  have HB := Lib.hid hbefore
  have HK := Lib.hid hK.1
  have hrun := hK.2
  clear hv hx hj hbefore hjl hK
  unfold maxLen at hm
  have HQ : ∀ k : Nat, Hid (∃ k' : Nat, Ending.returned (.int .i64 (k : Int)) = Ending.returned (.int .i64 (k' : Int))) := fun k => ⟨k, rfl⟩
  go_enter Tryd.func105, Tryd.ntmps105
  go_wp2
  go_loop [8] (fun i => ∃ k : Nat, k ≤ j ∧ i = .int .i64 k) (fun i => n - (intOf i).toNat)
  case atStart => exact ⟨0, Nat.zero_le _, rfl⟩
  case round =>
    obtain ⟨k, hk, rfl⟩ := hrel
    by_cases hlt : k < j
    · obtain ⟨ad, hA, hb, hcell⟩ := hr.getI (j := k) (List.getElem?_eq_getElem (by rw [HX.out]; omega))
      subst hA
      have hvk := HB.out k _ hlt (List.getElem?_eq_getElem (by rw [HX.out]; omega))
      generalize xs[k]'(by rw [HX.out]; omega) = u at *
      have hkn : k < n := by omega
      go_wp2_with fail
      refine (HK.out u _).mono ?_
      rintro e w' ⟨rfl, rfl⟩
      go_wp2_with fail
      go_round
      case rel => exact ⟨k + 1, by omega, by go_num⟩
      case measure => simp [intOf]; omega
    · obtain rfl : k = j := by omega
      obtain ⟨ad, hA, hb, hcell⟩ := hr.getI (j := k) HJ.out
      subst hA
      go_wp2_with fail
      refine (HK.out z _).mono ?_
      rintro e w' ⟨rfl, rfl⟩
      go_wp2_with fail
      go_ret
      exact ⟨(HQ k).out, rfl⟩

theorem ContainsFunc_any (K : Nat) (hK : AsksNot K) (A : Option Addr) (n c : Nat) (xs : List Int) (w : World) (hr : Rd w 1 A n c (xs.map (Value.int .i64))) (hm : c ≤ maxLen) :
    Calls Tryd.prog 88 #[.slice A n c, .func (.func K) #[] #[]] w fun e w' => e = .returned (.bool (!allV xs)) ∧ w = w' := by
  have HK := Lib.hid hK
  clear hK
  cases hv : allV xs
  · have HV := Lib.hid hv
    clear hv
    go_enter Tryd.func88, Tryd.ntmps88
    go_wp2_with fail
    refine (IndexFunc_some K HK.out A n c xs _ hr hm HV.out).mono ?_
    rintro e w' ⟨⟨k, rfl⟩, rfl⟩
    go_wp2_with fail
    go_ret
    exact ⟨rfl, rfl⟩
  · have HV := Lib.hid hv
    clear hv
    go_enter Tryd.func88, Tryd.ntmps88
    go_wp2_with fail
    refine (IndexFunc_all K HK.out A n c xs _ hr hm HV.out).mono ?_
    rintro e w' ⟨rfl, rfl⟩
    go_wp2_with fail
    go_ret
    exact ⟨rfl, rfl⟩

end Go.Proofs.YtmknpehjncpekaaDoor
