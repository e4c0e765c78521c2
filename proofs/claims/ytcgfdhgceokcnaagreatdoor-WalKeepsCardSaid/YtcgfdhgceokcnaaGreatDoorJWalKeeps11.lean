/- strconv.Atoi, all ways. -/
import Derived.Test.YtcgfdhgceokcnaaGreatDoorJWalKeeps9
import Derived.Test.YtcgfdhgceokcnaaGreatDoorJWalKeeps10
import Derived.Lib.AtoiErrMem
import Derived.BigRegion
namespace Go.Proofs.YtcgfdhgceokcnaaGreatDoor
open Go.RowKit Go.WideShapes
set_option linter.unusedVariables false

def AtoR (s : ByteArray) (e : Ending) : Prop :=
  ∃ (n : Int) (ev : Value), e = .returned (.tuple #[.int .i64 n, ev]) ∧ ((ev = .nilIface ∧ Lib.atoiAll s.data.toList = .ok n) ∨ ((∃ t p, ev = .iface t p) ∧ ∀ v, Lib.atoiAll s.data.toList ≠ .ok v))
theorem Atoi_any (s : ByteArray) (w : World) (hs : s.size ≤ 140737488355328) (hG : StrG w) :
    Calls Tryz.prog 95 #[.string s] w fun e w' => AtoR s e ∧ Ext w w' := by
  cases ha : Lib.atoiAll s.data.toList
  case ok v =>
    refine (Tryz.strconv_Atoi_ok s (by omega) v ha w).mono ?_
    rintro _ w1 ⟨rfl, hw1⟩
    refine ⟨⟨v, .nilIface, rfl, .inl ⟨rfl, ha⟩⟩, ?_⟩
    rcases hw1 with rfl | ⟨t, rfl⟩
    · exact Ext.refl _
    · exact Lib.bytesWorld_below _ _ _
  case range =>
    obtain ⟨tp, p, hc⟩ := hG.rng.1
    refine (Tryz.strconv_Atoi_range s (by omega) ha (.iface tp p) w hc (.inr ⟨tp, p, rfl⟩)).mono ?_
    rintro _ w1 ⟨N, rfl, -, -, hb1⟩
    exact ⟨⟨_, _, rfl, .inr ⟨⟨_, _, rfl⟩, fun v h => by rw [ha] at h; cases h⟩⟩, hb1⟩
  · obtain ⟨tp, p, hc⟩ := hG.syn.1
    refine (Tryz.strconv_Atoi_syntax s (by omega) ha (.iface tp p) w hc (.inr ⟨tp, p, rfl⟩)).mono ?_
    rintro _ w1 ⟨N, rfl, -, -, hb1⟩
    exact ⟨⟨_, _, rfl, .inr ⟨⟨_, _, rfl⟩, fun v h => by rw [ha] at h; cases h⟩⟩, hb1⟩
end Go.Proofs.YtcgfdhgceokcnaaGreatDoor

/- A number of the library's that a search asks for. -/
namespace Go.Proofs.YtcgfdhgceokcnaaGreatDoor
open Go.RowKit Go.WideShapes
set_option linter.unusedVariables false

/-- a number of the library's that a search asks for -/
def MaxG (w : World) : Prop := ∃ m : Int, w.cell? ⟨1, 0, none⟩ = some (.int .i64 m)
theorem MaxG.ext {w w' : World} (h : MaxG w) (e : Ext w w') : MaxG w' := by
  obtain ⟨m, h⟩ := h
  exact ⟨m, (e.cell (p := ⟨1, 0, none⟩) (cell_lt h)).trans h⟩
theorem MaxG.of_shape {w : World} (h : w.ShapedOpen Tryz.prog) : MaxG w :=
  Go.Proofs.cell_of_shapedOpen_int (zero := #[.int .i64 0]) (t := 3) h (of_decide_eq_true (by kernel_rfl)) (by kernel_rfl) rfl (by kernel_rfl) (by kernel_rfl) Tryz.underlying3
end Go.Proofs.YtcgfdhgceokcnaaGreatDoor

/- wal: cut. -/
namespace Go.Proofs.YtcgfdhgceokcnaaGreatDoor
open Go.RowKit Go.WideShapes
set_option linter.unusedVariables false
attribute [local go_sem ↓] Go.wp_at_zero Go.wp_at_succ

/-- what cut tells -/
def cutV (s : ByteArray) : ByteArray × ByteArray × Bool := match cutL s.data.toList with
  | some (a, b) => (⟨a.toArray⟩, ⟨b.toArray⟩, true)
  | none => (⟨#[]⟩, s, false)
theorem cutV_some {s : ByteArray} {a b : List UInt8} (h : cutL s.data.toList = some (a, b)) : cutV s = (⟨a.toArray⟩, ⟨b.toArray⟩, true) := by unfold cutV; rw [h]
theorem cutV_none {s : ByteArray} (h : cutL s.data.toList = none) : cutV s = (⟨#[]⟩, s, false) := by unfold cutV; rw [h]
theorem cut_ex (s : ByteArray) (a b : Nat) : s.extract a b = ⟨((s.data.toList.drop a).take (b - a)).toArray⟩ := ba_ext (by rw [Lib.extract_data])
theorem cut_id (s : ByteArray) : (⟨s.data.toList.toArray⟩ : ByteArray) = s := ba_ext (by simp)

set_option maxRecDepth 100000 in
set_option maxHeartbeats 4000000 in
theorem WCut_any (s : ByteArray) (w : World) (hs : s.size ≤ 100000000) (hG : StrG w) (hM : MaxG w) :
    Calls Tryz.prog 65 #[.string s] w fun e w' => e = .returned (.tuple #[.string (cutV s).1, .string (cutV s).2.1, .bool (cutV s).2.2]) ∧ Ext w w' := by
  obtain ⟨m, hm⟩ := hM
  have HC0 := Tryz.strings_Cut s ⟨#[58]⟩ m w (by omega) hm
  have h58 : (⟨#[58]⟩ : ByteArray).data.toList = [58] := rfl
  rw [h58] at HC0
  rcases cut_ways 58 s.data.toList with hno | ⟨d, t, hst, hd⟩
  · rw [cutNo hno] at HC0
    have HC : Hid (Calls Tryz.prog 94 #[.string s, .string ⟨#[58]⟩] w fun e w' => e = .returned (.tuple #[.string s, .string ⟨#[]⟩, .bool false]) ∧ Ext w w') := Lib.hid (HC0.mono fun e w' ⟨he, n, hw⟩ => ⟨by rw [he, cut_id], by rw [hw]; exact Ext.drewN (Ext.refl _) n⟩)
    have HA := Lib.hid fun W (e : Ext w W) => Atoi_any s W (by omega) (hG.ext e)
    rw [cutV_none (cutL_no hno)]
    clear HC0 hno hm h58 hG
    go_enter Tryz.func65, Tryz.ntmps65
    go_wp2_with fail
    refine HC.out.mono ?_
    rintro _ w1 ⟨rfl, hb1⟩
    go_wp2_with fail
    refine (HA.out _ hb1).mono ?_
    rintro _ w2 ⟨⟨n, ev, rfl, hev⟩, hb2⟩
    clear hev
    have e2 := hb1.trans hb2
    go_wp2_with fail
    go_ret3
    exact ⟨rfl, e2⟩
  · rw [hst, cutAt hd] at HC0
    have hcl := cutL_at (t := t) hd
    rw [← hst] at hcl
    obtain ⟨D, hD⟩ : ∃ D : ByteArray, (⟨d.toArray⟩ : ByteArray) = D := ⟨_, rfl⟩
    obtain ⟨B, hB⟩ : ∃ B : ByteArray, (⟨t.toArray⟩ : ByteArray) = B := ⟨_, rfl⟩
    have hDl : D.data.toList = d := by rw [← hD]
    have hBl : B.data.toList = t := by rw [← hB]
    have hsz : D.size + 1 + B.size = s.size := by
      have h1 : s.data.toList.length = s.size := rfl
      have h2 : D.data.toList.length = D.size := rfl
      have h3 : B.data.toList.length = B.size := rfl
      rw [hst, List.length_append, List.length_cons] at h1
      rw [hDl] at h2
      rw [hBl] at h3
      omega
    have HC : Hid (Calls Tryz.prog 94 #[.string s, .string ⟨#[58]⟩] w fun e w' => e = .returned (.tuple #[.string D, .string B, .bool true]) ∧ Ext w w') := Lib.hid (HC0.mono fun e w' ⟨he, n, hw⟩ => ⟨by rw [he, hD, hB], by rw [hw]; exact Ext.drewN (Ext.refl _) n⟩)
    have HA := Lib.hid fun W (e : Ext w W) => Atoi_any D W (by omega) (hG.ext e)
    rw [← hDl] at hcl
    have HCL := Lib.hid hcl
    have HBL := Lib.hid hBl
    have hlen : t.length = B.size := by rw [← hBl]; rfl
    have HLEN := Lib.hid hlen
    obtain ⟨cv, hcv⟩ : ∃ z, cutV s = z := ⟨_, rfl⟩
    rw [hcv]
    obtain ⟨ca, cb, cc⟩ := cv
    have HFIN : Hid (∀ a b c, cutV s = (a, b, c) → (Ending.returned (.tuple #[.string a, .string b, .bool c])) = .returned (.tuple #[.string ca, .string cb, .bool cc])) := Lib.hid fun a b c h => by
      rw [hcv] at h
      injection h with h1 h2
      injection h2 with h2 h3
      rw [h1, h2, h3]
    clear HC0 hm h58 hG hcl hst hd hD hB hDl hBl hlen hcv
    go_enter Tryz.func65, Tryz.ntmps65
    go_wp2_with fail
    refine HC.out.mono ?_
    rintro _ w1 ⟨rfl, hb1⟩
    go_wp2_with fail
    refine (HA.out _ hb1).mono ?_
    rintro _ w2 ⟨⟨v, ev, rfl, hev⟩, hb2⟩
    have e2 := hb1.trans hb2
    rcases hev with ⟨rfl, ha⟩ | ⟨⟨tp, p, rfl⟩, ha⟩
    · have hcl := HCL.out
      rw [ha] at hcl
      simp only at hcl
      by_cases h0 : v < 0
      · rw [if_neg (by omega)] at hcl
        have HE := Lib.hid (HFIN.out _ _ _ (cutV_none hcl))
        clear hcl ha HCL
        go_wp2_with fail
        go_ret3
        exact ⟨HE.out, e2⟩
      · obtain ⟨n, rfl⟩ := Int.eq_ofNat_of_zero_le (Int.not_lt.1 h0)
        by_cases h1 : n ≤ B.size
        · rw [HLEN.out, if_pos ⟨by omega, by omega⟩, Int.toNat_natCast] at hcl
          have h1i : ¬ ((B.size : Int) < (n : Int)) := by omega
          have h1j : (n : Int) ≤ (B.size : Int) := by omega
          have h0j : (0 : Int) ≤ (n : Int) := by omega
          have HS := Lib.hid (HFIN.out _ _ _ (cutV_some hcl))
          have HE1 : Hid (B.extract 0 n = ⟨(t.take n).toArray⟩) := Lib.hid (by rw [cut_ex, HBL.out]; simp)
          have HE2 : Hid (B.extract n B.size = ⟨(t.drop n).toArray⟩) := Lib.hid (by rw [cut_ex, HBL.out, List.take_of_length_le (by rw [List.length_drop, HLEN.out]; omega)])
          have HE : Hid (∀ a b : ByteArray, a = B.extract 0 n → b = B.extract n B.size → (Ending.returned (.tuple #[.string a, .string b, .bool true])) = .returned (.tuple #[.string ca, .string cb, .bool cc])) := Lib.hid fun a b ha hb => by rw [ha, hb, HE1.out, HE2.out]; exact HS.out
          clear hcl ha HCL HE1 HE2
          go_upto_region 5 with (fail)
          go_region
          all_goals
            go_wp2_with fail
            go_ret3
            exact ⟨HE.out _ _ (by first | rfl | simp) (by first | rfl | simp), by first | exact e2 | exact e2.drew⟩
        · have h1i : (B.size : Int) < (n : Int) := by omega
          rw [HLEN.out, if_neg (by omega)] at hcl
          have HE := Lib.hid (HFIN.out _ _ _ (cutV_none hcl))
          clear hcl ha HCL
          go_wp2_with fail
          go_ret3
          exact ⟨HE.out, e2⟩
    · have hcl := HCL.out
      have hno : cutL s.data.toList = none := by
        rw [hcl]
        cases h : Lib.atoiAll D.data.toList
        case ok v => exact absurd h (ha v)
        all_goals rfl
      have HE := Lib.hid (HFIN.out _ _ _ (cutV_none hno))
      clear hcl hno ha HCL
      go_wp2_with fail
      go_ret3
      exact ⟨HE.out, e2⟩
end Go.Proofs.YtcgfdhgceokcnaaGreatDoor
