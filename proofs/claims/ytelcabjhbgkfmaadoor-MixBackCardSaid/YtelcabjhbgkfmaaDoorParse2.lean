/- strconv.ParseInt at base 16; mix.Parse. -/
import Derived.Test.YtelcabjhbgkfmaaDoorParse
namespace Go.Proofs.YtelcabjhbgkfmaaDoor
open Go.RowKit Go.WideShapes
set_option linter.unusedVariables false
attribute [local go_sem ↓] Go.wp_at_zero Go.wp_at_succ

/-- an error of the library's that is laid -/
def ErrAt (g : Nat) (w : World) : Prop := (∃ tp p, w.cell? ⟨g, 0, none⟩ = some (.iface tp p)) ∧ g < w.heap.size
theorem ErrAt.ext {g : Nat} {w w' : World} (h : ErrAt g w) (e : Ext w w') : ErrAt g w' := by
  obtain ⟨⟨tp, p, hc⟩, hl⟩ := h
  exact ⟨⟨tp, p, (e.cell (p := ⟨g, 0, none⟩) hl).trans hc⟩, Nat.lt_of_lt_of_le hl e.size⟩
/-- what a text's numbers need -/
structure StrG (w : World) : Prop where
  deb : DebG w
  syn : ErrAt 1 w
  rng : ErrAt 2 w
theorem StrG.ext {w w' : World} (h : StrG w) (e : Ext w w') : StrG w' := ⟨h.deb.ext e, h.syn.ext e, h.rng.ext e⟩
def PSr (s : ByteArray) (e : Ending) : Prop :=
  ∃ (n : Int) (ev : Value), e = .returned (.tuple #[.int .i64 n, ev]) ∧ (ev = .nilIface ∨ ∃ p, ev = .iface 168 p) ∧ (-9223372036854775808 ≤ n ∧ n ≤ 9223372036854775807) ∧ ∀ M, readH s = some M → ev = .nilIface ∧ n = M

set_option maxRecDepth 100000 in
theorem SPInt_any (s : ByteArray) (w : World) (hs : s.size ≤ 140737488355328) (hG : StrG w) :
    Calls Tryd.prog 50 #[.string s, .int .i64 16, .int .i64 64] w fun e w' => PSr s e ∧ Ext w w' := by
  have HP := Lib.hid (PInt_any s w hs)
  have HG := Lib.hid hG
  have hlim : s.size ≤ 281474976710656 := by omega
  have HT1 : Hid (∀ W, Ext w W → Calls Tryd.prog 92 #[.string ⟨#[80, 97, 114, 115, 101, 73, 110, 116]⟩, .string s, .int .i64 16, .int .i64 64, synE] W fun e w' => (∃ N : Nat, e = .returned (.iface 168 (.pointer (some ⟨N, 0, none⟩)))) ∧ Ext W w') := Lib.hid fun W e => by
    obtain ⟨tp, p, hc⟩ := (hG.syn.ext e).1
    refine (Tryd.strconv_toError_syntax ⟨#[80, 97, 114, 115, 101, 73, 110, 116]⟩ s 16 64 (.iface tp p) W hlim hc (.inr ⟨tp, p, rfl⟩)).mono ?_
    rintro _ w' ⟨N, rfl, -, -, hb⟩
    exact ⟨⟨N, rfl⟩, hb⟩
  have HT2 : Hid (∀ W, Ext w W → Calls Tryd.prog 92 #[.string ⟨#[80, 97, 114, 115, 101, 73, 110, 116]⟩, .string s, .int .i64 16, .int .i64 64, rngE] W fun e w' => (∃ N : Nat, e = .returned (.iface 168 (.pointer (some ⟨N, 0, none⟩)))) ∧ Ext W w') := Lib.hid fun W e => by
    obtain ⟨tp, p, hc⟩ := (hG.rng.ext e).1
    refine (Tryd.strconv_toError_range ⟨#[80, 97, 114, 115, 101, 73, 110, 116]⟩ s 16 64 (.iface tp p) W hlim hc (.inr ⟨tp, p, rfl⟩)).mono ?_
    rintro _ w' ⟨N, rfl, -, -, hb⟩
    exact ⟨⟨N, rfl⟩, hb⟩
  clear hG
  go_enter Tryd.func50, Tryd.ntmps50
  go_wp2_with fail
  refine HP.out.mono ?_
  rintro _ w1 ⟨⟨n, ev, rfl, hev, hbd, hk⟩, hb1⟩
  have HB := Lib.hid hbd
  have HK := Lib.hid hk
  clear hbd hk HP
  rcases hev with rfl | rfl | rfl
  · clear HT1 HT2
    go_wp2_with fail
    go_ret2
    exact ⟨⟨_, _, rfl, .inl rfl, HB.out, fun M hM => ⟨rfl, (HK.out M hM).2⟩⟩, hb1⟩
  · clear HT2
    go_wp2_with fail
    refine (HT1.out _ hb1).mono ?_
    rintro _ w2 ⟨⟨N, rfl⟩, hb2⟩
    have e2 : Ext w w2 := hb1.trans hb2
    clear hb2
    go_wp2_with fail
    go_ret2
    exact ⟨⟨_, _, rfl, .inr ⟨_, rfl⟩, HB.out, fun M hM => by have := (HK.out M hM).1; cases this⟩, e2⟩
  · clear HT1
    go_wp2_with fail
    refine (HT2.out _ hb1).mono ?_
    rintro _ w2 ⟨⟨N, rfl⟩, hb2⟩
    have e2 : Ext w w2 := hb1.trans hb2
    clear hb2
    go_wp2_with fail
    go_ret2
    exact ⟨⟨_, _, rfl, .inr ⟨_, rfl⟩, HB.out, fun M hM => by have := (HK.out M hM).1; cases this⟩, e2⟩

theorem readK_some {s : ByteArray} {M : Nat} (h : readH s = some M) : (vld (M : Int) = true → readV s = M ∧ readK s = 0) ∧ (vld (M : Int) = false → readV s = 0 ∧ readK s = 1) := by
  obtain ⟨h1, h2⟩ := read_some h
  refine ⟨fun hv => ?_, fun hv => ?_⟩
  · have : M < 2147483647 := by simp [vld] at hv; omega
    rw [if_pos this] at h1 h2; exact ⟨h1, h2⟩
  · have : ¬ M < 2147483647 := by simp [vld] at hv; omega
    rw [if_neg this] at h1 h2; exact ⟨h1, h2⟩

set_option maxRecDepth 100000 in
set_option maxHeartbeats 1000000 in
theorem MParse_any (s : ByteArray) (w : World) (hs : s.size ≤ 140737488355328) (hG : StrG w) :
    Calls Tryd.prog 13 #[.string s] w fun e w' => e = .returned (.tuple #[.int .i64 (readV s), errR (readK s)]) ∧ Ext w w' := by
  have HP := Lib.hid (SPInt_any s w hs hG)
  have HG := Lib.hid hG
  obtain ⟨rv, hrv⟩ : ∃ k, readV s = k := ⟨_, rfl⟩
  obtain ⟨rk, hrk⟩ : ∃ k, readK s = k := ⟨_, rfl⟩
  have HRN : Hid (readH s = none → rv = 0 ∧ rk = 2) := Lib.hid fun h => by rw [← hrv, ← hrk]; exact read_none h
  have HRS : Hid (∀ M, readH s = some M → (vld (M : Int) = true → rv = M ∧ rk = 0) ∧ (vld (M : Int) = false → rv = 0 ∧ rk = 1)) := Lib.hid fun M h => by rw [← hrv, ← hrk]; exact readK_some h
  rw [hrv, hrk]
  clear hG hrv hrk
  go_enter Tryd.func13, Tryd.ntmps13
  go_wp2_with fail
  refine HP.out.mono ?_
  rintro _ w1 ⟨⟨n, ev, rfl, hev, hbd, hk⟩, hb1⟩
  have HB := Lib.hid hbd
  have HK := Lib.hid hk
  clear hbd hk HP
  rcases hev with rfl | ⟨p, rfl⟩
  · by_cases hn : n < 0
    · have hno : readH s = none := opt_none fun M hM => by have := (HK.out M hM).2; omega
      obtain ⟨rfl, rfl⟩ := HRN.out hno
      clear hno
      go_wp2_with fail
      go_ret2
      exact ⟨rfl, hb1⟩
    · by_cases h8 : s.size = 8
      · obtain ⟨k, rfl⟩ := Int.eq_ofNat_of_zero_le (show 0 ≤ n by omega)
        have hk63 : k < 9223372036854775808 := by have := HB.out; omega
        have HT := Lib.hid fun W (e : Ext w W) => MText_any k W hk63 (HG.out.ext e).deb
        have h8i : (s.size : Int) = 8 := by omega
        have HEQ : Hid (∀ M, readH s = some M → padH k = s ∧ k = M) := Lib.hid fun M hM => by
          have h1 := (HK.out M hM).2
          have h2 : k = M := by omega
          obtain ⟨_, _, h3, h4⟩ := readH_text hM
          subst h2
          exact ⟨(padH_hexT h3).trans h4, rfl⟩
        have HNE : Hid (readH s = none → padH k ≠ s) := Lib.hid fun h he => by
          obtain ⟨m, hm⟩ := hexGo_of_all _ 0 (allHex_pad k)
          unfold readH at h
          rw [if_pos h8, ← he, hm] at h
          cases h
        obtain ⟨t, ht⟩ : ∃ t, padH k = t := ⟨_, rfl⟩
        rw [ht] at HT HEQ HNE
        have HH8 := Lib.hid h8
        clear hk63 ht h8 HB
        cases hrd : readH s with
        | none =>
          obtain ⟨rfl, rfl⟩ := HRN.out hrd
          have hne := (Lib.bytes_beq_false_iff t s).2 (HNE.out hrd)
          have hne2 : ¬ t = s := HNE.out hrd
          clear hrd
          go_wp2_with fail
          refine (HT.out _ hb1).mono ?_
          rintro _ w2 ⟨rfl, hb2⟩
          have e2 := hb1.trans hb2
          go_wp2_with fail
          go_ret2
          exact ⟨rfl, e2⟩
        | some M =>
          obtain ⟨rfl, rfl⟩ := HEQ.out M hrd
          obtain ⟨hv1, hv2⟩ := HRS.out k hrd
          have HV1 := Lib.hid hv1
          have HV2 := Lib.hid hv2
          clear hrd hv1 hv2
          go_wp2_with fail
          refine (HT.out _ hb1).mono ?_
          rintro _ w2 ⟨rfl, hb2⟩
          have e2 := hb1.trans hb2
          have HV := Lib.hid (Valid_any (k : Int) w2)
          cases hv : vld (k : Int) with
          | true =>
            obtain ⟨rfl, rfl⟩ := HV1.out hv
            rw [hv] at HV
            clear hv
            go_wp2_with fail
            refine HV.out.mono ?_
            rintro _ _ ⟨rfl, rfl⟩
            go_wp2_with fail
            go_ret2
            exact ⟨rfl, e2⟩
          | false =>
            obtain ⟨rfl, rfl⟩ := HV2.out hv
            rw [hv] at HV
            clear hv
            go_wp2_with fail
            refine HV.out.mono ?_
            rintro _ _ ⟨rfl, rfl⟩
            go_wp2_with fail
            go_ret2
            exact ⟨rfl, e2⟩
      · have hno : readH s = none := by unfold readH; rw [if_neg h8]
        obtain ⟨rfl, rfl⟩ := HRN.out hno
        have h8i : ¬ (s.size : Int) = 8 := by omega
        clear hno h8
        go_wp2_with fail
        go_ret2
        exact ⟨rfl, hb1⟩
  · have hno : readH s = none := opt_none fun M hM => by have := (HK.out M hM).1; cases this
    obtain ⟨rfl, rfl⟩ := HRN.out hno
    clear hno
    go_wp2_with fail
    go_ret2
    exact ⟨rfl, hb1⟩
end Go.Proofs.YtelcabjhbgkfmaaDoor
