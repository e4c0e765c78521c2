/- internal/strconv.ParseUint at base 16. -/
import Derived.Test.YtelcabjhbgkfmaaDoorRead
import Derived.Test.YtelcabjhbgkfmaaDoorShelf
namespace Go.Proofs.YtelcabjhbgkfmaaDoor
open Go.RowKit Go.WideShapes
set_option linter.unusedVariables false
attribute [local go_sem ↓] Go.wp_at_zero Go.wp_at_succ

theorem ba_extQ {s : ByteArray} (h : s.data.toList = []) : s = ⟨#[]⟩ := ba_ext (by rw [h])
theorem str_someQ {s : ByteArray} (h : 0 < s.size) : s.toList.isEmpty = false ∧ ¬ s.toList = [] := by
  have h1 : ¬ s.toList = [] := fun e => by
    rw [Lib.toList_data] at e
    have : s.data.toList.length = 0 := by rw [e]; rfl
    have h2 : s.data.toList.length = s.size := rfl
    omega
  refine ⟨?_, h1⟩
  cases hl : s.toList with
  | nil => exact absurd hl h1
  | cons a l => rfl
theorem str_noneQ {s : ByteArray} (h : s.size = 0) : s = ⟨#[]⟩ := ba_extQ (List.eq_nil_of_length_eq_zero (show s.data.toList.length = 0 from h))
/-- the small letter -/
def lowV (b : UInt8) : Nat := b.toNat ||| 32
theorem or_all : ∀ n : Fin 256, bits .or .u8 ((n.val : Nat) : Int) 32 = ((n.val ||| 32 : Nat) : Int) ∧ n.val ||| 32 < 256 ∧ (97 ≤ n.val → n.val ≤ 102 → n.val ||| 32 = n.val) := by decide +kernel
theorem low_or (b : UInt8) : bits .or .u8 (b.toNat : Int) 32 = (lowV b : Int) := (or_all ⟨b.toNat, b.toNat_lt⟩).1
theorem low_lt (b : UInt8) : lowV b < 256 := (or_all ⟨b.toNat, b.toNat_lt⟩).2.1
theorem low_hex {b : UInt8} (h1 : 97 ≤ b.toNat) (h2 : b.toNat ≤ 102) : lowV b = b.toNat := (or_all ⟨b.toNat, b.toNat_lt⟩).2.2 h1 h2
theorem hexD_low {b : UInt8} {d : Nat} (h : hexD b = some d) (hn : ¬ (48 ≤ b.toNat ∧ b.toNat ≤ 57)) : 97 ≤ lowV b ∧ lowV b ≤ 102 ∧ d = lowV b - 87 := by
  unfold hexD at h
  rw [if_neg hn] at h
  split at h
  · rename_i h2
    have := low_hex h2.1 h2.2
    obtain rfl : b.toNat - 87 = d := by simpa using h
    omega
  · cases h
abbrev synE : Value := .iface 164 (.int .i64 2)
abbrev rngE : Value := .iface 164 (.int .i64 1)
/-- how a number is read -/
def PUr (s : ByteArray) (e : Ending) : Prop :=
  (∃ n : Nat, n < 18446744073709551616 ∧ e = .returned (.tuple #[.int .u64 n, .nilIface]) ∧ ∀ M, readH s = some M → n = M) ∨
  (e = .returned (.tuple #[.int .u64 0, synE]) ∧ readH s = none) ∨ (e = .returned (.tuple #[.int .u64 18446744073709551615, rngE]) ∧ readH s = none)
/-- what was read of the first bytes -/
def PUi (s : ByteArray) (j n : Nat) : Prop := ∀ M, readH s = some M → hexGo 0 (s.data.toList.take j) = some n
theorem PUi.lt {s : ByteArray} {j n : Nat} (h : PUi s j n) (hj : j ≤ s.size) {M : Nat} (hM : readH s = some M) : n < 4294967296 := by
  obtain ⟨h8, _, _, _⟩ := readH_text hM
  exact hexGo_lt (j := j) h8 (by omega) (h M hM)
theorem PUi.step {s : ByteArray} {j n : Nat} (h : PUi s j n) {b : UInt8} (hb : s.data.toList[j]? = some b) {M : Nat} (hM : readH s = some M) : ∃ d, hexD b = some d ∧ hexGo 0 (s.data.toList.take (j + 1)) = some (n * 16 + d) := by
  obtain ⟨h1, h2⟩ := hexGo_at hb (h M hM)
  cases hd : hexD b with
  | none =>
    have := h1 hd
    rw [(readH_text hM).2.1] at this
    cases this
  | some d => exact ⟨d, rfl, h2 d hd⟩
theorem opt_none {α : Type} {o : Option α} (h : ∀ M, o = some M → False) : o = none := by
  cases o with
  | none => rfl
  | some M => exact absurd rfl (fun e => h M e)

set_option maxRecDepth 100000 in
set_option maxHeartbeats 4000000 in
theorem PUint_any (s : ByteArray) (w : World) (hs : s.size ≤ 140737488355328) :
    Calls Tryd.prog 125 #[.string s, .int .i64 16, .int .i64 64] w fun e w' => PUr s e ∧ Ext w w' := by
  by_cases h0 : s.size = 0
  · have hr : readH s = none := by unfold readH; rw [if_neg (by omega)]
    have HR := Lib.hid hr
    obtain rfl := str_noneQ h0
    clear hr h0
    go_enter Tryd.func125, Tryd.ntmps125
    go_wp2_with fail
    go_ret2
    exact ⟨.inr (.inl ⟨rfl, HR.out⟩), Ext.refl _⟩
  have hmax : IntKind.u64.wrap (IntKind.u64.wrap 18446744073709551616 - 1) = 18446744073709551615 := by decide +kernel
  have hconv := run_bytes_of_string (P := Tryd.prog) w 9 93 5 s Tryd.underlying9 Tryd.underlying93 Tryd.underlying5
  obtain ⟨q1, q2⟩ := str_someQ (Nat.pos_of_ne_zero h0)
  go_enter Tryd.func125, Tryd.ntmps125
  go_wp2_with fail
  clear hconv q1 q2
  have hd := fun (j : Nat) (hj : j < s.data.size) => bytesRow_at s (grownCap w s.size 0 5) j hj
  generalize hC : bytesRow s (grownCap w s.size 0 5) = C at *
  generalize hcp : grownCap w s.size 0 5 = cp at *
  clear hC hcp
  have HI : Hid (PUi s 0 0) := Lib.hid fun M _ => rfl
  have HDD := Lib.hid hd
  clear hd
  have e00 : Ext w (w.alloc (.cells C 5 (C.size, C.size + 1))) := by (repeat (with_reducible first | exact Ext.refl _ | assumption | refine Ext.drew ?_ | refine Ext.drewN ?_ _ | refine Ext.alloc ?_ _ | refine Ext.trans ?_ (by with_reducible assumption)))
  have HC : Hid (∀ (wr : World) (j : Nat) (hj : j < s.size), Ext (w.alloc (.cells C 5 (C.size, C.size + 1))) wr → wr.cell? ⟨w.heap.size, j, none⟩ = some (.int .u8 ((s.data[j]'hj).toNat : Int))) := Lib.hid fun wr j hj e => by
    rw [Ext.cell (p := ⟨w.heap.size, j, none⟩) e (by simp)]
    exact (World.cell?_alloc_mark w C 5 (C.size, C.size + 1) j).trans (HDD.out j hj)
  have e01 : Ext (w.alloc (.cells C 5 (C.size, C.size + 1))) (w.alloc (.cells C 5 (C.size, C.size + 1))).drew := by (repeat (with_reducible first | exact Ext.refl _ | assumption | refine Ext.drew ?_ | refine Ext.drewN ?_ _ | refine Ext.alloc ?_ _ | refine Ext.trans ?_ (by with_reducible assumption)))
  generalize w.alloc (.cells C 5 (C.size, C.size + 1)) = W0 at *
  go_loopw [12, 13, 15, 16, 17, 101] (fun un a _ _ _ x wr => ∃ j n : Nat, un = .bool false ∧ a = .int .u64 (n : Nat) ∧ n < 18446744073709551616 ∧ x = .int .i64 (j : Nat) ∧ j ≤ s.size ∧ Ext W0 wr ∧ Hid (PUi s j n)) (fun _ _ _ _ _ x _ => s.size - (intOf x).toNat)
  case atStart => exact ⟨0, 0, rfl, rfl, by omega, rfl, Nat.zero_le _, e01, HI⟩
  case round =>
    obtain ⟨j, n, rfl, rfl, hn, rfl, hj, hbw, hi⟩ := hrel
    have e1 := e00.trans hbw
    by_cases hc : j < s.size
    · have hg : s.data.toList[j]? = some (s.data[j]'hc) := by
        rw [Array.getElem?_toList, Array.getElem?_eq_getElem]
      have c0 := HC.out _ j hc hbw
      have HST := Lib.hid fun M hM => hi.out.step hg (M := M) hM
      have HLT := Lib.hid fun M hM => hi.out.lt hj (M := M) hM
      obtain ⟨b, hb⟩ : ∃ b, (s.data[j]'hc) = b := ⟨_, rfl⟩
      rw [hb] at c0 HST
      have hb256 : b.toNat < 256 := b.toNat_lt
      have hci : (j : Int) < (s.size : Int) := by omega
      clear hg hb HC HDD HI e01
      by_cases p1 : 48 ≤ b.toNat ∧ b.toNat ≤ 57
      · obtain ⟨p2, p3⟩ := p1
        have p4 : (48 : Int) ≤ (b.toNat : Int) := by omega
        have p5 : (b.toNat : Int) ≤ 57 := by omega
        have p6 : ¬ (b.toNat : Int) = 95 := by omega
        by_cases hr : 1152921504606846976 ≤ n
        · have hr1 : (1152921504606846976 : Int) ≤ (n : Int) := by omega
          have HN : Hid (readH s = none) := Lib.hid (opt_none fun M hM => by have := HLT.out M hM; omega)
          go_wp2_with fail
          go_ret2
          exact ⟨.inr (.inr ⟨rfl, HN.out⟩), e1⟩
        · have hr1 : ¬ (1152921504606846976 : Int) ≤ (n : Int) := by omega
          have HN : Hid (PUi s (j + 1) (n * 16 + (b.toNat - 48))) := Lib.hid fun M hM => by
            obtain ⟨d, h1, h2⟩ := HST.out M hM
            rw [hexD_num ⟨p2, p3⟩] at h1
            rw [Option.some.inj h1]; exact h2
          have E1 : Hid ((n : Int) * 16 + ((b.toNat : Int) - 48) = ((n * 16 + (b.toNat - 48) : Nat) : Int)) := by show _ = _; omega
          go_wp2_with fail
          go_roundw
          case rel => exact ⟨j + 1, _, rfl, by rw [E1.out], by omega, by go_num, by omega, hbw, HN.out⟩
          case measure => simp [intOf]; omega
      · have hlow := low_or b
        have hl2 := low_lt b
        have HHL := Lib.hid fun (d : Nat) (h : hexD b = some d) => hexD_low h p1
        obtain ⟨Lb, hL⟩ : ∃ Lb : UInt8, lowV b = Lb.toNat := ⟨UInt8.ofNat (lowV b), by rw [UInt8.toNat_ofNat']; exact (Nat.mod_eq_of_lt (low_lt b)).symm⟩
        rw [hL] at hlow hl2 HHL
        have pd : (48 : Int) ≤ (b.toNat : Int) → ¬ (b.toNat : Int) ≤ 57 := by omega
        have p1c : ¬ (48 : Int) ≤ (b.toNat : Int) ∨ ((48 : Int) ≤ (b.toNat : Int) ∧ ¬ (b.toNat : Int) ≤ 57) := by omega
        have h95 : b.toNat = 95 → Lb.toNat = 127 := fun h => by rw [← hL]; unfold lowV; rw [h]; rfl
        have HNN : Hid (¬ (97 ≤ Lb.toNat ∧ Lb.toNat ≤ 102) → readH s = none) := Lib.hid fun h => opt_none fun M hM => by
          obtain ⟨d, h1, h2⟩ := HST.out M hM
          have := HHL.out d h1
          omega
        have HR : Hid (1152921504606846976 ≤ n → readH s = none) := Lib.hid fun hr => opt_none fun M hM => by have := HLT.out M hM; omega
        have HNX : Hid (PUi s (j + 1) (n * 16 + (Lb.toNat - 87))) := Lib.hid fun M hM => by
          obtain ⟨d, h1, h2⟩ := HST.out M hM
          have := HHL.out d h1
          rw [this.2.2] at h2; exact h2
        clear hL p1 pd
        by_cases p6 : (b.toNat : Int) = 95
        · have HN := Lib.hid (HNN.out (by have := h95 (by omega); omega))
          have h9 : bits .or .u8 95 32 = 127 := by decide +kernel
          clear h95 hlow p1c
          go_wp2_with (go_at_call 150; refine (Tryd.internal_strconv_lower _ _).mono ?_; rintro _ w9 ⟨rfl, hw9⟩; rw [hw9]; clear hw9 w9)
          go_ret2
          exact ⟨.inr (.inl ⟨rfl, HN.out⟩), e1⟩
        clear h95
        have hsplit : ¬ 97 ≤ Lb.toNat ∨ (97 ≤ Lb.toNat ∧ ¬ Lb.toNat ≤ 122) ∨ (97 ≤ Lb.toNat ∧ Lb.toNat ≤ 122 ∧ 103 ≤ Lb.toNat) ∨ (97 ≤ Lb.toNat ∧ Lb.toNat ≤ 102) := by omega
        rcases hsplit with l1 | ⟨l1, l2⟩ | ⟨l1, l2, l3⟩ | ⟨l1, l2⟩
        · have HN := Lib.hid (HNN.out (by omega))
          have l1i : ¬ (97 : Int) ≤ (Lb.toNat : Int) := by omega
          rcases p1c with p7 | ⟨p7, p8⟩
          all_goals first
            | (exfalso; omega)
            | (go_wp2_with (go_at_call 150; refine (Tryd.internal_strconv_lower _ _).mono ?_; rintro _ w9 ⟨rfl, hw9⟩; rw [hw9]; clear hw9 w9)
               go_ret2
               exact ⟨.inr (.inl ⟨rfl, HN.out⟩), e1⟩)
        · have HN := Lib.hid (HNN.out (by omega))
          have l1i : (97 : Int) ≤ (Lb.toNat : Int) := by omega
          have l2i : ¬ (Lb.toNat : Int) ≤ 122 := by omega
          rcases p1c with p7 | ⟨p7, p8⟩
          all_goals first
            | (exfalso; omega)
            | (go_wp2_with (go_at_call 150; refine (Tryd.internal_strconv_lower _ _).mono ?_; rintro _ w9 ⟨rfl, hw9⟩; rw [hw9]; clear hw9 w9)
               go_ret2
               exact ⟨.inr (.inl ⟨rfl, HN.out⟩), e1⟩)
        · have HN := Lib.hid (HNN.out (by omega))
          have l1i : (97 : Int) ≤ (Lb.toNat : Int) := by omega
          have l2i : (Lb.toNat : Int) ≤ 122 := by omega
          have l3i : (103 : Int) ≤ (Lb.toNat : Int) := by omega
          rcases p1c with p7 | ⟨p7, p8⟩
          all_goals first
            | (exfalso; omega)
            | (go_wp2_with (go_at_call 150; refine (Tryd.internal_strconv_lower _ _).mono ?_; rintro _ w9 ⟨rfl, hw9⟩; rw [hw9]; clear hw9 w9)
               go_ret2
               exact ⟨.inr (.inl ⟨rfl, HN.out⟩), e1⟩)
        · have l1i : (97 : Int) ≤ (Lb.toNat : Int) := by omega
          have l2i : (Lb.toNat : Int) ≤ 102 := by omega
          have l3i : (Lb.toNat : Int) ≤ 122 := by omega
          have HN0 := Lib.hid hn
          obtain ⟨Db, hD⟩ : ∃ Db : UInt8, (Lb.toNat : Int) - 97 + 10 = (Db.toNat : Int) := ⟨UInt8.ofNat (Lb.toNat - 87), by rw [UInt8.toNat_ofNat', Nat.mod_eq_of_lt (by omega)]; omega⟩
          have HD2 : Hid (Db.toNat = Lb.toNat - 87 ∧ Db.toNat ≤ 15) := by show _ ∧ _; omega
          clear hn
          rcases p1c with p7 | ⟨p7, p8⟩
          all_goals
            go_upto_region 46 with (go_at_call 150; refine (Tryd.internal_strconv_lower _ _).mono ?_; rintro _ w9 ⟨rfl, hw9⟩; rw [hw9]; clear hw9 w9)
            try rw [hD]
            have hD3 : (Db.toNat : Int) < 16 := by have := HD2.out.2; omega
            clear hD l1 l2 l1i l2i l3i hl2 hlow p6 p7
            go_upto_region 48 with (fail)
            have hn := HN0.out
            by_cases hr : 1152921504606846976 ≤ n
            · have HN := Lib.hid (HR.out hr)
              have hr1 : (1152921504606846976 : Int) ≤ (n : Int) := by omega
              clear hr hD3
              go_wp2_with fail
              go_ret2
              exact ⟨.inr (.inr ⟨rfl, HN.out⟩), e1⟩
            · have hr1 : ¬ (1152921504606846976 : Int) ≤ (n : Int) := by omega
              have E1 : Hid ((n : Int) * 16 + (Db.toNat : Int) = ((n * 16 + (Lb.toNat - 87) : Nat) : Int)) := by show _ = _; have := HD2.out.1; omega
              have E2 : Hid (n * 16 + (Lb.toNat - 87) < 18446744073709551616) := by show _ < _; have := HD2.out; omega
              clear hr
              go_wp2_with fail
              go_roundw
              case rel => exact ⟨j + 1, _, rfl, by rw [E1.out], E2.out, by go_num, by omega, hbw, HNX.out⟩
              case measure => simp [intOf]; omega
    · obtain rfl : j = s.size := by omega
      have HI2 : Hid (∀ M, readH s = some M → n = M) := Lib.hid fun M hM => by
        have h1 := hi.out M hM
        rw [List.take_of_length_le (show s.data.toList.length ≤ s.size from Nat.le_refl _)] at h1
        rw [(readH_text hM).2.1] at h1
        exact (Option.some.inj h1).symm
      clear HC HDD HI hi
      go_wp2_with fail
      go_ret2
      exact ⟨.inl ⟨n, hn, rfl, HI2.out⟩, e1⟩
end Go.Proofs.YtelcabjhbgkfmaaDoor

/- strconv.ParseInt at base 16; mix.Parse. -/
namespace Go.Proofs.YtelcabjhbgkfmaaDoor
open Go.RowKit Go.WideShapes
set_option linter.unusedVariables false
attribute [local go_sem ↓] Go.wp_at_zero Go.wp_at_succ

/-- how a number with a sign is read -/
def PIr (s : ByteArray) (e : Ending) : Prop :=
  ∃ (n : Int) (ev : Value), e = .returned (.tuple #[.int .i64 n, ev]) ∧ (ev = .nilIface ∨ ev = synE ∨ ev = rngE) ∧ (-9223372036854775808 ≤ n ∧ n ≤ 9223372036854775807) ∧ ∀ M, readH s = some M → ev = .nilIface ∧ n = M
theorem head_byte {s : ByteArray} (h : 0 < s.size) : s.data.toList[0]? = some (s.data[0]'h) := by
  rw [Array.getElem?_toList, Array.getElem?_eq_getElem]
theorem sign_none {s : ByteArray} (h : 0 < s.size) (hb : (s.data[0]'h).toNat = 43 ∨ (s.data[0]'h).toNat = 45) : readH s = none := opt_none fun M hM => by
  obtain ⟨d, h1, _⟩ := PUi.step (s := s) (j := 0) (n := 0) (fun M _ => rfl) (head_byte h) hM
  have h2 := hexD_no (b := s.data[0]'h) (by omega) (by omega)
  rw [h2] at h1
  cases h1

theorem neq_syn (W : World) : (binOp .neq 23 synE rngE).run Tryd.prog W = .ok (.bool true) W := by kernel_rfl
theorem neq_rng (W : World) : (binOp .neq 23 rngE rngE).run Tryd.prog W = .ok (.bool false) W := by kernel_rfl
theorem w64_bd (x : Int) : (-9223372036854775808 : Int) ≤ wrap64 x ∧ wrap64 x ≤ 9223372036854775807 := by
  unfold wrap64
  omega
theorem w64_in (M : Nat) (h : M < 4294967296) : wrap64 (M : Int) = M := by
  unfold wrap64
  omega
theorem un_bd (n : Nat) : Hid (¬ 9223372036854775808 ≤ n → (-9223372036854775808 : Int) ≤ (n : Int) ∧ (n : Int) ≤ 9223372036854775807) := Lib.hid fun h => by omega

set_option maxRecDepth 100000 in
set_option maxHeartbeats 4000000 in
theorem PInt_any (s : ByteArray) (w : World) (hs : s.size ≤ 140737488355328) :
    Calls Tryd.prog 91 #[.string s, .int .i64 16, .int .i64 64] w fun e w' => PIr s e ∧ Ext w w' := by
  by_cases h0 : s.size = 0
  · have hr : readH s = none := by unfold readH; rw [if_neg (by omega)]
    have HR := Lib.hid hr
    obtain rfl := str_noneQ h0
    clear hr h0
    go_enter Tryd.func91, Tryd.ntmps91
    go_wp2_with fail
    go_ret2
    exact ⟨⟨_, _, rfl, .inr (.inl rfl), by omega, fun M hM => by rw [HR.out] at hM; cases hM⟩, Ext.refl _⟩
  have hpos : 0 < s.size := Nat.pos_of_ne_zero h0
  obtain ⟨q1, q2⟩ := str_someQ hpos
  have hsl : (1 : Int) ≤ (s.size : Int) := by omega
  have hsx : s.size ≤ maxLen := by unfold maxLen; omega
  have HSG := Lib.hid fun hb => sign_none hpos hb
  have HP0 := Lib.hid (PUint_any s w hs)
  have HP1 := Lib.hid (PUint_any (s.extract 1 s.size) w (by rw [ByteArray.size_extract]; omega))
  obtain ⟨b, hb⟩ : ∃ b, s.data[0]'hpos = b := ⟨_, rfl⟩
  have hb2 : s[0]'hpos = b := hb
  rw [hb] at HSG
  have hb256 : b.toNat < 256 := b.toNat_lt
  have h3 : (b.toNat = 43) ∨ (¬ b.toNat = 43 ∧ b.toNat = 45) ∨ (¬ b.toNat = 43 ∧ ¬ b.toNat = 45) := by omega
  rcases h3 with p1 | ⟨p1, p2⟩ | ⟨p1, p2⟩
  · have hi1 : (b.toNat : Int) = 43 := by omega
    have HN := Lib.hid (HSG.out (.inl p1))
    clear p1 h0 hb HSG HP0
    go_enter Tryd.func91, Tryd.ntmps91
    go_wp2_with fail
    refine HP1.out.mono ?_
    rintro _ w1 ⟨⟨n, hn, rfl, hk⟩ | ⟨rfl, hk⟩ | ⟨rfl, hk⟩, hb1⟩
    · have HN0 := Lib.hid hn
      have HK := Lib.hid hk
      clear hn hk HP1
      by_cases hr : 9223372036854775808 ≤ n
      · have hr1 : (9223372036854775808 : Int) ≤ (n : Int) := by omega
        clear hr
        go_wp2_with fail
        go_ret2
        exact ⟨⟨_, _, rfl, .inr (.inr rfl), by omega, fun M hM => by rw [HN.out] at hM; cases hM⟩, hb1⟩
      · have hr1 : ((9223372036854775808 : Int) ≤ (n : Int)) = False := eq_false (by omega)
        clear hr
        go_upto_region 21 with (fail)
        clear hr1
        go_wp2_with fail
        go_ret2
        exact ⟨⟨_, _, rfl, .inl rfl, w64_bd _, fun M hM => by rw [HN.out] at hM; cases hM⟩, hb1⟩
    · clear HP1
      have hne := neq_syn
      go_wp2_with fail
      go_ret2
      exact ⟨⟨_, _, rfl, .inr (.inl rfl), by omega, fun M hM => by rw [HN.out] at hM; cases hM⟩, hb1⟩
    · clear HP1
      have hne := neq_rng
      go_wp2_with fail
      go_ret2
      exact ⟨⟨_, _, rfl, .inr (.inr rfl), by omega, fun M hM => by rw [HN.out] at hM; cases hM⟩, hb1⟩
  · have hi1 : (b.toNat : Int) = 45 := by omega
    have HN := Lib.hid (HSG.out (.inr p2))
    clear p1 p2 h0 hb HSG HP0
    go_enter Tryd.func91, Tryd.ntmps91
    go_wp2_with fail
    refine HP1.out.mono ?_
    rintro _ w1 ⟨⟨n, hn, rfl, hk⟩ | ⟨rfl, hk⟩ | ⟨rfl, hk⟩, hb1⟩
    · have HN0 := Lib.hid hn
      have HK := Lib.hid hk
      clear hn hk HP1
      by_cases hr : 9223372036854775808 < n
      · have hr1 : (9223372036854775808 : Int) < (n : Int) := by omega
        clear hr
        go_wp2_with fail
        go_ret2
        exact ⟨⟨_, _, rfl, .inr (.inr rfl), w64_bd _, fun M hM => by rw [HN.out] at hM; cases hM⟩, hb1⟩
      · have hr1 : ¬ (9223372036854775808 : Int) < (n : Int) := by omega
        clear hr
        go_upto_region 21 with (fail)
        clear hr1
        go_wp2_with fail
        go_ret2
        exact ⟨⟨_, _, rfl, .inl rfl, w64_bd _, fun M hM => by rw [HN.out] at hM; cases hM⟩, hb1⟩
    · clear HP1
      have hne := neq_syn
      go_wp2_with fail
      go_ret2
      exact ⟨⟨_, _, rfl, .inr (.inl rfl), by omega, fun M hM => by rw [HN.out] at hM; cases hM⟩, hb1⟩
    · clear HP1
      have hne := neq_rng
      go_wp2_with fail
      go_ret2
      exact ⟨⟨_, _, rfl, .inr (.inr rfl), w64_bd _, fun M hM => by rw [HN.out] at hM; cases hM⟩, hb1⟩
  · have hi1 : ¬ (b.toNat : Int) = 43 := by omega
    have hi2 : ¬ (b.toNat : Int) = 45 := by omega
    clear p1 p2 h0 hb HSG HP1
    go_enter Tryd.func91, Tryd.ntmps91
    go_wp2_with fail
    refine HP0.out.mono ?_
    rintro _ w1 ⟨⟨n, hn, rfl, hk⟩ | ⟨rfl, hk⟩ | ⟨rfl, hk⟩, hb1⟩
    · have HN0 := Lib.hid hn
      have HK := Lib.hid hk
      clear hn hk HP0
      by_cases hr : 9223372036854775808 ≤ n
      · have hr1 : (9223372036854775808 : Int) ≤ (n : Int) := by omega
        have HNO : Hid (readH s = none) := Lib.hid (opt_none fun M hM => by have h1 := HK.out M hM; have h2 := (readH_text hM).2.2.1; omega)
        clear hr
        go_wp2_with fail
        go_ret2
        exact ⟨⟨_, _, rfl, .inr (.inr rfl), by omega, fun M hM => by rw [HNO.out] at hM; cases hM⟩, hb1⟩
      · have hr1 : ((9223372036854775808 : Int) ≤ (n : Int)) = False := eq_false (by omega)
        clear hr
        go_upto_region 21 with (fail)
        clear hr1
        go_wp2_with fail
        go_ret2
        exact ⟨⟨_, _, rfl, .inl rfl, w64_bd _, fun M hM => ⟨rfl, by rw [HK.out M hM]; exact w64_in M (readH_text hM).2.2.1⟩⟩, hb1⟩
    · clear HP0
      have HNO := Lib.hid hk
      have hne := neq_syn
      go_wp2_with fail
      go_ret2
      exact ⟨⟨_, _, rfl, .inr (.inl rfl), by omega, fun M hM => by rw [HNO.out] at hM; cases hM⟩, hb1⟩
    · clear HP0
      have HNO := Lib.hid hk
      have hne := neq_rng
      go_wp2_with fail
      go_ret2
      exact ⟨⟨_, _, rfl, .inr (.inr rfl), by omega, fun M hM => by rw [HNO.out] at hM; cases hM⟩, hb1⟩
end Go.Proofs.YtelcabjhbgkfmaaDoor

/- strconv.ParseInt at base 16; mix.Parse. -/
namespace Go.Proofs.YtelcabjhbgkfmaaDoor
open Go.RowKit Go.WideShapes
set_option linter.unusedVariables false
attribute [local go_sem ↓] Go.wp_at_zero Go.wp_at_succ

/-- an error of the library's that is laid -/
def ErrAt (g : Nat) (w : World) : Prop := (∃ tp p, w.cell? ⟨g, 0, none⟩ = some (.iface tp p)) ∧ g < w.heap.size
theorem ErrAt.ext {g : Nat} {w w' : World} (h : ErrAt g w) (e : Ext w w') : ErrAt g w' := by
  obtain ⟨⟨tp, p, hc⟩, hl⟩ := h
  exact ⟨⟨tp, p, (e.cell (p := ⟨g, 0, none⟩) hl).trans hc⟩, Nat.lt_of_lt_of_le hl e.size⟩
/-- what a text's numbers need -/
structure StrG (w : World) : Prop where
  deb : DebG w
  syn : ErrAt 1 w
  rng : ErrAt 2 w
theorem StrG.ext {w w' : World} (h : StrG w) (e : Ext w w') : StrG w' := ⟨h.deb.ext e, h.syn.ext e, h.rng.ext e⟩
def PSr (s : ByteArray) (e : Ending) : Prop :=
  ∃ (n : Int) (ev : Value), e = .returned (.tuple #[.int .i64 n, ev]) ∧ (ev = .nilIface ∨ ∃ p, ev = .iface 168 p) ∧ (-9223372036854775808 ≤ n ∧ n ≤ 9223372036854775807) ∧ ∀ M, readH s = some M → ev = .nilIface ∧ n = M

set_option maxRecDepth 100000 in
theorem SPInt_any (s : ByteArray) (w : World) (hs : s.size ≤ 140737488355328) (hG : StrG w) :
    Calls Tryd.prog 50 #[.string s, .int .i64 16, .int .i64 64] w fun e w' => PSr s e ∧ Ext w w' := by
  have HP := Lib.hid (PInt_any s w hs)
  have HG := Lib.hid hG
  have hlim : s.size ≤ 281474976710656 := by omega
  have HT1 : Hid (∀ W, Ext w W → Calls Tryd.prog 92 #[.string ⟨#[80, 97, 114, 115, 101, 73, 110, 116]⟩, .string s, .int .i64 16, .int .i64 64, synE] W fun e w' => (∃ N : Nat, e = .returned (.iface 168 (.pointer (some ⟨N, 0, none⟩)))) ∧ Ext W w') := Lib.hid fun W e => by
    obtain ⟨tp, p, hc⟩ := (hG.syn.ext e).1
    refine (Tryd.strconv_toError_syntax ⟨#[80, 97, 114, 115, 101, 73, 110, 116]⟩ s 16 64 (.iface tp p) W hlim hc (.inr ⟨tp, p, rfl⟩)).mono ?_
    rintro _ w' ⟨N, rfl, -, -, hb⟩
    exact ⟨⟨N, rfl⟩, hb⟩
  have HT2 : Hid (∀ W, Ext w W → Calls Tryd.prog 92 #[.string ⟨#[80, 97, 114, 115, 101, 73, 110, 116]⟩, .string s, .int .i64 16, .int .i64 64, rngE] W fun e w' => (∃ N : Nat, e = .returned (.iface 168 (.pointer (some ⟨N, 0, none⟩)))) ∧ Ext W w') := Lib.hid fun W e => by
    obtain ⟨tp, p, hc⟩ := (hG.rng.ext e).1
    refine (Tryd.strconv_toError_range ⟨#[80, 97, 114, 115, 101, 73, 110, 116]⟩ s 16 64 (.iface tp p) W hlim hc (.inr ⟨tp, p, rfl⟩)).mono ?_
    rintro _ w' ⟨N, rfl, -, -, hb⟩
    exact ⟨⟨N, rfl⟩, hb⟩
  clear hG
  go_enter Tryd.func50, Tryd.ntmps50
  go_wp2_with fail
  refine HP.out.mono ?_
  rintro _ w1 ⟨⟨n, ev, rfl, hev, hbd, hk⟩, hb1⟩
  have HB := Lib.hid hbd
  have HK := Lib.hid hk
  clear hbd hk HP
  rcases hev with rfl | rfl | rfl
  · clear HT1 HT2
    go_wp2_with fail
    go_ret2
    exact ⟨⟨_, _, rfl, .inl rfl, HB.out, fun M hM => ⟨rfl, (HK.out M hM).2⟩⟩, hb1⟩
  · clear HT2
    go_wp2_with fail
    refine (HT1.out _ hb1).mono ?_
    rintro _ w2 ⟨⟨N, rfl⟩, hb2⟩
    have e2 : Ext w w2 := hb1.trans hb2
    clear hb2
    go_wp2_with fail
    go_ret2
    exact ⟨⟨_, _, rfl, .inr ⟨_, rfl⟩, HB.out, fun M hM => by have := (HK.out M hM).1; cases this⟩, e2⟩
  · clear HT1
    go_wp2_with fail
    refine (HT2.out _ hb1).mono ?_
    rintro _ w2 ⟨⟨N, rfl⟩, hb2⟩
    have e2 : Ext w w2 := hb1.trans hb2
    clear hb2
    go_wp2_with fail
    go_ret2
    exact ⟨⟨_, _, rfl, .inr ⟨_, rfl⟩, HB.out, fun M hM => by have := (HK.out M hM).1; cases this⟩, e2⟩

theorem readK_some {s : ByteArray} {M : Nat} (h : readH s = some M) : (vld (M : Int) = true → readV s = M ∧ readK s = 0) ∧ (vld (M : Int) = false → readV s = 0 ∧ readK s = 1) := by
  obtain ⟨h1, h2⟩ := read_some h
  refine ⟨fun hv => ?_, fun hv => ?_⟩
  · have : M < 2147483647 := by simp [vld] at hv; omega
    rw [if_pos this] at h1 h2; exact ⟨h1, h2⟩
  · have : ¬ M < 2147483647 := by simp [vld] at hv; omega
    rw [if_neg this] at h1 h2; exact ⟨h1, h2⟩

set_option maxRecDepth 100000 in
set_option maxHeartbeats 1000000 in
theorem MParse_any (s : ByteArray) (w : World) (hs : s.size ≤ 140737488355328) (hG : StrG w) :
    Calls Tryd.prog 13 #[.string s] w fun e w' => e = .returned (.tuple #[.int .i64 (readV s), errR (readK s)]) ∧ Ext w w' := by
  have HP := Lib.hid (SPInt_any s w hs hG)
  have HG := Lib.hid hG
  obtain ⟨rv, hrv⟩ : ∃ k, readV s = k := ⟨_, rfl⟩
  obtain ⟨rk, hrk⟩ : ∃ k, readK s = k := ⟨_, rfl⟩
  have HRN : Hid (readH s = none → rv = 0 ∧ rk = 2) := Lib.hid fun h => by rw [← hrv, ← hrk]; exact read_none h
  have HRS : Hid (∀ M, readH s = some M → (vld (M : Int) = true → rv = M ∧ rk = 0) ∧ (vld (M : Int) = false → rv = 0 ∧ rk = 1)) := Lib.hid fun M h => by rw [← hrv, ← hrk]; exact readK_some h
  rw [hrv, hrk]
  clear hG hrv hrk
  go_enter Tryd.func13, Tryd.ntmps13
  go_wp2_with fail
  refine HP.out.mono ?_
  rintro _ w1 ⟨⟨n, ev, rfl, hev, hbd, hk⟩, hb1⟩
  have HB := Lib.hid hbd
  have HK := Lib.hid hk
  clear hbd hk HP
  rcases hev with rfl | ⟨p, rfl⟩
  · by_cases hn : n < 0
    · have hno : readH s = none := opt_none fun M hM => by have := (HK.out M hM).2; omega
      obtain ⟨rfl, rfl⟩ := HRN.out hno
      clear hno
      go_wp2_with fail
      go_ret2
      exact ⟨rfl, hb1⟩
    · by_cases h8 : s.size = 8
      · obtain ⟨k, rfl⟩ := Int.eq_ofNat_of_zero_le (show 0 ≤ n by omega)
        have hk63 : k < 9223372036854775808 := by have := HB.out; omega
        have HT := Lib.hid fun W (e : Ext w W) => MText_any k W hk63 (HG.out.ext e).deb
        have h8i : (s.size : Int) = 8 := by omega
        have HEQ : Hid (∀ M, readH s = some M → padH k = s ∧ k = M) := Lib.hid fun M hM => by
          have h1 := (HK.out M hM).2
          have h2 : k = M := by omega
          obtain ⟨_, _, h3, h4⟩ := readH_text hM
          subst h2
          exact ⟨(padH_hexT h3).trans h4, rfl⟩
        have HNE : Hid (readH s = none → padH k ≠ s) := Lib.hid fun h he => by
          obtain ⟨m, hm⟩ := hexGo_of_all _ 0 (allHex_pad k)
          unfold readH at h
          rw [if_pos h8, ← he, hm] at h
          cases h
        obtain ⟨t, ht⟩ : ∃ t, padH k = t := ⟨_, rfl⟩
        rw [ht] at HT HEQ HNE
        have HH8 := Lib.hid h8
        clear hk63 ht h8 HB
        cases hrd : readH s with
        | none =>
          obtain ⟨rfl, rfl⟩ := HRN.out hrd
          have hne := (Lib.bytes_beq_false_iff t s).2 (HNE.out hrd)
          have hne2 : ¬ t = s := HNE.out hrd
          clear hrd
          go_wp2_with fail
          refine (HT.out _ hb1).mono ?_
          rintro _ w2 ⟨rfl, hb2⟩
          have e2 := hb1.trans hb2
          go_wp2_with fail
          go_ret2
          exact ⟨rfl, e2⟩
        | some M =>
          obtain ⟨rfl, rfl⟩ := HEQ.out M hrd
          obtain ⟨hv1, hv2⟩ := HRS.out k hrd
          have HV1 := Lib.hid hv1
          have HV2 := Lib.hid hv2
          clear hrd hv1 hv2
          go_wp2_with fail
          refine (HT.out _ hb1).mono ?_
          rintro _ w2 ⟨rfl, hb2⟩
          have e2 := hb1.trans hb2
          have HV := Lib.hid (Valid_any (k : Int) w2)
          cases hv : vld (k : Int) with
          | true =>
            obtain ⟨rfl, rfl⟩ := HV1.out hv
            rw [hv] at HV
            clear hv
            go_wp2_with fail
            refine HV.out.mono ?_
            rintro _ _ ⟨rfl, rfl⟩
            go_wp2_with fail
            go_ret2
            exact ⟨rfl, e2⟩
          | false =>
            obtain ⟨rfl, rfl⟩ := HV2.out hv
            rw [hv] at HV
            clear hv
            go_wp2_with fail
            refine HV.out.mono ?_
            rintro _ _ ⟨rfl, rfl⟩
            go_wp2_with fail
            go_ret2
            exact ⟨rfl, e2⟩
      · have hno : readH s = none := by unfold readH; rw [if_neg h8]
        obtain ⟨rfl, rfl⟩ := HRN.out hno
        have h8i : ¬ (s.size : Int) = 8 := by omega
        clear hno h8
        go_wp2_with fail
        go_ret2
        exact ⟨rfl, hb1⟩
  · have hno : readH s = none := opt_none fun M hM => by have := (HK.out M hM).1; cases this
    obtain ⟨rfl, rfl⟩ := HRN.out hno
    clear hno
    go_wp2_with fail
    go_ret2
    exact ⟨rfl, hb1⟩
end Go.Proofs.YtelcabjhbgkfmaaDoor
