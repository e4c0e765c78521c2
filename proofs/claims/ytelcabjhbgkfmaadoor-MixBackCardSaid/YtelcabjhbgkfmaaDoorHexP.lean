/- Numbers as hexadecimal text: plain. -/
import Derived.Test.YtelcabjhbgkfmaaDoorPure
namespace Go.Proofs.YtelcabjhbgkfmaaDoor
set_option linter.unusedVariables false

theorem ba_ext {a b : ByteArray} (h : a.data.toList = b.data.toList) : a = b := by
  cases a; cases b
  congr 1
  exact Array.ext' h
def hexs : ByteArray := ⟨#[48, 49, 50, 51, 52, 53, 54, 55, 56, 57, 97, 98, 99, 100, 101, 102]⟩
/-- a digit as text -/
def hx (d : Nat) : ByteArray := hexs.extract d (d + 1)
def hexC (d : Nat) : UInt8 := if d < 10 then UInt8.ofNat (48 + d) else UInt8.ofNat (87 + d)
theorem hx_eq : ∀ d, d < 16 → hx d = ⟨#[hexC d]⟩ := by decide +kernel
theorem hx_size {d : Nat} (h : d < 16) : (hx d).size = 1 := by rw [hx_eq d h]; rfl
/-- the last k digits -/
def lowHex (n : Nat) : Nat → ByteArray
  | 0 => ⟨#[]⟩
  | k + 1 => hx (n / 16 ^ k % 16) ++ lowHex n k
/-- a sum as text -/
def hexT (n : Nat) : ByteArray := lowHex n 8
theorem lowHex_size (n : Nat) : ∀ k, (lowHex n k).size = k
  | 0 => rfl
  | k + 1 => by
    unfold lowHex
    rw [ByteArray.size_append, hx_size (Nat.mod_lt _ (by decide)), lowHex_size n k]; omega
theorem lowHex_snoc (n : Nat) : ∀ k, lowHex n (k + 1) = lowHex (n / 16) k ++ hx (n % 16)
  | 0 => by
    show hx (n / 16 ^ 0 % 16) ++ ⟨#[]⟩ = ⟨#[]⟩ ++ hx (n % 16)
    rw [Nat.pow_zero, Nat.div_one]
    apply ba_ext
    simp
  | k + 1 => by
    have h := lowHex_snoc n k
    show hx (n / 16 ^ (k + 1) % 16) ++ lowHex n (k + 1) = (hx (n / 16 / 16 ^ k % 16) ++ lowHex (n / 16) k) ++ hx (n % 16)
    rw [h, Nat.div_div_eq_div_mul, ← Nat.pow_succ', ByteArray.append_assoc]
/-- all digits -/
def hexB (n : Nat) : ByteArray := if h : n < 16 then hx n else hexB (n / 16) ++ hx (n % 16)
termination_by n
decreasing_by omega
theorem hexB_one {n : Nat} (h : n < 16) : hexB n = hx n := by rw [hexB, dif_pos h]
theorem hexB_more {n : Nat} (h : ¬ n < 16) : hexB n = hexB (n / 16) ++ hx (n % 16) := by rw [hexB, dif_neg h]
def zsB (k : Nat) : ByteArray := ⟨(List.replicate k (48 : UInt8)).toArray⟩
theorem zsB_size (k : Nat) : (zsB k).size = k := by show (List.replicate k (48 : UInt8)).toArray.size = k; simp
theorem zsB_succ (k : Nat) : zsB (k + 1) = ⟨#[48]⟩ ++ zsB k := by
  apply ba_ext
  simp [zsB, List.replicate_succ]
theorem lowHex_zero : ∀ k, lowHex 0 k = zsB k
  | 0 => rfl
  | k + 1 => by
    rw [zsB_succ, ← lowHex_zero k]
    show hx (0 / 16 ^ k % 16) ++ lowHex 0 k = _
    rw [Nat.zero_div]
    rfl
theorem hexB_pad : ∀ (k n : Nat), n < 16 ^ (k + 1) → (hexB n).size ≤ k + 1 ∧ zsB (k + 1 - (hexB n).size) ++ hexB n = lowHex n (k + 1)
  | 0, n, h => by
    have h16 : n < 16 := by simpa using h
    rw [hexB_one h16, hx_size h16]
    refine ⟨Nat.le_refl _, ?_⟩
    show zsB 0 ++ hx n = hx (n / 16 ^ 0 % 16) ++ ⟨#[]⟩
    rw [Nat.pow_zero, Nat.div_one, Nat.mod_eq_of_lt h16]
    apply ba_ext
    simp [zsB]
  | k + 1, n, h => by
    rw [lowHex_snoc]
    by_cases h16 : n < 16
    · rw [hexB_one h16, hx_size h16, Nat.div_eq_of_lt h16, lowHex_zero, Nat.mod_eq_of_lt h16]
      exact ⟨by omega, rfl⟩
    · obtain ⟨h1, h2⟩ := hexB_pad k (n / 16) (by rw [Nat.div_lt_iff_lt_mul (by decide), ← Nat.pow_succ]; exact h)
      rw [hexB_more h16, ByteArray.size_append, hx_size (Nat.mod_lt _ (by decide))]
      refine ⟨by omega, ?_⟩
      rw [show k + 1 + 1 - ((hexB (n / 16)).size + 1) = k + 1 - (hexB (n / 16)).size by omega, ← ByteArray.append_assoc, h2]
theorem hexB_size {n : Nat} (h : n < 9223372036854775808) : (hexB n).size ≤ 16 := (hexB_pad 15 n (Nat.lt_of_lt_of_le h (by decide))).1
theorem hexB_pos (n : Nat) : 1 ≤ (hexB n).size := by
  by_cases h : n < 16
  · rw [hexB_one h, hx_size h]; exact Nat.le_refl _
  · rw [hexB_more h, ByteArray.size_append, hx_size (Nat.mod_lt _ (by decide))]; omega
/-- as text, at least 8 digits long -/
def padH (n : Nat) : ByteArray := zsB (8 - (hexB n).size) ++ hexB n
theorem padH_hexT {n : Nat} (h : n < 4294967296) : padH n = hexT n := (hexB_pad 7 n (Nat.lt_of_lt_of_le h (by decide))).2

/-! ### and back -/
def hexD (b : UInt8) : Option Nat := if 48 ≤ b.toNat ∧ b.toNat ≤ 57 then some (b.toNat - 48) else if 97 ≤ b.toNat ∧ b.toNat ≤ 102 then some (b.toNat - 87) else none
def hexGo : Nat → List UInt8 → Option Nat
  | acc, [] => some acc
  | acc, b :: l => (hexD b).bind fun d => hexGo (acc * 16 + d) l
theorem hexGo_snoc (b : UInt8) : ∀ (l : List UInt8) (acc : Nat), hexGo acc (l ++ [b]) = (hexGo acc l).bind fun n => (hexD b).map fun d => n * 16 + d
  | [], acc => by
    show (hexD b).bind (fun d => some (acc * 16 + d)) = _
    cases hexD b <;> rfl
  | c :: l, acc => by
    show (hexD c).bind (fun d => hexGo (acc * 16 + d) (l ++ [b])) = ((hexD c).bind fun d => hexGo (acc * 16 + d) l).bind _
    cases hexD c with
    | none => rfl
    | some d => exact hexGo_snoc b l _
theorem hexD_all : ∀ b : Fin 256, ∀ d, hexD (UInt8.ofNat b.val) = some d → d < 16 ∧ hexC d = UInt8.ofNat b.val := by decide +kernel
theorem hexD_spec {b : UInt8} {d : Nat} (h : hexD b = some d) : d < 16 ∧ hexC d = b := by
  have := hexD_all ⟨b.toNat, b.toNat_lt⟩ d
  simp only [UInt8.ofNat_toNat] at this
  exact this h
theorem hexD_hexC : ∀ d, d < 16 → hexD (hexC d) = some d := by decide +kernel
theorem hexGo_text : ∀ (k : Nat) (l : List UInt8) (n : Nat), l.length = k → hexGo 0 l = some n → n < 16 ^ k ∧ lowHex n k = ⟨l.toArray⟩
  | 0, l, n, hl, h => by
    obtain rfl : l = [] := List.length_eq_zero_iff.1 hl
    obtain rfl : 0 = n := by simpa [hexGo] using h
    exact ⟨by decide, rfl⟩
  | k + 1, l, n, hl, h => by
    have hne : l ≠ [] := by rintro rfl; simp at hl
    obtain ⟨l0, b, rfl⟩ : ∃ l0 b, l = l0 ++ [b] := ⟨l.dropLast, l.getLast hne, (List.dropLast_concat_getLast hne).symm⟩
    rw [hexGo_snoc] at h
    have hl0 : l0.length = k := by simpa using hl
    cases hm : hexGo 0 l0 with
    | none => rw [hm] at h; cases h
    | some m =>
      rw [hm] at h
      cases hd : hexD b with
      | none => rw [hd] at h; cases h
      | some d =>
        rw [hd] at h
        obtain rfl : m * 16 + d = n := by simpa using h
        obtain ⟨h1, h2⟩ := hexGo_text k l0 m hl0 hm
        obtain ⟨h3, h4⟩ := hexD_spec hd
        refine ⟨by rw [Nat.pow_succ]; omega, ?_⟩
        rw [lowHex_snoc, show (m * 16 + d) / 16 = m by omega, show (m * 16 + d) % 16 = d by omega, h2, hx_eq d h3, h4]
        apply ba_ext
        simp
/-- text of digits alone -/
def allHex (l : List UInt8) : Prop := ∀ b ∈ l, (hexD b).isSome = true
theorem hexGo_of_all : ∀ (l : List UInt8) (acc : Nat), allHex l → ∃ n, hexGo acc l = some n
  | [], acc, _ => ⟨acc, rfl⟩
  | b :: l, acc, h => by
    obtain ⟨d, hd⟩ := Option.isSome_iff_exists.1 (h b (List.mem_cons_self ..))
    obtain ⟨n, hn⟩ := hexGo_of_all l (acc * 16 + d) fun c hc => h c (List.mem_cons_of_mem _ hc)
    exact ⟨n, by unfold hexGo; rw [hd]; exact hn⟩
theorem allHex_hx {d : Nat} (h : d < 16) : allHex (hx d).data.toList := by
  rw [hx_eq d h]
  intro b hb
  obtain rfl : b = hexC d := by simpa using hb
  rw [hexD_hexC d h]; rfl
theorem allHex_cat {a b : ByteArray} (h : allHex a.data.toList) (k : allHex b.data.toList) : allHex (a ++ b).data.toList := by
  intro c hc
  simp only [ByteArray.data_append, Array.toList_append, List.mem_append] at hc
  exact hc.elim (h c) (k c)
theorem allHex_zs (k : Nat) : allHex (zsB k).data.toList := by
  intro b hb
  simp only [zsB] at hb
  obtain rfl := (List.mem_replicate.1 hb).2
  decide
theorem allHex_hexB (N : Nat) : ∀ n, n ≤ N → allHex (hexB n).data.toList := by
  induction N with
  | zero => intro n h; rw [hexB_one (by omega)]; exact allHex_hx (by omega)
  | succ N ih =>
    intro n h
    by_cases h1 : n < 16
    · rw [hexB_one h1]; exact allHex_hx h1
    · rw [hexB_more h1]; exact allHex_cat (ih _ (by omega)) (allHex_hx (Nat.mod_lt _ (by decide)))
theorem allHex_pad (n : Nat) : allHex (padH n).data.toList := allHex_cat (allHex_zs _) (allHex_hexB n n (Nat.le_refl _))
/-- what is read of a text: the number, the fault -/
def readH (s : ByteArray) : Option Nat := if s.size = 8 then hexGo 0 s.data.toList else none
def readV (s : ByteArray) : Int := match readH s with | some n => if n < 2147483647 then (n : Int) else 0 | none => 0
def readK (s : ByteArray) : Int := match readH s with | some n => if n < 2147483647 then 0 else 1 | none => 2
theorem readH_text {s : ByteArray} {n : Nat} (h : readH s = some n) : s.size = 8 ∧ hexGo 0 s.data.toList = some n ∧ n < 4294967296 ∧ hexT n = s := by
  unfold readH at h
  split at h
  · rename_i h8
    obtain ⟨h1, h2⟩ := hexGo_text 8 s.data.toList n h8 h
    exact ⟨h8, h, Nat.lt_of_lt_of_le h1 (by decide), h2⟩
  · cases h
theorem readH_hexT {n : Nat} (h : n < 4294967296) : readH (hexT n) = some n := by
  have h8 : (hexT n).size = 8 := lowHex_size n 8
  have ha : allHex (hexT n).data.toList := by rw [← padH_hexT h]; exact allHex_pad n
  obtain ⟨m, hm⟩ := hexGo_of_all _ 0 ha
  have hr : readH (hexT n) = some m := by unfold readH; rw [if_pos h8]; exact hm
  obtain ⟨_, _, h1, h2⟩ := readH_text hr
  rw [hr]
  congr 1
  -- digits tell the number
  have inj : ∀ (k a b : Nat), a < 16 ^ k → b < 16 ^ k → lowHex a k = lowHex b k → a = b := by
    intro k
    induction k with
    | zero => intro a b ha hb _; simp at ha hb; omega
    | succ k ih =>
      intro a b ha hb hab
      rw [lowHex_snoc, lowHex_snoc] at hab
      have hl : (lowHex (a / 16) k).data.toList ++ (hx (a % 16)).data.toList = (lowHex (b / 16) k).data.toList ++ (hx (b % 16)).data.toList := by
        have := congrArg (fun z : ByteArray => z.data.toList) hab
        simpa using this
      have hs : (lowHex (a / 16) k).data.toList.length = (lowHex (b / 16) k).data.toList.length := by
        have e1 := lowHex_size (a / 16) k
        have e2 := lowHex_size (b / 16) k
        exact e1.trans e2.symm
      obtain ⟨h5, h6⟩ := List.append_inj hl hs
      have e5 := ih (a / 16) (b / 16) (by rw [Nat.div_lt_iff_lt_mul (by decide), ← Nat.pow_succ]; exact ha) (by rw [Nat.div_lt_iff_lt_mul (by decide), ← Nat.pow_succ]; exact hb) (ba_ext h5)
      have e6 : a % 16 = b % 16 := by
        have hx' := ba_ext h6
        have key : ∀ x, x < 16 → ∀ y, y < 16 → hx x = hx y → x = y := by
          intro x hx1 y hy1 he
          rw [hx_eq x hx1, hx_eq y hy1] at he
          have hc : hexC x = hexC y := by injection he with he; simpa using he
          have := congrArg hexD hc
          rw [hexD_hexC x hx1, hexD_hexC y hy1] at this
          exact Option.some.inj this
        exact key _ (Nat.mod_lt _ (by decide)) _ (Nat.mod_lt _ (by decide)) hx'
      omega
  exact inj 8 m n (Nat.lt_of_lt_of_le h1 (by decide)) (Nat.lt_of_lt_of_le h (by decide)) h2
end Go.Proofs.YtelcabjhbgkfmaaDoor
