/- What the rows of this seat list: errors.errorType. After the guide's worked text ToyasProofs. -/
import Derived.Test.YtnphbkjkeipmmaaGreatDoorRows
import Derived.Test.YtnphbkjkeipmmaaGreatDoorJRunBegins1
import Derived.Test.YtnphbkjkeipmmaaGreatDoorJRunBegins0
import Derived.ChangeSame
import Derived.ChangeVars
import Derived.JoinedOf
import Derived.LaidLaws
import Derived.LaidHandle
import Derived.Stop.Joined
import Derived.Deep.DeepHandedRow
import Derived.SevenTiedAt
import Derived.Lib.ItoaNum
import Derived.Lib.ItoaMem
import Derived.Lib.Atoi
import Derived.Lib.AtoiAll
import Derived.Lib.Join
import Derived.WalkSpells
import Derived.WalkLawsBesides
namespace Go.Proofs.YtnphbkjkeipmmaaGreatDoor
open Go.ChangeShapes Go.WideShapes Go.RowKit
set_option linter.unusedVariables false

theorem et : Tryz.prog.globalNamed "errors.errorType" = some 0 := by kernel_rfl
theorem rtG : (Tryz.prog.cutTypes.find? (·.1 == "internal/reflectlite.rtype")).map (·.2) = some 140 := by kernel_rfl
theorem sizeG : Tryz.prog.types.size = 252 := by kernel_rfl
theorem oneRowG : ((List.range 252).filter fun t => Tryz.prog.rowNamed t [101, 114, 114, 111, 114]) = [40] := by kernel_rfl
theorem handle_of_laid {W : World} (h : laidMetH Tryz.prog [("errors.errorType", Rows.laid_errors_errorType)] W) : ErrG W := by
  have h' : laidMet Tryz.prog [] W ∧ handlesMet Tryz.prog [("errors.errorType", Rows.laid_errors_errorType)] W := h
  obtain ⟨name, u, ty, e1, e2, e3, e4, e5⟩ := h'.2 _ (List.mem_singleton.2 rfl)
  have en : name = [101, 114, 114, 111, 114] := (Option.some.inj e1).symm
  subst en
  obtain rfl := Option.some.inj (rtG.symm.trans e2)
  have hm : ty ∈ (List.range 252).filter fun t => Tryz.prog.rowNamed t [101, 114, 114, 111, 114] := List.mem_filter.2 ⟨List.mem_range.2 (by rw [← sizeG]; exact e3), e4⟩
  rw [oneRowG] at hm
  obtain rfl := List.mem_singleton.1 hm
  have hh : typeHandle Tryz.prog 40 = .pointer (some ⟨9, 40, none⟩) := by kernel_rfl
  rw [hh] at e5
  have := World.var?_cell et e5 0
  unfold ErrG
  simpa using this
/-- a world for the witness -/
noncomputable def laidWorld (os : Os) : World :=
  let w0 := World.holding Tryz.prog os ⟨#[], #[], []⟩
  { w0 with heap := w0.heap.modify 0 fun
      | .cells _ t frozen => .cells #[.iface 140 (.agg #[.pointer (some ⟨9, 40, none⟩)])] t frozen
      | o => o }
end Go.Proofs.YtnphbkjkeipmmaaGreatDoor

/- Numbers as hexadecimal text: plain. -/
namespace Go.Proofs.YtnphbkjkeipmmaaGreatDoor
set_option linter.unusedVariables false

def hexs : ByteArray := ⟨#[48, 49, 50, 51, 52, 53, 54, 55, 56, 57, 97, 98, 99, 100, 101, 102]⟩
/-- a digit as text -/
def hx (d : Nat) : ByteArray := hexs.extract d (d + 1)
def hexC (d : Nat) : UInt8 := if d < 10 then UInt8.ofNat (48 + d) else UInt8.ofNat (87 + d)
theorem hx_eq : ∀ d, d < 16 → hx d = ⟨#[hexC d]⟩ := by decide +kernel
theorem hx_size {d : Nat} (h : d < 16) : (hx d).size = 1 := by rw [hx_eq d h]; rfl
/-- the last k digits -/
def lowHex (n : Nat) : Nat → ByteArray
  | 0 => ⟨#[]⟩
  | k + 1 => hx (n / 16 ^ k % 16) ++ lowHex n k
/-- a sum as text -/
def hexT (n : Nat) : ByteArray := lowHex n 8
theorem lowHex_size (n : Nat) : ∀ k, (lowHex n k).size = k
  | 0 => rfl
  | k + 1 => by
    unfold lowHex
    rw [ByteArray.size_append, hx_size (Nat.mod_lt _ (by decide)), lowHex_size n k]; omega
theorem lowHex_snoc (n : Nat) : ∀ k, lowHex n (k + 1) = lowHex (n / 16) k ++ hx (n % 16)
  | 0 => by
    show hx (n / 16 ^ 0 % 16) ++ ⟨#[]⟩ = ⟨#[]⟩ ++ hx (n % 16)
    rw [Nat.pow_zero, Nat.div_one]
    apply ba_ext
    simp
  | k + 1 => by
    have h := lowHex_snoc n k
    show hx (n / 16 ^ (k + 1) % 16) ++ lowHex n (k + 1) = (hx (n / 16 / 16 ^ k % 16) ++ lowHex (n / 16) k) ++ hx (n % 16)
    rw [h, Nat.div_div_eq_div_mul, ← Nat.pow_succ', ByteArray.append_assoc]
/-- all digits -/
def hexB (n : Nat) : ByteArray := if h : n < 16 then hx n else hexB (n / 16) ++ hx (n % 16)
termination_by n
decreasing_by omega
theorem hexB_one {n : Nat} (h : n < 16) : hexB n = hx n := by rw [hexB, dif_pos h]
theorem hexB_more {n : Nat} (h : ¬ n < 16) : hexB n = hexB (n / 16) ++ hx (n % 16) := by rw [hexB, dif_neg h]
def zsB (k : Nat) : ByteArray := ⟨(List.replicate k (48 : UInt8)).toArray⟩
theorem zsB_size (k : Nat) : (zsB k).size = k := by show (List.replicate k (48 : UInt8)).toArray.size = k; simp
theorem zsB_succ (k : Nat) : zsB (k + 1) = ⟨#[48]⟩ ++ zsB k := by
  apply ba_ext
  simp [zsB, List.replicate_succ]
theorem lowHex_zero : ∀ k, lowHex 0 k = zsB k
  | 0 => rfl
  | k + 1 => by
    rw [zsB_succ, ← lowHex_zero k]
    show hx (0 / 16 ^ k % 16) ++ lowHex 0 k = _
    rw [Nat.zero_div]
    rfl
theorem hexB_pad : ∀ (k n : Nat), n < 16 ^ (k + 1) → (hexB n).size ≤ k + 1 ∧ zsB (k + 1 - (hexB n).size) ++ hexB n = lowHex n (k + 1)
  | 0, n, h => by
    have h16 : n < 16 := by simpa using h
    rw [hexB_one h16, hx_size h16]
    refine ⟨Nat.le_refl _, ?_⟩
    show zsB 0 ++ hx n = hx (n / 16 ^ 0 % 16) ++ ⟨#[]⟩
    rw [Nat.pow_zero, Nat.div_one, Nat.mod_eq_of_lt h16]
    apply ba_ext
    simp [zsB]
  | k + 1, n, h => by
    rw [lowHex_snoc]
    by_cases h16 : n < 16
    · rw [hexB_one h16, hx_size h16, Nat.div_eq_of_lt h16, lowHex_zero, Nat.mod_eq_of_lt h16]
      exact ⟨by omega, rfl⟩
    · obtain ⟨h1, h2⟩ := hexB_pad k (n / 16) (by rw [Nat.div_lt_iff_lt_mul (by decide), ← Nat.pow_succ]; exact h)
      rw [hexB_more h16, ByteArray.size_append, hx_size (Nat.mod_lt _ (by decide))]
      refine ⟨by omega, ?_⟩
      rw [show k + 1 + 1 - ((hexB (n / 16)).size + 1) = k + 1 - (hexB (n / 16)).size by omega, ← ByteArray.append_assoc, h2]
theorem hexB_size {n : Nat} (h : n < 9223372036854775808) : (hexB n).size ≤ 16 := (hexB_pad 15 n (Nat.lt_of_lt_of_le h (by decide))).1
theorem hexB_pos (n : Nat) : 1 ≤ (hexB n).size := by
  by_cases h : n < 16
  · rw [hexB_one h, hx_size h]; exact Nat.le_refl _
  · rw [hexB_more h, ByteArray.size_append, hx_size (Nat.mod_lt _ (by decide))]; omega
/-- as text, at least 8 digits long -/
def padH (n : Nat) : ByteArray := zsB (8 - (hexB n).size) ++ hexB n
theorem padH_hexT {n : Nat} (h : n < 4294967296) : padH n = hexT n := (hexB_pad 7 n (Nat.lt_of_lt_of_le h (by decide))).2

/-! ### and back -/
def hexD (b : UInt8) : Option Nat := if 48 ≤ b.toNat ∧ b.toNat ≤ 57 then some (b.toNat - 48) else if 97 ≤ b.toNat ∧ b.toNat ≤ 102 then some (b.toNat - 87) else none
def hexGo : Nat → List UInt8 → Option Nat
  | acc, [] => some acc
  | acc, b :: l => (hexD b).bind fun d => hexGo (acc * 16 + d) l
theorem hexGo_snoc (b : UInt8) : ∀ (l : List UInt8) (acc : Nat), hexGo acc (l ++ [b]) = (hexGo acc l).bind fun n => (hexD b).map fun d => n * 16 + d
  | [], acc => by
    show (hexD b).bind (fun d => some (acc * 16 + d)) = _
    cases hexD b <;> rfl
  | c :: l, acc => by
    show (hexD c).bind (fun d => hexGo (acc * 16 + d) (l ++ [b])) = ((hexD c).bind fun d => hexGo (acc * 16 + d) l).bind _
    cases hexD c with
    | none => rfl
    | some d => exact hexGo_snoc b l _
theorem hexD_all : ∀ b : Fin 256, ∀ d, hexD (UInt8.ofNat b.val) = some d → d < 16 ∧ hexC d = UInt8.ofNat b.val := by decide +kernel
theorem hexD_spec {b : UInt8} {d : Nat} (h : hexD b = some d) : d < 16 ∧ hexC d = b := by
  have := hexD_all ⟨b.toNat, b.toNat_lt⟩ d
  simp only [UInt8.ofNat_toNat] at this
  exact this h
theorem hexD_hexC : ∀ d, d < 16 → hexD (hexC d) = some d := by decide +kernel
theorem hexGo_text : ∀ (k : Nat) (l : List UInt8) (n : Nat), l.length = k → hexGo 0 l = some n → n < 16 ^ k ∧ lowHex n k = ⟨l.toArray⟩
  | 0, l, n, hl, h => by
    obtain rfl : l = [] := List.length_eq_zero_iff.1 hl
    obtain rfl : 0 = n := by simpa [hexGo] using h
    exact ⟨by decide, rfl⟩
  | k + 1, l, n, hl, h => by
    have hne : l ≠ [] := by rintro rfl; simp at hl
    obtain ⟨l0, b, rfl⟩ : ∃ l0 b, l = l0 ++ [b] := ⟨l.dropLast, l.getLast hne, (List.dropLast_concat_getLast hne).symm⟩
    rw [hexGo_snoc] at h
    have hl0 : l0.length = k := by simpa using hl
    cases hm : hexGo 0 l0 with
    | none => rw [hm] at h; cases h
    | some m =>
      rw [hm] at h
      cases hd : hexD b with
      | none => rw [hd] at h; cases h
      | some d =>
        rw [hd] at h
        obtain rfl : m * 16 + d = n := by simpa using h
        obtain ⟨h1, h2⟩ := hexGo_text k l0 m hl0 hm
        obtain ⟨h3, h4⟩ := hexD_spec hd
        refine ⟨by rw [Nat.pow_succ]; omega, ?_⟩
        rw [lowHex_snoc, show (m * 16 + d) / 16 = m by omega, show (m * 16 + d) % 16 = d by omega, h2, hx_eq d h3, h4]
        apply ba_ext
        simp
/-- text of digits alone -/
def allHex (l : List UInt8) : Prop := ∀ b ∈ l, (hexD b).isSome = true
theorem hexGo_of_all : ∀ (l : List UInt8) (acc : Nat), allHex l → ∃ n, hexGo acc l = some n
  | [], acc, _ => ⟨acc, rfl⟩
  | b :: l, acc, h => by
    obtain ⟨d, hd⟩ := Option.isSome_iff_exists.1 (h b (List.mem_cons_self ..))
    obtain ⟨n, hn⟩ := hexGo_of_all l (acc * 16 + d) fun c hc => h c (List.mem_cons_of_mem _ hc)
    exact ⟨n, by unfold hexGo; rw [hd]; exact hn⟩
theorem allHex_hx {d : Nat} (h : d < 16) : allHex (hx d).data.toList := by
  rw [hx_eq d h]
  intro b hb
  obtain rfl : b = hexC d := by simpa using hb
  rw [hexD_hexC d h]; rfl
theorem allHex_cat {a b : ByteArray} (h : allHex a.data.toList) (k : allHex b.data.toList) : allHex (a ++ b).data.toList := by
  intro c hc
  simp only [ByteArray.data_append, Array.toList_append, List.mem_append] at hc
  exact hc.elim (h c) (k c)
theorem allHex_zs (k : Nat) : allHex (zsB k).data.toList := by
  intro b hb
  simp only [zsB] at hb
  obtain rfl := (List.mem_replicate.1 hb).2
  decide
theorem allHex_hexB (N : Nat) : ∀ n, n ≤ N → allHex (hexB n).data.toList := by
  induction N with
  | zero => intro n h; rw [hexB_one (by omega)]; exact allHex_hx (by omega)
  | succ N ih =>
    intro n h
    by_cases h1 : n < 16
    · rw [hexB_one h1]; exact allHex_hx h1
    · rw [hexB_more h1]; exact allHex_cat (ih _ (by omega)) (allHex_hx (Nat.mod_lt _ (by decide)))
theorem allHex_pad (n : Nat) : allHex (padH n).data.toList := allHex_cat (allHex_zs _) (allHex_hexB n n (Nat.le_refl _))
/-- what is read of a text: the number, the fault -/
def readH (s : ByteArray) : Option Nat := if s.size = 8 then hexGo 0 s.data.toList else none
def readV (s : ByteArray) : Int := match readH s with | some n => if n < 2147483647 then (n : Int) else 0 | none => 0
def readK (s : ByteArray) : Int := match readH s with | some n => if n < 2147483647 then 0 else 1 | none => 2
theorem readH_text {s : ByteArray} {n : Nat} (h : readH s = some n) : s.size = 8 ∧ hexGo 0 s.data.toList = some n ∧ n < 4294967296 ∧ hexT n = s := by
  unfold readH at h
  split at h
  · rename_i h8
    obtain ⟨h1, h2⟩ := hexGo_text 8 s.data.toList n h8 h
    exact ⟨h8, h, Nat.lt_of_lt_of_le h1 (by decide), h2⟩
  · cases h
theorem readH_hexT {n : Nat} (h : n < 4294967296) : readH (hexT n) = some n := by
  have h8 : (hexT n).size = 8 := lowHex_size n 8
  have ha : allHex (hexT n).data.toList := by rw [← padH_hexT h]; exact allHex_pad n
  obtain ⟨m, hm⟩ := hexGo_of_all _ 0 ha
  have hr : readH (hexT n) = some m := by unfold readH; rw [if_pos h8]; exact hm
  obtain ⟨_, _, h1, h2⟩ := readH_text hr
  rw [hr]
  congr 1
  -- digits tell the number
  have inj : ∀ (k a b : Nat), a < 16 ^ k → b < 16 ^ k → lowHex a k = lowHex b k → a = b := by
    intro k
    induction k with
    | zero => intro a b ha hb _; simp at ha hb; omega
    | succ k ih =>
      intro a b ha hb hab
      rw [lowHex_snoc, lowHex_snoc] at hab
      have hl : (lowHex (a / 16) k).data.toList ++ (hx (a % 16)).data.toList = (lowHex (b / 16) k).data.toList ++ (hx (b % 16)).data.toList := by
        have := congrArg (fun z : ByteArray => z.data.toList) hab
        simpa using this
      have hs : (lowHex (a / 16) k).data.toList.length = (lowHex (b / 16) k).data.toList.length := by
        have e1 := lowHex_size (a / 16) k
        have e2 := lowHex_size (b / 16) k
        exact e1.trans e2.symm
      obtain ⟨h5, h6⟩ := List.append_inj hl hs
      have e5 := ih (a / 16) (b / 16) (by rw [Nat.div_lt_iff_lt_mul (by decide), ← Nat.pow_succ]; exact ha) (by rw [Nat.div_lt_iff_lt_mul (by decide), ← Nat.pow_succ]; exact hb) (ba_ext h5)
      have e6 : a % 16 = b % 16 := by
        have hx' := ba_ext h6
        have key : ∀ x, x < 16 → ∀ y, y < 16 → hx x = hx y → x = y := by
          intro x hx1 y hy1 he
          rw [hx_eq x hx1, hx_eq y hy1] at he
          have hc : hexC x = hexC y := by injection he with he; simpa using he
          have := congrArg hexD hc
          rw [hexD_hexC x hx1, hexD_hexC y hy1] at this
          exact Option.some.inj this
        exact key _ (Nat.mod_lt _ (by decide)) _ (Nat.mod_lt _ (by decide)) hx'
      omega
  exact inj 8 m n (Nat.lt_of_lt_of_le h1 (by decide)) (Nat.lt_of_lt_of_le h (by decide)) h2
end Go.Proofs.YtnphbkjkeipmmaaGreatDoor

/- Numbers as decimal text, and back: plain. -/
namespace Go.Proofs.YtnphbkjkeipmmaaGreatDoor
set_option linter.unusedVariables false

def digs : ByteArray := ⟨#[48, 49, 50, 51, 52, 53, 54, 55, 56, 57]⟩
/-- a number's digits -/
def digB (n : Nat) : ByteArray :=
  if h : n < 10 then digs.extract n (n + 1) else digB (n / 10) ++ digs.extract (n % 10) (n % 10 + 1)
termination_by n
decreasing_by omega
theorem digB_one {n : Nat} (h : n < 10) : digB n = digs.extract n (n + 1) := by rw [digB, dif_pos h]
theorem digB_more {n : Nat} (h : ¬ n < 10) : digB n = digB (n / 10) ++ digs.extract (n % 10) (n % 10 + 1) := by rw [digB, dif_neg h]
theorem digs_size {n : Nat} (h : n < 10) : (digs.extract n (n + 1)).size = 1 := by
  rw [ByteArray.size_extract]; show min (n + 1) 10 - n = 1; omega
theorem digB_size (N : Nat) : ∀ n : Nat, n ≤ N → (digB n).size ≤ n / 10 + 1 := by
  induction N with
  | zero => intro n h; obtain rfl : n = 0 := by omega
            rw [digB_one (by omega), digs_size (by omega)]; omega
  | succ N ih =>
    intro n h
    by_cases h1 : n < 10
    · rw [digB_one h1, digs_size h1]; omega
    · rw [digB_more h1, ByteArray.size_append, digs_size (by omega)]
      have := ih (n / 10) (by omega)
      omega
theorem digs_at : ∀ d, d < 10 → digs.extract d (d + 1) = ⟨#[UInt8.ofNat (48 + d)]⟩ := by decide +kernel
theorem digB_dec (N : Nat) : ∀ n : Nat, n ≤ N → (digB n).data.toList = Lib.decDigits n := by
  induction N with
  | zero => intro n h; obtain rfl : n = 0 := by omega
            rw [digB_one (by omega), Lib.decDigits, dif_pos (by omega), digs_at 0 (by omega)]
  | succ N ih =>
    intro n h
    by_cases h1 : n < 10
    · rw [digB_one h1, Lib.decDigits, dif_pos h1, digs_at n h1]
    · rw [digB_more h1, Lib.decDigits, dif_neg h1, digs_at _ (Nat.mod_lt _ (by decide)), ByteArray.data_append, Array.toList_append, ih (n / 10) (by omega)]
theorem digB_itoa (n : Nat) : (⟨(Lib.itoa (n : Int)).toArray⟩ : ByteArray) = digB n := by
  rw [Lib.itoa_nonneg, ← digB_dec n n (Nat.le_refl _)]
/-- a number of at most 7 digits -/
theorem digB_small : ∀ (k n : Nat), n < 10 ^ (k + 1) → (digB n).size ≤ k + 1
  | 0, n, h => by rw [digB_one (by simpa using h), digs_size (by simpa using h)]; omega
  | k + 1, n, h => by
    by_cases h1 : n < 10
    · rw [digB_one h1, digs_size h1]; omega
    · rw [digB_more h1, ByteArray.size_append, digs_size (Nat.mod_lt _ (by decide))]
      have := digB_small k (n / 10) (by rw [Nat.div_lt_iff_lt_mul (by decide), ← Nat.pow_succ]; exact h)
      omega
theorem digB_pos (n : Nat) : 1 ≤ (digB n).size := by
  by_cases h : n < 10
  · rw [digB_one h, digs_size h]; omega
  · rw [digB_more h, ByteArray.size_append, digs_size (Nat.mod_lt _ (by decide))]; omega

/-! ### and back -/
theorem decFrom_snoc (b : UInt8) : ∀ (l : List UInt8) (acc : Nat), Lib.decFrom acc (l ++ [b]) = (Lib.decFrom acc l).bind fun n => (Lib.digitVal b).map fun d => n * 10 + d
  | [], acc => by
    show Lib.decFrom acc [b] = (some acc).bind _
    unfold Lib.decFrom
    cases Lib.digitVal b <;> rfl
  | c :: l, acc => by
    show Lib.decFrom acc (c :: (l ++ [b])) = (Lib.decFrom acc (c :: l)).bind _
    unfold Lib.decFrom
    cases Lib.digitVal c with
    | none => rfl
    | some d => exact decFrom_snoc b l _
theorem digitVal_all : ∀ b : Fin 256, ∀ d, Lib.digitVal (UInt8.ofNat b.val) = some d → d < 10 ∧ UInt8.ofNat (48 + d) = UInt8.ofNat b.val := by decide +kernel
theorem digitVal_spec {b : UInt8} {d : Nat} (h : Lib.digitVal b = some d) : d < 10 ∧ UInt8.ofNat (48 + d) = b := by
  have := digitVal_all ⟨b.toNat, b.toNat_lt⟩ d
  simp only [UInt8.ofNat_toNat] at this
  exact this h
theorem digitVal_of : ∀ d, d < 10 → Lib.digitVal (UInt8.ofNat (48 + d)) = some d := by decide +kernel
/-- digits without a needless 0 -/
def canon (l : List UInt8) : Prop := l ≠ [] ∧ (l.head? = some 48 → l.length = 1)
theorem dec_canon (N : Nat) : ∀ n, n ≤ N → canon (Lib.decDigits n) ∧ Lib.decFrom 0 (Lib.decDigits n) = some n ∧ ((Lib.decDigits n).head? = some 48 → n = 0) := by
  induction N with
  | zero => intro n h; obtain rfl : n = 0 := by omega
            rw [Lib.decDigits, dif_pos (by omega)]
            exact ⟨⟨by simp, fun _ => rfl⟩, by decide, fun _ => rfl⟩
  | succ N ih =>
    intro n h
    by_cases h1 : n < 10
    · rw [Lib.decDigits, dif_pos h1]
      refine ⟨⟨by simp, fun _ => rfl⟩, ?_, fun h2 => ?_⟩
      · unfold Lib.decFrom
        rw [digitVal_of n h1]
        show Lib.decFrom (0 * 10 + n) [] = _
        unfold Lib.decFrom
        simp
      · have h3 : UInt8.ofNat (48 + n) = 48 := by simpa using h2
        have := congrArg Lib.digitVal h3
        rw [digitVal_of n h1] at this
        exact Option.some.inj this
    · obtain ⟨⟨h2, h3⟩, h4, h5⟩ := ih (n / 10) (by omega)
      rw [Lib.decDigits, dif_neg h1]
      obtain ⟨c, r, hcr⟩ : ∃ c r, Lib.decDigits (n / 10) = c :: r := by
        cases hd : Lib.decDigits (n / 10) with
        | nil => exact absurd hd h2
        | cons c r => exact ⟨c, r, rfl⟩
      have hh : ((Lib.decDigits (n / 10)) ++ [UInt8.ofNat (48 + n % 10)]).head? = (Lib.decDigits (n / 10)).head? := by rw [hcr]; rfl
      refine ⟨⟨by simp, fun h6 => ?_⟩, ?_, fun h6 => ?_⟩
      · rw [hh] at h6
        have := h5 h6; omega
      · rw [decFrom_snoc, h4, digitVal_of _ (Nat.mod_lt _ (by decide))]
        show some (n / 10 * 10 + n % 10) = _
        congr 1; omega
      · rw [hh] at h6
        have := h5 h6; omega
theorem canon_dec : ∀ (k : Nat) (l : List UInt8) (n : Nat), l.length = k → canon l → Lib.decFrom 0 l = some n → Lib.decDigits n = l
  | 0, l, n, hl, hc, h => absurd (List.length_eq_zero_iff.1 hl) hc.1
  | k + 1, l, n, hl, hc, h => by
    obtain ⟨l0, b, rfl⟩ : ∃ l0 b, l = l0 ++ [b] := ⟨l.dropLast, l.getLast hc.1, (List.dropLast_concat_getLast hc.1).symm⟩
    have hl0 : l0.length = k := by simpa using hl
    rw [decFrom_snoc] at h
    cases hm : Lib.decFrom 0 l0 with
    | none => rw [hm] at h; cases h
    | some m =>
      rw [hm] at h
      cases hd : Lib.digitVal b with
      | none => rw [hd] at h; cases h
      | some d =>
        rw [hd] at h
        obtain rfl : m * 10 + d = n := by simpa using h
        obtain ⟨h3, h4⟩ := digitVal_spec hd
        cases l0 with
        | nil =>
          obtain rfl : 0 = m := by simpa [Lib.decFrom] using hm
          rw [Lib.decDigits, dif_pos (by omega), Nat.zero_mul, Nat.zero_add, h4]; rfl
        | cons c r =>
          have hc0 : c ≠ 48 := by
            rintro rfl
            have := hc.2 (by simp)
            simp at this
          have hi := canon_dec k (c :: r) m hl0 ⟨by simp, fun h => absurd (by simpa using h) hc0⟩ hm
          have hm0 : m ≠ 0 := by
            rintro rfl
            rw [Lib.decDigits, dif_pos (by omega)] at hi
            have : c = 48 := by injection hi with h1 h2; exact h1.symm
            exact hc0 this
          rw [Lib.decDigits, dif_neg (by omega), show (m * 10 + d) / 10 = m by omega, show (m * 10 + d) % 10 = d by omega, hi, h4]
theorem decFrom_le : ∀ (l : List UInt8) (acc u : Nat), Lib.decFrom acc l = some u → acc ≤ u
  | [], acc, u, h => by obtain rfl : acc = u := by simpa [Lib.decFrom] using h
                        exact Nat.le_refl _
  | c :: l, acc, u, h => by
    unfold Lib.decFrom at h
    cases hd : Lib.digitVal c with
    | none => rw [hd] at h; cases h
    | some d =>
      rw [hd] at h
      have := decFrom_le l (acc * 10 + d) u h
      omega
theorem parse_dec : ∀ (l : List UInt8) (acc u : Nat), Lib.decFrom acc l = some u → u < 1000000000000 → Lib.parseUint10 acc l = .ok u
  | [], acc, u, h, _ => by obtain rfl : acc = u := by simpa [Lib.decFrom] using h
                           rfl
  | c :: l, acc, u, h, hu => by
    unfold Lib.decFrom at h
    cases hd : Lib.digitVal c with
    | none => rw [hd] at h; cases h
    | some d =>
      rw [hd] at h
      have h1 := decFrom_le l (acc * 10 + d) u h
      unfold Lib.digitVal at hd
      split at hd
      · rename_i hc
        obtain rfl : c.toNat - 48 = d := by simpa using hd
        unfold Lib.parseUint10
        rw [if_pos hc, if_neg (by omega), if_neg (by omega)]
        exact parse_dec l _ u h hu
      · cases hd
/-- a number of a text, of at most so many digits -/
def numR (s : ByteArray) (m : Nat) : Option Nat := if s.size = 0 ∨ m < s.size ∨ (s.data.toList.head? = some 48 ∧ 1 < s.size) then none else Lib.decFrom 0 s.data.toList
theorem numR_some {s : ByteArray} {m v : Nat} (h : numR s m = some v) : s.size ≤ m ∧ canon s.data.toList ∧ Lib.decFrom 0 s.data.toList = some v ∧ digB v = s := by
  unfold numR at h
  split at h
  · cases h
  · rename_i hn
    have hsz : s.data.toList.length = s.size := rfl
    have hc : canon s.data.toList := ⟨fun h0 => hn (.inl (by rw [← hsz, h0]; rfl)), fun h0 => by
      rw [hsz]
      have h1 : ¬ 1 < s.size := fun h1 => hn (.inr (.inr ⟨h0, h1⟩))
      have h2 : s.size ≠ 0 := fun h2 => hn (.inl h2)
      omega⟩
    refine ⟨Nat.le_of_not_lt fun h0 => hn (.inr (.inl h0)), hc, h, ?_⟩
    have := canon_dec _ _ _ rfl hc h
    rw [← digB_dec v v (Nat.le_refl _)] at this
    cases s
    cases hd : digB v
    rw [hd] at this
    congr 1
    exact Array.ext' this
theorem numR_of {s : ByteArray} {m v : Nat} (hm : s.size ≤ m) (h : digB v = s) : numR s m = some v := by
  subst h
  obtain ⟨h1, h2, h3⟩ := dec_canon v v (Nat.le_refl _)
  rw [← digB_dec v v (Nat.le_refl _)] at h1 h2 h3
  unfold numR
  have hp := digB_pos v
  rw [if_neg, h2]
  rintro (h | h | ⟨h, h'⟩)
  · omega
  · omega
  · have h4 : (digB v).data.toList.length = 1 := h1.2 h
    have h5 : (digB v).data.toList.length = (digB v).size := rfl
    omega
theorem pow_bound : ∀ (l : List UInt8) (acc u : Nat), Lib.decFrom acc l = some u → u < (acc + 1) * 10 ^ l.length
  | [], acc, u, h => by obtain rfl : acc = u := by simpa [Lib.decFrom] using h
                        simp
  | c :: l, acc, u, h => by
    unfold Lib.decFrom at h
    cases hd : Lib.digitVal c with
    | none => rw [hd] at h; cases h
    | some d =>
      rw [hd] at h
      have h1 := pow_bound l (acc * 10 + d) u h
      have h2 := (digitVal_spec hd).1
      have h3 : (acc * 10 + d + 1) * 10 ^ l.length ≤ ((acc + 1) * 10) * 10 ^ l.length := Nat.mul_le_mul_right _ (by omega)
      rw [List.length_cons, Nat.pow_succ]
      calc u < (acc * 10 + d + 1) * 10 ^ l.length := h1
        _ ≤ ((acc + 1) * 10) * 10 ^ l.length := h3
        _ = (acc + 1) * (10 ^ l.length * 10) := by rw [Nat.mul_assoc, Nat.mul_comm 10]
theorem numR_lt {s : ByteArray} {m v : Nat} (h : numR s m = some v) (hm : m ≤ 9) : v < 1000000000 := by
  obtain ⟨h1, h2, h3, h4⟩ := numR_some h
  have h5 := pow_bound _ _ _ h3
  have h6 : s.data.toList.length ≤ 9 := by show s.size ≤ 9; omega
  have h7 : 10 ^ s.data.toList.length ≤ 10 ^ 9 := Nat.pow_le_pow_right (by decide) h6
  omega
theorem numR_atoi {s : ByteArray} {m v : Nat} (h : numR s m = some v) (hm : m ≤ 9) : Lib.atoiAll s.data.toList = .ok (v : Int) := by
  have hv := numR_lt h hm
  obtain ⟨h1, h2, h3, h4⟩ := numR_some h
  cases hs : s.data.toList with
  | nil => exact absurd hs h2.1
  | cons c r =>
    rw [hs] at h3
    have hp := parse_dec _ _ _ h3 (by omega)
    have hd : ∃ d, Lib.digitVal c = some d := by
      unfold Lib.decFrom at h3
      cases hd : Lib.digitVal c with
      | none => rw [hd] at h3; cases h3
      | some d => exact ⟨d, rfl⟩
    obtain ⟨d, hd⟩ := hd
    have hc : 48 ≤ c.toNat ∧ c.toNat ≤ 57 := by
      unfold Lib.digitVal at hd
      split at hd
      · assumption
      · cases hd
    unfold Lib.atoiAll
    have e1 : ¬ (c.toNat = 43 ∨ c.toNat = 45) := by omega
    have e2 : ¬ c.toNat = 45 := by omega
    simp only [if_neg e1]
    have e3 : Lib.parseMag (c :: r) = .ok v := by
      unfold Lib.parseMag
      rw [if_neg (by simp), hp]
    rw [e3]
    simp only [e2, not_false_eq_true, true_and, false_and, if_false]
    rw [if_neg (by omega)]
theorem numR_none {s : ByteArray} {m : Nat} {v : Int} (h : numR s m = none) (h0 : 0 ≤ v) (hm : s.size ≤ m) : (⟨(Lib.itoa v).toArray⟩ : ByteArray) ≠ s := by
  intro h1
  obtain ⟨n, rfl⟩ := Int.eq_ofNat_of_zero_le h0
  rw [digB_itoa] at h1
  rw [numR_of hm h1] at h
  cases h
end Go.Proofs.YtnphbkjkeipmmaaGreatDoor

/- Heads: what is signed, what is wrong with one: plain. -/
namespace Go.Proofs.YtnphbkjkeipmmaaGreatDoor
set_option linter.unusedVariables false

def sp : ByteArray := ⟨#[32]⟩
/-- four texts with blanks between -/
def four4 (a b c d : ByteArray) : ByteArray := a ++ sp ++ b ++ sp ++ c ++ sp ++ d
theorem four4_join (a b c d : ByteArray) : (⟨(Lib.join [a.data.toList, b.data.toList, c.data.toList, d.data.toList] sp.data.toList).toArray⟩ : ByteArray) = four4 a b c d := by
  apply ba_ext
  rw [Lib.join_cons]
  simp [Lib.joinTail, four4, sp]
theorem four4_size (a b c d : ByteArray) : (four4 a b c d).size = a.size + b.size + c.size + d.size + 3 := by
  unfold four4
  simp only [ByteArray.size_append]
  show a.size + 1 + b.size + 1 + c.size + 1 + d.size = _
  omega
def Hd.ok (h : Hd) : Bool := decide (0 ≤ h.size ∧ h.size ≤ 200 ∧ 0 ≤ h.time ∧ h.time ≤ 1000000) && (vld h.root && vld h.sign)
theorem Hd.ok_parts {h : Hd} (k : h.ok = true) : 0 ≤ h.size ∧ h.size ≤ 200 ∧ 0 ≤ h.time ∧ h.time ≤ 1000000 ∧ vld h.root = true ∧ vld h.sign = true := by
  simp [Hd.ok] at k
  exact ⟨k.1.1, k.1.2.1, k.1.2.2.1, k.1.2.2.2, k.2.1, k.2.2⟩
theorem Hd.ok_of {h : Hd} (a : 0 ≤ h.size ∧ h.size ≤ 200 ∧ 0 ≤ h.time ∧ h.time ≤ 1000000 ∧ vld h.root = true ∧ vld h.sign = true) : h.ok = true := by
  obtain ⟨a, b, c, d, e, f⟩ := a
  simp [Hd.ok, a, b, c, d, e, f]
theorem Hd.not_ok {h : Hd} (k : h.ok = false) : ¬ (0 ≤ h.size ∧ h.size ≤ 200 ∧ 0 ≤ h.time ∧ h.time ≤ 1000000 ∧ vld h.root = true ∧ vld h.sign = true) := by
  intro h; rw [Hd.ok_of h] at k; cases k
def hdK (h : Hd) : Int := if h.ok then 0 else 1
def keyI (k : Int) : Bool := decide (1 ≤ k ∧ k ≤ 1000000)
theorem keyI_true {k : Int} (h : keyI k = true) : 1 ≤ k ∧ k ≤ 1000000 := of_decide_eq_true h
theorem keyI_false {k : Int} (h : keyI k = false) : ¬ (1 ≤ k ∧ k ≤ 1000000) := of_decide_eq_false h
/-- what is signed -/
def signB (h : Hd) (key : Int) : ByteArray := four4 (digB h.size.toNat) (hexT h.root.toNat) (digB h.time.toNat) (digB key.toNat)
def signI (h : Hd) (key : Int) : Int := sumL (signB h key).data.toList
def headB (h : Hd) : ByteArray := four4 (digB h.size.toNat) (hexT h.root.toNat) (digB h.time.toNat) (hexT h.sign.toNat)
theorem signI_bd (h : Hd) (key : Int) : vld (signI h key) = true := by
  have := sumL_bd (signB h key).data.toList
  unfold signI
  simp [vld]; omega
theorem signB_sizes {h : Hd} {key : Int} (k : 0 ≤ h.size ∧ h.size ≤ 200 ∧ 0 ≤ h.time ∧ h.time ≤ 1000000) (hk : keyI key = true) : (digB h.size.toNat).size ≤ 7 ∧ (digB h.time.toNat).size ≤ 7 ∧ (digB key.toNat).size ≤ 7 := by
  obtain ⟨k1, k2⟩ := keyI_true hk
  refine ⟨digB_small 6 _ ?_, digB_small 6 _ ?_, digB_small 6 _ ?_⟩ <;> (show _ < 10000000; omega)
theorem hexT_size (n : Nat) : (hexT n).size = 8 := lowHex_size n 8
def blank (h : Hd) : Hd := ⟨h.size, h.root, h.time, 0⟩
/-- the fault of signing -/
def sgnK (h : Hd) (key : Int) : Int := if keyI key && (blank h).ok then 0 else 1
/-- what comes of signing -/
def sgnH (h : Hd) (key : Int) : Hd := if keyI key && (blank h).ok then ⟨h.size, h.root, h.time, signI h key⟩ else ⟨0, 0, 0, 0⟩
/-- the fault of a head that is looked at -/
def verK (h : Hd) (key : Int) : Int := if keyI key && h.ok then (if h.sign = signI h key then 0 else 9) else 1
theorem verK_zero {h : Hd} {key : Int} (k : verK h key = 0) : keyI key = true ∧ h.ok = true ∧ h.sign = signI h key := by
  unfold verK at k
  split at k
  · rename_i h1
    split at k
    · rename_i h2
      have := Bool.and_eq_true_iff.1 h1
      exact ⟨this.1, this.2, h2⟩
    · cases k
  · cases k
theorem signI_blank (h : Hd) (s key : Int) : signI ⟨h.size, h.root, h.time, s⟩ key = signI h key := rfl
theorem sgn_ver {h : Hd} {key : Int} (k : sgnK h key = 0) : verK (sgnH h key) key = 0 ∧ keyI key = true ∧ (blank h).ok = true ∧ sgnH h key = ⟨h.size, h.root, h.time, signI h key⟩ := by
  unfold sgnK at k
  split at k
  · rename_i h1
    have h2 := Bool.and_eq_true_iff.1 h1
    have e : sgnH h key = ⟨h.size, h.root, h.time, signI h key⟩ := if_pos h1
    have hok : (⟨h.size, h.root, h.time, signI h key⟩ : Hd).ok = true := by
      obtain ⟨a, b, c, d, e, f⟩ := Hd.ok_parts h2.2
      exact Hd.ok_of ⟨a, b, c, d, e, signI_bd h key⟩
    refine ⟨?_, h2.1, h2.2, e⟩
    rw [e]
    unfold verK
    rw [if_pos (by rw [h2.1, hok]; rfl)]
    exact if_pos rfl
  · cases k
end Go.Proofs.YtnphbkjkeipmmaaGreatDoor

namespace Go.Proofs.YtnphbkjkeipmmaaGreatDoor
open Go.RowKit
set_option linter.unusedVariables false


theorem conv4 (w : World) (g : Nat) (a b c d : Int) (hg : g = w.heap.size) : (convert 47 9 (.slice (some ⟨g, 0, none⟩) 4 4)).run Tryz.prog (w.alloc (.cells #[.int .u8 a, .int .u8 b, .int .u8 c, .int .u8 d] 5)) = .ok (.string ⟨#[byteOf a, byteOf b, byteOf c, byteOf d]⟩) (w.alloc (.cells #[.int .u8 a, .int .u8 b, .int .u8 c, .int .u8 d] 5)) :=
  run_conv_new w g hg 47 9 5 4 [a, b, c, d] Tryz.underlying47 Tryz.underlying5 Tryz.underlying9

set_option maxRecDepth 100000 in
theorem four_any (n : Int) (w : World) (h0 : 0 ≤ n) :
    Calls Tryz.prog 181 #[.int .i64 n] w fun e w' => e = .returned (.string ⟨(fourB n).toArray⟩) ∧ Ext w w' := by
  have hk := conv4
  go_enter Tryz.func181, Tryz.ntmps181
  go_wp2
  go_ret
  exact ⟨rfl, by (repeat (with_reducible first | exact Ext.refl _ | assumption | refine Ext.drew ?_ | refine Ext.drewN ?_ _ | refine Ext.alloc ?_ _ | refine Ext.trans ?_ (by with_reducible assumption)))⟩

set_option maxRecDepth 100000 in
theorem Leaf_any (s : ByteArray) (w : World) (hs : s.size ≤ 140737488355328) :
    Calls Tryz.prog 113 #[.string s] w fun e w' => e = .returned (.int .i64 (leafL s.data.toList)) ∧ Ext w w' := by
  go_enter Tryz.func113, Tryz.ntmps113
  go_wp2_with (go_at_call 122; refine (Sum_any _ _ (by first | omega | ((try simp only [size_cat]); (try simp only [size_mk]); (try simp only [List.length_append]); (try simp only [List.length_cons]); (try simp only [List.length_nil]); (try unfold maxLen); omega))).mono ?_; rintro e w1 ⟨rfl, hb1⟩)
  go_ret
  exact ⟨ret_int (by simp [leafL]), by (repeat (with_reducible first | exact Ext.refl _ | assumption | refine Ext.drew ?_ | refine Ext.drewN ?_ _ | refine Ext.alloc ?_ _ | refine Ext.trans ?_ (by with_reducible assumption)))⟩


set_option maxRecDepth 100000 in
theorem BytesOf_any (a b : Int) (w : World) (ha : 0 ≤ a) (hb : 0 ≤ b) :
    Calls Tryz.prog 164 #[.int .i64 a, .int .i64 b] w fun e w' => e = .returned (.string ⟨(nodeB a b).toArray⟩) ∧ Ext w w' := by
  go_enter Tryz.func164, Tryz.ntmps164
  go_wp2_with fail
  refine (four_any _ _ ha).mono ?_
  rintro e w1 ⟨rfl, hb1⟩
  have hl1 := size_mk (fourB a)
  have hl2 := size_mk (fourB b)
  rw [fourB_len] at hl1 hl2
  have HQ : Hid ((⟨#[1]⟩ : ByteArray) ++ ⟨(fourB a).toArray⟩ ++ ⟨(fourB b).toArray⟩ = ⟨(nodeB a b).toArray⟩) := by
    show _ = _
    rfl
  generalize (⟨(fourB a).toArray⟩ : ByteArray) = x at *
  go_wp2_with fail
  refine (four_any _ _ hb).mono ?_
  rintro e w2 ⟨rfl, hb2⟩
  generalize (⟨(fourB b).toArray⟩ : ByteArray) = y at *
  go_wp2_with fail
  go_ret
  exact ⟨ret_str HQ.out, by (repeat (with_reducible first | exact Ext.refl _ | assumption | refine Ext.drew ?_ | refine Ext.drewN ?_ _ | refine Ext.alloc ?_ _ | refine Ext.trans ?_ (by with_reducible assumption)))⟩

theorem NodeOf_any (a b : Int) (w : World) (ha : 0 ≤ a) (hb : 0 ≤ b) :
    Calls Tryz.prog 138 #[.int .i64 a, .int .i64 b] w fun e w' => e = .returned (.int .i64 (nodeL a b)) ∧ Ext w w' := by
  go_enter Tryz.func138, Tryz.ntmps138
  go_wp2_with fail
  refine (BytesOf_any _ _ _ ha hb).mono ?_
  rintro e w1 ⟨rfl, hb1⟩
  have hl := size_mk (nodeB a b)
  rw [nodeB_len] at hl
  have HN : Hid (sumL (⟨(nodeB a b).toArray⟩ : ByteArray).data.toList = nodeL a b) := rfl
  generalize (⟨(nodeB a b).toArray⟩ : ByteArray) = x at *
  go_wp2_with fail
  refine (Sum_any _ _ (by simp only [maxLen]; omega)).mono ?_
  rintro e w2 ⟨rfl, hb2⟩
  rw [HN.out]
  go_wp2_with fail
  go_ret
  exact ⟨rfl, by (repeat (with_reducible first | exact Ext.refl _ | assumption | refine Ext.drew ?_ | refine Ext.drewN ?_ _ | refine Ext.alloc ?_ _ | refine Ext.trans ?_ (by with_reducible assumption)))⟩
end Go.Proofs.YtnphbkjkeipmmaaGreatDoor
