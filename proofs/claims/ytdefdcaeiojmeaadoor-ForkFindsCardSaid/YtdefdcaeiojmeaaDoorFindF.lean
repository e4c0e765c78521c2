/- fork.Find, plain: the first two that split. -/
import Derived.Test.YtdefdcaeiojmeaaDoorForkC
import Derived.Test.YtdefdcaeiojmeaaDoorHds
import Derived.Test.YtdefdcaeiojmeaaDoorQuietT
namespace Go.Proofs.YtdefdcaeiojmeaaDoor
set_option linter.unusedVariables false

/-- the first head's fault -/
def verL (key : Int) : List Hd → Int
  | [] => 0
  | h :: l => if verK h key = 0 then verL key l else verK h key
theorem verL_ok {key : Int} {l : List Hd} (h : ∀ x ∈ l, verK x key = 0) : verL key l = 0 := by
  induction l with
  | nil => rfl
  | cons x l ih => rw [verL, if_pos (h x (by simp)), ih fun e he => h e (by simp [he])]
theorem verL_at {key : Int} {l : List Hd} {j : Nat} {x : Hd} (hx : l[j]? = some x) (hk : verK x key ≠ 0) (h : ∀ (i : Nat) (y : Hd), i < j → l[i]? = some y → verK y key = 0) : verL key l = verK x key := by
  induction l generalizing j with
  | nil => simp at hx
  | cons y l ih =>
    rcases j with _ | j
    · obtain rfl : y = x := by simpa using hx
      rw [verL, if_neg hk]
    · rw [verL, if_pos (h 0 y (by omega) rfl)]
      exact ih (by simpa using hx) fun i z hi hz => h (i + 1) z (by omega) (by simpa using hz)
/-- do the i-th and the k-th split? -/
def spAt (l : List Hd) (i k : Nat) : Bool := match l[i]?, l[k]? with
  | some a, some b => splB a b
  | _, _ => false
/-- the first i of n, from i on -/
def fI (l : List Hd) (k : Nat) : Nat → Nat → Option Nat
  | 0, i => none
  | n + 1, i => if spAt l i k then some i else fI l k n (i + 1)
/-- the first pair of n rows, from row k on -/
def fK (l : List Hd) : Nat → Nat → Option (Nat × Nat)
  | 0, k => none
  | n + 1, k => match fI l k k 0 with
    | some i => some (i, k)
    | none => fK l n (k + 1)
def pairV : Option (Nat × Nat) → Int × Int × Int
  | some (i, k) => (i, k, 0)
  | none => (0, 0, 5)
def findX (l : List Hd) (key : Int) (n : Nat) : Int × Int × Int :=
  if 20 < n then (0, 0, 4) else if verL key l ≠ 0 then (0, 0, verL key l) else pairV (fK l n 0)
def findV (l : List Hd) (key : Int) : Int × Int × Int := findX l key l.length
theorem fI_some {l : List Hd} {k : Nat} : ∀ {n i j : Nat}, i ≤ j → j < i + n → spAt l j k = true → (∀ m, i ≤ m → m < j → spAt l m k = false) → fI l k n i = some j
  | 0, i, j, h, h2, _, _ => by omega
  | n + 1, i, j, h, h2, h3, h4 => by
    by_cases he : i = j
    · subst he; rw [fI, if_pos h3]
    · rw [fI, if_neg (by rw [h4 i (Nat.le_refl _) (by omega)]; decide)]
      exact fI_some (by omega) (by omega) h3 fun m a b => h4 m (by omega) b
theorem fI_none {l : List Hd} {k : Nat} : ∀ {n i : Nat}, (∀ m, i ≤ m → m < i + n → spAt l m k = false) → fI l k n i = none
  | 0, i, _ => rfl
  | n + 1, i, h => by
    rw [fI, if_neg (by rw [h i (Nat.le_refl _) (by omega)]; decide)]
    exact fI_none fun m a b => h m (by omega) (by omega)
theorem fK_some {l : List Hd} {i : Nat} : ∀ {n k q : Nat}, k ≤ q → q < k + n → fI l q q 0 = some i → (∀ m, k ≤ m → m < q → fI l m m 0 = none) → fK l n k = some (i, q)
  | 0, k, q, h, h2, _, _ => by omega
  | n + 1, k, q, h, h2, h3, h4 => by
    by_cases he : k = q
    · subst he; simp [fK, h3]
    · rw [fK, h4 k (Nat.le_refl _) (by omega)]
      exact fK_some (by omega) (by omega) h3 fun m a b => h4 m (by omega) b
theorem fK_none {l : List Hd} : ∀ {n k : Nat}, (∀ m, k ≤ m → m < k + n → fI l m m 0 = none) → fK l n k = none
  | 0, k, _ => rfl
  | n + 1, k, h => by
    rw [fK, h k (Nat.le_refl _) (by omega)]
    exact fK_none fun m a b => h m (by omega) (by omega)
end Go.Proofs.YtdefdcaeiojmeaaDoor

/- fork.Find, walked. -/
namespace Go.Proofs.YtdefdcaeiojmeaaDoor
open Go.RowKit Go.WideShapes
set_option linter.unusedVariables false
attribute [local go_sem ↓] Go.wp_at_zero Go.wp_at_succ

theorem spAt_eq {l : List Hd} {i k : Nat} {a b : Hd} (h1 : l[i]? = some a) (h2 : l[k]? = some b) : spAt l i k = splB a b := by unfold spAt; rw [h1, h2]
/-- a cell of a row, in every world beyond -/
theorem WE.row {w : World} {p : Addr} {v : Value} (h : w.cell? p = some v) (hl : p.block < w.heap.size) (x : WE w) : x.W.cell? p = some v := (x.h.cell hl).trans h

set_option maxRecDepth 100000 in
set_option maxHeartbeats 2000000 in
theorem FFind_any (A : Option Addr) (n c : Nat) (l : List Hd) (key : Int) (w : World) (hD : DebG w) (hP : PowG w) (hr : Rd w 4 A n c (l.flatMap Hd.cells)) (hm : c ≤ maxLen) :
    Calls Tryd.prog 22 #[.slice A n c, .int .i64 key] w fun e w' => e = .returned (.tuple #[.int .i64 (findV l key).1, .int .i64 (findV l key).2.1, errR (findV l key).2.2]) ∧ Ext w w' := by
  obtain ⟨hE, hN, hG0⟩ := errR_rules
  have HV := Lib.hid fun h W (e : Ext w W) => Verify_any h key W (hD.ext e) (hP.ext e)
  have HS := Lib.hid split_any
  have HX := Lib.hid hr.lenH
  have hl := hr.2.1
  have HR := Lib.hid hr
  unfold maxLen at hm
  have HF : Hid (findV l key = if 20 < n then (0, 0, 4) else if verL key l ≠ 0 then (0, 0, verL key l) else pairV (fK l n 0)) := by rw [← HX.out]; exact rfl
  obtain ⟨fv, hfv⟩ : ∃ v, findV l key = v := ⟨_, rfl⟩
  rw [hfv] at HF
  rw [hfv]
  clear hfv hD hP hr
  by_cases hn : 20 < n
  · obtain rfl : fv = (0, 0, 4) := HF.out.trans (if_pos hn)
    go_enter Tryd.func22, Tryd.ntmps22
    go_wp2_with fail
    go_ret3
    exact ⟨rfl, by (repeat (with_reducible first | exact Ext.refl _ | assumption | refine Ext.drew ?_ | refine Ext.drewN ?_ _ | refine Ext.alloc ?_ _ | refine Ext.trans ?_ (by with_reducible assumption)))⟩
  have HF2 := Lib.hid (HF.out.trans (if_neg hn))
  clear HF
  go_enter Tryd.func22, Tryd.ntmps22
  go_wp2_with fail
  go_loopw [18] (fun x wr => ∃ j : Nat, x = .int .i64 j ∧ j ≤ n ∧ Ext w wr ∧ Hid (∀ (i : Nat) (y : Hd), i < j → l[i]? = some y → verK y key = 0)) (fun x _ => n - (intOf x).toNat)
  case atStart => exact ⟨0, rfl, Nat.zero_le _, by (repeat (with_reducible first | exact Ext.refl _ | assumption | refine Ext.drew ?_ | refine Ext.drewN ?_ _ | refine Ext.alloc ?_ _ | refine Ext.trans ?_ (by with_reducible assumption))), Lib.hid fun i y h => absurd h (by omega)⟩
  case round =>
    obtain ⟨j, rfl, hj, hbw, HO⟩ := hrel
    by_cases hc : j < n
    · have hgj := List.getElem?_eq_getElem (l := l) (i := j) (by rw [HX.out]; exact hc)
      obtain ⟨ad, rfl, hb, c0, c1, c2, c3⟩ := (HR.out.ext hbw).getH hgj
      generalize l[j]'(by rw [HX.out]; exact hc) = x at *
      have HG := Lib.hid hgj
      have HK : Hid (verK x key ≠ 0 → verL key l = verK x key) := Lib.hid fun h => verL_at HG.out h fun i y hi hy => HO.out i y hi hy
      have HVx := Lib.hid fun W (e : Ext w W) => HV.out x W e
      obtain ⟨vk, hvk⟩ : ∃ v, verK x key = v := ⟨_, rfl⟩
      have HVK := Lib.hid hvk
      rw [hvk] at HK HVx
      clear hgj hvk
      obtain ⟨x0, x1, x2, x3⟩ := x
      simp only [Hd.val] at c0 c1 c2 c3 HVx
      have hbk : ad.block < wr.heap.size := hb
      go_wp2_with fail
      refine (HVx.out _ (by (repeat (with_reducible first | exact Ext.refl _ | assumption | refine Ext.drew ?_ | refine Ext.drewN ?_ _ | refine Ext.alloc ?_ _ | refine Ext.trans ?_ (by with_reducible assumption))))).mono ?_
      rintro _ w1 ⟨rfl, hb1⟩
      have e1 : Ext w w1 := Ext.trans (by (repeat (with_reducible first | exact Ext.refl _ | assumption | refine Ext.drew ?_ | refine Ext.drewN ?_ _ | refine Ext.alloc ?_ _ | refine Ext.trans ?_ (by with_reducible assumption)))) hb1
      by_cases hv : vk = 0
      · subst hv
        rw [errR_0]
        go_wp2_with fail
        go_roundw
        case rel => exact ⟨j + 1, by go_num, by omega, e1, Lib.hid fun i y hi hy => by
          by_cases hij : i = j
          · subst hij
            have h1 := HG.out
            rw [hy] at h1
            injection h1 with h1
            rw [h1]
            exact HVK.out
          · exact HO.out i y (by omega) hy⟩
        case measure => simp [intOf]; omega
      · have hvl := HK.out hv
        obtain rfl : fv = (0, 0, vk) := by
          have := HF2.out
          rw [hvl, if_pos hv] at this
          exact this
        have hok := isOk_no hv
        clear hv hvl HF2 HK HVx HVK
        go_wp2_with fail
        go_ret3
        exact ⟨rfl, e1⟩
    · obtain rfl : j = n := by omega
      have HF3 : Hid (fv = pairV (fK l j 0)) := Lib.hid (HF2.out.trans (if_neg (not_not_intro (verL_ok fun x hx => by
        obtain ⟨i, hi, hxi⟩ := List.getElem_of_mem hx
        exact HO.out i x (by rw [HX.out] at hi; exact hi) (by rw [List.getElem?_eq_getElem hi, hxi])))))
      clear HF2 HO HV
      go_wp2_with fail
      go_loopw [31] (fun x wr => ∃ k : Nat, x = .int .i64 k ∧ k ≤ j ∧ Ext w wr ∧ Hid (∀ m, m < k → fI l m m 0 = none)) (fun x _ => j - (intOf x).toNat)
      case atStart => exact ⟨0, rfl, Nat.zero_le _, by (repeat (with_reducible first | exact Ext.refl _ | assumption | refine Ext.drew ?_ | refine Ext.drewN ?_ _ | refine Ext.alloc ?_ _ | refine Ext.trans ?_ (by with_reducible assumption))), Lib.hid fun m h => absurd h (by omega)⟩
      case round =>
        obtain ⟨k, rfl, hk, hbw2, HN⟩ := hrel
        by_cases hc2 : k < j
        · go_wp2_with fail
          go_loopw [35] (fun x wr => ∃ i : Nat, x = .int .i64 i ∧ i ≤ k ∧ Ext w wr ∧ Hid (∀ m, m < i → spAt l m k = false)) (fun x _ => k - (intOf x).toNat)
          case atStart => exact ⟨0, rfl, Nat.zero_le _, by (repeat (with_reducible first | exact Ext.refl _ | assumption | refine Ext.drew ?_ | refine Ext.drewN ?_ _ | refine Ext.alloc ?_ _ | refine Ext.trans ?_ (by with_reducible assumption))), Lib.hid fun m h => absurd h (by omega)⟩
          case round =>
            obtain ⟨i, rfl, hi, hbw3, HM⟩ := hrel
            by_cases hc3 : i < k
            · have hgi := List.getElem?_eq_getElem (l := l) (i := i) (by rw [HX.out]; omega)
              have hgk := List.getElem?_eq_getElem (l := l) (i := k) (by rw [HX.out]; omega)
              obtain ⟨ad, rfl, hb, c0, c1, c2, c3⟩ := (HR.out.ext hbw3).getH hgi
              obtain ⟨ad', e', hb', d0, d1, d2, d3⟩ := (HR.out.ext hbw3).getH hgk
              obtain rfl : ad = ad' := by injection e'
              generalize l[i]'(by rw [HX.out]; omega) = x at *
              generalize l[k]'(by rw [HX.out]; omega) = y at *
              have HSP := Lib.hid (spAt_eq hgi hgk)
              have HSxy := Lib.hid fun W => HS.out x y W
              obtain ⟨sb, hsb⟩ : ∃ b, splB x y = b := ⟨_, rfl⟩
              rw [hsb] at HSP HSxy
              clear hgi hgk hsb e'
              obtain ⟨x0, x1, x2, x3⟩ := x
              obtain ⟨y0, y1, y2, y3⟩ := y
              simp only [Hd.val] at c0 c1 c2 c3 d0 d1 d2 d3 HSxy
              have hbi : (ad.add (i * 4)).block < wr.heap.size := by rw [blk_add]; exact hb
              have hbk : (ad.add (k * 4)).block < wr.heap.size := by rw [blk_add]; exact hb
              have f0 := WE.row c0 hbi
              have f1 := WE.row c1 hbi
              have f2 := WE.row c2 hbi
              have f3 := WE.row c3 hbi
              have g0 := WE.row d0 hbk
              have g1 := WE.row d1 hbk
              have g2 := WE.row d2 hbk
              have g3 := WE.row d3 hbk
              clear c0 c1 c2 c3 d0 d1 d2 d3
              go_upto_region 16 with (fail)
              (refine wp_region_ext (w0 := wr) (by kernel_rfl) (by kernel_rfl) (by (repeat (with_reducible first | exact Ext.refl _ | assumption | refine Ext.drew ?_ | refine Ext.drewN ?_ _ | refine Ext.alloc ?_ _ | refine Ext.trans ?_ (by with_reducible assumption)))) ?_; (repeat (go_big_quiet_step ((go_at_call 43; exact quietE (HSxy.out _))))); refine wpQuiet_nil ?_)
              intro w3 hb3
              clear f0 f1 f2 f3 g0 g1 g2 g3
              have e3 := hbw3.trans hb3
              cases sb with
              | true =>
                obtain rfl : fv = ((i : Int), (k : Int), 0) := by
                  rw [HF3.out, fK_some (i := i) (q := k) (by omega) (by omega) (fI_some (by omega) (by omega) HSP.out fun m _ hm => HM.out m hm) fun m _ hm => HN.out m hm]
                  rfl
                clear HF3 HSP HM HN
                go_wp2_with fail
                go_ret3
                exact ⟨rfl, e3⟩
              | false =>
                go_wp2_with fail
                go_roundw
                case rel => exact ⟨i + 1, by go_num, by omega, e3, Lib.hid fun m hm => by
                  by_cases e : m = i
                  · subst e; exact HSP.out
                  · exact HM.out m (by omega)⟩
                case measure => simp [intOf]; omega
            · obtain rfl : i = k := by omega
              go_wp2_with fail
              go_roundw
              case rel => exact ⟨i + 1, by go_num, by omega, hbw3, Lib.hid fun m hm => by
                by_cases e : m = i
                · subst e; exact fI_none fun q _ hq => HM.out q (by omega)
                · exact HN.out m (by omega)⟩
              case measure => simp [intOf]; omega
        · obtain rfl : k = j := by omega
          obtain rfl : fv = (0, 0, 5) := by
            rw [HF3.out, fK_none fun m _ hm => HN.out m (by omega)]
            rfl
          clear HF3 HN
          go_wp2_with fail
          go_ret3
          exact ⟨rfl, hbw2⟩
end Go.Proofs.YtdefdcaeiojmeaaDoor
