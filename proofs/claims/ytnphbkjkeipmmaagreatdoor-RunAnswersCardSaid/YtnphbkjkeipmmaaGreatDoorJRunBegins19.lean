/- What is kept, plain: texts with their length ahead, records, what is read of them. -/
import Derived.Test.YtnphbkjkeipmmaaGreatDoorJRunBegins12
import Derived.Lib.IndexMore
import Derived.Test.YtnphbkjkeipmmaaGreatDoorJRunBegins1
import Derived.Test.YtnphbkjkeipmmaaGreatDoorJRunBegins4
import Derived.Test.YtnphbkjkeipmmaaGreatDoorJRunBegins5
import Derived.Deep.LoopGhost
import Derived.Deep.RegionHeld3
import Derived.Deep.DrawnRows
import Derived.Test.YtnphbkjkeipmmaaGreatDoorJRunBegins0
import Derived.Lib.SlicesS
import Derived.BigRegion
import Derived.Handy
import Derived.Deep.OwnRows
import Derived.Test.YtnphbkjkeipmmaaGreatDoorJRunBegins3
namespace Go.Proofs.YtnphbkjkeipmmaaGreatDoor
set_option linter.unusedVariables false

/-! ### a text cut at the first ':' -/
theorem cut_hit (c : UInt8) : ∀ (d t : List UInt8), (∀ b ∈ d, b ≠ c) → Lib.index (d ++ c :: t) [c] = d.length
  | [], t, _ => index_hit c t
  | b :: d, t, h => by
    have ih := cut_hit c d t (fun x hx => h x (List.mem_cons_of_mem _ hx))
    rw [List.cons_append, index_miss (h b (List.mem_cons_self ..)), ih]
    rw [if_neg (by simp)]
    simp
theorem cut_none (c : UInt8) : ∀ (d : List UInt8), (∀ b ∈ d, b ≠ c) → Lib.index d [c] = -1
  | [], _ => rfl
  | b :: d, h => by
    have ih := cut_none c d (fun x hx => h x (List.mem_cons_of_mem _ hx))
    rw [index_miss (h b (List.mem_cons_self ..)), ih]
    rfl
theorem cutAt {c : UInt8} {d t : List UInt8} (h : ∀ b ∈ d, b ≠ c) : Lib.cut (d ++ c :: t) [c] = (d, t, true) := by
  unfold Lib.cut
  rw [cut_hit c d t h, if_pos (by omega)]
  simp
theorem cutNo {c : UInt8} {d : List UInt8} (h : ∀ b ∈ d, b ≠ c) : Lib.cut d [c] = (d, [], false) := by
  unfold Lib.cut
  rw [cut_none c d h, if_neg (by decide)]
/-- a text is cut in one of two ways -/
theorem cut_ways (c : UInt8) : ∀ (s : List UInt8), (∀ b ∈ s, b ≠ c) ∨ ∃ d t, s = d ++ c :: t ∧ ∀ b ∈ d, b ≠ c
  | [] => .inl (by simp)
  | b :: s => by
    by_cases hb : b = c
    · subst hb; exact .inr ⟨[], s, rfl, by simp⟩
    · rcases cut_ways c s with h | ⟨d, t, rfl, h⟩
      · refine .inl fun x hx => ?_
        rcases List.mem_cons.1 hx with rfl | hx
        · exact hb
        · exact h x hx
      · refine .inr ⟨b :: d, t, rfl, fun x hx => ?_⟩
        rcases List.mem_cons.1 hx with rfl | hx
        · exact hb
        · exact h x hx

/-! ### decimals -/
theorem dec_free (N : Nat) : ∀ n, n ≤ N → ∀ b ∈ Lib.decDigits n, b ≠ 58 := by
  induction N with
  | zero =>
    intro n hn b hb
    obtain rfl : n = 0 := by omega
    rw [Lib.decDigits, dif_pos (by omega)] at hb
    simp at hb; subst hb; decide
  | succ N ih =>
    intro n hn b hb
    have hd : ∀ d, d < 10 → UInt8.ofNat (48 + d) ≠ 58 := by decide +kernel
    rw [Lib.decDigits] at hb
    by_cases h : n < 10
    · rw [dif_pos h] at hb
      rw [List.mem_singleton] at hb; subst hb; exact hd n h
    · rw [dif_neg h, List.mem_append] at hb
      rcases hb with hb | hb
      · exact ih (n / 10) (by omega) b hb
      · rw [List.mem_singleton] at hb; subst hb; exact hd _ (Nat.mod_lt _ (by omega))
theorem dec_len {n : Nat} (h : n < 1000000000) : (Lib.decDigits n).length ≤ 9 := by
  rw [← digB_dec n n (Nat.le_refl _)]
  exact digB_small 8 n (by omega)
theorem atoi_dec {n : Nat} (h : n < 1000000000) : Lib.atoiAll (Lib.decDigits n) = .ok (n : Int) := by
  have hs : (digB n).size ≤ 9 := digB_small 8 n (by omega)
  have h1 := numR_atoi (numR_of (s := digB n) (m := 9) (v := n) hs rfl) (by omega)
  rwa [digB_dec n n (Nat.le_refl _)] at h1

/-! ### pieces -/
def pieceL (s : List UInt8) : List UInt8 := Lib.decDigits s.length ++ 58 :: s
/-- a piece cut off: the piece, and what is behind it -/
def cutL (s : List UInt8) : Option (List UInt8 × List UInt8) :=
  match Lib.atoiAll (Lib.cut s [58]).1 with
  | .ok n => if (Lib.cut s [58]).2.2 = true ∧ 0 ≤ n ∧ n ≤ ((Lib.cut s [58]).2.1.length : Int) then some ((Lib.cut s [58]).2.1.take n.toNat, (Lib.cut s [58]).2.1.drop n.toNat) else none
  | _ => none
theorem cutL_at {d t : List UInt8} (h : ∀ b ∈ d, b ≠ 58) : cutL (d ++ 58 :: t) = match Lib.atoiAll d with
    | .ok n => if 0 ≤ n ∧ n ≤ (t.length : Int) then some (t.take n.toNat, t.drop n.toNat) else none
    | _ => none := by
  unfold cutL
  rw [cutAt h]
  cases Lib.atoiAll d <;> simp
theorem cutL_no {d : List UInt8} (h : ∀ b ∈ d, b ≠ 58) : cutL d = none := by
  unfold cutL
  rw [cutNo h]
  cases Lib.atoiAll d <;> simp
theorem cut_piece {s r : List UInt8} (h : s.length < 1000000000) : cutL (pieceL s ++ r) = some (s, r) := by
  unfold pieceL
  rw [List.append_assoc, List.cons_append, cutL_at (dec_free _ _ (Nat.le_refl _)), atoi_dec h]
  have h1 : (0 : Int) ≤ (s.length : Int) ∧ (s.length : Int) ≤ ((s ++ r).length : Int) := by rw [List.length_append]; omega
  show (if (0 : Int) ≤ (s.length : Int) ∧ (s.length : Int) ≤ ((s ++ r).length : Int) then _ else _) = _
  rw [if_pos h1, Int.toNat_natCast, List.take_left, List.drop_left]
/-- what is shorter is none -/
theorem cut_less {s t r : List UInt8} (h : s.length < 1000000000) (ht : pieceL s = t ++ r) (hr : r ≠ []) : cutL t = none := by
  rcases cut_ways 58 t with hn | ⟨d, u, rfl, hd⟩
  · exact cutL_no hn
  · unfold pieceL at ht
    rw [List.append_assoc, List.cons_append] at ht
    have h1 := cutAt (c := 58) (t := s) (dec_free _ _ (Nat.le_refl s.length))
    have h2 := cutAt (c := 58) (t := u ++ r) hd
    rw [ht] at h1
    rw [h1] at h2
    injection h2 with e1 e2
    injection e2 with e2 _
    rw [cutL_at hd, ← e1, atoi_dec h]
    have hp : 0 < r.length := List.length_pos_iff.2 hr
    show (if (0 : Int) ≤ (s.length : Int) ∧ (s.length : Int) ≤ (u.length : Int) then _ else none) = none
    rw [if_neg]
    rw [e2, List.length_append]
    omega
theorem cutL_len {s a b : List UInt8} (h : cutL s = some (a, b)) : a.length + b.length < s.length := by
  rcases cut_ways 58 s with hn | ⟨d, u, rfl, hd⟩
  · rw [cutL_no hn] at h; cases h
  · rw [cutL_at hd] at h
    split at h
    · split at h
      · rename_i n _ hn
        injection h with h
        injection h with h1 h2
        subst h1 h2
        rw [List.length_append, List.length_cons, List.length_take, List.length_drop]
        omega
      · cases h
    · cases h
theorem piece_len (s : List UInt8) : (pieceL s).length = (Lib.decDigits s.length).length + 1 + s.length := by
  unfold pieceL
  rw [List.length_append, List.length_cons]
  omega
theorem piece_le {s : List UInt8} (h : s.length < 1000000000) : (pieceL s).length ≤ s.length + 10 := by
  rw [piece_len]
  have := dec_len h
  omega
theorem dec_pos (n : Nat) : 1 ≤ (Lib.decDigits n).length := by
  rw [← digB_dec n n (Nat.le_refl _)]
  exact digB_pos n
theorem piece_ge (s : List UInt8) : s.length + 2 ≤ (pieceL s).length := by
  rw [piece_len]
  have := dec_pos s.length
  omega

/-! ### records -/
def pairL (p : Pr) : List UInt8 := pieceL (signC p :: p.key.data.toList) ++ pieceL p.value.data.toList
  where signC (p : Pr) : UInt8 := if p.gone = true then 45 else 43
def pairsL (b : List Pr) : List UInt8 := b.flatMap pairL
def recL (b : List Pr) : List UInt8 := pieceL (pairsL b)
/-- the pairs that a text tells -/
def readL : Nat → List UInt8 → Option (List Pr)
  | 0, _ => none
  | f + 1, x => if x = [] then some [] else match cutL x with
    | none => none
    | some (key, more) => match cutL more with
      | none => none
      | some (value, left) => match key with
        | [] => none
        | c :: k => (readL f left).map fun l => ⟨⟨k.toArray⟩, ⟨value.toArray⟩, decide (c = 45)⟩ :: l
def nextL (s : List UInt8) : Option (List Pr × List UInt8) := match cutL s with
  | none => none
  | some (x, rest) => (readL (x.length + 1) x).map fun l => (l, rest)
/-- pairs that are small -/
def smallP (p : Pr) : Prop := p.key.size ≤ 1000 ∧ p.value.size ≤ 1000
theorem pair_eta (p : Pr) : (⟨⟨p.key.data.toList.toArray⟩, ⟨p.value.data.toList.toArray⟩, decide (pairL.signC p = 45)⟩ : Pr) = p := by
  obtain ⟨k, v, g⟩ := p
  cases g <;> simp [pairL.signC]
theorem pair_len {p : Pr} (h : smallP p) : (pairL p).length ≤ 2030 ∧ 4 ≤ (pairL p).length := by
  obtain ⟨h1, h2⟩ := h
  have e1 : p.key.data.toList.length = p.key.size := rfl
  have e2 : p.value.data.toList.length = p.value.size := rfl
  unfold pairL
  rw [List.length_append]
  have a1 := piece_le (s := pairL.signC p :: p.key.data.toList) (by simp; omega)
  have a2 := piece_le (s := p.value.data.toList) (by omega)
  have b1 := piece_ge (pairL.signC p :: p.key.data.toList)
  have b2 := piece_ge p.value.data.toList
  rw [List.length_cons] at a1 b1
  omega
theorem pairs_len : ∀ {b : List Pr}, (∀ p ∈ b, smallP p) → (pairsL b).length ≤ b.length * 2030
  | [], _ => by simp [pairsL]
  | p :: b, h => by
    have ih := pairs_len (b := b) fun q hq => h q (List.mem_cons_of_mem _ hq)
    have hp := pair_len (h p (List.mem_cons_self ..))
    show (pairL p ++ pairsL b).length ≤ _
    rw [List.length_append, List.length_cons, Nat.add_mul]
    omega
theorem read_pairs : ∀ {b : List Pr} (f : Nat), (∀ p ∈ b, smallP p) → b.length < f → readL f (pairsL b) = some b
  | [], f + 1, _, _ => rfl
  | p :: b, f + 1, h, hf => by
    obtain ⟨h1, h2⟩ := h p (List.mem_cons_self ..)
    have e1 : p.key.data.toList.length = p.key.size := rfl
    have e2 : p.value.data.toList.length = p.value.size := rfl
    have ih := read_pairs (b := b) f (fun q hq => h q (List.mem_cons_of_mem _ hq)) (by simp at hf; omega)
    have hne : pairsL (p :: b) ≠ [] := by
      intro e
      have := (pair_len (h p (List.mem_cons_self ..))).2
      have e3 : (pairL p ++ pairsL b).length = 0 := by rw [show pairL p ++ pairsL b = [] from e]; rfl
      rw [List.length_append] at e3
      omega
    have hc : cutL (pairsL (p :: b)) = some (pairL.signC p :: p.key.data.toList, pieceL p.value.data.toList ++ pairsL b) := by
      show cutL ((pieceL _ ++ pieceL _) ++ pairsL b) = _
      rw [List.append_assoc]
      exact cut_piece (by simp; omega)
    have hc2 : cutL (pieceL p.value.data.toList ++ pairsL b) = some (p.value.data.toList, pairsL b) := cut_piece (by omega)
    rw [readL, if_neg hne, hc]
    show (match cutL (pieceL p.value.data.toList ++ pairsL b) with | none => none | some (value, left) => _) = _
    rw [hc2]
    show (readL f (pairsL b)).map _ = _
    rw [ih]
    show some (_ :: b) = some (p :: b)
    rw [pair_eta]
  | [], 0, _, h => absurd h (by simp)
  | p :: b, 0, _, h => absurd h (by simp)
theorem pairs_ge : ∀ {b : List Pr}, (∀ p ∈ b, smallP p) → b.length ≤ (pairsL b).length
  | [], _ => by simp
  | p :: b, h => by
    have ih := pairs_ge (b := b) fun q hq => h q (List.mem_cons_of_mem _ hq)
    have hp := (pair_len (h p (List.mem_cons_self ..))).2
    show _ ≤ (pairL p ++ pairsL b).length
    rw [List.length_append, List.length_cons]
    omega
theorem next_rec {b : List Pr} (h : ∀ p ∈ b, smallP p) (hl : b.length ≤ 20) (r : List UInt8) : nextL (recL b ++ r) = some (b, r) := by
  have h1 := pairs_len h
  unfold nextL recL
  rw [cut_piece (by omega)]
  show (readL ((pairsL b).length + 1) (pairsL b)).map _ = _
  rw [read_pairs _ h (by have := pairs_ge h; omega)]
  rfl
theorem next_less {b : List Pr} (h : ∀ p ∈ b, smallP p) (hl : b.length ≤ 20) {t r : List UInt8} (ht : recL b = t ++ r) (hr : r ≠ []) : nextL t = none := by
  have h1 := pairs_len h
  unfold nextL
  rw [cut_less (s := pairsL b) (by omega) ht hr]
theorem next_nil : nextL [] = none := by
  unfold nextL
  rw [cutL_no (by simp)]
theorem rec_ge (b : List Pr) : 2 ≤ (recL b).length := by
  have := piece_ge (pairsL b)
  show 2 ≤ (pieceL (pairsL b)).length
  omega
theorem rec_le {b : List Pr} (h : ∀ p ∈ b, smallP p) (hl : b.length ≤ 20) : (recL b).length ≤ 40700 := by
  have h1 := pairs_len h
  have h2 := piece_le (s := pairsL b) (by omega)
  show (pieceL (pairsL b)).length ≤ _
  omega
end Go.Proofs.YtnphbkjkeipmmaaGreatDoor

/- Pairs: what they are, and store.Key. -/
namespace Go.Proofs.YtnphbkjkeipmmaaGreatDoor
open Go.RowKit
set_option linter.unusedVariables false
attribute [local go_sem ↓] Go.wp_at_zero Go.wp_at_succ

theorem flat_nthP {α : Type} {f : α → List Value} {k : Nat} (hf : ∀ x, (f x).length = k) : ∀ (l : List α) (j : Nat) (x : α) (i : Nat), l[j]? = some x → i < k → (l.flatMap f)[j * k + i]? = (f x)[i]?
  | [], j, x, i, h, _ => by simp at h
  | y :: l, 0, x, i, h, hi => by
    obtain rfl : y = x := by simpa using h
    rw [List.flatMap_cons, Nat.zero_mul, Nat.zero_add, List.getElem?_append_left (by rw [hf]; exact hi)]
  | y :: l, j + 1, x, i, h, hi => by
    rw [List.flatMap_cons, List.getElem?_append_right (by rw [hf, Nat.succ_mul]; omega), hf, show (j + 1) * k + i - k = j * k + i by rw [Nat.succ_mul]; omega]
    exact flat_nthP hf l j x i (by simpa using h) hi
theorem Rd.getP {w : World} {A : Option Addr} {n c : Nat} {es : List Pr} (h : Rd w 3 A n c (es.flatMap Pr.cells)) {j : Nat} {e : Pr} (he : es[j]? = some e) :
    ∃ ad, A = some ad ∧ ad.block < w.heap.size ∧ w.cell? (ad.add (j * 3)) = some (.string e.key) ∧ w.cell? ⟨(ad.add (j * 3)).block, (ad.add (j * 3)).off + 1, none⟩ = some (.string e.value) ∧ w.cell? ⟨(ad.add (j * 3)).block, (ad.add (j * 3)).off + 2, none⟩ = some (.bool e.gone) := by
  have h0 := flat_nthP (f := Pr.cells) (k := 3) (fun _ => rfl) es j e 0 he (by omega)
  have h1 := flat_nthP (f := Pr.cells) (k := 3) (fun _ => rfl) es j e 1 he (by omega)
  have h2 := flat_nthP (f := Pr.cells) (k := 3) (fun _ => rfl) es j e 2 he (by omega)
  obtain ⟨ad, e1, hb, hc0⟩ := h.at_ h0
  obtain ⟨ad', e2, _, hc1⟩ := h.at_ h1
  obtain ⟨ad'', e3, _, hc2⟩ := h.at_ h2
  rw [e1] at e2 e3
  obtain rfl : ad = ad' := by injection e2
  obtain rfl : ad = ad'' := by injection e3
  rw [← add_add'] at hc1 hc2
  exact ⟨ad, e1, hb, hc0, hc1, hc2⟩
theorem Rd.lenP {w : World} {A : Option Addr} {n c : Nat} {es : List Pr} (h : Rd w 3 A n c (es.flatMap Pr.cells)) : es.length = n := by
  have := h.1
  rw [flat_len Pr.cells 3 (fun _ => rfl)] at this
  omega
theorem ba_extP {a b : ByteArray} (h : a.data.toList = b.data.toList) : a = b := by
  cases a; cases b
  congr 1
  exact Array.toList_inj.1 h
theorem str_someP {s : ByteArray} (h : 0 < s.size) : s.toList.isEmpty = false ∧ ¬ s.toList = [] := by
  have : ¬ s.toList = [] := by
    rw [Lib.toList_data]
    intro h'
    have h4 : s.data.toList.length = s.size := rfl
    rw [← h4, h'] at h
    exact absurd h (by simp)
  refine ⟨?_, this⟩
  cases hs : s.toList with
  | nil => exact absurd hs this
  | cons a l => rfl
theorem str_noneP {s : ByteArray} (h : s.size = 0) : s = ⟨#[]⟩ := ba_extP (List.eq_nil_of_length_eq_zero (show s.data.toList.length = 0 from h))

/-- what is wrong with a key -/
def keyK (s : ByteArray) : Int := if s.size = 0 then 2 else if 200 < s.size then 4 else 0
theorem keyK_none {s : ByteArray} (h : s.size = 0) : keyK s = 2 := if_pos h
theorem keyK_long {s : ByteArray} (h : 200 < s.size) : keyK s = 4 := by unfold keyK; rw [if_neg (by omega), if_pos h]
theorem keyK_ok {s : ByteArray} (h : 0 < s.size) (h2 : s.size ≤ 200) : keyK s = 0 := by unfold keyK; rw [if_neg (by omega), if_neg (by omega)]
theorem keyK_zero {s : ByteArray} : keyK s = 0 ↔ 0 < s.size ∧ s.size ≤ 200 := by
  constructor
  · intro h
    unfold keyK at h
    split at h
    · cases h
    · split at h
      · cases h
      · omega
  · rintro ⟨h, h2⟩
    exact keyK_ok h h2
set_option maxRecDepth 100000 in
theorem Key_any (s : ByteArray) (w : World) :
    Calls Tryz.prog 90 #[.string s] w fun e w' => e = .returned (errR (keyK s)) ∧ w = w' := by
  have hh : s.size = 0 ∨ (0 < s.size ∧ 200 < s.size) ∨ (0 < s.size ∧ s.size ≤ 200) := by omega
  rcases hh with h | ⟨h, h2⟩ | ⟨h, h2⟩
  · obtain rfl := str_noneP h
    go_enter Tryz.func90, Tryz.ntmps90
    go_wp2_with fail
    go_ret
    exact ⟨rfl, rfl⟩
  · obtain ⟨q1, q2⟩ := str_someP h
    have HK := Lib.hid (keyK_long h2)
    go_enter Tryz.func90, Tryz.ntmps90
    go_wp2_with fail
    go_ret
    exact ⟨by rw [HK.out]; rfl, rfl⟩
  · obtain ⟨q1, q2⟩ := str_someP h
    have HK := Lib.hid (keyK_ok h h2)
    go_enter Tryz.func90, Tryz.ntmps90
    go_wp2_with fail
    go_ret
    exact ⟨by rw [HK.out]; rfl, rfl⟩
end Go.Proofs.YtnphbkjkeipmmaaGreatDoor

/- Keys: the place of a key, its bits, its leaf. -/
namespace Go.Proofs.YtnphbkjkeipmmaaGreatDoor
open Go.RowKit
set_option linter.unusedVariables false
attribute [local go_sem ↓] Go.wp_at_zero Go.wp_at_succ

/-- where a key stands -/
def plcN (s : ByteArray) : Nat := (sumL s.data.toList % 256).toNat
theorem plcN_lt (s : ByteArray) : plcN s < 256 := by unfold plcN; omega
theorem plcN_eq (s : ByteArray) : sumL s.data.toList % 256 = (plcN s : Int) := by unfold plcN; omega
set_option maxRecDepth 100000 in
theorem place_any (s : ByteArray) (w : World) (hs : s.size ≤ maxLen) :
    Calls Tryz.prog 91 #[.string s] w fun e w' => e = .returned (.int .i64 (plcN s : Nat)) ∧ Ext w w' := by
  have HP := Lib.hid (plcN_eq s)
  have hb := sumL_bd s.data.toList
  obtain ⟨x, hx⟩ : ∃ x, sumL s.data.toList = x := ⟨_, rfl⟩
  rw [hx] at hb HP
  go_enter Tryz.func91, Tryz.ntmps91
  go_wp2_with fail
  refine (Sum_any s _ hs).mono ?_
  rw [hx]
  rintro _ w1 ⟨rfl, hb1⟩
  go_wp2_with fail
  go_ret
  exact ⟨ret_int HP.out, hb1⟩
/-- a leaf -/
def kleafB (k v : ByteArray) : ByteArray := k ++ ⟨#[0]⟩ ++ v
def kleaf (k v : ByteArray) : Int := leafL (kleafB k v).data.toList
/-- its bits as text -/
def bitB (p i : Nat) : UInt8 := if p / 2 ^ (7 - i) % 2 = 1 then 49 else 48
def bitsL (p : Nat) : List UInt8 := (List.range 8).map (bitB p)
def bitsS (p : Nat) : ByteArray := ⟨(bitsL p).toArray⟩
theorem and_one (n : Nat) (h : n < 9223372036854775808) : bits .and .i64 (n : Int) 1 = ((n % 2 : Nat) : Int) := by
  show IntKind.i64.wrap ((BitVec.ofInt 64 (n : Int) &&& BitVec.ofInt 64 1).toNat : Int) = _
  rw [BitVec.toNat_and, show (BitVec.ofInt 64 1).toNat = 1 from rfl, Nat.and_one_is_mod, BitVec.toNat_ofInt, show ((n : Int) % ((2 ^ 64 : Nat) : Int)).toNat = n by omega]
  exact IntWalk.i64_in _ (by omega)
theorem bitV (p j : Nat) (hp : p < 256) : (48 + bits .and .i64 ((p : Int) / 2 ^ (7 - j)) 1) % 256 = ((bitB p j).toNat : Int) := by
  have h1 : (p : Int) / 2 ^ (7 - j) = ((p / 2 ^ (7 - j) : Nat) : Int) := by simp
  have h2 : p / 2 ^ (7 - j) ≤ p := Nat.div_le_self _ _
  rw [h1, and_one _ (by omega)]
  unfold bitB
  split
  · rename_i h; rw [h]; rfl
  · rename_i h; rw [show p / 2 ^ (7 - j) % 2 = 0 by omega]; rfl
theorem bitsS_size (p : Nat) : (bitsS p).size = 8 := rfl
set_option maxRecDepth 100000 in
theorem Bits_ok (s : ByteArray) (w : World) (h : keyK s = 0) :
    Calls Tryz.prog 52 #[.string s] w fun e w' => e = .returned (.tuple #[.string (bitsS (plcN s)), .nilIface]) ∧ Ext w w' := by
  have HK := Lib.hid h
  have hs : s.size ≤ maxLen := by have := keyK_zero.1 h; unfold maxLen; omega
  have hp := plcN_lt s
  obtain ⟨p, HP⟩ : ∃ p, Hid (plcN s = p) := ⟨_, rfl⟩
  rw [HP.out] at hp
  clear h
  rw [HP.out]
  go_enter Tryz.func52, Tryz.ntmps52
  go_wp2_with fail
  refine (Key_any s _).mono ?_
  rw [HK.out, errR_0]
  rintro _ _ ⟨rfl, rfl⟩
  go_wp2_with fail
  refine (place_any s _ hs).mono ?_
  rw [HP.out]
  rintro _ w1 ⟨rfl, hb1⟩
  have r0 := (World.rowIs_alloc w #[.int .u8 0, .int .u8 0, .int .u8 0, .int .u8 0, .int .u8 0, .int .u8 0, .int .u8 0, .int .u8 0] 138 (fun _ => .int .u8 0) (fun i hi => by
    have h8 : i < 8 := hi
    have h8' : i = 0 ∨ i = 1 ∨ i = 2 ∨ i = 3 ∨ i = 4 ∨ i = 5 ∨ i = 6 ∨ i = 7 := by omega
    rcases h8' with rfl | rfl | rfl | rfl | rfl | rfl | rfl | rfl <;> rfl)).of_block (hb1.block w.heap.size (by simp))
  have e0 : Ext w w1 := by (repeat (with_reducible first | exact Ext.refl _ | assumption | refine Ext.drew ?_ | refine Ext.drewN ?_ _ | refine Ext.alloc ?_ _ | refine Ext.trans ?_ (by with_reducible assumption)))
  go_wp2_with fail
  go_loopw [7, 15] (fun v x wr => ∃ j : Nat, x = .int .i64 j ∧ j ≤ 8 ∧ Ext w wr ∧ Hid (wr.rowIs w.heap.size 138 8 (fun i => .int .u8 (if i < j then ((bitB p i).toNat : Int) else 0)))) (fun _ x _ => 8 - (intOf x).toNat)
  case atStart => exact ⟨0, rfl, Nat.zero_le _, e0, r0⟩
  case round =>
    obtain ⟨j, rfl, hj, hbw, hrow⟩ := hrel
    by_cases hc : j < 8
    · have c0 := hrow.out.cell hc
      have f0 := hrow.out.frozen j
      have HV := Lib.hid (bitV p j hp)
      go_wp2_with fail
      rw [HV.out]
      go_roundw
      case rel => exact ⟨j + 1, by go_num, by omega, hbw.setCell (by simp) _, (hrow.out.set j _).congr (fun i hi => by
        by_cases h1 : i = j
        · subst h1; simp
        · rw [if_neg h1]
          by_cases h2 : i < j
          · rw [if_pos h2, if_pos (by omega)]
          · rw [if_neg h2, if_neg (by omega)])⟩
      case measure => simp [intOf]; omega
    · obtain rfl : j = 8 := by omega
      have hcv := run_convert_bytes_back wr 47 9 5 (P := Tryz.prog) ⟨w.heap.size, 0, none⟩ 8 (bitsL p) Tryz.underlying47 Tryz.underlying5 Tryz.underlying9 (fun i hi => by
        have h8 : i < 8 := hi
        have := hrow.out.cell h8
        rw [if_pos h8] at this
        rw [show (⟨w.heap.size, 0, none⟩ : Addr).add i = ⟨w.heap.size, i, none⟩ by cases i <;> simp [Addr.add], this]
        simp [bitsL])
      have hcv2 : (convert 47 9 (.slice (some ⟨w.heap.size, 0, none⟩) 8 8)).run Tryz.prog wr = .ok (.string (bitsS p)) wr := hcv
      obtain ⟨b, HB⟩ : ∃ b, Hid (bitsS p = b) := ⟨_, rfl⟩
      rw [HB.out] at hcv2
      clear hcv hb1 r0
      go_wp2_with fail
      go_ret2
      exact ⟨by rw [HB.out]; rfl, hbw⟩
/-- what Bits tells -/
def bitsR (s : ByteArray) : ByteArray := if keyK s = 0 then bitsS (plcN s) else ⟨#[]⟩
theorem bitsR_ok {s : ByteArray} (h : keyK s = 0) : bitsR s = bitsS (plcN s) := if_pos h
set_option maxRecDepth 100000 in
theorem Bits_any (s : ByteArray) (w : World) :
    Calls Tryz.prog 52 #[.string s] w fun e w' => e = .returned (.tuple #[.string (bitsR s), errR (keyK s)]) ∧ Ext w w' := by
  by_cases h : keyK s = 0
  · refine (Bits_ok s w h).mono fun e w' hh => ⟨?_, hh.2⟩
    rw [bitsR_ok h, h]; exact hh.1
  · have HE := Lib.hid (errR_ne h)
    have HR : Hid (bitsR s = ⟨#[]⟩) := if_neg h
    go_enter Tryz.func52, Tryz.ntmps52
    go_wp2_with fail
    refine (Key_any s _).mono ?_
    rw [HE.out]
    rintro _ _ ⟨rfl, rfl⟩
    simp only [errV]
    go_wp2_with fail
    go_ret2
    exact ⟨by rw [HE.out, HR.out]; rfl, Ext.refl _⟩
theorem bitB_one (p i : Nat) : bitB p i = 49 ↔ p / 2 ^ (7 - i) % 2 = 1 := by
  unfold bitB
  split
  · simp_all
  · rename_i h
    constructor
    · intro h2; cases h2
    · intro h2; exact absurd h2 h
theorem bit_half {x y : Nat} (h : x % 2 = 1 ↔ y % 2 = 1) (h2 : x / 2 = y / 2) : x = y := by omega
theorem bitsS_inj {p q : Nat} (hp : p < 256) (hq : q < 256) (h : bitsS p = bitsS q) : p = q := by
  have h0 : bitsL p = bitsL q := congrArg (fun b : ByteArray => b.data.toList) h
  have hb : ∀ i, i < 8 → (p / 2 ^ (7 - i) % 2 = 1 ↔ q / 2 ^ (7 - i) % 2 = 1) := fun i hi => by
    have e : ∀ x, (bitsL x)[i]? = some (bitB x i) := fun x => by
      unfold bitsL
      rw [List.getElem?_map, List.getElem?_range hi]; rfl
    have h1 := e p
    rw [h0, e q] at h1
    have h2 : bitB q i = bitB p i := Option.some.inj h1
    rw [← bitB_one, ← bitB_one, h2]
  have a0 : p / 128 % 2 = 1 ↔ q / 128 % 2 = 1 := hb 0 (by omega)
  have a1 : p / 64 % 2 = 1 ↔ q / 64 % 2 = 1 := hb 1 (by omega)
  have a2 : p / 32 % 2 = 1 ↔ q / 32 % 2 = 1 := hb 2 (by omega)
  have a3 : p / 16 % 2 = 1 ↔ q / 16 % 2 = 1 := hb 3 (by omega)
  have a4 : p / 8 % 2 = 1 ↔ q / 8 % 2 = 1 := hb 4 (by omega)
  have a5 : p / 4 % 2 = 1 ↔ q / 4 % 2 = 1 := hb 5 (by omega)
  have a6 : p / 2 % 2 = 1 ↔ q / 2 % 2 = 1 := hb 6 (by omega)
  have a7 : p / 1 % 2 = 1 ↔ q / 1 % 2 = 1 := hb 7 (by omega)
  clear hb h0 h
  have b0 : p / 128 = q / 128 := bit_half a0 (by clear a0 a1 a2 a3 a4 a5 a6 a7; omega)
  have b1 : p / 64 = q / 64 := bit_half a1 (by rw [Nat.div_div_eq_div_mul, Nat.div_div_eq_div_mul]; exact b0)
  have b2 : p / 32 = q / 32 := bit_half a2 (by rw [Nat.div_div_eq_div_mul, Nat.div_div_eq_div_mul]; exact b1)
  have b3 : p / 16 = q / 16 := bit_half a3 (by rw [Nat.div_div_eq_div_mul, Nat.div_div_eq_div_mul]; exact b2)
  have b4 : p / 8 = q / 8 := bit_half a4 (by rw [Nat.div_div_eq_div_mul, Nat.div_div_eq_div_mul]; exact b3)
  have b5 : p / 4 = q / 4 := bit_half a5 (by rw [Nat.div_div_eq_div_mul, Nat.div_div_eq_div_mul]; exact b4)
  have b6 : p / 2 = q / 2 := bit_half a6 (by rw [Nat.div_div_eq_div_mul, Nat.div_div_eq_div_mul]; exact b5)
  have b7 : p / 1 = q / 1 := bit_half a7 (by rw [Nat.div_div_eq_div_mul, Nat.div_div_eq_div_mul]; exact b6)
  rwa [Nat.div_one, Nat.div_one] at b7
end Go.Proofs.YtnphbkjkeipmmaaGreatDoor
