/- What is kept, plain: texts with their length ahead, records, what is read of them. -/
import Derived.Test.YtcgfdhgceokcnaaDoorJWalWhole18
import Derived.Lib.IndexMore
import Derived.Test.YtcgfdhgceokcnaaDoorJWalWhole13
import Derived.Lib.MinMax
namespace Go.Proofs.YtcgfdhgceokcnaaDoor
set_option linter.unusedVariables false

/-! ### a text cut at the first ':' -/
theorem cut_hit (c : UInt8) : ∀ (d t : List UInt8), (∀ b ∈ d, b ≠ c) → Lib.index (d ++ c :: t) [c] = d.length
  | [], t, _ => index_hit c t
  | b :: d, t, h => by
    have ih := cut_hit c d t (fun x hx => h x (List.mem_cons_of_mem _ hx))
    rw [List.cons_append, index_miss (h b (List.mem_cons_self ..)), ih]
    rw [if_neg (by simp)]
    simp
theorem cut_none (c : UInt8) : ∀ (d : List UInt8), (∀ b ∈ d, b ≠ c) → Lib.index d [c] = -1
  | [], _ => rfl
  | b :: d, h => by
    have ih := cut_none c d (fun x hx => h x (List.mem_cons_of_mem _ hx))
    rw [index_miss (h b (List.mem_cons_self ..)), ih]
    rfl
theorem cutAt {c : UInt8} {d t : List UInt8} (h : ∀ b ∈ d, b ≠ c) : Lib.cut (d ++ c :: t) [c] = (d, t, true) := by
  unfold Lib.cut
  rw [cut_hit c d t h, if_pos (by omega)]
  simp
theorem cutNo {c : UInt8} {d : List UInt8} (h : ∀ b ∈ d, b ≠ c) : Lib.cut d [c] = (d, [], false) := by
  unfold Lib.cut
  rw [cut_none c d h, if_neg (by decide)]
/-- a text is cut in one of two ways -/
theorem cut_ways (c : UInt8) : ∀ (s : List UInt8), (∀ b ∈ s, b ≠ c) ∨ ∃ d t, s = d ++ c :: t ∧ ∀ b ∈ d, b ≠ c
  | [] => .inl (by simp)
  | b :: s => by
    by_cases hb : b = c
    · subst hb; exact .inr ⟨[], s, rfl, by simp⟩
    · rcases cut_ways c s with h | ⟨d, t, rfl, h⟩
      · refine .inl fun x hx => ?_
        rcases List.mem_cons.1 hx with rfl | hx
        · exact hb
        · exact h x hx
      · refine .inr ⟨b :: d, t, rfl, fun x hx => ?_⟩
        rcases List.mem_cons.1 hx with rfl | hx
        · exact hb
        · exact h x hx

/-! ### decimals -/
theorem dec_free (N : Nat) : ∀ n, n ≤ N → ∀ b ∈ Lib.decDigits n, b ≠ 58 := by
  induction N with
  | zero =>
    intro n hn b hb
    obtain rfl : n = 0 := by omega
    rw [Lib.decDigits, dif_pos (by omega)] at hb
    simp at hb; subst hb; decide
  | succ N ih =>
    intro n hn b hb
    have hd : ∀ d, d < 10 → UInt8.ofNat (48 + d) ≠ 58 := by decide +kernel
    rw [Lib.decDigits] at hb
    by_cases h : n < 10
    · rw [dif_pos h] at hb
      rw [List.mem_singleton] at hb; subst hb; exact hd n h
    · rw [dif_neg h, List.mem_append] at hb
      rcases hb with hb | hb
      · exact ih (n / 10) (by omega) b hb
      · rw [List.mem_singleton] at hb; subst hb; exact hd _ (Nat.mod_lt _ (by omega))
theorem dec_len {n : Nat} (h : n < 1000000000) : (Lib.decDigits n).length ≤ 9 := by
  rw [← digB_dec n n (Nat.le_refl _)]
  exact digB_small 8 n (by omega)
theorem atoi_dec {n : Nat} (h : n < 1000000000) : Lib.atoiAll (Lib.decDigits n) = .ok (n : Int) := by
  have hs : (digB n).size ≤ 9 := digB_small 8 n (by omega)
  have h1 := numR_atoi (numR_of (s := digB n) (m := 9) (v := n) hs rfl) (by omega)
  rwa [digB_dec n n (Nat.le_refl _)] at h1

/-! ### pieces -/
def pieceL (s : List UInt8) : List UInt8 := Lib.decDigits s.length ++ 58 :: s
/-- a piece cut off: the piece, and what is behind it -/
def cutL (s : List UInt8) : Option (List UInt8 × List UInt8) :=
  match Lib.atoiAll (Lib.cut s [58]).1 with
  | .ok n => if (Lib.cut s [58]).2.2 = true ∧ 0 ≤ n ∧ n ≤ ((Lib.cut s [58]).2.1.length : Int) then some ((Lib.cut s [58]).2.1.take n.toNat, (Lib.cut s [58]).2.1.drop n.toNat) else none
  | _ => none
theorem cutL_at {d t : List UInt8} (h : ∀ b ∈ d, b ≠ 58) : cutL (d ++ 58 :: t) = match Lib.atoiAll d with
    | .ok n => if 0 ≤ n ∧ n ≤ (t.length : Int) then some (t.take n.toNat, t.drop n.toNat) else none
    | _ => none := by
  unfold cutL
  rw [cutAt h]
  cases Lib.atoiAll d <;> simp
theorem cutL_no {d : List UInt8} (h : ∀ b ∈ d, b ≠ 58) : cutL d = none := by
  unfold cutL
  rw [cutNo h]
  cases Lib.atoiAll d <;> simp
theorem cut_piece {s r : List UInt8} (h : s.length < 1000000000) : cutL (pieceL s ++ r) = some (s, r) := by
  unfold pieceL
  rw [List.append_assoc, List.cons_append, cutL_at (dec_free _ _ (Nat.le_refl _)), atoi_dec h]
  have h1 : (0 : Int) ≤ (s.length : Int) ∧ (s.length : Int) ≤ ((s ++ r).length : Int) := by rw [List.length_append]; omega
  show (if (0 : Int) ≤ (s.length : Int) ∧ (s.length : Int) ≤ ((s ++ r).length : Int) then _ else _) = _
  rw [if_pos h1, Int.toNat_natCast, List.take_left, List.drop_left]
/-- what is shorter is none -/
theorem cut_less {s t r : List UInt8} (h : s.length < 1000000000) (ht : pieceL s = t ++ r) (hr : r ≠ []) : cutL t = none := by
  rcases cut_ways 58 t with hn | ⟨d, u, rfl, hd⟩
  · exact cutL_no hn
  · unfold pieceL at ht
    rw [List.append_assoc, List.cons_append] at ht
    have h1 := cutAt (c := 58) (t := s) (dec_free _ _ (Nat.le_refl s.length))
    have h2 := cutAt (c := 58) (t := u ++ r) hd
    rw [ht] at h1
    rw [h1] at h2
    injection h2 with e1 e2
    injection e2 with e2 _
    rw [cutL_at hd, ← e1, atoi_dec h]
    have hp : 0 < r.length := List.length_pos_iff.2 hr
    show (if (0 : Int) ≤ (s.length : Int) ∧ (s.length : Int) ≤ (u.length : Int) then _ else none) = none
    rw [if_neg]
    rw [e2, List.length_append]
    omega
theorem cutL_len {s a b : List UInt8} (h : cutL s = some (a, b)) : a.length + b.length < s.length := by
  rcases cut_ways 58 s with hn | ⟨d, u, rfl, hd⟩
  · rw [cutL_no hn] at h; cases h
  · rw [cutL_at hd] at h
    split at h
    · split at h
      · rename_i n _ hn
        injection h with h
        injection h with h1 h2
        subst h1 h2
        rw [List.length_append, List.length_cons, List.length_take, List.length_drop]
        omega
      · cases h
    · cases h
theorem piece_len (s : List UInt8) : (pieceL s).length = (Lib.decDigits s.length).length + 1 + s.length := by
  unfold pieceL
  rw [List.length_append, List.length_cons]
  omega
theorem piece_le {s : List UInt8} (h : s.length < 1000000000) : (pieceL s).length ≤ s.length + 10 := by
  rw [piece_len]
  have := dec_len h
  omega
theorem dec_pos (n : Nat) : 1 ≤ (Lib.decDigits n).length := by
  rw [← digB_dec n n (Nat.le_refl _)]
  exact digB_pos n
theorem piece_ge (s : List UInt8) : s.length + 2 ≤ (pieceL s).length := by
  rw [piece_len]
  have := dec_pos s.length
  omega

/-! ### records -/
def pairL (p : Pr) : List UInt8 := pieceL (signC p :: p.key.data.toList) ++ pieceL p.value.data.toList
  where signC (p : Pr) : UInt8 := if p.gone = true then 45 else 43
def pairsL (b : List Pr) : List UInt8 := b.flatMap pairL
def recL (b : List Pr) : List UInt8 := pieceL (pairsL b)
/-- the pairs that a text tells -/
def readL : Nat → List UInt8 → Option (List Pr)
  | 0, _ => none
  | f + 1, x => if x = [] then some [] else match cutL x with
    | none => none
    | some (key, more) => match cutL more with
      | none => none
      | some (value, left) => match key with
        | [] => none
        | c :: k => (readL f left).map fun l => ⟨⟨k.toArray⟩, ⟨value.toArray⟩, decide (c = 45)⟩ :: l
def nextL (s : List UInt8) : Option (List Pr × List UInt8) := match cutL s with
  | none => none
  | some (x, rest) => (readL (x.length + 1) x).map fun l => (l, rest)
/-- pairs that are small -/
def smallP (p : Pr) : Prop := p.key.size ≤ 1000 ∧ p.value.size ≤ 1000
theorem pair_eta (p : Pr) : (⟨⟨p.key.data.toList.toArray⟩, ⟨p.value.data.toList.toArray⟩, decide (pairL.signC p = 45)⟩ : Pr) = p := by
  obtain ⟨k, v, g⟩ := p
  cases g <;> simp [pairL.signC]
theorem pair_len {p : Pr} (h : smallP p) : (pairL p).length ≤ 2030 ∧ 4 ≤ (pairL p).length := by
  obtain ⟨h1, h2⟩ := h
  have e1 : p.key.data.toList.length = p.key.size := rfl
  have e2 : p.value.data.toList.length = p.value.size := rfl
  unfold pairL
  rw [List.length_append]
  have a1 := piece_le (s := pairL.signC p :: p.key.data.toList) (by simp; omega)
  have a2 := piece_le (s := p.value.data.toList) (by omega)
  have b1 := piece_ge (pairL.signC p :: p.key.data.toList)
  have b2 := piece_ge p.value.data.toList
  rw [List.length_cons] at a1 b1
  omega
theorem pairs_len : ∀ {b : List Pr}, (∀ p ∈ b, smallP p) → (pairsL b).length ≤ b.length * 2030
  | [], _ => by simp [pairsL]
  | p :: b, h => by
    have ih := pairs_len (b := b) fun q hq => h q (List.mem_cons_of_mem _ hq)
    have hp := pair_len (h p (List.mem_cons_self ..))
    show (pairL p ++ pairsL b).length ≤ _
    rw [List.length_append, List.length_cons, Nat.add_mul]
    omega
theorem read_pairs : ∀ {b : List Pr} (f : Nat), (∀ p ∈ b, smallP p) → b.length < f → readL f (pairsL b) = some b
  | [], f + 1, _, _ => rfl
  | p :: b, f + 1, h, hf => by
    obtain ⟨h1, h2⟩ := h p (List.mem_cons_self ..)
    have e1 : p.key.data.toList.length = p.key.size := rfl
    have e2 : p.value.data.toList.length = p.value.size := rfl
    have ih := read_pairs (b := b) f (fun q hq => h q (List.mem_cons_of_mem _ hq)) (by simp at hf; omega)
    have hne : pairsL (p :: b) ≠ [] := by
      intro e
      have := (pair_len (h p (List.mem_cons_self ..))).2
      have e3 : (pairL p ++ pairsL b).length = 0 := by rw [show pairL p ++ pairsL b = [] from e]; rfl
      rw [List.length_append] at e3
      omega
    have hc : cutL (pairsL (p :: b)) = some (pairL.signC p :: p.key.data.toList, pieceL p.value.data.toList ++ pairsL b) := by
      show cutL ((pieceL _ ++ pieceL _) ++ pairsL b) = _
      rw [List.append_assoc]
      exact cut_piece (by simp; omega)
    have hc2 : cutL (pieceL p.value.data.toList ++ pairsL b) = some (p.value.data.toList, pairsL b) := cut_piece (by omega)
    rw [readL, if_neg hne, hc]
    show (match cutL (pieceL p.value.data.toList ++ pairsL b) with | none => none | some (value, left) => _) = _
    rw [hc2]
    show (readL f (pairsL b)).map _ = _
    rw [ih]
    show some (_ :: b) = some (p :: b)
    rw [pair_eta]
  | [], 0, _, h => absurd h (by simp)
  | p :: b, 0, _, h => absurd h (by simp)
theorem pairs_ge : ∀ {b : List Pr}, (∀ p ∈ b, smallP p) → b.length ≤ (pairsL b).length
  | [], _ => by simp
  | p :: b, h => by
    have ih := pairs_ge (b := b) fun q hq => h q (List.mem_cons_of_mem _ hq)
    have hp := (pair_len (h p (List.mem_cons_self ..))).2
    show _ ≤ (pairL p ++ pairsL b).length
    rw [List.length_append, List.length_cons]
    omega
theorem next_rec {b : List Pr} (h : ∀ p ∈ b, smallP p) (hl : b.length ≤ 20) (r : List UInt8) : nextL (recL b ++ r) = some (b, r) := by
  have h1 := pairs_len h
  unfold nextL recL
  rw [cut_piece (by omega)]
  show (readL ((pairsL b).length + 1) (pairsL b)).map _ = _
  rw [read_pairs _ h (by have := pairs_ge h; omega)]
  rfl
theorem next_less {b : List Pr} (h : ∀ p ∈ b, smallP p) (hl : b.length ≤ 20) {t r : List UInt8} (ht : recL b = t ++ r) (hr : r ≠ []) : nextL t = none := by
  have h1 := pairs_len h
  unfold nextL
  rw [cut_less (s := pairsL b) (by omega) ht hr]
theorem next_nil : nextL [] = none := by
  unfold nextL
  rw [cutL_no (by simp)]
theorem rec_ge (b : List Pr) : 2 ≤ (recL b).length := by
  have := piece_ge (pairsL b)
  show 2 ≤ (pieceL (pairsL b)).length
  omega
theorem rec_le {b : List Pr} (h : ∀ p ∈ b, smallP p) (hl : b.length ≤ 20) : (recL b).length ≤ 40700 := by
  have h1 := pairs_len h
  have h2 := piece_le (s := pairsL b) (by omega)
  show (pieceL (pairsL b)).length ≤ _
  omega
end Go.Proofs.YtcgfdhgceokcnaaDoor

/- What is kept, plain: batches done, and what is left behind a crash. -/
namespace Go.Proofs.YtcgfdhgceokcnaaDoor
open Go.RowKit
set_option linter.unusedVariables false

/-! ### a batch -/
def badP (p : Pr) : Bool := p.gone && decide (p.value.size ≠ 0)
/-- the pairs of a batch, one by one; the first fault ends it -/
def runB (lim : Nat) : List Pr → List Pr → List (List Pr) → List Pr × List (List Pr)
  | [], Y, T => (Y, T)
  | p :: b, Y, T => if putK Y p = 0 then runB lim b (doY lim Y p) (doT lim Y T p) else (Y, T)
def runK (lim : Nat) : List Pr → List Pr → List (List Pr) → Int
  | [], Y, T => 0
  | p :: b, Y, T => if putK Y p = 0 then runK lim b (doY lim Y p) (doT lim Y T p) else putK Y p
def doK (lim : Nat) (Y : List Pr) (T : List (List Pr)) (b : List Pr) : Int := if 20 < b.length then 4 else if b.any badP = true then 3 else runK lim b Y T
def doZ (lim : Nat) (Y : List Pr) (T : List (List Pr)) (b : List Pr) : List Pr × List (List Pr) := if doK lim Y T b = 0 then runB lim b Y T else (Y, T)
theorem doK_len {lim : Nat} {Y : List Pr} {T : List (List Pr)} {b : List Pr} (h : doK lim Y T b = 0) : b.length ≤ 20 ∧ (∀ p ∈ b, badP p = false) ∧ runK lim b Y T = 0 := by
  unfold doK at h
  split at h
  · cases h
  · split at h
    · cases h
    · rename_i h1 h2
      refine ⟨by omega, fun p hp => ?_, h⟩
      cases hb : badP p with
      | false => rfl
      | true => exact absurd (List.any_eq_true.2 ⟨p, hp, hb⟩) h2
theorem putK_small {Y : List Pr} {p : Pr} (h : putK Y p = 0) : keyK p.key = 0 ∧ p.value.size ≤ 200 := by
  unfold putK at h
  by_cases h1 : keyK p.key = 0
  · rw [if_neg (not_not_intro h1)] at h
    by_cases h2 : 200 < p.value.size ∨ (hasB Y p.key = false ∧ 60 ≤ Y.length)
    · rw [if_pos h2] at h; cases h
    · exact ⟨h1, Nat.le_of_not_lt fun k => h2 (.inl k)⟩
  · rw [if_pos h1] at h; exact absurd h h1
theorem run_small {lim : Nat} : ∀ {b : List Pr} {Y : List Pr} {T : List (List Pr)}, runK lim b Y T = 0 → ∀ p ∈ b, keyK p.key = 0 ∧ p.value.size ≤ 200
  | [], Y, T, h, p, hp => by simp at hp
  | q :: b, Y, T, h, p, hp => by
    unfold runK at h
    by_cases hk : putK Y q = 0
    · rw [if_pos hk] at h
      rcases List.mem_cons.1 hp with rfl | hp
      · exact putK_small hk
      · exact run_small h p hp
    · rw [if_neg hk] at h; exact absurd h hk

/-! ### the batches that were done -/
def stZ (lim : Nat) (bs : List (List Pr)) : List Pr × List (List Pr) := bs.foldl (fun z b => doZ lim z.1 z.2 b) ([], [])
theorem stZ_snoc (lim : Nat) (bs : List (List Pr)) (b : List Pr) : stZ lim (bs ++ [b]) = doZ lim (stZ lim bs).1 (stZ lim bs).2 b := by
  unfold stZ
  rw [List.foldl_append]; rfl
/-- each of them was done -/
def BsOk (lim : Nat) (bs : List (List Pr)) : Prop := ∀ i b, bs[i]? = some b → doK lim (stZ lim (bs.take i)).1 (stZ lim (bs.take i)).2 b = 0
theorem BsOk.nil (lim : Nat) : BsOk lim [] := fun i b h => by simp at h
theorem BsOk.take {lim : Nat} {bs : List (List Pr)} (h : BsOk lim bs) (j : Nat) : BsOk lim (bs.take j) := fun i b hb => by
  have hi : i < j := by
    rcases Nat.lt_or_ge i j with h1 | h1
    · exact h1
    · rw [List.getElem?_eq_none (by rw [List.length_take]; omega)] at hb; cases hb
  rw [List.getElem?_take_of_lt hi] at hb
  rw [List.take_take, Nat.min_eq_left (by omega)]
  exact h i b hb
theorem BsOk.snoc {lim : Nat} {bs : List (List Pr)} (h : BsOk lim bs) {b : List Pr} (hb : doK lim (stZ lim bs).1 (stZ lim bs).2 b = 0) : BsOk lim (bs ++ [b]) := fun i c hc => by
  rcases Nat.lt_or_ge i bs.length with h1 | h1
  · rw [List.getElem?_append_left h1] at hc
    rw [List.take_append_of_le_length (by omega)]
    exact h i c hc
  · rw [List.getElem?_append_right h1] at hc
    have e : i - bs.length = 0 := by
      rcases Nat.eq_zero_or_pos (i - bs.length) with h2 | h2
      · exact h2
      · rw [List.getElem?_eq_none (by simp; omega)] at hc; cases hc
    rw [e] at hc
    obtain rfl : b = c := by simpa using hc
    rw [show i = bs.length by omega, List.take_append_of_le_length (Nat.le_refl _), List.take_length]
    exact hb
/-- keys and values are small -/
theorem key_small {k : ByteArray} (h : keyK k = 0) (hb : ∀ x : ByteArray, keyK x = 0 → x.size ≤ 1000) : k.size ≤ 1000 := hb k h
theorem BsOk.small {lim : Nat} {bs : List (List Pr)} (h : BsOk lim bs) (hb : ∀ x : ByteArray, keyK x = 0 → x.size ≤ 1000) : ∀ b ∈ bs, (∀ p ∈ b, smallP p) ∧ b.length ≤ 20 := fun b hm => by
  obtain ⟨i, hi⟩ := List.getElem?_of_mem hm
  obtain ⟨h1, h2, h3⟩ := doK_len (h i b hi)
  exact ⟨fun p hp => by
    obtain ⟨k1, k2⟩ := run_small h3 p hp
    exact ⟨hb _ k1, by omega⟩, h1⟩

/-! ### the bytes -/
def recsL (bs : List (List Pr)) : List UInt8 := bs.flatMap recL
def markN (bs : List (List Pr)) (i : Nat) : Nat := (recsL (bs.take i)).length
theorem recs_snoc (bs : List (List Pr)) (b : List Pr) : recsL (bs ++ [b]) = recsL bs ++ recL b := by
  unfold recsL
  rw [List.flatMap_append]; simp
theorem recs_cut (bs : List (List Pr)) (i : Nat) : recsL bs = recsL (bs.take i) ++ recsL (bs.drop i) := by
  unfold recsL
  rw [← List.flatMap_append, List.take_append_drop]
theorem mark_succ {bs : List (List Pr)} {i : Nat} {b : List Pr} (h : bs[i]? = some b) : markN bs (i + 1) = markN bs i + (recL b).length := by
  unfold markN
  obtain ⟨hlt, rfl⟩ := List.getElem?_eq_some_iff.1 h
  rw [List.take_succ_eq_append_getElem hlt, recs_snoc, List.length_append]
theorem mark_zero (bs : List (List Pr)) : markN bs 0 = 0 := rfl
theorem mark_all (bs : List (List Pr)) : markN bs bs.length = (recsL bs).length := by unfold markN; rw [List.take_length]
theorem mark_mono {bs : List (List Pr)} {i j : Nat} (h : i ≤ j) : markN bs i ≤ markN bs j := by
  unfold markN
  have e : bs.take j = bs.take i ++ (bs.take j).drop i := by
    have := List.take_append_drop i (bs.take j)
    rw [List.take_take, Nat.min_eq_left h] at this
    exact this.symm
  rw [e]
  unfold recsL
  rw [List.flatMap_append, List.length_append]
  omega
theorem mark_lt {bs : List (List Pr)} {i j : Nat} (h : i < j) (hj : j ≤ bs.length) : markN bs i < markN bs j := by
  have h1 := mark_succ (bs := bs) (i := i) (List.getElem?_eq_getElem (by omega))
  have h2 := mark_mono (bs := bs) (i := i + 1) (j := j) h
  have h3 := rec_ge (bs[i]'(by omega))
  omega
theorem mark_take {bs : List (List Pr)} {i j : Nat} (h : i ≤ j) : markN (bs.take j) i = markN bs i := by
  unfold markN
  rw [List.take_take, Nat.min_eq_left h]
/-- what is behind the batches is no whole one -/
def TailOk (t : List UInt8) : Prop := t = [] ∨ ∃ b r, recL b = t ++ r ∧ r ≠ [] ∧ (∀ p ∈ b, smallP p) ∧ b.length ≤ 20
theorem TailOk.next {t : List UInt8} (h : TailOk t) (k : Nat) : nextL (t.take k) = none := by
  rcases h with rfl | ⟨b, r, h1, h2, h3, h4⟩
  · rw [List.take_nil]; exact next_nil
  · refine next_less h3 h4 (t := t.take k) (r := t.drop k ++ r) ?_ (by simp [h2])
    rw [← List.append_assoc, List.take_append_drop]; exact h1
theorem TailOk.half {b : List Pr} (h : ∀ p ∈ b, smallP p) (hl : b.length ≤ 20) : TailOk ((recL b).take ((recL b).length / 2)) :=
  .inr ⟨b, (recL b).drop ((recL b).length / 2), (List.take_append_drop _ _).symm, by
    intro e
    have h1 := rec_ge b
    have h2 := congrArg List.length e
    rw [List.length_drop] at h2
    have h3 : (([] : List UInt8)).length = 0 := rfl
    omega, h, hl⟩
/-- what is read of the first n bytes, behind i batches -/
theorem crash_next {bs : List (List Pr)} {t : List UInt8} (hs : ∀ b ∈ bs, (∀ p ∈ b, smallP p) ∧ b.length ≤ 20) (ht : TailOk t) {n i : Nat} (hi : i ≤ bs.length) (hm : markN bs i ≤ n) (hn : n ≤ (recsL bs ++ t).length) :
    (∃ b, bs[i]? = some b ∧ markN bs (i + 1) ≤ n ∧ nextL (((recsL bs ++ t).take n).drop (markN bs i)) = some (b, ((recsL bs ++ t).take n).drop (markN bs (i + 1)))) ∨
    ((i = bs.length ∨ n < markN bs (i + 1)) ∧ nextL (((recsL bs ++ t).take n).drop (markN bs i)) = none) := by
  have e1 : (recsL bs ++ t).drop (markN bs i) = recsL (bs.drop i) ++ t := by
    conv => lhs; rw [recs_cut bs i]
    rw [List.append_assoc]
    exact List.drop_left
  have e2 : ((recsL bs ++ t).take n).drop (markN bs i) = (recsL (bs.drop i) ++ t).take (n - markN bs i) := by rw [List.drop_take, e1]
  rcases Nat.lt_or_ge i bs.length with hlt | hge
  · have hb := List.getElem?_eq_getElem hlt
    obtain ⟨hs1, hs2⟩ := hs _ (List.mem_of_getElem? hb)
    have hd : bs.drop i = bs[i] :: bs.drop (i + 1) := List.drop_eq_getElem_cons hlt
    generalize bs[i] = b at *
    have e3 : recsL (bs.drop i) ++ t = recL b ++ (recsL (bs.drop (i + 1)) ++ t) := by
      rw [hd]
      unfold recsL
      rw [List.flatMap_cons, List.append_assoc]
    have hms := mark_succ hb
    rcases Nat.lt_or_ge n (markN bs (i + 1)) with h1 | h1
    · refine .inr ⟨.inr h1, ?_⟩
      rw [e2, e3, List.take_append_of_le_length (by omega)]
      refine next_less hs1 hs2 (r := (recL b).drop (n - markN bs i)) (List.take_append_drop _ _).symm ?_
      intro e
      have h2 := congrArg List.length e
      rw [List.length_drop] at h2
      have h3 : (([] : List UInt8)).length = 0 := rfl
      omega
    · refine .inl ⟨b, hb, h1, ?_⟩
      have e4 : (recL b ++ (recsL (bs.drop (i + 1)) ++ t)).take (n - markN bs i) = recL b ++ (recsL (bs.drop (i + 1)) ++ t).take (n - markN bs (i + 1)) := by
        rw [List.take_append, List.take_of_length_le (by omega)]
        congr 2
        omega
      have e5 : (recsL bs ++ t).drop (markN bs (i + 1)) = recsL (bs.drop (i + 1)) ++ t := by
        conv => lhs; rw [recs_cut bs (i + 1)]
        rw [List.append_assoc]
        exact List.drop_left
      rw [e2, e3, e4, next_rec hs1 hs2, List.drop_take, e5]
  · obtain rfl : i = bs.length := by omega
    refine .inr ⟨.inl rfl, ?_⟩
    rw [e2, List.drop_length]
    exact ht.next _
/-- how many are whole among the first n bytes -/
def wholeN (bs : List (List Pr)) (n : Nat) : Nat → Nat
  | 0 => 0
  | k + 1 => if markN bs (k + 1) ≤ n then k + 1 else wholeN bs n k
theorem wholeN_spec (bs : List (List Pr)) (n : Nat) : ∀ k, wholeN bs n k ≤ k ∧ markN bs (wholeN bs n k) ≤ n ∧ ∀ i, i ≤ k → markN bs i ≤ n → i ≤ wholeN bs n k
  | 0 => ⟨Nat.le_refl _, by show markN bs 0 ≤ n; rw [mark_zero]; omega, fun i h _ => h⟩
  | k + 1 => by
    obtain ⟨h1, h2, h3⟩ := wholeN_spec bs n k
    unfold wholeN
    by_cases hk : markN bs (k + 1) ≤ n
    · rw [if_pos hk]; exact ⟨Nat.le_refl _, hk, fun i hi _ => hi⟩
    · rw [if_neg hk]
      refine ⟨by omega, h2, fun i hi hm => h3 i ?_ hm⟩
      rcases Nat.lt_or_ge i (k + 1) with h | h
      · omega
      · obtain rfl : i = k + 1 := by omega
        exact absurd hm hk
theorem wholeN_uniq {bs : List (List Pr)} {n i : Nat} (hi : i ≤ bs.length) (hm : markN bs i ≤ n) (h : i = bs.length ∨ n < markN bs (i + 1)) : wholeN bs n bs.length = i := by
  obtain ⟨h1, h2, h3⟩ := wholeN_spec bs n bs.length
  have h4 := h3 i hi hm
  rcases h with h | h
  · omega
  · rcases Nat.lt_or_ge i (wholeN bs n bs.length) with h5 | h5
    · have := mark_mono (bs := bs) (i := i + 1) (j := wholeN bs n bs.length) h5
      omega
    · omega
theorem recs_len {bs : List (List Pr)} (hs : ∀ b ∈ bs, (∀ p ∈ b, smallP p) ∧ b.length ≤ 20) : (recsL bs).length ≤ bs.length * 40700 := by
  induction bs with
  | nil => simp [recsL]
  | cons b bs ih =>
    have h1 := ih fun c hc => hs c (List.mem_cons_of_mem _ hc)
    obtain ⟨h2, h3⟩ := hs b (List.mem_cons_self ..)
    have h4 := rec_le h2 h3
    show (recL b ++ recsL bs).length ≤ _
    rw [List.length_append, List.length_cons, Nat.add_mul]
    omega
/-! ### bounds -/
theorem runB_tot (lim : Nat) : ∀ (b Y : List Pr) (T : List (List Pr)), totL ((runB lim b Y T).1 :: (runB lim b Y T).2) ≤ totL (Y :: T) + b.length
  | [], Y, T => by show totL (Y :: T) ≤ _; omega
  | p :: b, Y, T => by
    unfold runB
    by_cases hk : putK Y p = 0
    · rw [if_pos hk]
      have ih := runB_tot lim b (doY lim Y p) (doT lim Y T p)
      have := do_tot lim Y T p
      rw [List.length_cons]; omega
    · rw [if_neg hk]; show totL (Y :: T) ≤ _; omega
theorem doZ_tot (lim : Nat) (Y : List Pr) (T : List (List Pr)) (b : List Pr) : totL ((doZ lim Y T b).1 :: (doZ lim Y T b).2) ≤ totL (Y :: T) + 20 := by
  unfold doZ
  by_cases hk : doK lim Y T b = 0
  · rw [if_pos hk]
    have h1 := (doK_len hk).1
    have h2 := runB_tot lim b Y T
    omega
  · rw [if_neg hk]; show totL (Y :: T) ≤ _; omega
theorem fold_tot (lim : Nat) : ∀ (bs : List (List Pr)) (z : List Pr × List (List Pr)), totL ((bs.foldl (fun z b => doZ lim z.1 z.2 b) z).1 :: (bs.foldl (fun z b => doZ lim z.1 z.2 b) z).2) ≤ totL (z.1 :: z.2) + 20 * bs.length
  | [], z => by show totL (z.1 :: z.2) ≤ _; omega
  | b :: bs, z => by
    have ih := fold_tot lim bs (doZ lim z.1 z.2 b)
    have h1 := doZ_tot lim z.1 z.2 b
    rw [List.foldl_cons, List.length_cons]
    omega
theorem stZ_tot (lim : Nat) (bs : List (List Pr)) : totL ((stZ lim bs).1 :: (stZ lim bs).2) ≤ 20 * bs.length := by
  have h := fold_tot lim bs ([], [])
  have h0 : totL (([] : List Pr) :: []) = 0 := rfl
  show totL ((bs.foldl (fun z b => doZ lim z.1 z.2 b) ([], [])).1 :: (bs.foldl (fun z b => doZ lim z.1 z.2 b) ([], [])).2) ≤ _
  simp only at h
  omega
theorem badP_ok {p : Pr} (h : badP p = false) : p.gone = true → p.value.size = 0 := fun hg => by
  unfold badP at h
  rw [hg] at h
  simpa using h
theorem runB_ok (lim : Nat) : ∀ (b Y : List Pr) (T : List (List Pr)), (∀ p ∈ b, badP p = false) → LsOk (Y :: T) → LsOk ((runB lim b Y T).1 :: (runB lim b Y T).2)
  | [], Y, T, _, h => h
  | p :: b, Y, T, hb, h => by
    unfold runB
    by_cases hk : putK Y p = 0
    · rw [if_pos hk]
      exact runB_ok lim b _ _ (fun q hq => hb q (List.mem_cons_of_mem _ hq)) (do_ok h (badP_ok (hb p (List.mem_cons_self ..))))
    · rw [if_neg hk]; exact h
theorem runB_young (lim : Nat) : ∀ (b Y : List Pr) (T : List (List Pr)), Y.length < lim → (runB lim b Y T).1.length < lim
  | [], Y, T, h => h
  | p :: b, Y, T, h => by
    unfold runB
    by_cases hk : putK Y p = 0
    · rw [if_pos hk]
      exact runB_young lim b _ _ (do_young h)
    · rw [if_neg hk]; exact h

/-! ### what is kept -/
structure WS where
  bs : List (List Pr)
  t : List UInt8
  safe : Nat
  left : Int
  stop : Bool
def WS.bytes (z : WS) : List UInt8 := recsL z.bs ++ z.t
def WS.step (z : WS) : WS := { z with left := max (-1) (z.left - 1), stop := z.left == 0 }
def WS.put (lim : Nat) (z : WS) (b : List Pr) : Int × WS :=
  if z.stop = true then (6, z) else if doK lim (stZ lim z.bs).1 (stZ lim z.bs).2 b = 0 then
    (if z.left = 0 then (6, { z.step with t := (recL b).take ((recL b).length / 2) }) else (0, { z.step with bs := z.bs ++ [b] }))
  else (doK lim (stZ lim z.bs).1 (stZ lim z.bs).2 b, z)
def WS.sync (z : WS) : Int × WS := if z.stop = true then (6, z) else if z.left = 0 then (6, z.step) else (0, { z.step with safe := z.bytes.length })
def WS.fail (z : WS) (n : Int) : WS := { z with left := max (-1) n }
def WS.high (z : WS) (keep : Int) : Nat := z.safe + (max 0 (min keep ((z.bytes.length : Int) - (z.safe : Int)))).toNat
def WS.many (z : WS) (keep : Int) : Nat := wholeN z.bs (z.high keep) z.bs.length
def WS.crash (z : WS) (keep : Int) : WS := ⟨z.bs.take (z.many keep), [], markN z.bs (z.many keep), -1, false⟩
def WS.new : WS := ⟨[], [], 0, -1, false⟩
/-- it is in order -/
structure WS.Ok (lim : Nat) (z : WS) : Prop where
  run : BsOk lim z.bs
  tail : TailOk z.t
  go : z.stop = false → z.t = []
  safe : z.safe ≤ z.bytes.length
  left : -1 ≤ z.left ∧ z.left ≤ 9223372036854775807
theorem WS.Ok.new (lim : Nat) : WS.Ok lim WS.new := ⟨BsOk.nil lim, .inl rfl, fun _ => rfl, Nat.zero_le _, by decide, by decide⟩
end Go.Proofs.YtcgfdhgceokcnaaDoor

/- wal: its block; step, Fail, Sync, Bytes, Safe, Lsm, New. -/
namespace Go.Proofs.YtcgfdhgceokcnaaDoor
open Go.RowKit Go.WideShapes
set_option linter.unusedVariables false
attribute [local go_sem ↓] Go.wp_at_zero Go.wp_at_succ

section
variable {w w' : World} {b x lim : Nat}
/-- its block is written: the lsm stays -/
theorem LM.wal {cs : Array Value} {lim : Int} {Y : List Pr} {T : List (List Pr)} (h : LM w aF x lim Y T) (hb : Bk w b 41 cs) (k : Chg w w' (fun g => g = b)) : LM w' aF x lim Y T := by
  obtain ⟨sb, sv, lv, ts, hL, hT, hF, hH⟩ := h
  refine ⟨sb, sv, lv, ts, hL.chg k fun g hg e => ?_, hT, hF, hH⟩
  have e' : g = b := e
  subst e'
  rcases hg with e | e | e | e | ⟨t, ht, e | e⟩
  · exact bk_ne hL.bk hb (by decide) e.symm
  · exact bk_ne hL.st.bk hb (by decide) e.symm
  · exact own_type hL.st.own hb (by decide) e
  · exact own_type hL.own hb (by decide) e
  · exact bk_ne (hL.tab t ht).bk hb (by decide) e.symm
  · exact own_type (hL.tab t ht).own hb (by decide) e
end

theorem set_chg1 (w : World) (b o : Nat) (v : Value) : Chg w (w.setCell ⟨b, o, none⟩ v) (fun g => g = b) := (gb_chg (gb_set w b o v)).mono fun g _ hg => by injection hg with hg; exact hg.symm

set_option maxRecDepth 100000 in
theorem WStep_any (b : Nat) (lim : Int) (px : Value) (s : ByteArray) (safe left : Int) (stop : Bool) (w : World) (h : Bk w b 41 #[.int .i64 lim, px, .string s, .int .i64 safe, .int .i64 left, .bool stop]) (h1 : -1 ≤ left) (h2 : left ≤ 9223372036854775807) :
    Calls Tryd.prog 14 #[.pointer (some ⟨b, 0, none⟩)] w fun e w' => e = .returned (.bool ((left == 0))) ∧ Bk w' b 41 #[.int .i64 lim, px, .string s, .int .i64 safe, .int .i64 (max (-1) (left - 1)), .bool ((left == 0))] ∧ Chg w w' (fun g => g = b) := by
  have c4 : w.cell? ⟨b, 4, none⟩ = some (.int .i64 left) := h.cell 4
  have f5 : w.frozen? ⟨b, 5, none⟩ = false := h.frozen 5
  have c5 : w.cell? ⟨b, 5, none⟩ = some (.bool stop) := h.cell 5
  have HB := Lib.hid h
  clear h
  go_enter Tryd.func14, Tryd.ntmps14
  have B1 := HB.out.set_ 5 (.bool (left == 0))
  have k1 := set_chg1 w b 5 (.bool (left == 0))
  go_upto_region 2 with (fail)
  generalize w.setCell ⟨b, 5, none⟩ (.bool (left == 0)) = W1 at *
  have d4 : W1.cell? ⟨b, 4, none⟩ = some (.int .i64 left) := B1.cell 4
  have g4 : W1.frozen? ⟨b, 4, none⟩ = false := B1.frozen 4
  have hw : IntKind.i64.wrap (left - 1) = left - 1 := IntWalk.i64_in _ (by omega)
  have B2 := B1.set_ 4 (.int .i64 (max (-1) (left - 1)))
  have k2 := k1.trans (set_chg1 W1 b 4 (.int .i64 (max (-1) (left - 1)))) (fun g _ hg => hg)
  clear c4 f5 c5 HB
  go_upto_region 3 with (fail)
  generalize W1.setCell ⟨b, 4, none⟩ (.int .i64 (max (-1) (left - 1))) = W2 at *
  have d5 : W2.cell? ⟨b, 5, none⟩ = some (.bool (left == 0)) := B2.cell 5
  go_wp2_with fail
  go_ret
  exact ⟨rfl, B2, k2⟩

/-! ### what is kept, in memory -/
structure WG (w : World) (b lim : Nat) (z : WS) : Prop where
  ok : WS.Ok lim z
  lim_ : 1 ≤ lim ∧ lim ≤ 60
  at_ : ∃ (x : Nat) (s : ByteArray), Bk w b 41 #[.int .i64 lim, .pointer (some ⟨x, 0, none⟩), .string s, .int .i64 (z.safe : Int), .int .i64 z.left, .bool z.stop] ∧ s.data.toList = z.bytes ∧ LM w aF x lim (stZ lim z.bs).1 (stZ lim z.bs).2
theorem WG.ext {w w' : World} {b lim : Nat} {z : WS} (h : WG w b lim z) (e : Ext w w') : WG w' b lim z := by
  obtain ⟨h1, h2, x, s, hb, hs, hl⟩ := h
  exact ⟨h1, h2, x, s, hb.ext e, hs, hl.ext e⟩
theorem WG.lt {w : World} {b lim : Nat} {z : WS} (h : WG w b lim z) : b < w.heap.size := by
  obtain ⟨h1, h2, x, s, hb, hs, hl⟩ := h
  exact hb.lt
theorem WS.Ok.small {lim : Nat} {z : WS} (h : WS.Ok lim z) : ∀ b ∈ z.bs, (∀ p ∈ b, smallP p) ∧ b.length ≤ 20 := h.run.small fun x hx => by
  unfold keyK at hx
  split at hx
  · cases hx
  · split at hx
    · cases hx
    · omega
theorem TailOk.len {t : List UInt8} (h : TailOk t) : t.length ≤ 40700 := by
  rcases h with rfl | ⟨b, r, h1, h2, h3, h4⟩
  · exact Nat.zero_le _
  · have h5 := rec_le h3 h4
    rw [h1, List.length_append] at h5
    omega
theorem WS.Ok.len {lim : Nat} {z : WS} (h : WS.Ok lim z) : z.bytes.length ≤ (z.bs.length + 1) * 40700 := by
  have h1 := recs_len h.small
  have h2 := h.tail.len
  unfold WS.bytes
  rw [List.length_append, Nat.add_mul]
  omega

def WNewR (n : Int) (w : World) (e : Ending) (w' : World) : Prop :=
    ((n < 1 ∨ 60 < n) ∧ e = .returned (.tuple #[.pointer none, errR 1]) ∧ w = w') ∨ ((1 ≤ n ∧ n ≤ 60) ∧ ∃ b, e = .returned (.tuple #[.pointer (some ⟨b, 0, none⟩), .nilIface]) ∧ WG w' b n.toNat WS.new ∧ w.heap.size ≤ b ∧ Ext w w')
set_option maxRecDepth 100000 in
theorem WNew_any (n : Int) (w : World) : Calls Tryd.prog 4 #[.int .i64 n] w fun e w' => WNewR n w e w' := by
  obtain ⟨hE, hN, hG⟩ := errR_rules
  have HC := Lib.hid (LNew_any n w)
  by_cases hn : 1 ≤ n ∧ n ≤ 60
  · have HNN := Lib.hid hn
    clear hn
    go_enter Tryd.func4, Tryd.ntmps4
    go_wp2_with fail
    refine HC.out.mono ?_
    rintro _ w1 (⟨h, -⟩ | ⟨-, x, F, rfl, hl, hF, hb1⟩)
    · exact absurd HNN.out (by omega)
    · have HL := Lib.hid hl.any
      have B2 := Bk.at_ w1 41 #[.int .i64 n, .pointer (some ⟨x, 0, none⟩), .string ⟨#[]⟩, .int .i64 0, .int .i64 (-1), .bool false] w1.heap.size rfl
      have e2 : Ext w1 (w1.alloc (.cells #[.int .i64 n, .pointer (some ⟨x, 0, none⟩), .string ⟨#[]⟩, .int .i64 0, .int .i64 (-1), .bool false] 41)) := (Ext.refl _).alloc _
      have HB2 := Lib.hid B2
      clear hl hF B2
      go_wp2_with fail
      go_ret2
      refine .inr ⟨HNN.out, w1.heap.size, rfl, ⟨WS.Ok.new _, by have := HNN.out; omega, x, ⟨#[]⟩, ?_, rfl, ?_⟩, hb1.size, hb1.trans e2⟩
      · rw [Int.toNat_of_nonneg (by have := HNN.out; omega)]
        exact HB2.out
      · rw [Int.toNat_of_nonneg (by have := HNN.out; omega)]
        exact HL.out.ext e2
  · have HNN := Lib.hid hn
    clear hn
    go_enter Tryd.func4, Tryd.ntmps4
    go_wp2_with fail
    refine HC.out.mono ?_
    rintro _ w1 (⟨-, rfl, rfl⟩ | ⟨h, -⟩)
    · have hok : isOk 1 = false := rfl
      go_wp2_with fail
      go_ret2
      exact .inl ⟨by have := HNN.out; omega, rfl, rfl⟩
    · exact absurd h HNN.out
section
variable {w : World} {b lim : Nat} {z : WS}
theorem WLsm_any (h : WG w b lim z) : Calls Tryd.prog 7 #[.pointer (some ⟨b, 0, none⟩)] w fun e w' => (∃ x, e = .returned (.pointer (some ⟨x, 0, none⟩)) ∧ LM w' aF x lim (stZ lim z.bs).1 (stZ lim z.bs).2) ∧ w = w' := by
  obtain ⟨h1, h2, x, s, hb, hs, hl⟩ := h
  have c1 : w.cell? ⟨b, 1, none⟩ = some (.pointer (some ⟨x, 0, none⟩)) := hb.cell 1
  have HL := Lib.hid hl
  clear hb hs hl h1 h2
  go_enter Tryd.func7, Tryd.ntmps7
  go_wp2_with fail
  go_ret
  exact ⟨⟨x, rfl, HL.out⟩, rfl⟩
theorem WBytes_any (h : WG w b lim z) : Calls Tryd.prog 10 #[.pointer (some ⟨b, 0, none⟩)] w fun e w' => e = .returned (.int .i64 (z.bytes.length : Nat)) ∧ w = w' := by
  obtain ⟨h1, h2, x, s, hb, hs, hl⟩ := h
  have c2 : w.cell? ⟨b, 2, none⟩ = some (.string s) := hb.cell 2
  have hl2 : z.bytes.length = s.size := by rw [← hs]; rfl
  rw [hl2]
  clear hb hs hl h1 h2 hl2
  go_enter Tryd.func10, Tryd.ntmps10
  go_wp2_with fail
  go_ret
  exact ⟨rfl, rfl⟩
end
end Go.Proofs.YtcgfdhgceokcnaaDoor

/- wal: Safe, Fail, Sync. -/
namespace Go.Proofs.YtcgfdhgceokcnaaDoor
open Go.RowKit Go.WideShapes
set_option linter.unusedVariables false
attribute [local go_sem ↓] Go.wp_at_zero Go.wp_at_succ
section
variable {w : World} {b lim : Nat} {z : WS}
end
end Go.Proofs.YtcgfdhgceokcnaaDoor
