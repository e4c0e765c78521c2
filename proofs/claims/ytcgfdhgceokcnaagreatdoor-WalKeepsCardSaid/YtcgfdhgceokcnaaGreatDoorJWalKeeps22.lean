/- What is kept, plain: batches done, and what is left behind a crash. -/
import Derived.Test.YtcgfdhgceokcnaaGreatDoorJWalKeeps10
import Derived.Test.YtcgfdhgceokcnaaGreatDoorJWalKeeps17
import Derived.Test.YtcgfdhgceokcnaaGreatDoorJWalKeeps21
import Derived.Lib.MinMax
namespace Go.Proofs.YtcgfdhgceokcnaaGreatDoor
open Go.RowKit
set_option linter.unusedVariables false

/-! ### a batch -/
def badP (p : Pr) : Bool := p.gone && decide (p.value.size ≠ 0)
/-- the pairs of a batch, one by one; the first fault ends it -/
def runB (lim : Nat) : List Pr → List Pr → List (List Pr) → List Pr × List (List Pr)
  | [], Y, T => (Y, T)
  | p :: b, Y, T => if putK Y p = 0 then runB lim b (doY lim Y p) (doT lim Y T p) else (Y, T)
def runK (lim : Nat) : List Pr → List Pr → List (List Pr) → Int
  | [], Y, T => 0
  | p :: b, Y, T => if putK Y p = 0 then runK lim b (doY lim Y p) (doT lim Y T p) else putK Y p
def doK (lim : Nat) (Y : List Pr) (T : List (List Pr)) (b : List Pr) : Int := if 20 < b.length then 4 else if b.any badP = true then 3 else runK lim b Y T
def doZ (lim : Nat) (Y : List Pr) (T : List (List Pr)) (b : List Pr) : List Pr × List (List Pr) := if doK lim Y T b = 0 then runB lim b Y T else (Y, T)
theorem doK_len {lim : Nat} {Y : List Pr} {T : List (List Pr)} {b : List Pr} (h : doK lim Y T b = 0) : b.length ≤ 20 ∧ (∀ p ∈ b, badP p = false) ∧ runK lim b Y T = 0 := by
  unfold doK at h
  split at h
  · cases h
  · split at h
    · cases h
    · rename_i h1 h2
      refine ⟨by omega, fun p hp => ?_, h⟩
      cases hb : badP p with
      | false => rfl
      | true => exact absurd (List.any_eq_true.2 ⟨p, hp, hb⟩) h2
theorem putK_small {Y : List Pr} {p : Pr} (h : putK Y p = 0) : keyK p.key = 0 ∧ p.value.size ≤ 200 := by
  unfold putK at h
  by_cases h1 : keyK p.key = 0
  · rw [if_neg (not_not_intro h1)] at h
    by_cases h2 : 200 < p.value.size ∨ (hasB Y p.key = false ∧ 60 ≤ Y.length)
    · rw [if_pos h2] at h; cases h
    · exact ⟨h1, Nat.le_of_not_lt fun k => h2 (.inl k)⟩
  · rw [if_pos h1] at h; exact absurd h h1
theorem run_small {lim : Nat} : ∀ {b : List Pr} {Y : List Pr} {T : List (List Pr)}, runK lim b Y T = 0 → ∀ p ∈ b, keyK p.key = 0 ∧ p.value.size ≤ 200
  | [], Y, T, h, p, hp => by simp at hp
  | q :: b, Y, T, h, p, hp => by
    unfold runK at h
    by_cases hk : putK Y q = 0
    · rw [if_pos hk] at h
      rcases List.mem_cons.1 hp with rfl | hp
      · exact putK_small hk
      · exact run_small h p hp
    · rw [if_neg hk] at h; exact absurd h hk

/-! ### the batches that were done -/
def stZ (lim : Nat) (bs : List (List Pr)) : List Pr × List (List Pr) := bs.foldl (fun z b => doZ lim z.1 z.2 b) ([], [])
theorem stZ_snoc (lim : Nat) (bs : List (List Pr)) (b : List Pr) : stZ lim (bs ++ [b]) = doZ lim (stZ lim bs).1 (stZ lim bs).2 b := by
  unfold stZ
  rw [List.foldl_append]; rfl
/-- each of them was done -/
def BsOk (lim : Nat) (bs : List (List Pr)) : Prop := ∀ i b, bs[i]? = some b → doK lim (stZ lim (bs.take i)).1 (stZ lim (bs.take i)).2 b = 0
theorem BsOk.nil (lim : Nat) : BsOk lim [] := fun i b h => by simp at h
theorem BsOk.take {lim : Nat} {bs : List (List Pr)} (h : BsOk lim bs) (j : Nat) : BsOk lim (bs.take j) := fun i b hb => by
  have hi : i < j := by
    rcases Nat.lt_or_ge i j with h1 | h1
    · exact h1
    · rw [List.getElem?_eq_none (by rw [List.length_take]; omega)] at hb; cases hb
  rw [List.getElem?_take_of_lt hi] at hb
  rw [List.take_take, Nat.min_eq_left (by omega)]
  exact h i b hb
theorem BsOk.snoc {lim : Nat} {bs : List (List Pr)} (h : BsOk lim bs) {b : List Pr} (hb : doK lim (stZ lim bs).1 (stZ lim bs).2 b = 0) : BsOk lim (bs ++ [b]) := fun i c hc => by
  rcases Nat.lt_or_ge i bs.length with h1 | h1
  · rw [List.getElem?_append_left h1] at hc
    rw [List.take_append_of_le_length (by omega)]
    exact h i c hc
  · rw [List.getElem?_append_right h1] at hc
    have e : i - bs.length = 0 := by
      rcases Nat.eq_zero_or_pos (i - bs.length) with h2 | h2
      · exact h2
      · rw [List.getElem?_eq_none (by simp; omega)] at hc; cases hc
    rw [e] at hc
    obtain rfl : b = c := by simpa using hc
    rw [show i = bs.length by omega, List.take_append_of_le_length (Nat.le_refl _), List.take_length]
    exact hb
/-- keys and values are small -/
theorem key_small {k : ByteArray} (h : keyK k = 0) (hb : ∀ x : ByteArray, keyK x = 0 → x.size ≤ 1000) : k.size ≤ 1000 := hb k h
theorem BsOk.small {lim : Nat} {bs : List (List Pr)} (h : BsOk lim bs) (hb : ∀ x : ByteArray, keyK x = 0 → x.size ≤ 1000) : ∀ b ∈ bs, (∀ p ∈ b, smallP p) ∧ b.length ≤ 20 := fun b hm => by
  obtain ⟨i, hi⟩ := List.getElem?_of_mem hm
  obtain ⟨h1, h2, h3⟩ := doK_len (h i b hi)
  exact ⟨fun p hp => by
    obtain ⟨k1, k2⟩ := run_small h3 p hp
    exact ⟨hb _ k1, by omega⟩, h1⟩

/-! ### the bytes -/
def recsL (bs : List (List Pr)) : List UInt8 := bs.flatMap recL
def markN (bs : List (List Pr)) (i : Nat) : Nat := (recsL (bs.take i)).length
theorem recs_snoc (bs : List (List Pr)) (b : List Pr) : recsL (bs ++ [b]) = recsL bs ++ recL b := by
  unfold recsL
  rw [List.flatMap_append]; simp
theorem recs_cut (bs : List (List Pr)) (i : Nat) : recsL bs = recsL (bs.take i) ++ recsL (bs.drop i) := by
  unfold recsL
  rw [← List.flatMap_append, List.take_append_drop]
theorem mark_succ {bs : List (List Pr)} {i : Nat} {b : List Pr} (h : bs[i]? = some b) : markN bs (i + 1) = markN bs i + (recL b).length := by
  unfold markN
  obtain ⟨hlt, rfl⟩ := List.getElem?_eq_some_iff.1 h
  rw [List.take_succ_eq_append_getElem hlt, recs_snoc, List.length_append]
theorem mark_zero (bs : List (List Pr)) : markN bs 0 = 0 := rfl
theorem mark_all (bs : List (List Pr)) : markN bs bs.length = (recsL bs).length := by unfold markN; rw [List.take_length]
theorem mark_mono {bs : List (List Pr)} {i j : Nat} (h : i ≤ j) : markN bs i ≤ markN bs j := by
  unfold markN
  have e : bs.take j = bs.take i ++ (bs.take j).drop i := by
    have := List.take_append_drop i (bs.take j)
    rw [List.take_take, Nat.min_eq_left h] at this
    exact this.symm
  rw [e]
  unfold recsL
  rw [List.flatMap_append, List.length_append]
  omega
theorem mark_lt {bs : List (List Pr)} {i j : Nat} (h : i < j) (hj : j ≤ bs.length) : markN bs i < markN bs j := by
  have h1 := mark_succ (bs := bs) (i := i) (List.getElem?_eq_getElem (by omega))
  have h2 := mark_mono (bs := bs) (i := i + 1) (j := j) h
  have h3 := rec_ge (bs[i]'(by omega))
  omega
theorem mark_take {bs : List (List Pr)} {i j : Nat} (h : i ≤ j) : markN (bs.take j) i = markN bs i := by
  unfold markN
  rw [List.take_take, Nat.min_eq_left h]
/-- what is behind the batches is no whole one -/
def TailOk (t : List UInt8) : Prop := t = [] ∨ ∃ b r, recL b = t ++ r ∧ r ≠ [] ∧ (∀ p ∈ b, smallP p) ∧ b.length ≤ 20
theorem TailOk.next {t : List UInt8} (h : TailOk t) (k : Nat) : nextL (t.take k) = none := by
  rcases h with rfl | ⟨b, r, h1, h2, h3, h4⟩
  · rw [List.take_nil]; exact next_nil
  · refine next_less h3 h4 (t := t.take k) (r := t.drop k ++ r) ?_ (by simp [h2])
    rw [← List.append_assoc, List.take_append_drop]; exact h1
theorem TailOk.half {b : List Pr} (h : ∀ p ∈ b, smallP p) (hl : b.length ≤ 20) : TailOk ((recL b).take ((recL b).length / 2)) :=
  .inr ⟨b, (recL b).drop ((recL b).length / 2), (List.take_append_drop _ _).symm, by
    intro e
    have h1 := rec_ge b
    have h2 := congrArg List.length e
    rw [List.length_drop] at h2
    have h3 : (([] : List UInt8)).length = 0 := rfl
    omega, h, hl⟩
/-- what is read of the first n bytes, behind i batches -/
theorem crash_next {bs : List (List Pr)} {t : List UInt8} (hs : ∀ b ∈ bs, (∀ p ∈ b, smallP p) ∧ b.length ≤ 20) (ht : TailOk t) {n i : Nat} (hi : i ≤ bs.length) (hm : markN bs i ≤ n) (hn : n ≤ (recsL bs ++ t).length) :
    (∃ b, bs[i]? = some b ∧ markN bs (i + 1) ≤ n ∧ nextL (((recsL bs ++ t).take n).drop (markN bs i)) = some (b, ((recsL bs ++ t).take n).drop (markN bs (i + 1)))) ∨
    ((i = bs.length ∨ n < markN bs (i + 1)) ∧ nextL (((recsL bs ++ t).take n).drop (markN bs i)) = none) := by
  have e1 : (recsL bs ++ t).drop (markN bs i) = recsL (bs.drop i) ++ t := by
    conv => lhs; rw [recs_cut bs i]
    rw [List.append_assoc]
    exact List.drop_left
  have e2 : ((recsL bs ++ t).take n).drop (markN bs i) = (recsL (bs.drop i) ++ t).take (n - markN bs i) := by rw [List.drop_take, e1]
  rcases Nat.lt_or_ge i bs.length with hlt | hge
  · have hb := List.getElem?_eq_getElem hlt
    obtain ⟨hs1, hs2⟩ := hs _ (List.mem_of_getElem? hb)
    have hd : bs.drop i = bs[i] :: bs.drop (i + 1) := List.drop_eq_getElem_cons hlt
    generalize bs[i] = b at *
    have e3 : recsL (bs.drop i) ++ t = recL b ++ (recsL (bs.drop (i + 1)) ++ t) := by
      rw [hd]
      unfold recsL
      rw [List.flatMap_cons, List.append_assoc]
    have hms := mark_succ hb
    rcases Nat.lt_or_ge n (markN bs (i + 1)) with h1 | h1
    · refine .inr ⟨.inr h1, ?_⟩
      rw [e2, e3, List.take_append_of_le_length (by omega)]
      refine next_less hs1 hs2 (r := (recL b).drop (n - markN bs i)) (List.take_append_drop _ _).symm ?_
      intro e
      have h2 := congrArg List.length e
      rw [List.length_drop] at h2
      have h3 : (([] : List UInt8)).length = 0 := rfl
      omega
    · refine .inl ⟨b, hb, h1, ?_⟩
      have e4 : (recL b ++ (recsL (bs.drop (i + 1)) ++ t)).take (n - markN bs i) = recL b ++ (recsL (bs.drop (i + 1)) ++ t).take (n - markN bs (i + 1)) := by
        rw [List.take_append, List.take_of_length_le (by omega)]
        congr 2
        omega
      have e5 : (recsL bs ++ t).drop (markN bs (i + 1)) = recsL (bs.drop (i + 1)) ++ t := by
        conv => lhs; rw [recs_cut bs (i + 1)]
        rw [List.append_assoc]
        exact List.drop_left
      rw [e2, e3, e4, next_rec hs1 hs2, List.drop_take, e5]
  · obtain rfl : i = bs.length := by omega
    refine .inr ⟨.inl rfl, ?_⟩
    rw [e2, List.drop_length]
    exact ht.next _
/-- how many are whole among the first n bytes -/
def wholeN (bs : List (List Pr)) (n : Nat) : Nat → Nat
  | 0 => 0
  | k + 1 => if markN bs (k + 1) ≤ n then k + 1 else wholeN bs n k
theorem wholeN_spec (bs : List (List Pr)) (n : Nat) : ∀ k, wholeN bs n k ≤ k ∧ markN bs (wholeN bs n k) ≤ n ∧ ∀ i, i ≤ k → markN bs i ≤ n → i ≤ wholeN bs n k
  | 0 => ⟨Nat.le_refl _, by show markN bs 0 ≤ n; rw [mark_zero]; omega, fun i h _ => h⟩
  | k + 1 => by
    obtain ⟨h1, h2, h3⟩ := wholeN_spec bs n k
    unfold wholeN
    by_cases hk : markN bs (k + 1) ≤ n
    · rw [if_pos hk]; exact ⟨Nat.le_refl _, hk, fun i hi _ => hi⟩
    · rw [if_neg hk]
      refine ⟨by omega, h2, fun i hi hm => h3 i ?_ hm⟩
      rcases Nat.lt_or_ge i (k + 1) with h | h
      · omega
      · obtain rfl : i = k + 1 := by omega
        exact absurd hm hk
theorem wholeN_uniq {bs : List (List Pr)} {n i : Nat} (hi : i ≤ bs.length) (hm : markN bs i ≤ n) (h : i = bs.length ∨ n < markN bs (i + 1)) : wholeN bs n bs.length = i := by
  obtain ⟨h1, h2, h3⟩ := wholeN_spec bs n bs.length
  have h4 := h3 i hi hm
  rcases h with h | h
  · omega
  · rcases Nat.lt_or_ge i (wholeN bs n bs.length) with h5 | h5
    · have := mark_mono (bs := bs) (i := i + 1) (j := wholeN bs n bs.length) h5
      omega
    · omega
theorem recs_len {bs : List (List Pr)} (hs : ∀ b ∈ bs, (∀ p ∈ b, smallP p) ∧ b.length ≤ 20) : (recsL bs).length ≤ bs.length * 40700 := by
  induction bs with
  | nil => simp [recsL]
  | cons b bs ih =>
    have h1 := ih fun c hc => hs c (List.mem_cons_of_mem _ hc)
    obtain ⟨h2, h3⟩ := hs b (List.mem_cons_self ..)
    have h4 := rec_le h2 h3
    show (recL b ++ recsL bs).length ≤ _
    rw [List.length_append, List.length_cons, Nat.add_mul]
    omega
/-! ### bounds -/
theorem runB_tot (lim : Nat) : ∀ (b Y : List Pr) (T : List (List Pr)), totL ((runB lim b Y T).1 :: (runB lim b Y T).2) ≤ totL (Y :: T) + b.length
  | [], Y, T => by show totL (Y :: T) ≤ _; omega
  | p :: b, Y, T => by
    unfold runB
    by_cases hk : putK Y p = 0
    · rw [if_pos hk]
      have ih := runB_tot lim b (doY lim Y p) (doT lim Y T p)
      have := do_tot lim Y T p
      rw [List.length_cons]; omega
    · rw [if_neg hk]; show totL (Y :: T) ≤ _; omega
theorem doZ_tot (lim : Nat) (Y : List Pr) (T : List (List Pr)) (b : List Pr) : totL ((doZ lim Y T b).1 :: (doZ lim Y T b).2) ≤ totL (Y :: T) + 20 := by
  unfold doZ
  by_cases hk : doK lim Y T b = 0
  · rw [if_pos hk]
    have h1 := (doK_len hk).1
    have h2 := runB_tot lim b Y T
    omega
  · rw [if_neg hk]; show totL (Y :: T) ≤ _; omega
theorem fold_tot (lim : Nat) : ∀ (bs : List (List Pr)) (z : List Pr × List (List Pr)), totL ((bs.foldl (fun z b => doZ lim z.1 z.2 b) z).1 :: (bs.foldl (fun z b => doZ lim z.1 z.2 b) z).2) ≤ totL (z.1 :: z.2) + 20 * bs.length
  | [], z => by show totL (z.1 :: z.2) ≤ _; omega
  | b :: bs, z => by
    have ih := fold_tot lim bs (doZ lim z.1 z.2 b)
    have h1 := doZ_tot lim z.1 z.2 b
    rw [List.foldl_cons, List.length_cons]
    omega
theorem stZ_tot (lim : Nat) (bs : List (List Pr)) : totL ((stZ lim bs).1 :: (stZ lim bs).2) ≤ 20 * bs.length := by
  have h := fold_tot lim bs ([], [])
  have h0 : totL (([] : List Pr) :: []) = 0 := rfl
  show totL ((bs.foldl (fun z b => doZ lim z.1 z.2 b) ([], [])).1 :: (bs.foldl (fun z b => doZ lim z.1 z.2 b) ([], [])).2) ≤ _
  simp only at h
  omega
theorem badP_ok {p : Pr} (h : badP p = false) : p.gone = true → p.value.size = 0 := fun hg => by
  unfold badP at h
  rw [hg] at h
  simpa using h
theorem runB_ok (lim : Nat) : ∀ (b Y : List Pr) (T : List (List Pr)), (∀ p ∈ b, badP p = false) → LsOk (Y :: T) → LsOk ((runB lim b Y T).1 :: (runB lim b Y T).2)
  | [], Y, T, _, h => h
  | p :: b, Y, T, hb, h => by
    unfold runB
    by_cases hk : putK Y p = 0
    · rw [if_pos hk]
      exact runB_ok lim b _ _ (fun q hq => hb q (List.mem_cons_of_mem _ hq)) (do_ok h (badP_ok (hb p (List.mem_cons_self ..))))
    · rw [if_neg hk]; exact h
theorem runB_young (lim : Nat) : ∀ (b Y : List Pr) (T : List (List Pr)), Y.length < lim → (runB lim b Y T).1.length < lim
  | [], Y, T, h => h
  | p :: b, Y, T, h => by
    unfold runB
    by_cases hk : putK Y p = 0
    · rw [if_pos hk]
      exact runB_young lim b _ _ (do_young h)
    · rw [if_neg hk]; exact h

/-! ### what is kept -/
structure WS where
  bs : List (List Pr)
  t : List UInt8
  safe : Nat
  left : Int
  stop : Bool
def WS.bytes (z : WS) : List UInt8 := recsL z.bs ++ z.t
def WS.step (z : WS) : WS := { z with left := max (-1) (z.left - 1), stop := z.left == 0 }
def WS.put (lim : Nat) (z : WS) (b : List Pr) : Int × WS :=
  if z.stop = true then (6, z) else if doK lim (stZ lim z.bs).1 (stZ lim z.bs).2 b = 0 then
    (if z.left = 0 then (6, { z.step with t := (recL b).take ((recL b).length / 2) }) else (0, { z.step with bs := z.bs ++ [b] }))
  else (doK lim (stZ lim z.bs).1 (stZ lim z.bs).2 b, z)
def WS.sync (z : WS) : Int × WS := if z.stop = true then (6, z) else if z.left = 0 then (6, z.step) else (0, { z.step with safe := z.bytes.length })
def WS.fail (z : WS) (n : Int) : WS := { z with left := max (-1) n }
def WS.high (z : WS) (keep : Int) : Nat := z.safe + (max 0 (min keep ((z.bytes.length : Int) - (z.safe : Int)))).toNat
def WS.many (z : WS) (keep : Int) : Nat := wholeN z.bs (z.high keep) z.bs.length
def WS.crash (z : WS) (keep : Int) : WS := ⟨z.bs.take (z.many keep), [], markN z.bs (z.many keep), -1, false⟩
def WS.new : WS := ⟨[], [], 0, -1, false⟩
/-- it is in order -/
structure WS.Ok (lim : Nat) (z : WS) : Prop where
  run : BsOk lim z.bs
  tail : TailOk z.t
  go : z.stop = false → z.t = []
  safe : z.safe ≤ z.bytes.length
  left : -1 ≤ z.left ∧ z.left ≤ 9223372036854775807
theorem WS.Ok.new (lim : Nat) : WS.Ok lim WS.new := ⟨BsOk.nil lim, .inl rfl, fun _ => rfl, Nat.zero_le _, by decide, by decide⟩
/-- few enough -/
def WS.few (z : WS) : Prop := z.bs.length ≤ 100 ∧ z.bs.flatten.length ≤ 900
theorem fold_flat (lim : Nat) : ∀ (bs : List (List Pr)) (z : List Pr × List (List Pr)), totL ((bs.foldl (fun z b => doZ lim z.1 z.2 b) z).1 :: (bs.foldl (fun z b => doZ lim z.1 z.2 b) z).2) ≤ totL (z.1 :: z.2) + bs.flatten.length
  | [], z => by show totL (z.1 :: z.2) ≤ _; omega
  | b :: bs, z => by
    have ih := fold_flat lim bs (doZ lim z.1 z.2 b)
    have h1 : totL ((doZ lim z.1 z.2 b).1 :: (doZ lim z.1 z.2 b).2) ≤ totL (z.1 :: z.2) + b.length := by
      unfold doZ
      split
      · exact runB_tot lim b z.1 z.2
      · show totL (z.1 :: z.2) ≤ _; omega
    rw [List.foldl_cons, List.flatten_cons, List.length_append]
    omega
theorem stZ_flat (lim : Nat) (bs : List (List Pr)) : totL ((stZ lim bs).1 :: (stZ lim bs).2) ≤ bs.flatten.length := by
  have h := fold_flat lim bs ([], [])
  have h0 : totL (([] : List Pr) :: []) = 0 := rfl
  show totL ((bs.foldl (fun z b => doZ lim z.1 z.2 b) ([], [])).1 :: (bs.foldl (fun z b => doZ lim z.1 z.2 b) ([], [])).2) ≤ _
  simp only at h
  omega
theorem flat_pre (bs : List (List Pr)) (i : Nat) : (bs.take i).flatten.length ≤ bs.flatten.length := by
  have h : bs.flatten = (bs.take i).flatten ++ (bs.drop i).flatten := by rw [← List.flatten_append, List.take_append_drop]
  rw [h, List.length_append]
  omega
theorem flat_le {k : Nat} : ∀ {bs : List (List Pr)}, (∀ b ∈ bs, b.length ≤ k) → bs.flatten.length ≤ bs.length * k
  | [], _ => by simp
  | b :: bs, h => by
    have ih := flat_le (bs := bs) fun c hc => h c (List.mem_cons_of_mem _ hc)
    have h1 := h b (List.mem_cons_self ..)
    rw [List.flatten_cons, List.length_append, List.length_cons, Nat.add_mul]
    omega
end Go.Proofs.YtcgfdhgceokcnaaGreatDoor

/- wal: its block; step, Fail, Sync, Bytes, Safe, Lsm, New. -/
namespace Go.Proofs.YtcgfdhgceokcnaaGreatDoor
open Go.RowKit Go.WideShapes
set_option linter.unusedVariables false
attribute [local go_sem ↓] Go.wp_at_zero Go.wp_at_succ

section
variable {w w' : World} {b x lim : Nat}
/-- its block is written: the lsm stays -/
theorem LM.wal {cs : Array Value} {lim : Int} {Y : List Pr} {T : List (List Pr)} (h : LM w aF x lim Y T) (hb : Bk w b 72 cs) (k : Chg w w' (fun g => g = b)) : LM w' aF x lim Y T := by
  obtain ⟨sb, sv, lv, ts, hL, hT, hF, hH⟩ := h
  refine ⟨sb, sv, lv, ts, hL.chg k fun g hg e => ?_, hT, hF, hH⟩
  have e' : g = b := e
  subst e'
  rcases hg with e | e | e | e | ⟨t, ht, e | e⟩
  · exact bk_ne hL.bk hb (by decide) e.symm
  · exact bk_ne hL.st.bk hb (by decide) e.symm
  · exact own_type hL.st.own hb (by decide) e
  · exact own_type hL.own hb (by decide) e
  · exact bk_ne (hL.tab t ht).bk hb (by decide) e.symm
  · exact own_type (hL.tab t ht).own hb (by decide) e
end

theorem set_chg1 (w : World) (b o : Nat) (v : Value) : Chg w (w.setCell ⟨b, o, none⟩ v) (fun g => g = b) := (gb_chg (gb_set w b o v)).mono fun g _ hg => by injection hg with hg; exact hg.symm

set_option maxRecDepth 100000 in
theorem WStep_any (b : Nat) (lim : Int) (px : Value) (s : ByteArray) (safe left : Int) (stop : Bool) (w : World) (h : Bk w b 72 #[.int .i64 lim, px, .string s, .int .i64 safe, .int .i64 left, .bool stop]) (h1 : -1 ≤ left) (h2 : left ≤ 9223372036854775807) :
    Calls Tryz.prog 33 #[.pointer (some ⟨b, 0, none⟩)] w fun e w' => e = .returned (.bool ((left == 0))) ∧ Bk w' b 72 #[.int .i64 lim, px, .string s, .int .i64 safe, .int .i64 (max (-1) (left - 1)), .bool ((left == 0))] ∧ Chg w w' (fun g => g = b) := by
  have c4 : w.cell? ⟨b, 4, none⟩ = some (.int .i64 left) := h.cell 4
  have f5 : w.frozen? ⟨b, 5, none⟩ = false := h.frozen 5
  have c5 : w.cell? ⟨b, 5, none⟩ = some (.bool stop) := h.cell 5
  have HB := Lib.hid h
  clear h
  go_enter Tryz.func33, Tryz.ntmps33
  have B1 := HB.out.set_ 5 (.bool (left == 0))
  have k1 := set_chg1 w b 5 (.bool (left == 0))
  go_upto_region 2 with (fail)
  generalize w.setCell ⟨b, 5, none⟩ (.bool (left == 0)) = W1 at *
  have d4 : W1.cell? ⟨b, 4, none⟩ = some (.int .i64 left) := B1.cell 4
  have g4 : W1.frozen? ⟨b, 4, none⟩ = false := B1.frozen 4
  have hw : IntKind.i64.wrap (left - 1) = left - 1 := IntWalk.i64_in _ (by omega)
  have B2 := B1.set_ 4 (.int .i64 (max (-1) (left - 1)))
  have k2 := k1.trans (set_chg1 W1 b 4 (.int .i64 (max (-1) (left - 1)))) (fun g _ hg => hg)
  clear c4 f5 c5 HB
  go_upto_region 3 with (fail)
  generalize W1.setCell ⟨b, 4, none⟩ (.int .i64 (max (-1) (left - 1))) = W2 at *
  have d5 : W2.cell? ⟨b, 5, none⟩ = some (.bool (left == 0)) := B2.cell 5
  go_wp2_with fail
  go_ret
  exact ⟨rfl, B2, k2⟩

/-! ### what is kept, in memory -/
structure WG (w : World) (b lim : Nat) (z : WS) : Prop where
  ok : WS.Ok lim z
  lim_ : 1 ≤ lim ∧ lim ≤ 60
  at_ : ∃ (x : Nat) (s : ByteArray), Bk w b 72 #[.int .i64 lim, .pointer (some ⟨x, 0, none⟩), .string s, .int .i64 (z.safe : Int), .int .i64 z.left, .bool z.stop] ∧ s.data.toList = z.bytes ∧ LM w aF x lim (stZ lim z.bs).1 (stZ lim z.bs).2
theorem WG.ext {w w' : World} {b lim : Nat} {z : WS} (h : WG w b lim z) (e : Ext w w') : WG w' b lim z := by
  obtain ⟨h1, h2, x, s, hb, hs, hl⟩ := h
  exact ⟨h1, h2, x, s, hb.ext e, hs, hl.ext e⟩
theorem WG.lt {w : World} {b lim : Nat} {z : WS} (h : WG w b lim z) : b < w.heap.size := by
  obtain ⟨h1, h2, x, s, hb, hs, hl⟩ := h
  exact hb.lt
theorem WS.Ok.small {lim : Nat} {z : WS} (h : WS.Ok lim z) : ∀ b ∈ z.bs, (∀ p ∈ b, smallP p) ∧ b.length ≤ 20 := h.run.small fun x hx => by
  unfold keyK at hx
  split at hx
  · cases hx
  · split at hx
    · cases hx
    · omega
theorem TailOk.len {t : List UInt8} (h : TailOk t) : t.length ≤ 40700 := by
  rcases h with rfl | ⟨b, r, h1, h2, h3, h4⟩
  · exact Nat.zero_le _
  · have h5 := rec_le h3 h4
    rw [h1, List.length_append] at h5
    omega
theorem WS.Ok.len {lim : Nat} {z : WS} (h : WS.Ok lim z) : z.bytes.length ≤ (z.bs.length + 1) * 40700 := by
  have h1 := recs_len h.small
  have h2 := h.tail.len
  unfold WS.bytes
  rw [List.length_append, Nat.add_mul]
  omega

def WNewR (n : Int) (w : World) (e : Ending) (w' : World) : Prop :=
    ((n < 1 ∨ 60 < n) ∧ e = .returned (.tuple #[.pointer none, errR 1]) ∧ w = w') ∨ ((1 ≤ n ∧ n ≤ 60) ∧ ∃ b, e = .returned (.tuple #[.pointer (some ⟨b, 0, none⟩), .nilIface]) ∧ WG w' b n.toNat WS.new ∧ w.heap.size ≤ b ∧ Ext w w')
set_option maxRecDepth 100000 in
theorem WNew_any (n : Int) (w : World) : Calls Tryz.prog 6 #[.int .i64 n] w fun e w' => WNewR n w e w' := by
  obtain ⟨hE, hN, hG⟩ := errR_rules
  have HC := Lib.hid (LNew_any n w)
  by_cases hn : 1 ≤ n ∧ n ≤ 60
  · have HNN := Lib.hid hn
    clear hn
    go_enter Tryz.func6, Tryz.ntmps6
    go_wp2_with fail
    refine HC.out.mono ?_
    rintro _ w1 (⟨h, -⟩ | ⟨-, x, F, rfl, hl, hF, hb1⟩)
    · exact absurd HNN.out (by omega)
    · have HL := Lib.hid hl.any
      have B2 := Bk.at_ w1 72 #[.int .i64 n, .pointer (some ⟨x, 0, none⟩), .string ⟨#[]⟩, .int .i64 0, .int .i64 (-1), .bool false] w1.heap.size rfl
      have e2 : Ext w1 (w1.alloc (.cells #[.int .i64 n, .pointer (some ⟨x, 0, none⟩), .string ⟨#[]⟩, .int .i64 0, .int .i64 (-1), .bool false] 72)) := (Ext.refl _).alloc _
      have HB2 := Lib.hid B2
      clear hl hF B2
      go_wp2_with fail
      go_ret2
      refine .inr ⟨HNN.out, w1.heap.size, rfl, ⟨WS.Ok.new _, by have := HNN.out; omega, x, ⟨#[]⟩, ?_, rfl, ?_⟩, hb1.size, hb1.trans e2⟩
      · rw [Int.toNat_of_nonneg (by have := HNN.out; omega)]
        exact HB2.out
      · rw [Int.toNat_of_nonneg (by have := HNN.out; omega)]
        exact HL.out.ext e2
  · have HNN := Lib.hid hn
    clear hn
    go_enter Tryz.func6, Tryz.ntmps6
    go_wp2_with fail
    refine HC.out.mono ?_
    rintro _ w1 (⟨-, rfl, rfl⟩ | ⟨h, -⟩)
    · have hok : isOk 1 = false := rfl
      go_wp2_with fail
      go_ret2
      exact .inl ⟨by have := HNN.out; omega, rfl, rfl⟩
    · exact absurd h HNN.out
section
variable {w : World} {b lim : Nat} {z : WS}
theorem WLsm_any (h : WG w b lim z) : Calls Tryz.prog 10 #[.pointer (some ⟨b, 0, none⟩)] w fun e w' => (∃ x, e = .returned (.pointer (some ⟨x, 0, none⟩)) ∧ LM w' aF x lim (stZ lim z.bs).1 (stZ lim z.bs).2) ∧ w = w' := by
  obtain ⟨h1, h2, x, s, hb, hs, hl⟩ := h
  have c1 : w.cell? ⟨b, 1, none⟩ = some (.pointer (some ⟨x, 0, none⟩)) := hb.cell 1
  have HL := Lib.hid hl
  clear hb hs hl h1 h2
  go_enter Tryz.func10, Tryz.ntmps10
  go_wp2_with fail
  go_ret
  exact ⟨⟨x, rfl, HL.out⟩, rfl⟩
theorem WBytes_any (h : WG w b lim z) : Calls Tryz.prog 12 #[.pointer (some ⟨b, 0, none⟩)] w fun e w' => e = .returned (.int .i64 (z.bytes.length : Nat)) ∧ w = w' := by
  obtain ⟨h1, h2, x, s, hb, hs, hl⟩ := h
  have c2 : w.cell? ⟨b, 2, none⟩ = some (.string s) := hb.cell 2
  have hl2 : z.bytes.length = s.size := by rw [← hs]; rfl
  rw [hl2]
  clear hb hs hl h1 h2 hl2
  go_enter Tryz.func12, Tryz.ntmps12
  go_wp2_with fail
  go_ret
  exact ⟨rfl, rfl⟩
end
end Go.Proofs.YtcgfdhgceokcnaaGreatDoor

/- wal: Safe, Fail, Sync. -/
namespace Go.Proofs.YtcgfdhgceokcnaaGreatDoor
open Go.RowKit Go.WideShapes
set_option linter.unusedVariables false
attribute [local go_sem ↓] Go.wp_at_zero Go.wp_at_succ
section
variable {w : World} {b lim : Nat} {z : WS}
theorem WSafe_any (h : WG w b lim z) : Calls Tryz.prog 13 #[.pointer (some ⟨b, 0, none⟩)] w fun e w' => e = .returned (.int .i64 (z.safe : Nat)) ∧ w = w' := by
  obtain ⟨h1, h2, x, s, hb, hs, hl⟩ := h
  have c3 : w.cell? ⟨b, 3, none⟩ = some (.int .i64 (z.safe : Int)) := hb.cell 3
  clear hb hs hl h1 h2
  go_enter Tryz.func13, Tryz.ntmps13
  go_wp2_with fail
  go_ret
  exact ⟨rfl, rfl⟩
theorem WFail_any (h : WG w b lim z) (n : Int) (hn : n ≤ 9223372036854775807) : Calls Tryz.prog 14 #[.pointer (some ⟨b, 0, none⟩), .int .i64 n] w fun e w' => (∃ v, e = .returned v) ∧ WG w' b lim (z.fail n) ∧ Chg w w' (fun g => g = b) := by
  obtain ⟨h1, h2, x, s, hb, hs, hl⟩ := h
  have f4 : w.frozen? ⟨b, 4, none⟩ = false := hb.frozen 4
  have c4 : w.cell? ⟨b, 4, none⟩ = some (.int .i64 z.left) := hb.cell 4
  have HB := Lib.hid (hb.set_ 4 (.int .i64 (max (-1) n)))
  have HK := Lib.hid (set_chg1 w b 4 (.int .i64 (max (-1) n)))
  have HF : Hid (∀ w', Bk w' b 72 #[.int .i64 lim, .pointer (some ⟨x, 0, none⟩), .string s, .int .i64 (z.safe : Int), .int .i64 (max (-1) n), .bool z.stop] → Chg w w' (fun g => g = b) → WG w' b lim (z.fail n)) := Lib.hid fun w' hb' k => ⟨⟨h1.run, h1.tail, h1.go, h1.safe, by show -1 ≤ max (-1) n ∧ max (-1) n ≤ _; omega⟩, h2, x, s, hb', hs, LM.wal hl hb k⟩
  clear h1 h2 hb hs hl
  go_enter Tryz.func14, Tryz.ntmps14
  go_wp2_with fail
  refine bodyPost_end (results_none rfl _ _ _) rfl ?_
  exact ⟨⟨_, rfl⟩, HF.out _ HB.out HK.out, HK.out⟩
theorem WS.sync_stop (h : z.stop = true) : z.sync = (6, z) := if_pos h
theorem WS.sync_at (h : z.stop = false) (hl : z.left = 0) : z.sync = (6, ⟨z.bs, z.t, z.safe, -1, true⟩) := by
  unfold WS.sync
  rw [if_neg (by rw [h]; decide), if_pos hl]
  unfold WS.step
  rw [hl]; rfl
theorem WS.sync_ok (h : z.stop = false) (hl : z.left ≠ 0) : z.sync = (0, ⟨z.bs, z.t, z.bytes.length, max (-1) (z.left - 1), false⟩) := by
  unfold WS.sync
  rw [if_neg (by rw [h]; decide), if_neg hl]
  unfold WS.step
  rw [beq_eq_false_iff_ne.2 hl]
set_option maxRecDepth 100000 in
set_option maxHeartbeats 1000000 in
theorem WSync_any (h : WG w b lim z) : Calls Tryz.prog 8 #[.pointer (some ⟨b, 0, none⟩)] w fun e w' => e = .returned (errR z.sync.1) ∧ WG w' b lim z.sync.2 ∧ Chg w w' (fun g => g = b) := by
  have HWG := Lib.hid h
  obtain ⟨hok, hlim, x, s, hb, hs, hl⟩ := h
  have c5 : w.cell? ⟨b, 5, none⟩ = some (.bool z.stop) := hb.cell 5
  cases hst : z.stop with
  | true =>
    rw [WS.sync_stop hst]
    rw [hst] at c5
    clear hb hs hl hok
    go_enter Tryz.func8, Tryz.ntmps8
    go_wp2_with fail
    go_ret
    exact ⟨rfl, HWG.out, (Ext.refl _).chg _⟩
  | false =>
    rw [hst] at c5
    have hle := hok.left
    obtain ⟨l, hl0⟩ : ∃ l, z.left = l := ⟨_, rfl⟩
    have hb' := hb
    rw [hl0, hst] at hb'
    rw [hl0] at hle
    have HSTEP := Lib.hid (WStep_any b lim (.pointer (some ⟨x, 0, none⟩)) s z.safe l false w hb' hle.1 hle.2)
    by_cases hlz : l = 0
    · subst hlz
      rw [WS.sync_at hst hl0]
      have HKEEP : Hid (∀ w', Chg w w' (fun g => g = b) → Bk w' b 72 #[.int .i64 lim, .pointer (some ⟨x, 0, none⟩), .string s, .int .i64 (z.safe : Int), .int .i64 (-1), .bool true] → WG w' b lim ⟨z.bs, z.t, z.safe, -1, true⟩) := Lib.hid fun w' k hbk => ⟨⟨hok.run, hok.tail, (fun e => by cases e), hok.safe, by show (-1 : Int) ≤ -1; omega, by show (-1 : Int) ≤ _; omega⟩, hlim, x, s, hbk, hs, LM.wal hl hb k⟩
      clear hb hs hl hok hb' hl0
      go_enter Tryz.func8, Tryz.ntmps8
      go_wp2_with fail
      refine HSTEP.out.mono ?_
      rintro _ w3 ⟨rfl, hb3, k3⟩
      have HK3 := Lib.hid k3
      have HB3 := Lib.hid hb3
      clear hb3 k3
      go_wp2_with fail
      go_ret
      exact ⟨rfl, HKEEP.out w3 HK3.out HB3.out, HK3.out⟩
    · rw [WS.sync_ok hst (by rw [hl0]; exact hlz), hl0]
      have hbe : (l == 0) = false := beq_eq_false_iff_ne.2 hlz
      have hss : z.bytes.length = s.size := by rw [← hs]; rfl
      have HKEEP : Hid (∀ w', Chg w w' (fun g => g = b) → Bk w' b 72 #[.int .i64 lim, .pointer (some ⟨x, 0, none⟩), .string s, .int .i64 (s.size : Int), .int .i64 (max (-1) (l - 1)), .bool false] → WG w' b lim ⟨z.bs, z.t, s.size, max (-1) (l - 1), false⟩) := Lib.hid fun w' k hbk => ⟨⟨hok.run, hok.tail, fun _ => hok.go hst, by show s.size ≤ z.bytes.length; omega, by show -1 ≤ max (-1) (l - 1); omega, by show max (-1) (l - 1) ≤ _; omega⟩, hlim, x, s, hbk, hs, LM.wal hl hb k⟩
      rw [hss]
      rw [hbe] at HSTEP
      clear hb hs hl hok hb' hl0 hbe hss
      go_enter Tryz.func8, Tryz.ntmps8
      go_wp2_with fail
      refine HSTEP.out.mono ?_
      rintro _ w3 ⟨rfl, hb3, k3⟩
      have d2 : w3.cell? ⟨b, 2, none⟩ = some (.string s) := hb3.cell 2
      have f3 : w3.frozen? ⟨b, 3, none⟩ = false := hb3.frozen 3
      have d3 : w3.cell? ⟨b, 3, none⟩ = some (.int .i64 (z.safe : Int)) := hb3.cell 3
      have B4 := Lib.hid (hb3.set_ 3 (.int .i64 (s.size : Int)))
      have k4 := Lib.hid (k3.trans (set_chg1 w3 b 3 (.int .i64 (s.size : Int))) fun g _ hg => hg)
      clear hb3 k3
      go_wp2_with fail
      go_ret
      exact ⟨rfl, HKEEP.out _ k4.out B4.out, k4.out⟩
end
end Go.Proofs.YtcgfdhgceokcnaaGreatDoor

/- wal.Do: a batch done to a copy. -/
namespace Go.Proofs.YtcgfdhgceokcnaaGreatDoor
open Go.RowKit Go.WideShapes
set_option linter.unusedVariables false
attribute [local go_sem ↓] Go.wp_at_zero Go.wp_at_succ

theorem run_at {lim : Nat} {b : List Pr} {j : Nat} {p : Pr} (h : b[j]? = some p) (Y : List Pr) (T : List (List Pr)) :
    (putK Y p = 0 → runK lim (b.drop j) Y T = runK lim (b.drop (j + 1)) (doY lim Y p) (doT lim Y T p) ∧ runB lim (b.drop j) Y T = runB lim (b.drop (j + 1)) (doY lim Y p) (doT lim Y T p)) ∧ (putK Y p ≠ 0 → runK lim (b.drop j) Y T = putK Y p) := by
  obtain ⟨hlt, rfl⟩ := List.getElem?_eq_some_iff.1 h
  rw [List.drop_eq_getElem_cons hlt]
  exact ⟨fun hk => ⟨if_pos hk, if_pos hk⟩, fun hk => if_neg hk⟩
theorem doK_run {lim : Nat} {b Y : List Pr} {T : List (List Pr)} (h : b.length ≤ 20) (hb : ∀ p ∈ b, badP p = false) : doK lim Y T b = runK lim b Y T := by
  unfold doK
  rw [if_neg (by omega), if_neg]
  intro h2
  obtain ⟨p, hp, hq⟩ := List.any_eq_true.1 h2
  rw [hb p hp] at hq
  cases hq
theorem doK_bad {lim : Nat} {b Y : List Pr} {T : List (List Pr)} (h : b.length ≤ 20) {p : Pr} (hp : p ∈ b) (hb : badP p = true) : doK lim Y T b = 3 := by
  unfold doK
  rw [if_neg (by omega), if_pos (List.any_eq_true.2 ⟨p, hp, hb⟩)]
/-- what Do leaves -/
def DoR (x lim : Nat) (Y : List Pr) (T : List (List Pr)) (b : List Pr) (w : World) (e : Ending) (w' : World) : Prop :=
  ∃ k : Int, doK lim Y T b = k ∧ Ext w w' ∧ ((k ≠ 0 ∧ e = .returned (.tuple #[.pointer (some ⟨x, 0, none⟩), errR k])) ∨ (k = 0 ∧ ∃ x', e = .returned (.tuple #[.pointer (some ⟨x', 0, none⟩), .nilIface]) ∧ LM w' aF x' lim (runB lim b Y T).1 (runB lim b Y T).2))
/-- how far the batch is done -/
def RunI (lim : Nat) (b Y : List Pr) (T : List (List Pr)) (j : Nat) (Yj : List Pr) (Tj : List (List Pr)) : Prop :=
  runK lim b Y T = runK lim (b.drop j) Yj Tj ∧ runB lim b Y T = runB lim (b.drop j) Yj Tj ∧ totL (Yj :: Tj) ≤ 900 + j
theorem RunI.next {lim : Nat} {b Y Yj : List Pr} {T Tj : List (List Pr)} {j : Nat} (h : RunI lim b Y T j Yj Tj) {p : Pr} (hp : b[j]? = some p) (hk : putK Yj p = 0) : RunI lim b Y T (j + 1) (doY lim Yj p) (doT lim Yj Tj p) := by
  obtain ⟨h1, h2, h3⟩ := h
  obtain ⟨k1, k2⟩ := (run_at hp Yj Tj).1 hk
  have := do_tot lim Yj Tj p
  exact ⟨h1.trans k1, h2.trans k2, by omega⟩
theorem RunI.bad {lim : Nat} {b Y Yj : List Pr} {T Tj : List (List Pr)} {j : Nat} (h : RunI lim b Y T j Yj Tj) {p : Pr} (hp : b[j]? = some p) {k : Int} (he : putK Yj p = k) (hk : k ≠ 0) : runK lim b Y T = k := by
  rw [h.1, (run_at hp Yj Tj).2 (by rw [he]; exact hk), he]
theorem RunI.end_ {lim : Nat} {b Y Yj : List Pr} {T Tj : List (List Pr)} {j : Nat} (h : RunI lim b Y T j Yj Tj) (hj : b.length ≤ j) : runK lim b Y T = 0 ∧ runB lim b Y T = (Yj, Tj) := by
  obtain ⟨h1, h2, -⟩ := h
  rw [List.drop_of_length_le hj] at h1 h2
  exact ⟨h1, h2⟩

set_option maxRecDepth 100000 in
set_option maxHeartbeats 4000000 in
theorem WDo_any (x lim : Nat) (Y : List Pr) (T : List (List Pr)) (A : Option Addr) (n c : Nat) (b : List Pr) (w : World) (h : LM w aF x lim Y T) (hr : Rd w 3 A n c (b.flatMap Pr.cells)) (hbl : b.length = n) (hc : c ≤ maxLen) (htot : totL (Y :: T) ≤ 900) (hlim : 1 ≤ lim) :
    Calls Tryz.prog 31 #[.pointer (some ⟨x, 0, none⟩), .slice A n c] w fun e w' => DoR x lim Y T b w e w' := by
  obtain ⟨hE, hN, hG⟩ := errR_rules
  have hn0 := hr.2.1
  have HBL := Lib.hid hbl
  unfold maxLen at hc
  by_cases h20 : n ≤ 20
  case neg =>
    have hk : doK lim Y T b = 4 := if_pos (by omega)
    have HK := Lib.hid hk
    have h20i : (20 : Int) < (n : Int) := by omega
    clear hk h hr hbl htot h20
    go_enter Tryz.func31, Tryz.ntmps31
    go_wp2_with fail
    go_ret2
    exact ⟨4, HK.out, Ext.refl _, .inl ⟨by decide, rfl⟩⟩
  case pos =>
    have h20i : ¬ (20 : Int) < (n : Int) := by omega
    have HR := Lib.hid hr
    have HLM := Lib.hid h
    have HTOT := Lib.hid htot
    have h0 : Hid (∀ p ∈ b.take 0, badP p = false) := Lib.hid (by simp)
    clear h hr htot hbl
    go_enter Tryz.func31, Tryz.ntmps31
    go_wp2_with fail
    go_loopw [7, 19] (fun _ u wr => ∃ i : Nat, u = .int .i64 i ∧ i ≤ n ∧ Ext w wr ∧ Hid (∀ p ∈ b.take i, badP p = false)) (fun _ u _ => n - (intOf u).toNat)
    case atStart => exact ⟨0, rfl, Nat.zero_le _, Ext.refl _, h0⟩
    case round =>
      obtain ⟨i, rfl, hi, hbw, hgood⟩ := hrel
      by_cases hci : i < n
      · obtain ⟨p, hp⟩ : ∃ p, b[i]? = some p := ⟨_, List.getElem?_eq_getElem (by rw [HBL.out]; exact hci)⟩
        obtain ⟨ad1, rfl, hb1, y0, y1, y2⟩ := (HR.out.ext hbw).getP hp
        have HBAD : Hid (badP p = true → doK lim Y T b = 3) := Lib.hid fun hq => doK_bad (by rw [HBL.out]; exact h20) (List.mem_of_getElem? hp) hq
        have HGOOD : Hid (badP p = false → ∀ q ∈ b.take (i + 1), badP q = false) := Lib.hid fun hq q hm => by
          rw [take_step hp, List.mem_append, List.mem_singleton] at hm
          rcases hm with hm | rfl
          · exact hgood.out q hm
          · exact hq
        obtain ⟨pk, pv, pg⟩ := p
        simp only at y0 y1 y2
        have P3 := Bk.at_ wr 31 #[.string pk, .string pv, .bool pg] wr.heap.size rfl
        have e3r : Ext w (wr.alloc (.cells #[.string pk, .string pv, .bool pg] 31)) := hbw.alloc _
        have z1 : (wr.alloc (.cells #[.string pk, .string pv, .bool pg] 31)).cell? ⟨wr.heap.size, 1, none⟩ = some (.string pv) := P3.cell 1
        have z2 : (wr.alloc (.cells #[.string pk, .string pv, .bool pg] 31)).cell? ⟨wr.heap.size, 2, none⟩ = some (.bool pg) := P3.cell 2
        clear P3 hp hgood
        go_upto_region 6 with (fail)
        generalize wr.alloc (.cells #[.string pk, .string pv, .bool pg] 31) = W3 at *
        cases pg with
        | false =>
          have HN := Lib.hid (HGOOD.out rfl)
          go_wp2_with fail
          go_roundw
          case rel => exact ⟨i + 1, by go_num, by omega, e3r, HN⟩
          case measure => simp [intOf]; omega
        | true =>
          by_cases hv : pv = ⟨#[]⟩
          · subst hv
            have HN := Lib.hid (HGOOD.out rfl)
            go_wp2_with fail
            go_roundw
            case rel => exact ⟨i + 1, by go_num, by omega, e3r, HN⟩
            case measure => simp [intOf]; omega
          · obtain ⟨q1, q2⟩ := str_someP (s := pv) (Nat.pos_of_ne_zero fun h => hv (str_noneP h))
            have hb3 := HBAD.out (by
              unfold badP
              simp only [Bool.true_and, decide_eq_true_eq]
              intro h0
              exact hv (str_noneP h0))
            have HB3 := Lib.hid hb3
            clear hb3
            go_wp2_with fail
            go_ret2
            exact ⟨3, HB3.out, e3r, .inl ⟨by decide, rfl⟩⟩
      · obtain rfl : i = n := by omega
        have HGD := Lib.hid hgood.out
        rw [List.take_of_length_le (by rw [HBL.out]; exact Nat.le_refl _)] at HGD
        have HDK := Lib.hid (doK_run (lim := lim) (Y := Y) (T := T) (by rw [HBL.out]; exact h20) HGD.out)
        have HCP := Lib.hid (LCopy_any x lim Y T wr (HLM.out.ext hbw))
        clear hgood
        go_wp2_with fail
        refine HCP.out.mono ?_
        rintro _ w2 ⟨⟨x', rfl, hx⟩, hb2⟩
        have e2 := hbw.trans hb2
        have hx2 : Hid (LMH w2 aF (fun g => g < w.heap.size) x' lim Y T) := Lib.hid (hx.weak fun g hg => Nat.lt_of_lt_of_le hg hbw.size)
        have hR0 : Hid (RunI lim b Y T 0 Y T) := Lib.hid ⟨rfl, rfl, HTOT.out⟩
        clear hx
        go_wp2_with fail
        go_loopw [10, 11, 37] (fun _ _ u wq => ∃ (j : Nat) (Yj : List Pr) (Tj : List (List Pr)), u = .int .i64 j ∧ j ≤ i ∧ Ext w wq ∧ Hid (LMH wq aF (fun g => g < w.heap.size) x' lim Yj Tj) ∧ Hid (RunI lim b Y T j Yj Tj)) (fun _ _ u _ => i - (intOf u).toNat)
        case atStart => exact ⟨0, Y, T, rfl, Nat.zero_le _, e2, hx2, hR0⟩
        case round =>
          obtain ⟨j, Yj, Tj, rfl, hj, hbq, hlm, hrun⟩ := hrel
          by_cases hcj : j < i
          · obtain ⟨p, hp⟩ : ∃ p, b[j]? = some p := ⟨_, List.getElem?_eq_getElem (by rw [HBL.out]; exact hcj)⟩
            obtain ⟨ad1, rfl, hb1, y0, y1, y2⟩ := (HR.out.ext hbq).getP hp
            have hgp := badP_ok (HGD.out p (List.mem_of_getElem? hp))
            have HP := Lib.hid hp
            obtain ⟨pk, pv, pg⟩ := p
            simp only at y0 y1 y2 hgp
            have P3 := Bk.at_ wr 31 #[.string pk, .string pv, .bool pg] wr.heap.size rfl
            have e3r : Ext w (wr.alloc (.cells #[.string pk, .string pv, .bool pg] 31)) := hbq.alloc _
            have z0 : (wr.alloc (.cells #[.string pk, .string pv, .bool pg] 31)).cell? ⟨wr.heap.size, 0, none⟩ = some (.string pk) := P3.cell 0
            have z1 : (wr.alloc (.cells #[.string pk, .string pv, .bool pg] 31)).cell? ⟨wr.heap.size, 1, none⟩ = some (.string pv) := P3.cell 1
            have z2 : (wr.alloc (.cells #[.string pk, .string pv, .bool pg] 31)).cell? ⟨wr.heap.size, 2, none⟩ = some (.bool pg) := P3.cell 2
            have hl3 := hlm.out.ext ((Ext.refl _).alloc (.cells #[.string pk, .string pv, .bool pg] 31))
            have HL3 := Lib.hid hl3
            clear P3 hp hlm hl3
            go_upto_region 13 with (fail)
            generalize wr.alloc (.cells #[.string pk, .string pv, .bool pg] 31) = W3 at *
            cases pg with
            | true =>
              have hv0 : pv = ⟨#[]⟩ := str_noneP (hgp rfl)
              subst hv0
              have HC := Lib.hid (LDropH_any aF (fun g => g < w.heap.size) x' lim Yj Tj pk W3 HL3.out (fun g hg => Nat.lt_of_lt_of_le hg e3r.size) (by have h1 := hrun.out.2.2; rw [totL_cons] at h1; omega) hlim)
              obtain ⟨k, hk⟩ : ∃ k, putK Yj ⟨pk, ⟨#[]⟩, true⟩ = k := ⟨_, rfl⟩
              rw [hk] at HC
              have HK := Lib.hid hk
              clear hk
              go_wp2_with fail
              refine HC.out.mono ?_
              rintro _ w4 ⟨rfl, F4, hop⟩
              have e4 := hop.held e3r (fun g hg => hg)
              have L4 := Lib.hid hop.at_.any
              clear hop
              by_cases hk0 : k = 0
              · subst hk0
                have HN := Lib.hid (hrun.out.next HP.out HK.out)
                rw [errR_0]
                go_wp2_with fail
                go_roundw
                case rel => exact ⟨j + 1, _, _, by go_num, by omega, e4, L4, HN⟩
                case measure => simp [intOf]; omega
              · have hok := isOk_no hk0
                have HBD := Lib.hid (HDK.out.trans (hrun.out.bad HP.out HK.out hk0))
                have HK0 := Lib.hid hk0
                clear hk0
                go_wp2_with fail
                go_ret2
                exact ⟨k, HBD.out, e4, .inl ⟨HK0.out, rfl⟩⟩
            | false =>
              have HC := Lib.hid (LPutH_any aF (fun g => g < w.heap.size) x' lim Yj Tj pk pv W3 HL3.out (fun g hg => Nat.lt_of_lt_of_le hg e3r.size) (by have h1 := hrun.out.2.2; rw [totL_cons] at h1; omega) hlim)
              obtain ⟨k, hk⟩ : ∃ k, putK Yj ⟨pk, pv, false⟩ = k := ⟨_, rfl⟩
              rw [hk] at HC
              have HK := Lib.hid hk
              clear hk
              go_wp2_with fail
              refine HC.out.mono ?_
              rintro _ w4 ⟨rfl, F4, hop⟩
              have e4 := hop.held e3r (fun g hg => hg)
              have L4 := Lib.hid hop.at_.any
              clear hop
              by_cases hk0 : k = 0
              · subst hk0
                have HN := Lib.hid (hrun.out.next HP.out HK.out)
                rw [errR_0]
                go_wp2_with fail
                go_roundw
                case rel => exact ⟨j + 1, _, _, by go_num, by omega, e4, L4, HN⟩
                case measure => simp [intOf]; omega
              · have hok := isOk_no hk0
                have HBD := Lib.hid (HDK.out.trans (hrun.out.bad HP.out HK.out hk0))
                have HK0 := Lib.hid hk0
                clear hk0
                go_wp2_with fail
                go_ret2
                exact ⟨k, HBD.out, e4, .inl ⟨HK0.out, rfl⟩⟩
          · obtain rfl : j = i := by omega
            obtain ⟨hk1, hk2⟩ := hrun.out.end_ (by rw [HBL.out]; exact Nat.le_refl _)
            have HK1 := Lib.hid hk1
            have HK2 := Lib.hid hk2
            have HL := Lib.hid hlm.out.free
            clear hlm hrun hk1 hk2
            go_wp2_with fail
            go_ret2
            exact ⟨0, HDK.out.trans HK1.out, hbq, .inr ⟨rfl, x', rfl, by rw [HK2.out]; exact HL.out⟩⟩
end Go.Proofs.YtcgfdhgceokcnaaGreatDoor
