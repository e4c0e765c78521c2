/- Texts cut at one byte: plain. -/
import Derived.Test.YtcgfdhgceokcnaaGreatDoorJWalKeeps2
import Derived.Lib.SplitLaws
import Derived.Lib.IndexMore
import Derived.Test.YtcgfdhgceokcnaaGreatDoorJWalKeeps9
import Derived.Lib.QuietBelow
namespace Go.Proofs.YtcgfdhgceokcnaaGreatDoor
set_option linter.unusedVariables false

/-- a text cut at each c -/
def partsL (c : UInt8) : List UInt8 → List (List UInt8)
  | [] => [[]]
  | b :: l => if b = c then [] :: partsL c l else match partsL c l with
    | [] => [[b]]
    | p :: r => (b :: p) :: r
theorem partsL_ne (c : UInt8) : ∀ l, partsL c l ≠ []
  | [] => by simp [partsL]
  | b :: l => by
    unfold partsL
    split
    · simp
    · split <;> simp
theorem partsL_hit (c : UInt8) (l : List UInt8) : partsL c (c :: l) = [] :: partsL c l := by rw [partsL, if_pos rfl]
theorem partsL_miss {c b : UInt8} (h : b ≠ c) {l p : List UInt8} {r : List (List UInt8)} (hp : partsL c l = p :: r) : partsL c (b :: l) = (b :: p) :: r := by rw [partsL, if_neg h, hp]
theorem partsL_app (c : UInt8) : ∀ (a l : List UInt8), (∀ b ∈ a, b ≠ c) → partsL c (a ++ c :: l) = a :: partsL c l
  | [], l, _ => partsL_hit c l
  | b :: a, l, h => partsL_miss (h b (by simp)) (partsL_app c a l fun x hx => h x (by simp [hx]))
theorem partsL_one (c : UInt8) : ∀ (a : List UInt8), (∀ b ∈ a, b ≠ c) → partsL c a = [a]
  | [], _ => rfl
  | b :: a, h => partsL_miss (h b (by simp)) (partsL_one c a fun x hx => h x (by simp [hx]))
def joinL (c : UInt8) : List (List UInt8) → List UInt8
  | [] => []
  | [p] => p
  | p :: q :: r => p ++ c :: joinL c (q :: r)
theorem joinL_parts (c : UInt8) : ∀ l, joinL c (partsL c l) = l
  | [] => rfl
  | b :: l => by
    have ih := joinL_parts c l
    obtain ⟨p, r, hp⟩ : ∃ p r, partsL c l = p :: r := by
      cases h : partsL c l with
      | nil => exact absurd h (partsL_ne c l)
      | cons p r => exact ⟨p, r, rfl⟩
    by_cases hb : b = c
    · subst hb
      rw [partsL_hit, hp]
      rw [hp] at ih
      show [] ++ b :: joinL b (p :: r) = _
      rw [ih]; rfl
    · rw [partsL_miss hb hp]
      rw [hp] at ih
      cases r with
      | nil => show b :: p = _; rw [show p = l from ih]
      | cons q r =>
        show (b :: p) ++ c :: joinL c (q :: r) = _
        rw [List.cons_append]
        congr 1
theorem parts_none (c : UInt8) : ∀ (l : List UInt8), ∀ p ∈ partsL c l, ∀ b ∈ p, b ≠ c
  | [], p, hp, b, hb => by simp [partsL] at hp; subst hp; simp at hb
  | x :: l, p, hp, b, hb => by
    by_cases hx : x = c
    · subst hx
      rw [partsL_hit] at hp
      rcases List.mem_cons.1 hp with rfl | hp
      · simp at hb
      · exact parts_none x l p hp b hb
    · obtain ⟨q, r, hq⟩ : ∃ q r, partsL c l = q :: r := by
        cases h : partsL c l with
        | nil => exact absurd h (partsL_ne c l)
        | cons q r => exact ⟨q, r, rfl⟩
      rw [partsL_miss hx hq] at hp
      rcases List.mem_cons.1 hp with rfl | hp
      · rcases List.mem_cons.1 hb with rfl | hb
        · exact hx
        · exact parts_none c l q (by rw [hq]; simp) b hb
      · exact parts_none c l p (by rw [hq]; simp [hp]) b hb

/-! ### what the library's split gives -/
theorem index_hit (c : UInt8) (l : List UInt8) : Lib.index (c :: l) [c] = 0 := by
  unfold Lib.index
  rw [if_pos (by simp [List.isPrefixOf])]
theorem index_miss {c b : UInt8} (h : b ≠ c) (l : List UInt8) : Lib.index (b :: l) [c] = if Lib.index l [c] == -1 then -1 else Lib.index l [c] + 1 := by
  rw [Lib.index, if_neg]
  simp [List.isPrefixOf]
  exact fun e => h e.symm
theorem split_parts (c : UInt8) : ∀ l, Lib.splitK [c] 0 (Lib.count l [c]) l = partsL c l
  | [] => by
    have h : Lib.index [] [c] = -1 := rfl
    rw [Lib.count_miss h]; rfl
  | b :: l => by
    have ih := split_parts c l
    by_cases hb : b = c
    · subst hb
      rw [Lib.count_hit (i := 0) (by simp) (index_hit b l), partsL_hit]
      show Lib.splitK [b] 0 (1 + Lib.count ((b :: l).drop 1) [b]) (b :: l) = _
      rw [Nat.add_comm, List.drop_one, List.tail_cons, Lib.splitK, index_hit]
      rw [if_neg (by decide)]
      show [] :: Lib.splitK [b] 0 _ l = _
      rw [ih]
    · have hi := index_miss hb l
      by_cases hm : Lib.index l [c] = -1
      · rw [if_pos (by rw [hm]; rfl)] at hi
        rw [Lib.count_miss hm] at ih
        rw [Lib.count_miss hi, partsL_miss hb ih.symm]
        rfl
      · have hg := Lib.index_ge l [c]
        obtain ⟨i, hii⟩ := Int.eq_ofNat_of_zero_le (show 0 ≤ Lib.index l [c] by omega)
        rw [if_neg (by simpa using hm), hii] at hi
        have e1 := Lib.count_hit (i := i) (s := l) (sub := [c]) (by simp) hii
        have e2 := Lib.count_hit (i := i + 1) (s := b :: l) (sub := [c]) (by simp) hi
        rw [e1, Nat.add_comm, Lib.splitK, hii, if_neg (by simp)] at ih
        have h1 : ((i : Int)).toNat = i := by omega
        rw [h1] at ih
        rw [partsL_miss hb ih.symm, e2, Nat.add_comm, Lib.splitK, hi, if_neg (by simp; omega)]
        have h2 : ((i : Int) + 1).toNat = i + 1 := by omega
        rw [h2]
        have h3 : (b :: l).drop (i + 1 + [c].length) = l.drop (i + [c].length) := by
          show (b :: l).drop (i + 1 + 1) = l.drop (i + 1)
          rfl
        rw [h3]
        rfl
/-- a text cut at each c -/
def partsB (c : UInt8) (s : ByteArray) : List ByteArray := (partsL c s.data.toList).map fun l => ⟨l.toArray⟩
theorem splitB_parts (c : UInt8) (s : ByteArray) : Lib.splitB ⟨#[c]⟩ 0 (Lib.countB s ⟨#[c]⟩) s = partsB c s := by
  have h := Lib.splitB_data ⟨#[c]⟩ 0 (Lib.countB s ⟨#[c]⟩) s
  have h2 : Lib.splitK (⟨#[c]⟩ : ByteArray).data.toList 0 (Lib.countB s ⟨#[c]⟩) s.data.toList = partsL c s.data.toList := split_parts c s.data.toList
  rw [h2] at h
  unfold partsB
  rw [← h, List.map_map]
  conv => lhs; rw [← List.map_id (Lib.splitB ⟨#[c]⟩ 0 (Lib.countB s ⟨#[c]⟩) s)]
  apply List.map_congr_left
  intro x _
  show x = ⟨x.data.toList.toArray⟩
  cases x
  simp
theorem partsB_ne (c : UInt8) (s : ByteArray) : partsB c s ≠ [] := by
  unfold partsB
  simp [partsL_ne]
theorem partsB_len (c : UInt8) (s : ByteArray) : Lib.countB s ⟨#[c]⟩ + 1 = (partsB c s).length := by
  rw [← splitB_parts, Lib.splitB_all ⟨#[c]⟩ (by show 1 ≤ 1; omega) 0 _ s rfl]
/-- no c in a text -/
def freeB (c : UInt8) (s : ByteArray) : Prop := ∀ b ∈ s.data.toList, b ≠ c
theorem parts_four {a b c d : ByteArray} (ha : freeB 32 a) (hb : freeB 32 b) (hc : freeB 32 c) (hd : freeB 32 d) : partsB 32 (four4 a b c d) = [a, b, c, d] := by
  have e : (four4 a b c d).data.toList = a.data.toList ++ 32 :: (b.data.toList ++ 32 :: (c.data.toList ++ 32 :: d.data.toList)) := by
    simp [four4, sp]
  unfold partsB
  rw [e, partsL_app 32 _ _ ha, partsL_app 32 _ _ hb, partsL_app 32 _ _ hc, partsL_one 32 _ hd]
  simp
theorem four_parts {s a b c d : ByteArray} (h : partsB 32 s = [a, b, c, d]) : four4 a b c d = s := by
  apply ba_ext
  have h1 := joinL_parts 32 s.data.toList
  unfold partsB at h
  have h2 : partsL 32 s.data.toList = [a.data.toList, b.data.toList, c.data.toList, d.data.toList] := by
    have := congrArg (List.map (fun x : ByteArray => x.data.toList)) h
    rw [List.map_map] at this
    have e : ((fun x : ByteArray => x.data.toList) ∘ fun l : List UInt8 => (⟨l.toArray⟩ : ByteArray)) = id := by
      funext l; simp
    rw [e, List.map_id] at this
    simpa using this
  rw [h2] at h1
  rw [← h1]
  simp [joinL, four4, sp]
theorem parts_size {c : UInt8} {s x : ByteArray} (h : x ∈ partsB c s) : x.size ≤ s.size := by
  have key : ∀ (l p : List UInt8), p ∈ partsL c l → p.length ≤ l.length := by
    intro l
    induction l with
    | nil => intro p hp; simp [partsL] at hp; subst hp; simp
    | cons b l ih =>
      intro p hp
      by_cases hb : b = c
      · subst hb
        rw [partsL_hit] at hp
        rcases List.mem_cons.1 hp with rfl | hp
        · simp
        · have := ih p hp; simp; omega
      · obtain ⟨q, r, hq⟩ : ∃ q r, partsL c l = q :: r := by
          cases h : partsL c l with
          | nil => exact absurd h (partsL_ne c l)
          | cons q r => exact ⟨q, r, rfl⟩
        rw [partsL_miss hb hq] at hp
        rcases List.mem_cons.1 hp with rfl | hp
        · have := ih q (by rw [hq]; simp); simp; omega
        · have := ih p (by rw [hq]; simp [hp]); simp; omega
  unfold partsB at h
  obtain ⟨l, hl, rfl⟩ := List.mem_map.1 h
  have := key _ _ hl
  show l.toArray.size ≤ s.data.toList.length
  simpa using this

/-! ### heads -/
theorem free_dig (n : Nat) : freeB 32 (digB n) := by
  intro b hb
  rw [digB_dec n n (Nat.le_refl _)] at hb
  have key : ∀ (N n : Nat), n ≤ N → ∀ b ∈ Lib.decDigits n, b ≠ 32 := by
    intro N
    induction N with
    | zero => intro n h b hb
              obtain rfl : n = 0 := by omega
              rw [Lib.decDigits, dif_pos (by omega)] at hb
              obtain rfl : b = UInt8.ofNat (48 + 0) := by simpa using hb
              decide
    | succ N ih =>
      intro n h b hb
      have h10 : ∀ d, d < 10 → UInt8.ofNat (48 + d) ≠ 32 := by decide
      by_cases h1 : n < 10
      · rw [Lib.decDigits, dif_pos h1] at hb
        obtain rfl : b = UInt8.ofNat (48 + n) := by simpa using hb
        exact h10 n h1
      · rw [Lib.decDigits, dif_neg h1] at hb
        rcases List.mem_append.1 hb with hb | hb
        · exact ih (n / 10) (by omega) b hb
        · obtain rfl : b = UInt8.ofNat (48 + n % 10) := by simpa using hb
          exact h10 _ (Nat.mod_lt _ (by decide))
  exact key n n (Nat.le_refl _) b hb
theorem free_hex (n : Nat) : freeB 32 (hexT n) := by
  have key : ∀ (k n : Nat), freeB 32 (lowHex n k) := by
    intro k
    induction k with
    | zero => intro n b hb; exact absurd hb (by simp [lowHex])
    | succ k ih =>
      intro n
      rw [lowHex_snoc]
      intro b hb
      rw [ByteArray.data_append, Array.toList_append] at hb
      rcases List.mem_append.1 hb with hb | hb
      · exact ih _ b hb
      · have h16 : ∀ d, d < 16 → ∀ b ∈ (hx d).data.toList, b ≠ 32 := by decide +kernel
        exact h16 _ (Nat.mod_lt _ (by decide)) b hb
  exact key 8 n
def hd0 : Hd := ⟨0, 0, 0, 0⟩
/-- a head of four texts -/
def headQ (a b c d : ByteArray) : Hd × Int := match numR a 9, numR c 9 with
  | some n, some t =>
    if readK b = 2 ∨ readK d = 2 then (hd0, 2)
    else if readK b ≠ 0 ∨ readK d ≠ 0 ∨ Hd.ok ⟨(n : Int), readV b, (t : Int), readV d⟩ = false then (hd0, 1)
    else (⟨(n : Int), readV b, (t : Int), readV d⟩, 0)
  | _, _ => (hd0, 2)
/-- a head of a text -/
def headR (s : ByteArray) : Hd × Int := match partsB 32 s with
  | [a, b, c, d] => headQ a b c d
  | _ => (hd0, 2)
theorem headR_four {s a b c d : ByteArray} (h : partsB 32 s = [a, b, c, d]) : headR s = headQ a b c d := by unfold headR; rw [h]
theorem headR_not {s : ByteArray} (h : (partsB 32 s).length ≠ 4) : headR s = (hd0, 2) := by
  unfold headR
  split
  · rename_i a b c d e
    rw [e] at h
    exact absurd rfl h
  · rfl
theorem headR_none1 {a b c d : ByteArray} (h : numR a 9 = none ∨ numR c 9 = none) : headQ a b c d = (hd0, 2) := by
  unfold headQ
  split
  · rename_i e1 e2
    rcases h with h | h
    · rw [h] at e1; cases e1
    · rw [h] at e2; cases e2
  · rfl
theorem headQ_some {a b c d : ByteArray} {n t : Nat} (h1 : numR a 9 = some n) (h2 : numR c 9 = some t) : headQ a b c d = if readK b = 2 ∨ readK d = 2 then (hd0, 2) else if readK b ≠ 0 ∨ readK d ≠ 0 ∨ Hd.ok ⟨(n : Int), readV b, (t : Int), readV d⟩ = false then (hd0, 1) else (⟨(n : Int), readV b, (t : Int), readV d⟩, 0) := by
  unfold headQ
  rw [h1, h2]
theorem readV_hexT {n : Int} (h : vld n = true) : readV (hexT n.toNat) = n ∧ readK (hexT n.toNat) = 0 := by
  obtain ⟨h1, h2⟩ := vld_true h
  obtain ⟨m, rfl⟩ := Int.eq_ofNat_of_zero_le h1
  rw [Int.toNat_natCast]
  have hr := readH_hexT (n := m) (by omega)
  unfold readV readK
  rw [hr]
  simp only
  rw [if_pos (by omega), if_pos (by omega)]
  exact ⟨rfl, rfl⟩
/-- what was written is read -/
theorem headR_back {h : Hd} (k : h.ok = true) : headR (headB h) = (h, 0) := by
  obtain ⟨k1, k2, k3, k4, k5, k6⟩ := Hd.ok_parts k
  obtain ⟨a, b, c, d⟩ := h
  simp only at k1 k2 k3 k4 k5 k6
  obtain ⟨r1, r2⟩ := readV_hexT k5
  obtain ⟨r3, r4⟩ := readV_hexT k6
  obtain ⟨a, rfl⟩ := Int.eq_ofNat_of_zero_le k1
  obtain ⟨c, rfl⟩ := Int.eq_ofNat_of_zero_le k3
  unfold headB
  simp only [Int.toNat_natCast]
  rw [headR_four (parts_four (free_dig a) (free_hex _) (free_dig c) (free_hex _))]
  rw [headQ_some (numR_of (Nat.le_trans (digB_small 6 a (by show a < 10000000; omega)) (by omega)) rfl) (numR_of (Nat.le_trans (digB_small 6 c (by show c < 10000000; omega)) (by omega)) rfl), r2, r4, r1, r3, if_neg (by omega), if_neg]
  rintro (h | h | h)
  · exact h rfl
  · exact h rfl
  · rw [k] at h; cases h
/-- what was read is written so -/
theorem readK_text {s : ByteArray} (h : readK s = 0) : hexT (readV s).toNat = s := by
  unfold readK at h
  split at h
  · rename_i n hn
    split at h
    · rename_i hlt
      unfold readV
      rw [hn]
      simp only
      rw [if_pos hlt, Int.toNat_natCast]
      exact (readH_text hn).2.2.2
    · cases h
  · cases h
theorem headR_print {s : ByteArray} (k : (headR s).2 = 0) : headB (headR s).1 = s ∧ (headR s).1.ok = true := by
  by_cases h4 : (partsB 32 s).length = 4
  · obtain ⟨a, b, c, d, hp⟩ : ∃ a b c d, partsB 32 s = [a, b, c, d] := by
      match h : partsB 32 s, h4 with
      | [a, b, c, d], _ => exact ⟨a, b, c, d, rfl⟩
    rw [headR_four hp] at k ⊢
    cases h1 : numR a 9 with
    | none => rw [headR_none1 (.inl h1)] at k; cases k
    | some n =>
      cases h2 : numR c 9 with
      | none => rw [headR_none1 (.inr h2)] at k; cases k
      | some t =>
        rw [headQ_some h1 h2] at k ⊢
        split at k
        · cases k
        · rename_i q1
          split at k
          · cases k
          · rename_i q2
            rw [if_neg q1, if_neg q2]
            simp only [not_or, Decidable.not_not] at q2
            obtain ⟨q3, q4, q5⟩ := q2
            refine ⟨?_, by simpa using q5⟩
            unfold headB
            simp only [Int.toNat_natCast]
            rw [(numR_some h1).2.2.2, (numR_some h2).2.2.2, readK_text q3, readK_text q4, four_parts hp]
  · rw [headR_not h4] at k; cases k
end Go.Proofs.YtcgfdhgceokcnaaGreatDoor

/- What is kept, plain: texts with their length ahead, records, what is read of them. -/
namespace Go.Proofs.YtcgfdhgceokcnaaGreatDoor
set_option linter.unusedVariables false

/-! ### a text cut at the first ':' -/
theorem cut_hit (c : UInt8) : ∀ (d t : List UInt8), (∀ b ∈ d, b ≠ c) → Lib.index (d ++ c :: t) [c] = d.length
  | [], t, _ => index_hit c t
  | b :: d, t, h => by
    have ih := cut_hit c d t (fun x hx => h x (List.mem_cons_of_mem _ hx))
    rw [List.cons_append, index_miss (h b (List.mem_cons_self ..)), ih]
    rw [if_neg (by simp)]
    simp
theorem cut_none (c : UInt8) : ∀ (d : List UInt8), (∀ b ∈ d, b ≠ c) → Lib.index d [c] = -1
  | [], _ => rfl
  | b :: d, h => by
    have ih := cut_none c d (fun x hx => h x (List.mem_cons_of_mem _ hx))
    rw [index_miss (h b (List.mem_cons_self ..)), ih]
    rfl
theorem cutAt {c : UInt8} {d t : List UInt8} (h : ∀ b ∈ d, b ≠ c) : Lib.cut (d ++ c :: t) [c] = (d, t, true) := by
  unfold Lib.cut
  rw [cut_hit c d t h, if_pos (by omega)]
  simp
theorem cutNo {c : UInt8} {d : List UInt8} (h : ∀ b ∈ d, b ≠ c) : Lib.cut d [c] = (d, [], false) := by
  unfold Lib.cut
  rw [cut_none c d h, if_neg (by decide)]
/-- a text is cut in one of two ways -/
theorem cut_ways (c : UInt8) : ∀ (s : List UInt8), (∀ b ∈ s, b ≠ c) ∨ ∃ d t, s = d ++ c :: t ∧ ∀ b ∈ d, b ≠ c
  | [] => .inl (by simp)
  | b :: s => by
    by_cases hb : b = c
    · subst hb; exact .inr ⟨[], s, rfl, by simp⟩
    · rcases cut_ways c s with h | ⟨d, t, rfl, h⟩
      · refine .inl fun x hx => ?_
        rcases List.mem_cons.1 hx with rfl | hx
        · exact hb
        · exact h x hx
      · refine .inr ⟨b :: d, t, rfl, fun x hx => ?_⟩
        rcases List.mem_cons.1 hx with rfl | hx
        · exact hb
        · exact h x hx

/-! ### decimals -/
theorem dec_free (N : Nat) : ∀ n, n ≤ N → ∀ b ∈ Lib.decDigits n, b ≠ 58 := by
  induction N with
  | zero =>
    intro n hn b hb
    obtain rfl : n = 0 := by omega
    rw [Lib.decDigits, dif_pos (by omega)] at hb
    simp at hb; subst hb; decide
  | succ N ih =>
    intro n hn b hb
    have hd : ∀ d, d < 10 → UInt8.ofNat (48 + d) ≠ 58 := by decide +kernel
    rw [Lib.decDigits] at hb
    by_cases h : n < 10
    · rw [dif_pos h] at hb
      rw [List.mem_singleton] at hb; subst hb; exact hd n h
    · rw [dif_neg h, List.mem_append] at hb
      rcases hb with hb | hb
      · exact ih (n / 10) (by omega) b hb
      · rw [List.mem_singleton] at hb; subst hb; exact hd _ (Nat.mod_lt _ (by omega))
theorem dec_len {n : Nat} (h : n < 1000000000) : (Lib.decDigits n).length ≤ 9 := by
  rw [← digB_dec n n (Nat.le_refl _)]
  exact digB_small 8 n (by omega)
theorem atoi_dec {n : Nat} (h : n < 1000000000) : Lib.atoiAll (Lib.decDigits n) = .ok (n : Int) := by
  have hs : (digB n).size ≤ 9 := digB_small 8 n (by omega)
  have h1 := numR_atoi (numR_of (s := digB n) (m := 9) (v := n) hs rfl) (by omega)
  rwa [digB_dec n n (Nat.le_refl _)] at h1

/-! ### pieces -/
def pieceL (s : List UInt8) : List UInt8 := Lib.decDigits s.length ++ 58 :: s
/-- a piece cut off: the piece, and what is behind it -/
def cutL (s : List UInt8) : Option (List UInt8 × List UInt8) :=
  match Lib.atoiAll (Lib.cut s [58]).1 with
  | .ok n => if (Lib.cut s [58]).2.2 = true ∧ 0 ≤ n ∧ n ≤ ((Lib.cut s [58]).2.1.length : Int) then some ((Lib.cut s [58]).2.1.take n.toNat, (Lib.cut s [58]).2.1.drop n.toNat) else none
  | _ => none
theorem cutL_at {d t : List UInt8} (h : ∀ b ∈ d, b ≠ 58) : cutL (d ++ 58 :: t) = match Lib.atoiAll d with
    | .ok n => if 0 ≤ n ∧ n ≤ (t.length : Int) then some (t.take n.toNat, t.drop n.toNat) else none
    | _ => none := by
  unfold cutL
  rw [cutAt h]
  cases Lib.atoiAll d <;> simp
theorem cutL_no {d : List UInt8} (h : ∀ b ∈ d, b ≠ 58) : cutL d = none := by
  unfold cutL
  rw [cutNo h]
  cases Lib.atoiAll d <;> simp
theorem cut_piece {s r : List UInt8} (h : s.length < 1000000000) : cutL (pieceL s ++ r) = some (s, r) := by
  unfold pieceL
  rw [List.append_assoc, List.cons_append, cutL_at (dec_free _ _ (Nat.le_refl _)), atoi_dec h]
  have h1 : (0 : Int) ≤ (s.length : Int) ∧ (s.length : Int) ≤ ((s ++ r).length : Int) := by rw [List.length_append]; omega
  show (if (0 : Int) ≤ (s.length : Int) ∧ (s.length : Int) ≤ ((s ++ r).length : Int) then _ else _) = _
  rw [if_pos h1, Int.toNat_natCast, List.take_left, List.drop_left]
/-- what is shorter is none -/
theorem cut_less {s t r : List UInt8} (h : s.length < 1000000000) (ht : pieceL s = t ++ r) (hr : r ≠ []) : cutL t = none := by
  rcases cut_ways 58 t with hn | ⟨d, u, rfl, hd⟩
  · exact cutL_no hn
  · unfold pieceL at ht
    rw [List.append_assoc, List.cons_append] at ht
    have h1 := cutAt (c := 58) (t := s) (dec_free _ _ (Nat.le_refl s.length))
    have h2 := cutAt (c := 58) (t := u ++ r) hd
    rw [ht] at h1
    rw [h1] at h2
    injection h2 with e1 e2
    injection e2 with e2 _
    rw [cutL_at hd, ← e1, atoi_dec h]
    have hp : 0 < r.length := List.length_pos_iff.2 hr
    show (if (0 : Int) ≤ (s.length : Int) ∧ (s.length : Int) ≤ (u.length : Int) then _ else none) = none
    rw [if_neg]
    rw [e2, List.length_append]
    omega
theorem cutL_len {s a b : List UInt8} (h : cutL s = some (a, b)) : a.length + b.length < s.length := by
  rcases cut_ways 58 s with hn | ⟨d, u, rfl, hd⟩
  · rw [cutL_no hn] at h; cases h
  · rw [cutL_at hd] at h
    split at h
    · split at h
      · rename_i n _ hn
        injection h with h
        injection h with h1 h2
        subst h1 h2
        rw [List.length_append, List.length_cons, List.length_take, List.length_drop]
        omega
      · cases h
    · cases h
theorem piece_len (s : List UInt8) : (pieceL s).length = (Lib.decDigits s.length).length + 1 + s.length := by
  unfold pieceL
  rw [List.length_append, List.length_cons]
  omega
theorem piece_le {s : List UInt8} (h : s.length < 1000000000) : (pieceL s).length ≤ s.length + 10 := by
  rw [piece_len]
  have := dec_len h
  omega
theorem dec_pos (n : Nat) : 1 ≤ (Lib.decDigits n).length := by
  rw [← digB_dec n n (Nat.le_refl _)]
  exact digB_pos n
theorem piece_ge (s : List UInt8) : s.length + 2 ≤ (pieceL s).length := by
  rw [piece_len]
  have := dec_pos s.length
  omega

/-! ### records -/
def pairL (p : Pr) : List UInt8 := pieceL (signC p :: p.key.data.toList) ++ pieceL p.value.data.toList
  where signC (p : Pr) : UInt8 := if p.gone = true then 45 else 43
def pairsL (b : List Pr) : List UInt8 := b.flatMap pairL
def recL (b : List Pr) : List UInt8 := pieceL (pairsL b)
/-- the pairs that a text tells -/
def readL : Nat → List UInt8 → Option (List Pr)
  | 0, _ => none
  | f + 1, x => if x = [] then some [] else match cutL x with
    | none => none
    | some (key, more) => match cutL more with
      | none => none
      | some (value, left) => match key with
        | [] => none
        | c :: k => (readL f left).map fun l => ⟨⟨k.toArray⟩, ⟨value.toArray⟩, decide (c = 45)⟩ :: l
def nextL (s : List UInt8) : Option (List Pr × List UInt8) := match cutL s with
  | none => none
  | some (x, rest) => (readL (x.length + 1) x).map fun l => (l, rest)
/-- pairs that are small -/
def smallP (p : Pr) : Prop := p.key.size ≤ 1000 ∧ p.value.size ≤ 1000
theorem pair_eta (p : Pr) : (⟨⟨p.key.data.toList.toArray⟩, ⟨p.value.data.toList.toArray⟩, decide (pairL.signC p = 45)⟩ : Pr) = p := by
  obtain ⟨k, v, g⟩ := p
  cases g <;> simp [pairL.signC]
theorem pair_len {p : Pr} (h : smallP p) : (pairL p).length ≤ 2030 ∧ 4 ≤ (pairL p).length := by
  obtain ⟨h1, h2⟩ := h
  have e1 : p.key.data.toList.length = p.key.size := rfl
  have e2 : p.value.data.toList.length = p.value.size := rfl
  unfold pairL
  rw [List.length_append]
  have a1 := piece_le (s := pairL.signC p :: p.key.data.toList) (by simp; omega)
  have a2 := piece_le (s := p.value.data.toList) (by omega)
  have b1 := piece_ge (pairL.signC p :: p.key.data.toList)
  have b2 := piece_ge p.value.data.toList
  rw [List.length_cons] at a1 b1
  omega
theorem pairs_len : ∀ {b : List Pr}, (∀ p ∈ b, smallP p) → (pairsL b).length ≤ b.length * 2030
  | [], _ => by simp [pairsL]
  | p :: b, h => by
    have ih := pairs_len (b := b) fun q hq => h q (List.mem_cons_of_mem _ hq)
    have hp := pair_len (h p (List.mem_cons_self ..))
    show (pairL p ++ pairsL b).length ≤ _
    rw [List.length_append, List.length_cons, Nat.add_mul]
    omega
theorem read_pairs : ∀ {b : List Pr} (f : Nat), (∀ p ∈ b, smallP p) → b.length < f → readL f (pairsL b) = some b
  | [], f + 1, _, _ => rfl
  | p :: b, f + 1, h, hf => by
    obtain ⟨h1, h2⟩ := h p (List.mem_cons_self ..)
    have e1 : p.key.data.toList.length = p.key.size := rfl
    have e2 : p.value.data.toList.length = p.value.size := rfl
    have ih := read_pairs (b := b) f (fun q hq => h q (List.mem_cons_of_mem _ hq)) (by simp at hf; omega)
    have hne : pairsL (p :: b) ≠ [] := by
      intro e
      have := (pair_len (h p (List.mem_cons_self ..))).2
      have e3 : (pairL p ++ pairsL b).length = 0 := by rw [show pairL p ++ pairsL b = [] from e]; rfl
      rw [List.length_append] at e3
      omega
    have hc : cutL (pairsL (p :: b)) = some (pairL.signC p :: p.key.data.toList, pieceL p.value.data.toList ++ pairsL b) := by
      show cutL ((pieceL _ ++ pieceL _) ++ pairsL b) = _
      rw [List.append_assoc]
      exact cut_piece (by simp; omega)
    have hc2 : cutL (pieceL p.value.data.toList ++ pairsL b) = some (p.value.data.toList, pairsL b) := cut_piece (by omega)
    rw [readL, if_neg hne, hc]
    show (match cutL (pieceL p.value.data.toList ++ pairsL b) with | none => none | some (value, left) => _) = _
    rw [hc2]
    show (readL f (pairsL b)).map _ = _
    rw [ih]
    show some (_ :: b) = some (p :: b)
    rw [pair_eta]
  | [], 0, _, h => absurd h (by simp)
  | p :: b, 0, _, h => absurd h (by simp)
theorem pairs_ge : ∀ {b : List Pr}, (∀ p ∈ b, smallP p) → b.length ≤ (pairsL b).length
  | [], _ => by simp
  | p :: b, h => by
    have ih := pairs_ge (b := b) fun q hq => h q (List.mem_cons_of_mem _ hq)
    have hp := (pair_len (h p (List.mem_cons_self ..))).2
    show _ ≤ (pairL p ++ pairsL b).length
    rw [List.length_append, List.length_cons]
    omega
theorem next_rec {b : List Pr} (h : ∀ p ∈ b, smallP p) (hl : b.length ≤ 20) (r : List UInt8) : nextL (recL b ++ r) = some (b, r) := by
  have h1 := pairs_len h
  unfold nextL recL
  rw [cut_piece (by omega)]
  show (readL ((pairsL b).length + 1) (pairsL b)).map _ = _
  rw [read_pairs _ h (by have := pairs_ge h; omega)]
  rfl
theorem next_less {b : List Pr} (h : ∀ p ∈ b, smallP p) (hl : b.length ≤ 20) {t r : List UInt8} (ht : recL b = t ++ r) (hr : r ≠ []) : nextL t = none := by
  have h1 := pairs_len h
  unfold nextL
  rw [cut_less (s := pairsL b) (by omega) ht hr]
theorem next_nil : nextL [] = none := by
  unfold nextL
  rw [cutL_no (by simp)]
theorem rec_ge (b : List Pr) : 2 ≤ (recL b).length := by
  have := piece_ge (pairsL b)
  show 2 ≤ (pieceL (pairsL b)).length
  omega
theorem rec_le {b : List Pr} (h : ∀ p ∈ b, smallP p) (hl : b.length ≤ 20) : (recL b).length ≤ 40700 := by
  have h1 := pairs_len h
  have h2 := piece_le (s := pairsL b) (by omega)
  show (pieceL (pairsL b)).length ≤ _
  omega
end Go.Proofs.YtcgfdhgceokcnaaGreatDoor

/- strconv.Itoa, of any number. -/
namespace Go.Proofs.YtcgfdhgceokcnaaGreatDoor
open Go.RowKit Go.WideShapes
set_option linter.unusedVariables false

theorem ext_grow (w : World) (k : Nat) (os : Array Obj) : Ext w (Sort.grow (w.drewN k) os) := below_regrown w (w.drawn + k) os
theorem ItoaI_any (v : Int) (w : World) (h0 : -9223372036854775808 ≤ v) (h1 : v ≤ 9223372036854775807) (hp : PowG w) :
    Calls Tryz.prog 93 #[.int .i64 v] w fun e w' => e = .returned (.string ⟨(Lib.itoa v).toArray⟩) ∧ Ext w w' :=
  (Tryz.strconv_Itoa v h0 h1 w hp).mono fun e w' ⟨he, k, os, hw⟩ => ⟨he, by rw [hw]; exact ext_grow w k os⟩
end Go.Proofs.YtcgfdhgceokcnaaGreatDoor
