/- Texts cut at one byte: plain. -/
import Derived.Test.YtnphbkjkeipmmaaGreatDoorJRunBegins2
import Derived.Lib.SplitLaws
import Derived.Test.YtnphbkjkeipmmaaGreatDoorJRunBegins11
import Derived.Test.YtnphbkjkeipmmaaGreatDoorJRunBegins10
import Derived.Test.YtnphbkjkeipmmaaGreatDoorJRunBegins9
import Derived.Lib.AtoiErrMem
namespace Go.Proofs.YtnphbkjkeipmmaaGreatDoor
set_option linter.unusedVariables false

/-- a text cut at each c -/
def partsL (c : UInt8) : List UInt8 → List (List UInt8)
  | [] => [[]]
  | b :: l => if b = c then [] :: partsL c l else match partsL c l with
    | [] => [[b]]
    | p :: r => (b :: p) :: r
theorem partsL_ne (c : UInt8) : ∀ l, partsL c l ≠ []
  | [] => by simp [partsL]
  | b :: l => by
    unfold partsL
    split
    · simp
    · split <;> simp
theorem partsL_hit (c : UInt8) (l : List UInt8) : partsL c (c :: l) = [] :: partsL c l := by rw [partsL, if_pos rfl]
theorem partsL_miss {c b : UInt8} (h : b ≠ c) {l p : List UInt8} {r : List (List UInt8)} (hp : partsL c l = p :: r) : partsL c (b :: l) = (b :: p) :: r := by rw [partsL, if_neg h, hp]
theorem partsL_app (c : UInt8) : ∀ (a l : List UInt8), (∀ b ∈ a, b ≠ c) → partsL c (a ++ c :: l) = a :: partsL c l
  | [], l, _ => partsL_hit c l
  | b :: a, l, h => partsL_miss (h b (by simp)) (partsL_app c a l fun x hx => h x (by simp [hx]))
theorem partsL_one (c : UInt8) : ∀ (a : List UInt8), (∀ b ∈ a, b ≠ c) → partsL c a = [a]
  | [], _ => rfl
  | b :: a, h => partsL_miss (h b (by simp)) (partsL_one c a fun x hx => h x (by simp [hx]))
def joinL (c : UInt8) : List (List UInt8) → List UInt8
  | [] => []
  | [p] => p
  | p :: q :: r => p ++ c :: joinL c (q :: r)
theorem joinL_parts (c : UInt8) : ∀ l, joinL c (partsL c l) = l
  | [] => rfl
  | b :: l => by
    have ih := joinL_parts c l
    obtain ⟨p, r, hp⟩ : ∃ p r, partsL c l = p :: r := by
      cases h : partsL c l with
      | nil => exact absurd h (partsL_ne c l)
      | cons p r => exact ⟨p, r, rfl⟩
    by_cases hb : b = c
    · subst hb
      rw [partsL_hit, hp]
      rw [hp] at ih
      show [] ++ b :: joinL b (p :: r) = _
      rw [ih]; rfl
    · rw [partsL_miss hb hp]
      rw [hp] at ih
      cases r with
      | nil => show b :: p = _; rw [show p = l from ih]
      | cons q r =>
        show (b :: p) ++ c :: joinL c (q :: r) = _
        rw [List.cons_append]
        congr 1
theorem parts_none (c : UInt8) : ∀ (l : List UInt8), ∀ p ∈ partsL c l, ∀ b ∈ p, b ≠ c
  | [], p, hp, b, hb => by simp [partsL] at hp; subst hp; simp at hb
  | x :: l, p, hp, b, hb => by
    by_cases hx : x = c
    · subst hx
      rw [partsL_hit] at hp
      rcases List.mem_cons.1 hp with rfl | hp
      · simp at hb
      · exact parts_none x l p hp b hb
    · obtain ⟨q, r, hq⟩ : ∃ q r, partsL c l = q :: r := by
        cases h : partsL c l with
        | nil => exact absurd h (partsL_ne c l)
        | cons q r => exact ⟨q, r, rfl⟩
      rw [partsL_miss hx hq] at hp
      rcases List.mem_cons.1 hp with rfl | hp
      · rcases List.mem_cons.1 hb with rfl | hb
        · exact hx
        · exact parts_none c l q (by rw [hq]; simp) b hb
      · exact parts_none c l p (by rw [hq]; simp [hp]) b hb

/-! ### what the library's split gives -/
theorem index_hit (c : UInt8) (l : List UInt8) : Lib.index (c :: l) [c] = 0 := by
  unfold Lib.index
  rw [if_pos (by simp [List.isPrefixOf])]
theorem index_miss {c b : UInt8} (h : b ≠ c) (l : List UInt8) : Lib.index (b :: l) [c] = if Lib.index l [c] == -1 then -1 else Lib.index l [c] + 1 := by
  rw [Lib.index, if_neg]
  simp [List.isPrefixOf]
  exact fun e => h e.symm
theorem split_parts (c : UInt8) : ∀ l, Lib.splitK [c] 0 (Lib.count l [c]) l = partsL c l
  | [] => by
    have h : Lib.index [] [c] = -1 := rfl
    rw [Lib.count_miss h]; rfl
  | b :: l => by
    have ih := split_parts c l
    by_cases hb : b = c
    · subst hb
      rw [Lib.count_hit (i := 0) (by simp) (index_hit b l), partsL_hit]
      show Lib.splitK [b] 0 (1 + Lib.count ((b :: l).drop 1) [b]) (b :: l) = _
      rw [Nat.add_comm, List.drop_one, List.tail_cons, Lib.splitK, index_hit]
      rw [if_neg (by decide)]
      show [] :: Lib.splitK [b] 0 _ l = _
      rw [ih]
    · have hi := index_miss hb l
      by_cases hm : Lib.index l [c] = -1
      · rw [if_pos (by rw [hm]; rfl)] at hi
        rw [Lib.count_miss hm] at ih
        rw [Lib.count_miss hi, partsL_miss hb ih.symm]
        rfl
      · have hg := Lib.index_ge l [c]
        obtain ⟨i, hii⟩ := Int.eq_ofNat_of_zero_le (show 0 ≤ Lib.index l [c] by omega)
        rw [if_neg (by simpa using hm), hii] at hi
        have e1 := Lib.count_hit (i := i) (s := l) (sub := [c]) (by simp) hii
        have e2 := Lib.count_hit (i := i + 1) (s := b :: l) (sub := [c]) (by simp) hi
        rw [e1, Nat.add_comm, Lib.splitK, hii, if_neg (by simp)] at ih
        have h1 : ((i : Int)).toNat = i := by omega
        rw [h1] at ih
        rw [partsL_miss hb ih.symm, e2, Nat.add_comm, Lib.splitK, hi, if_neg (by simp; omega)]
        have h2 : ((i : Int) + 1).toNat = i + 1 := by omega
        rw [h2]
        have h3 : (b :: l).drop (i + 1 + [c].length) = l.drop (i + [c].length) := by
          show (b :: l).drop (i + 1 + 1) = l.drop (i + 1)
          rfl
        rw [h3]
        rfl
/-- a text cut at each c -/
def partsB (c : UInt8) (s : ByteArray) : List ByteArray := (partsL c s.data.toList).map fun l => ⟨l.toArray⟩
theorem splitB_parts (c : UInt8) (s : ByteArray) : Lib.splitB ⟨#[c]⟩ 0 (Lib.countB s ⟨#[c]⟩) s = partsB c s := by
  have h := Lib.splitB_data ⟨#[c]⟩ 0 (Lib.countB s ⟨#[c]⟩) s
  have h2 : Lib.splitK (⟨#[c]⟩ : ByteArray).data.toList 0 (Lib.countB s ⟨#[c]⟩) s.data.toList = partsL c s.data.toList := split_parts c s.data.toList
  rw [h2] at h
  unfold partsB
  rw [← h, List.map_map]
  conv => lhs; rw [← List.map_id (Lib.splitB ⟨#[c]⟩ 0 (Lib.countB s ⟨#[c]⟩) s)]
  apply List.map_congr_left
  intro x _
  show x = ⟨x.data.toList.toArray⟩
  cases x
  simp
theorem partsB_ne (c : UInt8) (s : ByteArray) : partsB c s ≠ [] := by
  unfold partsB
  simp [partsL_ne]
theorem partsB_len (c : UInt8) (s : ByteArray) : Lib.countB s ⟨#[c]⟩ + 1 = (partsB c s).length := by
  rw [← splitB_parts, Lib.splitB_all ⟨#[c]⟩ (by show 1 ≤ 1; omega) 0 _ s rfl]
/-- no c in a text -/
def freeB (c : UInt8) (s : ByteArray) : Prop := ∀ b ∈ s.data.toList, b ≠ c
theorem parts_four {a b c d : ByteArray} (ha : freeB 32 a) (hb : freeB 32 b) (hc : freeB 32 c) (hd : freeB 32 d) : partsB 32 (four4 a b c d) = [a, b, c, d] := by
  have e : (four4 a b c d).data.toList = a.data.toList ++ 32 :: (b.data.toList ++ 32 :: (c.data.toList ++ 32 :: d.data.toList)) := by
    simp [four4, sp]
  unfold partsB
  rw [e, partsL_app 32 _ _ ha, partsL_app 32 _ _ hb, partsL_app 32 _ _ hc, partsL_one 32 _ hd]
  simp
theorem four_parts {s a b c d : ByteArray} (h : partsB 32 s = [a, b, c, d]) : four4 a b c d = s := by
  apply ba_ext
  have h1 := joinL_parts 32 s.data.toList
  unfold partsB at h
  have h2 : partsL 32 s.data.toList = [a.data.toList, b.data.toList, c.data.toList, d.data.toList] := by
    have := congrArg (List.map (fun x : ByteArray => x.data.toList)) h
    rw [List.map_map] at this
    have e : ((fun x : ByteArray => x.data.toList) ∘ fun l : List UInt8 => (⟨l.toArray⟩ : ByteArray)) = id := by
      funext l; simp
    rw [e, List.map_id] at this
    simpa using this
  rw [h2] at h1
  rw [← h1]
  simp [joinL, four4, sp]
theorem parts_size {c : UInt8} {s x : ByteArray} (h : x ∈ partsB c s) : x.size ≤ s.size := by
  have key : ∀ (l p : List UInt8), p ∈ partsL c l → p.length ≤ l.length := by
    intro l
    induction l with
    | nil => intro p hp; simp [partsL] at hp; subst hp; simp
    | cons b l ih =>
      intro p hp
      by_cases hb : b = c
      · subst hb
        rw [partsL_hit] at hp
        rcases List.mem_cons.1 hp with rfl | hp
        · simp
        · have := ih p hp; simp; omega
      · obtain ⟨q, r, hq⟩ : ∃ q r, partsL c l = q :: r := by
          cases h : partsL c l with
          | nil => exact absurd h (partsL_ne c l)
          | cons q r => exact ⟨q, r, rfl⟩
        rw [partsL_miss hb hq] at hp
        rcases List.mem_cons.1 hp with rfl | hp
        · have := ih q (by rw [hq]; simp); simp; omega
        · have := ih p (by rw [hq]; simp [hp]); simp; omega
  unfold partsB at h
  obtain ⟨l, hl, rfl⟩ := List.mem_map.1 h
  have := key _ _ hl
  show l.toArray.size ≤ s.data.toList.length
  simpa using this

/-! ### heads -/
theorem free_dig (n : Nat) : freeB 32 (digB n) := by
  intro b hb
  rw [digB_dec n n (Nat.le_refl _)] at hb
  have key : ∀ (N n : Nat), n ≤ N → ∀ b ∈ Lib.decDigits n, b ≠ 32 := by
    intro N
    induction N with
    | zero => intro n h b hb
              obtain rfl : n = 0 := by omega
              rw [Lib.decDigits, dif_pos (by omega)] at hb
              obtain rfl : b = UInt8.ofNat (48 + 0) := by simpa using hb
              decide
    | succ N ih =>
      intro n h b hb
      have h10 : ∀ d, d < 10 → UInt8.ofNat (48 + d) ≠ 32 := by decide
      by_cases h1 : n < 10
      · rw [Lib.decDigits, dif_pos h1] at hb
        obtain rfl : b = UInt8.ofNat (48 + n) := by simpa using hb
        exact h10 n h1
      · rw [Lib.decDigits, dif_neg h1] at hb
        rcases List.mem_append.1 hb with hb | hb
        · exact ih (n / 10) (by omega) b hb
        · obtain rfl : b = UInt8.ofNat (48 + n % 10) := by simpa using hb
          exact h10 _ (Nat.mod_lt _ (by decide))
  exact key n n (Nat.le_refl _) b hb
theorem free_hex (n : Nat) : freeB 32 (hexT n) := by
  have key : ∀ (k n : Nat), freeB 32 (lowHex n k) := by
    intro k
    induction k with
    | zero => intro n b hb; exact absurd hb (by simp [lowHex])
    | succ k ih =>
      intro n
      rw [lowHex_snoc]
      intro b hb
      rw [ByteArray.data_append, Array.toList_append] at hb
      rcases List.mem_append.1 hb with hb | hb
      · exact ih _ b hb
      · have h16 : ∀ d, d < 16 → ∀ b ∈ (hx d).data.toList, b ≠ 32 := by decide +kernel
        exact h16 _ (Nat.mod_lt _ (by decide)) b hb
  exact key 8 n
def hd0 : Hd := ⟨0, 0, 0, 0⟩
/-- a head of four texts -/
def headQ (a b c d : ByteArray) : Hd × Int := match numR a 9, numR c 9 with
  | some n, some t =>
    if readK b = 2 ∨ readK d = 2 then (hd0, 2)
    else if readK b ≠ 0 ∨ readK d ≠ 0 ∨ Hd.ok ⟨(n : Int), readV b, (t : Int), readV d⟩ = false then (hd0, 1)
    else (⟨(n : Int), readV b, (t : Int), readV d⟩, 0)
  | _, _ => (hd0, 2)
/-- a head of a text -/
def headR (s : ByteArray) : Hd × Int := match partsB 32 s with
  | [a, b, c, d] => headQ a b c d
  | _ => (hd0, 2)
theorem headR_four {s a b c d : ByteArray} (h : partsB 32 s = [a, b, c, d]) : headR s = headQ a b c d := by unfold headR; rw [h]
theorem headR_not {s : ByteArray} (h : (partsB 32 s).length ≠ 4) : headR s = (hd0, 2) := by
  unfold headR
  split
  · rename_i a b c d e
    rw [e] at h
    exact absurd rfl h
  · rfl
theorem headR_none1 {a b c d : ByteArray} (h : numR a 9 = none ∨ numR c 9 = none) : headQ a b c d = (hd0, 2) := by
  unfold headQ
  split
  · rename_i e1 e2
    rcases h with h | h
    · rw [h] at e1; cases e1
    · rw [h] at e2; cases e2
  · rfl
theorem headQ_some {a b c d : ByteArray} {n t : Nat} (h1 : numR a 9 = some n) (h2 : numR c 9 = some t) : headQ a b c d = if readK b = 2 ∨ readK d = 2 then (hd0, 2) else if readK b ≠ 0 ∨ readK d ≠ 0 ∨ Hd.ok ⟨(n : Int), readV b, (t : Int), readV d⟩ = false then (hd0, 1) else (⟨(n : Int), readV b, (t : Int), readV d⟩, 0) := by
  unfold headQ
  rw [h1, h2]
theorem readV_hexT {n : Int} (h : vld n = true) : readV (hexT n.toNat) = n ∧ readK (hexT n.toNat) = 0 := by
  obtain ⟨h1, h2⟩ := vld_true h
  obtain ⟨m, rfl⟩ := Int.eq_ofNat_of_zero_le h1
  rw [Int.toNat_natCast]
  have hr := readH_hexT (n := m) (by omega)
  unfold readV readK
  rw [hr]
  simp only
  rw [if_pos (by omega), if_pos (by omega)]
  exact ⟨rfl, rfl⟩
/-- what was written is read -/
theorem headR_back {h : Hd} (k : h.ok = true) : headR (headB h) = (h, 0) := by
  obtain ⟨k1, k2, k3, k4, k5, k6⟩ := Hd.ok_parts k
  obtain ⟨a, b, c, d⟩ := h
  simp only at k1 k2 k3 k4 k5 k6
  obtain ⟨r1, r2⟩ := readV_hexT k5
  obtain ⟨r3, r4⟩ := readV_hexT k6
  obtain ⟨a, rfl⟩ := Int.eq_ofNat_of_zero_le k1
  obtain ⟨c, rfl⟩ := Int.eq_ofNat_of_zero_le k3
  unfold headB
  simp only [Int.toNat_natCast]
  rw [headR_four (parts_four (free_dig a) (free_hex _) (free_dig c) (free_hex _))]
  rw [headQ_some (numR_of (Nat.le_trans (digB_small 6 a (by show a < 10000000; omega)) (by omega)) rfl) (numR_of (Nat.le_trans (digB_small 6 c (by show c < 10000000; omega)) (by omega)) rfl), r2, r4, r1, r3, if_neg (by omega), if_neg]
  rintro (h | h | h)
  · exact h rfl
  · exact h rfl
  · rw [k] at h; cases h
/-- what was read is written so -/
theorem readK_text {s : ByteArray} (h : readK s = 0) : hexT (readV s).toNat = s := by
  unfold readK at h
  split at h
  · rename_i n hn
    split at h
    · rename_i hlt
      unfold readV
      rw [hn]
      simp only
      rw [if_pos hlt, Int.toNat_natCast]
      exact (readH_text hn).2.2.2
    · cases h
  · cases h
theorem headR_print {s : ByteArray} (k : (headR s).2 = 0) : headB (headR s).1 = s ∧ (headR s).1.ok = true := by
  by_cases h4 : (partsB 32 s).length = 4
  · obtain ⟨a, b, c, d, hp⟩ : ∃ a b c d, partsB 32 s = [a, b, c, d] := by
      match h : partsB 32 s, h4 with
      | [a, b, c, d], _ => exact ⟨a, b, c, d, rfl⟩
    rw [headR_four hp] at k ⊢
    cases h1 : numR a 9 with
    | none => rw [headR_none1 (.inl h1)] at k; cases k
    | some n =>
      cases h2 : numR c 9 with
      | none => rw [headR_none1 (.inr h2)] at k; cases k
      | some t =>
        rw [headQ_some h1 h2] at k ⊢
        split at k
        · cases k
        · rename_i q1
          split at k
          · cases k
          · rename_i q2
            rw [if_neg q1, if_neg q2]
            simp only [not_or, Decidable.not_not] at q2
            obtain ⟨q3, q4, q5⟩ := q2
            refine ⟨?_, by simpa using q5⟩
            unfold headB
            simp only [Int.toNat_natCast]
            rw [(numR_some h1).2.2.2, (numR_some h2).2.2.2, readK_text q3, readK_text q4, four_parts hp]
  · rw [headR_not h4] at k; cases k
end Go.Proofs.YtnphbkjkeipmmaaGreatDoor

/- head.Print, Number, Parse. -/
namespace Go.Proofs.YtnphbkjkeipmmaaGreatDoor
open Go.RowKit Go.WideShapes
set_option linter.unusedVariables false
attribute [local go_sem ↓] Go.wp_at_zero Go.wp_at_succ

def hprT (h : Hd) : ByteArray := if h.ok then headB h else ⟨#[]⟩
set_option maxRecDepth 100000 in
set_option maxHeartbeats 2000000 in
theorem HPrint_any (h : Hd) (w : World) (hD : DebG w) (hP : PowG w) :
    Calls Tryz.prog 85 #[h.val] w fun e w' => e = .returned (.tuple #[.string (hprT h), errR (hdK h)]) ∧ Ext w w' := by
  obtain ⟨hE, hN, hG0⟩ := errR_rules
  have HC := Lib.hid fun W => HCheck_any h W
  cases hok : h.ok with
  | false =>
    have h1 : hdK h = 1 := if_neg (by rw [hok]; decide)
    have h2 : hprT h = ⟨#[]⟩ := if_neg (by rw [hok]; decide)
    rw [h1] at HC ⊢
    rw [h2]
    clear hok h1 h2 hD hP
    obtain ⟨a, b, c, d⟩ := h
    simp only [Hd.val] at *
    have B0 := Bk.at_ w 29 #[.int .i64 a, .int .i64 b, .int .i64 c, .int .i64 d] w.heap.size rfl
    have e0 : Ext w (w.alloc (.cells #[.int .i64 a, .int .i64 b, .int .i64 c, .int .i64 d] 29)) := by (repeat (with_reducible first | exact Ext.refl _ | assumption | refine Ext.drew ?_ | refine Ext.drewN ?_ _ | refine Ext.alloc ?_ _ | refine Ext.trans ?_ (by with_reducible assumption)))
    go_enter Tryz.func85, Tryz.ntmps85
    go_upto_region 1 with (fail)
    obtain ⟨g0, hg0⟩ : ∃ g, w.heap.size = g := ⟨_, rfl⟩
    rw [hg0] at B0
    try rw [hg0]
    generalize w.alloc (.cells #[.int .i64 a, .int .i64 b, .int .i64 c, .int .i64 d] 29) = W0 at *
    have y0 := B0.cell 0
    have y1 := B0.cell 1
    have y2 := B0.cell 2
    have y3 := B0.cell 3
    have HE0 := Lib.hid e0
    clear e0 hg0
    go_wp2_with fail
    refine (HC.out _).mono ?_
    rintro _ w1 ⟨rfl, hb1⟩
    go_wp2_with fail
    go_ret2
    exact ⟨rfl, HE0.out.trans hb1⟩
  | true =>
    have h1 : hdK h = 0 := if_pos hok
    have h2 : hprT h = headB h := if_pos hok
    obtain ⟨k1, k2, k3, k4, k5, k6⟩ := Hd.ok_parts hok
    rw [h1] at HC ⊢
    rw [h2]
    have HHB : Hid (headB h = four4 (digB h.size.toNat) (hexT h.root.toNat) (digB h.time.toNat) (hexT h.sign.toNat)) := rfl
    have s1 : (digB h.size.toNat).size ≤ 7 := digB_small 6 _ (by show _ < 10000000; omega)
    have s3 : (digB h.time.toNat).size ≤ 7 := digB_small 6 _ (by show _ < 10000000; omega)
    have s2 := hexT_size h.root.toNat
    have s4 := hexT_size h.sign.toNat
    clear hok h1 h2
    obtain ⟨a, b, c, d⟩ := h
    simp only at k1 k2 k3 k4 k5 k6 s1 s2 s3 s4
    obtain ⟨a, rfl⟩ := Int.eq_ofNat_of_zero_le k1
    obtain ⟨c, rfl⟩ := Int.eq_ofNat_of_zero_le k3
    simp only [Int.toNat_natCast] at s1 s3 HHB
    have HI1 := Lib.hid fun W (e : Ext w W) => Itoa_any a W (by omega) (hP.ext e)
    have HI2 := Lib.hid fun W (e : Ext w W) => Itoa_any c W (by omega) (hP.ext e)
    obtain ⟨tx, htx⟩ : ∃ f : Int → ByteArray, ∀ z : Int, hexT z.toNat = f z := ⟨_, fun _ => rfl⟩
    have HT : Hid (∀ z, z = b ∨ z = d → ∀ W, Ext w W → Calls Tryz.prog 78 #[.int .i64 z] W fun e w' => e = .returned (.string (tx z)) ∧ Ext W w') := Lib.hid fun z hz W e => by
      rw [← htx z]
      rcases hz with rfl | rfl
      · exact MText_sum k5 W (hD.ext e)
      · exact MText_sum k6 W (hD.ext e)
    rw [htx b, htx d] at HHB
    rw [htx b] at s2
    rw [htx d] at s4
    obtain ⟨t1, ht1⟩ : ∃ t, digB a = t := ⟨_, rfl⟩
    obtain ⟨t3, ht3⟩ : ∃ t, digB c = t := ⟨_, rfl⟩
    rw [ht1] at HI1 HHB s1
    rw [ht3] at HI2 HHB s3
    have HJ := Lib.hid fun (g : Nat) (W : World) h0 h1 h2 h3 hg => Join4 g 4 t1 (tx b) t3 (tx d) W h0 h1 h2 h3 hg (by omega) (by omega)
    rw [← HHB.out] at HJ
    obtain ⟨hb, hhb⟩ : ∃ t, headB ⟨(a : Int), b, (c : Int), d⟩ = t := ⟨_, rfl⟩
    rw [hhb] at HJ ⊢
    clear hhb HHB ht1 ht3 htx s1 s2 s3 s4 k1 k2 k3 k4 k5 k6 hD hP
    simp only [Hd.val] at *
    have B0 := Bk.at_ w 29 #[.int .i64 a, .int .i64 b, .int .i64 c, .int .i64 d] w.heap.size rfl
    have e0 : Ext w (w.alloc (.cells #[.int .i64 a, .int .i64 b, .int .i64 c, .int .i64 d] 29)) := by (repeat (with_reducible first | exact Ext.refl _ | assumption | refine Ext.drew ?_ | refine Ext.drewN ?_ _ | refine Ext.alloc ?_ _ | refine Ext.trans ?_ (by with_reducible assumption)))
    go_enter Tryz.func85, Tryz.ntmps85
    go_upto_region 1 with (fail)
    obtain ⟨g0, hg0⟩ : ∃ g, w.heap.size = g := ⟨_, rfl⟩
    rw [hg0] at B0
    try rw [hg0]
    generalize w.alloc (.cells #[.int .i64 a, .int .i64 b, .int .i64 c, .int .i64 d] 29) = W0 at *
    have y0 := B0.cell 0
    have y1 := B0.cell 1
    have y2 := B0.cell 2
    have y3 := B0.cell 3
    have HE0 := Lib.hid e0
    clear e0 hg0
    go_wp2_with fail
    refine (HC.out _).mono ?_
    rintro _ w1 ⟨rfl, hb1⟩
    rw [errR_0]
    have HE1 := Lib.hid (HE0.out.trans hb1)
    have B1 := B0.ext hb1
    clear y0 y1 y2 y3 HE0 hb1 B0
    have x0 : ∀ x : WE w1, x.W.cell? ⟨g0, 0, none⟩ = some (.int .i64 a) := fun x => (B1.ext x.h).cell 0
    have x1 : ∀ x : WE w1, x.W.cell? ⟨g0, 1, none⟩ = some (.int .i64 b) := fun x => (B1.ext x.h).cell 1
    have x2 : ∀ x : WE w1, x.W.cell? ⟨g0, 2, none⟩ = some (.int .i64 c) := fun x => (B1.ext x.h).cell 2
    have x3 : ∀ x : WE w1, x.W.cell? ⟨g0, 3, none⟩ = some (.int .i64 d) := fun x => (B1.ext x.h).cell 3
    go_upto_region 4 with (fail)
    (refine wp_region_ext_tail (w0 := w1) 12 (by kernel_rfl) (by kernel_rfl) (by (repeat (with_reducible first | exact Ext.refl _ | assumption | refine Ext.drew ?_ | refine Ext.drewN ?_ _ | refine Ext.alloc ?_ _ | refine Ext.trans ?_ (by with_reducible assumption)))) ?_; simp only [List.take_succ_cons, List.take_zero, List.drop_succ_cons, List.drop_zero]; (repeat (go_big_quiet_step ((first
      | (go_at_call 75; first | exact quietE (HI1.out _ (HE1.out.trans (WE.h _))) | exact quietE (HI2.out _ (HE1.out.trans (WE.h _))))
      | (go_at_call 78; exact quietE (HT.out _ (by first | exact .inl rfl | exact .inr rfl) _ (HE1.out.trans (WE.h _)))))))); refine wpQuiet_nil ?_)
    rintro _ ⟨xq, rfl⟩
    obtain ⟨w6, hw6⟩ : ∃ w, xq.W = w := ⟨_, rfl⟩
    have hb6 : Ext w1 w6 := by rw [← hw6]; exact xq.h
    rw [hw6]
    clear hw6 x0 x1 x2 x3
    have B7 := Bk.at_ w6 9 #[.string t1, .string (tx b), .string t3, .string (tx d)] w6.heap.size rfl
    have e7 : Ext w1 (w6.alloc (.cells #[.string t1, .string (tx b), .string t3, .string (tx d)] 9)) := hb6.alloc _
    have HJ7 := Lib.hid (HJ.out w6.heap.size _ (B7.cell 0) (B7.cell 1) (B7.cell 2) (B7.cell 3) (by simp))
    go_wp2_with fail
    refine HJ7.out.mono ?_
    rintro _ w8 ⟨rfl, hb8⟩
    go_wp2_with fail
    go_ret2
    exact ⟨rfl, HE1.out.trans (e7.trans hb8)⟩

/-! ### Number -/
theorem atoi_bd {l : List UInt8} {v : Int} (h : Lib.atoiAll l = .ok v) : -9223372036854775808 ≤ v ∧ v ≤ 9223372036854775807 := by
  cases l with
  | nil => cases h
  | cons c r =>
    unfold Lib.atoiAll at h
    simp only at h
    generalize Lib.parseMag _ = pm at h
    cases pm
    case ok u =>
      simp only at h
      split at h
      · cases h
      · split at h
        · cases h
        · injection h with h
          subst h
          split <;> omega
    all_goals cases h
def NumR (s : ByteArray) (m : Nat) (e : Ending) : Prop := ∃ n : Int, e = .returned (.tuple #[.int .i64 n, .bool (numR s m).isSome]) ∧ ∀ v, numR s m = some v → n = (v : Int)
theorem numR_same {s : ByteArray} {m u : Nat} {v : Int} (hm : m ≤ 9) (h : numR s m = some u) (ha : Lib.atoiAll s.data.toList = .ok v) : v = u := by
  rw [numR_atoi h hm] at ha
  injection ha with ha
  exact ha.symm
theorem numR_not {s : ByteArray} {m : Nat} (hm : m ≤ 9) (ha : ∀ v, Lib.atoiAll s.data.toList ≠ .ok v) : numR s m = none := by
  cases h : numR s m with
  | none => rfl
  | some u => exact absurd (numR_atoi h hm) (ha _)
theorem NumR.no {s : ByteArray} {m : Nat} {n : Int} (h : numR s m = none) : NumR s m (.returned (.tuple #[.int .i64 n, .bool false])) := ⟨n, by rw [h]; rfl, fun v hv => by rw [h] at hv; cases hv⟩
set_option maxRecDepth 100000 in
set_option maxHeartbeats 1000000 in
theorem HNumber_any (s : ByteArray) (m : Nat) (w : World) (hs : s.size ≤ 140737488355328) (hm : m ≤ 9) (hG : StrG w) (hP : PowG w) :
    Calls Tryz.prog 80 #[.string s, .int .i64 m] w fun e w' => NumR s m e ∧ Ext w w' := by
  obtain ⟨hE, hN, hG0⟩ := errR_rules
  cases ha : Lib.atoiAll s.data.toList
  case ok v =>
    have HA := Lib.hid (Tryz.strconv_Atoi_ok s (by omega) v ha w)
    obtain ⟨b1, b2⟩ := atoi_bd ha
    have HI := Lib.hid fun W (e : Ext w W) => ItoaI_any v W b1 b2 (hP.ext e)
    have HSM := Lib.hid fun u (h : numR s m = some u) => numR_same hm h ha
    clear ha b1 b2 hP hG
    by_cases h0 : 0 ≤ v
    case neg =>
      have hno : numR s m = none := by
        cases h : numR s m with
        | none => rfl
        | some u => have := HSM.out u h; omega
      have HNO := Lib.hid (fun n : Int => NumR.no (n := n) hno)
      clear hno HSM HI
      go_enter Tryz.func80, Tryz.ntmps80
      go_wp2_with fail
      refine HA.out.mono ?_
      rintro _ w1 ⟨rfl, hw1⟩
      have hb1 : Ext w w1 := by rcases hw1 with rfl | ⟨t, rfl⟩; exact Ext.refl _; exact Lib.bytesWorld_below _ _ _
      clear hw1
      go_wp2_with fail
      go_ret2
      exact ⟨HNO.out _, hb1⟩
    by_cases h1 : s.size ≤ m
    case neg =>
      have hno : numR s m = none := by
        cases h : numR s m with
        | none => rfl
        | some u => exact absurd (numR_some h).1 h1
      have h1i : ¬ (s.size : Int) ≤ (m : Int) := by omega
      have HNO := Lib.hid (fun n : Int => NumR.no (n := n) hno)
      clear hno HSM HI h1
      go_enter Tryz.func80, Tryz.ntmps80
      go_wp2_with fail
      refine HA.out.mono ?_
      rintro _ w1 ⟨rfl, hw1⟩
      have hb1 : Ext w w1 := by rcases hw1 with rfl | ⟨t, rfl⟩; exact Ext.refl _; exact Lib.bytesWorld_below _ _ _
      clear hw1
      go_wp2_with fail
      go_ret2
      exact ⟨HNO.out _, hb1⟩
    obtain ⟨k, rfl⟩ := Int.eq_ofNat_of_zero_le h0
    have h1i : (s.size : Int) ≤ (m : Int) := by omega
    rw [digB_itoa] at HI
    have HY : Hid (digB k = s → numR s m = some k) := Lib.hid fun h => numR_of h1 h
    have HZ : Hid (∀ u, numR s m = some u → digB k = s) := Lib.hid fun u h => by
      have := HSM.out u h
      obtain rfl : k = u := by omega
      exact (numR_some h).2.2.2
    obtain ⟨t, ht⟩ : ∃ t, digB k = t := ⟨_, rfl⟩
    rw [ht] at HI HY HZ
    clear ht h1
    by_cases he : t = s
    · have hyes := HY.out he
      have HRS : Hid (NumR s m (.returned (.tuple #[.int .i64 (k : Int), .bool true]))) := Lib.hid ⟨_, by rw [hyes]; rfl, fun v hv => by rw [hyes] at hv; injection hv with hv; rw [hv]⟩
      subst he
      clear hyes HY HZ HSM
      go_enter Tryz.func80, Tryz.ntmps80
      go_wp2_with fail
      refine HA.out.mono ?_
      rintro _ w1 ⟨rfl, hw1⟩
      have hb1 : Ext w w1 := by rcases hw1 with rfl | ⟨t, rfl⟩; exact Ext.refl _; exact Lib.bytesWorld_below _ _ _
      clear hw1
      go_wp2_with fail
      refine (HI.out _ hb1).mono ?_
      rintro _ w2 ⟨rfl, hb2⟩
      go_wp2_with fail
      go_ret2
      exact ⟨HRS.out, hb1.trans hb2⟩
    · have hno : numR s m = none := by
        cases h : numR s m with
        | none => rfl
        | some u => exact absurd (HZ.out u h) he
      have HNO := Lib.hid (fun n : Int => NumR.no (n := n) hno)
      have q1 := (Lib.bytes_beq_false_iff t s).2 he
      clear hno HY HZ HSM
      go_enter Tryz.func80, Tryz.ntmps80
      go_wp2_with fail
      refine HA.out.mono ?_
      rintro _ w1 ⟨rfl, hw1⟩
      have hb1 : Ext w w1 := by rcases hw1 with rfl | ⟨t, rfl⟩; exact Ext.refl _; exact Lib.bytesWorld_below _ _ _
      clear hw1
      go_wp2_with fail
      refine (HI.out _ hb1).mono ?_
      rintro _ w2 ⟨rfl, hb2⟩
      have e2 := hb1.trans hb2
      go_wp2_with fail
      go_ret2
      exact ⟨HNO.out _, e2⟩
  case range =>
    obtain ⟨tp, p, hc⟩ := hG.rng.1
    have HA := Lib.hid (Tryz.strconv_Atoi_range s (by omega) ha (.iface tp p) w hc (.inr ⟨tp, p, rfl⟩))
    have HNO := Lib.hid (fun n : Int => NumR.no (n := n) (numR_not (s := s) hm (by rw [ha]; intro v h; cases h)))
    generalize Lib.atoiSat s.data.toList = sat at *
    clear ha hc hG hP
    go_enter Tryz.func80, Tryz.ntmps80
    go_wp2_with fail
    refine HA.out.mono ?_
    rintro _ w1 ⟨N, rfl, -, -, hb1⟩
    have hb1' : Ext w w1 := hb1
    clear hb1
    go_wp2_with fail
    go_ret2
    exact ⟨HNO.out _, hb1'⟩
  · obtain ⟨tp, p, hc⟩ := hG.syn.1
    have HA := Lib.hid (Tryz.strconv_Atoi_syntax s (by omega) ha (.iface tp p) w hc (.inr ⟨tp, p, rfl⟩))
    have HNO := Lib.hid (fun n : Int => NumR.no (n := n) (numR_not (s := s) hm (by rw [ha]; intro v h; cases h)))
    clear ha hc hG hP
    go_enter Tryz.func80, Tryz.ntmps80
    go_wp2_with fail
    refine HA.out.mono ?_
    rintro _ w1 ⟨N, rfl, -, -, hb1⟩
    have hb1' : Ext w w1 := hb1
    clear hb1
    go_wp2_with fail
    go_ret2
    exact ⟨HNO.out _, hb1'⟩
end Go.Proofs.YtnphbkjkeipmmaaGreatDoor

/- A number of the library's that a search asks for. -/
namespace Go.Proofs.YtnphbkjkeipmmaaGreatDoor
open Go.RowKit Go.WideShapes
set_option linter.unusedVariables false

/-- a number of the library's that a search asks for -/
def MaxG (w : World) : Prop := ∃ m : Int, w.cell? ⟨1, 0, none⟩ = some (.int .i64 m)
theorem MaxG.ext {w w' : World} (h : MaxG w) (e : Ext w w') : MaxG w' := by
  obtain ⟨m, h⟩ := h
  exact ⟨m, (e.cell (p := ⟨1, 0, none⟩) (cell_lt h)).trans h⟩
theorem MaxG.of_shape {w : World} (h : w.ShapedOpen Tryz.prog) : MaxG w :=
  Go.Proofs.cell_of_shapedOpen_int (zero := #[.int .i64 0]) (t := 3) h (of_decide_eq_true (by kernel_rfl)) (by kernel_rfl) rfl (by kernel_rfl) (by kernel_rfl) Tryz.underlying3
end Go.Proofs.YtnphbkjkeipmmaaGreatDoor
