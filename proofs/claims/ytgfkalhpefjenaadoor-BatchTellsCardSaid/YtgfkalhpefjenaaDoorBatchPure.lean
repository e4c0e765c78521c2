/- Several proofs at once: plain. -/
import Derived.Test.YtgfkalhpefjenaaDoorRootPure
namespace Go.Proofs.YtgfkalhpefjenaaDoor
set_option linter.unusedVariables false

/-- how many places are below another one -/
def belowN (l : List Int) (k : Int) : Nat := (l.takeWhile fun x => decide (x < k)).length
theorem belowN_le (l : List Int) (k : Int) : belowN l k ≤ l.length := by
  unfold belowN
  have := congrArg List.length (List.takeWhile_append_dropWhile (p := fun x => decide (x < k)) (l := l))
  rw [List.length_append] at this
  omega
theorem take_below (l : List Int) (k : Int) : l.take (belowN l k) = l.takeWhile fun x => decide (x < k) := by
  have := List.takeWhile_append_dropWhile (p := fun x => decide (x < k)) (l := l)
  unfold belowN
  conv => lhs; arg 2; rw [← this]
  exact List.take_left
theorem drop_below (l : List Int) (k : Int) : l.drop (belowN l k) = l.dropWhile fun x => decide (x < k) := by
  have := List.takeWhile_append_dropWhile (p := fun x => decide (x < k)) (l := l)
  unfold belowN
  conv => lhs; arg 2; rw [← this]
  exact List.drop_left
theorem takeWhile_mem {p : Int → Bool} : ∀ {l : List Int} {x : Int}, x ∈ l.takeWhile p → p x = true
  | y :: l, x, h => by
    rw [List.takeWhile_cons] at h
    by_cases hy : p y = true
    · rw [if_pos hy] at h
      rcases List.mem_cons.1 h with rfl | h
      · exact hy
      · exact takeWhile_mem h
    · rw [if_neg hy] at h; cases h
theorem takeWhile_all {p : Int → Bool} : ∀ {l : List Int}, (∀ x ∈ l, p x = true) → l.takeWhile p = l
  | [], _ => rfl
  | y :: l, h => by rw [List.takeWhile_cons, if_pos (h y (by simp)), takeWhile_all fun x hx => h x (by simp [hx])]
theorem below_lt {l : List Int} {k x : Int} (h : x ∈ l.take (belowN l k)) : x < k := by
  rw [take_below] at h
  have := takeWhile_mem h
  exact of_decide_eq_true this
theorem below_ge {l : List Int} (hr : l.Pairwise (· < ·)) {k x : Int} (h : x ∈ l.drop (belowN l k)) : k ≤ x := by
  rw [drop_below] at h
  induction l with
  | nil => simp at h
  | cons y l ih =>
    rw [List.dropWhile_cons] at h
    by_cases hy : y < k
    · rw [if_pos (decide_eq_true hy)] at h
      exact ih (List.pairwise_cons.1 hr).2 h
    · rw [if_neg (by simp; omega)] at h
      rcases List.mem_cons.1 h with rfl | h
      · omega
      · have := (List.pairwise_cons.1 hr).1 x h
        omega
/-- the loop of 'below' -/
theorem below_step {l : List Int} {k : Int} {j : Nat} {z : Int} (hz : l[j]? = some z) (hj : ∀ i u, i < j → l[i]? = some u → u < k) (h : ¬ z < k) : belowN l k = j := by
  induction l generalizing j with
  | nil => simp at hz
  | cons y l ih =>
    unfold belowN
    rcases j with _ | j
    · simp at hz
      subst hz
      rw [List.takeWhile_cons, if_neg (by simpa using h)]
      rfl
    · have hy : y < k := hj 0 y (by omega) rfl
      rw [List.takeWhile_cons, if_pos (decide_eq_true hy), List.length_cons]
      have := ih (j := j) (by simpa using hz) (fun i u hi hu => hj (i + 1) u (by omega) (by simpa using hu))
      unfold belowN at this
      rw [this]
theorem below_end {l : List Int} {k : Int} (hj : ∀ (i : Nat) (u : Int), i < l.length → l[i]? = some u → u < k) : belowN l k = l.length := by
  unfold belowN
  rw [takeWhile_all]
  intro x hx
  obtain ⟨i, hi⟩ := List.mem_iff_getElem?.1 hx
  exact decide_eq_true (hj i x (List.getElem?_eq_some_iff.1 hi).1 hi)

section
variable {σ : Type} (told : σ → Nat → Nat → Option (Int × σ)) (leaf : σ → Option (Int × σ))
/-- the walk over parts -/
def walkP (f s : Nat) (l : List Int) (x : σ) : Option (Int × σ) :=
  if l = [] then told x f s
  else if h : 2 ≤ s ∧ half s < s then
    (walkP f (half s) (l.take (belowN l ((f : Int) + (half s : Nat)))) x).bind fun p => (walkP (f + half s) (s - half s) (l.drop (belowN l ((f : Int) + (half s : Nat)))) p.2).bind fun q => some (nodeL p.1 q.1, q.2)
  else leaf x
termination_by s
decreasing_by
  · exact h.2
  · have := half_pos s; omega
variable {told leaf}
theorem walkP_none (f s : Nat) (x : σ) : walkP told leaf f s [] x = told x f s := by rw [walkP, if_pos rfl]
theorem walkP_leaf (f : Nat) {l : List Int} (h : l ≠ []) (x : σ) : walkP told leaf f 1 l x = leaf x := by rw [walkP, if_neg h, dif_neg (by omega)]
theorem walkP_two {f s : Nat} {l : List Int} (h : l ≠ []) (h2 : 2 ≤ s) (hs : s ≤ 4096) (x : σ) : walkP told leaf f s l x =
    (walkP told leaf f (half s) (l.take (belowN l ((f : Int) + (half s : Nat)))) x).bind fun p => (walkP told leaf (f + half s) (s - half s) (l.drop (belowN l ((f : Int) + (half s : Nat)))) p.2).bind fun q => some (nodeL p.1 q.1, q.2) := by
  rw [walkP, if_neg h, dif_pos ⟨h2, half_lt h2 hs⟩]
theorem walkP_split {f s : Nat} {l : List Int} (h : l ≠ []) (h2 : 2 ≤ s) (hs : s ≤ 4096) {x y : σ} {v : Int} (e : walkP told leaf f s l x = some (v, y)) :
    ∃ a b z, walkP told leaf f (half s) (l.take (belowN l ((f : Int) + (half s : Nat)))) x = some (a, z) ∧ walkP told leaf (f + half s) (s - half s) (l.drop (belowN l ((f : Int) + (half s : Nat)))) z = some (b, y) ∧ v = nodeL a b := by
  rw [walkP_two h h2 hs] at e
  cases h1 : walkP told leaf f (half s) (l.take (belowN l ((f : Int) + (half s : Nat)))) x with
  | none => rw [h1] at e; cases e
  | some p =>
    rw [h1, Option.bind_some] at e
    cases h3 : walkP told leaf (f + half s) (s - half s) (l.drop (belowN l ((f : Int) + (half s : Nat)))) p.2 with
    | none => rw [h3] at e; cases e
    | some q =>
      rw [h3, Option.bind_some] at e
      simp only [Option.some.injEq, Prod.mk.injEq] at e
      exact ⟨p.1, q.1, p.2, rfl, by rw [h3, ← e.2], e.1.symm⟩
theorem walkP_join {f s : Nat} {l : List Int} (h : l ≠ []) (h2 : 2 ≤ s) (hs : s ≤ 4096) {x y z : σ} {a b : Int} (h1 : walkP told leaf f (half s) (l.take (belowN l ((f : Int) + (half s : Nat)))) x = some (a, z)) (h3 : walkP told leaf (f + half s) (s - half s) (l.drop (belowN l ((f : Int) + (half s : Nat)))) z = some (b, y)) :
    walkP told leaf f s l x = some (nodeL a b, y) := by
  rw [walkP_two h h2 hs, h1, Option.bind_some, h3]
  rfl
end

/-- places that rise, within a part -/
def inPart (f s : Nat) (l : List Int) : Prop := l.Pairwise (· < ·) ∧ ∀ x ∈ l, (f : Int) ≤ x ∧ x < (f : Int) + (s : Int)
theorem inPart_left {f s k : Nat} {l : List Int} (h : inPart f s l) : inPart f k (l.take (belowN l ((f : Int) + (k : Int)))) :=
  ⟨h.1.sublist (List.take_sublist _ _), fun x hx => ⟨(h.2 x (List.mem_of_mem_take hx)).1, below_lt hx⟩⟩
theorem inPart_right {f s k : Nat} {l : List Int} (h : inPart f s l) (hk : k ≤ s) : inPart (f + k) (s - k) (l.drop (belowN l ((f : Int) + (k : Int)))) :=
  ⟨h.1.sublist (List.drop_sublist _ _), fun x hx => ⟨by have := below_ge h.1 hx; omega, by have := (h.2 x (List.mem_of_mem_drop hx)).2; omega⟩⟩
theorem inPart_len {f : Nat} : ∀ (s : Nat) {l : List Int}, inPart f s l → l.length ≤ s
  | 0, [], _ => by simp
  | 0, x :: l, h => by have := h.2 x (by simp); omega
  | s + 1, l, h => by
    by_cases hl : l = []
    · subst hl; simp
    · have hd : l = l.dropLast ++ [l.getLast hl] := (List.dropLast_concat_getLast hl).symm
      have hp : inPart f s l.dropLast := ⟨h.1.sublist (List.dropLast_sublist _), fun x hx => by
        have h1 := h.2 x ((List.dropLast_sublist l).mem hx)
        have h2 := h.2 _ (List.getLast_mem hl)
        have h3 : x < l.getLast hl := by
          have h4 := h.1
          rw [hd, List.pairwise_append] at h4
          exact h4.2.2 x hx _ (by simp)
        exact ⟨h1.1, by omega⟩⟩
      have := inPart_len s hp
      rw [List.length_dropLast] at this
      omega
theorem inPart_one {f : Nat} {l : List Int} (h : inPart f 1 l) (hl : l ≠ []) : l = [(f : Int)] := by
  have h1 := inPart_len 1 h
  match l, hl, h1, h with
  | [x], _, _, h =>
    have := h.2 x (by simp)
    rw [show x = (f : Int) by omega]
  | x :: y :: l, _, h1, _ => simp at h1

/-- the proof of some places -/
def provL (xs : List Int) (f s : Nat) (l : List Int) : List Int :=
  if l = [] then [ofL (seg xs f s)]
  else if h : 2 ≤ s ∧ half s < s then provL xs f (half s) (l.take (belowN l ((f : Int) + (half s : Nat)))) ++ provL xs (f + half s) (s - half s) (l.drop (belowN l ((f : Int) + (half s : Nat))))
  else []
termination_by s
decreasing_by
  · exact h.2
  · have := half_pos s; omega
theorem provL_none (xs : List Int) (f s : Nat) : provL xs f s [] = [ofL (seg xs f s)] := by rw [provL, if_pos rfl]
theorem provL_leaf (xs : List Int) (f : Nat) {l : List Int} (h : l ≠ []) : provL xs f 1 l = [] := by rw [provL, if_neg h, dif_neg (by omega)]
theorem provL_two (xs : List Int) {f s : Nat} {l : List Int} (h : l ≠ []) (h2 : 2 ≤ s) (hs : s ≤ 4096) : provL xs f s l = provL xs f (half s) (l.take (belowN l ((f : Int) + (half s : Nat)))) ++ provL xs (f + half s) (s - half s) (l.drop (belowN l ((f : Int) + (half s : Nat)))) := by
  rw [provL, if_neg h, dif_pos ⟨h2, half_lt h2 hs⟩]

/-! the three uses -/
def toldM (xs : List Int) (out : List Int) (f s : Nat) : Option (Int × List Int) := if f + s ≤ xs.length ∧ out.length < 900 then some (ofL (seg xs f s), out ++ [ofL (seg xs f s)]) else none
def leafM (out : List Int) : Option (Int × List Int) := some (0, out)
def toldN (n : Nat) (f s : Nat) : Option (Int × Nat) := if n < 1000 then some (0, n + 1) else none
def leafN (n : Nat) : Option (Int × Nat) := some (0, n)
def take1 : List Int → Option (Int × List Int)
  | [] => none
  | x :: l => if vld x then some (x, l) else none
def toldC (p : List Int × List Int) (f s : Nat) : Option (Int × (List Int × List Int)) := (take1 p.1).map fun q => (q.1, (q.2, p.2))
def leafC (p : List Int × List Int) : Option (Int × (List Int × List Int)) := (take1 p.2).map fun q => (q.1, (p.1, q.2))
theorem take1_cons {x : Int} (h : vld x = true) (l : List Int) : take1 (x :: l) = some (x, l) := if_pos h

theorem make_walk (xs : List Int) : ∀ (N f s : Nat) (l out : List Int), s ≤ N → 1 ≤ s → s ≤ 4096 → f + s ≤ xs.length → out.length + (provL xs f s l).length ≤ 900 → ∃ v, walkP (toldM xs) leafM f s l out = some (v, out ++ provL xs f s l)
  | 0, f, s, l, out, h, h1, _, _, _ => by omega
  | N + 1, f, s, l, out, h, h1, hs, hf, ho => by
    by_cases hl : l = []
    · subst hl
      rw [provL_none, List.length_singleton] at ho
      rw [walkP_none, provL_none]
      exact ⟨_, if_pos ⟨hf, by omega⟩⟩
    · by_cases h2 : 2 ≤ s
      · have h3 := half_lt h2 hs
        have h4 := half_pos s
        rw [provL_two xs hl h2 hs, List.length_append] at ho
        obtain ⟨a, ha⟩ := make_walk xs N f (half s) (l.take (belowN l ((f : Int) + (half s : Nat)))) out (by omega) (by omega) (by omega) (by omega) (by omega)
        obtain ⟨b, hb⟩ := make_walk xs N (f + half s) (s - half s) (l.drop (belowN l ((f : Int) + (half s : Nat)))) (out ++ provL xs f (half s) (l.take (belowN l ((f : Int) + (half s : Nat))))) (by omega) (by omega) (by omega) (by omega) (by rw [List.length_append]; omega)
        refine ⟨nodeL a b, ?_⟩
        rw [walkP_join hl h2 hs ha hb, provL_two xs hl h2 hs, List.append_assoc]
      · obtain rfl : s = 1 := by omega
        rw [walkP_leaf f hl, provL_leaf xs f hl, List.append_nil]
        exact ⟨_, rfl⟩
theorem long_walk (xs : List Int) : ∀ (N f s : Nat) (l : List Int) (n : Nat), s ≤ N → 1 ≤ s → s ≤ 4096 → n + (provL xs f s l).length ≤ 1000 → ∃ v, walkP toldN leafN f s l n = some (v, n + (provL xs f s l).length)
  | 0, f, s, l, n, h, h1, _, _ => by omega
  | N + 1, f, s, l, n, h, h1, hs, hn => by
    by_cases hl : l = []
    · subst hl
      rw [provL_none, List.length_singleton] at hn
      rw [walkP_none, provL_none]
      exact ⟨_, if_pos (by omega)⟩
    · by_cases h2 : 2 ≤ s
      · have h3 := half_lt h2 hs
        have h4 := half_pos s
        rw [provL_two xs hl h2 hs, List.length_append] at hn
        obtain ⟨a, ha⟩ := long_walk xs N f (half s) (l.take (belowN l ((f : Int) + (half s : Nat)))) n (by omega) (by omega) (by omega) (by omega)
        obtain ⟨b, hb⟩ := long_walk xs N (f + half s) (s - half s) (l.drop (belowN l ((f : Int) + (half s : Nat)))) (n + (provL xs f (half s) (l.take (belowN l ((f : Int) + (half s : Nat))))).length) (by omega) (by omega) (by omega) (by omega)
        refine ⟨nodeL a b, ?_⟩
        rw [walkP_join hl h2 hs ha hb, provL_two xs hl h2 hs, List.length_append, Nat.add_assoc]
      · obtain rfl : s = 1 := by omega
        rw [walkP_leaf f hl, provL_leaf xs f hl]
        exact ⟨_, rfl⟩
/-- the sums at places -/
def sumsAt (xs : List Int) (l : List Int) : List Int := l.map fun i => xs.getD i.toNat 0
theorem check_walk (xs : List Int) (hv : allV xs = true) : ∀ (N f s : Nat) (l p q : List Int), s ≤ N → 1 ≤ s → s ≤ 4096 → f + s ≤ xs.length → inPart f s l → walkP toldC leafC f s l (provL xs f s l ++ p, sumsAt xs l ++ q) = some (ofL (seg xs f s), (p, q))
  | 0, f, s, l, p, q, h, h1, _, _, _ => by omega
  | N + 1, f, s, l, p, q, h, h1, hs, hf, hi => by
    by_cases hl : l = []
    · subst hl
      rw [walkP_none, provL_none]
      have hv' := vld_ofL (allV_seg hv f s) (by rw [seg_len hf]; omega)
      unfold toldC
      rw [List.singleton_append, take1_cons hv']
      rfl
    · by_cases h2 : 2 ≤ s
      · have h3 := half_lt h2 hs
        have h4 := half_pos s
        have ha := check_walk xs hv N f (half s) (l.take (belowN l ((f : Int) + (half s : Nat)))) (provL xs (f + half s) (s - half s) (l.drop (belowN l ((f : Int) + (half s : Nat)))) ++ p) (sumsAt xs (l.drop (belowN l ((f : Int) + (half s : Nat)))) ++ q) (by omega) (by omega) (by omega) (by omega) (inPart_left hi)
        have hb := check_walk xs hv N (f + half s) (s - half s) (l.drop (belowN l ((f : Int) + (half s : Nat)))) p q (by omega) (by omega) (by omega) (by omega) (inPart_right hi (by omega))
        have hsum : sumsAt xs l ++ q = sumsAt xs (l.take (belowN l ((f : Int) + (half s : Nat)))) ++ (sumsAt xs (l.drop (belowN l ((f : Int) + (half s : Nat)))) ++ q) := by
          unfold sumsAt
          rw [← List.append_assoc, ← List.map_append, List.take_append_drop]
        rw [provL_two xs hl h2 hs, List.append_assoc, hsum, walkP_join hl h2 hs ha hb, seg_split hf h2 hs]
      · obtain rfl : s = 1 := by omega
        have := inPart_one hi hl
        subst this
        have hz : xs[f]? = some xs[f] := List.getElem?_eq_getElem (by omega)
        have hv' := allV_get hv hz
        have hs1 : seg xs f 1 = [xs[f]] := by
          unfold seg
          rw [List.take_succ_eq_append_getElem (by omega), List.drop_append, List.length_take, Nat.min_eq_left (by omega), List.drop_eq_nil_of_le (by rw [List.length_take]; omega), Nat.sub_self]
          rfl
        have hsum : sumsAt xs [(f : Int)] ++ q = xs[f] :: q := by
          unfold sumsAt
          simp [List.getD_eq_getElem?_getD, hz]
        rw [walkP_leaf f hl, provL_leaf xs f hl, hs1, ofL_one, hsum]
        unfold leafC
        rw [take1_cons hv']
        rfl
theorem sum_map_succ (l : List Int) (g h : Int → Nat) (e : ∀ x ∈ l, g x = h x + 1) : (l.map g).sum = (l.map h).sum + l.length := by
  induction l with
  | nil => rfl
  | cons x l ih =>
    rw [List.map_cons, List.map_cons, List.sum_cons, List.sum_cons, List.length_cons, e x (by simp), ih fun y hy => e y (by simp [hy])]
    omega
/-- no longer than one by one -/
theorem prov_short (xs : List Int) : ∀ (N f s : Nat) (l : List Int), s ≤ N → 1 ≤ s → s ≤ 4096 → inPart f s l → l ≠ [] → (provL xs f s l).length ≤ (l.map fun i => stepsN (i.toNat - f) s).sum
  | 0, f, s, l, h, h1, _, _, _ => by omega
  | N + 1, f, s, l, h, h1, hs, hi, hl => by
    by_cases h2 : 2 ≤ s
    · have h3 := half_lt h2 hs
      have h4 := half_pos s
      have hL := inPart_left (k := half s) hi
      have hR := inPart_right (k := half s) hi (by omega)
      have hcat : l = l.take (belowN l ((f : Int) + (half s : Nat))) ++ l.drop (belowN l ((f : Int) + (half s : Nat))) := (List.take_append_drop _ _).symm
      rw [provL_two xs hl h2 hs, List.length_append]
      generalize l.take (belowN l ((f : Int) + (half s : Nat))) = a at *
      generalize l.drop (belowN l ((f : Int) + (half s : Nat))) = b at *
      subst hcat
      rw [List.map_append, List.sum_append]
      have ea := sum_map_succ a (fun i => stepsN (i.toNat - f) s) (fun i => stepsN (i.toNat - f) (half s)) fun x hx => by
        have := hL.2 x hx
        exact stepsN_left h2 hs (by omega)
      have eb := sum_map_succ b (fun i => stepsN (i.toNat - f) s) (fun i => stepsN (i.toNat - (f + half s)) (s - half s)) fun x hx => by
        have := hR.2 x hx
        rw [show x.toNat - (f + half s) = x.toNat - f - half s by omega]
        exact stepsN_right h2 hs (by omega)
      by_cases ha : a = []
      · subst ha
        have hb : b ≠ [] := by simpa using hl
        have hbl : 1 ≤ b.length := List.length_pos_iff.2 hb
        have ib := prov_short xs N (f + half s) (s - half s) b (by omega) (by omega) (by omega) hR hb
        rw [provL_none, List.length_singleton, eb]
        simp only [List.map_nil, List.sum_nil]
        omega
      · have hal : 1 ≤ a.length := List.length_pos_iff.2 ha
        have ia := prov_short xs N f (half s) a (by omega) (by omega) (by omega) hL ha
        by_cases hb : b = []
        · subst hb
          rw [provL_none, List.length_singleton, ea]
          simp only [List.map_nil, List.sum_nil]
          omega
        · have ib := prov_short xs N (f + half s) (s - half s) b (by omega) (by omega) (by omega) hR hb
          omega
    · obtain rfl : s = 1 := by omega
      rw [provL_leaf xs f hl]
      simp
/-- of all there is nothing more -/
theorem prov_all (xs : List Int) : ∀ (N f s : Nat) (l : List Int), s ≤ N → 1 ≤ s → s ≤ 4096 → inPart f s l → s ≤ l.length → provL xs f s l = []
  | 0, f, s, l, h, h1, _, _, _ => by omega
  | N + 1, f, s, l, h, h1, hs, hi, hn => by
    have hl : l ≠ [] := fun e => by subst e; simp at hn; omega
    by_cases h2 : 2 ≤ s
    · have h3 := half_lt h2 hs
      have h4 := half_pos s
      have hL := inPart_left (k := half s) hi
      have hR := inPart_right (k := half s) hi (by omega)
      have n1 := inPart_len _ hL
      have n2 := inPart_len _ hR
      have hcat := congrArg List.length (List.take_append_drop (belowN l ((f : Int) + (half s : Nat))) l)
      rw [List.length_append] at hcat
      rw [provL_two xs hl h2 hs, prov_all xs N f (half s) _ (by omega) (by omega) (by omega) hL (by omega), prov_all xs N (f + half s) (s - half s) _ (by omega) (by omega) (by omega) hR (by omega)]
      rfl
    · obtain rfl : s = 1 := by omega
      exact provL_leaf xs f hl
theorem prov_len (xs : List Int) : ∀ (N f s : Nat) (l : List Int), s ≤ N → 1 ≤ s → s ≤ 4096 → (provL xs f s l).length ≤ s
  | 0, f, s, l, h, h1, _ => by omega
  | N + 1, f, s, l, h, h1, hs => by
    by_cases hl : l = []
    · subst hl; rw [provL_none, List.length_singleton]; exact h1
    · by_cases h2 : 2 ≤ s
      · have h3 := half_lt h2 hs
        have h4 := half_pos s
        have ia := prov_len xs N f (half s) (l.take (belowN l ((f : Int) + (half s : Nat)))) (by omega) (by omega) (by omega)
        have ib := prov_len xs N (f + half s) (s - half s) (l.drop (belowN l ((f : Int) + (half s : Nat)))) (by omega) (by omega) (by omega)
        rw [provL_two xs hl h2 hs, List.length_append]
        omega
      · obtain rfl : s = 1 := by omega
        rw [provL_leaf xs f hl]; simp

theorem prov_valid (xs : List Int) (hv : allV xs = true) : ∀ (N f s : Nat) (l : List Int), s ≤ N → 1 ≤ s → s ≤ 4096 → f + s ≤ xs.length → allV (provL xs f s l) = true
  | 0, f, s, l, h, h1, _, _ => by omega
  | N + 1, f, s, l, h, h1, hs, hf => by
    by_cases hl : l = []
    · subst hl
      rw [provL_none]
      have := vld_ofL (allV_seg hv f s) (by rw [seg_len hf]; omega)
      simp [allV, this]
    · by_cases h2 : 2 ≤ s
      · have h3 := half_lt h2 hs
        have h4 := half_pos s
        have ia := prov_valid xs hv N f (half s) (l.take (belowN l ((f : Int) + (half s : Nat)))) (by omega) (by omega) (by omega) (by omega)
        have ib := prov_valid xs hv N (f + half s) (s - half s) (l.drop (belowN l ((f : Int) + (half s : Nat)))) (by omega) (by omega) (by omega) (by omega)
        rw [provL_two xs hl h2 hs, allV_append, ia, ib]
        rfl
      · obtain rfl : s = 1 := by omega
        rw [provL_leaf xs f hl]; rfl

/-! places: what is wrong with them -/
def allIn (size : Int) (l : List Int) : Bool := l.all fun x => decide (0 ≤ x ∧ x < size)
def rises : List Int → Bool
  | [] => true
  | [_] => true
  | x :: y :: l => decide (x < y) && rises (y :: l)
def placesK (size : Int) (l : List Int) : Int :=
  if 400 < l.length then 4 else if allIn size l = false then 1 else if rises l = false then 7 else 0
theorem rises_pairwise : ∀ {l : List Int}, rises l = true → l.Pairwise (· < ·)
  | [], _ => List.Pairwise.nil
  | [x], _ => by simp
  | x :: y :: l, h => by
    rw [rises, Bool.and_eq_true] at h
    have h1 := of_decide_eq_true h.1
    have h2 := rises_pairwise h.2
    refine List.pairwise_cons.2 ⟨fun z hz => ?_, h2⟩
    rcases List.mem_cons.1 hz with rfl | hz
    · exact h1
    · have := (List.pairwise_cons.1 h2).1 z hz
      omega
theorem placesK_zero {size : Int} {l : List Int} (h : placesK size l = 0) : l.length ≤ 400 ∧ allIn size l = true ∧ rises l = true := by
  unfold placesK at h
  by_cases h1 : 400 < l.length
  · rw [if_pos h1] at h; cases h
  · rw [if_neg h1] at h
    cases h2 : allIn size l
    · rw [h2, if_pos rfl] at h; cases h
    · rw [h2, if_neg (by decide)] at h
      cases h3 : rises l
      · rw [h3, if_pos rfl] at h; cases h
      · exact ⟨by omega, rfl, rfl⟩
theorem placesK_part {n : Nat} {l : List Int} (h : placesK (n : Int) l = 0) : inPart 0 n l := by
  obtain ⟨_, h2, h3⟩ := placesK_zero h
  refine ⟨rises_pairwise h3, fun x hx => ?_⟩
  have := of_decide_eq_true (List.all_eq_true.1 h2 x hx)
  omega
theorem allIn_not {size : Int} {l : List Int} (h : allIn size l = false) : ∃ (j : Nat) (z : Int), l[j]? = some z ∧ ¬ (0 ≤ z ∧ z < size) ∧ ∀ (i : Nat) (u : Int), i < j → l[i]? = some u → 0 ≤ u ∧ u < size := by
  induction l with
  | nil => simp [allIn] at h
  | cons z xs ih =>
    by_cases hz : 0 ≤ z ∧ z < size
    · have h' : allIn size xs = false := by simpa [allIn, hz] using h
      obtain ⟨j, u, h1, h2, h3⟩ := ih h'
      refine ⟨j + 1, u, by simpa using h1, h2, fun i v hi hv => ?_⟩
      rcases i with _ | i
      · simp at hv; subst hv; exact hz
      · exact h3 i v (by omega) (by simpa using hv)
    · exact ⟨0, z, rfl, hz, fun i u hi => absurd hi (by omega)⟩
theorem allIn_get {size : Int} {l : List Int} (h : allIn size l = true) {j : Nat} {z : Int} (hz : l[j]? = some z) : 0 ≤ z ∧ z < size :=
  of_decide_eq_true (List.all_eq_true.1 h z (List.mem_of_getElem? hz))
theorem rises_get : ∀ {l : List Int}, rises l = true → ∀ {j : Nat} {x y : Int}, l[j]? = some x → l[j + 1]? = some y → x < y
  | [], _, j, x, y, hx, _ => by simp at hx
  | [a], _, j, x, y, _, hy => by simp at hy
  | a :: b :: l, h, j, x, y, hx, hy => by
    rw [rises, Bool.and_eq_true] at h
    rcases j with _ | j
    · simp at hx hy
      subst hx hy
      exact of_decide_eq_true h.1
    · exact rises_get h.2 (j := j) (by simpa using hx) (by simpa using hy)
theorem rises_not : ∀ {l : List Int}, rises l = false → ∃ (j : Nat) (x y : Int), l[j]? = some x ∧ l[j + 1]? = some y ∧ ¬ x < y ∧ ∀ (i : Nat) (u v : Int), i < j → l[i]? = some u → l[i + 1]? = some v → u < v
  | [], h => by simp [rises] at h
  | [a], h => by simp [rises] at h
  | a :: b :: l, h => by
    by_cases hab : a < b
    · have h' : rises (b :: l) = false := by simpa [rises, hab] using h
      obtain ⟨j, x, y, h1, h2, h3, h4⟩ := rises_not h'
      refine ⟨j + 1, x, y, by simpa using h1, by simpa using h2, h3, fun i u v hi hu hv => ?_⟩
      rcases i with _ | i
      · simp at hu hv; subst hu hv; exact hab
      · exact h4 i u v (by omega) (by simpa using hu) (by simpa using hv)
    · exact ⟨0, a, b, rfl, rfl, hab, fun i u v hi => absurd hi (by omega)⟩
end Go.Proofs.YtgfkalhpefjenaaDoor
