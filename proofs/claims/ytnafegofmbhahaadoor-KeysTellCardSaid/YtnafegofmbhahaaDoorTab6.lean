/- table.Open: plain. -/
import Derived.Test.YtnafegofmbhahaaDoorTab4
namespace Go.Proofs.YtnafegofmbhahaaDoor
open Go.RowKit Go.WideShapes
set_option linter.unusedVariables false

/-- a table of pairs -/
def opn (es : List Pr) (b : ByteArray) : Prop := tblK es = 0 ∧ tabB es = b
def Ok256 (es : List Pr) : Prop := ∀ p ∈ es, p.key.size < 256 ∧ p.value.size < 256
def cutB (b : ByteArray) : ByteArray := b.extract 0 (b.size - 8)
theorem ok256_of {es : List Pr} (h : ∀ p ∈ es, PrOk p) : Ok256 es := fun p hp => by
  have h1 := h p hp
  have h2 := (keyK_zero.1 h1.1).2
  have h3 := h1.2.1
  omega
theorem tabB_list (es : List Pr) : (tabB es).data.toList = bodyB es ++ (fourB es.length ++ fourB (sumL (headB es))) := by
  unfold tabB headB
  simp
theorem tabB_size (es : List Pr) : (tabB es).size = (bodyB es).length + 8 := by
  rw [← list_size', tabB_list, List.length_append, List.length_append]
  rfl
theorem opn_cut {es : List Pr} {b : ByteArray} (h : opn es b) : 8 ≤ b.size ∧ (cutB b).data.toList = bodyB es := by
  obtain ⟨_, rfl⟩ := h
  have hs := tabB_size es
  refine ⟨by omega, ?_⟩
  unfold cutB
  rw [ex_list', List.drop_zero, Nat.sub_zero, hs, tabB_list, show (bodyB es).length + 8 - 8 = (bodyB es).length by omega, List.take_left']
  rfl
theorem body_compl : ∀ {es es0 : List Pr} {rest : List UInt8}, Ok256 es → Ok256 es0 → bodyB es0 = bodyB es ++ rest → ∃ t, es0 = es ++ t ∧ rest = bodyB t
  | [], es0, rest, _, _, h => ⟨es0, rfl, by simpa [bodyB] using h.symm⟩
  | p :: es, [], rest, _, _, h => by
    have h1 := congrArg List.length h
    simp only [bodyB, List.flatMap_nil, List.flatMap_cons, List.length_nil, List.length_append, pairB_len] at h1
    omega
  | p :: es, q :: es0, rest, hp, hq, h => by
    have h1 : pairB q ++ bodyB es0 = pairB p ++ (bodyB es ++ rest) := by
      have := h
      simp only [bodyB, List.flatMap_cons, List.append_assoc] at this ⊢
      exact this
    obtain ⟨rfl, h2⟩ := fst_uniq (hq q (List.mem_cons_self ..)) (hp p (List.mem_cons_self ..)) h1
    obtain ⟨t, rfl, h3⟩ := body_compl (fun r hr => hp r (List.mem_cons_of_mem _ hr)) (fun r hr => hq r (List.mem_cons_of_mem _ hr)) h2
    exact ⟨t, rfl, h3⟩
theorem body_count (es : List Pr) : 3 * es.length ≤ (bodyB es).length := by
  induction es with
  | nil => simp [bodyB]
  | cons p es ih =>
    unfold bodyB at ih ⊢
    rw [List.flatMap_cons, List.length_append, pairB_len, List.length_cons]
    omega
theorem open_stuck {b rest : ByteArray} {es : List Pr} (h256 : Ok256 es) (h : (cutB b).data.toList = bodyB es ++ rest.data.toList) (hne : 0 < rest.size) (hno : ∀ p left, ¬ Fst rest p left) : ∀ es0, ¬ opn es0 b := by
  intro es0 ho
  have h0 := ok256_of (tblK_zero.1 ho.1).2
  obtain ⟨t, rfl, h2⟩ := body_compl h256 h0 ((opn_cut ho).2.symm.trans h)
  cases t with
  | nil =>
    have h3 : rest.data.toList.length = 0 := by rw [h2]; rfl
    rw [list_size'] at h3
    omega
  | cons q t =>
    refine hno q ⟨(bodyB t).toArray⟩ ⟨(h0 q (by simp)).1, (h0 q (by simp)).2, ?_⟩
    rw [h2]
    rfl
theorem open_last {b rest : ByteArray} {es : List Pr} (h256 : Ok256 es) (h : (cutB b).data.toList = bodyB es ++ rest.data.toList) (hne : rest.size = 0) (hno : ¬ opn es b) : ∀ es0, ¬ opn es0 b := by
  intro es0 ho
  have h0 := ok256_of (tblK_zero.1 ho.1).2
  obtain ⟨t, rfl, h2⟩ := body_compl h256 h0 ((opn_cut ho).2.symm.trans h)
  cases t with
  | nil => rw [List.append_nil] at ho; exact hno ho
  | cons q t =>
    have h3 := congrArg List.length h2
    rw [list_size'] at h3
    unfold bodyB at h3
    rw [List.flatMap_cons, List.length_append, pairB_len] at h3
    omega
theorem open_step {b rest left : ByteArray} {es : List Pr} {p : Pr} (h256 : Ok256 es) (h : (cutB b).data.toList = bodyB es ++ rest.data.toList) (hf : Fst rest p left) : Ok256 (es ++ [p]) ∧ (cutB b).data.toList = bodyB (es ++ [p]) ++ left.data.toList ∧ left.size < rest.size := by
  refine ⟨fun q hq => ?_, ?_, ?_⟩
  · rcases List.mem_append.1 hq with hq | hq
    · exact h256 q hq
    · obtain rfl : q = p := by simpa using hq
      exact ⟨hf.1, hf.2.1⟩
  · rw [h, hf.2.2, bodyB_snoc, List.append_assoc]
  · have := congrArg List.length hf.2.2
    rw [List.length_append, pairB_len, list_size', list_size'] at this
    omega
theorem open_count {b rest : ByteArray} {es : List Pr} (h : (cutB b).data.toList = bodyB es ++ rest.data.toList) : 3 * es.length ≤ b.size ∧ rest.size ≤ b.size := by
  have h1 := congrArg List.length h
  rw [List.length_append, list_size', list_size'] at h1
  have h2 := body_count es
  have h3 : (cutB b).size ≤ b.size := by unfold cutB; rw [ByteArray.size_extract]; omega
  omega
theorem opn_uniq {es es0 : List Pr} {b : ByteArray} (h : opn es b) (h0 : opn es0 b) : es = es0 := by
  have k := ok256_of (tblK_zero.1 h.1).2
  have k0 := ok256_of (tblK_zero.1 h0.1).2
  obtain ⟨t, rfl, h2⟩ := body_compl (rest := []) k k0 (by rw [List.append_nil, ← (opn_cut h).2, ← (opn_cut h0).2])
  cases t with
  | nil => simp
  | cons q t =>
    have h3 := congrArg List.length h2
    unfold bodyB at h3
    rw [List.flatMap_cons, List.length_append, pairB_len] at h3
    simp at h3
    omega
end Go.Proofs.YtnafegofmbhahaaDoor
