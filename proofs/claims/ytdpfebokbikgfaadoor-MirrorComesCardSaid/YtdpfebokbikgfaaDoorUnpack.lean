/- Plain laws: entries read off bytes, no program in sight. -/
import Derived.Test.YtdpfebokbikgfaaDoorEntry
import Derived.Lib.IndexBytes
import Derived.Test.YtdpfebokbikgfaaDoorLeafs
import Derived.Lib.SlicesS
import Derived.BigRegion
import Derived.Handy
namespace Go.Proofs.YtdpfebokbikgfaaDoor
open Go.RowKit
set_option linter.unusedVariables false

theorem list_size (s : ByteArray) : s.data.toList.length = s.size := rfl
theorem ex_list (s : ByteArray) (a b : Nat) : (s.extract a b).data.toList = (s.data.toList.drop a).take (b - a) := Lib.extract_data s a b
theorem ex_end (s : ByteArray) (a : Nat) : (s.extract a s.size).data.toList = s.data.toList.drop a := Lib.extract_to_end s a

/-- byte k -/
def byB (s : ByteArray) (k : Nat) : UInt8 := s.data.toList.getD k 0
theorem byB_get (s : ByteArray) (k : Nat) (h : k < s.size) : s[k] = byB s k := by
  unfold byB
  rw [List.getD_eq_getElem?_getD, List.getElem?_eq_getElem (by rw [list_size]; exact h)]
  rfl
/-- the entry at the start of bytes -/
def entOf (s : ByteArray) : Ent := ⟨((byB s 0).toNat : Int) * 65536 + ((byB s 1).toNat : Int) * 256 + ((byB s 2).toNat : Int), s.extract 4 (4 + (byB s 3).toNat)⟩
def takeE (s : ByteArray) : Option (Ent × ByteArray) :=
  if 4 ≤ s.size ∧ 4 + (byB s 3).toNat ≤ s.size ∧ (entOf s).ok then some (entOf s, s.extract (4 + (byB s 3).toNat) s.size) else none
theorem takeE_none {s : ByteArray} (h : ¬ (4 ≤ s.size ∧ 4 + (byB s 3).toNat ≤ s.size ∧ (entOf s).ok)) : takeE s = none := if_neg h
theorem takeE_bytes (e : Ent) (r : ByteArray) (h : e.ok) : takeE (e.bytes ++ r) = some (e, r) := by
  obtain ⟨t, d⟩ := e
  obtain ⟨h0, h1, h2⟩ := h
  dsimp only at h0 h1 h2
  have hl : ((⟨t, d⟩ : Ent).bytes ++ r).data.toList = byteOf (t / 65536 % 256) :: byteOf (t / 256 % 256) :: byteOf (t % 256) :: byteOf ((d.size : Int) % 256) :: (d.data.toList ++ r.data.toList) := by
    rw [toList_cat, Ent.bytes_list]; rfl
  have hz : ((⟨t, d⟩ : Ent).bytes ++ r).size = 4 + d.size + r.size := by rw [size_cat, Ent.bytes_size]
  generalize (⟨t, d⟩ : Ent).bytes ++ r = s at *
  have b0 : byB s 0 = byteOf (t / 65536 % 256) := by unfold byB; rw [hl]; rfl
  have b1 : byB s 1 = byteOf (t / 256 % 256) := by unfold byB; rw [hl]; rfl
  have b2 : byB s 2 = byteOf (t % 256) := by unfold byB; rw [hl]; rfl
  have b3 : byB s 3 = byteOf ((d.size : Int) % 256) := by unfold byB; rw [hl]; rfl
  have n0 := toNat_byteOf (t / 65536 % 256) (by omega) (by omega)
  have n1 := toNat_byteOf (t / 256 % 256) (by omega) (by omega)
  have n2 := toNat_byteOf (t % 256) (by omega) (by omega)
  have n3 := toNat_byteOf ((d.size : Int) % 256) (by omega) (by omega)
  rw [← b0] at n0
  rw [← b1] at n1
  rw [← b2] at n2
  rw [← b3] at n3
  have n3' : (byB s 3).toNat = d.size := by omega
  have hd : s.extract 4 (4 + (byB s 3).toNat) = d := by
    apply ba_ext
    rw [ex_list, hl, n3']
    show (d.data.toList ++ r.data.toList).take (4 + d.size - 4) = _
    rw [Nat.add_sub_cancel_left, ← list_size, List.take_left]
  have hr : s.extract (4 + (byB s 3).toNat) s.size = r := by
    apply ba_ext
    rw [ex_end, hl, n3', Nat.add_comm]
    show (d.data.toList ++ r.data.toList).drop d.size = _
    rw [← list_size, List.drop_left]
  have he : entOf s = ⟨t, d⟩ := by
    unfold entOf
    rw [hd, n0, n1, n2]
    congr 1
    omega
  unfold takeE
  rw [if_pos ⟨by omega, by omega, by rw [he]; exact ⟨h0, h1, h2⟩⟩, he, hr]
theorem takeE_some {s : ByteArray} {e : Ent} {r : ByteArray} (h : takeE s = some (e, r)) : e.ok ∧ s = e.bytes ++ r := by
  unfold takeE at h
  by_cases hc : 4 ≤ s.size ∧ 4 + (byB s 3).toNat ≤ s.size ∧ (entOf s).ok
  · rw [if_pos hc] at h
    obtain ⟨h1, h2, h3⟩ := hc
    simp only [Option.some.injEq, Prod.mk.injEq] at h
    obtain ⟨rfl, rfl⟩ := h
    refine ⟨h3, ?_⟩
    apply ba_ext
    rw [toList_cat, Ent.bytes_list, ex_end]
    have hsz : (entOf s).data.size = (byB s 3).toNat := by
      show (s.extract 4 (4 + (byB s 3).toNat)).size = _
      rw [ByteArray.size_extract]
      omega
    have hdl : (entOf s).data.data.toList = (s.data.toList.drop 4).take (byB s 3).toNat := by
      show (s.extract 4 (4 + (byB s 3).toNat)).data.toList = _
      rw [ex_list, Nat.add_sub_cancel_left]
    have q0 := (byB s 0).toNat_lt
    have q1 := (byB s 1).toNat_lt
    have q2 := (byB s 2).toNat_lt
    have q3 := (byB s 3).toNat_lt
    have ht : (entOf s).time = ((byB s 0).toNat : Int) * 65536 + ((byB s 1).toNat : Int) * 256 + ((byB s 2).toNat : Int) := rfl
    unfold entB entH
    rw [list_size, hsz, hdl, ht]
    rw [show (((byB s 0).toNat : Int) * 65536 + ((byB s 1).toNat : Int) * 256 + ((byB s 2).toNat : Int)) / 65536 % 256 = ((byB s 0).toNat : Int) by omega,
      show (((byB s 0).toNat : Int) * 65536 + ((byB s 1).toNat : Int) * 256 + ((byB s 2).toNat : Int)) / 256 % 256 = ((byB s 1).toNat : Int) by omega,
      show (((byB s 0).toNat : Int) * 65536 + ((byB s 1).toNat : Int) * 256 + ((byB s 2).toNat : Int)) % 256 = ((byB s 2).toNat : Int) by omega,
      show ((byB s 3).toNat : Int) % 256 = ((byB s 3).toNat : Int) by omega, byteOf_toNat, byteOf_toNat, byteOf_toNat, byteOf_toNat]
    have hlen : 4 ≤ s.data.toList.length := by rw [list_size]; exact h1
    unfold byB
    generalize s.data.toList = l at *
    match l, hlen with
    | a :: b :: c :: d :: l, _ =>
      show a :: b :: c :: d :: l = [a, b, c, d] ++ l.take d.toNat ++ List.drop (4 + d.toNat) (a :: b :: c :: d :: l)
      rw [Nat.add_comm]
      show a :: b :: c :: d :: l = a :: b :: c :: d :: (l.take d.toNat ++ l.drop d.toNat)
      rw [List.take_append_drop]
  · rw [if_neg hc] at h; cases h

/-- the bytes of entries, one behind the other -/
def catL (es : List Ent) : List UInt8 := es.flatMap fun e => e.bytes.data.toList
theorem catL_append (a b : List Ent) : catL (a ++ b) = catL a ++ catL b := by simp [catL]
theorem catL_cons (e : Ent) (b : List Ent) : catL (e :: b) = e.bytes.data.toList ++ catL b := rfl
theorem catL_len {es : List Ent} (h : ∀ e ∈ es, e.ok) : (catL es).length ≤ 204 * es.length := by
  induction es with
  | nil => simp [catL]
  | cons e es ih =>
    have h1 := (h e (by simp)).2.2
    have h2 := ih fun x hx => h x (by simp [hx])
    rw [catL_cons, List.length_append, list_size, Ent.bytes_size, List.length_cons]
    omega
/-- some entries off bytes -/
def unpN : Nat → ByteArray → Option (List Ent × ByteArray)
  | 0, s => some ([], s)
  | n + 1, s => match unpN n s with
    | none => none
    | some (es, q) => match takeE q with
      | none => none
      | some (e, r) => some (es ++ [e], r)
theorem unpN_zero (s : ByteArray) : unpN 0 s = some ([], s) := rfl
theorem unpN_next {n : Nat} {s q r : ByteArray} {es : List Ent} {e : Ent} (h : unpN n s = some (es, q)) (k : takeE q = some (e, r)) : unpN (n + 1) s = some (es ++ [e], r) := by
  rw [unpN, h]; simp only [k]
theorem unpN_stop {n : Nat} {s q : ByteArray} {es : List Ent} (h : unpN n s = some (es, q)) (k : takeE q = none) : unpN (n + 1) s = none := by
  rw [unpN, h]; simp only [k]
theorem unpN_none {n : Nat} {s : ByteArray} (h : unpN n s = none) : unpN (n + 1) s = none := by rw [unpN, h]
theorem unpN_later {n : Nat} {s : ByteArray} (h : unpN n s = none) : ∀ k, unpN (n + k) s = none
  | 0 => h
  | k + 1 => unpN_none (unpN_later h k)
theorem unpN_some : ∀ (n : Nat) (s : ByteArray) (es : List Ent) (q : ByteArray), unpN n s = some (es, q) → es.length = n ∧ (∀ e ∈ es, e.ok) ∧ s.data.toList = catL es ++ q.data.toList
  | 0, s, es, q, h => by
    rw [unpN_zero] at h
    simp only [Option.some.injEq, Prod.mk.injEq] at h
    obtain ⟨rfl, rfl⟩ := h
    exact ⟨rfl, by simp, by simp [catL]⟩
  | n + 1, s, es, q, h => by
    cases hu : unpN n s with
    | none => rw [unpN_none hu] at h; cases h
    | some p =>
      obtain ⟨es', q'⟩ := p
      obtain ⟨h1, h2, h3⟩ := unpN_some n s es' q' hu
      cases ht : takeE q' with
      | none => rw [unpN_stop hu ht] at h; cases h
      | some p =>
        obtain ⟨e, r⟩ := p
        rw [unpN_next hu ht] at h
        simp only [Option.some.injEq, Prod.mk.injEq] at h
        obtain ⟨rfl, rfl⟩ := h
        obtain ⟨k1, k2⟩ := takeE_some ht
        refine ⟨by simp [h1], ?_, ?_⟩
        · intro x hx
          rcases List.mem_append.1 hx with hx | hx
          · exact h2 x hx
          · rw [List.mem_singleton] at hx; subst hx; exact k1
        · rw [h3, k2, toList_cat, catL_append]
          simp [catL]
theorem unpN_cat (es : List Ent) (h : ∀ e ∈ es, e.ok) (r : List UInt8) : ∀ n, n ≤ es.length → unpN n ⟨(catL es ++ r).toArray⟩ = some (es.take n, ⟨(catL (es.drop n) ++ r).toArray⟩)
  | 0, _ => rfl
  | n + 1, hn => by
    have hn' : n < es.length := by omega
    have hd : es.drop n = es[n] :: es.drop (n + 1) := List.drop_eq_getElem_cons hn'
    have ht : takeE ⟨(catL (es.drop n) ++ r).toArray⟩ = some (es[n], ⟨(catL (es.drop (n + 1)) ++ r).toArray⟩) := by
      rw [← takeE_bytes es[n] _ (h _ (List.getElem_mem hn'))]
      congr 1
      apply ba_ext
      rw [toList_cat, toList_mk, toList_mk, hd, catL_cons, List.append_assoc]
    rw [unpN_next (unpN_cat es h r n (by omega)) ht, List.take_succ_eq_append_getElem hn']

/-- the bytes of many: while they are made -/
def packB (es : List Ent) (j : Nat) : ByteArray := ⟨(byteOf (es.length : Int) :: catL (es.take j)).toArray⟩
theorem packB_list (es : List Ent) (j : Nat) : (packB es j).data.toList = byteOf (es.length : Int) :: catL (es.take j) := by unfold packB; rw [toList_mk]
theorem packB_zero (es : List Ent) : packB es 0 = ⟨#[byteOf (es.length : Int)]⟩ := rfl
theorem packB_next {es : List Ent} {j : Nat} {e : Ent} (h : es[j]? = some e) : packB es (j + 1) = packB es j ++ e.bytes := by
  apply ba_ext
  obtain ⟨hl, rfl⟩ := List.getElem?_eq_some_iff.1 h
  rw [toList_cat, packB_list, packB_list, List.take_succ_eq_append_getElem hl, catL_append]
  simp [catL]
theorem packB_size {es : List Ent} (h : ∀ e ∈ es, e.ok) (j : Nat) (hl : es.length ≤ 200) : (packB es j).size ≤ 40801 := by
  rw [← list_size, packB_list, List.length_cons]
  have := catL_len (es := es.take j) fun e he => h e (List.mem_of_mem_take he)
  have : (es.take j).length ≤ es.length := by rw [List.length_take]; omega
  omega
/-- entries off bytes -/
def unpEnd : Option (List Ent × ByteArray) → Option (List Ent)
  | none => none
  | some (es, q) => if q.size = 0 then some es else none
def unpackE (s : ByteArray) : Option (List Ent) :=
  if s.size = 0 ∨ 200 < (byB s 0).toNat then none else unpEnd (unpN (byB s 0).toNat (s.extract 1 s.size))
theorem unpackE_pack {es : List Ent} (h : ∀ e ∈ es, e.ok) (hl : es.length ≤ 200) : unpackE (packB es es.length) = some es := by
  have hp := packB_list es es.length
  rw [List.take_length] at hp
  have hb : byB (packB es es.length) 0 = byteOf (es.length : Int) := by unfold byB; rw [hp]; rfl
  have hn := toNat_byteOf (es.length : Int) (by omega) (by omega)
  rw [← hb] at hn
  have hn' : (byB (packB es es.length) 0).toNat = es.length := by omega
  have he : (packB es es.length).extract 1 (packB es es.length).size = ⟨(catL es ++ []).toArray⟩ := by
    apply ba_ext
    rw [ex_end, hp, toList_mk, List.append_nil]
    rfl
  have hs : ¬ ((packB es es.length).size = 0 ∨ 200 < (byB (packB es es.length) 0).toNat) := by
    rw [← list_size, hp, hn', List.length_cons]
    omega
  unfold unpackE
  rw [if_neg hs, he, hn', unpN_cat es h [] es.length (Nat.le_refl _), List.take_length, List.drop_length]
  rfl
theorem unpackE_some {s : ByteArray} {es : List Ent} (h : unpackE s = some es) : (∀ e ∈ es, e.ok) ∧ es.length ≤ 200 ∧ s = packB es es.length := by
  unfold unpackE at h
  by_cases hs : s.size = 0 ∨ 200 < (byB s 0).toNat
  · rw [if_pos hs] at h; cases h
  · rw [if_neg hs] at h
    cases hu : unpN (byB s 0).toNat (s.extract 1 s.size) with
    | none => rw [hu] at h; cases h
    | some p =>
      obtain ⟨es', q⟩ := p
      rw [hu] at h
      unfold unpEnd at h
      simp only at h
      by_cases hq : q.size = 0
      · rw [if_pos hq] at h
        obtain rfl : es' = es := by simpa using h
        obtain ⟨h1, h2, h3⟩ := unpN_some _ _ _ _ hu
        refine ⟨h2, by omega, ?_⟩
        apply ba_ext
        rw [packB_list, List.take_length, h1]
        have hq0 : q.data.toList = [] := List.eq_nil_of_length_eq_zero (by rw [list_size]; exact hq)
        rw [ex_end, hq0, List.append_nil] at h3
        rw [← h3, byteOf_toNat]
        unfold byB
        have hlen : 0 < s.data.toList.length := by rw [list_size]; omega
        generalize s.data.toList = l at *
        match l, hlen with
        | a :: l, _ => rfl
      · rw [if_neg hq] at h; cases h
end Go.Proofs.YtdpfebokbikgfaaDoor

namespace Go.Proofs.YtdpfebokbikgfaaDoor
open Go.RowKit
set_option linter.unusedVariables false
attribute [local go_sem ↓] Go.wp_at_zero Go.wp_at_succ

theorem ofInt_u (n : Nat) (h : n < 18446744073709551616) : (BitVec.ofInt 64 (n : Int)).toNat = n := by
  rw [BitVec.toNat_ofInt]; omega
theorem or_add (a b i : Nat) (hb : b < 2 ^ i) (h : a * 2 ^ i + b < 9223372036854775807) : bits .or .i64 ((a * 2 ^ i : Nat) : Int) (b : Int) = ((a * 2 ^ i + b : Nat) : Int) := by
  show IntKind.i64.wrap ((BitVec.ofInt 64 ((a * 2 ^ i : Nat) : Int) ||| BitVec.ofInt 64 (b : Int)).toNat : Int) = _
  rw [BitVec.toNat_or, ofInt_u _ (by omega), ofInt_u b (by omega), Nat.mul_comm a, ← Nat.two_pow_add_eq_or_of_lt hb, Nat.mul_comm]
  exact IntWalk.i64_in _ (by omega)
theorem or_hi (a b : Nat) (ha : a < 256) (hb : b < 256) : bits .or .i64 ((a : Int) * 65536) ((b : Int) * 256) = (a : Int) * 65536 + (b : Int) * 256 := by
  have h := or_add a (b * 256) 16 (by omega) (by omega)
  rw [show ((a * 2 ^ 16 : Nat) : Int) = (a : Int) * 65536 by omega, show ((b * 256 : Nat) : Int) = (b : Int) * 256 by omega] at h
  rw [h]
  omega
theorem or_lo (a b c : Nat) (ha : a < 256) (hb : b < 256) (hc : c < 256) : bits .or .i64 ((a : Int) * 65536 + (b : Int) * 256) (c : Int) = (a : Int) * 65536 + (b : Int) * 256 + (c : Int) := by
  have h := or_add (a * 256 + b) c 8 (by omega) (by omega)
  rw [show (((a * 256 + b) * 2 ^ 8 : Nat) : Int) = (a : Int) * 65536 + (b : Int) * 256 by omega] at h
  rw [h]
  omega

theorem w_small {n : Int} (h0 : 0 ≤ n) (h : n < 256) : wrap64 n = n := by unfold wrap64; omega
theorem w_four {n : Int} (h0 : 0 ≤ n) (h : n < 256) : wrap64 (4 + n) = 4 + n := by unfold wrap64; omega
theorem i_four {n : Int} (h0 : 0 ≤ n) (h : n < 256) : IntKind.i64.wrap (4 + n) = 4 + n := IntWalk.i64_in _ (by omega)
theorem i_small {n : Int} (h0 : 0 ≤ n) (h : n < 256) : IntKind.i64.wrap n = n := IntWalk.i64_in _ (by omega)
theorem u8_lt (b : UInt8) : 0 ≤ (b.toNat : Int) ∧ (b.toNat : Int) < 256 := by have := b.toNat_lt; omega
theorem u8_ltN (b : UInt8) : b.toNat < 256 := b.toNat_lt
theorem four_le {n : Int} (h0 : 0 ≤ n) : (4 : Int) ≤ 4 + n := by omega
theorem four_le' {n m : Nat} (h : 4 + n ≤ m) : 4 + (n : Int) ≤ (m : Int) := by omega
theorem four_0 {n : Int} (h0 : 0 ≤ n) : (0 : Int) ≤ 4 + n := by omega
theorem lt_int {n m : Nat} (h : n < m) : (n : Int) < (m : Int) := by omega
theorem w_hi {a : Nat} (h : a < 256) : wrap64 ((a : Int) * 65536) = (a : Int) * 65536 := by unfold wrap64; omega
theorem w_mid {a : Nat} (h : a < 256) : wrap64 ((a : Int) * 256) = (a : Int) * 256 := by unfold wrap64; omega
theorem four_m {n m : Nat} (h : 4 + n ≤ m) : (4 : Int) ≤ (m : Int) := by omega

theorem lt_four {n m : Nat} (h : m < 4 + n) : (m : Int) < 4 + (n : Int) := by omega
end Go.Proofs.YtdpfebokbikgfaaDoor

namespace Go.Proofs.YtdpfebokbikgfaaDoor
open Go.RowKit
set_option linter.unusedVariables false
attribute [local go_sem ↓] Go.wp_at_zero Go.wp_at_succ

theorem takeE_size {s : ByteArray} {e : Ent} {r : ByteArray} (h : takeE s = some (e, r)) : r.size ≤ s.size := by
  obtain ⟨_, h2⟩ := takeE_some h
  rw [h2, size_cat]; omega

/-- bytes of one entry alone -/
theorem takeE_one (e : Ent) (h : e.ok) : takeE e.bytes = some (e, ⟨#[]⟩) := by
  have := takeE_bytes e ⟨#[]⟩ h
  rwa [show e.bytes ++ ⟨#[]⟩ = e.bytes from ba_ext (by rw [toList_cat]; simp)] at this
theorem flat_snoc (es : List Ent) (e : Ent) : (es ++ [e]).flatMap Ent.cells = es.flatMap Ent.cells ++ e.cells := by simp
theorem unpN_size {n : Nat} {s q : ByteArray} {es : List Ent} (h : unpN n s = some (es, q)) : q.size ≤ s.size := by
  have := (unpN_some _ _ _ _ h).2.2
  have h2 := congrArg List.length this
  rw [List.length_append, list_size, list_size] at h2
  omega

theorem str_some {s : ByteArray} (h : 0 < s.size) : s.toList.isEmpty = false ∧ ¬ s.toList = [] := by
  have : ¬ s.toList = [] := by
    rw [Lib.toList_data]
    intro h'
    rw [← list_size, h'] at h
    exact absurd h (by simp)
  refine ⟨?_, this⟩
  cases hs : s.toList with
  | nil => exact absurd hs this
  | cons a l => rfl
theorem str_none {s : ByteArray} (h : s.size = 0) : s = ⟨#[]⟩ := ba_ext (List.eq_nil_of_length_eq_zero (by rw [list_size]; exact h))
/-- what Unpack answers -/
def UnpPost (s : ByteArray) (w : World) (e : Ending) (w' : World) : Prop :=
  match unpackE s with
  | some es => ∃ v, e = .returned (.tuple #[v, .nilIface]) ∧ w'.ownsRow w.heap.size 42 2 v es.length (es.flatMap Ent.cells)
  | none => e = .returned (.tuple #[.slice none 0 0, errV 2])
theorem UnpPost.none {s : ByteArray} {w w' : World} {e : Ending} (h : unpackE s = none) (k : e = .returned (.tuple #[.slice none 0 0, errV 2])) : UnpPost s w e w' := by
  unfold UnpPost; rw [h]; exact k
theorem UnpPost.some {s : ByteArray} {w w' : World} {v : Value} {es : List Ent} (h : unpackE s = some es) (k : w'.ownsRow w.heap.size 42 2 v es.length (es.flatMap Ent.cells)) : UnpPost s w (.returned (.tuple #[v, .nilIface])) w' := by
  unfold UnpPost; rw [h]; exact ⟨_, rfl, k⟩

set_option maxRecDepth 100000 in
theorem Entries_same (A A' : Option Addr) (n c c' : Nat) (es : List Ent) (w : World) (hr : Rd w 2 A n c (es.flatMap Ent.cells)) (hr' : Rd w 2 A' n c' (es.flatMap Ent.cells)) (hm : n ≤ 200) :
    Calls Tryd.prog 9 #[.slice A n c, .slice A' n c'] w fun e w' => e = .returned (.bool true) ∧ Ext w w' := by
  have HX := Lib.hid hr.lenE
  have hl := hr.2.1
  have hl' := hr'.2.1
  go_enter Tryd.func9, Tryd.ntmps9
  go_wp2_with fail
  go_loopw [5] (fun x wr => ∃ j : Nat, x = .int .i64 j ∧ j ≤ n ∧ Ext w wr) (fun x _ => n - (intOf x).toNat)
  case atStart => exact ⟨0, rfl, Nat.zero_le _, by (repeat (with_reducible first | exact Ext.refl _ | assumption | refine Ext.drew ?_ | refine Ext.drewN ?_ _ | refine Ext.alloc ?_ _ | refine Ext.trans ?_ (by with_reducible assumption)))⟩
  case round =>
    obtain ⟨j, rfl, hj, hbw⟩ := hrel
    by_cases hc : j < n
    · have hgj := List.getElem?_eq_getElem (l := es) (i := j) (by rw [HX.out]; exact hc)
      obtain ⟨ad, rfl, hb, c0, c1⟩ := (hr.ext hbw).getE hgj
      obtain ⟨ad', rfl, hb', c0', c1'⟩ := (hr'.ext hbw).getE hgj
      generalize es[j]'(by rw [HX.out]; exact hc) = e at *
      have hcN : (j : Int) < (n : Int) := by omega
      go_wp2_with fail
      go_quiet (fail)
      go_wp2_with fail
      go_roundw
      case rel => exact ⟨j + 1, by go_num, by omega, by (repeat (with_reducible first | exact Ext.refl _ | assumption | refine Ext.drew ?_ | refine Ext.drewN ?_ _ | refine Ext.alloc ?_ _ | refine Ext.trans ?_ (by with_reducible assumption)))⟩
      case measure => simp [intOf]; omega
    · go_wp2_with fail
      go_ret
      exact ⟨rfl, by (repeat (with_reducible first | exact Ext.refl _ | assumption | refine Ext.drew ?_ | refine Ext.drewN ?_ _ | refine Ext.alloc ?_ _ | refine Ext.trans ?_ (by with_reducible assumption)))⟩

/-! ### Both ways at once: the fault by its number -/
def encK (e : Ent) : Int := if e.ok then 0 else e.err
def encB (e : Ent) : ByteArray := if e.ok then e.bytes else ⟨#[]⟩
theorem Encode_any (t : Int) (s : ByteArray) (w : World) :
    Calls Tryd.prog 15 #[.agg #[.int .i64 t, .string s]] w fun e w' => e = .returned (.tuple #[.string (encB ⟨t, s⟩), errR (encK ⟨t, s⟩)]) ∧ Ext w w' := by
  by_cases h : (⟨t, s⟩ : Ent).ok
  · refine (Encode_ok t s w h).mono fun e w' hh => ⟨hh.1.trans ?_, hh.2⟩
    unfold encB encK; rw [if_pos h, if_pos h]; rfl
  · refine (Encode_bad t s w h).mono fun e w' hh => ⟨hh.1.trans ?_, hh.2⟩
    unfold encB encK; rw [if_neg h, if_neg h, errR_ne (Ent.err_ne _)]
theorem encK_zero {e : Ent} : encK e = 0 ↔ e.ok := by
  unfold encK
  by_cases h : e.ok
  · simp [h]
  · simp [h, e.err_ne]
def packR (es : List Ent) : ByteArray := if entsErr es = 0 then packB es es.length else ⟨#[]⟩
theorem entsErr_zero {es : List Ent} : entsErr es = 0 ↔ entsOk es :=
  ⟨fun h => Classical.byContradiction fun hk => entsErr_bad hk h, entsErr_ok⟩
end Go.Proofs.YtdpfebokbikgfaaDoor
