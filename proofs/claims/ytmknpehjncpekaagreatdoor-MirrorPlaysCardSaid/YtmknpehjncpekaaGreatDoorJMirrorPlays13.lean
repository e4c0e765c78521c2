/- Plain laws: entries read off bytes, no program in sight. -/
import Derived.Test.YtmknpehjncpekaaGreatDoorJMirrorPlays3
import Derived.Lib.IndexBytes
import Derived.Test.YtmknpehjncpekaaGreatDoorJMirrorPlays4
import Derived.Lib.SlicesS
import Derived.BigRegion
import Derived.Handy
import Derived.Test.YtmknpehjncpekaaGreatDoorJMirrorPlays12
namespace Go.Proofs.YtmknpehjncpekaaGreatDoor
open Go.RowKit
set_option linter.unusedVariables false

theorem list_size (s : ByteArray) : s.data.toList.length = s.size := rfl
theorem ex_list (s : ByteArray) (a b : Nat) : (s.extract a b).data.toList = (s.data.toList.drop a).take (b - a) := Lib.extract_data s a b
theorem ex_end (s : ByteArray) (a : Nat) : (s.extract a s.size).data.toList = s.data.toList.drop a := Lib.extract_to_end s a

/-- byte k -/
def byB (s : ByteArray) (k : Nat) : UInt8 := s.data.toList.getD k 0
theorem byB_get (s : ByteArray) (k : Nat) (h : k < s.size) : s[k] = byB s k := by
  unfold byB
  rw [List.getD_eq_getElem?_getD, List.getElem?_eq_getElem (by rw [list_size]; exact h)]
  rfl
/-- the entry at the start of bytes -/
def entOf (s : ByteArray) : Ent := ⟨((byB s 0).toNat : Int) * 65536 + ((byB s 1).toNat : Int) * 256 + ((byB s 2).toNat : Int), s.extract 4 (4 + (byB s 3).toNat)⟩
def takeE (s : ByteArray) : Option (Ent × ByteArray) :=
  if 4 ≤ s.size ∧ 4 + (byB s 3).toNat ≤ s.size ∧ (entOf s).ok then some (entOf s, s.extract (4 + (byB s 3).toNat) s.size) else none
theorem takeE_none {s : ByteArray} (h : ¬ (4 ≤ s.size ∧ 4 + (byB s 3).toNat ≤ s.size ∧ (entOf s).ok)) : takeE s = none := if_neg h
theorem takeE_bytes (e : Ent) (r : ByteArray) (h : e.ok) : takeE (e.bytes ++ r) = some (e, r) := by
  obtain ⟨t, d⟩ := e
  obtain ⟨h0, h1, h2⟩ := h
  dsimp only at h0 h1 h2
  have hl : ((⟨t, d⟩ : Ent).bytes ++ r).data.toList = byteOf (t / 65536 % 256) :: byteOf (t / 256 % 256) :: byteOf (t % 256) :: byteOf ((d.size : Int) % 256) :: (d.data.toList ++ r.data.toList) := by
    rw [toList_cat, Ent.bytes_list]; rfl
  have hz : ((⟨t, d⟩ : Ent).bytes ++ r).size = 4 + d.size + r.size := by rw [size_cat, Ent.bytes_size]
  generalize (⟨t, d⟩ : Ent).bytes ++ r = s at *
  have b0 : byB s 0 = byteOf (t / 65536 % 256) := by unfold byB; rw [hl]; rfl
  have b1 : byB s 1 = byteOf (t / 256 % 256) := by unfold byB; rw [hl]; rfl
  have b2 : byB s 2 = byteOf (t % 256) := by unfold byB; rw [hl]; rfl
  have b3 : byB s 3 = byteOf ((d.size : Int) % 256) := by unfold byB; rw [hl]; rfl
  have n0 := toNat_byteOf (t / 65536 % 256) (by omega) (by omega)
  have n1 := toNat_byteOf (t / 256 % 256) (by omega) (by omega)
  have n2 := toNat_byteOf (t % 256) (by omega) (by omega)
  have n3 := toNat_byteOf ((d.size : Int) % 256) (by omega) (by omega)
  rw [← b0] at n0
  rw [← b1] at n1
  rw [← b2] at n2
  rw [← b3] at n3
  have n3' : (byB s 3).toNat = d.size := by omega
  have hd : s.extract 4 (4 + (byB s 3).toNat) = d := by
    apply ba_ext
    rw [ex_list, hl, n3']
    show (d.data.toList ++ r.data.toList).take (4 + d.size - 4) = _
    rw [Nat.add_sub_cancel_left, ← list_size, List.take_left]
  have hr : s.extract (4 + (byB s 3).toNat) s.size = r := by
    apply ba_ext
    rw [ex_end, hl, n3', Nat.add_comm]
    show (d.data.toList ++ r.data.toList).drop d.size = _
    rw [← list_size, List.drop_left]
  have he : entOf s = ⟨t, d⟩ := by
    unfold entOf
    rw [hd, n0, n1, n2]
    congr 1
    omega
  unfold takeE
  rw [if_pos ⟨by omega, by omega, by rw [he]; exact ⟨h0, h1, h2⟩⟩, he, hr]
theorem takeE_some {s : ByteArray} {e : Ent} {r : ByteArray} (h : takeE s = some (e, r)) : e.ok ∧ s = e.bytes ++ r := by
  unfold takeE at h
  by_cases hc : 4 ≤ s.size ∧ 4 + (byB s 3).toNat ≤ s.size ∧ (entOf s).ok
  · rw [if_pos hc] at h
    obtain ⟨h1, h2, h3⟩ := hc
    simp only [Option.some.injEq, Prod.mk.injEq] at h
    obtain ⟨rfl, rfl⟩ := h
    refine ⟨h3, ?_⟩
    apply ba_ext
    rw [toList_cat, Ent.bytes_list, ex_end]
    have hsz : (entOf s).data.size = (byB s 3).toNat := by
      show (s.extract 4 (4 + (byB s 3).toNat)).size = _
      rw [ByteArray.size_extract]
      omega
    have hdl : (entOf s).data.data.toList = (s.data.toList.drop 4).take (byB s 3).toNat := by
      show (s.extract 4 (4 + (byB s 3).toNat)).data.toList = _
      rw [ex_list, Nat.add_sub_cancel_left]
    have q0 := (byB s 0).toNat_lt
    have q1 := (byB s 1).toNat_lt
    have q2 := (byB s 2).toNat_lt
    have q3 := (byB s 3).toNat_lt
    have ht : (entOf s).time = ((byB s 0).toNat : Int) * 65536 + ((byB s 1).toNat : Int) * 256 + ((byB s 2).toNat : Int) := rfl
    unfold entB entH
    rw [list_size, hsz, hdl, ht]
    rw [show (((byB s 0).toNat : Int) * 65536 + ((byB s 1).toNat : Int) * 256 + ((byB s 2).toNat : Int)) / 65536 % 256 = ((byB s 0).toNat : Int) by omega,
      show (((byB s 0).toNat : Int) * 65536 + ((byB s 1).toNat : Int) * 256 + ((byB s 2).toNat : Int)) / 256 % 256 = ((byB s 1).toNat : Int) by omega,
      show (((byB s 0).toNat : Int) * 65536 + ((byB s 1).toNat : Int) * 256 + ((byB s 2).toNat : Int)) % 256 = ((byB s 2).toNat : Int) by omega,
      show ((byB s 3).toNat : Int) % 256 = ((byB s 3).toNat : Int) by omega, byteOf_toNat, byteOf_toNat, byteOf_toNat, byteOf_toNat]
    have hlen : 4 ≤ s.data.toList.length := by rw [list_size]; exact h1
    unfold byB
    generalize s.data.toList = l at *
    match l, hlen with
    | a :: b :: c :: d :: l, _ =>
      show a :: b :: c :: d :: l = [a, b, c, d] ++ l.take d.toNat ++ List.drop (4 + d.toNat) (a :: b :: c :: d :: l)
      rw [Nat.add_comm]
      show a :: b :: c :: d :: l = a :: b :: c :: d :: (l.take d.toNat ++ l.drop d.toNat)
      rw [List.take_append_drop]
  · rw [if_neg hc] at h; cases h

/-- the bytes of entries, one behind the other -/
def catL (es : List Ent) : List UInt8 := es.flatMap fun e => e.bytes.data.toList
theorem catL_append (a b : List Ent) : catL (a ++ b) = catL a ++ catL b := by simp [catL]
theorem catL_cons (e : Ent) (b : List Ent) : catL (e :: b) = e.bytes.data.toList ++ catL b := rfl
theorem catL_len {es : List Ent} (h : ∀ e ∈ es, e.ok) : (catL es).length ≤ 204 * es.length := by
  induction es with
  | nil => simp [catL]
  | cons e es ih =>
    have h1 := (h e (by simp)).2.2
    have h2 := ih fun x hx => h x (by simp [hx])
    rw [catL_cons, List.length_append, list_size, Ent.bytes_size, List.length_cons]
    omega
/-- some entries off bytes -/
def unpN : Nat → ByteArray → Option (List Ent × ByteArray)
  | 0, s => some ([], s)
  | n + 1, s => match unpN n s with
    | none => none
    | some (es, q) => match takeE q with
      | none => none
      | some (e, r) => some (es ++ [e], r)
theorem unpN_zero (s : ByteArray) : unpN 0 s = some ([], s) := rfl
theorem unpN_next {n : Nat} {s q r : ByteArray} {es : List Ent} {e : Ent} (h : unpN n s = some (es, q)) (k : takeE q = some (e, r)) : unpN (n + 1) s = some (es ++ [e], r) := by
  rw [unpN, h]; simp only [k]
theorem unpN_stop {n : Nat} {s q : ByteArray} {es : List Ent} (h : unpN n s = some (es, q)) (k : takeE q = none) : unpN (n + 1) s = none := by
  rw [unpN, h]; simp only [k]
theorem unpN_none {n : Nat} {s : ByteArray} (h : unpN n s = none) : unpN (n + 1) s = none := by rw [unpN, h]
theorem unpN_later {n : Nat} {s : ByteArray} (h : unpN n s = none) : ∀ k, unpN (n + k) s = none
  | 0 => h
  | k + 1 => unpN_none (unpN_later h k)
theorem unpN_some : ∀ (n : Nat) (s : ByteArray) (es : List Ent) (q : ByteArray), unpN n s = some (es, q) → es.length = n ∧ (∀ e ∈ es, e.ok) ∧ s.data.toList = catL es ++ q.data.toList
  | 0, s, es, q, h => by
    rw [unpN_zero] at h
    simp only [Option.some.injEq, Prod.mk.injEq] at h
    obtain ⟨rfl, rfl⟩ := h
    exact ⟨rfl, by simp, by simp [catL]⟩
  | n + 1, s, es, q, h => by
    cases hu : unpN n s with
    | none => rw [unpN_none hu] at h; cases h
    | some p =>
      obtain ⟨es', q'⟩ := p
      obtain ⟨h1, h2, h3⟩ := unpN_some n s es' q' hu
      cases ht : takeE q' with
      | none => rw [unpN_stop hu ht] at h; cases h
      | some p =>
        obtain ⟨e, r⟩ := p
        rw [unpN_next hu ht] at h
        simp only [Option.some.injEq, Prod.mk.injEq] at h
        obtain ⟨rfl, rfl⟩ := h
        obtain ⟨k1, k2⟩ := takeE_some ht
        refine ⟨by simp [h1], ?_, ?_⟩
        · intro x hx
          rcases List.mem_append.1 hx with hx | hx
          · exact h2 x hx
          · rw [List.mem_singleton] at hx; subst hx; exact k1
        · rw [h3, k2, toList_cat, catL_append]
          simp [catL]
theorem unpN_cat (es : List Ent) (h : ∀ e ∈ es, e.ok) (r : List UInt8) : ∀ n, n ≤ es.length → unpN n ⟨(catL es ++ r).toArray⟩ = some (es.take n, ⟨(catL (es.drop n) ++ r).toArray⟩)
  | 0, _ => rfl
  | n + 1, hn => by
    have hn' : n < es.length := by omega
    have hd : es.drop n = es[n] :: es.drop (n + 1) := List.drop_eq_getElem_cons hn'
    have ht : takeE ⟨(catL (es.drop n) ++ r).toArray⟩ = some (es[n], ⟨(catL (es.drop (n + 1)) ++ r).toArray⟩) := by
      rw [← takeE_bytes es[n] _ (h _ (List.getElem_mem hn'))]
      congr 1
      apply ba_ext
      rw [toList_cat, toList_mk, toList_mk, hd, catL_cons, List.append_assoc]
    rw [unpN_next (unpN_cat es h r n (by omega)) ht, List.take_succ_eq_append_getElem hn']

/-- the bytes of many: while they are made -/
def packB (es : List Ent) (j : Nat) : ByteArray := ⟨(byteOf (es.length : Int) :: catL (es.take j)).toArray⟩
theorem packB_list (es : List Ent) (j : Nat) : (packB es j).data.toList = byteOf (es.length : Int) :: catL (es.take j) := by unfold packB; rw [toList_mk]
theorem packB_zero (es : List Ent) : packB es 0 = ⟨#[byteOf (es.length : Int)]⟩ := rfl
theorem packB_next {es : List Ent} {j : Nat} {e : Ent} (h : es[j]? = some e) : packB es (j + 1) = packB es j ++ e.bytes := by
  apply ba_ext
  obtain ⟨hl, rfl⟩ := List.getElem?_eq_some_iff.1 h
  rw [toList_cat, packB_list, packB_list, List.take_succ_eq_append_getElem hl, catL_append]
  simp [catL]
theorem packB_size {es : List Ent} (h : ∀ e ∈ es, e.ok) (j : Nat) (hl : es.length ≤ 200) : (packB es j).size ≤ 40801 := by
  rw [← list_size, packB_list, List.length_cons]
  have := catL_len (es := es.take j) fun e he => h e (List.mem_of_mem_take he)
  have : (es.take j).length ≤ es.length := by rw [List.length_take]; omega
  omega
/-- entries off bytes -/
def unpEnd : Option (List Ent × ByteArray) → Option (List Ent)
  | none => none
  | some (es, q) => if q.size = 0 then some es else none
def unpackE (s : ByteArray) : Option (List Ent) :=
  if s.size = 0 ∨ 200 < (byB s 0).toNat then none else unpEnd (unpN (byB s 0).toNat (s.extract 1 s.size))
theorem unpackE_pack {es : List Ent} (h : ∀ e ∈ es, e.ok) (hl : es.length ≤ 200) : unpackE (packB es es.length) = some es := by
  have hp := packB_list es es.length
  rw [List.take_length] at hp
  have hb : byB (packB es es.length) 0 = byteOf (es.length : Int) := by unfold byB; rw [hp]; rfl
  have hn := toNat_byteOf (es.length : Int) (by omega) (by omega)
  rw [← hb] at hn
  have hn' : (byB (packB es es.length) 0).toNat = es.length := by omega
  have he : (packB es es.length).extract 1 (packB es es.length).size = ⟨(catL es ++ []).toArray⟩ := by
    apply ba_ext
    rw [ex_end, hp, toList_mk, List.append_nil]
    rfl
  have hs : ¬ ((packB es es.length).size = 0 ∨ 200 < (byB (packB es es.length) 0).toNat) := by
    rw [← list_size, hp, hn', List.length_cons]
    omega
  unfold unpackE
  rw [if_neg hs, he, hn', unpN_cat es h [] es.length (Nat.le_refl _), List.take_length, List.drop_length]
  rfl
theorem unpackE_some {s : ByteArray} {es : List Ent} (h : unpackE s = some es) : (∀ e ∈ es, e.ok) ∧ es.length ≤ 200 ∧ s = packB es es.length := by
  unfold unpackE at h
  by_cases hs : s.size = 0 ∨ 200 < (byB s 0).toNat
  · rw [if_pos hs] at h; cases h
  · rw [if_neg hs] at h
    cases hu : unpN (byB s 0).toNat (s.extract 1 s.size) with
    | none => rw [hu] at h; cases h
    | some p =>
      obtain ⟨es', q⟩ := p
      rw [hu] at h
      unfold unpEnd at h
      simp only at h
      by_cases hq : q.size = 0
      · rw [if_pos hq] at h
        obtain rfl : es' = es := by simpa using h
        obtain ⟨h1, h2, h3⟩ := unpN_some _ _ _ _ hu
        refine ⟨h2, by omega, ?_⟩
        apply ba_ext
        rw [packB_list, List.take_length, h1]
        have hq0 : q.data.toList = [] := List.eq_nil_of_length_eq_zero (by rw [list_size]; exact hq)
        rw [ex_end, hq0, List.append_nil] at h3
        rw [← h3, byteOf_toNat]
        unfold byB
        have hlen : 0 < s.data.toList.length := by rw [list_size]; omega
        generalize s.data.toList = l at *
        match l, hlen with
        | a :: l, _ => rfl
      · rw [if_neg hq] at h; cases h
end Go.Proofs.YtmknpehjncpekaaGreatDoor

namespace Go.Proofs.YtmknpehjncpekaaGreatDoor
open Go.RowKit
set_option linter.unusedVariables false
attribute [local go_sem ↓] Go.wp_at_zero Go.wp_at_succ

theorem ofInt_u (n : Nat) (h : n < 18446744073709551616) : (BitVec.ofInt 64 (n : Int)).toNat = n := by
  rw [BitVec.toNat_ofInt]; omega
theorem or_add (a b i : Nat) (hb : b < 2 ^ i) (h : a * 2 ^ i + b < 9223372036854775807) : bits .or .i64 ((a * 2 ^ i : Nat) : Int) (b : Int) = ((a * 2 ^ i + b : Nat) : Int) := by
  show IntKind.i64.wrap ((BitVec.ofInt 64 ((a * 2 ^ i : Nat) : Int) ||| BitVec.ofInt 64 (b : Int)).toNat : Int) = _
  rw [BitVec.toNat_or, ofInt_u _ (by omega), ofInt_u b (by omega), Nat.mul_comm a, ← Nat.two_pow_add_eq_or_of_lt hb, Nat.mul_comm]
  exact IntWalk.i64_in _ (by omega)
theorem or_hi (a b : Nat) (ha : a < 256) (hb : b < 256) : bits .or .i64 ((a : Int) * 65536) ((b : Int) * 256) = (a : Int) * 65536 + (b : Int) * 256 := by
  have h := or_add a (b * 256) 16 (by omega) (by omega)
  rw [show ((a * 2 ^ 16 : Nat) : Int) = (a : Int) * 65536 by omega, show ((b * 256 : Nat) : Int) = (b : Int) * 256 by omega] at h
  rw [h]
  omega
theorem or_lo (a b c : Nat) (ha : a < 256) (hb : b < 256) (hc : c < 256) : bits .or .i64 ((a : Int) * 65536 + (b : Int) * 256) (c : Int) = (a : Int) * 65536 + (b : Int) * 256 + (c : Int) := by
  have h := or_add (a * 256 + b) c 8 (by omega) (by omega)
  rw [show (((a * 256 + b) * 2 ^ 8 : Nat) : Int) = (a : Int) * 65536 + (b : Int) * 256 by omega] at h
  rw [h]
  omega

theorem w_small {n : Int} (h0 : 0 ≤ n) (h : n < 256) : wrap64 n = n := by unfold wrap64; omega
theorem w_four {n : Int} (h0 : 0 ≤ n) (h : n < 256) : wrap64 (4 + n) = 4 + n := by unfold wrap64; omega
theorem i_four {n : Int} (h0 : 0 ≤ n) (h : n < 256) : IntKind.i64.wrap (4 + n) = 4 + n := IntWalk.i64_in _ (by omega)
theorem i_small {n : Int} (h0 : 0 ≤ n) (h : n < 256) : IntKind.i64.wrap n = n := IntWalk.i64_in _ (by omega)
theorem u8_lt (b : UInt8) : 0 ≤ (b.toNat : Int) ∧ (b.toNat : Int) < 256 := by have := b.toNat_lt; omega
theorem u8_ltN (b : UInt8) : b.toNat < 256 := b.toNat_lt
theorem four_le {n : Int} (h0 : 0 ≤ n) : (4 : Int) ≤ 4 + n := by omega
theorem four_le' {n m : Nat} (h : 4 + n ≤ m) : 4 + (n : Int) ≤ (m : Int) := by omega
theorem four_0 {n : Int} (h0 : 0 ≤ n) : (0 : Int) ≤ 4 + n := by omega
theorem lt_int {n m : Nat} (h : n < m) : (n : Int) < (m : Int) := by omega
theorem w_hi {a : Nat} (h : a < 256) : wrap64 ((a : Int) * 65536) = (a : Int) * 65536 := by unfold wrap64; omega
theorem w_mid {a : Nat} (h : a < 256) : wrap64 ((a : Int) * 256) = (a : Int) * 256 := by unfold wrap64; omega
theorem four_m {n m : Nat} (h : 4 + n ≤ m) : (4 : Int) ≤ (m : Int) := by omega

theorem lt_four {n m : Nat} (h : m < 4 + n) : (m : Int) < 4 + (n : Int) := by omega
end Go.Proofs.YtmknpehjncpekaaGreatDoor

namespace Go.Proofs.YtmknpehjncpekaaGreatDoor
open Go.RowKit
set_option linter.unusedVariables false
attribute [local go_sem ↓] Go.wp_at_zero Go.wp_at_succ

theorem takeE_size {s : ByteArray} {e : Ent} {r : ByteArray} (h : takeE s = some (e, r)) : r.size ≤ s.size := by
  obtain ⟨_, h2⟩ := takeE_some h
  rw [h2, size_cat]; omega

/-- bytes of one entry alone -/
theorem takeE_one (e : Ent) (h : e.ok) : takeE e.bytes = some (e, ⟨#[]⟩) := by
  have := takeE_bytes e ⟨#[]⟩ h
  rwa [show e.bytes ++ ⟨#[]⟩ = e.bytes from ba_ext (by rw [toList_cat]; simp)] at this
theorem flat_snoc (es : List Ent) (e : Ent) : (es ++ [e]).flatMap Ent.cells = es.flatMap Ent.cells ++ e.cells := by simp
theorem unpN_size {n : Nat} {s q : ByteArray} {es : List Ent} (h : unpN n s = some (es, q)) : q.size ≤ s.size := by
  have := (unpN_some _ _ _ _ h).2.2
  have h2 := congrArg List.length this
  rw [List.length_append, list_size, list_size] at h2
  omega

theorem str_some {s : ByteArray} (h : 0 < s.size) : s.toList.isEmpty = false ∧ ¬ s.toList = [] := by
  have : ¬ s.toList = [] := by
    rw [Lib.toList_data]
    intro h'
    rw [← list_size, h'] at h
    exact absurd h (by simp)
  refine ⟨?_, this⟩
  cases hs : s.toList with
  | nil => exact absurd hs this
  | cons a l => rfl
theorem str_none {s : ByteArray} (h : s.size = 0) : s = ⟨#[]⟩ := ba_ext (List.eq_nil_of_length_eq_zero (by rw [list_size]; exact h))
/-- what Unpack answers -/
def UnpPost (s : ByteArray) (w : World) (e : Ending) (w' : World) : Prop :=
  match unpackE s with
  | some es => ∃ v, e = .returned (.tuple #[v, .nilIface]) ∧ w'.ownsRow w.heap.size 59 2 v es.length (es.flatMap Ent.cells)
  | none => e = .returned (.tuple #[.slice none 0 0, errV 2])
theorem UnpPost.none {s : ByteArray} {w w' : World} {e : Ending} (h : unpackE s = none) (k : e = .returned (.tuple #[.slice none 0 0, errV 2])) : UnpPost s w e w' := by
  unfold UnpPost; rw [h]; exact k
theorem UnpPost.some {s : ByteArray} {w w' : World} {v : Value} {es : List Ent} (h : unpackE s = some es) (k : w'.ownsRow w.heap.size 59 2 v es.length (es.flatMap Ent.cells)) : UnpPost s w (.returned (.tuple #[v, .nilIface])) w' := by
  unfold UnpPost; rw [h]; exact ⟨_, rfl, k⟩

set_option maxRecDepth 100000 in
theorem Entries_same (A A' : Option Addr) (n c c' : Nat) (es : List Ent) (w : World) (hr : Rd w 2 A n c (es.flatMap Ent.cells)) (hr' : Rd w 2 A' n c' (es.flatMap Ent.cells)) (hm : n ≤ 200) :
    Calls Tryz.prog 11 #[.slice A n c, .slice A' n c'] w fun e w' => e = .returned (.bool true) ∧ Ext w w' := by
  have HX := Lib.hid hr.lenE
  have hl := hr.2.1
  have hl' := hr'.2.1
  go_enter Tryz.func11, Tryz.ntmps11
  go_wp2_with fail
  go_loopw [5] (fun x wr => ∃ j : Nat, x = .int .i64 j ∧ j ≤ n ∧ Ext w wr) (fun x _ => n - (intOf x).toNat)
  case atStart => exact ⟨0, rfl, Nat.zero_le _, by (repeat (with_reducible first | exact Ext.refl _ | assumption | refine Ext.drew ?_ | refine Ext.drewN ?_ _ | refine Ext.alloc ?_ _ | refine Ext.trans ?_ (by with_reducible assumption)))⟩
  case round =>
    obtain ⟨j, rfl, hj, hbw⟩ := hrel
    by_cases hc : j < n
    · have hgj := List.getElem?_eq_getElem (l := es) (i := j) (by rw [HX.out]; exact hc)
      obtain ⟨ad, rfl, hb, c0, c1⟩ := (hr.ext hbw).getE hgj
      obtain ⟨ad', rfl, hb', c0', c1'⟩ := (hr'.ext hbw).getE hgj
      generalize es[j]'(by rw [HX.out]; exact hc) = e at *
      have hcN : (j : Int) < (n : Int) := by omega
      go_wp2_with fail
      go_quiet (fail)
      go_wp2_with fail
      go_roundw
      case rel => exact ⟨j + 1, by go_num, by omega, by (repeat (with_reducible first | exact Ext.refl _ | assumption | refine Ext.drew ?_ | refine Ext.drewN ?_ _ | refine Ext.alloc ?_ _ | refine Ext.trans ?_ (by with_reducible assumption)))⟩
      case measure => simp [intOf]; omega
    · go_wp2_with fail
      go_ret
      exact ⟨rfl, by (repeat (with_reducible first | exact Ext.refl _ | assumption | refine Ext.drew ?_ | refine Ext.drewN ?_ _ | refine Ext.alloc ?_ _ | refine Ext.trans ?_ (by with_reducible assumption)))⟩

/-! ### Both ways at once: the fault by its number -/
def encK (e : Ent) : Int := if e.ok then 0 else e.err
def encB (e : Ent) : ByteArray := if e.ok then e.bytes else ⟨#[]⟩
theorem encK_zero {e : Ent} : encK e = 0 ↔ e.ok := by
  unfold encK
  by_cases h : e.ok
  · simp [h]
  · simp [h, e.err_ne]
def packR (es : List Ent) : ByteArray := if entsErr es = 0 then packB es es.length else ⟨#[]⟩
theorem entsErr_zero {es : List Ent} : entsErr es = 0 ↔ entsOk es :=
  ⟨fun h => Classical.byContradiction fun hk => entsErr_bad hk h, entsErr_ok⟩
end Go.Proofs.YtmknpehjncpekaaGreatDoor

/- The references' entries. -/
namespace Go.Proofs.YtmknpehjncpekaaGreatDoor
open Go.RowKit Go.WideShapes
set_option linter.unusedVariables false
attribute [local go_sem ↓] Go.wp_at_zero Go.wp_at_succ

theorem encK_ways (t : Int) (s : ByteArray) : (t < 0 ∧ encK ⟨t, s⟩ = 1) ∨ (0 ≤ t ∧ 1000000 < t ∧ encK ⟨t, s⟩ = 1) ∨ (0 ≤ t ∧ t ≤ 1000000 ∧ 200 < s.size ∧ encK ⟨t, s⟩ = 4) ∨ (0 ≤ t ∧ t ≤ 1000000 ∧ s.size ≤ 200 ∧ encK ⟨t, s⟩ = 0) := by
  by_cases h : (⟨t, s⟩ : Ent).ok
  · have hk : encK ⟨t, s⟩ = 0 := if_pos h
    obtain ⟨h0, h1, h2⟩ := h
    exact .inr (.inr (.inr ⟨h0, h1, h2, hk⟩))
  · have hk : encK ⟨t, s⟩ = Ent.err ⟨t, s⟩ := if_neg h
    unfold Ent.ok at h
    simp only at h
    by_cases h2 : t < 0 ∨ 1000000 < t
    · have he : Ent.err ⟨t, s⟩ = 1 := if_pos h2
      rw [he] at hk
      omega
    · have he : Ent.err ⟨t, s⟩ = 4 := if_neg h2
      rw [he] at hk
      omega

set_option maxRecDepth 100000 in
theorem REntry_any (t : Int) (s : ByteArray) (w : World) :
    Calls Tryz.prog 42 #[.agg #[.int .i64 t, .string s]] w fun e w' => e = .returned (.int .i64 (encK ⟨t, s⟩)) ∧ Ext w w' := by
  have HW := Lib.hid (encK_ways t s)
  generalize encK ⟨t, s⟩ = k at *
  go_enter Tryz.func42, Tryz.ntmps42
  go_upto_region 1 with (fail)
  have B0 : Bk (w.alloc (.cells #[.int .i64 t, .string s] 59)) w.heap.size 59 #[.int .i64 t, .string s] := Bk.at_ _ _ _ _ rfl
  have X0 : Ext w (w.alloc (.cells #[.int .i64 t, .string s] 59)) := by (repeat (with_reducible first | exact Ext.refl _ | assumption | refine Ext.drew ?_ | refine Ext.drewN ?_ _ | refine Ext.alloc ?_ _ | refine Ext.trans ?_ (by with_reducible assumption)))
  generalize w.alloc (.cells #[.int .i64 t, .string s] 59) = w0 at *
  have b0 := B0.cell 0
  have b1 := B0.cell 1
  rcases HW.out with ⟨h, rfl⟩ | ⟨h, h', rfl⟩ | ⟨h, h', h'', rfl⟩ | ⟨h, h', h'', rfl⟩
  all_goals
    go_wp2_with fail
    go_ret
    exact ⟨rfl, X0⟩
end Go.Proofs.YtmknpehjncpekaaGreatDoor

/- The references' entries: one taken off bytes. -/
namespace Go.Proofs.YtmknpehjncpekaaGreatDoor
open Go.RowKit Go.WideShapes
set_option linter.unusedVariables false
attribute [local go_sem ↓] Go.wp_at_zero Go.wp_at_succ

theorem w_s1 {a b : Nat} (ha : a < 256) (hb : b < 256) : wrap64 ((a : Int) * 65536 + (b : Int) * 256) = (a : Int) * 65536 + (b : Int) * 256 := by unfold wrap64; omega
theorem w_s2 {a b c : Nat} (ha : a < 256) (hb : b < 256) (hc : c < 256) : wrap64 ((a : Int) * 65536 + (b : Int) * 256 + (c : Int)) = (a : Int) * 65536 + (b : Int) * 256 + (c : Int) := by unfold wrap64; omega

end Go.Proofs.YtmknpehjncpekaaGreatDoor

/- The references' entries: their bytes. -/
namespace Go.Proofs.YtmknpehjncpekaaGreatDoor
open Go.RowKit Go.WideShapes
set_option linter.unusedVariables false
attribute [local go_sem ↓] Go.wp_at_zero Go.wp_at_succ

theorem four_one (t : Int) (h0 : 0 ≤ t) (h1 : t ≤ 1000000) : wrap64 (t.tdiv 65536) % 256 = t / 65536 % 256 := by
  rw [Int.tdiv_eq_ediv_of_nonneg h0]
  unfold wrap64
  omega
theorem four_two (t : Int) (h0 : 0 ≤ t) (h1 : t ≤ 1000000) : (wrap64 (t.tdiv 256)).tmod 256 % 256 = t / 256 % 256 := by
  rw [Int.tdiv_eq_ediv_of_nonneg h0]
  have : wrap64 (t / 256) = t / 256 := by unfold wrap64; omega
  rw [this, Int.tmod_eq_emod_of_nonneg (by omega)]
  omega
theorem four_three (t : Int) (h0 : 0 ≤ t) (h1 : t ≤ 1000000) : t.tmod 256 % 256 = t % 256 := by
  rw [Int.tmod_eq_emod_of_nonneg h0]
  omega
theorem bytes_of {t : Int} {s : ByteArray} {a b c d : Int} (ha : a = t / 65536 % 256) (hb : b = t / 256 % 256) (hc : c = t % 256) (hd : d = (s.size : Int) % 256) :
    (([a, b, c, d] : List Int) ++ s.data.toList.map fun (b : UInt8) => (b.toNat : Int)).map byteOf = (⟨t, s⟩ : Ent).bytes.data.toList := by
  subst ha hb hc hd
  rw [List.map_append, List.map_map, Ent.bytes_list]
  have : (byteOf ∘ fun (b : UInt8) => (b.toNat : Int)) = id := by funext b; exact byteOf_toNat b
  rw [this, List.map_id]; rfl
theorem bytes_cells (s : ByteArray) (a b c d : Int) : List.map (Value.int .u8) [a, b, c, d] ++ newsS s = (([a, b, c, d] : List Int) ++ s.data.toList.map fun (b : UInt8) => (b.toNat : Int)).map (Value.int .u8) := by rw [List.map_append, newsS_int]
theorem ba_list (s : ByteArray) : (⟨s.data.toList.toArray⟩ : ByteArray) = s := ba_ext (by rw [toList_mk])

set_option maxRecDepth 100000 in
theorem RBytes_any (t : Int) (s : ByteArray) (w : World) (h : (⟨t, s⟩ : Ent).ok) :
    Calls Tryz.prog 41 #[.agg #[.int .i64 t, .string s]] w fun e w' => e = .returned (.string (⟨t, s⟩ : Ent).bytes) ∧ Ext w w' := by
  obtain ⟨h0, h1, hs⟩ := h
  dsimp only at h0 h1 hs
  obtain ⟨a, HA⟩ : ∃ a, Hid (wrap64 (t.tdiv 65536) % 256 = a) := ⟨_, rfl⟩
  obtain ⟨b, HB⟩ : ∃ a, Hid ((wrap64 (t.tdiv 256)).tmod 256 % 256 = a) := ⟨_, rfl⟩
  obtain ⟨c, HC⟩ : ∃ a, Hid (t.tmod 256 % 256 = a) := ⟨_, rfl⟩
  obtain ⟨d, HD⟩ : ∃ a, Hid ((s.size : Int) = a) := ⟨_, rfl⟩
  have HL := Lib.hid (bytes_of (s := s) (HA.out.symm.trans (four_one t h0 h1)) (HB.out.symm.trans (four_two t h0 h1)) (HC.out.symm.trans (four_three t h0 h1)) (HD.out.symm.trans (by omega)))
  have HSZ := Lib.hid (Ent.bytes_size ⟨t, s⟩)
  obtain ⟨i0, hi0, hz0', hz1, hz2⟩ := info_parts info_u8
  obtain ⟨g, hg⟩ : ∃ g, g = w.heap.size + 1 := ⟨_, rfl⟩
  clear h0 h1
  go_enter Tryz.func41, Tryz.ntmps41
  go_upto_region 2 with (fail)
  rw [HA.out, HB.out, HC.out, HD.out]
  have B0 : Bk (w.alloc (.cells #[.int .i64 t, .string s] 59)) w.heap.size 59 #[.int .i64 t, .string s] := Bk.at_ _ _ _ _ rfl
  have X0 : Ext w (w.alloc (.cells #[.int .i64 t, .string s] 59)) := by (repeat (with_reducible first | exact Ext.refl _ | assumption | refine Ext.drew ?_ | refine Ext.drewN ?_ _ | refine Ext.alloc ?_ _ | refine Ext.trans ?_ (by with_reducible assumption)))
  have hsz : (w.alloc (.cells #[.int .i64 t, .string s] 59)).heap.size = w.heap.size + 1 := by simp
  rw [← hg] at hsz ⊢
  generalize w.alloc (.cells #[.int .i64 t, .string s] 59) = w0 at *
  have own0 : (w0.alloc (.cells #[.int .u8 a, .int .u8 b, .int .u8 c, .int .u8 d] 5)).ownsRow w0.heap.size 5 1 (.slice (some ⟨w0.heap.size, 0, none⟩) 4 4) 4 (([a, b, c, d] : List Int).map (Value.int .u8)) :=
    World.ownsRow_lit w0 #[.int .u8 a, .int .u8 b, .int .u8 c, .int .u8 d] 4 (by simp) (by simp [maxLen]) rfl
  rw [hsz] at own0
  have B1 := B0.alloc (.cells #[.int .u8 a, .int .u8 b, .int .u8 c, .int .u8 d] 5)
  have E0 : Ext w (w0.alloc (.cells #[.int .u8 a, .int .u8 b, .int .u8 c, .int .u8 d] 5)) := by (repeat (with_reducible first | exact Ext.refl _ | assumption | refine Ext.drew ?_ | refine Ext.drewN ?_ _ | refine Ext.alloc ?_ _ | refine Ext.trans ?_ (by with_reducible assumption)))
  have hz0 : g < (w0.alloc (.cells #[.int .u8 a, .int .u8 b, .int .u8 c, .int .u8 d] 5)).heap.size := by simp [hsz]
  generalize w0.alloc (.cells #[.int .u8 a, .int .u8 b, .int .u8 c, .int .u8 d] 5) = w1 at *
  have hconv := run_bytes_of_string (P := Tryz.prog) w1 9 105 5 s Tryz.underlying9 Tryz.underlying105 Tryz.underlying5
  have hcells := conv_cells w1.drew s (grownCap w1 s.size 0 5) 5 ((bytesRow s (grownCap w1 s.size 0 5)).size, (bytesRow s (grownCap w1 s.size 0 5)).size + 1) w1.heap.size rfl
  have E1 : Ext w (w1.drew.alloc (.cells (bytesRow s (grownCap w1 s.size 0 5)) 5 ((bytesRow s (grownCap w1 s.size 0 5)).size, (bytesRow s (grownCap w1 s.size 0 5)).size + 1))) := by (repeat (with_reducible first | exact Ext.refl _ | assumption | refine Ext.drew ?_ | refine Ext.drewN ?_ _ | refine Ext.alloc ?_ _ | refine Ext.trans ?_ (by with_reducible assumption)))
  have E12 : Ext w1 (w1.drew.alloc (.cells (bytesRow s (grownCap w1 s.size 0 5)) 5 ((bytesRow s (grownCap w1 s.size 0 5)).size, (bytesRow s (grownCap w1 s.size 0 5)).size + 1))) := by (repeat (with_reducible first | exact Ext.refl _ | assumption | refine Ext.drew ?_ | refine Ext.drewN ?_ _ | refine Ext.alloc ?_ _ | refine Ext.trans ?_ (by with_reducible assumption)))
  have own1 : (w1.drew.alloc (.cells (bytesRow s (grownCap w1 s.size 0 5)) 5 ((bytesRow s (grownCap w1 s.size 0 5)).size, (bytesRow s (grownCap w1 s.size 0 5)).size + 1))).ownsRow g 5 1 (.slice (some ⟨g, 0, none⟩) 4 4) 4 (([a, b, c, d] : List Int).map (Value.int .u8)) := (World.ownsRow.drew own0).alloc _
  generalize w1.drew.alloc (.cells (bytesRow s (grownCap w1 s.size 0 5)) 5 ((bytesRow s (grownCap w1 s.size 0 5)).size, (bytesRow s (grownCap w1 s.size 0 5)).size + 1)) = w2 at *
  generalize grownCap w1 s.size 0 5 = cp at *
  have hs2 := E12.size
  have b0 := B1.cell 0
  have b1 := B1.cell 1
  have HC2 := Lib.hid hcells
  have hw1 : w.heap.size + 1 ≤ w1.heap.size := by omega
  clear hcells
  go_wp2_with (at_builtin; refine wpl_appa (by rfl) _ _ _ (by rfl) g 5 i0 _ 1 1 Tryz.underlying105 hi0 hz0' hz1 hz2 rfl (by omega) (.slice (some ⟨g, 0, none⟩) 4 4) 4 _ (by rfl) own1 ⟨w1.heap.size, 0, none⟩ s.size cp (newsS s) (by rfl) (newsS_len s) HC2.out (newsS_one s) (by omega) (by omega) (by omega) ?_; intro v3 w3 own3 hx3; have E3 := hx3 w (by omega) E1; obtain ⟨ad3, c3, rfl, hcv3⟩ := str_of_own own3 (by omega) (bytes_cells s a b c d) HL.out)
  rw [ba_list] at hcv3
  generalize (⟨t, s⟩ : Ent).bytes = y at *
  go_wp2_with fail
  go_ret
  exact ⟨rfl, E3⟩
end Go.Proofs.YtmknpehjncpekaaGreatDoor

/- The references' entries: all walks. -/
namespace Go.Proofs.YtmknpehjncpekaaGreatDoor
open Go.RowKit Go.WideShapes
set_option linter.unusedVariables false
attribute [local go_sem ↓] Go.wp_at_zero Go.wp_at_succ

/-! ### Check, both ways -/
theorem eCheck_any (t : Int) (s : ByteArray) (w : World) :
    Calls Tryz.prog 49 #[.agg #[.int .i64 t, .string s]] w fun e w' => e = .returned (errR (encK ⟨t, s⟩)) ∧ Ext w w' := by
  by_cases h : (⟨t, s⟩ : Ent).ok
  · refine (eCheck_ok t s w h).mono fun e w' hh => ⟨hh.1.trans ?_, hh.2⟩
    unfold encK; rw [if_pos h]; rfl
  · refine (eCheck_bad t s w h).mono fun e w' hh => ⟨hh.1.trans ?_, hh.2⟩
    unfold encK; rw [if_neg h, errR_ne (Ent.err_ne _)]

/-! ### Decode -/
def decO (s : ByteArray) : Option Ent := match takeE s with
  | some (e, r) => if r.size = 0 then some e else none
  | none => none
def decE (s : ByteArray) : Ent := (decO s).getD ⟨0, ⟨#[]⟩⟩
def decB (s : ByteArray) : Bool := (decO s).isSome
def decK (s : ByteArray) : Int := if decB s then 0 else 2
theorem dec_some {s r : ByteArray} {e : Ent} (h : takeE s = some (e, r)) (hr : r.size = 0) : decE s = e ∧ decB s = true ∧ decK s = 0 := by
  have : decO s = some e := by unfold decO; rw [h]; exact if_pos hr
  have hb : decB s = true := by unfold decB; rw [this]; rfl
  exact ⟨by unfold decE; rw [this]; rfl, hb, by unfold decK; rw [hb]; rfl⟩
theorem dec_none' {s : ByteArray} (h : decO s = none) : decE s = ⟨0, ⟨#[]⟩⟩ ∧ decB s = false ∧ decK s = 2 := by
  have hb : decB s = false := by unfold decB; rw [h]; rfl
  exact ⟨by unfold decE; rw [h]; rfl, hb, by unfold decK; rw [hb]; rfl⟩
theorem dec_none {s : ByteArray} (h : takeE s = none) : decE s = ⟨0, ⟨#[]⟩⟩ ∧ decB s = false ∧ decK s = 2 := dec_none' (by unfold decO; rw [h])
theorem dec_rest {s r : ByteArray} {e : Ent} (h : takeE s = some (e, r)) (hr : r.size ≠ 0) : decE s = ⟨0, ⟨#[]⟩⟩ ∧ decB s = false ∧ decK s = 2 := dec_none' (by unfold decO; rw [h]; exact if_neg hr)

def RUnpPost (s : ByteArray) (w : World) (e : Ending) (w' : World) : Prop :=
  match unpackE s with
  | some es => ∃ v, e = .returned (.tuple #[v, .bool true]) ∧ w'.ownsRow w.heap.size 59 2 v es.length (es.flatMap Ent.cells)
  | none => ∃ v, e = .returned (.tuple #[v, .bool false])
theorem RUnpPost.none {s : ByteArray} {w w' : World} {e : Ending} {v : Value} (h : unpackE s = none) (k : e = .returned (.tuple #[v, .bool false])) : RUnpPost s w e w' := by
  unfold RUnpPost; rw [h]; exact ⟨v, k⟩
theorem RUnpPost.some {s : ByteArray} {w w' : World} {v : Value} {es : List Ent} (h : unpackE s = some es) (k : w'.ownsRow w.heap.size 59 2 v es.length (es.flatMap Ent.cells)) : RUnpPost s w (.returned (.tuple #[v, .bool true])) w' := by
  unfold RUnpPost; rw [h]; exact ⟨_, rfl, k⟩

end Go.Proofs.YtmknpehjncpekaaGreatDoor

/- The references' entries: many. -/
namespace Go.Proofs.YtmknpehjncpekaaGreatDoor
open Go.RowKit Go.WideShapes
set_option linter.unusedVariables false
attribute [local go_sem ↓] Go.wp_at_zero Go.wp_at_succ

theorem first_step {es : List Ent} {j : Nat} {e : Ent} (h : es[j]? = some e) : firstErr (es.drop j) = if encK e = 0 then firstErr (es.drop (j + 1)) else encK e := by
  obtain ⟨hl, rfl⟩ := List.getElem?_eq_some_iff.1 h
  rw [List.drop_eq_getElem_cons hl, firstErr]
  by_cases hk : (es[j]).ok
  · rw [if_pos hk, if_pos (encK_zero.2 hk)]
  · rw [if_neg hk, if_neg (fun hh => hk (encK_zero.1 hh))]
    unfold encK; rw [if_neg hk]
theorem first_end {es : List Ent} : firstErr (es.drop es.length) = 0 := by rw [List.drop_length]; rfl

set_option maxRecDepth 100000 in
theorem REntries_any (A : Option Addr) (n c : Nat) (es : List Ent) (w : World) (hr : Rd w 2 A n c (es.flatMap Ent.cells)) (hm : c ≤ maxLen) :
    Calls Tryz.prog 24 #[.slice A n c] w fun e w' => e = .returned (.int .i64 (entsErr es)) ∧ Ext w w' := by
  have hx := hr.lenE
  have hlc := hr.2.1
  by_cases h2 : 200 < n
  · have HF : Hid (entsErr es = 4) := by show _ = _; unfold entsErr; rw [if_pos (by omega)]
    clear hx
    go_enter Tryz.func24, Tryz.ntmps24
    go_wp2_with fail
    go_ret
    exact ⟨ret_int HF.out.symm, by (repeat (with_reducible first | exact Ext.refl _ | assumption | refine Ext.drew ?_ | refine Ext.drewN ?_ _ | refine Ext.alloc ?_ _ | refine Ext.trans ?_ (by with_reducible assumption)))⟩
  · have HX := Lib.hid hx
    have HF : Hid (entsErr es = firstErr es) := by show _ = _; unfold entsErr; rw [if_neg (by omega)]
    clear hx
    go_enter Tryz.func24, Tryz.ntmps24
    go_wp2_with fail
    go_loopw [3] (fun x wr => ∃ j : Nat, x = .int .i64 j ∧ j ≤ n ∧ Ext w wr ∧ Hid (firstErr (es.drop j) = firstErr es)) (fun x _ => n - (intOf x).toNat)
    case atStart => exact ⟨0, rfl, Nat.zero_le _, by (repeat (with_reducible first | exact Ext.refl _ | assumption | refine Ext.drew ?_ | refine Ext.drewN ?_ _ | refine Ext.alloc ?_ _ | refine Ext.trans ?_ (by with_reducible assumption))), rfl⟩
    case round =>
      obtain ⟨j, rfl, hj, hbw, HJ⟩ := hrel
      by_cases hc : j < n
      · have hgj := List.getElem?_eq_getElem (l := es) (i := j) (by rw [HX.out]; exact hc)
        obtain ⟨ad, rfl, hb, c0, c1⟩ := (hr.ext hbw).getE hgj
        have HS := Lib.hid (first_step hgj)
        generalize es[j]'(by rw [HX.out]; exact hc) = e at *
        clear hgj
        obtain ⟨kk, HEK⟩ : ∃ kk, Hid (encK e = kk) := ⟨_, rfl⟩
        go_wp2_with fail
        refine (REntry_any _ _ _).mono ?_
        rw [show encK ⟨e.time, e.data⟩ = kk from HEK.out]
        rintro _ w1 ⟨rfl, hb1⟩
        have HS2 := Lib.hid (HJ.out.symm.trans HS.out)
        rw [HEK.out] at HS2
        by_cases hk : kk = 0
        · have HS3 : Hid (firstErr (es.drop (j + 1)) = firstErr es) := (HS2.out.trans (if_pos hk)).symm
          clear HS HS2 HEK
          subst hk
          go_wp2_with fail
          go_roundw
          case rel => exact ⟨j + 1, by go_num, by omega, by (repeat (with_reducible first | exact Ext.refl _ | assumption | refine Ext.drew ?_ | refine Ext.drewN ?_ _ | refine Ext.alloc ?_ _ | refine Ext.trans ?_ (by with_reducible assumption))), HS3.out⟩
          case measure => simp [intOf]; omega
        · have HS3 : Hid (entsErr es = kk) := (HF.out.trans HS2.out).trans (if_neg hk)
          clear HS HS2 HEK
          go_wp2_with fail
          go_ret
          exact ⟨ret_int HS3.out.symm, by (repeat (with_reducible first | exact Ext.refl _ | assumption | refine Ext.drew ?_ | refine Ext.drewN ?_ _ | refine Ext.alloc ?_ _ | refine Ext.trans ?_ (by with_reducible assumption)))⟩
      · obtain rfl : j = n := by omega
        have HS3 : Hid (entsErr es = 0) := by
          show _ = _
          rw [HF.out, ← HJ.out, ← HX.out, first_end]
        go_wp2_with fail
        go_ret
        exact ⟨ret_int HS3.out.symm, by (repeat (with_reducible first | exact Ext.refl _ | assumption | refine Ext.drew ?_ | refine Ext.drewN ?_ _ | refine Ext.alloc ?_ _ | refine Ext.trans ?_ (by with_reducible assumption)))⟩

set_option maxRecDepth 100000 in
theorem REntryLeafs_ok (A : Option Addr) (n c : Nat) (es : List Ent) (w : World) (hr : Rd w 2 A n c (es.flatMap Ent.cells)) (hm : c ≤ maxLen) (hk : entsOk es) :
    Calls Tryz.prog 22 #[.slice A n c] w fun e w' => (∃ v, e = .returned v ∧ OwnI w w' v (es.map Ent.leaf)) ∧ Ext w w' := by
  have hx := hr.lenE
  have hn : n ≤ 200 := by have := hk.1; omega
  have HX := Lib.hid hx
  have HK := Lib.hid hk.2
  have hl := hr.2.1
  clear hx
  obtain ⟨i0, hi0, hz0, hz1, hz2⟩ := info_parts info_int
  go_enter Tryz.func22, Tryz.ntmps22
  go_wp2_with fail
  go_loopw [3, 4] (fun v x wr => ∃ j : Nat, x = .int .i64 j ∧ j ≤ n ∧ Ext w wr ∧ Hid (OwnI w wr v ((es.take j).map Ent.leaf))) (fun _ x _ => n - (intOf x).toNat)
  case atStart => exact ⟨0, rfl, Nat.zero_le _, by (repeat (with_reducible first | exact Ext.refl _ | assumption | refine Ext.drew ?_ | refine Ext.drewN ?_ _ | refine Ext.alloc ?_ _ | refine Ext.trans ?_ (by with_reducible assumption))), own_nil _ _ _ _⟩
  case round =>
    obtain ⟨j, rfl, hj, hbw, hown⟩ := hrel
    by_cases hc : j < n
    · have hgj := List.getElem?_eq_getElem (l := es) (i := j) (by rw [HX.out]; exact hc)
      have hok := Lib.hid (HK.out _ (List.mem_of_getElem? hgj))
      obtain ⟨ad, rfl, hb, c0, c1⟩ := (hr.ext hbw).getE hgj
      have HT : Hid ((es.take (j + 1)).map Ent.leaf = (es.take j).map Ent.leaf ++ [(es[j]'(by rw [HX.out]; exact hc)).leaf]) := by
        show _ = _
        rw [List.take_succ_eq_append_getElem (by rw [HX.out]; exact hc), List.map_append]; rfl
      have hlen : ((es.take j).map Ent.leaf).length = j := by rw [List.length_map, List.length_take, HX.out, Nat.min_eq_left (by omega)]
      generalize es[j]'(by rw [HX.out]; exact hc) = e at *
      generalize (es.take j).map Ent.leaf = L at *
      have hsz := e.bytes_size
      have hds := hok.out.2.2
      have HLF : Hid (leafL e.bytes.data.toList = e.leaf) := rfl
      have hbw0 := hbw.size
      have hlL : L.length ≤ 4096 := by omega
      clear hgj hlen
      go_wp2_with fail
      refine (RBytes_any _ _ _ hok.out).mono ?_
      rintro _ w1 ⟨rfl, hb1⟩
      go_wp2_with fail
      refine (RLeaf_any e.bytes _ (by omega)).mono ?_
      rintro _ w2 ⟨rfl, hb2⟩
      rw [HLF.out]
      have hs1 := hb1.size
      have hs2 := hb2.size
      go_wp2_with (at_builtin; refine wpl_app (by rfl) _ _ _ (by rfl) w.heap.size 3 i0 _ 1 8 Tryz.underlying38 hi0 hz0 hz1 hz2 rfl (by omega) u3 _ _ (by rfl) ((own_ext hown.out (by (repeat (with_reducible first | exact Ext.refl _ | assumption | refine Ext.drew ?_ | refine Ext.drewN ?_ _ | refine Ext.alloc ?_ _ | refine Ext.trans ?_ (by with_reducible assumption))))).alloc _) w2.heap.size 1 [.int .i64 e.leaf] rfl (by rfl) (news_new w2 _ _ _ rfl) (oneL _) (by omega) (by omega) (by simp at hs1 ⊢; omega) ?_; intro g cap w3 own3 hext3)
      go_roundw
      case rel => exact ⟨j + 1, by go_num, by omega, hext3 _ (Nat.le_refl _) (by (repeat (with_reducible first | exact Ext.refl _ | assumption | refine Ext.drew ?_ | refine Ext.drewN ?_ _ | refine Ext.alloc ?_ _ | refine Ext.trans ?_ (by with_reducible assumption)))), OwnI.mk own3 (by rw [HT.out]; simp) (by rw [HT.out]; simp)⟩
      case measure => simp [intOf]; omega
    · obtain rfl : j = n := by omega
      have HT : Hid (es.take j = es) := by show _ = _; rw [List.take_of_length_le (by rw [HX.out]; exact Nat.le_refl _)]
      rw [HT.out] at hown
      go_wp2_with fail
      go_ret
      exact ⟨⟨_, rfl, hown.out⟩, by (repeat (with_reducible first | exact Ext.refl _ | assumption | refine Ext.drew ?_ | refine Ext.drewN ?_ _ | refine Ext.alloc ?_ _ | refine Ext.trans ?_ (by with_reducible assumption)))⟩

/-! ### the program's, both ways -/
def leafsE (es : List Ent) : List Int := if entsErr es = 0 then es.map Ent.leaf else []
theorem OwnI.none (w w' : World) : OwnI w w' (.slice .none 0 0) [] := own_nil _ _ _ _
theorem Leafs_any (A : Option Addr) (n c : Nat) (es : List Ent) (w : World) (hr : Rd w 2 A n c (es.flatMap Ent.cells)) (hm : c ≤ maxLen) :
    Calls Tryz.prog 55 #[.slice A n c] w fun e w' => (∃ v, e = .returned (.tuple #[v, errR (entsErr es)]) ∧ OwnI w w' v (leafsE es)) ∧ Ext w w' := by
  by_cases h : entsOk es
  · refine (Leafs_ok A n c es w hr hm h).mono fun e w' hh => ⟨?_, hh.2⟩
    obtain ⟨⟨v, he, ho⟩, _⟩ := hh
    refine ⟨v, he.trans ?_, ?_⟩
    · rw [entsErr_ok h]; rfl
    · unfold leafsE; rw [if_pos (entsErr_ok h)]
      exact OwnI.mk ho (by simp) rfl
  · refine (Leafs_bad A n c es w hr hm h).mono fun e w' hh => ⟨?_, hh.2⟩
    refine ⟨.slice none 0 0, hh.1.trans ?_, ?_⟩
    · rw [errR_ne (entsErr_bad h)]
    · unfold leafsE; rw [if_neg (entsErr_bad h)]
      exact OwnI.none _ _

def unpL (s : ByteArray) : List Ent := (unpackE s).getD []
def unpB (s : ByteArray) : Bool := (unpackE s).isSome
def unpK (s : ByteArray) : Int := if unpB s then 0 else 2
theorem unp_some {s : ByteArray} {es : List Ent} (h : unpackE s = some es) : unpL s = es ∧ unpB s = true ∧ unpK s = 0 := by
  have hb : unpB s = true := by unfold unpB; rw [h]; rfl
  exact ⟨by unfold unpL; rw [h]; rfl, hb, by unfold unpK; rw [hb]; rfl⟩
theorem unp_none {s : ByteArray} (h : unpackE s = none) : unpL s = [] ∧ unpB s = false ∧ unpK s = 2 := by
  have hb : unpB s = false := by unfold unpB; rw [h]; rfl
  exact ⟨by unfold unpL; rw [h]; rfl, hb, by unfold unpK; rw [hb]; rfl⟩
theorem unpL_len (s : ByteArray) : (unpL s).length ≤ 200 := by
  cases h : unpackE s with
  | none => rw [(unp_none h).1]; exact Nat.zero_le _
  | some es => rw [(unp_some h).1]; exact (unpackE_some h).2.1
/-- entries of one's own -/
def OwnE (w w' : World) (v : Value) (es : List Ent) : Prop := w'.ownsRow w.heap.size 59 2 v es.length (es.flatMap Ent.cells)
end Go.Proofs.YtmknpehjncpekaaGreatDoor

/- The references' leafs of entries, whatever the entries. -/
namespace Go.Proofs.YtmknpehjncpekaaGreatDoor
open Go.RowKit Go.WideShapes
set_option linter.unusedVariables false
attribute [local go_sem ↓] Go.wp_at_zero Go.wp_at_succ

/-- 'append' of some bytes, as many as may be -/
theorem wpl_appb {P : Program} {w : World} {ops : Array Oper} {rest : List Oper} {o : Oper} {a : Act} {Q : Exit → Act → World → Prop} (hgd : o.guard = none) (s x : Operand) (t : TypeId)
    (ho : o.op = .call { callee := .builtin .append, args := #[s, x], argTypes := #[t, t] })
    (base : Nat) (e : TypeId) (i : TypeInfo) (z : Value) (size bytes : Nat) (ht : P.underlying t = some (.slice e)) (hi : P.info? e = some i) (hz : i.zero = some z)
    (hsize : i.size = size) (hby : i.bytes = bytes) (hzs : z.cells.size = size) (hsz : 0 < size)
    (v : Value) (n : Nat) (xs : List Value) (hs : a.eval s = v) (hown : w.ownsRow base e size v n xs)
    (ad : Addr) (m c : Nat) (news : List Value) (hx : a.eval x = .slice (some ad) m c) (hl : news.length = m * size) (hnews : ∀ j u, news[j]? = some u → w.cell? (ad.add j) = some u) (h1 : ∀ u ∈ news, u.oneCell' = true)
    (h63 : n + m ≤ 140737488355328) (hbytes : bytes ≤ 1) (hbase : base ≤ w.heap.size)
    (h : ∀ v' w', w'.ownsRow base e size v' (n + m) (xs ++ news) → (∀ u, u.heap.size ≤ base → Ext u w → Ext u w') → wpList P ops Q rest (a.put o.dst v') w') : wpList P ops Q (o :: rest) a w :=
  wpList_append_own w hgd s x t ho base e i z size bytes ht hi hz hsize hby hzs hsz v n xs hs hown ad m c news hx hl hnews h1 (by simp only [maxLen]; omega)
    (by have := Nat.mul_le_mul (show n + m ≤ 140737488355328 by omega) hbytes; omega) hbase fun v' w' h2 h3 _ => h v' w' h2 (own_grown hown h3)
set_option maxRecDepth 100000 in
theorem RLeaf_tot (s : ByteArray) (w : World) (hs : s.size ≤ 140737488351300) :
    Calls Tryz.prog 40 #[.string s] w fun e w' => e = .returned (.int .i64 (leafL s.data.toList)) ∧ Ext w w' := by
  have own0 : (w.alloc (.cells #[.int .u8 0] 5)).ownsRow w.heap.size 5 1 (.slice (some ⟨w.heap.size, 0, none⟩) 1 1) 1 (([0] : List Int).map (Value.int .u8)) :=
    World.ownsRow_lit w #[.int .u8 0] 1 (Nat.le_refl _) (by simp [maxLen]) rfl
  have E0 : Ext w (w.alloc (.cells #[.int .u8 0] 5)) := by (repeat (with_reducible first | exact Ext.refl _ | assumption | refine Ext.drew ?_ | refine Ext.drewN ?_ _ | refine Ext.alloc ?_ _ | refine Ext.trans ?_ (by with_reducible assumption)))
  have hz0 : w.heap.size < (w.alloc (.cells #[.int .u8 0] 5)).heap.size := by simp
  obtain ⟨i0, hi0, hz0', hz1, hz2⟩ := info_parts info_u8
  obtain ⟨g, hg⟩ : ∃ g, g = w.heap.size := ⟨_, rfl⟩
  have HB := Lib.hid (leafI_bytes s)
  go_enter Tryz.func40, Tryz.ntmps40
  go_upto_region 2 with (fail)
  rw [← hg] at own0 hz0 ⊢
  generalize w.alloc (.cells #[.int .u8 0] 5) = w1 at *
  have hconv := run_bytes_of_string (P := Tryz.prog) w1 9 105 5 s Tryz.underlying9 Tryz.underlying105 Tryz.underlying5
  have hcells := conv_cells w1.drew s (grownCap w1 s.size 0 5) 5 ((bytesRow s (grownCap w1 s.size 0 5)).size, (bytesRow s (grownCap w1 s.size 0 5)).size + 1) w1.heap.size rfl
  have E1 : Ext w (w1.drew.alloc (.cells (bytesRow s (grownCap w1 s.size 0 5)) 5 ((bytesRow s (grownCap w1 s.size 0 5)).size, (bytesRow s (grownCap w1 s.size 0 5)).size + 1))) := by (repeat (with_reducible first | exact Ext.refl _ | assumption | refine Ext.drew ?_ | refine Ext.drewN ?_ _ | refine Ext.alloc ?_ _ | refine Ext.trans ?_ (by with_reducible assumption)))
  have own1 : (w1.drew.alloc (.cells (bytesRow s (grownCap w1 s.size 0 5)) 5 ((bytesRow s (grownCap w1 s.size 0 5)).size, (bytesRow s (grownCap w1 s.size 0 5)).size + 1))).ownsRow g 5 1 (.slice (some ⟨g, 0, none⟩) 1 1) 1 (([0] : List Int).map (Value.int .u8)) := (World.ownsRow.drew own0).alloc _
  generalize w1.drew.alloc (.cells (bytesRow s (grownCap w1 s.size 0 5)) 5 ((bytesRow s (grownCap w1 s.size 0 5)).size, (bytesRow s (grownCap w1 s.size 0 5)).size + 1)) = w2 at *
  generalize grownCap w1 s.size 0 5 = cp at *
  have hs2 := E1.size
  have HC := Lib.hid hcells
  clear hcells
  go_wp2_with (at_builtin; refine wpl_appb (by rfl) _ _ _ (by rfl) g 5 i0 _ 1 1 Tryz.underlying105 hi0 hz0' hz1 hz2 rfl (by omega) (.slice (some ⟨g, 0, none⟩) 1 1) 1 _ (by rfl) own1 ⟨w1.heap.size, 0, none⟩ s.size cp (newsS s) (by rfl) (newsS_len s) HC.out (newsS_one s) (by omega) (by omega) (by omega) ?_; intro v3 w3 own3 hx3; have E3 := hx3 w (by omega) E1; obtain ⟨ad3, c3, rfl, hcv3⟩ := str_of_own own3 (by omega) (leaf_cells s) (leafI_bytes s))
  have hl3 : (0 :: s.data.toList).length = 1 + s.size := by rw [List.length_cons, Nat.add_comm]; rfl
  have HL : Hid (sumL (⟨(0 :: s.data.toList).toArray⟩ : ByteArray).data.toList = leafL s.data.toList) := rfl
  have hz : (⟨(0 :: s.data.toList).toArray⟩ : ByteArray).size ≤ 140737488351301 := by rw [size_mk, hl3]; omega
  generalize (⟨(0 :: s.data.toList).toArray⟩ : ByteArray) = y at *
  go_wp2_with fail
  refine (RSum_any _ _ (by simp only [maxLen]; omega)).mono ?_
  rintro e w4 ⟨rfl, rfl⟩
  rw [HL.out]
  go_wp2_with fail
  go_ret
  exact ⟨rfl, E3⟩

set_option maxRecDepth 100000 in
set_option maxHeartbeats 1000000 in
theorem RBytes_tot (t : Int) (s : ByteArray) (w : World) (hs : s.size ≤ 140737488351232) :
    Calls Tryz.prog 41 #[.agg #[.int .i64 t, .string s]] w fun e w' => (∃ y : ByteArray, e = .returned (.string y) ∧ y.size = 4 + s.size) ∧ Ext w w' := by
  obtain ⟨a, HA⟩ : ∃ a, Hid (wrap64 (t.tdiv 65536) % 256 = a) := ⟨_, rfl⟩
  obtain ⟨b, HB⟩ : ∃ a, Hid ((wrap64 (t.tdiv 256)).tmod 256 % 256 = a) := ⟨_, rfl⟩
  obtain ⟨c, HC⟩ : ∃ a, Hid (t.tmod 256 % 256 = a) := ⟨_, rfl⟩
  obtain ⟨d, HD⟩ : ∃ a, Hid ((s.size : Int) % 256 = a) := ⟨_, rfl⟩
  obtain ⟨LL, hLL⟩ : ∃ L : List UInt8, (([a, b, c, d] : List Int) ++ s.data.toList.map fun (b : UInt8) => (b.toNat : Int)).map byteOf = L := ⟨_, rfl⟩
  have HLL := Lib.hid hLL
  clear hLL
  obtain ⟨i0, hi0, hz0', hz1, hz2⟩ := info_parts info_u8
  obtain ⟨g, hg⟩ : ∃ g, g = w.heap.size + 1 := ⟨_, rfl⟩
  go_enter Tryz.func41, Tryz.ntmps41
  go_upto_region 2 with (fail)
  rw [HA.out, HB.out, HC.out, HD.out]
  have B0 : Bk (w.alloc (.cells #[.int .i64 t, .string s] 59)) w.heap.size 59 #[.int .i64 t, .string s] := Bk.at_ _ _ _ _ rfl
  have X0 : Ext w (w.alloc (.cells #[.int .i64 t, .string s] 59)) := by (repeat (with_reducible first | exact Ext.refl _ | assumption | refine Ext.drew ?_ | refine Ext.drewN ?_ _ | refine Ext.alloc ?_ _ | refine Ext.trans ?_ (by with_reducible assumption)))
  have hsz : (w.alloc (.cells #[.int .i64 t, .string s] 59)).heap.size = w.heap.size + 1 := by simp
  rw [← hg] at hsz ⊢
  generalize w.alloc (.cells #[.int .i64 t, .string s] 59) = w0 at *
  have own0 : (w0.alloc (.cells #[.int .u8 a, .int .u8 b, .int .u8 c, .int .u8 d] 5)).ownsRow w0.heap.size 5 1 (.slice (some ⟨w0.heap.size, 0, none⟩) 4 4) 4 (([a, b, c, d] : List Int).map (Value.int .u8)) :=
    World.ownsRow_lit w0 #[.int .u8 a, .int .u8 b, .int .u8 c, .int .u8 d] 4 (by simp) (by simp [maxLen]) rfl
  rw [hsz] at own0
  have B1 := B0.alloc (.cells #[.int .u8 a, .int .u8 b, .int .u8 c, .int .u8 d] 5)
  have E0 : Ext w (w0.alloc (.cells #[.int .u8 a, .int .u8 b, .int .u8 c, .int .u8 d] 5)) := by (repeat (with_reducible first | exact Ext.refl _ | assumption | refine Ext.drew ?_ | refine Ext.drewN ?_ _ | refine Ext.alloc ?_ _ | refine Ext.trans ?_ (by with_reducible assumption)))
  have hz0 : g < (w0.alloc (.cells #[.int .u8 a, .int .u8 b, .int .u8 c, .int .u8 d] 5)).heap.size := by simp [hsz]
  generalize w0.alloc (.cells #[.int .u8 a, .int .u8 b, .int .u8 c, .int .u8 d] 5) = w1 at *
  have hconv := run_bytes_of_string (P := Tryz.prog) w1 9 105 5 s Tryz.underlying9 Tryz.underlying105 Tryz.underlying5
  have hcells := conv_cells w1.drew s (grownCap w1 s.size 0 5) 5 ((bytesRow s (grownCap w1 s.size 0 5)).size, (bytesRow s (grownCap w1 s.size 0 5)).size + 1) w1.heap.size rfl
  have E1 : Ext w (w1.drew.alloc (.cells (bytesRow s (grownCap w1 s.size 0 5)) 5 ((bytesRow s (grownCap w1 s.size 0 5)).size, (bytesRow s (grownCap w1 s.size 0 5)).size + 1))) := by (repeat (with_reducible first | exact Ext.refl _ | assumption | refine Ext.drew ?_ | refine Ext.drewN ?_ _ | refine Ext.alloc ?_ _ | refine Ext.trans ?_ (by with_reducible assumption)))
  have E12 : Ext w1 (w1.drew.alloc (.cells (bytesRow s (grownCap w1 s.size 0 5)) 5 ((bytesRow s (grownCap w1 s.size 0 5)).size, (bytesRow s (grownCap w1 s.size 0 5)).size + 1))) := by (repeat (with_reducible first | exact Ext.refl _ | assumption | refine Ext.drew ?_ | refine Ext.drewN ?_ _ | refine Ext.alloc ?_ _ | refine Ext.trans ?_ (by with_reducible assumption)))
  have own1 : (w1.drew.alloc (.cells (bytesRow s (grownCap w1 s.size 0 5)) 5 ((bytesRow s (grownCap w1 s.size 0 5)).size, (bytesRow s (grownCap w1 s.size 0 5)).size + 1))).ownsRow g 5 1 (.slice (some ⟨g, 0, none⟩) 4 4) 4 (([a, b, c, d] : List Int).map (Value.int .u8)) := (World.ownsRow.drew own0).alloc _
  generalize w1.drew.alloc (.cells (bytesRow s (grownCap w1 s.size 0 5)) 5 ((bytesRow s (grownCap w1 s.size 0 5)).size, (bytesRow s (grownCap w1 s.size 0 5)).size + 1)) = w2 at *
  generalize grownCap w1 s.size 0 5 = cp at *
  have hs2 := E12.size
  have b0 := B1.cell 0
  have b1 := B1.cell 1
  have HC2 := Lib.hid hcells
  have hw1 : w.heap.size + 1 ≤ w1.heap.size := by omega
  clear hcells
  go_wp2_with (at_builtin; refine wpl_appb (by rfl) _ _ _ (by rfl) g 5 i0 _ 1 1 Tryz.underlying105 hi0 hz0' hz1 hz2 rfl (by omega) (.slice (some ⟨g, 0, none⟩) 4 4) 4 _ (by rfl) own1 ⟨w1.heap.size, 0, none⟩ s.size cp (newsS s) (by rfl) (newsS_len s) HC2.out (newsS_one s) (by omega) (by omega) (by omega) ?_; intro v3 w3 own3 hx3; have E3 := hx3 w (by omega) E1; obtain ⟨ad3, c3, rfl, hcv3⟩ := str_of_own own3 (by omega) (bytes_cells s a b c d) HLL.out)
  have HSZ : Hid ((⟨LL.toArray⟩ : ByteArray).size = 4 + s.size) := Lib.hid (by
    rw [size_mk, ← HLL.out]
    simp only [List.length_map, List.length_append, List.length_cons, List.length_nil]
    rfl)
  generalize (⟨LL.toArray⟩ : ByteArray) = y at *
  go_wp2_with fail
  go_ret
  exact ⟨⟨y, rfl, HSZ.out⟩, E3⟩

theorem vld_leafL (l : List UInt8) : vld (leafL l) = true := by
  have h := allV_sumsD [⟨l.toArray⟩]
  have e : sumsD [(⟨l.toArray⟩ : ByteArray)] = [leafL l] := by unfold sumsD; simp only [List.map_cons, List.map_nil]
  rw [e] at h
  exact allV_get h (j := 0) rfl
set_option maxRecDepth 100000 in
set_option maxHeartbeats 1000000 in
theorem REntryLeafs_tot (A : Option Addr) (n c : Nat) (es : List Ent) (w : World) (hr : Rd w 2 A n c (es.flatMap Ent.cells)) (hm : c ≤ maxLen) (hn : n ≤ 200) (hz : ∀ e ∈ es, e.data.size ≤ 140737488351232) :
    Calls Tryz.prog 22 #[.slice A n c] w fun e w' => (∃ v L, e = .returned v ∧ OwnI w w' v L ∧ L.length = n ∧ allV L = true) ∧ Ext w w' := by
  have hx := hr.lenE
  have HX := Lib.hid hx
  have HK := Lib.hid hz
  have hl := hr.2.1
  clear hx hz
  obtain ⟨i0, hi0, hz0, hz1, hz2⟩ := info_parts info_int
  go_enter Tryz.func22, Tryz.ntmps22
  go_wp2_with fail
  go_loopw [3, 4] (fun v x wr => ∃ (j : Nat) (L : List Int), x = .int .i64 j ∧ j ≤ n ∧ Ext w wr ∧ Hid (OwnI w wr v L) ∧ Hid (L.length = j) ∧ Hid (allV L = true)) (fun _ x _ => n - (intOf x).toNat)
  case atStart => exact ⟨0, [], rfl, Nat.zero_le _, by (repeat (with_reducible first | exact Ext.refl _ | assumption | refine Ext.drew ?_ | refine Ext.drewN ?_ _ | refine Ext.alloc ?_ _ | refine Ext.trans ?_ (by with_reducible assumption))), own_nil _ _ _ _, Lib.hid rfl, Lib.hid rfl⟩
  case round =>
    obtain ⟨j, L, rfl, hj, hbw, hown, HLN, HVL⟩ := hrel
    by_cases hc : j < n
    · have hgj := List.getElem?_eq_getElem (l := es) (i := j) (by rw [HX.out]; exact hc)
      have hok := Lib.hid (HK.out _ (List.mem_of_getElem? hgj))
      obtain ⟨ad, rfl, hb, c0, c1⟩ := (hr.ext hbw).getE hgj
      generalize es[j]'(by rw [HX.out]; exact hc) = e at *
      have hbw0 := hbw.size
      have hlL : L.length ≤ 4096 := by rw [HLN.out]; omega
      clear hgj
      go_wp2_with fail
      refine (RBytes_tot _ _ _ hok.out).mono ?_
      rintro _ w1 ⟨⟨y, rfl, hy⟩, hb1⟩
      have HY := Lib.hid hy
      clear hy
      go_wp2_with fail
      refine (RLeaf_tot y _ (by have := HY.out; have := hok.out; omega)).mono ?_
      rintro _ w2 ⟨rfl, hb2⟩
      have HVZ := Lib.hid (vld_leafL y.data.toList)
      generalize leafL y.data.toList = z at *
      have hs1 := hb1.size
      have hs2 := hb2.size
      go_wp2_with (at_builtin; refine wpl_app (by rfl) _ _ _ (by rfl) w.heap.size 3 i0 _ 1 8 Tryz.underlying38 hi0 hz0 hz1 hz2 rfl (by omega) u3 _ _ (by rfl) ((own_ext hown.out (by (repeat (with_reducible first | exact Ext.refl _ | assumption | refine Ext.drew ?_ | refine Ext.drewN ?_ _ | refine Ext.alloc ?_ _ | refine Ext.trans ?_ (by with_reducible assumption))))).alloc _) w2.heap.size 1 [.int .i64 z] rfl (by rfl) (news_new w2 _ _ _ rfl) (oneL _) (by omega) (by omega) (by simp at hs1 ⊢; omega) ?_; intro g cap w3 own3 hext3)
      go_roundw
      case rel => exact ⟨j + 1, L ++ [z], by go_num, by omega, hext3 _ (Nat.le_refl _) (by (repeat (with_reducible first | exact Ext.refl _ | assumption | refine Ext.drew ?_ | refine Ext.drewN ?_ _ | refine Ext.alloc ?_ _ | refine Ext.trans ?_ (by with_reducible assumption)))), OwnI.mk own3 (by simp) (by simp), Lib.hid (by rw [List.length_append, HLN.out]; rfl), Lib.hid (by rw [allV_append, HVL.out]; show (true && List.all [z] vld) = true; simp [HVZ.out])⟩
      case measure => simp [intOf]; omega
    · obtain rfl : j = n := by omega
      go_wp2_with fail
      go_ret
      exact ⟨⟨_, L, rfl, hown.out, HLN.out, HVL.out⟩, by (repeat (with_reducible first | exact Ext.refl _ | assumption | refine Ext.drew ?_ | refine Ext.drewN ?_ _ | refine Ext.alloc ?_ _ | refine Ext.trans ?_ (by with_reducible assumption)))⟩
end Go.Proofs.YtmknpehjncpekaaGreatDoor
