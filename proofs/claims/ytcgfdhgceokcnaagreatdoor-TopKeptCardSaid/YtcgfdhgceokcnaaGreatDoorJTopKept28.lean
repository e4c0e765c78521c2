/- Contracts for every input: roots, parts of a tree. -/
import Derived.Test.YtcgfdhgceokcnaaGreatDoorJTopKept25
import Derived.Test.YtcgfdhgceokcnaaGreatDoorJTopKept6
import Derived.Test.YtcgfdhgceokcnaaGreatDoorJTopKept15
import Derived.Test.YtcgfdhgceokcnaaGreatDoorJTopKept24
import Derived.Test.YtcgfdhgceokcnaaGreatDoorJTopKept26
import Derived.Test.YtcgfdhgceokcnaaGreatDoorJTopKept27
import Derived.Test.YtcgfdhgceokcnaaGreatDoorJTopKept14
import Derived.BigQuiet
import Derived.Laws.StructEq
import Derived.Deep.DeepCutAuto
import Derived.Deep.CutRange
namespace Go.Proofs.YtcgfdhgceokcnaaGreatDoor
open Go.RowKit Go.WideShapes
set_option linter.unusedVariables false

def rootV (xs : List Int) : Int := if leafsK xs = 0 then ofL xs else 0
theorem Root_any (A : Option Addr) (n c : Nat) (xs : List Int) (w : World) (hr : Rd w 1 A n c (xs.map (Value.int .i64))) (hm : c ≤ maxLen) :
    Calls Tryz.prog 27 #[.slice A n c] w fun e w' => e = .returned (.tuple #[.int .i64 (rootV xs), errR (leafsK xs)]) ∧ Ext w w' := by
  by_cases hk : leafsOk xs
  · refine (Root_ok A n c xs w hr hm hk).mono fun e w' hh => ⟨hh.1.trans ?_, hh.2⟩
    unfold rootV; rw [if_pos (leafsK_ok hk), leafsK_ok hk]; rfl
  · refine (Root_bad A n c xs w hr hm hk).mono fun e w' hh => ⟨hh.1.trans ?_, hh.2⟩
    unfold rootV; rw [if_neg (leafsK_bad hk), errR_ne (leafsK_bad hk), leafsK_err hk]
def atK (xs : List Int) (i j : Int) : Int := if leafsK xs ≠ 0 then leafsK xs else if 0 ≤ i ∧ i ≤ j ∧ j ≤ xs.length then 0 else 1
def atV (xs : List Int) (i j : Int) : Int := if atK xs i j = 0 then ofL ((xs.take j.toNat).drop i.toNat) else 0
theorem atK_ok {xs : List Int} {i j : Int} (h : leafsOk xs) (h2 : 0 ≤ i ∧ i ≤ j ∧ j ≤ xs.length) : atK xs i j = 0 := by unfold atK; rw [leafsK_ok h, if_neg (by decide), if_pos h2]
theorem atK_range {xs : List Int} {i j : Int} (h : leafsOk xs) (h2 : ¬ (0 ≤ i ∧ i ≤ j ∧ j ≤ xs.length)) : atK xs i j = 1 := by unfold atK; rw [leafsK_ok h, if_neg (by decide), if_neg h2]
theorem atK_bad {xs : List Int} {i j : Int} (h : leafsK xs ≠ 0) : atK xs i j = leafsK xs := by unfold atK; rw [if_pos h]
theorem At_any (A : Option Addr) (n c : Nat) (xs : List Int) (i j : Int) (w : World) (hr : Rd w 1 A n c (xs.map (Value.int .i64))) (hm : c ≤ maxLen) :
    Calls Tryz.prog 53 #[.slice A n c, .int .i64 i, .int .i64 j] w fun e w' => e = .returned (.tuple #[.int .i64 (atV xs i j), errR (atK xs i j)]) ∧ Ext w w' := by
  have hx := hr.lenI
  by_cases hk : leafsOk xs
  · by_cases h : 0 ≤ i ∧ i ≤ j ∧ j ≤ xs.length
    · refine (At_ok A n c xs i j w hr hm hk h.1 h.2.1 (by omega)).mono fun e w' hh => ⟨hh.1.trans ?_, hh.2⟩
      unfold atV; rw [if_pos (atK_ok hk h), atK_ok hk h]; rfl
    · refine (At_range A n c xs i j w hr hm hk (by rw [← hx]; exact h)).mono fun e w' hh => ⟨hh.1.trans ?_, hh.2⟩
      unfold atV; rw [if_neg (by rw [atK_range hk h]; decide), atK_range hk h]; rfl
  · refine (At_bad A n c xs i j w hr hm hk).mono fun e w' hh => ⟨hh.1.trans ?_, hh.2⟩
    unfold atV; rw [if_neg (by rw [atK_bad (leafsK_bad hk)]; exact leafsK_bad hk), atK_bad (leafsK_bad hk), errR_ne (leafsK_bad hk), leafsK_err hk]
def splitK (n : Int) : Int := if 2 ≤ n ∧ n ≤ 200 then 0 else 1
def splitV (n : Int) : Int := if 2 ≤ n ∧ n ≤ 200 then (half n.toNat : Nat) else 0
end Go.Proofs.YtcgfdhgceokcnaaGreatDoor

/- the names of two letters, plain; and lists of pairs of such names. -/
namespace Go.Proofs.YtcgfdhgceokcnaaGreatDoor
open Go.RowKit
set_option linter.unusedVariables false

def abcB : ByteArray := ⟨#[97, 98, 99, 100, 101, 102, 103, 104, 105, 106, 107, 108, 109, 110, 111, 112, 113, 114, 115, 116, 117, 118, 119, 120, 121, 122]⟩
def lett (n : Nat) : ByteArray := abcB.extract (n / 26 % 26) (n / 26 % 26 + 1) ++ abcB.extract (n % 26) (n % 26 + 1)
def lettL (n : Nat) : List UInt8 := [UInt8.ofNat (97 + n / 26 % 26), UInt8.ofNat (97 + n % 26)]
theorem abc_one : ∀ i, i < 26 → (abcB.extract i (i + 1)).data.toList = [UInt8.ofNat (97 + i)] := by decide
theorem lett_list (n : Nat) : (lett n).data.toList = lettL n := by
  unfold lett
  have h1 := abc_one (n / 26 % 26) (by omega)
  have h2 := abc_one (n % 26) (by omega)
  show (_ ++ _ : ByteArray).data.toList = _
  rw [toList_cat, h1, h2]
  rfl
theorem lett_size (n : Nat) : (lett n).size = 2 := by
  have h : (lett n).data.toList.length = 2 := by rw [lett_list]; rfl
  exact h
theorem lett_step : ∀ i, i < 100 → Op.bytesLess (lettL i) (lettL (i + 1)) = true := by decide
theorem lett_lt {i j : Nat} (hij : i < j) (hj : j ≤ 100) : kLt (lett i) (lett j) = true := by
  obtain ⟨d, rfl⟩ : ∃ d, j = i + d + 1 := ⟨j - i - 1, by omega⟩
  clear hij
  induction d with
  | zero => unfold kLt; rw [lett_list, lett_list]; exact lett_step i (by omega)
  | succ d ih =>
    refine kLt_trans (ih (by omega)) ?_
    unfold kLt
    rw [lett_list, lett_list]
    exact lett_step (i + d + 1) (by omega)
theorem lett_zzz : ∀ i, i < 100 → Op.bytesLess (lettL i) [122, 122, 122] = true := by decide
def lettP (v : ByteArray) (k : Nat) : List Pr := (List.range k).map fun i => ⟨lett i, v, false⟩
theorem lettP_len (v : ByteArray) (k : Nat) : (lettP v k).length = k := by simp [lettP]
theorem lettP_get (v : ByteArray) {k i : Nat} (h : i < k) : (lettP v k)[i]? = some ⟨lett i, v, false⟩ := by
  unfold lettP
  rw [List.getElem?_map, List.getElem?_range h]
  rfl
theorem lettP_some {v : ByteArray} {k i : Nat} {p : Pr} (h : (lettP v k)[i]? = some p) : i < k ∧ p = ⟨lett i, v, false⟩ := by
  have hi := (List.getElem?_eq_some_iff.1 h).1
  rw [lettP_len] at hi
  rw [lettP_get v hi] at h
  injection h with h
  exact ⟨hi, h.symm⟩
theorem lettP_asc (v : ByteArray) {k : Nat} (h : k ≤ 100) : Asc (lettP v k) := fun i j p q hp hq hij => by
  obtain ⟨h1, rfl⟩ := lettP_some hp
  obtain ⟨h2, rfl⟩ := lettP_some hq
  exact lett_lt hij (by omega)
theorem lettP_ok {v : ByteArray} (hv : v.size ≤ 200) (k : Nat) : ∀ p ∈ lettP v k, PrOk p := fun p hp => by
  obtain ⟨i, hi⟩ := List.getElem?_of_mem hp
  obtain ⟨_, rfl⟩ := lettP_some hi
  exact ⟨keyK_ok (by rw [lett_size]; omega) (by rw [lett_size]; omega), hv, fun h => by cases h⟩
theorem lettP_snoc (v : ByteArray) (k : Nat) : lettP v (k + 1) = lettP v k ++ [⟨lett k, v, false⟩] := by
  unfold lettP
  rw [List.range_succ, List.map_append]
  rfl
theorem lettP_low (v : ByteArray) {k : Nat} {key : ByteArray} (h : ∀ i, i < k → kLt (lett i) key = true) : lowN (lettP v k) key = k ∧ hasB (lettP v k) key = false := by
  have h1 : lowN (lettP v k) key = k := lowN_border (by rw [lettP_len]; exact Nat.le_refl _) (fun t p ht hp => by
    obtain ⟨h2, rfl⟩ := lettP_some hp
    exact h t h2) (fun t p ht hp => by
    obtain ⟨h2, _⟩ := lettP_some hp
    omega)
  refine ⟨h1, ?_⟩
  unfold hasB
  rw [h1, List.getElem?_eq_none (by rw [lettP_len]; exact Nat.le_refl _)]
theorem lettP_has (v : ByteArray) {k i : Nat} (hk : k ≤ 100) (hi : i < k) : lowN (lettP v k) (lett i) = i ∧ hasB (lettP v k) (lett i) = true :=
  ⟨low_eq (lettP_asc v hk) (lettP_get v hi) rfl, has_of (lettP_asc v hk) (lettP_get v hi) rfl⟩
theorem lettP_put (v : ByteArray) {k : Nat} (hk : k ≤ 99) : putL (lettP v k) ⟨lett k, v, false⟩ = lettP v (k + 1) := by
  obtain ⟨h1, h2⟩ := lettP_low v (k := k) (key := lett k) fun i hi => lett_lt hi (by omega)
  unfold putL
  rw [if_neg (by rw [show (⟨lett k, v, false⟩ : Pr).key = lett k from rfl, h2]; decide), show (⟨lett k, v, false⟩ : Pr).key = lett k from rfl, h1, lettP_snoc]
  unfold insL
  rw [List.take_of_length_le (by rw [lettP_len]; exact Nat.le_refl _), List.drop_of_length_le (by rw [lettP_len]; exact Nat.le_refl _)]
end Go.Proofs.YtcgfdhgceokcnaaGreatDoor

namespace Go.Proofs.YtcgfdhgceokcnaaGreatDoor.topKept
open Go.RowKit Go.WideShapes
set_option linter.unusedVariables false
attribute [local go_sem ↓] Go.wp_at_zero Go.wp_at_succ

/-! ### plain: entries by number -/
def kp (es : List Ent) (i : Nat) : Pr := ⟨lett i, (es[i]?.getD ⟨0, ⟨#[]⟩⟩).bytes, false⟩
def kps (es : List Ent) (j : Nat) : List Pr := (List.range j).map (kp es)
def kbs (es : List Ent) (j : Nat) : List (List Pr) := (List.range j).map fun i => [kp es i]
theorem kp_get {es : List Ent} {i : Nat} {e : Ent} (h : es[i]? = some e) : kp es i = ⟨lett i, e.bytes, false⟩ := by unfold kp; rw [h]; rfl
theorem kps_len (es : List Ent) (j : Nat) : (kps es j).length = j := by simp [kps]
theorem kbs_len (es : List Ent) (j : Nat) : (kbs es j).length = j := by simp [kbs]
theorem kps_get (es : List Ent) {j i : Nat} (h : i < j) : (kps es j)[i]? = some (kp es i) := by
  unfold kps
  rw [List.getElem?_map, List.getElem?_range h]
  rfl
theorem kps_some {es : List Ent} {j i : Nat} {p : Pr} (h : (kps es j)[i]? = some p) : i < j ∧ p = kp es i := by
  have hi := (List.getElem?_eq_some_iff.1 h).1
  rw [kps_len] at hi
  rw [kps_get es hi] at h
  injection h with h
  exact ⟨hi, h.symm⟩
theorem kps_asc (es : List Ent) {j : Nat} (h : j ≤ 100) : Asc (kps es j) := fun a b p q hp hq hab => by
  obtain ⟨h1, rfl⟩ := kps_some hp
  obtain ⟨h2, rfl⟩ := kps_some hq
  exact lett_lt hab (by omega)
theorem kps_gone (es : List Ent) (j : Nat) : ∀ p ∈ kps es j, p.gone = false := fun p hp => by
  obtain ⟨i, hi⟩ := List.getElem?_of_mem hp
  obtain ⟨_, rfl⟩ := kps_some hi
  rfl
theorem kps_snoc (es : List Ent) (j : Nat) : kps es (j + 1) = kps es j ++ [kp es j] := by
  unfold kps
  rw [List.range_succ, List.map_append]
  rfl
theorem kbs_snoc (es : List Ent) (j : Nat) : kbs es (j + 1) = kbs es j ++ [[kp es j]] := by
  unfold kbs
  rw [List.range_succ, List.map_append]
  rfl
theorem kbs_take (es : List Ent) {i j : Nat} (h : i ≤ j) : (kbs es j).take i = kbs es i := by
  unfold kbs
  rw [← List.map_take, List.take_range, Nat.min_eq_left h]
theorem kbs_flat (es : List Ent) (j : Nat) : (kbs es j).flatten.length = j := by
  induction j with
  | zero => rfl
  | succ j ih => rw [kbs_snoc, List.flatten_append, List.length_append, ih]; rfl
theorem kps_put (es : List Ent) {k : Nat} (hk : k ≤ 99) : putL (kps es k) (kp es k) = kps es (k + 1) := by
  have h1 : lowN (kps es k) (lett k) = k := lowN_border (by rw [kps_len]; exact Nat.le_refl _) (fun t p ht hp => by
    obtain ⟨h2, rfl⟩ := kps_some hp
    exact lett_lt ht (by omega)) (fun t p ht hp => by
    obtain ⟨h2, _⟩ := kps_some hp
    omega)
  have h2 : hasB (kps es k) (lett k) = false := by
    unfold hasB
    rw [h1, List.getElem?_eq_none (by rw [kps_len]; exact Nat.le_refl _)]
  unfold putL
  rw [if_neg (by rw [show (kp es k).key = lett k from rfl, h2]; decide), show (kp es k).key = lett k from rfl, h1, kps_snoc]
  unfold insL
  rw [List.take_of_length_le (by rw [kps_len]; exact Nat.le_refl _), List.drop_of_length_le (by rw [kps_len]; exact Nat.le_refl _)]
theorem kp_key (es : List Ent) (i : Nat) : keyK (kp es i).key = 0 := keyK_ok (by show 0 < (lett i).size; rw [lett_size]; omega) (by show (lett i).size ≤ 200; rw [lett_size]; omega)
theorem kp_do (es : List Ent) (bs : List (List Pr)) {i : Nat} (hv : (kp es i).value.size ≤ 200) : doK 9 (stZ 9 bs).1 (stZ 9 bs).2 [kp es i] = 0 := by
  rw [doK_one _ _ _ _ rfl, put_freeZ (by have := stZ_young (lim := 9) (by decide) bs; omega) (kp_key es i) hv]
theorem kbs_see (es : List Ent) : ∀ j, j ≤ 99 → (∀ i, i < j → (kp es i).value.size ≤ 200) → ∀ key, seeL (stZ 9 (kbs es j)).1 (stZ 9 (kbs es j)).2 key = vis (getE (kps es j) key)
  | 0, _, _, key => rfl
  | j + 1, hj, hv, key => by
    have ih := kbs_see es j (by omega) fun i hi => hv i (by omega)
    have hp : putK (stZ 9 (kbs es j)).1 (kp es j) = 0 := put_freeZ (by have := stZ_young (lim := 9) (by decide) (kbs es j); omega) (kp_key es j) (hv j (by omega))
    have hst : stZ 9 (kbs es (j + 1)) = (doY 9 (stZ 9 (kbs es j)).1 (kp es j), doT 9 (stZ 9 (kbs es j)).1 (stZ 9 (kbs es j)).2 (kp es j)) := by
      rw [kbs_snoc, stZ_snoc]
      unfold doZ
      rw [if_pos (kp_do es (kbs es j) (hv j (by omega)))]
      exact if_pos hp
    rw [hst, see_do (stZ_ok 9 _) (fun e => by cases e) hp, ← kps_put es (by omega), get_put (kps_asc es (by omega)), ih]
    split <;> rfl
theorem kbs_live (es : List Ent) {j : Nat} (hj : j ≤ 99) (hv : ∀ i, i < j → (kp es i).value.size ≤ 200) : liveL ((stZ 9 (kbs es j)).1 :: (stZ 9 (kbs es j)).2) = kps es j :=
  live_ext (live_asc _) (kps_asc es (by omega)) live_gone (kps_gone es j) fun key => by rw [live_see (stZ_ok 9 _), kbs_see es j hj hv]
/-- so many were put -/
structure KpI (es : List Ent) (sync : Int) (j : Nat) (z : WS) : Prop where
  bs : z.bs = kbs es j
  t : z.t = []
  left : z.left = -1
  stop : z.stop = false
  val : ∀ i, i < j → (kp es i).value.size ≤ 200
  safe : ∀ s : Nat, (s : Int) = sync → s < j → z.safe = (recsL (kbs es (s + 1))).length
theorem KpI.few {es : List Ent} {sync : Int} {j : Nat} {z : WS} (h : KpI es sync j z) (hj : j ≤ 60) : z.few := ⟨by rw [h.bs, kbs_len]; omega, by rw [h.bs, kbs_flat]; omega⟩
theorem KpI.put {es : List Ent} {sync : Int} {j : Nat} {z : WS} (h : KpI es sync j z) (hv : (kp es j).value.size ≤ 200) : ∃ z', z.put 9 [kp es j] = (0, z') ∧ z'.bs = kbs es (j + 1) ∧ z'.t = [] ∧ z'.left = -1 ∧ z'.stop = false ∧ (∀ i, i < j + 1 → (kp es i).value.size ≤ 200) ∧ z'.safe = z.safe := by
  refine ⟨_, WS.put_ok h.stop (kp_do es z.bs hv) (by rw [h.left]; decide), ?_, h.t, by show max (-1) (z.left - 1) = -1; rw [h.left]; decide, rfl, fun i hi => ?_, rfl⟩
  · show z.bs ++ [[kp es j]] = _
    rw [h.bs, kbs_snoc]
  · rcases Nat.lt_or_ge i j with h1 | h1
    · exact h.val i h1
    · obtain rfl : i = j := by omega
      exact hv
theorem KpI.next {es : List Ent} {sync : Int} {j : Nat} {z : WS} (h : KpI es sync j z) (hv : (kp es j).value.size ≤ 200) (hs : (j : Int) ≠ sync) : ∃ z', z.put 9 [kp es j] = (0, z') ∧ KpI es sync (j + 1) z' := by
  obtain ⟨z', h1, h2, h3, h4, h5, h6, h7⟩ := h.put hv
  refine ⟨z', h1, h2, h3, h4, h5, h6, fun s e hsj => ?_⟩
  rw [h7]
  exact h.safe s e (by omega)
theorem KpI.sync {es : List Ent} {sync : Int} {j : Nat} {z : WS} (h : KpI es sync j z) (hv : (kp es j).value.size ≤ 200) (hs : (j : Int) = sync) : ∃ z' z'', z.put 9 [kp es j] = (0, z') ∧ z'.sync = (0, z'') ∧ KpI es sync (j + 1) z'' := by
  obtain ⟨z', h1, h2, h3, h4, h5, h6, h7⟩ := h.put hv
  refine ⟨z', _, h1, WS.sync_ok h5 (by rw [h4]; decide), h2, h3, by show max (-1) (z'.left - 1) = -1; rw [h4]; decide, rfl, h6, fun s e hsj => ?_⟩
  obtain rfl : s = j := by omega
  show z'.bytes.length = _
  unfold WS.bytes
  rw [h2, h3, List.append_nil]
/-- behind the crash -/
theorem KpI.crash {es : List Ent} {sync : Int} {n : Nat} {z : WS} (h : KpI es sync n z) (keep : Int) : ∃ m, m ≤ n ∧ (z.crash keep).bs = kbs es m ∧ (∀ s : Nat, (s : Int) = sync → s < n → s + 1 ≤ m) := by
  obtain ⟨h1, h2, h3⟩ := wholeN_spec z.bs (z.high keep) z.bs.length
  have hl : z.bs.length = n := by rw [h.bs, kbs_len]
  rw [hl] at h1 h3
  refine ⟨z.many keep, by unfold WS.many; rw [hl]; exact h1, ?_, fun s e hs => ?_⟩
  · show z.bs.take (z.many keep) = _
    unfold WS.many
    rw [hl, h.bs, kbs_take es (by rw [← h.bs]; exact h1)]
  · unfold WS.many
    rw [hl]
    refine h3 (s + 1) (by omega) ?_
    unfold markN
    rw [h.bs, kbs_take es (by omega), ← h.safe s e hs]
    unfold WS.high
    omega
theorem leafs_of {es : List Ent} (hk : entsOk es) : leafsOk (es.map Ent.leaf) := ⟨by rw [List.length_map]; exact hk.1, by
  unfold allV
  rw [List.all_eq_true]
  intro x hx
  rw [List.mem_map] at hx
  obtain ⟨e, _, rfl⟩ := hx
  exact vld_sum _⟩
theorem root_of {xs : List Int} (h : leafsOk xs) : rootV xs = ofL xs := by unfold rootV; rw [if_pos (leafsK_ok h)]
/-- the log has but grown -/
theorem grown {es : List Ent} {m n : Nat} (hk : entsOk es) (hn : es.length = n) (h1 : 1 ≤ m) (h2 : m ≤ n) :
    gmK (es.map Ent.leaf) m n = 0 ∧ gcheck (rootV ((es.take m).map Ent.leaf)) m (rootV (es.map Ent.leaf)) n (gmV (es.map Ent.leaf) m n) = 0 := by
  have hl := leafs_of hk
  have hlen : (es.map Ent.leaf).length = n := by rw [List.length_map, hn]
  have hkm : entsOk (es.take m) := ⟨by rw [List.length_take]; have := hk.1; omega, fun e he => hk.2 e (List.mem_of_mem_take he)⟩
  have hg : gmK (es.map Ent.leaf) m n = 0 := gmK_ok hl ⟨by omega, by omega, by omega⟩
  refine ⟨hg, ?_⟩
  have h := gcheck_grow (xs := es.map Ent.leaf) (o := m) (m := n) h1 h2 (by omega) hl
  have e1 : (es.map Ent.leaf).take n = es.map Ent.leaf := List.take_of_length_le (by omega)
  have e2 : (es.take m).map Ent.leaf = (es.map Ent.leaf).take m := List.map_take
  rw [root_of hl, root_of (leafs_of hkm), e2]
  unfold gmV
  rw [if_pos hg, Int.toNat_natCast, Int.toNat_natCast, e1]
  rw [e1] at h
  exact h
theorem take_ok {es : List Ent} (hk : entsOk es) (m : Nat) : entsOk (es.take m) := ⟨by rw [List.length_take]; have := hk.1; omega, fun e he => hk.2 e (List.mem_of_mem_take he)⟩
theorem dec_of {e : Ent} (h : e.ok) : decE e.bytes = e ∧ decK e.bytes = 0 := by
  have h1 := takeE_bytes e ⟨#[]⟩ h
  rw [show e.bytes ++ (⟨#[]⟩ : ByteArray) = e.bytes from ByteArray.append_empty] at h1
  obtain ⟨k1, k2, k3⟩ := dec_some h1 rfl
  exact ⟨k1, k3⟩
/-- a key by its letters -/
theorem key_of {i : Nat} (h : i ≤ 60) : (⟨#[byteOf (97 + ((i / 26 : Nat) : Int)), byteOf (97 + ((i % 26 : Nat) : Int))]⟩ : ByteArray) = lett i := by
  refine ba_ext ?_
  rw [lett_list]
  unfold lettL byteOf
  have h1 : i / 26 % 26 = i / 26 := Nat.mod_eq_of_lt (by omega)
  have h2 : (97 + ((i / 26 : Nat) : Int)).toNat = 97 + i / 26 % 26 := by omega
  have h3 : (97 + ((i % 26 : Nat) : Int)).toNat = 97 + i % 26 := by omega
  show [_, _] = _
  rw [h2, h3]

theorem conv2 (w : World) (g : Nat) (a b : Int) (hg : g = w.heap.size) : (convert 61 9 (.slice (some ⟨g, 0, none⟩) 2 2)).run Tryz.prog (w.alloc (.cells #[.int .u8 a, .int .u8 b] 5)) = .ok (.string ⟨#[byteOf a, byteOf b]⟩) (w.alloc (.cells #[.int .u8 a, .int .u8 b] 5)) :=
  run_conv_new w g hg 61 9 5 2 [a, b] Tryz.underlying61 Tryz.underlying5 Tryz.underlying9
theorem ent_neq_self (t : Int) (d : ByteArray) (w : World) : (binOp .neq 60 (.agg #[.int .i64 t, .string d]) (.agg #[.int .i64 t, .string d])).run Tryz.prog w = .ok (.bool false) w := by
  have u3 := Tryz.underlying3
  have a3 := Tryz.isAgg3
  have z3 := Tryz.sizeOf3
  have u9 := Tryz.underlying9
  have a9 := Tryz.isAgg9
  have z9 := Tryz.sizeOf9
  have hS : Tryz.prog.underlying 60 = some (.struct (Tryz.prog.fieldsOf 60)) := by kernel_rfl
  have hp : Tryz.prog.stoodInHeld 60 = false := by kernel_rfl
  rw [run_neq_struct, show (10000 : Nat) = 9999 + 1 from rfl, run_equalIn_agg w 9999 60 _ _ hS hp]
  simp only [Program.fieldsOf, Tryz.underlying60]
  go_simp
theorem ent_guard (op : BinOp) (x y : Operand) (xs ys : Array Value) (w : World) : (eqGuard op 60 x y (.agg xs) (.agg ys)).run Tryz.prog w = .ok () w :=
  run_eqGuard_agg w op _ x y xs ys (by kernel_rfl)

set_option maxRecDepth 100000 in
set_option maxHeartbeats 8000000 in
theorem walk_yes (A : Option Addr) (n c : Nat) (es : List Ent) (sync keep : Int) (w : World) (hl : es.length = n) (hm : c ≤ maxLen) (hr : Rd w 2 A n c (es.flatMap Ent.cells)) (hn : n ≤ 60) (hk : entsOk es) (gs : igood sync) (gk : igood keep) (hS : StrG w) (hM : MaxG w) (hP : PowG w) :
    Calls Tryz.prog 5 #[.slice A n c, .int .i64 sync, .int .i64 keep] w fun e w' => e = .returned (.bool true) ∧ Ext w w' := by
  obtain ⟨hE, hN, hG0⟩ := errR_rules
  have hcv := conv2
  have HLF := Lib.hid fun W (e : Ext w W) => Leafs_any A n c es W (hr.ext e) hm
  rw [entsErr_ok hk] at HLF
  have hle : leafsE es = es.map Ent.leaf := if_pos (entsErr_ok hk)
  rw [hle, errR_0] at HLF
  have HR := Lib.hid hr
  have HL := Lib.hid hl
  have HK := Lib.hid hk
  have HP := Lib.hid hP
  have HSG := Lib.hid hS
  have HMG := Lib.hid hM
  have GK := Lib.hid gk
  have hsb := igood_bd gs
  have hnc := hr.2.1
  have i60 : ¬ (60 : Int) < (n : Int) := by omega
  clear hS hM hP gk gs hle hr
  go_enter Tryz.func5, Tryz.ntmps5
  go_wp2_with fail
  refine (one_any _).mono ?_
  rintro _ w1 ⟨rfl, hb1⟩
  go_wp2_with fail
  refine (HLF.out w1 hb1).mono ?_
  rintro _ w2 ⟨⟨vL, rfl, oL⟩, hb2⟩
  have e2 := hb1.trans hb2
  have hxl : ((es.map Ent.leaf)).length = n := by rw [List.length_map]; exact hl
  obtain ⟨AL, cL, rfl, hcL, hrL⟩ := oL.rd
  rw [hxl] at hrL
  have HRL := Lib.hid hrL
  have HCL := Lib.hid hcL
  clear oL hrL hcL HLF
  rw [hxl]
  go_wp2_with fail
  refine (WNew_any 9 w2).mono ?_
  rintro _ w3 (⟨h, -⟩ | ⟨-, b, rfl, hwg, hbs, hb3⟩)
  · exact absurd h (by decide)
  have HW3 : Hid (WG w3 b 9 WS.new) := Lib.hid hwg
  have HI0 : Hid (KpI es sync 0 WS.new) := Lib.hid ⟨rfl, rfl, rfl, rfl, fun i h => by omega, fun s e h => by omega⟩
  clear hwg
  go_wp2_with fail
  go_loopw [12, 13, 14, 15] (fun iv _ _ _ wr => ∃ (j : Nat) (z : WS), iv = .int .i64 j ∧ j ≤ n ∧ Ext w2 wr ∧ Hid (WG wr b 9 z) ∧ Hid (KpI es sync j z)) (fun iv _ _ _ _ => n - (intOf iv).toNat)
  case atStart => exact ⟨0, _, rfl, Nat.zero_le _, hb3, HW3, HI0⟩
  case round =>
    obtain ⟨j, z, rfl, hj, hbw, hwg, hkp⟩ := hrel
    by_cases hcj : j < n
    · obtain ⟨en, hen⟩ : ∃ p, es[j]? = some p := ⟨_, List.getElem?_eq_getElem (by rw [HL.out]; exact hcj)⟩
      have hok := HK.out.2 en (List.mem_of_getElem? hen)
      obtain ⟨ad, rfl, hb, y0, y1⟩ := (HR.out.ext (e2.trans hbw)).getE hen
      have hkg := kp_get hen
      have HEN := Lib.hid (Encode_ok en.time en.data wr hok)
      obtain ⟨t, d⟩ := en
      simp only at y0 y1 HEN hkg
      obtain ⟨B, hB⟩ : ∃ B, (⟨t, d⟩ : Ent).bytes = B := ⟨_, rfl⟩
      rw [hB] at HEN hkg
      have HKG := Lib.hid hkg
      clear hkg hen hok hB
      by_cases h200 : B.size ≤ 200
      · have i200 : ¬ (200 : Int) < (B.size : Int) := by omega
        have hval : (kp es j).value.size ≤ 200 := by rw [HKG.out]; exact h200
        have hd1 : (j : Int).tdiv 26 = ((j / 26 : Nat) : Int) := (Int.ofNat_tdiv j 26).symm
        have hd2 : (j : Int).tmod 26 = ((j % 26 : Nat) : Int) := rfl
        have hd3 : (j : Int) / 26 = ((j / 26 : Nat) : Int) := rfl
        have hd4 : (j : Int) % 26 = ((j % 26 : Nat) : Int) := rfl
        have hke := key_of (i := j) (by omega)
        obtain ⟨a1, ha1⟩ : ∃ a, j / 26 = a := ⟨_, rfl⟩
        obtain ⟨a2, ha2⟩ : ∃ a, j % 26 = a := ⟨_, rfl⟩
        have hb1' : a1 ≤ 2 := by omega
        have hb2' : a2 ≤ 25 := by omega
        rw [ha1] at hd1 hd3 hke
        rw [ha2] at hd2 hd4 hke
        have q1 : IntKind.i64.wrap (97 + (a1 : Int)) = 97 + (a1 : Int) := IntWalk.i64_in _ (by omega)
        have q2 : IntKind.i64.wrap (97 + (a2 : Int)) = 97 + (a2 : Int) := IntWalk.i64_in _ (by omega)
        have q3 : IntKind.u8.wrap (97 + (a1 : Int)) = 97 + (a1 : Int) := by unfold IntKind.wrap; simp [IntKind.bits, IntKind.signed]; omega
        have q4 : IntKind.u8.wrap (97 + (a2 : Int)) = 97 + (a2 : Int) := by unfold IntKind.wrap; simp [IntKind.bits, IntKind.signed]; omega
        have HKE := Lib.hid hke
        have HVAL := Lib.hid hval
        clear ha1 ha2 hke hval
        go_wp2_with fail
        refine HEN.out.mono ?_
        rintro _ w4 ⟨rfl, hb4⟩
        have e4 := hbw.trans hb4
        clear HEN
        go_upto_region 19 with (fail)
        rw [HKE.out]
        have e5 : Ext w2 (w4.alloc (.cells #[.int .u8 (97 + (a1 : Int)), .int .u8 (97 + (a2 : Int))] 5)) := e4.alloc _
        have e5r : Ext wr (w4.alloc (.cells #[.int .u8 (97 + (a1 : Int)), .int .u8 (97 + (a2 : Int))] 5)) := hb4.alloc _
        generalize w4.alloc (.cells #[.int .u8 (97 + (a1 : Int)), .int .u8 (97 + (a2 : Int))] 5) = W5 at *
        obtain ⟨lt, hlt⟩ : ∃ x, lett j = x := ⟨_, rfl⟩
        rw [hlt] at HKG ⊢
        clear hcv q1 q2 q3 q4 hd1 hd2 hd3 hd4 hlt
        by_cases hjs : (j : Int) = sync
        · obtain ⟨z', z'', hp1, hp2, hkp'⟩ := hkp.out.sync HVAL.out hjs
          rw [HKG.out] at hp1
          have hq : ((j : Int) == sync) = true := beq_iff_eq.2 hjs
          have HC1 := Lib.hid (put_one w2 W5 b 9 z z' lt B false 0 (hwg.out.ext e5r) e5 hbs (hkp.out.few (by omega)) (HP.out.ext e2) hp1)
          have HC2 := Lib.hid fun W (e : Ext w2 W) (hw : WG W b 9 z') => sync_one w2 W b 9 z' z'' 0 hw e hbs hp2
          have HKP := Lib.hid hkp'
          rw [errR_0] at HC1 HC2
          clear hp1 hp2 hkp' hkp hjs hwg
          go_wp2_with fail
          refine HC1.out.mono ?_
          rintro _ w6 ⟨rfl, hw6, e6⟩
          have HW6 := Lib.hid hw6
          clear hw6 HC1
          go_wp2_with fail
          refine (HC2.out w6 e6 HW6.out).mono ?_
          rintro _ w7 ⟨rfl, hw7, e7⟩
          have HW7 := Lib.hid hw7
          clear hw7 HC2
          go_wp2_with fail
          go_roundw
          case rel => exact ⟨j + 1, z'', by go_num, by omega, e7, HW7, HKP⟩
          case measure => simp [intOf]; omega
        · obtain ⟨z', hp1, hkp'⟩ := hkp.out.next HVAL.out hjs
          rw [HKG.out] at hp1
          have hq : ((j : Int) == sync) = false := beq_eq_false_iff_ne.2 hjs
          have HC1 := Lib.hid (put_one w2 W5 b 9 z z' lt B false 0 (hwg.out.ext e5r) e5 hbs (hkp.out.few (by omega)) (HP.out.ext e2) hp1)
          have HKP := Lib.hid hkp'
          rw [errR_0] at HC1
          clear hp1 hkp' hkp hjs hwg
          go_wp2_with fail
          refine HC1.out.mono ?_
          rintro _ w6 ⟨rfl, hw6, e6⟩
          have HW6 := Lib.hid hw6
          clear hw6 HC1
          go_wp2_with fail
          go_roundw
          case rel => exact ⟨j + 1, z', by go_num, by omega, e6, HW6, HKP⟩
          case measure => simp [intOf]; omega
      · have i200 : (200 : Int) < (B.size : Int) := by omega
        clear hwg hkp h200
        go_wp2_with fail
        refine HEN.out.mono ?_
        rintro _ w4 ⟨rfl, hb4⟩
        have e4 := (e2.trans hbw).trans hb4
        clear HEN
        go_wp2_with fail
        go_ret
        exact ⟨rfl, e4⟩
    · obtain rfl : j = n := by omega
      have HCR := Lib.hid (crash_one w2 wr b 9 z keep hwg.out hbw hbs (hkp.out.few hn) GK.out (HSG.out.ext e2) (HMG.out.ext e2))
      obtain ⟨m, hmn, hcb, hms⟩ := hkp.out.crash keep
      have hval : ∀ i, i < m → (kp es i).value.size ≤ 200 := fun i hi => hkp.out.val i (by omega)
      have HCB := Lib.hid hcb
      have HMS := Lib.hid hms
      have HLV := Lib.hid (kbs_live es (j := m) (by omega) hval)
      have HTT : Hid (totL ((stZ 9 (kbs es m)).1 :: (stZ 9 (kbs es m)).2) ≤ 1000) := Lib.hid (by have h1 := stZ_flat 9 (kbs es m); rw [kbs_flat] at h1; omega)
      clear hwg hkp hcb hms hval hcv
      go_wp2_with fail
      refine HCR.out.mono ?_
      rintro _ w4 ⟨⟨v4, rfl⟩, hw4, e4⟩
      have HLS := Lib.hid (WLsm_any hw4)
      clear hw4 HCR
      go_wp2_with fail
      refine HLS.out.mono ?_
      rintro _ w5 ⟨⟨x, rfl, hlm⟩, rfl⟩
      rw [HCB.out] at hlm
      have HAL := Lib.hid (LAll_any aF x _ _ _ _ hlm HTT.out)
      rw [HLV.out, kps_len] at HAL
      clear hlm HLS
      go_wp2_with fail
      refine HAL.out.mono ?_
      rintro _ w5 ⟨⟨v5, rfl, o5⟩, hb5⟩
      obtain ⟨A5, c5, rfl, hc5, hr5, -⟩ := own_rd o5
      have HR5 := Lib.hid hr5
      have e5 := e4.trans hb5
      have hmc5 := hr5.2.1
      clear o5 hr5 hc5 HAL
      go_upto_region 25 with (fail)
      go_cut [121] (fun v wc => v = .bool false ∧ Ext w5 wc)
      case first =>
        as_aux_lemma =>
        have hmi : ¬ (j : Int) < (m : Int) := by omega
        have h3 : sync < 0 ∨ (0 ≤ sync ∧ ¬ sync < (j : Int)) ∨ (0 ≤ sync ∧ sync < (j : Int)) := by omega
        rcases h3 with h | ⟨h, h'⟩ | ⟨h, h'⟩
        · have h0 : ¬ (0 : Int) ≤ sync := by omega
          go_wp2_with fail
          go_meet
          exact ⟨rfl, Ext.refl _⟩
        · go_wp2_with fail
          go_meet
          exact ⟨rfl, Ext.refl _⟩
        · obtain ⟨s, rfl⟩ := Int.eq_ofNat_of_zero_le h
          have h4 := HMS.out s rfl (by omega)
          have q1 : IntKind.i64.wrap ((s : Int) + 1) = (s : Int) + 1 := IntWalk.i64_in _ (by omega)
          have h5 : ¬ (m : Int) < (s : Int) + 1 := by omega
          clear h4
          go_wp2_with fail
          go_meet
          exact ⟨rfl, Ext.refl _⟩
      case rest =>
      as_aux_lemma =>
      obtain ⟨rfl, hbc⟩ := hcut
      have O0 : Hid (wc.ownsRow wc.heap.size 60 2 (.slice none 0 0) 0 ((es.take 0).flatMap Ent.cells)) := Lib.hid (own_nil _ _ _ _)
      have ec := e5.trans hbc
      have hnq := ent_neq_self
      have hng := ent_guard
      obtain ⟨i0, hi0, hz0, hzs, hzb⟩ := info_parts info_ent
      go_wp2_with fail
      go_loopw [17, 18, 19, 20] (fun v iv _ _ wr => ∃ i : Nat, iv = .int .i64 i ∧ i ≤ m ∧ Ext wc wr ∧ Hid (wr.ownsRow wc.heap.size 60 2 v i ((es.take i).flatMap Ent.cells))) (fun _ iv _ _ _ => m - (intOf iv).toNat)
      case atStart => exact ⟨0, rfl, Nat.zero_le _, Ext.refl _, O0⟩
      case round =>
        obtain ⟨i, rfl, hi, hbw2, hrow⟩ := hrel
        by_cases hci : i < m
        · obtain ⟨en, hen⟩ : ∃ p, es[i]? = some p := ⟨_, List.getElem?_eq_getElem (by rw [HL.out]; omega)⟩
          have hok := HK.out.2 en (List.mem_of_getElem? hen)
          obtain ⟨a5, rfl, hb, -, y1, -⟩ := (HR5.out.ext (hbc.trans hbw2)).getP (kps_get es hci)
          rw [kp_get hen] at y1
          obtain ⟨ad, rfl, hb', y3, y4⟩ := (HR.out.ext (e2.trans (ec.trans hbw2))).getE hen
          have hdec := Decode_any en.bytes wr (by have h1 := hok.2.2; have h2 := en.bytes_size; simp only [maxLen]; omega)
          rw [(dec_of hok).1, (dec_of hok).2, errR_0] at hdec
          have HDEC := Lib.hid hdec
          have HTK : Hid ((es.take (i + 1)).flatMap Ent.cells = (es.take i).flatMap Ent.cells ++ en.cells) := Lib.hid (by
            obtain ⟨g1, g2⟩ := List.getElem?_eq_some_iff.1 hen
            rw [List.take_succ_eq_append_getElem g1, g2, List.flatMap_append]
            simp)
          obtain ⟨t, d⟩ := en
          obtain ⟨B, hB⟩ : ∃ B, (⟨t, d⟩ : Ent).bytes = B := ⟨_, rfl⟩
          simp only [hB] at y1 y3 y4 HDEC
          clear hdec hen hok hB
          go_wp2_with fail
          refine HDEC.out.mono ?_
          rintro _ w6 ⟨rfl, hb6⟩
          have e6 := hbw2.trans hb6
          have B7 := Bk.at_ w6 60 #[.int .i64 t, .string d] w6.heap.size rfl
          have e7 : Ext w6 (w6.alloc (.cells #[.int .i64 t, .string d] 60)) := (Ext.refl _).alloc _
          have e7r : Ext wr (w6.alloc (.cells #[.int .i64 t, .string d] 60)) := hb6.trans e7
          have z0 : (w6.alloc (.cells #[.int .i64 t, .string d] 60)).cell? ⟨w6.heap.size, 0, none⟩ = some (.int .i64 t) := B7.cell 0
          have z1 : (w6.alloc (.cells #[.int .i64 t, .string d] 60)).cell? ⟨w6.heap.size, 1, none⟩ = some (.string d) := B7.cell 1
          have O7 := Lib.hid (own_ext hrow.out e7r)
          have e7w := hbw2.trans e7r
          clear y1 hrow HDEC B7
          go_upto_region 32 with (fail)
          generalize w6.alloc (.cells #[.int .i64 t, .string d] 60) = W7 at *
          have y3' : W7.cell? (ad.add (i * 2)) = some (.int .i64 t) := (e7r.cell (by rw [blk_add]; exact hb')).trans y3
          have y4' : W7.cell? ⟨(ad.add (i * 2)).block, (ad.add (i * 2)).off + 1, none⟩ = some (.string d) := (e7r.cell (by show (ad.add (i * 2)).block < _; rw [blk_add]; exact hb')).trans y4
          have hij : (i : Int) < (j : Int) := by omega
          have hij0 : (0 : Int) ≤ (i : Int) := by omega
          clear y3 y4
          go_quiet (fail)
          have z0' : (W7.drewN nq).cell? ⟨w6.heap.size, 0, none⟩ = some (.int .i64 t) := z0
          have z1' : (W7.drewN nq).cell? ⟨w6.heap.size, 1, none⟩ = some (.string d) := z1
          have O8 := Lib.hid (own_ext O7.out (Ext.drewN (Ext.refl _) nq))
          have e8w := Ext.drewN e7w nq
          clear hnq hng z0 z1 y3' y4' O7 e7w e7r
          go_upto_region 34 with (fail)
          generalize W7.drewN nq = W8 at *
          have e9 : Ext W8 (W8.alloc (.cells #[.int .i64 t, .string d] 60)) := (Ext.refl _).alloc _
          have O9 := Lib.hid (own_ext O8.out e9)
          have e9w := e8w.trans e9
          have hb9 := e9w.size
          clear O8
          go_wp2_with (at_builtin; go_loud (refine wpList_append_own _ rfl _ _ 54 rfl wc.heap.size 60 i0 _ 2 24 Tryz.underlying54 hi0 hz0 hzs hzb rfl (by omega) u17 i _ rfl O9.out ⟨W8.heap.size, 0, none⟩ 1 1 [.int .i64 t, .string d] (by rfl) rfl (news_new W8 _ _ _ rfl) (by intro u hu; simp at hu; rcases hu with rfl | rfl <;> rfl) (by unfold maxLen; omega) (by omega) hb9 ?_); intro v10 w10 own10 hg10 hH10; clear hH10; have e10 := own_grown O9.out hg10 wc (Nat.le_refl _) e9w)
          have R10 : Hid (w10.ownsRow wc.heap.size 60 2 v10 (i + 1) ((es.take (i + 1)).flatMap Ent.cells)) := by
            show World.ownsRow _ _ _ _ _ _ _
            rw [HTK.out]; exact own10
          clear own10
          go_roundw
          case rel => exact ⟨i + 1, by go_num, by omega, e10, R10⟩
          case measure => simp [intOf]; omega
        · obtain rfl : i = m := by omega
          obtain ⟨A6, c6, rfl, hc6, hr6, -⟩ := own_rd hrow.out
          have ew := e2.trans (ec.trans hbw2)
          clear hnq hng
          by_cases hm0 : i = 0
          · subst hm0
            clear hrow hr6 hc6
            go_wp2_with fail
            go_ret
            exact ⟨rfl, ew⟩
          · have hm0i : ((i : Int) == 0) = false := beq_eq_false_iff_ne.2 (by omega)
            have hm0j : ¬ (i : Int) = 0 := by omega
            obtain ⟨g1, g2⟩ := grown HK.out HL.out (m := i) (by omega) hmn
            have hko := take_ok HK.out i
            have HLF := Leafs_any A6 i c6 (es.take i) wr hr6 hc6
            rw [entsErr_ok hko, show leafsE (es.take i) = (es.take i).map Ent.leaf from if_pos (entsErr_ok hko), errR_0] at HLF
            have HLF2 := Lib.hid HLF
            have hlk := leafs_of hko
            have hlk2 := leafs_of HK.out
            have hlen : ((es.take i).map Ent.leaf).length = i := by rw [List.length_map, List.length_take]; omega
            obtain ⟨xs, hxs⟩ : ∃ x, es.map Ent.leaf = x := ⟨_, rfl⟩
            obtain ⟨ys, hys⟩ : ∃ x, (es.take i).map Ent.leaf = x := ⟨_, rfl⟩
            rw [hxs] at g1 g2 hlk2 HRL
            rw [hys] at g2 hlk hlen HLF2
            have HRB := Lib.hid fun W (e : Ext w2 W) => Root_any AL j cL xs W (HRL.out.ext e) HCL.out
            have HGM := Lib.hid fun W (e : Ext w2 W) => GMake_any AL j cL xs (i : Int) (j : Int) W (HRL.out.ext e) HCL.out
            have HRA := Lib.hid fun W A c (hr : Rd W 1 A i c (ys.map (Value.int .i64))) (hc : c ≤ maxLen) => Root_any A i c ys W hr hc
            rw [leafsK_ok hlk, errR_0] at HRA
            rw [leafsK_ok hlk2, errR_0] at HRB
            rw [g1, errR_0] at HGM
            obtain ⟨ra, hra⟩ : ∃ x, rootV ys = x := ⟨_, rfl⟩
            obtain ⟨rb, hrb⟩ : ∃ x, rootV xs = x := ⟨_, rfl⟩
            obtain ⟨gv, hgv⟩ : ∃ x, gmV xs (i : Int) (j : Int) = x := ⟨_, rfl⟩
            rw [hra] at HRA g2
            rw [hrb] at HRB g2
            rw [hgv] at HGM g2
            have HG2 := Lib.hid g2
            have HYL := Lib.hid hlen
            clear hrow hr6 hc6 g1 g2 hko HLF hlk hlk2 hxs hys hra hrb hgv hlen hm0
            go_wp2_with fail
            refine HLF2.out.mono ?_
            rintro _ w7 ⟨⟨v7, rfl, o7⟩, hb7⟩
            obtain ⟨A7, c7, rfl, hc7, hr7⟩ := o7.rd
            rw [HYL.out] at hr7 ⊢
            have HRA2 := Lib.hid fun W (e : Ext w7 W) => HRA.out W A7 c7 (hr7.ext e) hc7
            have e7 := (ec.trans hbw2).trans hb7
            clear o7 hr7 hc7 HRA HLF2
            go_wp2_with fail
            refine (HRA2.out w7 (Ext.refl _)).mono ?_
            rintro _ w8 ⟨rfl, hb8⟩
            have e8 := e7.trans hb8
            clear HRA2
            go_wp2_with fail
            refine (HRB.out w8 e8).mono ?_
            rintro _ w9 ⟨rfl, hb9⟩
            have e9 := e8.trans hb9
            clear HRB
            go_wp2_with fail
            refine (HGM.out w9 e9).mono ?_
            rintro _ w10 ⟨⟨v10, rfl, o10⟩, hb10⟩
            obtain ⟨A10, c10, rfl, hc10, hr10⟩ := o10.rd
            have e10 := e9.trans hb10
            have HGC := GCheck_any ra (i : Int) rb (j : Int) A10 gv.length c10 gv w10 hr10 hc10
            rw [HG2.out, errR_0] at HGC
            have HGC2 := Lib.hid HGC
            clear o10 hr10 hc10 HGC HGM
            go_wp2_with fail
            refine HGC2.out.mono ?_
            rintro _ w11 ⟨rfl, hb11⟩
            have e11 := e2.trans (e10.trans hb11)
            go_wp2_with fail
            go_ret
            exact ⟨rfl, e11⟩
set_option maxRecDepth 100000 in
theorem walk (A : Option Addr) (n c : Nat) (es : List Ent) (sync keep : Int) (w : World) (hl : es.length = n) (hm : c ≤ maxLen) (hr : Rd w 2 A n c (es.flatMap Ent.cells)) (ge : ∀ y ∈ es, y.good) (gs : igood sync) (gk : igood keep) (hS : StrG w) (hP : PowG w) (hM : MaxG w) :
    Calls Tryz.prog 5 #[.slice A n c, .int .i64 sync, .int .i64 keep] w fun e w' => e = .returned (.bool true) ∧ Ext w w' := by
  by_cases h : entsErr es = 0 ∧ n ≤ 60
  · have hk : entsOk es := by
      refine Classical.byContradiction fun hno => ?_
      exact entsErr_bad hno h.1
    exact walk_yes A n c es sync keep w hl hm hr h.2 hk gs gk hS hM hP
  · obtain ⟨hE, hN, hG0⟩ := errR_rules
    have HLF := Lib.hid fun W (e : Ext w W) => Leafs_any A n c es W (hr.ext e) hm
    have h' : entsErr es ≠ 0 ∨ (entsErr es = 0 ∧ 60 < n) := by omega
    obtain ⟨k, hk⟩ : ∃ k, entsErr es = k := ⟨_, rfl⟩
    rw [hk] at HLF h'
    clear h hk hr
    rcases h' with h | ⟨rfl, h2⟩
    · have hok := isOk_no h
      clear h
      go_enter Tryz.func5, Tryz.ntmps5
      go_wp2_with fail
      refine (one_any _).mono ?_
      rintro _ w1 ⟨rfl, hb1⟩
      go_wp2_with fail
      refine (HLF.out w1 hb1).mono ?_
      rintro _ w2 ⟨⟨vL, rfl, oL⟩, hb2⟩
      have e2 := hb1.trans hb2
      clear oL
      go_wp2_with fail
      go_ret
      exact ⟨rfl, e2⟩
    · have h2i : (60 : Int) < (n : Int) := by omega
      rw [errR_0] at HLF
      go_enter Tryz.func5, Tryz.ntmps5
      go_wp2_with fail
      refine (one_any _).mono ?_
      rintro _ w1 ⟨rfl, hb1⟩
      go_wp2_with fail
      refine (HLF.out w1 hb1).mono ?_
      rintro _ w2 ⟨⟨vL, rfl, oL⟩, hb2⟩
      have e2 := hb1.trans hb2
      clear oL
      go_wp2_with fail
      go_ret
      exact ⟨rfl, e2⟩
end Go.Proofs.YtcgfdhgceokcnaaGreatDoor.topKept
