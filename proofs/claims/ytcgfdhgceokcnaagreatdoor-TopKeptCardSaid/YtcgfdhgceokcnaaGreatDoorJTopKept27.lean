/- The references' leafs of data. -/
import Derived.Test.YtcgfdhgceokcnaaGreatDoorJTopKept26
import Derived.Test.YtcgfdhgceokcnaaGreatDoorJTopKept14
import Derived.Deep.DeepCutAuto
import Derived.Test.YtcgfdhgceokcnaaGreatDoorJTopKept24
import Derived.Lib.IndexBytes
import Derived.Lib.SlicesS
import Derived.BigRegion
import Derived.Handy
namespace Go.Proofs.YtcgfdhgceokcnaaGreatDoor
open Go.RowKit Go.WideShapes
set_option linter.unusedVariables false
attribute [local go_sem ↓] Go.wp_at_zero Go.wp_at_succ

def newsS (s : ByteArray) : List Value := s.data.toList.map fun b => Value.int .u8 b.toNat
theorem newsS_len (s : ByteArray) : (newsS s).length = s.size * 1 := by unfold newsS; rw [List.length_map, Nat.mul_one]; rfl
theorem newsS_one (s : ByteArray) : ∀ u ∈ newsS s, u.oneCell' = true := by
  intro u hu
  unfold newsS at hu
  rw [List.mem_map] at hu
  obtain ⟨x, _, rfl⟩ := hu
  rfl
theorem newsS_int (s : ByteArray) : newsS s = (s.data.toList.map fun b => (b.toNat : Int)).map (Value.int .u8) := by unfold newsS; rw [List.map_map]; rfl
theorem conv_cells (w : World) (s : ByteArray) (cap : Nat) (e : TypeId) (m : Nat × Nat) (H : Nat) (hH : w.heap.size = H) : ∀ j u, (newsS s)[j]? = some u → (w.alloc (.cells (bytesRow s cap) e m)).cell? ((⟨H, 0, none⟩ : Addr).add j) = some u := by
  intro j u hu
  subst hH
  unfold newsS at hu
  rw [List.getElem?_map, Option.map_eq_some_iff] at hu
  obtain ⟨b, hb, rfl⟩ := hu
  obtain ⟨h1, h2⟩ := List.getElem?_eq_some_iff.1 hb
  have hj : j < s.data.size := by simpa using h1
  rw [add_mk, Nat.zero_add, World.cell?_alloc_mark]
  rw [bytesRow_at s cap j hj]
  have : s.data[j] = b := by simpa using h2
  rw [this]
/-- 'append' of some cells, none too -/
theorem wpl_appa {P : Program} {w : World} {ops : Array Oper} {rest : List Oper} {o : Oper} {a : Act} {Q : Exit → Act → World → Prop} (hgd : o.guard = none) (s x : Operand) (t : TypeId)
    (ho : o.op = .call { callee := .builtin .append, args := #[s, x], argTypes := #[t, t] })
    (base : Nat) (e : TypeId) (i : TypeInfo) (z : Value) (size bytes : Nat) (ht : P.underlying t = some (.slice e)) (hi : P.info? e = some i) (hz : i.zero = some z)
    (hsize : i.size = size) (hby : i.bytes = bytes) (hzs : z.cells.size = size) (hsz : 0 < size)
    (v : Value) (n : Nat) (xs : List Value) (hs : a.eval s = v) (hown : w.ownsRow base e size v n xs)
    (ad : Addr) (m c : Nat) (news : List Value) (hx : a.eval x = .slice (some ad) m c) (hl : news.length = m * size) (hnews : ∀ j u, news[j]? = some u → w.cell? (ad.add j) = some u) (h1 : ∀ u ∈ news, u.oneCell' = true)
    (h63 : n + m ≤ 1048576) (hbytes : bytes ≤ 1048576) (hbase : base ≤ w.heap.size)
    (h : ∀ v' w', w'.ownsRow base e size v' (n + m) (xs ++ news) → (∀ u, u.heap.size ≤ base → Ext u w → Ext u w') → wpList P ops Q rest (a.put o.dst v') w') : wpList P ops Q (o :: rest) a w :=
  wpList_append_own w hgd s x t ho base e i z size bytes ht hi hz hsize hby hzs hsz v n xs hs hown ad m c news hx hl hnews h1 (by simp only [maxLen]; omega)
    (by have := Nat.mul_le_mul (show n + m ≤ 1048576 by omega) hbytes; omega) hbase fun v' w' h2 h3 _ => h v' w' h2 (own_grown hown h3)

theorem leafI_bytes (s : ByteArray) : (([0] : List Int) ++ s.data.toList.map fun (b : UInt8) => (b.toNat : Int)).map byteOf = 0 :: s.data.toList := by
  rw [List.map_append, List.map_map]
  have : (byteOf ∘ fun (b : UInt8) => (b.toNat : Int)) = id := by funext b; exact byteOf_toNat b
  rw [this, List.map_id]; rfl
theorem str_of_own {w : World} {g : Nat} {v : Value} {n : Nat} {cs : List Value} {l : List Int} {L : List UInt8} (h : w.ownsRow g 5 1 v n cs) (hn : 0 < n) (hc : cs = l.map (Value.int .u8)) (hL : l.map byteOf = L) :
    ∃ ad c, v = .slice (some ad) n c ∧ (convert 61 9 (.slice (some ad) n c)).run Tryz.prog w = .ok (.string ⟨L.toArray⟩) w := by
  subst hc
  subst hL
  obtain ⟨A, c, rfl, -, R, -⟩ := own_rd h
  obtain ⟨ad, rfl, -, -⟩ := R.2.2 hn
  exact ⟨ad, c, rfl, conv_rd R hn⟩
theorem leaf_cells (s : ByteArray) : List.map (Value.int .u8) [0] ++ newsS s = (([0] : List Int) ++ s.data.toList.map fun (b : UInt8) => (b.toNat : Int)).map (Value.int .u8) := by rw [List.map_append, newsS_int]
def dataOk (l : List ByteArray) : Prop := l.length ≤ 200 ∧ ∀ s ∈ l, s.size ≤ 200
instance (l : List ByteArray) : Decidable (dataOk l) := by unfold dataOk; exact inferInstance
def dataK (l : List ByteArray) : Int := if dataOk l then 0 else 4
theorem dataK_ok {l : List ByteArray} (h : dataOk l) : dataK l = 0 := if_pos h
theorem dataK_bad {l : List ByteArray} (h : ¬ dataOk l) : dataK l = 4 := if_neg h
theorem dataK_zero {l : List ByteArray} (h : dataK l = 0) : dataOk l := by
  by_cases hk : dataOk l
  · exact hk
  · rw [dataK_bad hk] at h; cases h
def sumsD (l : List ByteArray) : List Int := l.map fun s => leafL s.data.toList
theorem sumsD_len (l : List ByteArray) : (sumsD l).length = l.length := by simp [sumsD]
theorem sumsD_take (l : List ByteArray) (k : Nat) : (sumsD l).take k = sumsD (l.take k) := by simp [sumsD]
theorem sumsD_drop (l : List ByteArray) (k : Nat) : (sumsD l).drop k = sumsD (l.drop k) := by simp [sumsD]
theorem sumsD_snoc {l : List ByteArray} {k : Nat} {s : ByteArray} (h : l[k]? = some s) : sumsD (l.take (k + 1)) = sumsD (l.take k) ++ [leafL s.data.toList] := by
  obtain ⟨h1, rfl⟩ := List.getElem?_eq_some_iff.1 h
  rw [List.take_succ_eq_append_getElem h1]; unfold sumsD; rw [List.map_append]; rfl
theorem allV_sumsD (l : List ByteArray) : allV (sumsD l) = true := by
  unfold allV sumsD
  rw [List.all_eq_true]
  intro x hx
  rw [List.mem_map] at hx
  obtain ⟨s, _, rfl⟩ := hx
  exact vld_sum _

end Go.Proofs.YtcgfdhgceokcnaaGreatDoor

/- Plain laws: entries read off bytes, no program in sight. -/
namespace Go.Proofs.YtcgfdhgceokcnaaGreatDoor
open Go.RowKit
set_option linter.unusedVariables false

theorem list_size (s : ByteArray) : s.data.toList.length = s.size := rfl
theorem ex_list (s : ByteArray) (a b : Nat) : (s.extract a b).data.toList = (s.data.toList.drop a).take (b - a) := Lib.extract_data s a b
theorem ex_end (s : ByteArray) (a : Nat) : (s.extract a s.size).data.toList = s.data.toList.drop a := Lib.extract_to_end s a

/-- byte k -/
def byB (s : ByteArray) (k : Nat) : UInt8 := s.data.toList.getD k 0
theorem byB_get (s : ByteArray) (k : Nat) (h : k < s.size) : s[k] = byB s k := by
  unfold byB
  rw [List.getD_eq_getElem?_getD, List.getElem?_eq_getElem (by rw [list_size]; exact h)]
  rfl
/-- the entry at the start of bytes -/
def entOf (s : ByteArray) : Ent := ⟨((byB s 0).toNat : Int) * 65536 + ((byB s 1).toNat : Int) * 256 + ((byB s 2).toNat : Int), s.extract 4 (4 + (byB s 3).toNat)⟩
def takeE (s : ByteArray) : Option (Ent × ByteArray) :=
  if 4 ≤ s.size ∧ 4 + (byB s 3).toNat ≤ s.size ∧ (entOf s).ok then some (entOf s, s.extract (4 + (byB s 3).toNat) s.size) else none
theorem takeE_none {s : ByteArray} (h : ¬ (4 ≤ s.size ∧ 4 + (byB s 3).toNat ≤ s.size ∧ (entOf s).ok)) : takeE s = none := if_neg h
theorem takeE_bytes (e : Ent) (r : ByteArray) (h : e.ok) : takeE (e.bytes ++ r) = some (e, r) := by
  obtain ⟨t, d⟩ := e
  obtain ⟨h0, h1, h2⟩ := h
  dsimp only at h0 h1 h2
  have hl : ((⟨t, d⟩ : Ent).bytes ++ r).data.toList = byteOf (t / 65536 % 256) :: byteOf (t / 256 % 256) :: byteOf (t % 256) :: byteOf ((d.size : Int) % 256) :: (d.data.toList ++ r.data.toList) := by
    rw [toList_cat, Ent.bytes_list]; rfl
  have hz : ((⟨t, d⟩ : Ent).bytes ++ r).size = 4 + d.size + r.size := by rw [size_cat, Ent.bytes_size]
  generalize (⟨t, d⟩ : Ent).bytes ++ r = s at *
  have b0 : byB s 0 = byteOf (t / 65536 % 256) := by unfold byB; rw [hl]; rfl
  have b1 : byB s 1 = byteOf (t / 256 % 256) := by unfold byB; rw [hl]; rfl
  have b2 : byB s 2 = byteOf (t % 256) := by unfold byB; rw [hl]; rfl
  have b3 : byB s 3 = byteOf ((d.size : Int) % 256) := by unfold byB; rw [hl]; rfl
  have n0 := toNat_byteOf (t / 65536 % 256) (by omega) (by omega)
  have n1 := toNat_byteOf (t / 256 % 256) (by omega) (by omega)
  have n2 := toNat_byteOf (t % 256) (by omega) (by omega)
  have n3 := toNat_byteOf ((d.size : Int) % 256) (by omega) (by omega)
  rw [← b0] at n0
  rw [← b1] at n1
  rw [← b2] at n2
  rw [← b3] at n3
  have n3' : (byB s 3).toNat = d.size := by omega
  have hd : s.extract 4 (4 + (byB s 3).toNat) = d := by
    apply ba_ext
    rw [ex_list, hl, n3']
    show (d.data.toList ++ r.data.toList).take (4 + d.size - 4) = _
    rw [Nat.add_sub_cancel_left, ← list_size, List.take_left]
  have hr : s.extract (4 + (byB s 3).toNat) s.size = r := by
    apply ba_ext
    rw [ex_end, hl, n3', Nat.add_comm]
    show (d.data.toList ++ r.data.toList).drop d.size = _
    rw [← list_size, List.drop_left]
  have he : entOf s = ⟨t, d⟩ := by
    unfold entOf
    rw [hd, n0, n1, n2]
    congr 1
    omega
  unfold takeE
  rw [if_pos ⟨by omega, by omega, by rw [he]; exact ⟨h0, h1, h2⟩⟩, he, hr]
theorem takeE_some {s : ByteArray} {e : Ent} {r : ByteArray} (h : takeE s = some (e, r)) : e.ok ∧ s = e.bytes ++ r := by
  unfold takeE at h
  by_cases hc : 4 ≤ s.size ∧ 4 + (byB s 3).toNat ≤ s.size ∧ (entOf s).ok
  · rw [if_pos hc] at h
    obtain ⟨h1, h2, h3⟩ := hc
    simp only [Option.some.injEq, Prod.mk.injEq] at h
    obtain ⟨rfl, rfl⟩ := h
    refine ⟨h3, ?_⟩
    apply ba_ext
    rw [toList_cat, Ent.bytes_list, ex_end]
    have hsz : (entOf s).data.size = (byB s 3).toNat := by
      show (s.extract 4 (4 + (byB s 3).toNat)).size = _
      rw [ByteArray.size_extract]
      omega
    have hdl : (entOf s).data.data.toList = (s.data.toList.drop 4).take (byB s 3).toNat := by
      show (s.extract 4 (4 + (byB s 3).toNat)).data.toList = _
      rw [ex_list, Nat.add_sub_cancel_left]
    have q0 := (byB s 0).toNat_lt
    have q1 := (byB s 1).toNat_lt
    have q2 := (byB s 2).toNat_lt
    have q3 := (byB s 3).toNat_lt
    have ht : (entOf s).time = ((byB s 0).toNat : Int) * 65536 + ((byB s 1).toNat : Int) * 256 + ((byB s 2).toNat : Int) := rfl
    unfold entB entH
    rw [list_size, hsz, hdl, ht]
    rw [show (((byB s 0).toNat : Int) * 65536 + ((byB s 1).toNat : Int) * 256 + ((byB s 2).toNat : Int)) / 65536 % 256 = ((byB s 0).toNat : Int) by omega,
      show (((byB s 0).toNat : Int) * 65536 + ((byB s 1).toNat : Int) * 256 + ((byB s 2).toNat : Int)) / 256 % 256 = ((byB s 1).toNat : Int) by omega,
      show (((byB s 0).toNat : Int) * 65536 + ((byB s 1).toNat : Int) * 256 + ((byB s 2).toNat : Int)) % 256 = ((byB s 2).toNat : Int) by omega,
      show ((byB s 3).toNat : Int) % 256 = ((byB s 3).toNat : Int) by omega, byteOf_toNat, byteOf_toNat, byteOf_toNat, byteOf_toNat]
    have hlen : 4 ≤ s.data.toList.length := by rw [list_size]; exact h1
    unfold byB
    generalize s.data.toList = l at *
    match l, hlen with
    | a :: b :: c :: d :: l, _ =>
      show a :: b :: c :: d :: l = [a, b, c, d] ++ l.take d.toNat ++ List.drop (4 + d.toNat) (a :: b :: c :: d :: l)
      rw [Nat.add_comm]
      show a :: b :: c :: d :: l = a :: b :: c :: d :: (l.take d.toNat ++ l.drop d.toNat)
      rw [List.take_append_drop]
  · rw [if_neg hc] at h; cases h

/-- the bytes of entries, one behind the other -/
def catL (es : List Ent) : List UInt8 := es.flatMap fun e => e.bytes.data.toList
theorem catL_append (a b : List Ent) : catL (a ++ b) = catL a ++ catL b := by simp [catL]
theorem catL_cons (e : Ent) (b : List Ent) : catL (e :: b) = e.bytes.data.toList ++ catL b := rfl
theorem catL_len {es : List Ent} (h : ∀ e ∈ es, e.ok) : (catL es).length ≤ 204 * es.length := by
  induction es with
  | nil => simp [catL]
  | cons e es ih =>
    have h1 := (h e (by simp)).2.2
    have h2 := ih fun x hx => h x (by simp [hx])
    rw [catL_cons, List.length_append, list_size, Ent.bytes_size, List.length_cons]
    omega
/-- some entries off bytes -/
def unpN : Nat → ByteArray → Option (List Ent × ByteArray)
  | 0, s => some ([], s)
  | n + 1, s => match unpN n s with
    | none => none
    | some (es, q) => match takeE q with
      | none => none
      | some (e, r) => some (es ++ [e], r)
theorem unpN_zero (s : ByteArray) : unpN 0 s = some ([], s) := rfl
theorem unpN_next {n : Nat} {s q r : ByteArray} {es : List Ent} {e : Ent} (h : unpN n s = some (es, q)) (k : takeE q = some (e, r)) : unpN (n + 1) s = some (es ++ [e], r) := by
  rw [unpN, h]; simp only [k]
theorem unpN_stop {n : Nat} {s q : ByteArray} {es : List Ent} (h : unpN n s = some (es, q)) (k : takeE q = none) : unpN (n + 1) s = none := by
  rw [unpN, h]; simp only [k]
theorem unpN_none {n : Nat} {s : ByteArray} (h : unpN n s = none) : unpN (n + 1) s = none := by rw [unpN, h]
theorem unpN_later {n : Nat} {s : ByteArray} (h : unpN n s = none) : ∀ k, unpN (n + k) s = none
  | 0 => h
  | k + 1 => unpN_none (unpN_later h k)
theorem unpN_some : ∀ (n : Nat) (s : ByteArray) (es : List Ent) (q : ByteArray), unpN n s = some (es, q) → es.length = n ∧ (∀ e ∈ es, e.ok) ∧ s.data.toList = catL es ++ q.data.toList
  | 0, s, es, q, h => by
    rw [unpN_zero] at h
    simp only [Option.some.injEq, Prod.mk.injEq] at h
    obtain ⟨rfl, rfl⟩ := h
    exact ⟨rfl, by simp, by simp [catL]⟩
  | n + 1, s, es, q, h => by
    cases hu : unpN n s with
    | none => rw [unpN_none hu] at h; cases h
    | some p =>
      obtain ⟨es', q'⟩ := p
      obtain ⟨h1, h2, h3⟩ := unpN_some n s es' q' hu
      cases ht : takeE q' with
      | none => rw [unpN_stop hu ht] at h; cases h
      | some p =>
        obtain ⟨e, r⟩ := p
        rw [unpN_next hu ht] at h
        simp only [Option.some.injEq, Prod.mk.injEq] at h
        obtain ⟨rfl, rfl⟩ := h
        obtain ⟨k1, k2⟩ := takeE_some ht
        refine ⟨by simp [h1], ?_, ?_⟩
        · intro x hx
          rcases List.mem_append.1 hx with hx | hx
          · exact h2 x hx
          · rw [List.mem_singleton] at hx; subst hx; exact k1
        · rw [h3, k2, toList_cat, catL_append]
          simp [catL]
theorem unpN_cat (es : List Ent) (h : ∀ e ∈ es, e.ok) (r : List UInt8) : ∀ n, n ≤ es.length → unpN n ⟨(catL es ++ r).toArray⟩ = some (es.take n, ⟨(catL (es.drop n) ++ r).toArray⟩)
  | 0, _ => rfl
  | n + 1, hn => by
    have hn' : n < es.length := by omega
    have hd : es.drop n = es[n] :: es.drop (n + 1) := List.drop_eq_getElem_cons hn'
    have ht : takeE ⟨(catL (es.drop n) ++ r).toArray⟩ = some (es[n], ⟨(catL (es.drop (n + 1)) ++ r).toArray⟩) := by
      rw [← takeE_bytes es[n] _ (h _ (List.getElem_mem hn'))]
      congr 1
      apply ba_ext
      rw [toList_cat, toList_mk, toList_mk, hd, catL_cons, List.append_assoc]
    rw [unpN_next (unpN_cat es h r n (by omega)) ht, List.take_succ_eq_append_getElem hn']

/-- the bytes of many: while they are made -/
def packB (es : List Ent) (j : Nat) : ByteArray := ⟨(byteOf (es.length : Int) :: catL (es.take j)).toArray⟩
theorem packB_list (es : List Ent) (j : Nat) : (packB es j).data.toList = byteOf (es.length : Int) :: catL (es.take j) := by unfold packB; rw [toList_mk]
theorem packB_zero (es : List Ent) : packB es 0 = ⟨#[byteOf (es.length : Int)]⟩ := rfl
theorem packB_next {es : List Ent} {j : Nat} {e : Ent} (h : es[j]? = some e) : packB es (j + 1) = packB es j ++ e.bytes := by
  apply ba_ext
  obtain ⟨hl, rfl⟩ := List.getElem?_eq_some_iff.1 h
  rw [toList_cat, packB_list, packB_list, List.take_succ_eq_append_getElem hl, catL_append]
  simp [catL]
theorem packB_size {es : List Ent} (h : ∀ e ∈ es, e.ok) (j : Nat) (hl : es.length ≤ 200) : (packB es j).size ≤ 40801 := by
  rw [← list_size, packB_list, List.length_cons]
  have := catL_len (es := es.take j) fun e he => h e (List.mem_of_mem_take he)
  have : (es.take j).length ≤ es.length := by rw [List.length_take]; omega
  omega
/-- entries off bytes -/
def unpEnd : Option (List Ent × ByteArray) → Option (List Ent)
  | none => none
  | some (es, q) => if q.size = 0 then some es else none
def unpackE (s : ByteArray) : Option (List Ent) :=
  if s.size = 0 ∨ 200 < (byB s 0).toNat then none else unpEnd (unpN (byB s 0).toNat (s.extract 1 s.size))
theorem unpackE_pack {es : List Ent} (h : ∀ e ∈ es, e.ok) (hl : es.length ≤ 200) : unpackE (packB es es.length) = some es := by
  have hp := packB_list es es.length
  rw [List.take_length] at hp
  have hb : byB (packB es es.length) 0 = byteOf (es.length : Int) := by unfold byB; rw [hp]; rfl
  have hn := toNat_byteOf (es.length : Int) (by omega) (by omega)
  rw [← hb] at hn
  have hn' : (byB (packB es es.length) 0).toNat = es.length := by omega
  have he : (packB es es.length).extract 1 (packB es es.length).size = ⟨(catL es ++ []).toArray⟩ := by
    apply ba_ext
    rw [ex_end, hp, toList_mk, List.append_nil]
    rfl
  have hs : ¬ ((packB es es.length).size = 0 ∨ 200 < (byB (packB es es.length) 0).toNat) := by
    rw [← list_size, hp, hn', List.length_cons]
    omega
  unfold unpackE
  rw [if_neg hs, he, hn', unpN_cat es h [] es.length (Nat.le_refl _), List.take_length, List.drop_length]
  rfl
theorem unpackE_some {s : ByteArray} {es : List Ent} (h : unpackE s = some es) : (∀ e ∈ es, e.ok) ∧ es.length ≤ 200 ∧ s = packB es es.length := by
  unfold unpackE at h
  by_cases hs : s.size = 0 ∨ 200 < (byB s 0).toNat
  · rw [if_pos hs] at h; cases h
  · rw [if_neg hs] at h
    cases hu : unpN (byB s 0).toNat (s.extract 1 s.size) with
    | none => rw [hu] at h; cases h
    | some p =>
      obtain ⟨es', q⟩ := p
      rw [hu] at h
      unfold unpEnd at h
      simp only at h
      by_cases hq : q.size = 0
      · rw [if_pos hq] at h
        obtain rfl : es' = es := by simpa using h
        obtain ⟨h1, h2, h3⟩ := unpN_some _ _ _ _ hu
        refine ⟨h2, by omega, ?_⟩
        apply ba_ext
        rw [packB_list, List.take_length, h1]
        have hq0 : q.data.toList = [] := List.eq_nil_of_length_eq_zero (by rw [list_size]; exact hq)
        rw [ex_end, hq0, List.append_nil] at h3
        rw [← h3, byteOf_toNat]
        unfold byB
        have hlen : 0 < s.data.toList.length := by rw [list_size]; omega
        generalize s.data.toList = l at *
        match l, hlen with
        | a :: l, _ => rfl
      · rw [if_neg hq] at h; cases h
end Go.Proofs.YtcgfdhgceokcnaaGreatDoor

namespace Go.Proofs.YtcgfdhgceokcnaaGreatDoor
open Go.RowKit
set_option linter.unusedVariables false
attribute [local go_sem ↓] Go.wp_at_zero Go.wp_at_succ

theorem ofInt_u (n : Nat) (h : n < 18446744073709551616) : (BitVec.ofInt 64 (n : Int)).toNat = n := by
  rw [BitVec.toNat_ofInt]; omega
theorem or_add (a b i : Nat) (hb : b < 2 ^ i) (h : a * 2 ^ i + b < 9223372036854775807) : bits .or .i64 ((a * 2 ^ i : Nat) : Int) (b : Int) = ((a * 2 ^ i + b : Nat) : Int) := by
  show IntKind.i64.wrap ((BitVec.ofInt 64 ((a * 2 ^ i : Nat) : Int) ||| BitVec.ofInt 64 (b : Int)).toNat : Int) = _
  rw [BitVec.toNat_or, ofInt_u _ (by omega), ofInt_u b (by omega), Nat.mul_comm a, ← Nat.two_pow_add_eq_or_of_lt hb, Nat.mul_comm]
  exact IntWalk.i64_in _ (by omega)
theorem or_hi (a b : Nat) (ha : a < 256) (hb : b < 256) : bits .or .i64 ((a : Int) * 65536) ((b : Int) * 256) = (a : Int) * 65536 + (b : Int) * 256 := by
  have h := or_add a (b * 256) 16 (by omega) (by omega)
  rw [show ((a * 2 ^ 16 : Nat) : Int) = (a : Int) * 65536 by omega, show ((b * 256 : Nat) : Int) = (b : Int) * 256 by omega] at h
  rw [h]
  omega
theorem or_lo (a b c : Nat) (ha : a < 256) (hb : b < 256) (hc : c < 256) : bits .or .i64 ((a : Int) * 65536 + (b : Int) * 256) (c : Int) = (a : Int) * 65536 + (b : Int) * 256 + (c : Int) := by
  have h := or_add (a * 256 + b) c 8 (by omega) (by omega)
  rw [show (((a * 256 + b) * 2 ^ 8 : Nat) : Int) = (a : Int) * 65536 + (b : Int) * 256 by omega] at h
  rw [h]
  omega

theorem w_small {n : Int} (h0 : 0 ≤ n) (h : n < 256) : wrap64 n = n := by unfold wrap64; omega
theorem w_four {n : Int} (h0 : 0 ≤ n) (h : n < 256) : wrap64 (4 + n) = 4 + n := by unfold wrap64; omega
theorem i_four {n : Int} (h0 : 0 ≤ n) (h : n < 256) : IntKind.i64.wrap (4 + n) = 4 + n := IntWalk.i64_in _ (by omega)
theorem i_small {n : Int} (h0 : 0 ≤ n) (h : n < 256) : IntKind.i64.wrap n = n := IntWalk.i64_in _ (by omega)
theorem u8_lt (b : UInt8) : 0 ≤ (b.toNat : Int) ∧ (b.toNat : Int) < 256 := by have := b.toNat_lt; omega
theorem u8_ltN (b : UInt8) : b.toNat < 256 := b.toNat_lt
theorem four_le {n : Int} (h0 : 0 ≤ n) : (4 : Int) ≤ 4 + n := by omega
theorem four_le' {n m : Nat} (h : 4 + n ≤ m) : 4 + (n : Int) ≤ (m : Int) := by omega
theorem four_0 {n : Int} (h0 : 0 ≤ n) : (0 : Int) ≤ 4 + n := by omega
theorem lt_int {n m : Nat} (h : n < m) : (n : Int) < (m : Int) := by omega
theorem w_hi {a : Nat} (h : a < 256) : wrap64 ((a : Int) * 65536) = (a : Int) * 65536 := by unfold wrap64; omega
theorem w_mid {a : Nat} (h : a < 256) : wrap64 ((a : Int) * 256) = (a : Int) * 256 := by unfold wrap64; omega
theorem four_m {n m : Nat} (h : 4 + n ≤ m) : (4 : Int) ≤ (m : Int) := by omega

set_option maxHeartbeats 1000000 in
set_option maxRecDepth 100000 in
theorem first_long (s : ByteArray) (w : World) (hs : s.size ≤ maxLen) (h0 : 0 < s.size) (h1 : 1 < s.size) (h2 : 2 < s.size) (h3 : 3 < s.size) (b0 b1 b2 b3 : UInt8) (g0 : s[0]'h0 = b0) (g1 : s[1]'h1 = b1) (g2 : s[2]'h2 = b2) (g3 : s[3]'h3 = b3) (hl : 4 + b3.toNat ≤ s.size) (tm : Int) (dt rs : ByteArray) (ok : Bool) (ht : Hid (tm = (b0.toNat : Int) * 65536 + (b1.toNat : Int) * 256 + (b2.toNat : Int))) (hd : Hid (dt = s.extract 4 (4 + b3.toNat))) (hrs : Hid (rs = s.extract (4 + b3.toNat) s.size)) (hok : Hid (ok = decide (Ent.ok ⟨tm, dt⟩)))  :
    Calls Tryz.prog 52 #[.string s] w fun e w' => e = .returned (.tuple #[.agg #[.int .i64 tm, .string dt], .string rs, .bool ok]) ∧ Ext w w' := by
  unfold maxLen at hs
  have k0 := w_small (u8_lt b0).1 (u8_lt b0).2
  have k1 := w_small (u8_lt b1).1 (u8_lt b1).2
  have k2 := w_small (u8_lt b2).1 (u8_lt b2).2
  have k3 := w_small (u8_lt b3).1 (u8_lt b3).2
  have l3 := (u8_lt b3).2
  have q1 := four_le (u8_lt b3).1
  have q2 := four_le' hl
  have q3 := w_four (u8_lt b3).1 (u8_lt b3).2
  have q4 := i_four (u8_lt b3).1 (u8_lt b3).2
  have q5 := four_0 (u8_lt b3).1
  have q6 := four_m hl
  have i1 : (1 : Int) < (s.size : Int) := lt_int h1
  have i2 : (2 : Int) < (s.size : Int) := lt_int h2
  have i0 : (0 : Int) < (s.size : Int) := lt_int h0
  have HV : Hid (bits BinOp.or IntKind.i64 (bits BinOp.or IntKind.i64 (wrap64 ((b0.toNat : Int) * 65536)) (wrap64 ((b1.toNat : Int) * 256))) (b2.toNat : Int) = tm) := by
    show _ = _
    rw [w_hi (u8_ltN b0), w_mid (u8_ltN b1), or_hi b0.toNat b1.toNat (u8_ltN b0) (u8_ltN b1), or_lo b0.toNat b1.toNat b2.toNat (u8_ltN b0) (u8_ltN b1) (u8_ltN b2), ht.out]
  go_enter Tryz.func52, Tryz.ntmps52
  go_wp2_with fail
  go_region
  rw [HV.out, ← hd.out]
  have B1 : Bk ((w.alloc (.cells #[.int .i64 0, .string ⟨#[]⟩] 60)).alloc (.cells #[.int .i64 tm, .string dt] 60)).drew (w.heap.size + 1) 60 #[.int .i64 tm, .string dt] := Bk.at_ _ _ _ _ (by simp)
  have E1 : Ext w ((w.alloc (.cells #[.int .i64 0, .string ⟨#[]⟩] 60)).alloc (.cells #[.int .i64 tm, .string dt] 60)).drew := by (repeat (with_reducible first | exact Ext.refl _ | assumption | refine Ext.drew ?_ | refine Ext.drewN ?_ _ | refine Ext.alloc ?_ _ | refine Ext.trans ?_ (by with_reducible assumption)))
  have B0 : Bk ((w.alloc (.cells #[.int .i64 0, .string ⟨#[]⟩] 60)).alloc (.cells #[.int .i64 tm, .string dt] 60)).drew w.heap.size 60 #[.int .i64 0, .string ⟨#[]⟩] := (Bk.at_ _ _ _ _ rfl).alloc _
  generalize ((w.alloc (.cells #[.int .i64 0, .string ⟨#[]⟩] 60)).alloc (.cells #[.int .i64 tm, .string dt] 60)).drew = w5 at *
  have c0 := B1.cell 0
  have c1 := B1.cell 1
  have d0 := B0.cell 0
  have d1 := B0.cell 1
  have HB1 := Lib.hid B1
  have HB0 := Lib.hid B0
  clear HV k0 k1 k2 k3
  cases ok
  · have hn : ¬ Ent.ok ⟨tm, dt⟩ := of_decide_eq_false hok.out.symm
    clear hok
    go_wp2_with fail
    go_region_held3 (fun W => W.cell? ⟨w.heap.size + 1, 0, none⟩ = some (.int .i64 tm) ∧ W.cell? ⟨w.heap.size + 1, 1, none⟩ = some (.string dt)) (first | exact ⟨c0, c1⟩ | exact ⟨(((HB1.out.drew.ext hb6).far (by simp) _).far (by simp) _).cell 0, (((HB1.out.drew.ext hb6).far (by simp) _).far (by simp) _).cell 1⟩ | exact ⟨(HB1.out.ext (by (repeat (with_reducible first | exact Ext.refl _ | assumption | refine Ext.drew ?_ | refine Ext.drewN ?_ _ | refine Ext.alloc ?_ _ | refine Ext.trans ?_ (by with_reducible assumption))))).cell 0, (HB1.out.ext (by (repeat (with_reducible first | exact Ext.refl _ | assumption | refine Ext.drew ?_ | refine Ext.drewN ?_ _ | refine Ext.alloc ?_ _ | refine Ext.trans ?_ (by with_reducible assumption))))).cell 1⟩) (first
      | (go_at_call 51; (with_reducible refine (eCheck_bad tm dt _ hn).mono ?_); rintro e w6 ⟨rfl, hb6⟩; simp only [errV]; have B6 := (HB0.out.drew).ext hb6; have p0 := B6.cell 0; have p1 := B6.cell 1; have p2 := B6.frozen 0; have p3 := B6.frozen 1)
      | fail)
    have B7 := (B6.set_ 0 (.int .i64 tm)).set_ 1 (.string dt)
    have e0 : ((w6.setCell ⟨w.heap.size, 0, none⟩ (.int .i64 tm)).setCell ⟨w.heap.size, 1, none⟩ (.string dt)).cell? ⟨w.heap.size, 0, none⟩ = some (.int .i64 tm) := (B7.cell 0).trans rfl
    have e1 : ((w6.setCell ⟨w.heap.size, 0, none⟩ (.int .i64 tm)).setCell ⟨w.heap.size, 1, none⟩ (.string dt)).cell? ⟨w.heap.size, 1, none⟩ = some (.string dt) := (B7.cell 1).trans rfl
    have HRS : Hid (s.extract (4 + (b3.toNat : Int)).toNat s.size = rs) := by show _ = _; rw [hrs.out, show (4 + (b3.toNat : Int)).toNat = 4 + b3.toNat by omega]
    have E7 : Ext w ((w6.setCell ⟨w.heap.size, 0, none⟩ (.int .i64 tm)).setCell ⟨w.heap.size, 1, none⟩ (.string dt)) := by
      have hb6' : Ext w w6 := E1.trans (Ext.trans (Ext.drew (Ext.refl _)) hb6)
      exact (hb6'.setCell (p := ⟨w.heap.size, 0, none⟩) (Nat.le_refl _) _).setCell (p := ⟨w.heap.size, 1, none⟩) (Nat.le_refl _) _
    clear p0 p1 c0 c1 d0 d1
    go_wp2_with fail
    rw [HRS.out]
    refine bodyPost_ret (by simp [results, Tryz.results52, go_sem, e0, e1]; try rfl) rfl ?_
    exact ⟨rfl, E7⟩
  · have hy : Ent.ok ⟨tm, dt⟩ := of_decide_eq_true hok.out.symm
    clear hok
    go_wp2_with fail
    go_region_held3 (fun W => W.cell? ⟨w.heap.size + 1, 0, none⟩ = some (.int .i64 tm) ∧ W.cell? ⟨w.heap.size + 1, 1, none⟩ = some (.string dt)) (first | exact ⟨c0, c1⟩ | exact ⟨(((HB1.out.drew.ext hb6).far (by simp) _).far (by simp) _).cell 0, (((HB1.out.drew.ext hb6).far (by simp) _).far (by simp) _).cell 1⟩ | exact ⟨(HB1.out.ext (by (repeat (with_reducible first | exact Ext.refl _ | assumption | refine Ext.drew ?_ | refine Ext.drewN ?_ _ | refine Ext.alloc ?_ _ | refine Ext.trans ?_ (by with_reducible assumption))))).cell 0, (HB1.out.ext (by (repeat (with_reducible first | exact Ext.refl _ | assumption | refine Ext.drew ?_ | refine Ext.drewN ?_ _ | refine Ext.alloc ?_ _ | refine Ext.trans ?_ (by with_reducible assumption))))).cell 1⟩) (first
      | (go_at_call 51; (with_reducible refine (eCheck_ok tm dt _ hy).mono ?_); rintro e w6 ⟨rfl, hb6⟩; have B6 := (HB0.out.drew).ext hb6; have p0 := B6.cell 0; have p1 := B6.cell 1; have p2 := B6.frozen 0; have p3 := B6.frozen 1)
      | fail)
    have B7 := (B6.set_ 0 (.int .i64 tm)).set_ 1 (.string dt)
    have e0 : ((w6.setCell ⟨w.heap.size, 0, none⟩ (.int .i64 tm)).setCell ⟨w.heap.size, 1, none⟩ (.string dt)).cell? ⟨w.heap.size, 0, none⟩ = some (.int .i64 tm) := (B7.cell 0).trans rfl
    have e1 : ((w6.setCell ⟨w.heap.size, 0, none⟩ (.int .i64 tm)).setCell ⟨w.heap.size, 1, none⟩ (.string dt)).cell? ⟨w.heap.size, 1, none⟩ = some (.string dt) := (B7.cell 1).trans rfl
    have HRS : Hid (s.extract (4 + (b3.toNat : Int)).toNat s.size = rs) := by show _ = _; rw [hrs.out, show (4 + (b3.toNat : Int)).toNat = 4 + b3.toNat by omega]
    have E7 : Ext w ((w6.setCell ⟨w.heap.size, 0, none⟩ (.int .i64 tm)).setCell ⟨w.heap.size, 1, none⟩ (.string dt)) := by
      have hb6' : Ext w w6 := E1.trans (Ext.trans (Ext.drew (Ext.refl _)) hb6)
      exact (hb6'.setCell (p := ⟨w.heap.size, 0, none⟩) (Nat.le_refl _) _).setCell (p := ⟨w.heap.size, 1, none⟩) (Nat.le_refl _) _
    clear p0 p1 c0 c1 d0 d1
    go_wp2_with fail
    rw [HRS.out]
    refine bodyPost_ret (by simp [results, Tryz.results52, go_sem, e0, e1]; try rfl) rfl ?_
    exact ⟨rfl, E7⟩

theorem lt_four {n m : Nat} (h : m < 4 + n) : (m : Int) < 4 + (n : Int) := by omega
set_option maxRecDepth 100000 in
theorem first_short (s : ByteArray) (w : World) (hs : s.size ≤ maxLen) (h : ¬ (4 ≤ s.size ∧ 4 + (byB s 3).toNat ≤ s.size)) :
    Calls Tryz.prog 52 #[.string s] w fun e w' => e = .returned (.tuple #[.agg #[.int .i64 0, .string ⟨#[]⟩], .string s, .bool false]) ∧ Ext w w' := by
  unfold maxLen at hs
  by_cases h4 : s.size < 4
  · clear h
    go_enter Tryz.func52, Tryz.ntmps52
    go_wp2_with fail
    refine bodyPost_ret (by simp [results, Tryz.results52, go_sem]; try rfl) rfl ?_
    exact ⟨rfl, (Ext.alloc (Ext.refl w) _)⟩
  · have h3 : 3 < s.size := by omega
    have g3 := byB_get s 3 h3
    have hl : s.size < 4 + (byB s 3).toNat := by omega
    generalize byB s 3 = b3 at *
    clear h
    have k3 := w_small (u8_lt b3).1 (u8_lt b3).2
    have l3 := (u8_lt b3).2
    have q3 := w_four (u8_lt b3).1 (u8_lt b3).2
    have q4 := i_four (u8_lt b3).1 (u8_lt b3).2
    have q5 := lt_four hl
    go_enter Tryz.func52, Tryz.ntmps52
    go_wp2_with fail
    refine bodyPost_ret (by simp [results, Tryz.results52, go_sem]; try rfl) rfl ?_
    exact ⟨rfl, (Ext.alloc (Ext.refl w) _)⟩

/-- what 'first' answers -/
theorem first_some (s : ByteArray) (e : Ent) (r : ByteArray) (w : World) (hs : s.size ≤ maxLen) (h : takeE s = some (e, r)) :
    Calls Tryz.prog 52 #[.string s] w fun x w' => x = .returned (.tuple #[.agg #[.int .i64 e.time, .string e.data], .string r, .bool true]) ∧ Ext w w' := by
  by_cases hc : 4 ≤ s.size ∧ 4 + (byB s 3).toNat ≤ s.size ∧ (entOf s).ok
  · unfold takeE at h
    rw [if_pos hc] at h
    simp only [Option.some.injEq, Prod.mk.injEq] at h
    obtain ⟨rfl, rfl⟩ := h
    obtain ⟨h1, h2, h3⟩ := hc
    exact first_long s w hs (by omega) (by omega) (by omega) (by omega) _ _ _ _ (byB_get s 0 (by omega)) (byB_get s 1 (by omega)) (byB_get s 2 (by omega)) (byB_get s 3 (by omega)) h2 _ _ _ true (Lib.hid rfl) (Lib.hid rfl) (Lib.hid rfl) (Lib.hid (decide_eq_true h3).symm)
  · rw [takeE_none hc] at h; cases h
theorem first_none (s : ByteArray) (w : World) (hs : s.size ≤ maxLen) (h : takeE s = none) :
    Calls Tryz.prog 52 #[.string s] w fun x w' => (∃ (t : Int) (d r : ByteArray), x = .returned (.tuple #[.agg #[.int .i64 t, .string d], .string r, .bool false])) ∧ Ext w w' := by
  by_cases hc : 4 ≤ s.size ∧ 4 + (byB s 3).toNat ≤ s.size
  · obtain ⟨h1, h2⟩ := hc
    have h3 : ¬ (entOf s).ok := fun hh => by unfold takeE at h; rw [if_pos ⟨h1, h2, hh⟩] at h; cases h
    exact (first_long s w hs (by omega) (by omega) (by omega) (by omega) _ _ _ _ (byB_get s 0 (by omega)) (byB_get s 1 (by omega)) (byB_get s 2 (by omega)) (byB_get s 3 (by omega)) h2 _ _ _ false (Lib.hid rfl) (Lib.hid rfl) (Lib.hid rfl) (Lib.hid (decide_eq_false h3).symm)).mono fun x w' hh => ⟨⟨_, _, _, hh.1⟩, hh.2⟩
  · exact (first_short s w hs hc).mono fun x w' hh => ⟨⟨_, _, _, hh.1⟩, hh.2⟩
end Go.Proofs.YtcgfdhgceokcnaaGreatDoor

namespace Go.Proofs.YtcgfdhgceokcnaaGreatDoor
open Go.RowKit
set_option linter.unusedVariables false
attribute [local go_sem ↓] Go.wp_at_zero Go.wp_at_succ

theorem takeE_size {s : ByteArray} {e : Ent} {r : ByteArray} (h : takeE s = some (e, r)) : r.size ≤ s.size := by
  obtain ⟨_, h2⟩ := takeE_some h
  rw [h2, size_cat]; omega

/-- bytes of one entry alone -/
theorem takeE_one (e : Ent) (h : e.ok) : takeE e.bytes = some (e, ⟨#[]⟩) := by
  have := takeE_bytes e ⟨#[]⟩ h
  rwa [show e.bytes ++ ⟨#[]⟩ = e.bytes from ba_ext (by rw [toList_cat]; simp)] at this
set_option maxRecDepth 100000 in
theorem Decode_ok (s : ByteArray) (e : Ent) (w : World) (hs : s.size ≤ maxLen) (h : takeE s = some (e, ⟨#[]⟩)) :
    Calls Tryz.prog 26 #[.string s] w fun x w' => x = .returned (.tuple #[.agg #[.int .i64 e.time, .string e.data], .nilIface]) ∧ Ext w w' := by
  go_enter Tryz.func26, Tryz.ntmps26
  go_wp2_with fail
  refine (first_some s e _ _ hs h).mono ?_
  rintro _ w1 ⟨rfl, hb1⟩
  have B0 : Bk w1 w.heap.size 60 #[.int .i64 0, .string ⟨#[]⟩] := by (repeat (with_reducible first | assumption | (refine Bk.at_ _ _ _ _ ?_; simp; done) | refine Bk.drew ?_ | refine Bk.drewN ?_ _ | refine Bk.alloc ?_ _ | refine Bk.ext ?_ (by with_reducible assumption)))
  have hz := B0.lt
  have c0 := B0.cell
  have f0 := B0.frozen
  go_wp2_with fail
  have B1 := ((B0.set_ 0 (.int .i64 e.time)).set_ 1 (.string e.data)).alloc (.cells #[.int .i64 e.time, .string e.data] 60)
  have e0 := B1.cell 0
  have e1 := B1.cell 1
  simp at e0 e1
  refine bodyPost_ret (by simp [results, Tryz.results26, go_sem, e0, e1]; try rfl) rfl ?_
  have E1 : Ext w w1 := by (repeat (with_reducible first | exact Ext.refl _ | assumption | refine Ext.drew ?_ | refine Ext.drewN ?_ _ | refine Ext.alloc ?_ _ | refine Ext.trans ?_ (by with_reducible assumption)))
  exact ⟨rfl, ((E1.setCell (p := ⟨w.heap.size, 0, none⟩) (Nat.le_refl _) _).setCell (p := ⟨w.heap.size, 1, none⟩) (Nat.le_refl _) _).alloc _⟩

theorem flat_snoc (es : List Ent) (e : Ent) : (es ++ [e]).flatMap Ent.cells = es.flatMap Ent.cells ++ e.cells := by simp
theorem unpN_size {n : Nat} {s q : ByteArray} {es : List Ent} (h : unpN n s = some (es, q)) : q.size ≤ s.size := by
  have := (unpN_some _ _ _ _ h).2.2
  have h2 := congrArg List.length this
  rw [List.length_append, list_size, list_size] at h2
  omega

theorem str_some {s : ByteArray} (h : 0 < s.size) : s.toList.isEmpty = false ∧ ¬ s.toList = [] := by
  have : ¬ s.toList = [] := by
    rw [Lib.toList_data]
    intro h'
    rw [← list_size, h'] at h
    exact absurd h (by simp)
  refine ⟨?_, this⟩
  cases hs : s.toList with
  | nil => exact absurd hs this
  | cons a l => rfl
theorem str_none {s : ByteArray} (h : s.size = 0) : s = ⟨#[]⟩ := ba_ext (List.eq_nil_of_length_eq_zero (by rw [list_size]; exact h))
/-- what Unpack answers -/
def UnpPost (s : ByteArray) (w : World) (e : Ending) (w' : World) : Prop :=
  match unpackE s with
  | some es => ∃ v, e = .returned (.tuple #[v, .nilIface]) ∧ w'.ownsRow w.heap.size 60 2 v es.length (es.flatMap Ent.cells)
  | none => e = .returned (.tuple #[.slice none 0 0, errV 2])
theorem UnpPost.none {s : ByteArray} {w w' : World} {e : Ending} (h : unpackE s = none) (k : e = .returned (.tuple #[.slice none 0 0, errV 2])) : UnpPost s w e w' := by
  unfold UnpPost; rw [h]; exact k
theorem UnpPost.some {s : ByteArray} {w w' : World} {v : Value} {es : List Ent} (h : unpackE s = some es) (k : w'.ownsRow w.heap.size 60 2 v es.length (es.flatMap Ent.cells)) : UnpPost s w (.returned (.tuple #[v, .nilIface])) w' := by
  unfold UnpPost; rw [h]; exact ⟨_, rfl, k⟩

def encK (e : Ent) : Int := if e.ok then 0 else e.err
def encB (e : Ent) : ByteArray := if e.ok then e.bytes else ⟨#[]⟩
theorem Encode_any (t : Int) (s : ByteArray) (w : World) :
    Calls Tryz.prog 25 #[.agg #[.int .i64 t, .string s]] w fun e w' => e = .returned (.tuple #[.string (encB ⟨t, s⟩), errR (encK ⟨t, s⟩)]) ∧ Ext w w' := by
  by_cases h : (⟨t, s⟩ : Ent).ok
  · refine (Encode_ok t s w h).mono fun e w' hh => ⟨hh.1.trans ?_, hh.2⟩
    unfold encB encK; rw [if_pos h, if_pos h]; rfl
  · refine (Encode_bad t s w h).mono fun e w' hh => ⟨hh.1.trans ?_, hh.2⟩
    unfold encB encK; rw [if_neg h, if_neg h, errR_ne (Ent.err_ne _)]
theorem encK_zero {e : Ent} : encK e = 0 ↔ e.ok := by
  unfold encK
  by_cases h : e.ok
  · simp [h]
  · simp [h, e.err_ne]
def packR (es : List Ent) : ByteArray := if entsErr es = 0 then packB es es.length else ⟨#[]⟩
theorem entsErr_zero {es : List Ent} : entsErr es = 0 ↔ entsOk es :=
  ⟨fun h => Classical.byContradiction fun hk => entsErr_bad hk h, entsErr_ok⟩
end Go.Proofs.YtcgfdhgceokcnaaGreatDoor

/- The references' entries. -/
namespace Go.Proofs.YtcgfdhgceokcnaaGreatDoor
open Go.RowKit Go.WideShapes
set_option linter.unusedVariables false
attribute [local go_sem ↓] Go.wp_at_zero Go.wp_at_succ

theorem encK_ways (t : Int) (s : ByteArray) : (t < 0 ∧ encK ⟨t, s⟩ = 1) ∨ (0 ≤ t ∧ 1000000 < t ∧ encK ⟨t, s⟩ = 1) ∨ (0 ≤ t ∧ t ≤ 1000000 ∧ 200 < s.size ∧ encK ⟨t, s⟩ = 4) ∨ (0 ≤ t ∧ t ≤ 1000000 ∧ s.size ≤ 200 ∧ encK ⟨t, s⟩ = 0) := by
  by_cases h : (⟨t, s⟩ : Ent).ok
  · have hk : encK ⟨t, s⟩ = 0 := if_pos h
    obtain ⟨h0, h1, h2⟩ := h
    exact .inr (.inr (.inr ⟨h0, h1, h2, hk⟩))
  · have hk : encK ⟨t, s⟩ = Ent.err ⟨t, s⟩ := if_neg h
    unfold Ent.ok at h
    simp only at h
    by_cases h2 : t < 0 ∨ 1000000 < t
    · have he : Ent.err ⟨t, s⟩ = 1 := if_pos h2
      rw [he] at hk
      omega
    · have he : Ent.err ⟨t, s⟩ = 4 := if_neg h2
      rw [he] at hk
      omega

end Go.Proofs.YtcgfdhgceokcnaaGreatDoor

/- The references' entries: one taken off bytes. -/
namespace Go.Proofs.YtcgfdhgceokcnaaGreatDoor
open Go.RowKit Go.WideShapes
set_option linter.unusedVariables false
attribute [local go_sem ↓] Go.wp_at_zero Go.wp_at_succ

theorem w_s1 {a b : Nat} (ha : a < 256) (hb : b < 256) : wrap64 ((a : Int) * 65536 + (b : Int) * 256) = (a : Int) * 65536 + (b : Int) * 256 := by unfold wrap64; omega
theorem w_s2 {a b c : Nat} (ha : a < 256) (hb : b < 256) (hc : c < 256) : wrap64 ((a : Int) * 65536 + (b : Int) * 256 + (c : Int)) = (a : Int) * 65536 + (b : Int) * 256 + (c : Int) := by unfold wrap64; omega

end Go.Proofs.YtcgfdhgceokcnaaGreatDoor

/- The references' entries: their bytes. -/
namespace Go.Proofs.YtcgfdhgceokcnaaGreatDoor
open Go.RowKit Go.WideShapes
set_option linter.unusedVariables false
attribute [local go_sem ↓] Go.wp_at_zero Go.wp_at_succ

theorem four_one (t : Int) (h0 : 0 ≤ t) (h1 : t ≤ 1000000) : wrap64 (t.tdiv 65536) % 256 = t / 65536 % 256 := by
  rw [Int.tdiv_eq_ediv_of_nonneg h0]
  unfold wrap64
  omega
theorem four_two (t : Int) (h0 : 0 ≤ t) (h1 : t ≤ 1000000) : (wrap64 (t.tdiv 256)).tmod 256 % 256 = t / 256 % 256 := by
  rw [Int.tdiv_eq_ediv_of_nonneg h0]
  have : wrap64 (t / 256) = t / 256 := by unfold wrap64; omega
  rw [this, Int.tmod_eq_emod_of_nonneg (by omega)]
  omega
theorem four_three (t : Int) (h0 : 0 ≤ t) (h1 : t ≤ 1000000) : t.tmod 256 % 256 = t % 256 := by
  rw [Int.tmod_eq_emod_of_nonneg h0]
  omega
theorem bytes_of {t : Int} {s : ByteArray} {a b c d : Int} (ha : a = t / 65536 % 256) (hb : b = t / 256 % 256) (hc : c = t % 256) (hd : d = (s.size : Int) % 256) :
    (([a, b, c, d] : List Int) ++ s.data.toList.map fun (b : UInt8) => (b.toNat : Int)).map byteOf = (⟨t, s⟩ : Ent).bytes.data.toList := by
  subst ha hb hc hd
  rw [List.map_append, List.map_map, Ent.bytes_list]
  have : (byteOf ∘ fun (b : UInt8) => (b.toNat : Int)) = id := by funext b; exact byteOf_toNat b
  rw [this, List.map_id]; rfl
theorem bytes_cells (s : ByteArray) (a b c d : Int) : List.map (Value.int .u8) [a, b, c, d] ++ newsS s = (([a, b, c, d] : List Int) ++ s.data.toList.map fun (b : UInt8) => (b.toNat : Int)).map (Value.int .u8) := by rw [List.map_append, newsS_int]
theorem ba_list (s : ByteArray) : (⟨s.data.toList.toArray⟩ : ByteArray) = s := ba_ext (by rw [toList_mk])

end Go.Proofs.YtcgfdhgceokcnaaGreatDoor

/- The references' entries: all walks. -/
namespace Go.Proofs.YtcgfdhgceokcnaaGreatDoor
open Go.RowKit Go.WideShapes
set_option linter.unusedVariables false
attribute [local go_sem ↓] Go.wp_at_zero Go.wp_at_succ

/-! ### Check, both ways -/
theorem eCheck_any (t : Int) (s : ByteArray) (w : World) :
    Calls Tryz.prog 51 #[.agg #[.int .i64 t, .string s]] w fun e w' => e = .returned (errR (encK ⟨t, s⟩)) ∧ Ext w w' := by
  by_cases h : (⟨t, s⟩ : Ent).ok
  · refine (eCheck_ok t s w h).mono fun e w' hh => ⟨hh.1.trans ?_, hh.2⟩
    unfold encK; rw [if_pos h]; rfl
  · refine (eCheck_bad t s w h).mono fun e w' hh => ⟨hh.1.trans ?_, hh.2⟩
    unfold encK; rw [if_neg h, errR_ne (Ent.err_ne _)]

/-! ### Decode -/
def decO (s : ByteArray) : Option Ent := match takeE s with
  | some (e, r) => if r.size = 0 then some e else none
  | none => none
def decE (s : ByteArray) : Ent := (decO s).getD ⟨0, ⟨#[]⟩⟩
def decB (s : ByteArray) : Bool := (decO s).isSome
def decK (s : ByteArray) : Int := if decB s then 0 else 2
theorem dec_some {s r : ByteArray} {e : Ent} (h : takeE s = some (e, r)) (hr : r.size = 0) : decE s = e ∧ decB s = true ∧ decK s = 0 := by
  have : decO s = some e := by unfold decO; rw [h]; exact if_pos hr
  have hb : decB s = true := by unfold decB; rw [this]; rfl
  exact ⟨by unfold decE; rw [this]; rfl, hb, by unfold decK; rw [hb]; rfl⟩
theorem dec_none' {s : ByteArray} (h : decO s = none) : decE s = ⟨0, ⟨#[]⟩⟩ ∧ decB s = false ∧ decK s = 2 := by
  have hb : decB s = false := by unfold decB; rw [h]; rfl
  exact ⟨by unfold decE; rw [h]; rfl, hb, by unfold decK; rw [hb]; rfl⟩
theorem dec_none {s : ByteArray} (h : takeE s = none) : decE s = ⟨0, ⟨#[]⟩⟩ ∧ decB s = false ∧ decK s = 2 := dec_none' (by unfold decO; rw [h])
theorem dec_rest {s r : ByteArray} {e : Ent} (h : takeE s = some (e, r)) (hr : r.size ≠ 0) : decE s = ⟨0, ⟨#[]⟩⟩ ∧ decB s = false ∧ decK s = 2 := dec_none' (by unfold decO; rw [h]; exact if_neg hr)

set_option maxRecDepth 100000 in
theorem Decode_rest (s : ByteArray) (e : Ent) (r : ByteArray) (w : World) (hs : s.size ≤ maxLen) (h : takeE s = some (e, r)) (hr : r.size ≠ 0) :
    Calls Tryz.prog 26 #[.string s] w fun x w' => x = .returned (.tuple #[.agg #[.int .i64 0, .string ⟨#[]⟩], errV 2]) ∧ Ext w w' := by
  obtain ⟨q1, q2⟩ := str_some (s := r) (by omega)
  go_enter Tryz.func26, Tryz.ntmps26
  go_wp2_with fail
  refine (first_some s e _ _ hs h).mono ?_
  rintro _ w1 ⟨rfl, hb1⟩
  have B0 : Bk w1 w.heap.size 60 #[.int .i64 0, .string ⟨#[]⟩] := by (repeat (with_reducible first | assumption | (refine Bk.at_ _ _ _ _ ?_; simp; done) | refine Bk.drew ?_ | refine Bk.drewN ?_ _ | refine Bk.alloc ?_ _ | refine Bk.ext ?_ (by with_reducible assumption)))
  have hz := B0.lt
  have c0 := B0.cell
  have f0 := B0.frozen
  go_wp2_with fail
  have B1 := ((B0.set_ 0 (.int .i64 0)).set_ 1 (.string ⟨#[]⟩)).alloc (.cells #[.int .i64 e.time, .string e.data] 60)
  have e0 := B1.cell 0
  have e1 := B1.cell 1
  simp at e0 e1
  refine bodyPost_ret (by simp [results, Tryz.results26, go_sem, e0, e1]; try rfl) rfl ?_
  have E1 : Ext w w1 := by (repeat (with_reducible first | exact Ext.refl _ | assumption | refine Ext.drew ?_ | refine Ext.drewN ?_ _ | refine Ext.alloc ?_ _ | refine Ext.trans ?_ (by with_reducible assumption)))
  exact ⟨rfl, ((E1.setCell (p := ⟨w.heap.size, 0, none⟩) (Nat.le_refl _) _).setCell (p := ⟨w.heap.size, 1, none⟩) (Nat.le_refl _) _).alloc _⟩
set_option maxRecDepth 100000 in
theorem Decode_none (s : ByteArray) (w : World) (hs : s.size ≤ maxLen) (h : takeE s = none) :
    Calls Tryz.prog 26 #[.string s] w fun x w' => x = .returned (.tuple #[.agg #[.int .i64 0, .string ⟨#[]⟩], errV 2]) ∧ Ext w w' := by
  go_enter Tryz.func26, Tryz.ntmps26
  go_wp2_with fail
  refine (first_none s _ hs h).mono ?_
  rintro _ w1 ⟨⟨t', d', r', rfl⟩, hb1⟩
  have B0 : Bk w1 w.heap.size 60 #[.int .i64 0, .string ⟨#[]⟩] := by (repeat (with_reducible first | assumption | (refine Bk.at_ _ _ _ _ ?_; simp; done) | refine Bk.drew ?_ | refine Bk.drewN ?_ _ | refine Bk.alloc ?_ _ | refine Bk.ext ?_ (by with_reducible assumption)))
  have hz := B0.lt
  have c0 := B0.cell
  have f0 := B0.frozen
  go_wp2_with fail
  have B1 := ((B0.set_ 0 (.int .i64 0)).set_ 1 (.string ⟨#[]⟩)).alloc (.cells #[.int .i64 t', .string d'] 60)
  have e0 := B1.cell 0
  have e1 := B1.cell 1
  simp at e0 e1
  refine bodyPost_ret (by simp [results, Tryz.results26, go_sem, e0, e1]; try rfl) rfl ?_
  have E1 : Ext w w1 := by (repeat (with_reducible first | exact Ext.refl _ | assumption | refine Ext.drew ?_ | refine Ext.drewN ?_ _ | refine Ext.alloc ?_ _ | refine Ext.trans ?_ (by with_reducible assumption)))
  exact ⟨rfl, ((E1.setCell (p := ⟨w.heap.size, 0, none⟩) (Nat.le_refl _) _).setCell (p := ⟨w.heap.size, 1, none⟩) (Nat.le_refl _) _).alloc _⟩

theorem Decode_any (s : ByteArray) (w : World) (hs : s.size ≤ maxLen) :
    Calls Tryz.prog 26 #[.string s] w fun x w' => x = .returned (.tuple #[.agg #[.int .i64 (decE s).time, .string (decE s).data], errR (decK s)]) ∧ Ext w w' := by
  cases ht : takeE s with
  | none =>
    obtain ⟨h1, h2, h3⟩ := dec_none ht
    rw [h1, h3]
    exact Decode_none s w hs ht
  | some p =>
    obtain ⟨e, r⟩ := p
    by_cases hr : r.size = 0
    · obtain ⟨h1, h2, h3⟩ := dec_some ht hr
      obtain rfl := str_none hr
      rw [h1, h3]
      exact Decode_ok s e w hs ht
    · obtain ⟨h1, h2, h3⟩ := dec_rest ht hr
      rw [h1, h3]
      exact Decode_rest s e r w hs ht hr
def RUnpPost (s : ByteArray) (w : World) (e : Ending) (w' : World) : Prop :=
  match unpackE s with
  | some es => ∃ v, e = .returned (.tuple #[v, .bool true]) ∧ w'.ownsRow w.heap.size 60 2 v es.length (es.flatMap Ent.cells)
  | none => ∃ v, e = .returned (.tuple #[v, .bool false])
theorem RUnpPost.none {s : ByteArray} {w w' : World} {e : Ending} {v : Value} (h : unpackE s = none) (k : e = .returned (.tuple #[v, .bool false])) : RUnpPost s w e w' := by
  unfold RUnpPost; rw [h]; exact ⟨v, k⟩
theorem RUnpPost.some {s : ByteArray} {w w' : World} {v : Value} {es : List Ent} (h : unpackE s = some es) (k : w'.ownsRow w.heap.size 60 2 v es.length (es.flatMap Ent.cells)) : RUnpPost s w (.returned (.tuple #[v, .bool true])) w' := by
  unfold RUnpPost; rw [h]; exact ⟨_, rfl, k⟩

end Go.Proofs.YtcgfdhgceokcnaaGreatDoor

/- The references' entries: many. -/
namespace Go.Proofs.YtcgfdhgceokcnaaGreatDoor
open Go.RowKit Go.WideShapes
set_option linter.unusedVariables false
attribute [local go_sem ↓] Go.wp_at_zero Go.wp_at_succ

theorem first_step {es : List Ent} {j : Nat} {e : Ent} (h : es[j]? = some e) : firstErr (es.drop j) = if encK e = 0 then firstErr (es.drop (j + 1)) else encK e := by
  obtain ⟨hl, rfl⟩ := List.getElem?_eq_some_iff.1 h
  rw [List.drop_eq_getElem_cons hl, firstErr]
  by_cases hk : (es[j]).ok
  · rw [if_pos hk, if_pos (encK_zero.2 hk)]
  · rw [if_neg hk, if_neg (fun hh => hk (encK_zero.1 hh))]
    unfold encK; rw [if_neg hk]
theorem first_end {es : List Ent} : firstErr (es.drop es.length) = 0 := by rw [List.drop_length]; rfl

def leafsE (es : List Ent) : List Int := if entsErr es = 0 then es.map Ent.leaf else []
theorem OwnI.none (w w' : World) : OwnI w w' (.slice .none 0 0) [] := own_nil _ _ _ _
theorem Leafs_any (A : Option Addr) (n c : Nat) (es : List Ent) (w : World) (hr : Rd w 2 A n c (es.flatMap Ent.cells)) (hm : c ≤ maxLen) :
    Calls Tryz.prog 24 #[.slice A n c] w fun e w' => (∃ v, e = .returned (.tuple #[v, errR (entsErr es)]) ∧ OwnI w w' v (leafsE es)) ∧ Ext w w' := by
  by_cases h : entsOk es
  · refine (Leafs_ok A n c es w hr hm h).mono fun e w' hh => ⟨?_, hh.2⟩
    obtain ⟨⟨v, he, ho⟩, _⟩ := hh
    refine ⟨v, he.trans ?_, ?_⟩
    · rw [entsErr_ok h]; rfl
    · unfold leafsE; rw [if_pos (entsErr_ok h)]
      exact OwnI.mk ho (by simp) rfl
  · refine (Leafs_bad A n c es w hr hm h).mono fun e w' hh => ⟨?_, hh.2⟩
    refine ⟨.slice none 0 0, hh.1.trans ?_, ?_⟩
    · rw [errR_ne (entsErr_bad h)]
    · unfold leafsE; rw [if_neg (entsErr_bad h)]
      exact OwnI.none _ _

def unpL (s : ByteArray) : List Ent := (unpackE s).getD []
def unpB (s : ByteArray) : Bool := (unpackE s).isSome
def unpK (s : ByteArray) : Int := if unpB s then 0 else 2
theorem unp_some {s : ByteArray} {es : List Ent} (h : unpackE s = some es) : unpL s = es ∧ unpB s = true ∧ unpK s = 0 := by
  have hb : unpB s = true := by unfold unpB; rw [h]; rfl
  exact ⟨by unfold unpL; rw [h]; rfl, hb, by unfold unpK; rw [hb]; rfl⟩
theorem unp_none {s : ByteArray} (h : unpackE s = none) : unpL s = [] ∧ unpB s = false ∧ unpK s = 2 := by
  have hb : unpB s = false := by unfold unpB; rw [h]; rfl
  exact ⟨by unfold unpL; rw [h]; rfl, hb, by unfold unpK; rw [hb]; rfl⟩
theorem unpL_len (s : ByteArray) : (unpL s).length ≤ 200 := by
  cases h : unpackE s with
  | none => rw [(unp_none h).1]; exact Nat.zero_le _
  | some es => rw [(unp_some h).1]; exact (unpackE_some h).2.1
/-- entries of one's own -/
def OwnE (w w' : World) (v : Value) (es : List Ent) : Prop := w'.ownsRow w.heap.size 60 2 v es.length (es.flatMap Ent.cells)
end Go.Proofs.YtcgfdhgceokcnaaGreatDoor
