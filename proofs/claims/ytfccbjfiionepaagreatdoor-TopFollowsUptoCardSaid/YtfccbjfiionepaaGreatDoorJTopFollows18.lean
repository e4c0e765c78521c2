/- serve.Head. -/
import Derived.Test.YtfccbjfiionepaaGreatDoorJTopFollows15
import Derived.Test.YtfccbjfiionepaaGreatDoorJTopFollows14
import Derived.Test.YtfccbjfiionepaaGreatDoorJTopFollows6
import Derived.Test.YtfccbjfiionepaaGreatDoorJTopFollows10
import Derived.Lib.IndexBytes
import Derived.Lib.SlicesS
import Derived.BigRegion
import Derived.Handy
import Derived.Test.YtfccbjfiionepaaGreatDoorJTopFollows0
namespace Go.Proofs.YtfccbjfiionepaaGreatDoor
open Go.RowKit Go.WideShapes
set_option linter.unusedVariables false
attribute [local go_sem ↓] Go.wp_at_zero Go.wp_at_succ

/-- the head of a log: what is wrong -/
def shK (es : List Ent) (key now : Int) : Int := if entsErr es ≠ 0 then entsErr es else sgnK (lgB es.length (ofL (es.map Ent.leaf)) now) key
def shH (es : List Ent) (key now : Int) : Hd := if entsErr es ≠ 0 then ⟨0, 0, 0, 0⟩ else sgnH (lgB es.length (ofL (es.map Ent.leaf)) now) key

set_option maxRecDepth 100000 in
set_option maxHeartbeats 1000000 in
theorem SHead_any (A : Option Addr) (n c : Nat) (es : List Ent) (key now : Int) (w : World) (hr : Rd w 2 A n c (es.flatMap Ent.cells)) (hm : c ≤ maxLen) (hD : DebG w) (hP : PowG w) :
    Calls Tryz.prog 14 #[.slice A n c, .int .i64 key, .int .i64 now] w fun e w' => e = .returned (.tuple #[(shH es key now).val, errR (shK es key now)]) ∧ Ext w w' := by
  obtain ⟨hE, hN, hG0⟩ := errR_rules
  have hx := hr.lenE
  by_cases hk : entsOk es
  · have hn : n ≤ 200 := by have := hk.1; omega
    have hsk : shK es key now = sgnK (lgB n (ofL (es.map Ent.leaf)) now) key := by unfold shK; rw [if_neg (not_not_intro (entsErr_ok hk)), hx]
    have hsh : shH es key now = sgnH (lgB n (ofL (es.map Ent.leaf)) now) key := by unfold shH; rw [if_neg (not_not_intro (entsErr_ok hk)), hx]
    have hlo := leafs_of_ents hk
    have HL := Lib.hid (Leafs_ok A n c es)
    rw [hx] at HL
    rw [hsk, hsh]
    obtain ⟨xs, hxs⟩ : ∃ xs, es.map Ent.leaf = xs := ⟨_, rfl⟩
    rw [hxs] at hlo HL ⊢
    have HLO := Lib.hid hlo.2
    have HS := Lib.hid fun W (e : Ext w W) => Sign_any (lgB n (ofL xs) now) key W (hD.ext e) (hP.ext e)
    obtain ⟨zk, hzk⟩ : ∃ v, sgnK (lgB n (ofL xs) now) key = v := ⟨_, rfl⟩
    obtain ⟨zh, hzh⟩ : ∃ v, sgnH (lgB n (ofL xs) now) key = v := ⟨_, rfl⟩
    rw [hzk, hzh] at HS ⊢
    obtain ⟨r, hr2⟩ : ∃ v, ofL xs = v := ⟨_, rfl⟩
    have HO := Lib.hid hr2
    rw [hr2] at HS
    have HK := Lib.hid hk
    have B0 := Bk.at_ w 40 #[.int .i64 0, .int .i64 0, .int .i64 0, .int .i64 0] w.heap.size rfl
    have e0 : Ext w (w.alloc (.cells #[.int .i64 0, .int .i64 0, .int .i64 0, .int .i64 0] 40)) := by (repeat (with_reducible first | exact Ext.refl _ | assumption | refine Ext.drew ?_ | refine Ext.drewN ?_ _ | refine Ext.alloc ?_ _ | refine Ext.trans ?_ (by with_reducible assumption)))
    have HR := Lib.hid hr
    clear hzk hzh hr2 hxs hsk hsh hk hlo hx hD hP hr
    obtain ⟨z0, z1, z2, z3⟩ := zh
    simp only [Hd.val, lgB] at *
    go_enter Tryz.func14, Tryz.ntmps14
    go_upto_region 1 with (fail)
    generalize (w.alloc (.cells #[.int .i64 0, .int .i64 0, .int .i64 0, .int .i64 0] 40)) = W0 at *
    obtain ⟨g0, hg0⟩ : ∃ g, w.heap.size = g := ⟨_, rfl⟩
    rw [hg0] at B0
    try rw [hg0]
    have HG := Lib.hid hg0
    have HE0 := Lib.hid e0
    clear e0 hg0
    go_wp2_with fail
    refine (HL.out W0 (HR.out.ext HE0.out) hm HK.out).mono ?_
    rintro _ w1 ⟨⟨v1, rfl, own1⟩, hb1⟩
    obtain ⟨A1, c1, rfl, hc1, R1, _⟩ := own_rd own1
    have HR1 := Lib.hid R1
    have HE1 := Lib.hid (HE0.out.trans hb1)
    have B1 := B0.ext hb1
    clear own1 R1 hb1 HE0 B0
    go_wp2_with fail
    refine (Of_any n A1 n c1 xs _ (Nat.le_refl _) HR1.out hc1 (by omega) HLO.out).mono ?_
    rw [HO.out]
    rintro _ w2 ⟨rfl, hb2⟩
    have HE2 := Lib.hid (HE1.out.trans hb2)
    have B2 := B1.ext hb2
    clear hb2 HE1 B1 HR1
    go_wp2_with fail
    refine (HS.out _ HE2.out).mono ?_
    rintro _ w3 ⟨rfl, hb3⟩
    have HE3 := Lib.hid (HE2.out.trans hb3)
    have B3 := B2.ext hb3
    clear hb3 HE2 B2
    have q0 := B3.frozen 0
    have q1 := B3.frozen 1
    have q2 := B3.frozen 2
    have q3 := B3.frozen 3
    have y0 := B3.cell 0
    have y1 := B3.cell 1
    have y2 := B3.cell 2
    have y3 := B3.cell 3
    go_wp2_with fail
    have P := B3.put4 (.int .i64 z0) (.int .i64 z1) (.int .i64 z2) (.int .i64 z3)
    have p0 := P.cell 0
    have p1 := P.cell 1
    have p2 := P.cell 2
    have p3 := P.cell 3
    refine bodyPost_ret (by simp [results, Tryz.results14, go_sem, p0, p1, p2, p3]; try rfl) rfl ?_
    exact ⟨rfl, HE3.out.put4 (by rw [HG.out]; exact Nat.le_refl _) _ _ _ _⟩
  · have hne := entsErr_bad hk
    have hsk : shK es key now = entsErr es := by unfold shK; rw [if_pos hne]
    have hsh : shH es key now = ⟨0, 0, 0, 0⟩ := by unfold shH; rw [if_pos hne]
    have HL := Lib.hid (Leafs_bad A n c es)
    rw [hsk, hsh]
    obtain ⟨zk, hzk⟩ : ∃ v, entsErr es = v := ⟨_, rfl⟩
    rw [hzk] at HL hne ⊢
    have hok := isOk_no hne
    rw [errR_ne hne]
    have HK := Lib.hid hk
    have B0 := Bk.at_ w 40 #[.int .i64 0, .int .i64 0, .int .i64 0, .int .i64 0] w.heap.size rfl
    have e0 : Ext w (w.alloc (.cells #[.int .i64 0, .int .i64 0, .int .i64 0, .int .i64 0] 40)) := by (repeat (with_reducible first | exact Ext.refl _ | assumption | refine Ext.drew ?_ | refine Ext.drewN ?_ _ | refine Ext.alloc ?_ _ | refine Ext.trans ?_ (by with_reducible assumption)))
    have HR := Lib.hid hr
    clear hzk hsk hsh hk hx hD hP hr hne
    simp only [Hd.val] at *
    go_enter Tryz.func14, Tryz.ntmps14
    go_upto_region 1 with (fail)
    generalize (w.alloc (.cells #[.int .i64 0, .int .i64 0, .int .i64 0, .int .i64 0] 40)) = W0 at *
    obtain ⟨g0, hg0⟩ : ∃ g, w.heap.size = g := ⟨_, rfl⟩
    rw [hg0] at B0
    try rw [hg0]
    have HG := Lib.hid hg0
    have HE0 := Lib.hid e0
    clear e0 hg0
    go_wp2_with fail
    refine (HL.out W0 (HR.out.ext HE0.out) hm HK.out).mono ?_
    rintro _ w1 ⟨rfl, hb1⟩
    have HE3 := Lib.hid (HE0.out.trans hb1)
    have B3 := B0.ext hb1
    simp only [errV]
    have q0 := B3.frozen 0
    have q1 := B3.frozen 1
    have q2 := B3.frozen 2
    have q3 := B3.frozen 3
    have y0 := B3.cell 0
    have y1 := B3.cell 1
    have y2 := B3.cell 2
    have y3 := B3.cell 3
    clear hb1 B0
    go_wp2_with fail
    have P := B3.put4 (.int .i64 0) (.int .i64 0) (.int .i64 0) (.int .i64 0)
    have p0 := P.cell 0
    have p1 := P.cell 1
    have p2 := P.cell 2
    have p3 := P.cell 3
    refine bodyPost_ret (by simp [results, Tryz.results14, go_sem, p0, p1, p2, p3]; try rfl) rfl ?_
    exact ⟨rfl, HE3.out.put4 (by rw [HG.out]; exact Nat.le_refl _) _ _ _ _⟩
/-- the head that serve tells -/
theorem sh_parts {es : List Ent} {key now : Int} (h : shK es key now = 0) : entsOk es ∧ shH es key now = ⟨(es.length : Int), ofL (es.map Ent.leaf), now, signI (lgB es.length (ofL (es.map Ent.leaf)) now) key⟩ ∧ verK (shH es key now) key = 0 ∧ keyI key = true := by
  have hk : entsOk es := Classical.byContradiction fun hn => by
    have h1 := entsErr_bad hn
    unfold shK at h
    rw [if_pos h1] at h
    exact h1 h
  have h0 := entsErr_ok hk
  have hs : sgnK (lgB es.length (ofL (es.map Ent.leaf)) now) key = 0 := by
    unfold shK at h
    rwa [if_neg (not_not_intro h0)] at h
  have hh : shH es key now = sgnH (lgB es.length (ofL (es.map Ent.leaf)) now) key := by unfold shH; rw [if_neg (not_not_intro h0)]
  obtain ⟨a1, a2, a3, a4⟩ := sgn_ver hs
  exact ⟨hk, hh.trans a4, by rw [hh]; exact a1, a2⟩
end Go.Proofs.YtfccbjfiionepaaGreatDoor

/- Plain laws: entries read off bytes, no program in sight. -/
namespace Go.Proofs.YtfccbjfiionepaaGreatDoor
open Go.RowKit
set_option linter.unusedVariables false

theorem list_size (s : ByteArray) : s.data.toList.length = s.size := rfl
theorem ex_list (s : ByteArray) (a b : Nat) : (s.extract a b).data.toList = (s.data.toList.drop a).take (b - a) := Lib.extract_data s a b
theorem ex_end (s : ByteArray) (a : Nat) : (s.extract a s.size).data.toList = s.data.toList.drop a := Lib.extract_to_end s a

/-- byte k -/
def byB (s : ByteArray) (k : Nat) : UInt8 := s.data.toList.getD k 0
theorem byB_get (s : ByteArray) (k : Nat) (h : k < s.size) : s[k] = byB s k := by
  unfold byB
  rw [List.getD_eq_getElem?_getD, List.getElem?_eq_getElem (by rw [list_size]; exact h)]
  rfl
/-- the entry at the start of bytes -/
def entOf (s : ByteArray) : Ent := ⟨((byB s 0).toNat : Int) * 65536 + ((byB s 1).toNat : Int) * 256 + ((byB s 2).toNat : Int), s.extract 4 (4 + (byB s 3).toNat)⟩
def takeE (s : ByteArray) : Option (Ent × ByteArray) :=
  if 4 ≤ s.size ∧ 4 + (byB s 3).toNat ≤ s.size ∧ (entOf s).ok then some (entOf s, s.extract (4 + (byB s 3).toNat) s.size) else none
theorem takeE_none {s : ByteArray} (h : ¬ (4 ≤ s.size ∧ 4 + (byB s 3).toNat ≤ s.size ∧ (entOf s).ok)) : takeE s = none := if_neg h
theorem takeE_bytes (e : Ent) (r : ByteArray) (h : e.ok) : takeE (e.bytes ++ r) = some (e, r) := by
  obtain ⟨t, d⟩ := e
  obtain ⟨h0, h1, h2⟩ := h
  dsimp only at h0 h1 h2
  have hl : ((⟨t, d⟩ : Ent).bytes ++ r).data.toList = byteOf (t / 65536 % 256) :: byteOf (t / 256 % 256) :: byteOf (t % 256) :: byteOf ((d.size : Int) % 256) :: (d.data.toList ++ r.data.toList) := by
    rw [toList_cat, Ent.bytes_list]; rfl
  have hz : ((⟨t, d⟩ : Ent).bytes ++ r).size = 4 + d.size + r.size := by rw [size_cat, Ent.bytes_size]
  generalize (⟨t, d⟩ : Ent).bytes ++ r = s at *
  have b0 : byB s 0 = byteOf (t / 65536 % 256) := by unfold byB; rw [hl]; rfl
  have b1 : byB s 1 = byteOf (t / 256 % 256) := by unfold byB; rw [hl]; rfl
  have b2 : byB s 2 = byteOf (t % 256) := by unfold byB; rw [hl]; rfl
  have b3 : byB s 3 = byteOf ((d.size : Int) % 256) := by unfold byB; rw [hl]; rfl
  have n0 := toNat_byteOf (t / 65536 % 256) (by omega) (by omega)
  have n1 := toNat_byteOf (t / 256 % 256) (by omega) (by omega)
  have n2 := toNat_byteOf (t % 256) (by omega) (by omega)
  have n3 := toNat_byteOf ((d.size : Int) % 256) (by omega) (by omega)
  rw [← b0] at n0
  rw [← b1] at n1
  rw [← b2] at n2
  rw [← b3] at n3
  have n3' : (byB s 3).toNat = d.size := by omega
  have hd : s.extract 4 (4 + (byB s 3).toNat) = d := by
    apply ba_ext
    rw [ex_list, hl, n3']
    show (d.data.toList ++ r.data.toList).take (4 + d.size - 4) = _
    rw [Nat.add_sub_cancel_left, ← list_size, List.take_left]
  have hr : s.extract (4 + (byB s 3).toNat) s.size = r := by
    apply ba_ext
    rw [ex_end, hl, n3', Nat.add_comm]
    show (d.data.toList ++ r.data.toList).drop d.size = _
    rw [← list_size, List.drop_left]
  have he : entOf s = ⟨t, d⟩ := by
    unfold entOf
    rw [hd, n0, n1, n2]
    congr 1
    omega
  unfold takeE
  rw [if_pos ⟨by omega, by omega, by rw [he]; exact ⟨h0, h1, h2⟩⟩, he, hr]
theorem takeE_some {s : ByteArray} {e : Ent} {r : ByteArray} (h : takeE s = some (e, r)) : e.ok ∧ s = e.bytes ++ r := by
  unfold takeE at h
  by_cases hc : 4 ≤ s.size ∧ 4 + (byB s 3).toNat ≤ s.size ∧ (entOf s).ok
  · rw [if_pos hc] at h
    obtain ⟨h1, h2, h3⟩ := hc
    simp only [Option.some.injEq, Prod.mk.injEq] at h
    obtain ⟨rfl, rfl⟩ := h
    refine ⟨h3, ?_⟩
    apply ba_ext
    rw [toList_cat, Ent.bytes_list, ex_end]
    have hsz : (entOf s).data.size = (byB s 3).toNat := by
      show (s.extract 4 (4 + (byB s 3).toNat)).size = _
      rw [ByteArray.size_extract]
      omega
    have hdl : (entOf s).data.data.toList = (s.data.toList.drop 4).take (byB s 3).toNat := by
      show (s.extract 4 (4 + (byB s 3).toNat)).data.toList = _
      rw [ex_list, Nat.add_sub_cancel_left]
    have q0 := (byB s 0).toNat_lt
    have q1 := (byB s 1).toNat_lt
    have q2 := (byB s 2).toNat_lt
    have q3 := (byB s 3).toNat_lt
    have ht : (entOf s).time = ((byB s 0).toNat : Int) * 65536 + ((byB s 1).toNat : Int) * 256 + ((byB s 2).toNat : Int) := rfl
    unfold entB entH
    rw [list_size, hsz, hdl, ht]
    rw [show (((byB s 0).toNat : Int) * 65536 + ((byB s 1).toNat : Int) * 256 + ((byB s 2).toNat : Int)) / 65536 % 256 = ((byB s 0).toNat : Int) by omega,
      show (((byB s 0).toNat : Int) * 65536 + ((byB s 1).toNat : Int) * 256 + ((byB s 2).toNat : Int)) / 256 % 256 = ((byB s 1).toNat : Int) by omega,
      show (((byB s 0).toNat : Int) * 65536 + ((byB s 1).toNat : Int) * 256 + ((byB s 2).toNat : Int)) % 256 = ((byB s 2).toNat : Int) by omega,
      show ((byB s 3).toNat : Int) % 256 = ((byB s 3).toNat : Int) by omega, byteOf_toNat, byteOf_toNat, byteOf_toNat, byteOf_toNat]
    have hlen : 4 ≤ s.data.toList.length := by rw [list_size]; exact h1
    unfold byB
    generalize s.data.toList = l at *
    match l, hlen with
    | a :: b :: c :: d :: l, _ =>
      show a :: b :: c :: d :: l = [a, b, c, d] ++ l.take d.toNat ++ List.drop (4 + d.toNat) (a :: b :: c :: d :: l)
      rw [Nat.add_comm]
      show a :: b :: c :: d :: l = a :: b :: c :: d :: (l.take d.toNat ++ l.drop d.toNat)
      rw [List.take_append_drop]
  · rw [if_neg hc] at h; cases h

/-- the bytes of entries, one behind the other -/
def catL (es : List Ent) : List UInt8 := es.flatMap fun e => e.bytes.data.toList
theorem catL_append (a b : List Ent) : catL (a ++ b) = catL a ++ catL b := by simp [catL]
theorem catL_cons (e : Ent) (b : List Ent) : catL (e :: b) = e.bytes.data.toList ++ catL b := rfl
theorem catL_len {es : List Ent} (h : ∀ e ∈ es, e.ok) : (catL es).length ≤ 204 * es.length := by
  induction es with
  | nil => simp [catL]
  | cons e es ih =>
    have h1 := (h e (by simp)).2.2
    have h2 := ih fun x hx => h x (by simp [hx])
    rw [catL_cons, List.length_append, list_size, Ent.bytes_size, List.length_cons]
    omega
/-- some entries off bytes -/
def unpN : Nat → ByteArray → Option (List Ent × ByteArray)
  | 0, s => some ([], s)
  | n + 1, s => match unpN n s with
    | none => none
    | some (es, q) => match takeE q with
      | none => none
      | some (e, r) => some (es ++ [e], r)
theorem unpN_zero (s : ByteArray) : unpN 0 s = some ([], s) := rfl
theorem unpN_next {n : Nat} {s q r : ByteArray} {es : List Ent} {e : Ent} (h : unpN n s = some (es, q)) (k : takeE q = some (e, r)) : unpN (n + 1) s = some (es ++ [e], r) := by
  rw [unpN, h]; simp only [k]
theorem unpN_stop {n : Nat} {s q : ByteArray} {es : List Ent} (h : unpN n s = some (es, q)) (k : takeE q = none) : unpN (n + 1) s = none := by
  rw [unpN, h]; simp only [k]
theorem unpN_none {n : Nat} {s : ByteArray} (h : unpN n s = none) : unpN (n + 1) s = none := by rw [unpN, h]
theorem unpN_later {n : Nat} {s : ByteArray} (h : unpN n s = none) : ∀ k, unpN (n + k) s = none
  | 0 => h
  | k + 1 => unpN_none (unpN_later h k)
theorem unpN_some : ∀ (n : Nat) (s : ByteArray) (es : List Ent) (q : ByteArray), unpN n s = some (es, q) → es.length = n ∧ (∀ e ∈ es, e.ok) ∧ s.data.toList = catL es ++ q.data.toList
  | 0, s, es, q, h => by
    rw [unpN_zero] at h
    simp only [Option.some.injEq, Prod.mk.injEq] at h
    obtain ⟨rfl, rfl⟩ := h
    exact ⟨rfl, by simp, by simp [catL]⟩
  | n + 1, s, es, q, h => by
    cases hu : unpN n s with
    | none => rw [unpN_none hu] at h; cases h
    | some p =>
      obtain ⟨es', q'⟩ := p
      obtain ⟨h1, h2, h3⟩ := unpN_some n s es' q' hu
      cases ht : takeE q' with
      | none => rw [unpN_stop hu ht] at h; cases h
      | some p =>
        obtain ⟨e, r⟩ := p
        rw [unpN_next hu ht] at h
        simp only [Option.some.injEq, Prod.mk.injEq] at h
        obtain ⟨rfl, rfl⟩ := h
        obtain ⟨k1, k2⟩ := takeE_some ht
        refine ⟨by simp [h1], ?_, ?_⟩
        · intro x hx
          rcases List.mem_append.1 hx with hx | hx
          · exact h2 x hx
          · rw [List.mem_singleton] at hx; subst hx; exact k1
        · rw [h3, k2, toList_cat, catL_append]
          simp [catL]
theorem unpN_cat (es : List Ent) (h : ∀ e ∈ es, e.ok) (r : List UInt8) : ∀ n, n ≤ es.length → unpN n ⟨(catL es ++ r).toArray⟩ = some (es.take n, ⟨(catL (es.drop n) ++ r).toArray⟩)
  | 0, _ => rfl
  | n + 1, hn => by
    have hn' : n < es.length := by omega
    have hd : es.drop n = es[n] :: es.drop (n + 1) := List.drop_eq_getElem_cons hn'
    have ht : takeE ⟨(catL (es.drop n) ++ r).toArray⟩ = some (es[n], ⟨(catL (es.drop (n + 1)) ++ r).toArray⟩) := by
      rw [← takeE_bytes es[n] _ (h _ (List.getElem_mem hn'))]
      congr 1
      apply ba_ext
      rw [toList_cat, toList_mk, toList_mk, hd, catL_cons, List.append_assoc]
    rw [unpN_next (unpN_cat es h r n (by omega)) ht, List.take_succ_eq_append_getElem hn']

/-- the bytes of many: while they are made -/
def packB (es : List Ent) (j : Nat) : ByteArray := ⟨(byteOf (es.length : Int) :: catL (es.take j)).toArray⟩
theorem packB_list (es : List Ent) (j : Nat) : (packB es j).data.toList = byteOf (es.length : Int) :: catL (es.take j) := by unfold packB; rw [toList_mk]
theorem packB_zero (es : List Ent) : packB es 0 = ⟨#[byteOf (es.length : Int)]⟩ := rfl
theorem packB_next {es : List Ent} {j : Nat} {e : Ent} (h : es[j]? = some e) : packB es (j + 1) = packB es j ++ e.bytes := by
  apply ba_ext
  obtain ⟨hl, rfl⟩ := List.getElem?_eq_some_iff.1 h
  rw [toList_cat, packB_list, packB_list, List.take_succ_eq_append_getElem hl, catL_append]
  simp [catL]
theorem packB_size {es : List Ent} (h : ∀ e ∈ es, e.ok) (j : Nat) (hl : es.length ≤ 200) : (packB es j).size ≤ 40801 := by
  rw [← list_size, packB_list, List.length_cons]
  have := catL_len (es := es.take j) fun e he => h e (List.mem_of_mem_take he)
  have : (es.take j).length ≤ es.length := by rw [List.length_take]; omega
  omega
/-- entries off bytes -/
def unpEnd : Option (List Ent × ByteArray) → Option (List Ent)
  | none => none
  | some (es, q) => if q.size = 0 then some es else none
def unpackE (s : ByteArray) : Option (List Ent) :=
  if s.size = 0 ∨ 200 < (byB s 0).toNat then none else unpEnd (unpN (byB s 0).toNat (s.extract 1 s.size))
theorem unpackE_pack {es : List Ent} (h : ∀ e ∈ es, e.ok) (hl : es.length ≤ 200) : unpackE (packB es es.length) = some es := by
  have hp := packB_list es es.length
  rw [List.take_length] at hp
  have hb : byB (packB es es.length) 0 = byteOf (es.length : Int) := by unfold byB; rw [hp]; rfl
  have hn := toNat_byteOf (es.length : Int) (by omega) (by omega)
  rw [← hb] at hn
  have hn' : (byB (packB es es.length) 0).toNat = es.length := by omega
  have he : (packB es es.length).extract 1 (packB es es.length).size = ⟨(catL es ++ []).toArray⟩ := by
    apply ba_ext
    rw [ex_end, hp, toList_mk, List.append_nil]
    rfl
  have hs : ¬ ((packB es es.length).size = 0 ∨ 200 < (byB (packB es es.length) 0).toNat) := by
    rw [← list_size, hp, hn', List.length_cons]
    omega
  unfold unpackE
  rw [if_neg hs, he, hn', unpN_cat es h [] es.length (Nat.le_refl _), List.take_length, List.drop_length]
  rfl
theorem unpackE_some {s : ByteArray} {es : List Ent} (h : unpackE s = some es) : (∀ e ∈ es, e.ok) ∧ es.length ≤ 200 ∧ s = packB es es.length := by
  unfold unpackE at h
  by_cases hs : s.size = 0 ∨ 200 < (byB s 0).toNat
  · rw [if_pos hs] at h; cases h
  · rw [if_neg hs] at h
    cases hu : unpN (byB s 0).toNat (s.extract 1 s.size) with
    | none => rw [hu] at h; cases h
    | some p =>
      obtain ⟨es', q⟩ := p
      rw [hu] at h
      unfold unpEnd at h
      simp only at h
      by_cases hq : q.size = 0
      · rw [if_pos hq] at h
        obtain rfl : es' = es := by simpa using h
        obtain ⟨h1, h2, h3⟩ := unpN_some _ _ _ _ hu
        refine ⟨h2, by omega, ?_⟩
        apply ba_ext
        rw [packB_list, List.take_length, h1]
        have hq0 : q.data.toList = [] := List.eq_nil_of_length_eq_zero (by rw [list_size]; exact hq)
        rw [ex_end, hq0, List.append_nil] at h3
        rw [← h3, byteOf_toNat]
        unfold byB
        have hlen : 0 < s.data.toList.length := by rw [list_size]; omega
        generalize s.data.toList = l at *
        match l, hlen with
        | a :: l, _ => rfl
      · rw [if_neg hq] at h; cases h
end Go.Proofs.YtfccbjfiionepaaGreatDoor

namespace Go.Proofs.YtfccbjfiionepaaGreatDoor
open Go.RowKit
set_option linter.unusedVariables false
attribute [local go_sem ↓] Go.wp_at_zero Go.wp_at_succ

theorem ofInt_u (n : Nat) (h : n < 18446744073709551616) : (BitVec.ofInt 64 (n : Int)).toNat = n := by
  rw [BitVec.toNat_ofInt]; omega
theorem or_add (a b i : Nat) (hb : b < 2 ^ i) (h : a * 2 ^ i + b < 9223372036854775807) : bits .or .i64 ((a * 2 ^ i : Nat) : Int) (b : Int) = ((a * 2 ^ i + b : Nat) : Int) := by
  show IntKind.i64.wrap ((BitVec.ofInt 64 ((a * 2 ^ i : Nat) : Int) ||| BitVec.ofInt 64 (b : Int)).toNat : Int) = _
  rw [BitVec.toNat_or, ofInt_u _ (by omega), ofInt_u b (by omega), Nat.mul_comm a, ← Nat.two_pow_add_eq_or_of_lt hb, Nat.mul_comm]
  exact IntWalk.i64_in _ (by omega)
theorem or_hi (a b : Nat) (ha : a < 256) (hb : b < 256) : bits .or .i64 ((a : Int) * 65536) ((b : Int) * 256) = (a : Int) * 65536 + (b : Int) * 256 := by
  have h := or_add a (b * 256) 16 (by omega) (by omega)
  rw [show ((a * 2 ^ 16 : Nat) : Int) = (a : Int) * 65536 by omega, show ((b * 256 : Nat) : Int) = (b : Int) * 256 by omega] at h
  rw [h]
  omega
theorem or_lo (a b c : Nat) (ha : a < 256) (hb : b < 256) (hc : c < 256) : bits .or .i64 ((a : Int) * 65536 + (b : Int) * 256) (c : Int) = (a : Int) * 65536 + (b : Int) * 256 + (c : Int) := by
  have h := or_add (a * 256 + b) c 8 (by omega) (by omega)
  rw [show (((a * 256 + b) * 2 ^ 8 : Nat) : Int) = (a : Int) * 65536 + (b : Int) * 256 by omega] at h
  rw [h]
  omega

theorem w_small {n : Int} (h0 : 0 ≤ n) (h : n < 256) : wrap64 n = n := by unfold wrap64; omega
theorem w_four {n : Int} (h0 : 0 ≤ n) (h : n < 256) : wrap64 (4 + n) = 4 + n := by unfold wrap64; omega
theorem i_four {n : Int} (h0 : 0 ≤ n) (h : n < 256) : IntKind.i64.wrap (4 + n) = 4 + n := IntWalk.i64_in _ (by omega)
theorem i_small {n : Int} (h0 : 0 ≤ n) (h : n < 256) : IntKind.i64.wrap n = n := IntWalk.i64_in _ (by omega)
theorem u8_lt (b : UInt8) : 0 ≤ (b.toNat : Int) ∧ (b.toNat : Int) < 256 := by have := b.toNat_lt; omega
theorem u8_ltN (b : UInt8) : b.toNat < 256 := b.toNat_lt
theorem four_le {n : Int} (h0 : 0 ≤ n) : (4 : Int) ≤ 4 + n := by omega
theorem four_le' {n m : Nat} (h : 4 + n ≤ m) : 4 + (n : Int) ≤ (m : Int) := by omega
theorem four_0 {n : Int} (h0 : 0 ≤ n) : (0 : Int) ≤ 4 + n := by omega
theorem lt_int {n m : Nat} (h : n < m) : (n : Int) < (m : Int) := by omega
theorem w_hi {a : Nat} (h : a < 256) : wrap64 ((a : Int) * 65536) = (a : Int) * 65536 := by unfold wrap64; omega
theorem w_mid {a : Nat} (h : a < 256) : wrap64 ((a : Int) * 256) = (a : Int) * 256 := by unfold wrap64; omega
theorem four_m {n m : Nat} (h : 4 + n ≤ m) : (4 : Int) ≤ (m : Int) := by omega

theorem lt_four {n m : Nat} (h : m < 4 + n) : (m : Int) < 4 + (n : Int) := by omega
end Go.Proofs.YtfccbjfiionepaaGreatDoor

namespace Go.Proofs.YtfccbjfiionepaaGreatDoor
open Go.RowKit
set_option linter.unusedVariables false
attribute [local go_sem ↓] Go.wp_at_zero Go.wp_at_succ

theorem takeE_size {s : ByteArray} {e : Ent} {r : ByteArray} (h : takeE s = some (e, r)) : r.size ≤ s.size := by
  obtain ⟨_, h2⟩ := takeE_some h
  rw [h2, size_cat]; omega

/-- bytes of one entry alone -/
theorem takeE_one (e : Ent) (h : e.ok) : takeE e.bytes = some (e, ⟨#[]⟩) := by
  have := takeE_bytes e ⟨#[]⟩ h
  rwa [show e.bytes ++ ⟨#[]⟩ = e.bytes from ba_ext (by rw [toList_cat]; simp)] at this
theorem flat_snoc (es : List Ent) (e : Ent) : (es ++ [e]).flatMap Ent.cells = es.flatMap Ent.cells ++ e.cells := by simp
theorem unpN_size {n : Nat} {s q : ByteArray} {es : List Ent} (h : unpN n s = some (es, q)) : q.size ≤ s.size := by
  have := (unpN_some _ _ _ _ h).2.2
  have h2 := congrArg List.length this
  rw [List.length_append, list_size, list_size] at h2
  omega

theorem str_some {s : ByteArray} (h : 0 < s.size) : s.toList.isEmpty = false ∧ ¬ s.toList = [] := by
  have : ¬ s.toList = [] := by
    rw [Lib.toList_data]
    intro h'
    rw [← list_size, h'] at h
    exact absurd h (by simp)
  refine ⟨?_, this⟩
  cases hs : s.toList with
  | nil => exact absurd hs this
  | cons a l => rfl
theorem str_none {s : ByteArray} (h : s.size = 0) : s = ⟨#[]⟩ := ba_ext (List.eq_nil_of_length_eq_zero (by rw [list_size]; exact h))
/-- what Unpack answers -/
def UnpPost (s : ByteArray) (w : World) (e : Ending) (w' : World) : Prop :=
  match unpackE s with
  | some es => ∃ v, e = .returned (.tuple #[v, .nilIface]) ∧ w'.ownsRow w.heap.size 75 2 v es.length (es.flatMap Ent.cells)
  | none => e = .returned (.tuple #[.slice none 0 0, errV 2])
theorem UnpPost.none {s : ByteArray} {w w' : World} {e : Ending} (h : unpackE s = none) (k : e = .returned (.tuple #[.slice none 0 0, errV 2])) : UnpPost s w e w' := by
  unfold UnpPost; rw [h]; exact k
theorem UnpPost.some {s : ByteArray} {w w' : World} {v : Value} {es : List Ent} (h : unpackE s = some es) (k : w'.ownsRow w.heap.size 75 2 v es.length (es.flatMap Ent.cells)) : UnpPost s w (.returned (.tuple #[v, .nilIface])) w' := by
  unfold UnpPost; rw [h]; exact ⟨_, rfl, k⟩

set_option maxRecDepth 100000 in
theorem Entries_same (A A' : Option Addr) (n c c' : Nat) (es : List Ent) (w : World) (hr : Rd w 2 A n c (es.flatMap Ent.cells)) (hr' : Rd w 2 A' n c' (es.flatMap Ent.cells)) (hm : n ≤ 200) :
    Calls Tryz.prog 28 #[.slice A n c, .slice A' n c'] w fun e w' => e = .returned (.bool true) ∧ Ext w w' := by
  have HX := Lib.hid hr.lenE
  have hl := hr.2.1
  have hl' := hr'.2.1
  go_enter Tryz.func28, Tryz.ntmps28
  go_wp2_with fail
  go_loopw [5] (fun x wr => ∃ j : Nat, x = .int .i64 j ∧ j ≤ n ∧ Ext w wr) (fun x _ => n - (intOf x).toNat)
  case atStart => exact ⟨0, rfl, Nat.zero_le _, by (repeat (with_reducible first | exact Ext.refl _ | assumption | refine Ext.drew ?_ | refine Ext.drewN ?_ _ | refine Ext.alloc ?_ _ | refine Ext.trans ?_ (by with_reducible assumption)))⟩
  case round =>
    obtain ⟨j, rfl, hj, hbw⟩ := hrel
    by_cases hc : j < n
    · have hgj := List.getElem?_eq_getElem (l := es) (i := j) (by rw [HX.out]; exact hc)
      obtain ⟨ad, rfl, hb, c0, c1⟩ := (hr.ext hbw).getE hgj
      obtain ⟨ad', rfl, hb', c0', c1'⟩ := (hr'.ext hbw).getE hgj
      generalize es[j]'(by rw [HX.out]; exact hc) = e at *
      have hcN : (j : Int) < (n : Int) := by omega
      go_wp2_with fail
      go_quiet (fail)
      go_wp2_with fail
      go_roundw
      case rel => exact ⟨j + 1, by go_num, by omega, by (repeat (with_reducible first | exact Ext.refl _ | assumption | refine Ext.drew ?_ | refine Ext.drewN ?_ _ | refine Ext.alloc ?_ _ | refine Ext.trans ?_ (by with_reducible assumption)))⟩
      case measure => simp [intOf]; omega
    · go_wp2_with fail
      go_ret
      exact ⟨rfl, by (repeat (with_reducible first | exact Ext.refl _ | assumption | refine Ext.drew ?_ | refine Ext.drewN ?_ _ | refine Ext.alloc ?_ _ | refine Ext.trans ?_ (by with_reducible assumption)))⟩

/-! ### Both ways at once: the fault by its number -/
def encK (e : Ent) : Int := if e.ok then 0 else e.err
def encB (e : Ent) : ByteArray := if e.ok then e.bytes else ⟨#[]⟩
theorem encK_zero {e : Ent} : encK e = 0 ↔ e.ok := by
  unfold encK
  by_cases h : e.ok
  · simp [h]
  · simp [h, e.err_ne]
def packR (es : List Ent) : ByteArray := if entsErr es = 0 then packB es es.length else ⟨#[]⟩
theorem entsErr_zero {es : List Ent} : entsErr es = 0 ↔ entsOk es :=
  ⟨fun h => Classical.byContradiction fun hk => entsErr_bad hk h, entsErr_ok⟩
end Go.Proofs.YtfccbjfiionepaaGreatDoor

/- The way up, step by step: plain. -/
namespace Go.Proofs.YtfccbjfiionepaaGreatDoor
set_option linter.unusedVariables false

theorem byteOf_inj {a b : Int} (ha : 0 ≤ a) (ha' : a < 256) (hb : 0 ≤ b) (hb' : b < 256) (h : byteOf a = byteOf b) : a = b := by
  have h1 := toNat_byteOf a ha ha'
  have h2 := toNat_byteOf b hb hb'
  rw [h] at h1
  omega
theorem fourB_inj {a b : Int} (ha : vld a = true) (hb : vld b = true) (h : fourB a = fourB b) : a = b := by
  have ha := vld_true ha
  have hb := vld_true hb
  unfold fourB at h
  simp only [List.cons.injEq, and_true] at h
  obtain ⟨h1, h2, h3, h4⟩ := h
  have h1 := byteOf_inj (by omega) (by omega) (by omega) (by omega) h1
  have h2 := byteOf_inj (by omega) (by omega) (by omega) (by omega) h2
  have h3 := byteOf_inj (by omega) (by omega) (by omega) (by omega) h3
  have h4 := byteOf_inj (by omega) (by omega) (by omega) (by omega) h4
  omega
theorem nodeB_inj {a b c d : Int} (ha : vld a = true) (hb : vld b = true) (hc : vld c = true) (hd : vld d = true) (h : nodeB a b = nodeB c d) : a = c ∧ b = d := by
  unfold nodeB at h
  injection h with _ h
  obtain ⟨h1, h2⟩ := List.append_inj h rfl
  exact ⟨fourB_inj ha hc h1, fourB_inj hb hd h2⟩

/-- does the k-th sum of a proof stand on the left? -/
def turnL (i n k : Nat) : Bool :=
  if h : 2 ≤ n ∧ half n < n then
    (if i < half n then (if stepsN i (half n) = k then false else turnL i (half n) k)
     else (if stepsN (i - half n) (n - half n) = k then true else turnL (i - half n) (n - half n) k))
  else false
termination_by n
decreasing_by
  · exact h.2
  · have := half_pos n; omega
theorem turnL_left {i n k : Nat} (h2 : 2 ≤ n) (hn : n ≤ 4096) (hi : i < half n) : turnL i n k = if stepsN i (half n) = k then false else turnL i (half n) k := by
  rw [turnL, dif_pos ⟨h2, half_lt h2 hn⟩, if_pos hi]
theorem turnL_right {i n k : Nat} (h2 : 2 ≤ n) (hn : n ≤ 4096) (hi : ¬ i < half n) : turnL i n k = if stepsN (i - half n) (n - half n) = k then true else turnL (i - half n) (n - half n) k := by
  rw [turnL, dif_pos ⟨h2, half_lt h2 hn⟩, if_neg hi]

def stepL (t : Bool) (a b : Int) : Int := if t then nodeL b a else nodeL a b
def stepB (t : Bool) (a b : Int) : List UInt8 := if t then nodeB b a else nodeB a b
theorem stepL_eq (t : Bool) (a b : Int) : stepL t a b = sumL (stepB t a b) := by cases t <;> rfl
theorem vld_stepL (t : Bool) (a b : Int) : vld (stepL t a b) = true := by rw [stepL_eq]; exact vld_sum _
theorem stepB_inj {t : Bool} {a b c d : Int} (ha : vld a = true) (hb : vld b = true) (hc : vld c = true) (hd : vld d = true) (h : stepB t a b = stepB t c d) : a = c ∧ b = d := by
  cases t
  · exact nodeB_inj ha hb hc hd h
  · exact (nodeB_inj hb ha hd hc h).symm

/-- the k-th of numbers -/
def nthI (p : List Int) (k : Nat) : Int := p.getD k 0
theorem nthI_get {p : List Int} {k : Nat} (h : k < p.length) : p[k]? = some (nthI p k) := by unfold nthI; rw [List.getD_eq_getElem?_getD, List.getElem?_eq_getElem h]; rfl
/-- up 'm' steps from the k-th on -/
def upF (t : Nat → Bool) (p : Nat → Int) : Nat → Nat → Int → Int
  | 0, _, a => a
  | m + 1, k, a => upF t p m (k + 1) (stepL (t k) a (p k))
theorem upF_snoc (t : Nat → Bool) (p : Nat → Int) : ∀ (m k : Nat) (a : Int), upF t p (m + 1) k a = stepL (t (k + m)) (upF t p m k a) (p (k + m))
  | 0, k, a => rfl
  | m + 1, k, a => by
    show upF t p (m + 1) (k + 1) _ = _
    rw [upF_snoc t p m (k + 1)]
    show stepL (t (k + 1 + m)) (upF t p (m + 1) k a) _ = _
    rw [show k + 1 + m = k + (m + 1) by omega]
theorem upF_add (t : Nat → Bool) (p : Nat → Int) : ∀ (j m k : Nat) (a : Int), upF t p (j + m) k a = upF t p m (k + j) (upF t p j k a)
  | 0, m, k, a => by rw [Nat.zero_add]; rfl
  | j + 1, m, k, a => by
    rw [show j + 1 + m = (j + m) + 1 by omega]
    show upF t p (j + m) (k + 1) _ = _
    rw [upF_add t p j m (k + 1), show k + 1 + j = k + (j + 1) by omega]
    rfl
theorem upF_congr {t t' : Nat → Bool} {p p' : Nat → Int} : ∀ (m k : Nat) (a : Int), (∀ j, k ≤ j → j < k + m → t j = t' j ∧ p j = p' j) → upF t p m k a = upF t' p' m k a
  | 0, _, _, _ => rfl
  | m + 1, k, a, h => by
    show upF t p m (k + 1) _ = upF t' p' m (k + 1) _
    obtain ⟨h1, h2⟩ := h k (Nat.le_refl _) (by omega)
    rw [h1, h2]
    exact upF_congr m (k + 1) _ fun j hj hj' => h j (by omega) (by omega)
theorem vld_upF (t : Nat → Bool) (p : Nat → Int) : ∀ (m k : Nat) (a : Int), vld a = true → vld (upF t p m k a) = true
  | 0, _, _, h => h
  | m + 1, k, a, _ => vld_upF t p m (k + 1) _ (vld_stepL _ _ _)
theorem dropLast_getD {p : List Int} {j : Nat} (h : j + 1 < p.length) : nthI p.dropLast j = nthI p j := by
  unfold nthI
  rw [List.dropLast_eq_take, List.getD_eq_getElem?_getD, List.getD_eq_getElem?_getD, List.getElem?_take, if_pos (by omega)]
theorem getLastD_getD {p : List Int} {m : Nat} (h : p.length = m + 1) : p.getLastD 0 = nthI p m := by
  unfold nthI
  rw [List.getLastD_eq_getLast?, List.getLast?_eq_getElem?, List.getD_eq_getElem?_getD, h]; rfl
theorem upL_upF (N : Nat) : ∀ (i n : Nat) (s : Int) (p : List Int), n ≤ N → n ≤ 4096 → p.length = stepsN i n → upL i n s p = upF (turnL i n) (nthI p) (stepsN i n) 0 s := by
  induction N with
  | zero => intro i n s p h hn hp; rw [upL_one (by omega), stepsN_one i (by omega)]; rfl
  | succ N ih =>
    intro i n s p h hn hp
    by_cases h2 : 2 ≤ n
    · have h3 := half_lt h2 hn
      have h4 := half_pos n
      by_cases hi : i < half n
      · have hs := stepsN_left h2 hn hi
        have ht : turnL i n (stepsN i (half n)) = false := (turnL_left h2 hn hi).trans (if_pos rfl)
        have hc : upF (turnL i (half n)) (nthI p.dropLast) (stepsN i (half n)) 0 s = upF (turnL i n) (nthI p) (stepsN i (half n)) 0 s :=
          upF_congr _ _ _ fun j _ hj => ⟨((turnL_left h2 hn hi).trans (if_neg (by omega))).symm, dropLast_getD (by omega)⟩
        have hu := ih i (half n) s p.dropLast (by omega) (by omega) (by rw [List.length_dropLast]; omega)
        have hg := getLastD_getD (hp.trans hs)
        have hz := upF_snoc (turnL i n) (nthI p) (stepsN i (half n)) 0 s
        rw [Nat.zero_add, ht] at hz
        rw [upL_left h2 hn hi, hu, hc, hg, hs]
        exact hz.symm
      · have hs := stepsN_right h2 hn hi
        have ht : turnL i n (stepsN (i - half n) (n - half n)) = true := (turnL_right h2 hn hi).trans (if_pos rfl)
        have hc : upF (turnL (i - half n) (n - half n)) (nthI p.dropLast) (stepsN (i - half n) (n - half n)) 0 s = upF (turnL i n) (nthI p) (stepsN (i - half n) (n - half n)) 0 s :=
          upF_congr _ _ _ fun j _ hj => ⟨((turnL_right h2 hn hi).trans (if_neg (by omega))).symm, dropLast_getD (by omega)⟩
        have hu := ih (i - half n) (n - half n) s p.dropLast (by omega) (by omega) (by rw [List.length_dropLast]; omega)
        have hg := getLastD_getD (hp.trans hs)
        have hz := upF_snoc (turnL i n) (nthI p) (stepsN (i - half n) (n - half n)) 0 s
        rw [Nat.zero_add, ht] at hz
        rw [upL_right h2 hn hi, hu, hc, hg, hs]
        exact hz.symm
    · rw [upL_one h2, stepsN_one i h2]; rfl
end Go.Proofs.YtfccbjfiionepaaGreatDoor
