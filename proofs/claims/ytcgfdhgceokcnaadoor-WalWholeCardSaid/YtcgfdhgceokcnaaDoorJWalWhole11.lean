/- Worlds in which some blocks alone were written, and new ones were made; over any program. -/
import Derived.Test.YtcgfdhgceokcnaaDoorJWalWhole4
import Derived.Test.YtcgfdhgceokcnaaDoorJWalWhole10
import Derived.Deep.DeepCutAuto
import Derived.Deep.CutRange
import Derived.Shelf.Spec.SlicesInsertGrow
import Derived.Laws.CopyRow
import Derived.Deep.RegionLaw
namespace Go.Proofs.YtcgfdhgceokcnaaDoor
open Go.RowKit
set_option linter.unusedVariables false

/-- grown, and written in some blocks alone -/
structure Chg (w w' : World) (S : Nat → Prop) : Prop where
  os : w'.os = w.os
  tape : w'.tape = w.tape
  output : w'.output = w.output
  size : w.heap.size ≤ w'.heap.size
  block : ∀ k, k < w.heap.size → ¬ S k → w'.heap[k]? = w.heap[k]?
section
variable {a b c : World} {S T : Nat → Prop}
theorem Ext.chg (h : Ext a b) (S : Nat → Prop) : Chg a b S := ⟨h.os, h.tape, h.output, Below.size h, fun k hk _ => Below.block h k hk⟩
theorem Chg.trans (h : Chg a b S) (k : Chg b c T) (hT : ∀ x, x < a.heap.size → T x → S x) : Chg a c S :=
  ⟨k.os.trans h.os, k.tape.trans h.tape, k.output.trans h.output, Nat.le_trans h.size k.size, fun x hx hS => (k.block x (Nat.lt_of_lt_of_le hx h.size) (fun t => hS (hT x hx t))).trans (h.block x hx hS)⟩
theorem Chg.mono (h : Chg a b S) (hT : ∀ x, x < a.heap.size → S x → T x) : Chg a b T := ⟨h.os, h.tape, h.output, h.size, fun x hx hS => h.block x hx fun s => hS (hT x hx s)⟩
theorem gb_chg {row : Option Nat} (h : a.grownBy b row) : Chg a b (fun k => row = some k) := ⟨h.os, h.tape, h.output, h.size, fun k hk hS => h.block k hk (fun e => hS e.symm)⟩
theorem Chg.ext (h : Chg a b S) (hS : ∀ x, x < a.heap.size → ¬ S x) : Ext a b := ⟨h.os, h.tape, h.output, h.size, fun k hk => h.block k hk (hS k hk)⟩
theorem Bk.chg {g : Nat} {t : TypeId} {cs : Array Value} (h : Bk a g t cs) (k : Chg a b S) (hS : ¬ S g) : Bk b g t cs := (k.block g h.lt hS).trans h
theorem own_chg {base n size : Nat} {e : TypeId} {v : Value} {xs : List Value} (h : a.ownsRow base e size v n xs) (k : Chg a b S) (hS : ∀ g, v.ownBlock = some g → ¬ S g) : b.ownsRow base e size v n xs := by
  refine ⟨h.1, ?_⟩
  rcases h.2 with h2 | ⟨g, cap, cur, hv, hg, hh, r⟩
  · exact .inl h2
  · refine .inr ⟨g, cap, cur, hv, hg, ?_, r⟩
    have hl : g < a.heap.size := (Array.getElem?_eq_some_iff.1 hh).1
    exact (k.block g hl (hS g (by rw [hv]; rfl))).trans hh
theorem own_type {base n size b : Nat} {e t : TypeId} {v : Value} {xs : List Value} {cs : Array Value} (h : a.ownsRow base e size v n xs) (hb : Bk a b t cs) (hne : e ≠ t) : v.ownBlock ≠ some b := by
  rcases h.2 with ⟨rfl, _⟩ | ⟨g, cap, cur, rfl, _, hh, _⟩
  · simp [Value.ownBlock]
  · intro e'
    obtain rfl : g = b := by simpa [Value.ownBlock] using e'
    unfold Bk at hb
    rw [hb] at hh
    simp at hh
    exact hne hh.2.symm
end

theorem bk_ne {w : World} {a b : Nat} {t t' : TypeId} {cs cs' : Array Value} (h : Bk w a t cs) (k : Bk w b t' cs') (hne : t ≠ t') : a ≠ b := by
  rintro rfl
  unfold Bk at h k
  rw [h] at k
  simp at k
  exact hne k.2
theorem own_own {w : World} {b b' n n' k k' : Nat} {e e' : TypeId} {v v' : Value} {xs xs' : List Value} (h : w.ownsRow b e k v n xs) (h' : w.ownsRow b' e' k' v' n' xs') (hne : e ≠ e') {g : Nat} (hg : v.ownBlock = some g) : v'.ownBlock ≠ some g := by
  intro hg'
  rcases h.2 with ⟨rfl, _⟩ | ⟨g1, cap, cur, rfl, _, hh, _⟩
  · simp [Value.ownBlock] at hg
  · rcases h'.2 with ⟨rfl, _⟩ | ⟨g2, cap', cur', rfl, _, hh', _⟩
    · simp [Value.ownBlock] at hg'
    · obtain rfl : g1 = g := by simpa [Value.ownBlock] using hg
      obtain rfl : g2 = g1 := by simpa [Value.ownBlock] using hg'
      rw [hh] at hh'
      simp at hh'
      exact hne hh'.2
/-- what is kept of a row is a row of none -/
theorem own_cut0 {w : World} {base n size g c : Nat} {e : TypeId} {xs : List Value} (h : w.ownsRow base e size (.slice (some ⟨g, 0, none⟩) n c) n xs) : w.ownsRow base e size (.slice (some ⟨g, 0, none⟩) 0 c) 0 [] := by
  rcases h.2 with ⟨h1, _⟩ | ⟨g', cap, cur, h1, h2, h3, h4, h5, h6, h7⟩
  · cases h1
  · injection h1 with a1 a2 a3
    injection a1 with a1
    injection a1 with a1
    subst a1 a3
    exact ⟨by simp, .inr ⟨g, c, cur, rfl, h2, h3, Nat.zero_le _, h5, h6, by simp⟩⟩
end Go.Proofs.YtcgfdhgceokcnaaDoor

/- store.Find: a binary search. -/
namespace Go.Proofs.YtcgfdhgceokcnaaDoor
open Go.RowKit
set_option linter.unusedVariables false
attribute [local go_sem ↓] Go.wp_at_zero Go.wp_at_succ

def cmpI (p : Pr) (key : ByteArray) : Int := if kLt p.key key = true then -1 else if p.key = key then 0 else 1
theorem cmpI_any (p : Pr) (key : ByteArray) (w : World) :
    Calls Tryd.prog 36 #[p.val, .string key] w fun e w' => e = .returned (.int .i64 (cmpI p key)) ∧ Ext w w' := by
  have HC : Hid (Lib.compareBytes p.key.data.toList key.data.toList = cmpI p key) := kCmp p.key key
  obtain ⟨pk, pv, pg⟩ := p
  have B := Bk.at_ w 30 #[.string pk, .string pv, .bool pg] w.heap.size rfl
  have c0 := B.cell 0
  have e0 : Ext w (w.alloc (.cells #[.string pk, .string pv, .bool pg] 30)) := (Ext.refl _).alloc _
  simp only [List.getElem?_toArray] at c0
  go_enter Tryd.func36, Tryd.ntmps36
  go_wp2_with fail
  generalize w.alloc (.cells #[.string pk, .string pv, .bool pg] 30) = W1 at *
  refine (Tryd.strings_Compare pk key _).mono ?_
  rw [HC.out]
  rintro _ w1 ⟨rfl, rfl⟩
  go_wp2_with fail
  go_ret
  exact ⟨rfl, e0⟩

set_option maxRecDepth 100000 in
set_option maxHeartbeats 1000000 in
theorem BSearch_any (K : Nat) (hK : ∀ (p : Pr) (key : ByteArray) (w : World), Calls Tryd.prog K #[p.val, .string key] w fun e w' => e = .returned (.int .i64 (cmpI p key)) ∧ Ext w w') (hrun : ∀ (v u : Value) (w : World), (callFunc K #[v, u]).run Tryd.prog w = .ok (.enter K #[v, u]) w)
    (A : Option Addr) (n c : Nat) (es : List Pr) (key : ByteArray) (w : World) (hr : Rd w 3 A n c (es.flatMap Pr.cells)) (hm : c ≤ maxLen) (hn : n ≤ 1099511627776) (ho : Asc es) :
    Calls Tryd.prog 35 #[.slice A n c, .string key, .func (.func K) #[] #[]] w fun e w' => e = .returned (.tuple #[.int .i64 (lowN es key : Nat), .bool (hasB es key)]) ∧ Ext w w' := by
  have hl : n ≤ c := hr.2.1
  have hx := hr.lenP
  have HX := Lib.hid hx
  have HK := Lib.hid hK
  have HO := Lib.hid ho
  have HLE := Lib.hid (lowN_le es key)
  have HS := Lib.hid (low_side ho key)
  obtain ⟨lo, HLO⟩ : ∃ x, Hid (lowN es key = x) := ⟨_, rfl⟩
  obtain ⟨hb, HHB⟩ : ∃ x, Hid (hasB es key = x) := ⟨_, rfl⟩
  rw [HLO.out] at HLE HS
  rw [HLO.out, HHB.out]
  have hlo : lo ≤ n := by rw [← hx]; exact HLE.out
  clear hK ho hx
  unfold maxLen at hm
  go_enter Tryd.func35, Tryd.ntmps35
  go_wp2_with fail
  go_loopw [9, 10, 11] (fun x y _ wr => ∃ i j : Nat, x = .int .i64 i ∧ y = .int .i64 j ∧ i ≤ lo ∧ lo ≤ j ∧ j ≤ n ∧ Ext w wr) (fun x y _ _ => (intOf y).toNat - (intOf x).toNat)
  case atStart => exact ⟨0, n, rfl, rfl, by omega, hlo, by omega, Ext.refl _⟩
  case round =>
    obtain ⟨i, j, rfl, rfl, hi, hj, hjn, hbw⟩ := hrel
    by_cases hlt : i < j
    · have hmn : (i + j) / 2 < n := by omega
      have k1 : ((i : Int) + (j : Int)) / 2 = (((i + j) / 2 : Nat) : Int) := by omega
      obtain ⟨md, hmd⟩ : ∃ m, (i + j) / 2 = m := ⟨_, rfl⟩
      have hi2 : i ≤ md := by omega
      have hj2 : md < j := by omega
      rw [hmd] at k1 hmn
      clear hmd
      have hgj := List.getElem?_eq_getElem (l := es) (i := md) (by rw [HX.out]; exact hmn)
      obtain ⟨ad, rfl, hb, y0, y1, y2⟩ := (hr.ext hbw).getP hgj
      have hside : (md < lo → kLt (es[md]'(by rw [HX.out]; exact hmn)).key key = true) ∧ (lo ≤ md → kLt (es[md]'(by rw [HX.out]; exact hmn)).key key = false) := ⟨fun h => HS.out.1 md _ h hgj, fun h => HS.out.2 md _ h hgj⟩
      generalize es[md]'(by rw [HX.out]; exact hmn) = p at *
      have HP := Lib.hid hside
      obtain ⟨cm, HCM⟩ : ∃ x, Hid (cmpI p key = x) := ⟨_, rfl⟩
      have hc := HK.out p key
      rw [HCM.out] at hc
      have HCC := Lib.hid hc
      obtain ⟨pk, pv, pg⟩ := p
      simp only at y0 y1 y2
      clear hc hside hgj
      go_wp2_with fail
      refine (HCC.out _).mono ?_
      rintro _ w1 ⟨rfl, hb1⟩
      by_cases hml : md < lo
      · have h1 := HP.out.1 hml
        have hcm : cm < 0 := by rw [← HCM.out]; unfold cmpI; rw [if_pos h1]; decide
        clear h1
        go_wp2_with fail
        go_roundw
        case rel => exact ⟨md + 1, j, by go_num, rfl, by omega, hj, hjn, hbw.trans hb1⟩
        case measure => simp [intOf]; omega
      · have h1 := HP.out.2 (by omega)
        have hcm : ¬ cm < 0 := by rw [← HCM.out]; unfold cmpI; rw [if_neg (by rw [h1]; decide)]; split <;> decide
        clear h1
        go_wp2_with fail
        go_roundw
        case rel => exact ⟨i, md, rfl, rfl, hi, by omega, by omega, hbw.trans hb1⟩
        case measure => simp [intOf]; omega
    · obtain rfl : i = j := by omega
      obtain rfl : i = lo := by omega
      clear hi hj hlt
      by_cases hin : i < n
      · have hgj := List.getElem?_eq_getElem (l := es) (i := i) (by rw [HX.out]; exact hin)
        obtain ⟨ad, rfl, hb', y0, y1, y2⟩ := (hr.ext hbw).getP hgj
        have hfin : hasB es key = decide ((es[i]'(by rw [HX.out]; exact hin)).key = key) := by unfold hasB; rw [HLO.out, hgj]
        have hside := HS.out.2 i _ (Nat.le_refl _) hgj
        generalize es[i]'(by rw [HX.out]; exact hin) = p at *
        have HF := Lib.hid hfin
        obtain ⟨cm, HCM⟩ : ∃ x, Hid (cmpI p key = x) := ⟨_, rfl⟩
        have hc := HK.out p key
        rw [HCM.out] at hc
        have HCC := Lib.hid hc
        have HSD := Lib.hid hside
        obtain ⟨pk, pv, pg⟩ := p
        simp only at y0 y1 y2
        clear hc hside hgj hfin
        go_wp2_with fail
        refine (HCC.out _).mono ?_
        rintro _ w1 ⟨rfl, hb1⟩
        have hz : (cm == 0) = hb := by
          rw [← HHB.out, HF.out, ← HCM.out]
          unfold cmpI
          rw [if_neg (by rw [HSD.out]; decide)]
          show _ = decide (pk = key)
          by_cases h : pk = key
          · rw [if_pos h]; simp [h]
          · rw [if_neg h]; simp [h]
        go_wp2_with fail
        refine bodyPost_ret (by simp [results, Tryd.results35, go_sem]; try rfl) rfl ?_
        exact ⟨rfl, hbw.trans hb1⟩
      · have hfin : hb = false := by
          rw [← HHB.out]
          unfold hasB
          rw [HLO.out, List.getElem?_eq_none (by rw [HX.out]; omega)]
        subst hfin
        go_wp2_with fail
        refine bodyPost_ret (by simp [results, Tryd.results35, go_sem]; try rfl) rfl ?_
        exact ⟨rfl, hbw⟩

theorem Find_any (A : Option Addr) (n c : Nat) (es : List Pr) (key : ByteArray) (w : World) (hr : Rd w 3 A n c (es.flatMap Pr.cells)) (hm : c ≤ maxLen) (hn : n ≤ 1099511627776) (ho : Asc es) :
    Calls Tryd.prog 24 #[.slice A n c, .string key] w fun e w' => e = .returned (.tuple #[.int .i64 (lowN es key : Nat), .bool (hasB es key)]) ∧ Ext w w' := by
  have HO := Lib.hid ho
  clear ho
  go_enter Tryd.func24, Tryd.ntmps24
  go_wp2_with fail
  refine (BSearch_any 36 cmpI_any (fun v u w => by kernel_rfl) A n c es key _ hr hm hn HO.out).mono ?_
  rintro _ w1 ⟨rfl, hb1⟩
  go_wp2_with fail
  refine bodyPost_ret (by simp [results, Tryd.results24, go_sem]; try rfl) rfl ?_
  exact ⟨rfl, hb1⟩
end Go.Proofs.YtcgfdhgceokcnaaDoor

/- slices.Insert of one pair into a row that is owned. -/
namespace Go.Proofs.YtcgfdhgceokcnaaDoor
open Go.RowKit
set_option linter.unusedVariables false
attribute [local go_sem ↓] Go.wp_at_zero Go.wp_at_succ

theorem run_copy_rowK {P : Program} (w : World) (dT sT ty elem : TypeId) (k g o dLen dCap : Nat) (a : Addr) (sLen sCap : Nat) (cur : Array Value) (t : TypeId) (cs : List Value)
    (hu : P.underlying dT = some (.slice elem)) (hs : (P.info? elem).map (·.size) = some k)
    (hg : w.heap[g]? = some (.cells cur t (0, 0))) (hn : cs.length = Nat.min sLen dLen * k)
    (hsrc : ∀ j v, cs[j]? = some v → w.cell? (a.add j) = some v) (hfit : o + cs.length ≤ cur.size) (h1 : ∀ v ∈ cs, v.oneCell' = true) :
    (Builtin.copy_ #[dT, sT] ty #[.slice (some ⟨g, o, none⟩) dLen dCap, .slice (some a) sLen sCap]).run P w =
      .ok (goInt (Nat.min sLen dLen)) (w.setRow g (cur.toList.take o ++ cs ++ cur.toList.drop (o + cs.length)).toArray) := by
  have hl := run_loadCells_list (P := P) w a cs hsrc
  have hst := run_storeCells_at P g o t cs 0 cur w hg (by simpa using hfit) h1
  cases hq : P.info? elem with
  | none => simp [hq] at hs
  | some i =>
    have hi : i.size = k := by simpa [hq] using hs
    simp [Builtin.copy_, run_underlying hu, Builtin.lenOf, Builtin.firstCells, sizeOf, typeInfo, hq, hi, ← hn, hl, hst]

theorem info_pair : (Tryd.prog.info? 30).map (fun i => (i.zero, i.size, i.bytes)) = some (some (.agg #[.string ⟨#[]⟩, .string ⟨#[]⟩, .bool false]), 3, 40) := by kernel_rfl

/-- one laid in -/
def laidIn' {α : Type} (xs news : List α) (i : Nat) : List α := xs.take i ++ news ++ xs.drop i
abbrev laidIn (xs news : List Value) (i : Nat) : List Value := laidIn' xs news i
theorem laid_end {α : Type} (cur nw : List α) {cs : List α} {n i k : Nat} (hi : i < n) (h0 : 0 < k) (hn : (n + 1) * k ≤ cur.length) (hnl : nw.length = k) (hcs : cs = (cur.take (n * k)).drop (i * k)) (hcl : cs.length = (n - i) * k) :
    (((cur.take ((i + 1) * k) ++ cs ++ cur.drop ((i + 1) * k + cs.length)).toArray.toList.take (i * k) ++ nw ++ (cur.take ((i + 1) * k) ++ cs ++ cur.drop ((i + 1) * k + cs.length)).toArray.toList.drop (i * k + nw.length)).toArray.toList).take ((n + 1) * k) = laidIn' (cur.take (n * k)) nw (i * k) := by
  have e1 : (i + 1) * k = i * k + k := Nat.succ_mul i k
  have e2 : n * k = i * k + cs.length := by rw [hcl, ← Nat.add_mul]; congr 1; omega
  have e3 : (n + 1) * k = i * k + cs.length + k := by rw [Nat.succ_mul, e2]
  rw [e3] at hn
  rw [e2] at hcs
  rw [e1, e3, e2]
  clear e1 e2 e3 hcl
  generalize i * k = a at *
  have hl0 : (cur.take a).length = a := by rw [List.length_take]; omega
  have hl1 : (cur.take (a + k)).length = a + k := by rw [List.length_take]; omega
  have t1 : (cur.take (a + k) ++ cs ++ cur.drop (a + k + cs.length)).take a = cur.take a := by
    rw [List.append_assoc, List.take_append_of_le_length (by omega), List.take_take, Nat.min_eq_left (by omega)]
  have t2 : (cur.take (a + k) ++ cs ++ cur.drop (a + k + cs.length)).drop (a + k) = cs ++ cur.drop (a + k + cs.length) := by
    rw [List.append_assoc, List.drop_left' hl1]
  have t3 : (cur.take (a + cs.length)).take a = cur.take a := by rw [List.take_take, Nat.min_eq_left (by omega)]
  unfold laidIn'
  rw [hnl, t1, t2, ← hcs, t3]
  show List.take _ (cur.take a ++ nw ++ (cs ++ cur.drop (a + k + cs.length))) = _
  rw [← List.append_assoc, List.take_left' (by simp only [List.length_append]; omega)]
theorem shape_of {w : World} {g : Nat} {cur : Array Value} {t : TypeId} (h : w.heap[g]? = some (.cells cur t (0, 0))) : w.shape? g = some (t, cur.size) := by simp [World.shape?, h]

set_option maxRecDepth 100000 in
set_option maxHeartbeats 2000000 in
theorem Ins_shift (g n c i q : Nat) (cur nw : Array Value) (w : World) (hi : i < n) (hroom : n + 1 ≤ c) (hc63 : c ≤ maxLen) (hg : w.heap[g]? = some (.cells cur 30 (0, 0))) (hcs : cur.size = c * 3)
    (hnl : nw.size = 3) (hq : w.heap[q]? = some (.cells nw 30 (0, 0))) (hqg : q ≠ g) (h1c : ∀ v ∈ cur.toList.take (n * 3), v.oneCell' = true) (h1v : ∀ v ∈ nw.toList, v.oneCell' = true) :
    Calls Tryd.prog 25 #[.slice (some ⟨g, 0, none⟩) n c, .int .i64 i, .slice (some ⟨q, 0, none⟩) 1 1] w fun e w' =>
      e = .returned (.slice (some ⟨g, 0, none⟩) (n + 1) c) ∧ w.grownBy w' (some g) ∧ ∃ cur', w'.heap[g]? = some (.cells cur' 30 (0, 0)) ∧ cur'.size = c * 3 ∧ cur'.toList.take ((n + 1) * 3) = laidIn (cur.toList.take (n * 3)) nw.toList (i * 3) := by
  unfold maxLen at hc63
  have hsz : (Tryd.prog.info? 30).map (·.size) = some 3 := by kernel_rfl
  have hov : ∀ lb cb, (callFunc 38 #[.slice (some ⟨q, 0, none⟩) 1 1, .slice (some ⟨g, (i + 1) * 3, none⟩) lb cb]).run Tryd.prog w = .ok (.value (.bool false)) w := fun lb cb => by
    rw [run_callFunc_extern Tryd.func38 (by kernel_rfl) (by kernel_rfl) (by kernel_rfl) (e := Extern.SlicesOverlaps.overlaps #[27, 27] #[4]) (by kernel_rfl),
      Lib.run_overlaps_apart w 27 4 30 Tryd.underlying27 3 Tryd.sizeOf30 ⟨q, 0, none⟩ ⟨g, (i + 1) * 3, none⟩ 1 1 lb cb hqg _ _ _ _ (shape_of hq) (shape_of hg) (by omega) (by simp [World.frozen?, hq]) (by simp [World.frozen?, hq])]
    rfl
  have hcl : cur.toList.length = c * 3 := by simpa using hcs
  obtain ⟨cs, hcsd⟩ : ∃ cs, cs = (cur.toList.take (n * 3)).drop (i * 3) := ⟨_, rfl⟩
  have hcsl : cs.length = (n - i) * 3 := by rw [hcsd, List.length_drop, List.length_take, hcl]; omega
  obtain ⟨R1, hR1⟩ : ∃ R1 : Array Value, R1 = (cur.toList.take ((i + 1) * 3) ++ cs ++ cur.toList.drop ((i + 1) * 3 + cs.length)).toArray := ⟨_, rfl⟩
  obtain ⟨R2, hR2⟩ : ∃ R2 : Array Value, R2 = (R1.toList.take (i * 3) ++ nw.toList ++ R1.toList.drop (i * 3 + nw.toList.length)).toArray := ⟨_, rfl⟩
  have hnl' : nw.toList.length = 3 := by simpa using hnl
  have hR1s : R1.size = c * 3 := by rw [hR1]; simp [hcl, hcsl]; omega
  have hR1l : R1.toList.length = c * 3 := by simpa using hR1s
  have hR2s : R2.size = c * 3 := by rw [hR2, List.size_toArray, List.length_append, List.length_append, List.length_take, List.length_drop, hR1l, hnl']; omega
  have hcurc : ∀ j v, cur.toList[j]? = some v → w.cell? ⟨g, j, none⟩ = some v := fun j v h => by rw [cell_of_row w g j cur _ (0, 0) hg]; simpa using h
  have hcp1 : ∀ ty dc sc, (Builtin.copy_ #[27, 27] ty #[.slice (some ⟨g, (i + 1) * 3, none⟩) (n - i) dc, .slice (some ⟨g, i * 3, none⟩) (n + 1 - i) sc]).run Tryd.prog w.drew = .ok (goInt (n - i : Nat)) (w.drew.setRow g R1) := fun ty dc sc => by
    have h := run_copy_rowK w.drew 27 27 ty 30 3 g ((i + 1) * 3) (n + 1 - (i + 1)) dc ⟨g, i * 3, none⟩ (n + 1 - i) sc cur 30 cs Tryd.underlying27 hsz hg
      (by rw [hcsl]; congr 1; simp only [Nat.min_def]; split <;> omega)
      (fun j v hj => by
        rw [Addr.add_lit]
        show w.cell? _ = _
        refine hcurc _ v ?_
        rw [hcsd, List.getElem?_drop, List.getElem?_take] at hj
        split at hj
        · exact hj
        · cases hj)
      (by rw [hcs, hcsl]; omega) (fun v hv => h1c v (by rw [hcsd] at hv; exact List.mem_of_mem_drop hv))
    rw [← hR1, show Nat.min (n + 1 - i) (n + 1 - (i + 1)) = n - i by simp only [Nat.min_def]; split <;> omega, show n + 1 - (i + 1) = n - i by omega] at h
    exact h
  have hW1g : (w.drew.setRow g R1).heap[g]? = some (.cells R1 30 (0, 0)) := setRow_heap w.drew g cur _ _ (0, 0) hg
  have hW1q : (w.drew.setRow g R1).heap[q]? = some (.cells nw 30 (0, 0)) := (setRow_other w.drew g q _ hqg).trans hq
  have hcp2 : ∀ ty dc, (Builtin.copy_ #[27, 27] ty #[.slice (some ⟨g, i * 3, none⟩) (n + 1 - i) dc, .slice (some ⟨q, 0, none⟩) 1 1]).run Tryd.prog (w.drew.setRow g R1) = .ok (goInt (1 : Nat)) ((w.drew.setRow g R1).setRow g R2) := fun ty dc => by
    have h := run_copy_rowK (w.drew.setRow g R1) 27 27 ty 30 3 g (i * 3) (n + 1 - i) dc ⟨q, 0, none⟩ 1 1 R1 30 nw.toList Tryd.underlying27 hsz hW1g
      (by rw [hnl', show Nat.min 1 (n + 1 - i) = 1 by simp only [Nat.min_def]; split <;> omega])
      (fun j v hj => by
        rw [Addr.add_lit, Nat.zero_add, cell_of_row _ q j nw _ (0, 0) hW1q]
        simpa using hj)
      (by rw [hR1s, hnl']; omega) h1v
    rw [← hR2, show Nat.min 1 (n + 1 - i) = 1 by simp only [Nat.min_def]; split <;> omega] at h
    exact h
  have hend : R2.toList.take ((n + 1) * 3) = laidIn (cur.toList.take (n * 3)) nw.toList (i * 3) := by
    rw [hR2, hR1]
    exact laid_end cur.toList nw.toList hi (by omega) (by rw [hcl]; omega) hnl' hcsd hcsl
  obtain ⟨W2, hW2⟩ : ∃ W2, W2 = (w.drew.setRow g R1).setRow g R2 := ⟨_, rfl⟩
  rw [← hW2] at hcp2
  obtain ⟨W1, hW1⟩ : ∃ W1, W1 = w.drew.setRow g R1 := ⟨_, rfl⟩
  rw [← hW1] at hcp1 hcp2
  have HE : Hid (w.grownBy W2 (some g) ∧ ∃ cur', W2.heap[g]? = some (.cells cur' 30 (0, 0)) ∧ cur'.size = c * 3 ∧ cur'.toList.take ((n + 1) * 3) = laidIn (cur.toList.take (n * 3)) nw.toList (i * 3)) := by
    refine ⟨?_, R2, ?_, hR2s, hend⟩
    · rw [hW2]
      exact ⟨rfl, rfl, rfl, by simp, fun k hk hne => by
        have hkg : k ≠ g := fun e => hne (by rw [e])
        rw [setRow_other _ _ _ _ hkg, setRow_other _ _ _ _ hkg]
        rfl⟩
    · rw [hW2]
      exact setRow_heap _ g R1 R2 _ (0, 0) hW1g
  clear hend hW1g hW1q hcurc hR1l hR2s hR1s hR1 hR2 hcsd hcsl hcl hcs hg hq h1c h1v hnl hnl' hsz hW1 hW2
  have hw1 : IntKind.i64.wrap ((i : Int) + 1) = (i : Int) + 1 := IntWalk.i64_in _ (by omega)
  have hb1 : (0 : Int) ≤ (i : Int) + 1 := by omega
  have hin : i ≤ n := by omega
  have htn : ((i : Int) + 1).toNat = i + 1 := by omega
  have hb2 : ¬ (c = i + 1) := by omega
  have hb3 : (i : Int) ≤ (n : Int) + 1 := by omega
  have hb4 : ¬ (c = i) := by omega
  go_enter Tryd.func25, Tryd.ntmps25
  go_wp2_with (simp only [hov])
  go_region_law (refine step_copy_runI rfl _ _ 27 27 rfl _ _ (by simp [Act.eval, Act.put]) (by simp [Act.eval, Act.put]) (hcp1 _ _ _) ?_)
  go_wp2_with (at_builtin; refine wpList_copy_runI _ rfl _ _ 27 27 rfl _ _ rfl rfl (hcp2 _ _) ?_)
  go_ret
  exact ⟨rfl, HE.out⟩

theorem laid_end2 {α : Type} (row xs nw : List α) {cs : List α} {n i k : Nat} (hi : i < n) (h0 : 0 < k) (hn : (n + 1) * k ≤ row.length) (hnl : nw.length = k) (hxl : xs.length = n * k) (hrow : row.take (i * k) = xs.take (i * k)) (hcs : cs = xs.drop (i * k)) (hcl : cs.length = (n - i) * k) :
    (((row.take (i * k) ++ nw ++ row.drop (i * k + nw.length)).toArray.toList.take ((i + 1) * k) ++ cs ++ (row.take (i * k) ++ nw ++ row.drop (i * k + nw.length)).toArray.toList.drop ((i + 1) * k + cs.length)).toArray.toList).take ((n + 1) * k) = laidIn' xs nw (i * k) := by
  have e1 : (i + 1) * k = i * k + k := Nat.succ_mul i k
  have e2 : n * k = i * k + cs.length := by rw [hcl, ← Nat.add_mul]; congr 1; omega
  have e3 : (n + 1) * k = i * k + cs.length + k := by rw [Nat.succ_mul, e2]
  rw [e3] at hn
  rw [e1, e3]
  clear e1 e2 e3 hcl
  generalize i * k = a at *
  have hl0 : (row.take a).length = a := by rw [List.length_take]; omega
  have t1 : (row.take a ++ nw ++ row.drop (a + nw.length)).take (a + k) = row.take a ++ nw := by
    rw [List.take_left' (by rw [List.length_append]; omega)]
  unfold laidIn'
  show List.take _ (List.take (a + k) (row.take a ++ nw ++ row.drop (a + nw.length)) ++ cs ++ _) = _
  rw [t1, List.take_left' (by simp only [List.length_append]; omega), hrow, hcs]
theorem zsize (cs : Array Value) (k : Nat) : (Builtin.zeroCells cs k).size = cs.size * k := by
  simp [Builtin.zeroCells, Nat.mul_comm]
set_option maxRecDepth 100000 in
set_option maxHeartbeats 4000000 in
theorem Ins_grow (g n c i q : Nat) (xs : List Value) (nw : Array Value) (w : World) (hi : i < n) (hnc : n ≤ c) (hroom : c < n + 1) (hbig : n ≤ 1048576) (hg : g < w.heap.size) (hx : ∀ j v, xs[j]? = some v → w.cell? ⟨g, j, none⟩ = some v) (hxl : xs.length = n * 3)
    (hnl : nw.size = 3) (hq : w.heap[q]? = some (.cells nw 30 (0, 0))) (h1c : ∀ v ∈ xs, v.oneCell' = true) (h1v : ∀ v ∈ nw.toList, v.oneCell' = true) :
    Calls Tryd.prog 25 #[.slice (some ⟨g, 0, none⟩) n c, .int .i64 i, .slice (some ⟨q, 0, none⟩) 1 1] w fun e w' =>
      ∃ cap, e = .returned (.slice (some ⟨w.heap.size, 0, none⟩) (n + 1) cap) ∧ Ext w w' ∧ n + 1 ≤ cap ∧ cap ≤ maxLen ∧ ∃ cur', w'.heap[w.heap.size]? = some (.cells cur' 30 (0, 0)) ∧ cur'.size = cap * 3 ∧ cur'.toList.take ((n + 1) * 3) = laidIn xs nw.toList (i * 3) := by
  have hsz : (Tryd.prog.info? 30).map (·.size) = some 3 := by kernel_rfl
  obtain ⟨i0, hi0, hz0, hzs, hzb⟩ := info_parts info_pair
  have hql : q < w.heap.size := (Array.getElem?_eq_some_iff.1 hq).1
  have hnl' : nw.toList.length = 3 := by simpa using hnl
  have hkk : (n : Int) + 1 - (i : Int) = ((n + 1 - i : Nat) : Int) := by omega
  have hik : i + (n + 1 - i) = n + 1 := by omega
  have hold : (Builtin.firstCells i0.size i (.slice (some ⟨g, 0, none⟩) i c)).run Tryd.prog w.drew = .ok (xs.take (i * 3)).toArray w.drew := by
    rw [hzs]
    exact run_firstCells_some w.drew 3 i ⟨g, 0, none⟩ i c (xs.take (i * 3)) (by rw [List.length_take, hxl]; omega) (fun j v hj => by
      rw [Addr.add_lit, Nat.zero_add]
      rw [List.getElem?_take] at hj
      split at hj
      · exact hx j v hj
      · cases hj)
  obtain ⟨ROW, hROW⟩ : ∃ ROW : Array Value, ROW = (xs.take (i * 3)).toArray ++ Builtin.zeroCells (Value.agg #[.string ⟨#[]⟩, .string ⟨#[]⟩, .bool false]).cells (n + 1 - i) ++ Builtin.zeroCells (Value.agg #[.string ⟨#[]⟩, .string ⟨#[]⟩, .bool false]).cells (grownCap w (n + 1) c 30 - (n + 1)) := ⟨_, rfl⟩
  have hGn : n + 1 ≤ grownCap w (n + 1) c 30 := grownCap_ge w _ _ _
  have hG63 : grownCap w (n + 1) c 30 ≤ maxLen := grownCap_le_maxLen w (n + 1) c _ (by unfold maxLen; omega)
  have hRs : ROW.size = grownCap w (n + 1) c 30 * 3 := by
    rw [hROW]
    simp only [Array.size_append, List.size_toArray, List.length_take, hxl, zsize]
    rw [Nat.min_eq_left (by omega)]
    show i * 3 + 3 * (n + 1 - i) + 3 * _ = _
    omega
  have hRt : ROW.toList.take (i * 3) = xs.take (i * 3) := by
    rw [hROW]
    simp only [Array.toList_append, List.append_assoc]
    exact List.take_left' (by rw [List.length_take, hxl]; omega)
  have hrz : ∀ ty, (Builtin.append_ #[27, 3] ty #[.slice (some ⟨g, 0, none⟩) i c, .int .i64 ((n : Int) + 1 - (i : Int))]).run Tryd.prog w =
      .ok (.slice (some ⟨w.heap.size, 0, none⟩) (n + 1) (grownCap w (n + 1) c 30)) (w.drew.alloc (.cells ROW 30)) := fun ty => by
    have h := Lib.run_append_grow_zeros w 27 3 ty 30 i0 _ .i64 .i64 Tryd.underlying27 Tryd.underlying3 hi0 hz0 (some ⟨g, 0, none⟩) i c (xs.take (i * 3)) hold (n + 1 - i) (by omega) (by omega) (by omega) (by omega) (by rw [hzb]; omega) (by rw [hzb, hik]; exact growslice_fits hroom (by omega))
    rw [hik] at h
    rw [hkk, hROW]
    exact h
  obtain ⟨G, hG⟩ : ∃ G, G = grownCap w (n + 1) c 30 := ⟨_, rfl⟩
  rw [← hG] at hrz hGn hG63 hRs
  clear hROW hold hik hG
  have hRl : ROW.toList.length = G * 3 := by simpa using hRs
  obtain ⟨cs, hcsd⟩ : ∃ cs, cs = xs.drop (i * 3) := ⟨_, rfl⟩
  have hcsl : cs.length = (n - i) * 3 := by rw [hcsd, List.length_drop, hxl]; omega
  obtain ⟨R1, hR1⟩ : ∃ R1 : Array Value, R1 = (ROW.toList.take (i * 3) ++ nw.toList ++ ROW.toList.drop (i * 3 + nw.toList.length)).toArray := ⟨_, rfl⟩
  obtain ⟨R2, hR2⟩ : ∃ R2 : Array Value, R2 = (R1.toList.take ((i + 1) * 3) ++ cs ++ R1.toList.drop ((i + 1) * 3 + cs.length)).toArray := ⟨_, rfl⟩
  have hR1s : R1.size = G * 3 := by rw [hR1, List.size_toArray, List.length_append, List.length_append, List.length_take, List.length_drop, hRl, hnl']; omega
  have hR1l : R1.toList.length = G * 3 := by simpa using hR1s
  have hR2s : R2.size = G * 3 := by rw [hR2, List.size_toArray, List.length_append, List.length_append, List.length_take, List.length_drop, hR1l, hcsl]; omega
  have hend : R2.toList.take ((n + 1) * 3) = laidIn xs nw.toList (i * 3) := by
    rw [hR2, hR1]
    exact laid_end2 ROW.toList xs nw.toList hi (by omega) (by rw [hRl]; omega) hnl' hxl hRt hcsd hcsl
  have hX : (w.drew.alloc (.cells ROW 30)).heap[w.heap.size]? = some (.cells ROW 30 (0, 0)) := heap_alloc_new w.drew _
  have hXo : ∀ k, k < w.heap.size → (w.drew.alloc (.cells ROW 30)).heap[k]? = w.heap[k]? := fun k hk => Below.heap_alloc w.drew _ k hk
  obtain ⟨X, hXd⟩ : ∃ X, X = w.drew.alloc (.cells ROW 30) := ⟨_, rfl⟩
  rw [← hXd] at hX hXo
  have hcpA : ∀ (W : World), W.heap = X.heap → ∀ ty dc, (Builtin.copy_ #[27, 27] ty #[.slice (some ⟨w.heap.size, i * 3, none⟩) (n + 1 - i) dc, .slice (some ⟨q, 0, none⟩) 1 1]).run Tryd.prog W = .ok (goInt (1 : Nat)) (W.setRow w.heap.size R1) := fun W hW ty dc => by
    have h := run_copy_rowK W 27 27 ty 30 3 w.heap.size (i * 3) (n + 1 - i) dc ⟨q, 0, none⟩ 1 1 ROW 30 nw.toList Tryd.underlying27 hsz (by rw [hW]; exact hX)
      (by rw [hnl', show Nat.min 1 (n + 1 - i) = 1 by simp only [Nat.min_def]; split <;> omega])
      (fun j v hj => by
        rw [Addr.add_lit, Nat.zero_add, cell_of_row _ q j nw _ (0, 0) (by rw [hW]; exact (hXo q hql).trans hq)]
        simpa using hj)
      (by rw [hRs, hnl']; omega) h1v
    rw [← hR1, show Nat.min 1 (n + 1 - i) = 1 by simp only [Nat.min_def]; split <;> omega] at h
    exact h
  have hY : (X.setRow w.heap.size R1).heap[w.heap.size]? = some (.cells R1 30 (0, 0)) := setRow_heap X w.heap.size ROW R1 _ (0, 0) hX
  have hYo : ∀ k, k < w.heap.size → (X.setRow w.heap.size R1).heap[k]? = w.heap[k]? := fun k hk => (setRow_other X w.heap.size k _ (by omega)).trans (hXo k hk)
  have hcpB : ∀ (W : World), W.heap = (X.setRow w.heap.size R1).heap → ∀ ty dc sc, (Builtin.copy_ #[27, 27] ty #[.slice (some ⟨w.heap.size, (i + 1) * 3, none⟩) (n - i) dc, .slice (some ⟨g, i * 3, none⟩) (n - i) sc]).run Tryd.prog W = .ok (goInt (n - i : Nat)) (W.setRow w.heap.size R2) := fun W hW ty dc sc => by
    have h := run_copy_rowK W 27 27 ty 30 3 w.heap.size ((i + 1) * 3) (n - i) dc ⟨g, i * 3, none⟩ (n - i) sc R1 30 cs Tryd.underlying27 hsz (by rw [hW]; exact hY)
      (by rw [hcsl]; congr 1; simp only [Nat.min_def]; split <;> omega)
      (fun j v hj => by
        rw [Addr.add_lit, World.cell?_of_block (w := w) (by rw [hW]; exact hYo g hg)]
        refine hx _ v ?_
        rw [hcsd, List.getElem?_drop] at hj
        exact hj)
      (by rw [hR1s, hcsl]; omega) (fun v hv => h1c v (by rw [hcsd] at hv; exact List.mem_of_mem_drop hv))
    rw [← hR2, show Nat.min (n - i) (n - i) = n - i by simp only [Nat.min_def]; split <;> omega] at h
    exact h
  have HF : ∀ W : World, W.heap = (X.setRow w.heap.size R1).heap → W.os = w.os → W.tape = w.tape → W.output = w.output → Ext w (W.setRow w.heap.size R2) ∧ (W.setRow w.heap.size R2).heap[w.heap.size]? = some (.cells R2 30 (0, 0)) := fun W hW h1 h2 h3 =>
    ⟨⟨h1, h2, h3, by rw [size_setRow, hW, size_setRow, hXd]; simp, fun k hk => by rw [setRow_other _ _ _ _ (by omega), hW]; exact hYo k hk⟩, setRow_heap W w.heap.size R1 R2 _ (0, 0) (by rw [hW]; exact hY)⟩
  have hEnd : Hid (∀ W : World, Ext w W ∧ W.heap[w.heap.size]? = some (.cells R2 30 (0, 0)) → ∃ cap, Ending.returned (.slice (some ⟨w.heap.size, 0, none⟩) (n + 1) G) = Ending.returned (.slice (some ⟨w.heap.size, 0, none⟩) (n + 1) cap) ∧ Ext w W ∧ n + 1 ≤ cap ∧ cap ≤ maxLen ∧ ∃ cur', W.heap[w.heap.size]? = some (.cells cur' 30 (0, 0)) ∧ cur'.size = cap * 3 ∧ cur'.toList.take ((n + 1) * 3) = laidIn xs nw.toList (i * 3)) := Lib.hid fun W h => ⟨G, rfl, h.1, hGn, hG63, R2, h.2, hR2s, hend⟩
  have HHF := Lib.hid HF
  subst hXd
  clear HF hend hX hXo hY hYo hR1l hR2s hR1s hR1 hR2 hcsd hcsl hRl hRs hRt hnl hnl' h1c h1v hx hq
  have hw1 : IntKind.i64.wrap ((i : Int) + 1) = (i : Int) + 1 := IntWalk.i64_in _ (by omega)
  have hb1 : (0 : Int) ≤ (i : Int) + 1 := by omega
  have hin : i ≤ n := by omega
  have htn : ((i : Int) + 1).toNat = i + 1 := by omega
  have hb3 : (i : Int) ≤ (n : Int) := by omega
  unfold maxLen at hG63
  have hGi : ¬ (G = i) := by omega
  have hGim : ¬ (G = i + 1) := by omega
  have hci : ¬ (c = i) := by omega
  have hz3 : (c : Int) < (n : Int) + 1 := by omega
  clear hkk
  have hE1 : ((w.alloc (.cells ROW 30)).drew).heap = (w.drew.alloc (.cells ROW 30)).heap := rfl
  have hF1 : (((w.alloc (.cells ROW 30)).drew.setRow w.heap.size R1).drew).heap = ((w.drew.alloc (.cells ROW 30)).setRow w.heap.size R1).heap := rfl
  go_enter Tryd.func25, Tryd.ntmps25
  go_wp2_with (first
    | (at_builtin; refine Lib.wpList_append_run _ rfl _ _ _ _ rfl _ _ rfl rfl _ _ (hrz _) ?_)
    | (at_builtin; refine wpList_copy_runI _ rfl _ _ 27 27 rfl _ _ rfl rfl (hcpA _ hE1 _ _) ?_))
  go_region_law (refine step_copy_runI rfl _ _ 27 27 rfl (.slice (some ⟨w.heap.size, (i + 1) * 3, none⟩) (n - i) (G - (i + 1))) (.slice (some ⟨g, i * 3, none⟩) (n - i) (c - i)) (by simp [Act.eval, Act.put]) (by simp [Act.eval, Act.put]) (hcpB _ hF1 3 (G - (i + 1)) (c - i)) ?_)
  go_wp2_with fail
  go_ret
  exact hEnd.out _ (HHF.out _ rfl rfl rfl rfl)

set_option maxRecDepth 100000 in
set_option maxHeartbeats 2000000 in
theorem Ins_end (base n q : Nat) (v : Value) (xs : List Value) (nw : Array Value) (w : World) (hn : n + 1 ≤ 1048576) (hb : base ≤ w.heap.size) (hown : w.ownsRow base 30 3 v n xs)
    (hnl : nw.size = 3) (hq : w.heap[q]? = some (.cells nw 30 (0, 0))) (h1v : ∀ u ∈ nw.toList, u.oneCell' = true) :
    Calls Tryd.prog 25 #[v, .int .i64 n, .slice (some ⟨q, 0, none⟩) 1 1] w fun e w' =>
      ∃ g cap, e = .returned (.slice (some ⟨g, 0, none⟩) (n + 1) cap) ∧ w'.ownsRow base 30 3 (.slice (some ⟨g, 0, none⟩) (n + 1) cap) (n + 1) (xs ++ nw.toList) ∧ w.grownBy w' v.ownBlock ∧ (v.ownBlock = some g ∨ g = w.heap.size) := by
  obtain ⟨i0, hi0, hz0, hzs, hzb⟩ := info_parts info_pair
  have hq0 : ∀ (j : Nat) u, nw.toList[j]? = some u → w.cell? ((⟨q, 0, none⟩ : Addr).add j) = some u := fun j u hj => by
    rw [Addr.add_lit, Nat.zero_add, cell_of_row _ q j nw _ (0, 0) hq]
    simpa using hj
  have hnl' : nw.toList.length = 1 * 3 := by simpa using hnl
  obtain ⟨A, c, rfl, hc, hr, hnil⟩ := own_rd hown
  have hl := hr.2.1
  have hA : A = none → n = 0 := fun h => by
    rcases Nat.eq_zero_or_pos n with h0 | h0
    · exact h0
    · obtain ⟨ad, h2, _⟩ := hr.2.2 h0
      rw [h] at h2; cases h2
  have HN := Lib.hid hnil
  clear hnil hr
  unfold maxLen at hc
  have HQ := Lib.hid hq0
  have HL := Lib.hid hnl'
  have H1 := Lib.hid h1v
  clear hq hnl hnl' h1v hq0
  go_enter Tryd.func25, Tryd.ntmps25
  cases A with
  | none =>
    obtain rfl := hA rfl
    go_wp2_with (at_builtin; refine wpl_apps (by rfl) _ _ _ (by rfl) base 30 i0 _ 3 40 Tryd.underlying27 hi0 hz0 hzs hzb rfl (by omega) _ _ _ (by rfl) hown ⟨q, 0, none⟩ 1 1 nw.toList (by rfl) HL.out HQ.out H1.out (by omega) (by omega) (by omega) hb ?_; intro g cap w6 own6 hg6 hH6 hlt6)
    go_ret
    exact ⟨g, cap, rfl, own6, hg6, hH6⟩
  | some a =>
    obtain ⟨ab, ao, asp⟩ := a
    go_wp2_with (at_builtin; refine wpl_apps (by rfl) _ _ _ (by rfl) base 30 i0 _ 3 40 Tryd.underlying27 hi0 hz0 hzs hzb rfl (by omega) _ _ _ (by rfl) hown ⟨q, 0, none⟩ 1 1 nw.toList (by rfl) HL.out HQ.out H1.out (by omega) (by omega) (by omega) hb ?_; intro g cap w6 own6 hg6 hH6 hlt6)
    all_goals
      go_ret
      exact ⟨g, cap, rfl, own6, hg6, hH6⟩

theorem Insert_own (base n i q : Nat) (v : Value) (xs : List Value) (nw : Array Value) (w : World) (hi : i ≤ n) (hn : n + 1 ≤ 1048576) (hb : base ≤ w.heap.size) (hown : w.ownsRow base 30 3 v n xs)
    (hnl : nw.size = 3) (hq : w.heap[q]? = some (.cells nw 30 (0, 0))) (hqv : v.ownBlock ≠ some q) (h1c : ∀ u ∈ xs, u.oneCell' = true) (h1v : ∀ u ∈ nw.toList, u.oneCell' = true) :
    Calls Tryd.prog 25 #[v, .int .i64 i, .slice (some ⟨q, 0, none⟩) 1 1] w fun e w' =>
      ∃ g cap, e = .returned (.slice (some ⟨g, 0, none⟩) (n + 1) cap) ∧ w'.ownsRow base 30 3 (.slice (some ⟨g, 0, none⟩) (n + 1) cap) (n + 1) (laidIn xs nw.toList (i * 3)) ∧ w.grownBy w' v.ownBlock ∧ (v.ownBlock = some g ∨ w.heap.size ≤ g) := by
  have hxl := own_len hown
  have hnl' : nw.toList.length = 3 := by simpa using hnl
  have hll : (laidIn xs nw.toList (i * 3)).length = (n + 1) * 3 := by
    unfold laidIn laidIn'
    simp only [List.length_append, List.length_take, List.length_drop]
    omega
  by_cases hin : i = n
  · subst hin
    refine (Ins_end base i q v xs nw w hn hb hown hnl hq h1v).mono ?_
    rintro e w' ⟨g, cap, he, ho, hg, hH⟩
    have e2 : laidIn xs nw.toList (i * 3) = xs ++ nw.toList := by
      unfold laidIn laidIn'
      rw [List.take_of_length_le (by omega), List.drop_of_length_le (by omega), List.append_nil]
    exact ⟨g, cap, he, by rw [e2]; exact ho, hg, hH.imp id (fun h => by omega)⟩
  · rcases hown.2 with ⟨rfl, rfl⟩ | ⟨g, cap, cur, rfl, hbg, hg, hnc, hcm, hcs, hcur⟩
    · omega
    · have hgl : g < w.heap.size := (Array.getElem?_eq_some_iff.1 hg).1
      by_cases hroom : n + 1 ≤ cap
      · refine (Ins_shift g n cap i q cur nw w (by omega) hroom hcm hg hcs hnl hq (fun e => hqv (by rw [e]; rfl)) (by rw [hcur]; exact h1c) h1v).mono ?_
        rintro e w' ⟨he, hgb, cur', h1, h2, h3⟩
        rw [hcur] at h3
        exact ⟨g, cap, he, ⟨hll, .inr ⟨g, cap, cur', rfl, hbg, h1, hroom, hcm, h2, h3⟩⟩, hgb, .inl rfl⟩
      · refine (Ins_grow g n cap i q xs nw w (by omega) hnc (by omega) (by omega) hgl (fun j u hj => by
          rw [cell_of_row w g j cur _ (0, 0) hg]
          rw [← hcur, List.getElem?_take] at hj
          split at hj
          · simpa using hj
          · cases hj) hxl hnl hq h1c h1v).mono ?_
        rintro e w' ⟨cap', he, hE, hc1, hc2, cur', h1, h2, h3⟩
        exact ⟨w.heap.size, cap', he, ⟨hll, .inr ⟨w.heap.size, cap', cur', rfl, hb, h1, hc1, hc2, h2, h3⟩⟩, hE.gb _, .inr (Nat.le_refl _)⟩
end Go.Proofs.YtcgfdhgceokcnaaDoor
