/- head.Parse. -/
import Derived.Test.YtnphbkjkeipmmaaGreatDoorJRunBegins12
import Derived.Lib.IfaceEq
import Derived.LaidEql
import Derived.Maps.OwnSet
import Derived.StringKeys
import Derived.Test.YtnphbkjkeipmmaaGreatDoorJRunBegins4
import Derived.Test.YtnphbkjkeipmmaaGreatDoorJRunBegins8
import Derived.Deep.RegionWith
import Derived.Test.YtnphbkjkeipmmaaGreatDoorJRunBegins0
import Derived.Test.YtnphbkjkeipmmaaGreatDoorJRunBegins7
import Derived.Deep.DeepCutAuto
namespace Go.Proofs.YtnphbkjkeipmmaaGreatDoor
open Go.RowKit Go.WideShapes
set_option linter.unusedVariables false
attribute [local go_sem ↓] Go.wp_at_zero Go.wp_at_succ

def SplR (s : ByteArray) (w : World) (e : Ending) (w' : World) : Prop :=
  ∃ g, e = .returned (.slice (some ⟨g, 0, none⟩) (partsB 32 s).length (partsB 32 s).length) ∧ Rd w' 1 (some ⟨g, 0, none⟩) (partsB 32 s).length (partsB 32 s).length ((partsB 32 s).map Value.string) ∧ Ext w w'
theorem Split_any' (s : ByteArray) (w : World) (hs : s.size < 4294967281) (hM : MaxG w) :
    Calls Tryz.prog 108 #[.string s, .string ⟨#[32]⟩] w fun e w' => SplR s w e w' := by
  obtain ⟨m, hm⟩ := hM
  refine (Tryz.strings_Split s ⟨#[32]⟩ m w hs hm (by decide)).mono ?_
  rintro e w' ⟨rfl, rfl⟩
  rw [splitB_parts, partsB_len]
  refine ⟨w.heap.size, rfl, ⟨by rw [List.length_map, Nat.mul_one], Nat.le_refl _, fun _ => ⟨_, rfl, by simp, fun j u hu => ?_⟩⟩, (Ext.refl _).alloc _⟩
  exact news_new w 9 _ _ rfl j u hu
theorem readK_vals (s : ByteArray) : readK s = 0 ∨ readK s = 1 ∨ readK s = 2 := by
  unfold readK
  split
  · split
    · exact .inl rfl
    · exact .inr (.inl rfl)
  · exact .inr (.inr rfl)
theorem four_list {α : Type} {l : List α} (h : l.length = 4) : ∃ a b c d, l = [a, b, c, d] := by
  match l, h with
  | [a, b, c, d], _ => exact ⟨a, b, c, d, rfl⟩
theorem errR_1 : errR 1 = .iface 73 (.int .i64 1) := rfl
theorem errR_2 : errR 2 = .iface 73 (.int .i64 2) := rfl
theorem eql_two (a b : Int) (w : World) : (binOp .eql 40 (.iface 73 (.int .i64 a)) (.iface 73 (.int .i64 b))).run Tryz.prog w = .ok (.bool (a == b)) w :=
  Lib.run_eql_iface_int w a b Tryz.underlying40 (by kernel_rfl) Tryz.underlying73
theorem eql_nil_two (b : Int) (w : World) : (binOp .eql 40 .nilIface (.iface 73 (.int .i64 b))).run Tryz.prog w = .ok (.bool false) w :=
  run_eql_iface_nil_left _ _ _ Tryz.underlying40
def HPR (s : ByteArray) (e : Ending) : Prop := e = .returned (.tuple #[(headR s).1.val, errR (headR s).2])
theorem HPR.of {s : ByteArray} {z : Hd × Int} (h : headR s = z) {e : Ending} (he : e = .returned (.tuple #[z.1.val, errR z.2])) : HPR s e := by unfold HPR; rw [h]; exact he

end Go.Proofs.YtnphbkjkeipmmaaGreatDoor

/- serve.wants: the map of the words that can be asked, each with the numbers that it wants; serve.read. -/
namespace Go.Proofs.YtnphbkjkeipmmaaGreatDoor
open Go.RowKit Go.WideShapes
open Go.Maps (string_keyed)
open Go.WideMaps (keyOf_string_mk)
set_option linter.unusedVariables false
attribute [local go_sem ↓] Go.wp_at_zero Go.wp_at_succ

abbrev ksL (s : ByteArray) : Lit := .string s.data.toList
theorem ksL_ne {s k : ByteArray} (h : s ≠ k) : ksL s ≠ ksL k := fun e => by injection e with e; exact h (ba_ext e)
/-- a map from words to numbers -/
def MapIs (w : World) (mb N : Nat) (f : ByteArray → Option Nat) : Prop :=
  ∃ D : DataW Value, w.ownsMap Tryz.prog 9 (plainElem Tryz.prog 3) mb N D ∧ ∀ s : ByteArray, (match f s with | none => Maps.has D (ksL s) = false | some n => Maps.has D (ksL s) = true ∧ ∀ z, D.atKey (ksL s) z = .lit (.int .i64 (n : Int)))
theorem MapIs.new (w : World) : MapIs (w.alloc (.map #[] 0)) w.heap.size 0 (fun _ => none) :=
  ⟨.map [], World.ownsMap_made w _ _ _, fun s => rfl⟩
theorem MapIs.put {w : World} {mb N : Nat} {f : ByteArray → Option Nat} (h : MapIs w mb N f) (hN : N < 1000) (k : ByteArray) (hk : k.size ≤ 1000) (n : Nat) (hn : n ≤ 1000) (v : Int) (hv : v = (n : Int)) :
    ∃ w', (Instr.mapUpdate 166 (.map (some mb)) (.string k) (.int .i64 v)).run Tryz.prog w = .ok () w' ∧ MapIs w' mb (N + 1) (fun s => if s = k then some n else f s) ∧ w.grownBy w' (some mb) := by
  subst hv
  obtain ⟨D, h1, h2⟩ := h
  have hK := string_keyed (P := Tryz.prog) Tryz.underlying9
  have hkey := keyOf_string_mk (P := Tryz.prog) Tryz.underlying9 (s := k) (by simp only [maxLen]; omega)
  have hw : (Lit.int .i64 (n : Int)).wf = true := by simp [Lit.wf, IntKind.min, IntKind.max, IntKind.signed, IntKind.bits]; omega
  obtain ⟨w', hrun, hown, ht⟩ := h1.store (t := 166) (e := 3) hK Tryz.underlying166 (by simp only [maxLen]; omega) hkey (plainElem_int (a := (n : Int)) Tryz.underlying3 hw)
  refine ⟨w', hrun, ⟨_, hown, fun s => ?_⟩, ht.grown⟩
  by_cases e : s = k
  · subst e
    show (match (if s = s then some n else f s) with | none => _ | some n => _)
    rw [if_pos rfl]
    exact ⟨Maps.has_put_same h1.isMap (hK.key hkey) _, fun z => Maps.atKey_put_same h1.isMap (hK.key hkey) _ z⟩
  · show (match (if s = k then some n else f s) with | none => _ | some n => _)
    rw [if_neg e]
    have h3 := h2 s
    cases hf : f s with
    | none =>
      rw [hf] at h3
      exact (Maps.has_put_other (ksL_ne e) _).trans h3
    | some m =>
      rw [hf] at h3
      exact ⟨(Maps.has_put_other (ksL_ne e) _).trans h3.1, fun z => (Maps.atKey_put_other (ksL_ne e) _ z).trans (h3.2 z)⟩
theorem MapIs.ext {w w' : World} {mb N : Nat} {f : ByteArray → Option Nat} (h : MapIs w mb N f) (e : Ext w w') : MapIs w' mb N f := by
  obtain ⟨D, h1, h2⟩ := h
  exact ⟨D, h1.kept (e.gb none) (by simp), h2⟩
def optV (x : Option Nat) : Int := match x with | some n => (n : Int) | none => 0
theorem MapIs.look {w : World} {mb N : Nat} {f : ByteArray → Option Nat} (h : MapIs w mb N f) (s : ByteArray) (hs : s.size ≤ maxLen) :
    (Instr.lookup 166 (.map (some mb)) (.string s) true).run Tryz.prog w = .ok (.tuple #[.int .i64 (optV (f s)), .bool (f s).isSome]) w := by
  obtain ⟨D, h1, h2⟩ := h
  obtain ⟨v, ps, hrun, hv⟩ := h1.look_ok (t := 166) (e := 3) (string_keyed Tryz.underlying9) Tryz.underlying166 (z := .int .i64 0) (Tryz.zeroValue3 w) (plainElem_int Tryz.underlying3 (by decide)) (keyOf_string_mk Tryz.underlying9 (s := s) hs)
  rw [hrun]
  obtain ⟨c, rfl, hc, -⟩ := plainElem_int_inv Tryz.underlying3 hv
  simp only [Prod.mk.injEq] at hc
  have h3 := h2 s
  cases hf : f s with
  | none =>
    rw [hf] at h3
    have h4 := hc.1
    rw [Maps.atKey_of_not_has h3] at h4
    simp only [DataW.lit.injEq, Lit.int.injEq, true_and] at h4
    rw [show Maps.has D (.string s.data.toList) = false from h3, ← h4]
    rfl
  | some n =>
    rw [hf] at h3
    have h4 := hc.1
    rw [h3.2] at h4
    simp only [DataW.lit.injEq, Lit.int.injEq, true_and] at h4
    rw [show Maps.has D (.string s.data.toList) = true from h3.1, ← h4]
    rfl

def wHead : ByteArray := ⟨#[104, 101, 97, 100]⟩
def wEntry : ByteArray := ⟨#[101, 110, 116, 114, 121]⟩
def wLeaf : ByteArray := ⟨#[108, 101, 97, 102]⟩
def wProof : ByteArray := ⟨#[112, 114, 111, 111, 102]⟩
def wGrow : ByteArray := ⟨#[103, 114, 111, 119]⟩
def wTile : ByteArray := ⟨#[116, 105, 108, 101]⟩
def wantN (s : ByteArray) : Option Nat := if s = wTile then some 2 else (if s = wGrow then some 2 else (if s = wProof then some 2 else (if s = wLeaf then some 1 else (if s = wEntry then some 1 else (if s = wHead then some 0 else none)))))

set_option maxRecDepth 100000 in
set_option maxHeartbeats 2000000 in
theorem wants_any (w : World) : Calls Tryz.prog 109 #[] w fun e w' => (∃ mb, e = .returned (.map (some mb)) ∧ MapIs w' mb 6 wantN) ∧ Ext w w' := by
  have hmm := @run_makeMap Tryz.prog
  have m0 := MapIs.new w
  have e0 : Ext w (w.alloc (.map #[] 0)) := (Ext.refl _).alloc _
  obtain ⟨w1, r1, m1, g1⟩ := m0.put (by omega) wHead (by decide) 0 (by omega) 0 rfl
  have e1 := e0.gbn g1 (Nat.le_refl _)
  obtain ⟨w2, r2, m2, g2⟩ := m1.put (by omega) wEntry (by decide) 1 (by omega) 1 rfl
  have e2 := e1.gbn g2 (Nat.le_refl _)
  obtain ⟨w3, r3, m3, g3⟩ := m2.put (by omega) wLeaf (by decide) 1 (by omega) 1 rfl
  have e3 := e2.gbn g3 (Nat.le_refl _)
  obtain ⟨w4, r4, m4, g4⟩ := m3.put (by omega) wProof (by decide) 2 (by omega) 2 rfl
  have e4 := e3.gbn g4 (Nat.le_refl _)
  obtain ⟨w5, r5, m5, g5⟩ := m4.put (by omega) wGrow (by decide) 2 (by omega) 2 rfl
  have e5 := e4.gbn g5 (Nat.le_refl _)
  obtain ⟨w6, r6, m6, g6⟩ := m5.put (by omega) wTile (by decide) 2 (by omega) 2 rfl
  have e6 := e5.gbn g6 (Nat.le_refl _)
  simp only [wHead, wEntry, wLeaf, wProof, wGrow, wTile] at r1 r2 r3 r4 r5 r6
  have HM := Lib.hid m6
  have HE := Lib.hid e6
  clear m0 m1 m2 m3 m4 m5 m6 e0 e1 e2 e3 e4 e5 e6 g1 g2 g3 g4 g5 g6
  go_enter Tryz.func109, Tryz.ntmps109
  go_wp2_with fail
  go_ret
  exact ⟨⟨_, rfl, HM.out⟩, HE.out⟩

/-- the numbers behind the word -/
def numsR : List ByteArray → Option (List Nat)
  | [] => some []
  | s :: r => match numR s 4 with
    | none => none
    | some v => (numsR r).map (v :: ·)
theorem numsR_snoc {l : List ByteArray} {x : ByteArray} {ns : List Nat} {v : Nat} (h : numsR l = some ns) (hx : numR x 4 = some v) : numsR (l ++ [x]) = some (ns ++ [v]) := by
  induction l generalizing ns with
  | nil =>
    injection h with h
    subst h
    show (match numR x 4 with | none => none | some v => (numsR []).map (v :: ·)) = _
    rw [hx]; rfl
  | cons a l ih =>
    show (match numR a 4 with | none => none | some v => (numsR (l ++ [x])).map (v :: ·)) = _
    have h' : (match numR a 4 with | none => none | some v => (numsR l).map (v :: ·)) = some ns := h
    cases ha : numR a 4 with
    | none => rw [ha] at h'; cases h'
    | some u =>
      rw [ha] at h'
      cases hl : numsR l with
      | none => rw [hl] at h'; cases h'
      | some ms =>
        rw [hl] at h'
        injection h' with h'
        subst h'
        simp only
        rw [ih hl]; rfl
theorem numsR_bad : ∀ {l : List ByteArray} {i : Nat} {x : ByteArray}, l[i]? = some x → numR x 4 = none → numsR l = none
  | a :: l, 0, x, h, hx => by
    obtain rfl : a = x := by simpa using h
    show (match numR a 4 with | none => none | some v => (numsR l).map (v :: ·)) = none
    rw [hx]
  | a :: l, i + 1, x, h, hx => by
    show (match numR a 4 with | none => none | some v => (numsR l).map (v :: ·)) = none
    rw [numsR_bad (l := l) (i := i) (by simpa using h) hx]
    cases numR a 4 <;> rfl
theorem numsR_len : ∀ {l : List ByteArray} {ns : List Nat}, numsR l = some ns → ns.length = l.length
  | [], ns, h => by injection h with h; subst h; rfl
  | a :: l, ns, h => by
    have h' : (match numR a 4 with | none => none | some v => (numsR l).map (v :: ·)) = some ns := h
    cases ha : numR a 4 with
    | none => rw [ha] at h'; cases h'
    | some u =>
      rw [ha] at h'
      cases hl : numsR l with
      | none => rw [hl] at h'; cases h'
      | some ms =>
        rw [hl] at h'
        injection h' with h'
        subst h'
        simp [numsR_len hl]
/-- what is asked -/
def askR (s : ByteArray) : Option (ByteArray × List Nat) := match partsB 32 s with
  | [] => none
  | w :: r => match wantN w with
    | none => none
    | some n => if r.length = n then (numsR r).map fun x => (w, x) else none
section
variable {s w : ByteArray} {r : List ByteArray} {n : Nat} (h : partsB 32 s = w :: r)
include h
theorem askR_want (k : wantN w = none) : askR s = none := by unfold askR; rw [h]; simp only [k]
theorem askR_len (k : wantN w = some n) (l : r.length ≠ n) : askR s = none := by unfold askR; rw [h]; simp only [k]; rw [if_neg l]
theorem askR_bad (hn : numsR r = none) : askR s = none := by
  unfold askR; rw [h]; simp only [hn]
  cases wantN w <;> simp
theorem askR_ok (k : wantN w = some n) (l : r.length = n) {ns : List Nat} (hn : numsR r = some ns) : askR s = some (w, ns) := by
  unfold askR; rw [h]; simp only [k]; rw [if_pos l, hn]; rfl
end
theorem wantN_le {s : ByteArray} {n : Nat} (h : wantN s = some n) : n ≤ 2 := by
  unfold wantN at h
  repeat' split at h
  all_goals first | (injection h with h; omega) | cases h
def RdP (s : ByteArray) (w w' : World) (e : Ending) : Prop := match askR s with
  | none => e = .returned (.tuple #[.string ⟨#[]⟩, .slice none 0 0, .bool false])
  | some (x, ns) => ∃ v, e = .returned (.tuple #[.string x, v, .bool true]) ∧ w'.ownsRow w.heap.size 3 1 v ns.length ((ns.map fun n : Nat => (n : Int)).map (Value.int .i64))
theorem RdP.no {s : ByteArray} {w w' : World} {e : Ending} (h : askR s = none) (he : e = .returned (.tuple #[.string ⟨#[]⟩, .slice none 0 0, .bool false])) : RdP s w w' e := by unfold RdP; rw [h]; exact he
theorem RdP.yes {s x : ByteArray} {ns : List Nat} {w w' : World} {e : Ending} (h : askR s = some (x, ns)) (he : ∃ v, e = .returned (.tuple #[.string x, v, .bool true]) ∧ w'.ownsRow w.heap.size 3 1 v ns.length ((ns.map fun n : Nat => (n : Int)).map (Value.int .i64))) : RdP s w w' e := by unfold RdP; rw [h]; exact he
theorem Rd.tail1 {w : World} {g q c : Nat} {x : Value} {xs : List Value} (h : Rd w 1 (some ⟨g, 0, none⟩) (q + 1) (c + 1) (x :: xs)) : Rd w 1 (some ⟨g, 1, none⟩) q c xs := by
  obtain ⟨h1, h2, h3⟩ := h
  refine ⟨by simpa using h1, by omega, fun hq => ?_⟩
  obtain ⟨ad, e, hl, hc⟩ := h3 (by omega)
  injection e with e
  subst e
  refine ⟨_, rfl, hl, fun j u hu => ?_⟩
  have h4 := hc (j + 1) u (by simpa using hu)
  have e2 : ((⟨g, 1, none⟩ : Addr).add j) = ((⟨g, 0, none⟩ : Addr).add (j + 1)) := by
    unfold Addr.add
    by_cases hj : j = 0
    · subst hj; simp
    · simp [hj]; omega
  rw [e2]; exact h4
theorem oneW (z : Int) : ∀ u ∈ [Value.int .i64 z], u.oneCell' = true := by intro u hu; simp at hu; subst hu; rfl

set_option maxRecDepth 100000 in
set_option maxHeartbeats 4000000 in
theorem SRead_any (s : ByteArray) (w : World) (hs : s.size ≤ 1048576) (hG : StrG w) (hP : PowG w) (hM : MaxG w) :
    Calls Tryz.prog 82 #[.string s] w fun e w' => RdP s w w' e ∧ Ext w w' := by
  obtain ⟨x0, r, hp⟩ : ∃ x r, partsB 32 s = x :: r := by
    cases h : partsB 32 s with
    | nil => exact absurd h (partsB_ne 32 s)
    | cons x r => exact ⟨x, r, rfl⟩
  have hx0 : x0.size ≤ s.size := parts_size (c := 32) (by rw [hp]; simp)
  have hrs : ∀ y ∈ r, y.size ≤ s.size := fun y hy => parts_size (c := 32) (by rw [hp]; simp [hy])
  obtain ⟨q, hq⟩ : ∃ q, r.length = q := ⟨_, rfl⟩
  have HSP : Hid (∀ W, Ext w W → Calls Tryz.prog 108 #[.string s, .string ⟨#[32]⟩] W fun e w' => ∃ g, e = .returned (.slice (some ⟨g, 0, none⟩) (q + 1) (q + 1)) ∧ Rd w' 1 (some ⟨g, 0, none⟩) (q + 1) (q + 1) (Value.string x0 :: r.map Value.string) ∧ Ext W w') := Lib.hid fun W e => by
    have h := Split_any' s W (by omega) (hM.ext e)
    unfold SplR at h
    rw [hp, List.length_cons, hq, List.map_cons] at h
    exact h
  have HNU : Hid (∀ x ∈ r, ∀ W, Ext w W → Calls Tryz.prog 80 #[.string x, .int .i64 4] W fun e w' => (∃ n : Int, e = .returned (.tuple #[.int .i64 n, .bool (numR x 4).isSome]) ∧ ∀ v, numR x 4 = some v → n = (v : Int)) ∧ Ext W w') := Lib.hid fun x hx W e => HNumber_any x 4 W (by have := hrs x hx; omega) (by omega) (hG.ext e) (hP.ext e)
  have HA1 := Lib.hid (askR_want hp)
  have HA2 := Lib.hid fun n => askR_len (n := n) hp
  have HA3 := Lib.hid (askR_bad hp)
  have HA4 := Lib.hid fun n (k : wantN x0 = some n) l ns (hn : numsR r = some ns) => askR_ok (n := n) (ns := ns) hp k l hn
  have HQ := Lib.hid hq
  have hx0m : x0.size ≤ maxLen := by simp only [maxLen]; omega
  have HW := Lib.hid fun W mb (h : MapIs W mb 6 wantN) => h.look x0 hx0m
  have hWL := fun n (h : wantN x0 = some n) => wantN_le h
  have HWL := Lib.hid hWL
  obtain ⟨wn, hwn⟩ : ∃ y, wantN x0 = y := ⟨_, rfl⟩
  rw [hwn] at HA1 HW HWL
  have HWN := Lib.hid hwn
  clear hp hq hG hP hM hx0 hx0m hrs hWL hwn
  go_enter Tryz.func82, Tryz.ntmps82
  go_wp2_with fail
  refine (HSP.out _ (Ext.refl _)).mono ?_
  rintro _ w1 ⟨g, rfl, R1, hb1⟩
  have HR1 := Lib.hid R1
  have HE1 := Lib.hid hb1
  obtain ⟨ad, had, hlt, cz⟩ := R1.at_ (j := 0) (u := .string x0) rfl
  injection had with had
  subst had
  rw [add_zero'] at cz
  clear R1 hb1 HSP
  go_upto_region 2 with (fail)
  go_cut [6, 7] (fun n b wc => n = .int .i64 (optV wn) ∧ b = .bool wn.isSome ∧ Ext w1 wc)
  case first =>
    as_aux_lemma =>
    go_region_with (go_at_call 109; (with_reducible refine (wants_any _).mono ?_); rintro _ w2 ⟨⟨mb, rfl, hm⟩, hb2⟩; have hl := HW.out _ _ hm; have n2 := (hb2.cell (p := ⟨g, 0, none⟩) hlt).trans cz)
    all_goals
      go_wp2_with fail
      go_meet
      exact ⟨rfl, rfl, by (repeat (with_reducible first | exact Ext.refl _ | assumption | refine Ext.drew ?_ | refine Ext.drewN ?_ _ | refine Ext.alloc ?_ _ | refine Ext.trans ?_ (by with_reducible assumption)))⟩
  case rest =>
  as_aux_lemma =>
  obtain ⟨rfl, rfl, hb2⟩ := hcut
  obtain ⟨w2, rfl⟩ : ∃ W, W = wc := ⟨_, rfl⟩
  have c2 := (hb2.cell (p := ⟨g, 0, none⟩) hlt).trans cz
  have hlt2 := hb2.lt hlt
  have HR2 := Lib.hid (HR1.out.ext hb2)
  have HE2 := Lib.hid (HE1.out.trans hb2)
  clear hb2 cz hlt HR1 HE1 HW
  cases wn with
  | none =>
    have HH := Lib.hid (HA1.out rfl)
    clear HA1 HA2 HA3 HA4
    simp only [optV, Option.isSome]
    go_wp2_with fail
    go_ret3
    exact ⟨RdP.no HH.out rfl, HE2.out⟩
  | some n =>
  have hn2 := HWL.out n rfl
  simp only [optV, Option.isSome]
  clear HA1 HWL
  by_cases hqn : q = n
  case neg =>
    have HH := Lib.hid (HA2.out n HWN.out (by rw [HQ.out]; exact hqn))
    have q1 : (((q + 1 : Nat) : Int) != (n : Int) + 1) = true := by simp; omega
    have q2 : (((q : Nat) : Int) + 1 != (n : Int) + 1) = true := by simp; omega
    clear HA2 HA3 HA4 hqn
    go_wp2_with fail
    go_ret3
    exact ⟨RdP.no HH.out rfl, HE2.out⟩
  subst hqn
  have q1 : (((q + 1 : Nat) : Int) != (q : Int) + 1) = false := by simp
  have q2 : (((q : Nat) : Int) + 1 != (q : Int) + 1) = false := by simp
  obtain ⟨i0, hi0, hz0, hz1, hz2⟩ := info_parts info_int'
  clear HA2
  have HT := Lib.hid HR2.out.tail1
  rcases Nat.eq_zero_or_pos q with h0 | h0
  · subst h0
    have hr0 : r = [] := List.eq_nil_of_length_eq_zero HQ.out
    have HH := Lib.hid (HA4.out 0 HWN.out HQ.out [] (by rw [hr0]; rfl))
    clear hr0 HT
    go_wp2_with fail
    refine wp_loop_rounds 1 ?_
    rw [rounds_succ]
    go_wp2_with fail
    go_ret3
    exact ⟨RdP.yes HH.out ⟨_, rfl, own_nil _ _ _ _⟩, HE2.out⟩
  go_wp2_with fail
  obtain ⟨A, hA⟩ : ∃ A, (some ⟨g, 1, none⟩ : Option Addr) = A := ⟨_, rfl⟩
  rw [hA] at HT
  rw [hA]
  clear hA
  go_loopw [8, 35] (fun v x wr => ∃ (i : Nat) (ns : List Nat), x = .int .i64 i ∧ i ≤ q ∧ Ext w2 wr ∧ Hid (numsR (r.take i) = some ns ∧ ns.length = i) ∧ Hid (wr.ownsRow w2.heap.size 3 1 v i ((ns.map fun n : Nat => (n : Int)).map (Value.int .i64)))) (fun _ x _ => q - (intOf x).toNat)
  case atStart => exact ⟨0, [], rfl, Nat.zero_le _, Ext.refl _, Lib.hid ⟨rfl, rfl⟩, own_nil _ _ _ _⟩
  case round =>
    obtain ⟨i, ns, rfl, hi, hbw, HNS, HOW⟩ := hrel
    by_cases hc : i < q
    · have hgy := List.getElem?_eq_getElem (l := r) (i := i) (by rw [HQ.out]; exact hc)
      generalize r[i]'(by rw [HQ.out]; exact hc) = y at *
      have HGY := Lib.hid hgy
      obtain ⟨ady, rfl, hby, cy⟩ := (HT.out.ext hbw).getS hgy
      have HN := Lib.hid (HNU.out y (List.mem_of_getElem? hgy) _ (HE2.out.trans hbw))
      clear hgy
      go_wp2_with fail
      refine HN.out.mono ?_
      rintro _ w3 ⟨⟨z, rfl, hz⟩, hb3⟩
      cases hy : numR y 4 with
      | none =>
        have HH := Lib.hid (HA3.out (numsR_bad HGY.out hy))
        simp only [Option.isSome]
        go_wp2_with fail
        go_ret3
        exact ⟨RdP.no HH.out rfl, (HE2.out.trans hbw).trans hb3⟩
      | some v =>
        obtain rfl := hz v hy
        have HY := Lib.hid hy
        have hbs := (hbw.trans hb3).size
        simp only [Option.isSome]
        clear hz hy
        go_wp2_with (at_builtin; refine wpl_app (by rfl) _ _ _ (by rfl) w2.heap.size 3 i0 _ 1 8 Tryz.underlying85 hi0 hz0 hz1 hz2 rfl (by omega) u8 _ _ (by rfl) ((own_ext HOW.out hb3).alloc _) w3.heap.size 1 [.int .i64 (v : Int)] rfl (by rfl) (news_new w3 _ _ _ rfl) (oneW _) (by omega) (by omega) (by simp; omega) ?_; intro g4 cap w4 own4 hext4)
        go_roundw
        case rel => exact ⟨i + 1, ns ++ [v], by go_num, by omega, hext4 _ (Nat.le_refl _) (by (repeat (with_reducible first | exact Ext.refl _ | assumption | refine Ext.drew ?_ | refine Ext.drewN ?_ _ | refine Ext.alloc ?_ _ | refine Ext.trans ?_ (by with_reducible assumption)))), Lib.hid ⟨by
          rw [List.take_add_one, HGY.out]
          exact numsR_snoc HNS.out.1 HY.out, by rw [List.length_append, HNS.out.2]; rfl⟩, Lib.hid (by
          rw [List.map_append, List.map_append]
          exact own4)⟩
        case measure => simp [intOf]; omega
    · obtain rfl : i = q := by omega
      have hns := HNS.out.1
      rw [List.take_of_length_le (by rw [HQ.out]; exact Nat.le_refl _)] at hns
      have HH := Lib.hid (HA4.out i HWN.out HQ.out ns hns)
      have c5 := (hbw.cell (p := ⟨g, 0, none⟩) hlt2).trans c2
      clear hns
      go_wp2_with fail
      go_ret3
      refine ⟨RdP.yes HH.out ⟨_, rfl, ?_⟩, HE2.out.trans hbw⟩
      rw [HNS.out.2]
      exact own_lower HOW.out HE2.out.size
end Go.Proofs.YtnphbkjkeipmmaaGreatDoor

/- Proofs that a tree has but grown: plain. -/
namespace Go.Proofs.YtnphbkjkeipmmaaGreatDoor
set_option linter.unusedVariables false

def gsteps (o n : Nat) (b : Bool) : Nat :=
  if o = n then (if b = true then 0 else 1)
  else if h : 2 ≤ n ∧ half n < n then (if o ≤ half n then gsteps o (half n) b + 1 else gsteps (o - half n) (n - half n) false + 1) else 0
termination_by n
decreasing_by
  · exact h.2
  · have := half_pos n; omega
theorem gsteps_whole (n : Nat) : gsteps n n true = 0 := by rw [gsteps, if_pos rfl, if_pos rfl]
theorem gsteps_part (n : Nat) : gsteps n n false = 1 := by rw [gsteps, if_pos rfl, if_neg (by decide)]
theorem gsteps_left {o n : Nat} (b : Bool) (h : o ≠ n) (h2 : 2 ≤ n) (hn : n ≤ 4096) (ho : o ≤ half n) : gsteps o n b = gsteps o (half n) b + 1 := by
  rw [gsteps, if_neg h, dif_pos ⟨h2, half_lt h2 hn⟩, if_pos ho]
theorem gsteps_right {o n : Nat} (b : Bool) (h : o ≠ n) (h2 : 2 ≤ n) (hn : n ≤ 4096) (ho : ¬ o ≤ half n) : gsteps o n b = gsteps (o - half n) (n - half n) false + 1 := by
  rw [gsteps, if_neg h, dif_pos ⟨h2, half_lt h2 hn⟩, if_neg ho]
theorem gsteps_le : ∀ (N o n : Nat) (b : Bool), n ≤ N → 1 ≤ n → n ≤ 4096 → gsteps o n b ≤ n
  | 0, o, n, b, h, h1, _ => by omega
  | N + 1, o, n, b, h, h1, hn => by
    by_cases ho : o = n
    · subst ho
      cases b
      · rw [gsteps_part]; exact h1
      · rw [gsteps_whole]; omega
    · by_cases h2 : 2 ≤ n
      · have h3 := half_lt h2 hn
        have h4 := half_pos n
        by_cases hk : o ≤ half n
        · rw [gsteps_left b ho h2 hn hk]
          have := gsteps_le N o (half n) b (by omega) (by omega) (by omega)
          omega
        · rw [gsteps_right b ho h2 hn hk]
          have := gsteps_le N (o - half n) (n - half n) false (by omega) (by omega) (by omega)
          omega
      · rw [gsteps, if_neg ho, dif_neg (by omega)]
        omega

def groots (r : Int) (o n : Nat) (p : List Int) (b : Bool) : Int × Int :=
  if o = n then (if b = true then (r, r) else (p.headD 0, p.headD 0))
  else if h : 2 ≤ n ∧ half n < n then
    (if o ≤ half n then ((groots r o (half n) p.dropLast b).1, nodeL (groots r o (half n) p.dropLast b).2 (p.getLastD 0))
     else (nodeL (p.getLastD 0) (groots r (o - half n) (n - half n) p.dropLast false).1, nodeL (p.getLastD 0) (groots r (o - half n) (n - half n) p.dropLast false).2))
  else (r, r)
termination_by n
decreasing_by
  · exact h.2
  · have := half_pos n; omega
theorem groots_whole (r : Int) (n : Nat) (p : List Int) : groots r n n p true = (r, r) := by rw [groots, if_pos rfl, if_pos rfl]
theorem groots_part (r : Int) (n : Nat) (p : List Int) : groots r n n p false = (p.headD 0, p.headD 0) := by rw [groots, if_pos rfl, if_neg (by decide)]
theorem groots_left {r : Int} {o n : Nat} {p : List Int} (b : Bool) (h : o ≠ n) (h2 : 2 ≤ n) (hn : n ≤ 4096) (ho : o ≤ half n) : groots r o n p b = ((groots r o (half n) p.dropLast b).1, nodeL (groots r o (half n) p.dropLast b).2 (p.getLastD 0)) := by
  rw [groots, if_neg h, dif_pos ⟨h2, half_lt h2 hn⟩, if_pos ho]
theorem groots_right {r : Int} {o n : Nat} {p : List Int} (b : Bool) (h : o ≠ n) (h2 : 2 ≤ n) (hn : n ≤ 4096) (ho : ¬ o ≤ half n) : groots r o n p b = (nodeL (p.getLastD 0) (groots r (o - half n) (n - half n) p.dropLast false).1, nodeL (p.getLastD 0) (groots r (o - half n) (n - half n) p.dropLast false).2) := by
  rw [groots, if_neg h, dif_pos ⟨h2, half_lt h2 hn⟩, if_neg ho]
theorem groots_vld : ∀ (N : Nat) (r : Int) (o n : Nat) (p : List Int) (b : Bool), n ≤ N → 1 ≤ o → o ≤ n → n ≤ 4096 → vld r = true → allV p = true → p.length = gsteps o n b → vld (groots r o n p b).1 = true ∧ vld (groots r o n p b).2 = true
  | 0, r, o, n, p, b, h, h1, h2, _, _, _, _ => by omega
  | N + 1, r, o, n, p, b, h, h1, hon, hn, hr, hp, hl => by
    by_cases ho : o = n
    · subst ho
      cases b
      · rw [gsteps_part] at hl
        rw [groots_part]
        obtain ⟨x, rfl⟩ := List.length_eq_one_iff.1 hl
        have := allV_get hp (j := 0) (z := x) rfl
        exact ⟨this, this⟩
      · rw [groots_whole]; exact ⟨hr, hr⟩
    · have h2 : 2 ≤ n := by omega
      have h3 := half_lt h2 hn
      have h4 := half_pos n
      by_cases hk : o ≤ half n
      · rw [gsteps_left b ho h2 hn hk] at hl
        rw [groots_left b ho h2 hn hk]
        have hd : allV p.dropLast = true := by rw [List.dropLast_eq_take]; exact allV_take hp _
        have := groots_vld N r o (half n) p.dropLast b (by omega) h1 hk (by omega) hr hd (by rw [List.length_dropLast]; omega)
        exact ⟨this.1, vld_node _ _⟩
      · rw [groots_right b ho h2 hn hk]
        exact ⟨vld_node _ _, vld_node _ _⟩

/-- the proof -/
def growL (xs : List Int) (o : Nat) (b : Bool) : List Int :=
  if o = xs.length then (if b = true then [] else [ofL xs])
  else if h : 2 ≤ xs.length ∧ half xs.length < xs.length then
    (if o ≤ half xs.length then growL (xs.take (half xs.length)) o b ++ [ofL (xs.drop (half xs.length))] else growL (xs.drop (half xs.length)) (o - half xs.length) false ++ [ofL (xs.take (half xs.length))])
  else []
termination_by xs.length
decreasing_by
  · rw [List.length_take]; omega
  · rw [List.length_drop]; have := half_pos xs.length; omega
theorem growL_whole {xs : List Int} {o : Nat} (h : o = xs.length) : growL xs o true = [] := by rw [growL, if_pos h, if_pos rfl]
theorem growL_part {xs : List Int} {o : Nat} (h : o = xs.length) : growL xs o false = [ofL xs] := by rw [growL, if_pos h, if_neg (by decide)]
theorem growL_left {xs : List Int} {o : Nat} (b : Bool) (h : o ≠ xs.length) (h2 : 2 ≤ xs.length) (hn : xs.length ≤ 4096) (ho : o ≤ half xs.length) : growL xs o b = growL (xs.take (half xs.length)) o b ++ [ofL (xs.drop (half xs.length))] := by
  rw [growL, if_neg h, dif_pos ⟨h2, half_lt h2 hn⟩, if_pos ho]
theorem growL_right {xs : List Int} {o : Nat} (b : Bool) (h : o ≠ xs.length) (h2 : 2 ≤ xs.length) (hn : xs.length ≤ 4096) (ho : ¬ o ≤ half xs.length) : growL xs o b = growL (xs.drop (half xs.length)) (o - half xs.length) false ++ [ofL (xs.take (half xs.length))] := by
  rw [growL, if_neg h, dif_pos ⟨h2, half_lt h2 hn⟩, if_neg ho]
theorem growL_len : ∀ (N : Nat) (xs : List Int) (o : Nat) (b : Bool), xs.length ≤ N → 1 ≤ o → o ≤ xs.length → xs.length ≤ 4096 → (growL xs o b).length = gsteps o xs.length b
  | 0, xs, o, b, h, h1, h2, _ => by omega
  | N + 1, xs, o, b, h, h1, hon, hn => by
    by_cases ho : o = xs.length
    · cases b
      · rw [growL_part ho, ho, gsteps_part]; rfl
      · rw [growL_whole ho, ho, gsteps_whole]; rfl
    · have h2 : 2 ≤ xs.length := by omega
      have h3 := half_lt h2 hn
      have h4 := half_pos xs.length
      by_cases hk : o ≤ half xs.length
      · rw [growL_left b ho h2 hn hk, gsteps_left b ho h2 hn hk, List.length_append, growL_len N _ o b (by rw [List.length_take]; omega) h1 (by rw [List.length_take]; omega) (by rw [List.length_take]; omega), List.length_take, Nat.min_eq_left (by omega)]
        rfl
      · rw [growL_right b ho h2 hn hk, gsteps_right b ho h2 hn hk, List.length_append, growL_len N _ _ false (by rw [List.length_drop]; omega) (by omega) (by rw [List.length_drop]; omega) (by rw [List.length_drop]; omega), List.length_drop]
        rfl
theorem growL_vld : ∀ (N : Nat) (xs : List Int) (o : Nat) (b : Bool), xs.length ≤ N → 1 ≤ o → o ≤ xs.length → xs.length ≤ 4096 → allV xs = true → allV (growL xs o b) = true
  | 0, xs, o, b, h, h1, h2, _, _ => by omega
  | N + 1, xs, o, b, h, h1, hon, hn, hv => by
    by_cases ho : o = xs.length
    · cases b
      · rw [growL_part ho]
        have := vld_ofL hv hn
        simp [allV, this]
      · rw [growL_whole ho]; rfl
    · have h2 : 2 ≤ xs.length := by omega
      have h3 := half_lt h2 hn
      have h4 := half_pos xs.length
      have v1 := vld_ofL (allV_take hv (half xs.length)) (by rw [List.length_take]; omega)
      have v2 := vld_ofL (allV_drop hv (half xs.length)) (by rw [List.length_drop]; omega)
      by_cases hk : o ≤ half xs.length
      · rw [growL_left b ho h2 hn hk, allV_append, growL_vld N _ o b (by rw [List.length_take]; omega) h1 (by rw [List.length_take]; omega) (by rw [List.length_take]; omega) (allV_take hv _)]
        simp [allV, v2]
      · rw [growL_right b ho h2 hn hk, allV_append, growL_vld N _ _ false (by rw [List.length_drop]; omega) (by omega) (by rw [List.length_drop]; omega) (by rw [List.length_drop]; omega) (allV_drop hv _)]
        simp [allV, v1]
/-- what has but grown is proved so -/
theorem groots_grow : ∀ (N : Nat) (r : Int) (xs : List Int) (o : Nat) (b : Bool), xs.length ≤ N → 1 ≤ o → o ≤ xs.length → xs.length ≤ 4096 → (b = true → r = ofL (xs.take o)) → groots r o xs.length (growL xs o b) b = (ofL (xs.take o), ofL xs)
  | 0, r, xs, o, b, h, h1, h2, _, _ => by omega
  | N + 1, r, xs, o, b, h, h1, hon, hn, hr => by
    by_cases ho : o = xs.length
    · have ht : xs.take o = xs := List.take_of_length_le (by omega)
      cases b
      · rw [growL_part ho, ht]
        conv => lhs; rw [ho]
        rw [groots_part]
        rfl
      · have hr' := hr rfl
        rw [ht] at hr'
        rw [growL_whole ho, ht]
        conv => lhs; rw [ho]
        rw [groots_whole, hr']
    · have h2 : 2 ≤ xs.length := by omega
      have h3 := half_lt h2 hn
      have h3' := half_le h2 hn
      have h4 := half_pos xs.length
      by_cases hk : o ≤ half xs.length
      · have ih := groots_grow N r (xs.take (half xs.length)) o b (by rw [List.length_take]; omega) h1 (by rw [List.length_take]; omega) (by rw [List.length_take]; omega) (fun e => by rw [List.take_take, Nat.min_eq_left hk]; exact hr e)
        rw [List.length_take, Nat.min_eq_left (by omega), List.take_take, Nat.min_eq_left hk] at ih
        rw [growL_left b ho h2 hn hk, groots_left b ho h2 hn hk, List.dropLast_concat, ih, ofL_node h2 hn]
        simp
      · have ih := groots_grow N r (xs.drop (half xs.length)) (o - half xs.length) false (by rw [List.length_drop]; omega) (by omega) (by rw [List.length_drop]; omega) (by rw [List.length_drop]; omega) (fun e => by cases e)
        rw [List.length_drop] at ih
        have hho : half (xs.take o).length = half xs.length := by
          rw [List.length_take, Nat.min_eq_left hon]
          obtain ⟨a, b1, c, d⟩ := half_bitLen xs.length h2 hn
          unfold half at hk h3 h3' ⊢
          generalize Lib.bitLen (xs.length - 1) - 1 = j at *
          exact half_eq (by omega) (by omega) (by omega) (by rw [Nat.pow_succ]; omega)
        have htk : ofL (xs.take o) = nodeL (ofL (xs.take (half xs.length))) (ofL ((xs.drop (half xs.length)).take (o - half xs.length))) := by
          rw [ofL_node (xs := xs.take o) (by rw [List.length_take]; omega) (by rw [List.length_take]; omega), hho, List.take_take, Nat.min_eq_left (by omega), List.drop_take]
        rw [growL_right b ho h2 hn hk, groots_right b ho h2 hn hk, List.dropLast_concat, ih, htk, ofL_node h2 hn]
        simp

/-- which fault a proof has -/
def gcheck (r1 o r n : Int) (p : List Int) : Int :=
  if ¬ (1 ≤ o ∧ o ≤ n ∧ n ≤ 200) then 1
  else if ¬ (vld r1 = true ∧ vld r = true ∧ allV p = true) then 1
  else if p.length ≠ gsteps o.toNat n.toNat true then 3
  else if groots r1 o.toNat n.toNat p true ≠ (r1, r) then 8
  else 0
end Go.Proofs.YtnphbkjkeipmmaaGreatDoor

namespace Go.Proofs.YtnphbkjkeipmmaaGreatDoor
open Go.RowKit Go.WideShapes
set_option linter.unusedVariables false
attribute [local go_sem ↓] Go.wp_at_zero Go.wp_at_succ

set_option maxRecDepth 100000 in
set_option maxHeartbeats 1000000 in
theorem gsteps_any (N : Nat) : ∀ (o n : Nat) (b : Bool) (w : World), n ≤ N → 1 ≤ o → o ≤ n → n ≤ 4096 →
    Calls Tryz.prog 152 #[.int .i64 o, .int .i64 n, .bool b] w fun e w' => e = .returned (.int .i64 (gsteps o n b : Nat)) ∧ w = w' := by
  induction N with
  | zero => intro o n b w h h1; omega
  | succ N ih =>
    intro o n b w hN h1 hon hn
    have IH := Lib.hid ih
    clear ih
    by_cases ho : o = n
    · subst ho
      cases b
      · have HS := Lib.hid (gsteps_part o)
        go_enter Tryz.func152, Tryz.ntmps152
        go_wp2_with fail
        go_ret
        exact ⟨ret_int (by rw [HS.out]; rfl), rfl⟩
      · have HS := Lib.hid (gsteps_whole o)
        go_enter Tryz.func152, Tryz.ntmps152
        go_wp2_with fail
        go_ret
        exact ⟨ret_int (by rw [HS.out]; rfl), rfl⟩
    · have h2 : 2 ≤ n := by omega
      have hk := half_lt h2 hn
      have hk0 := half_pos n
      have ho' : ((o : Int) == (n : Int)) = false := by simp; omega
      by_cases hok : o ≤ half n
      · have hS := gsteps_left b ho h2 hn hok
        have hb := gsteps_le (half n) o (half n) b (Nat.le_refl _) (by omega) (by omega)
        have hI := fun W => IH.out o (half n) b W (by omega) h1 hok (by omega)
        generalize gsteps o (half n) b = s at *
        have HS := Lib.hid hS
        have HI := Lib.hid hI
        have i1 : (o : Int) ≤ ((half n : Nat) : Int) := by omega
        clear hS hI ho IH
        go_enter Tryz.func152, Tryz.ntmps152
        go_wp2_with fail
        refine (Half_any _ _ (by omega) (by omega)).mono ?_
        rintro _ w' ⟨rfl, rfl⟩
        rw [Int.toNat_natCast]
        go_wp2_with fail
        refine (HI.out _).mono ?_
        rintro _ w' ⟨rfl, rfl⟩
        go_wp2_with fail
        go_ret
        exact ⟨ret_int (by rw [HS.out]; omega), rfl⟩
      · have hS := gsteps_right b ho h2 hn hok
        have hb := gsteps_le (n - half n) (o - half n) (n - half n) false (Nat.le_refl _) (by omega) (by omega)
        have hI := fun W => IH.out (o - half n) (n - half n) false W (by omega) (by omega) (by omega) (by omega)
        generalize gsteps (o - half n) (n - half n) false = s at *
        have HS := Lib.hid hS
        have HI := Lib.hid hI
        have i1 : ((half n : Nat) : Int) < (o : Int) := by omega
        have N1 : Hid ((o : Int) - ((half n : Nat) : Int) = ((o - half n : Nat) : Int)) := by show _ = _; omega
        have N2 : Hid ((n : Int) - ((half n : Nat) : Int) = ((n - half n : Nat) : Int)) := by show _ = _; omega
        clear hS hI ho IH hok
        go_enter Tryz.func152, Tryz.ntmps152
        go_wp2_with fail
        refine (Half_any _ _ (by omega) (by omega)).mono ?_
        rintro _ w' ⟨rfl, rfl⟩
        rw [Int.toNat_natCast]
        go_wp2_with fail
        rw [N1.out, N2.out]
        refine (HI.out _).mono ?_
        rintro _ w' ⟨rfl, rfl⟩
        go_wp2_with fail
        go_ret
        exact ⟨ret_int (by rw [HS.out]; omega), rfl⟩

set_option maxRecDepth 100000 in
set_option maxHeartbeats 2000000 in
theorem groots_any (N : Nat) : ∀ (r : Int) (o n : Nat) (A : Option Addr) (m c : Nat) (ps : List Int) (b : Bool) (w : World), n ≤ N → 1 ≤ o → o ≤ n → n ≤ 4096 → m = gsteps o n b → Rd w 1 A m c (ps.map (Value.int .i64)) → c ≤ maxLen → vld r = true → allV ps = true →
    Calls Tryz.prog 153 #[.int .i64 r, .int .i64 o, .int .i64 n, .slice A m c, .bool b] w fun e w' => e = .returned (.tuple #[.int .i64 (groots r o n ps b).1, .int .i64 (groots r o n ps b).2]) ∧ Ext w w' := by
  induction N with
  | zero => intro r o n A m c ps b w h h1; omega
  | succ N ih =>
    intro r o n A m c ps b w hN h1 hon hn hms hr hm hv hp
    have hx := hr.lenI
    have hl : m ≤ c := hr.2.1
    have IH := Lib.hid ih
    clear ih
    by_cases ho : o = n
    · subst ho
      cases b
      · rw [gsteps_part] at hms
        subst hms
        obtain ⟨x, rfl⟩ := List.length_eq_one_iff.1 hx
        have HS := Lib.hid (groots_part r o [x])
        obtain ⟨ad, rfl, hb, hcell⟩ := hr.getI (j := 0) (z := x) rfl
        rw [add_zero'] at hcell
        clear hx hr
        go_enter Tryz.func153, Tryz.ntmps153
        go_wp2_with fail
        go_quiet (fail)
        go_wp2_with fail
        go_ret2
        exact ⟨ret_two (by rw [HS.out]; rfl) (by rw [HS.out]; rfl), by (repeat (with_reducible first | exact Ext.refl _ | assumption | refine Ext.drew ?_ | refine Ext.drewN ?_ _ | refine Ext.alloc ?_ _ | refine Ext.trans ?_ (by with_reducible assumption)))⟩
      · rw [gsteps_whole] at hms
        have HS := Lib.hid (groots_whole r o ps)
        subst hms
        clear hx hr
        go_enter Tryz.func153, Tryz.ntmps153
        go_wp2_with fail
        go_ret2
        exact ⟨ret_two (by rw [HS.out]; rfl) (by rw [HS.out]; rfl), by (repeat (with_reducible first | exact Ext.refl _ | assumption | refine Ext.drew ?_ | refine Ext.drewN ?_ _ | refine Ext.alloc ?_ _ | refine Ext.trans ?_ (by with_reducible assumption)))⟩
    · have h2 : 2 ≤ n := by omega
      have hk := half_lt h2 hn
      have hk0 := half_pos n
      have ho' : ((o : Int) == (n : Int)) = false := by simp; omega
      by_cases hok : o ≤ half n
      · have hS := groots_left (r := r) (p := ps) b ho h2 hn hok
        obtain ⟨k, hmk⟩ : ∃ k, m = k + 1 := ⟨gsteps o (half n) b, by rw [hms, gsteps_left b ho h2 hn hok]⟩
        have hks : k = gsteps o (half n) b := by rw [gsteps_left b ho h2 hn hok] at hms; omega
        have hlast := last_of (hx.trans hmk)
        have hvl := (vld_true (allV_get hp hlast)).1
        rw [← init_of (hx.trans hmk)] at hS
        obtain ⟨ad, hA, hb, hcell⟩ := hr.getI hlast
        have R := hr.takeI (k := k) (by omega)
        have hvt := allV_take hp k
        have hgv := groots_vld (half n) r o (half n) (ps.take k) b (Nat.le_refl _) h1 hok (by omega) hv hvt (by rw [List.length_take, hx, ← hks]; omega)
        have vg := (vld_true hgv.2).1
        have hI := fun (W : World) (e : Ext w W) => IH.out r o (half n) A k c (ps.take k) b W (by omega) h1 hok (by omega) hks (R.ext e) hm hv hvt
        generalize groots r o (half n) (ps.take k) b = g at *
        obtain ⟨ga, gb⟩ := g
        generalize ps.getLastD 0 = z at *
        have HS := Lib.hid hS
        have HI := Lib.hid hI
        have HV : Hid (0 ≤ gb) := vg
        subst hA
        clear hx hms hlast hks hS hI IH ho hgv vg
        unfold maxLen at hm
        have q0 : (0 : Int) ≤ (k : Int) := by omega
        have q1 : (k : Int) ≤ (c : Int) := by omega
        have q2 : (k : Int) < (m : Int) := by omega
        have q9 : Hid ((m : Int) - 1 = (k : Int)) := by show _ = _; omega
        have q8 : (1 : Int) ≤ (m : Int) := by omega
        have q7 : (m : Int) ≤ (c : Int) := by omega
        have i1 : (o : Int) ≤ ((half n : Nat) : Int) := by omega
        clear hmk
        go_enter Tryz.func153, Tryz.ntmps153
        go_upto_region 2 with (fail)
        rw [q9.out]
        go_wp2_with fail
        refine (Half_any _ _ (by omega) (by omega)).mono ?_
        rintro e w' ⟨rfl, rfl⟩
        rw [Int.toNat_natCast]
        go_wp2_with fail
        refine (HI.out _ (Ext.refl _)).mono ?_
        rintro _ w1 ⟨rfl, hb1⟩
        have hcell1 := (Ext.cell (p := ad.add k) hb1 (by rw [blk_add]; exact hb)).trans hcell
        go_wp2_with fail
        refine (NodeOf_any _ _ _ HV.out hvl).mono ?_
        rintro _ w2 ⟨rfl, hb2⟩
        go_wp2_with fail
        go_ret2
        exact ⟨ret_two (by rw [HS.out]; rfl) (by rw [HS.out]; rfl), by (repeat (with_reducible first | exact Ext.refl _ | assumption | refine Ext.drew ?_ | refine Ext.drewN ?_ _ | refine Ext.alloc ?_ _ | refine Ext.trans ?_ (by with_reducible assumption)))⟩
      · have hS := groots_right (r := r) (p := ps) b ho h2 hn hok
        obtain ⟨k, hmk⟩ : ∃ k, m = k + 1 := ⟨gsteps (o - half n) (n - half n) false, by rw [hms, gsteps_right b ho h2 hn hok]⟩
        have hks : k = gsteps (o - half n) (n - half n) false := by rw [gsteps_right b ho h2 hn hok] at hms; omega
        have hlast := last_of (hx.trans hmk)
        have hvl := (vld_true (allV_get hp hlast)).1
        rw [← init_of (hx.trans hmk)] at hS
        obtain ⟨ad, hA, hb, hcell⟩ := hr.getI hlast
        have R := hr.takeI (k := k) (by omega)
        have hvt := allV_take hp k
        have hgv := groots_vld (n - half n) r (o - half n) (n - half n) (ps.take k) false (Nat.le_refl _) (by omega) (by omega) (by omega) hv hvt (by rw [List.length_take, hx, ← hks]; omega)
        have va := (vld_true hgv.1).1
        have vb := (vld_true hgv.2).1
        have hI := fun (W : World) (e : Ext w W) => IH.out r (o - half n) (n - half n) A k c (ps.take k) false W (by omega) (by omega) (by omega) (by omega) hks (R.ext e) hm hv hvt
        generalize groots r (o - half n) (n - half n) (ps.take k) false = g at *
        obtain ⟨ga, gb⟩ := g
        generalize ps.getLastD 0 = z at *
        have HS := Lib.hid hS
        have HI := Lib.hid hI
        have HVa : Hid (0 ≤ ga) := va
        have HVb : Hid (0 ≤ gb) := vb
        have HN1 : Hid (nodeL z ga = nodeL z ga) := rfl
        subst hA
        clear hx hms hlast hks hS hI IH ho hgv va vb
        unfold maxLen at hm
        have q0 : (0 : Int) ≤ (k : Int) := by omega
        have q1 : (k : Int) ≤ (c : Int) := by omega
        have q2 : (k : Int) < (m : Int) := by omega
        have q9 : Hid ((m : Int) - 1 = (k : Int)) := by show _ = _; omega
        have q8 : (1 : Int) ≤ (m : Int) := by omega
        have q7 : (m : Int) ≤ (c : Int) := by omega
        have i1 : ((half n : Nat) : Int) < (o : Int) := by omega
        have N1 : Hid ((o : Int) - ((half n : Nat) : Int) = ((o - half n : Nat) : Int)) := by show _ = _; omega
        have N2 : Hid ((n : Int) - ((half n : Nat) : Int) = ((n - half n : Nat) : Int)) := by show _ = _; omega
        clear hmk hok
        go_enter Tryz.func153, Tryz.ntmps153
        go_upto_region 2 with (fail)
        rw [q9.out]
        go_wp2_with fail
        refine (Half_any _ _ (by omega) (by omega)).mono ?_
        rintro e w' ⟨rfl, rfl⟩
        rw [Int.toNat_natCast]
        go_wp2_with fail
        rw [N1.out, N2.out]
        refine (HI.out _ (Ext.refl _)).mono ?_
        rintro _ w1 ⟨rfl, hb1⟩
        have hcell1 := (Ext.cell (p := ad.add k) hb1 (by rw [blk_add]; exact hb)).trans hcell
        have hbk := hb1.lt hb
        have HC1 := Lib.hid hcell1
        go_wp2_with fail
        clear hcell1
        go_region_held3 (fun W => W.cell? (ad.add k) = some (.int .i64 z)) (first | exact HC1.out | exact (Ext.cell (a := w1) (by (repeat (with_reducible first | exact Ext.refl _ | assumption | refine Ext.drew ?_ | refine Ext.drewN ?_ _ | refine Ext.alloc ?_ _ | refine Ext.trans ?_ (by with_reducible assumption)))) (by rw [blk_add]; exact hbk)).trans HC1.out) (first
          | (go_at_call 138; (with_reducible refine (NodeOf_any z ga _ hvl HVa.out).mono ?_); rintro _ w2 ⟨rfl, hb2⟩)
          | (go_at_call 138; (with_reducible refine (NodeOf_any z gb _ hvl HVb.out).mono ?_); rintro _ w3 ⟨rfl, hb3⟩)
          | fail)
        all_goals
          go_wp2_with fail
          go_ret2
          exact ⟨ret_two (by rw [HS.out]; rfl) (by rw [HS.out]; rfl), by (repeat (with_reducible first | exact Ext.refl _ | assumption | refine Ext.drew ?_ | refine Ext.drewN ?_ _ | refine Ext.alloc ?_ _ | refine Ext.trans ?_ (by with_reducible assumption)))⟩
end Go.Proofs.YtnphbkjkeipmmaaGreatDoor
