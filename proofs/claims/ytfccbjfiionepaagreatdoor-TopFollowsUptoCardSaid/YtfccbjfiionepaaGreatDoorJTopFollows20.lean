/- head.Parse. -/
import Derived.Test.YtfccbjfiionepaaGreatDoorJTopFollows19
import Derived.Lib.IfaceEq
import Derived.LaidEql
import Derived.Maps.OwnSet
import Derived.StringKeys
import Derived.Test.YtfccbjfiionepaaGreatDoorJTopFollows4
import Derived.Test.YtfccbjfiionepaaGreatDoorJTopFollows8
import Derived.Deep.RegionWith
import Derived.Test.YtfccbjfiionepaaGreatDoorJTopFollows6
import Derived.Deep.LoopGhost
import Derived.Test.YtfccbjfiionepaaGreatDoorJTopFollows10
namespace Go.Proofs.YtfccbjfiionepaaGreatDoor
open Go.RowKit Go.WideShapes
set_option linter.unusedVariables false
attribute [local go_sem ↓] Go.wp_at_zero Go.wp_at_succ

/-- a number of the library's that a search asks for -/
def MaxG (w : World) : Prop := ∃ m : Int, w.cell? ⟨2, 0, none⟩ = some (.int .i64 m)
theorem MaxG.ext {w w' : World} (h : MaxG w) (e : Ext w w') : MaxG w' := by
  obtain ⟨m, h⟩ := h
  exact ⟨m, (e.cell (p := ⟨2, 0, none⟩) (cell_lt h)).trans h⟩
theorem MaxG.of_shape {w : World} (h : w.ShapedOpen Tryz.prog) : MaxG w :=
  Go.Proofs.cell_of_shapedOpen_int (zero := #[.int .i64 0]) (t := 3) h (of_decide_eq_true (by kernel_rfl)) (by kernel_rfl) rfl (by kernel_rfl) (by kernel_rfl) Tryz.underlying3
def SplR (s : ByteArray) (w : World) (e : Ending) (w' : World) : Prop :=
  ∃ g, e = .returned (.slice (some ⟨g, 0, none⟩) (partsB 32 s).length (partsB 32 s).length) ∧ Rd w' 1 (some ⟨g, 0, none⟩) (partsB 32 s).length (partsB 32 s).length ((partsB 32 s).map Value.string) ∧ Ext w w'
theorem Split_any' (s : ByteArray) (w : World) (hs : s.size < 4294967281) (hM : MaxG w) :
    Calls Tryz.prog 95 #[.string s, .string ⟨#[32]⟩] w fun e w' => SplR s w e w' := by
  obtain ⟨m, hm⟩ := hM
  refine (Tryz.strings_Split s ⟨#[32]⟩ m w hs hm (by decide)).mono ?_
  rintro e w' ⟨rfl, rfl⟩
  rw [splitB_parts, partsB_len]
  refine ⟨w.heap.size, rfl, ⟨by rw [List.length_map, Nat.mul_one], Nat.le_refl _, fun _ => ⟨_, rfl, by simp, fun j u hu => ?_⟩⟩, (Ext.refl _).alloc _⟩
  exact news_new w 9 _ _ rfl j u hu
theorem readK_vals (s : ByteArray) : readK s = 0 ∨ readK s = 1 ∨ readK s = 2 := by
  unfold readK
  split
  · split
    · exact .inl rfl
    · exact .inr (.inl rfl)
  · exact .inr (.inr rfl)
theorem four_list {α : Type} {l : List α} (h : l.length = 4) : ∃ a b c d, l = [a, b, c, d] := by
  match l, h with
  | [a, b, c, d], _ => exact ⟨a, b, c, d, rfl⟩
theorem errR_1 : errR 1 = .iface 82 (.int .i64 1) := rfl
theorem errR_2 : errR 2 = .iface 82 (.int .i64 2) := rfl
theorem eql_two (a b : Int) (w : World) : (binOp .eql 26 (.iface 82 (.int .i64 a)) (.iface 82 (.int .i64 b))).run Tryz.prog w = .ok (.bool (a == b)) w :=
  Lib.run_eql_iface_int w a b Tryz.underlying26 (by kernel_rfl) Tryz.underlying82
theorem eql_nil_two (b : Int) (w : World) : (binOp .eql 26 .nilIface (.iface 82 (.int .i64 b))).run Tryz.prog w = .ok (.bool false) w :=
  run_eql_iface_nil_left _ _ _ Tryz.underlying26
def HPR (s : ByteArray) (e : Ending) : Prop := e = .returned (.tuple #[(headR s).1.val, errR (headR s).2])
theorem HPR.of {s : ByteArray} {z : Hd × Int} (h : headR s = z) {e : Ending} (he : e = .returned (.tuple #[z.1.val, errR z.2])) : HPR s e := by unfold HPR; rw [h]; exact he

end Go.Proofs.YtfccbjfiionepaaGreatDoor

/- serve.wants: the map of the words that can be asked, each with the numbers that it wants; serve.read. -/
namespace Go.Proofs.YtfccbjfiionepaaGreatDoor
open Go.RowKit Go.WideShapes
open Go.Maps (string_keyed)
open Go.WideMaps (keyOf_string_mk)
set_option linter.unusedVariables false
attribute [local go_sem ↓] Go.wp_at_zero Go.wp_at_succ

abbrev ksL (s : ByteArray) : Lit := .string s.data.toList
theorem ksL_ne {s k : ByteArray} (h : s ≠ k) : ksL s ≠ ksL k := fun e => by injection e with e; exact h (ba_ext e)
/-- a map from words to numbers -/
def MapIs (w : World) (mb N : Nat) (f : ByteArray → Option Nat) : Prop :=
  ∃ D : DataW Value, w.ownsMap Tryz.prog 9 (plainElem Tryz.prog 3) mb N D ∧ ∀ s : ByteArray, (match f s with | none => Maps.has D (ksL s) = false | some n => Maps.has D (ksL s) = true ∧ ∀ z, D.atKey (ksL s) z = .lit (.int .i64 (n : Int)))
theorem MapIs.new (w : World) : MapIs (w.alloc (.map #[] 0)) w.heap.size 0 (fun _ => none) :=
  ⟨.map [], World.ownsMap_made w _ _ _, fun s => rfl⟩
theorem MapIs.put {w : World} {mb N : Nat} {f : ByteArray → Option Nat} (h : MapIs w mb N f) (hN : N < 1000) (k : ByteArray) (hk : k.size ≤ 1000) (n : Nat) (hn : n ≤ 1000) (v : Int) (hv : v = (n : Int)) :
    ∃ w', (Instr.mapUpdate 145 (.map (some mb)) (.string k) (.int .i64 v)).run Tryz.prog w = .ok () w' ∧ MapIs w' mb (N + 1) (fun s => if s = k then some n else f s) ∧ w.grownBy w' (some mb) := by
  subst hv
  obtain ⟨D, h1, h2⟩ := h
  have hK := string_keyed (P := Tryz.prog) Tryz.underlying9
  have hkey := keyOf_string_mk (P := Tryz.prog) Tryz.underlying9 (s := k) (by simp only [maxLen]; omega)
  have hw : (Lit.int .i64 (n : Int)).wf = true := by simp [Lit.wf, IntKind.min, IntKind.max, IntKind.signed, IntKind.bits]; omega
  obtain ⟨w', hrun, hown, ht⟩ := h1.store (t := 145) (e := 3) hK Tryz.underlying145 (by simp only [maxLen]; omega) hkey (plainElem_int (a := (n : Int)) Tryz.underlying3 hw)
  refine ⟨w', hrun, ⟨_, hown, fun s => ?_⟩, ht.grown⟩
  by_cases e : s = k
  · subst e
    show (match (if s = s then some n else f s) with | none => _ | some n => _)
    rw [if_pos rfl]
    exact ⟨Maps.has_put_same h1.isMap (hK.key hkey) _, fun z => Maps.atKey_put_same h1.isMap (hK.key hkey) _ z⟩
  · show (match (if s = k then some n else f s) with | none => _ | some n => _)
    rw [if_neg e]
    have h3 := h2 s
    cases hf : f s with
    | none =>
      rw [hf] at h3
      exact (Maps.has_put_other (ksL_ne e) _).trans h3
    | some m =>
      rw [hf] at h3
      exact ⟨(Maps.has_put_other (ksL_ne e) _).trans h3.1, fun z => (Maps.atKey_put_other (ksL_ne e) _ z).trans (h3.2 z)⟩
theorem MapIs.ext {w w' : World} {mb N : Nat} {f : ByteArray → Option Nat} (h : MapIs w mb N f) (e : Ext w w') : MapIs w' mb N f := by
  obtain ⟨D, h1, h2⟩ := h
  exact ⟨D, h1.kept (e.gb none) (by simp), h2⟩
def optV (x : Option Nat) : Int := match x with | some n => (n : Int) | none => 0
theorem MapIs.look {w : World} {mb N : Nat} {f : ByteArray → Option Nat} (h : MapIs w mb N f) (s : ByteArray) (hs : s.size ≤ maxLen) :
    (Instr.lookup 145 (.map (some mb)) (.string s) true).run Tryz.prog w = .ok (.tuple #[.int .i64 (optV (f s)), .bool (f s).isSome]) w := by
  obtain ⟨D, h1, h2⟩ := h
  obtain ⟨v, ps, hrun, hv⟩ := h1.look_ok (t := 145) (e := 3) (string_keyed Tryz.underlying9) Tryz.underlying145 (z := .int .i64 0) (Tryz.zeroValue3 w) (plainElem_int Tryz.underlying3 (by decide)) (keyOf_string_mk Tryz.underlying9 (s := s) hs)
  rw [hrun]
  obtain ⟨c, rfl, hc, -⟩ := plainElem_int_inv Tryz.underlying3 hv
  simp only [Prod.mk.injEq] at hc
  have h3 := h2 s
  cases hf : f s with
  | none =>
    rw [hf] at h3
    have h4 := hc.1
    rw [Maps.atKey_of_not_has h3] at h4
    simp only [DataW.lit.injEq, Lit.int.injEq, true_and] at h4
    rw [show Maps.has D (.string s.data.toList) = false from h3, ← h4]
    rfl
  | some n =>
    rw [hf] at h3
    have h4 := hc.1
    rw [h3.2] at h4
    simp only [DataW.lit.injEq, Lit.int.injEq, true_and] at h4
    rw [show Maps.has D (.string s.data.toList) = true from h3.1, ← h4]
    rfl

def wHead : ByteArray := ⟨#[104, 101, 97, 100]⟩
def wEntry : ByteArray := ⟨#[101, 110, 116, 114, 121]⟩
def wLeaf : ByteArray := ⟨#[108, 101, 97, 102]⟩
def wProof : ByteArray := ⟨#[112, 114, 111, 111, 102]⟩
def wGrow : ByteArray := ⟨#[103, 114, 111, 119]⟩
def wTile : ByteArray := ⟨#[116, 105, 108, 101]⟩
def wantN (s : ByteArray) : Option Nat := if s = wTile then some 2 else (if s = wGrow then some 2 else (if s = wProof then some 2 else (if s = wLeaf then some 1 else (if s = wEntry then some 1 else (if s = wHead then some 0 else none)))))

set_option maxRecDepth 100000 in
set_option maxHeartbeats 2000000 in
theorem wants_any (w : World) : Calls Tryz.prog 96 #[] w fun e w' => (∃ mb, e = .returned (.map (some mb)) ∧ MapIs w' mb 6 wantN) ∧ Ext w w' := by
  have hmm := @run_makeMap Tryz.prog
  have m0 := MapIs.new w
  have e0 : Ext w (w.alloc (.map #[] 0)) := (Ext.refl _).alloc _
  obtain ⟨w1, r1, m1, g1⟩ := m0.put (by omega) wHead (by decide) 0 (by omega) 0 rfl
  have e1 := e0.gbn g1 (Nat.le_refl _)
  obtain ⟨w2, r2, m2, g2⟩ := m1.put (by omega) wEntry (by decide) 1 (by omega) 1 rfl
  have e2 := e1.gbn g2 (Nat.le_refl _)
  obtain ⟨w3, r3, m3, g3⟩ := m2.put (by omega) wLeaf (by decide) 1 (by omega) 1 rfl
  have e3 := e2.gbn g3 (Nat.le_refl _)
  obtain ⟨w4, r4, m4, g4⟩ := m3.put (by omega) wProof (by decide) 2 (by omega) 2 rfl
  have e4 := e3.gbn g4 (Nat.le_refl _)
  obtain ⟨w5, r5, m5, g5⟩ := m4.put (by omega) wGrow (by decide) 2 (by omega) 2 rfl
  have e5 := e4.gbn g5 (Nat.le_refl _)
  obtain ⟨w6, r6, m6, g6⟩ := m5.put (by omega) wTile (by decide) 2 (by omega) 2 rfl
  have e6 := e5.gbn g6 (Nat.le_refl _)
  simp only [wHead, wEntry, wLeaf, wProof, wGrow, wTile] at r1 r2 r3 r4 r5 r6
  have HM := Lib.hid m6
  have HE := Lib.hid e6
  clear m0 m1 m2 m3 m4 m5 m6 e0 e1 e2 e3 e4 e5 e6 g1 g2 g3 g4 g5 g6
  go_enter Tryz.func96, Tryz.ntmps96
  go_wp2_with fail
  go_ret
  exact ⟨⟨_, rfl, HM.out⟩, HE.out⟩

/-- the numbers behind the word -/
def numsR : List ByteArray → Option (List Nat)
  | [] => some []
  | s :: r => match numR s 4 with
    | none => none
    | some v => (numsR r).map (v :: ·)
theorem numsR_snoc {l : List ByteArray} {x : ByteArray} {ns : List Nat} {v : Nat} (h : numsR l = some ns) (hx : numR x 4 = some v) : numsR (l ++ [x]) = some (ns ++ [v]) := by
  induction l generalizing ns with
  | nil =>
    injection h with h
    subst h
    show (match numR x 4 with | none => none | some v => (numsR []).map (v :: ·)) = _
    rw [hx]; rfl
  | cons a l ih =>
    show (match numR a 4 with | none => none | some v => (numsR (l ++ [x])).map (v :: ·)) = _
    have h' : (match numR a 4 with | none => none | some v => (numsR l).map (v :: ·)) = some ns := h
    cases ha : numR a 4 with
    | none => rw [ha] at h'; cases h'
    | some u =>
      rw [ha] at h'
      cases hl : numsR l with
      | none => rw [hl] at h'; cases h'
      | some ms =>
        rw [hl] at h'
        injection h' with h'
        subst h'
        simp only
        rw [ih hl]; rfl
theorem numsR_bad : ∀ {l : List ByteArray} {i : Nat} {x : ByteArray}, l[i]? = some x → numR x 4 = none → numsR l = none
  | a :: l, 0, x, h, hx => by
    obtain rfl : a = x := by simpa using h
    show (match numR a 4 with | none => none | some v => (numsR l).map (v :: ·)) = none
    rw [hx]
  | a :: l, i + 1, x, h, hx => by
    show (match numR a 4 with | none => none | some v => (numsR l).map (v :: ·)) = none
    rw [numsR_bad (l := l) (i := i) (by simpa using h) hx]
    cases numR a 4 <;> rfl
theorem numsR_len : ∀ {l : List ByteArray} {ns : List Nat}, numsR l = some ns → ns.length = l.length
  | [], ns, h => by injection h with h; subst h; rfl
  | a :: l, ns, h => by
    have h' : (match numR a 4 with | none => none | some v => (numsR l).map (v :: ·)) = some ns := h
    cases ha : numR a 4 with
    | none => rw [ha] at h'; cases h'
    | some u =>
      rw [ha] at h'
      cases hl : numsR l with
      | none => rw [hl] at h'; cases h'
      | some ms =>
        rw [hl] at h'
        injection h' with h'
        subst h'
        simp [numsR_len hl]
/-- what is asked -/
def askR (s : ByteArray) : Option (ByteArray × List Nat) := match partsB 32 s with
  | [] => none
  | w :: r => match wantN w with
    | none => none
    | some n => if r.length = n then (numsR r).map fun x => (w, x) else none
section
variable {s w : ByteArray} {r : List ByteArray} {n : Nat} (h : partsB 32 s = w :: r)
include h
theorem askR_want (k : wantN w = none) : askR s = none := by unfold askR; rw [h]; simp only [k]
theorem askR_len (k : wantN w = some n) (l : r.length ≠ n) : askR s = none := by unfold askR; rw [h]; simp only [k]; rw [if_neg l]
theorem askR_bad (hn : numsR r = none) : askR s = none := by
  unfold askR; rw [h]; simp only [hn]
  cases wantN w <;> simp
theorem askR_ok (k : wantN w = some n) (l : r.length = n) {ns : List Nat} (hn : numsR r = some ns) : askR s = some (w, ns) := by
  unfold askR; rw [h]; simp only [k]; rw [if_pos l, hn]; rfl
end
theorem wantN_le {s : ByteArray} {n : Nat} (h : wantN s = some n) : n ≤ 2 := by
  unfold wantN at h
  repeat' split at h
  all_goals first | (injection h with h; omega) | cases h
def RdP (s : ByteArray) (w w' : World) (e : Ending) : Prop := match askR s with
  | none => e = .returned (.tuple #[.string ⟨#[]⟩, .slice none 0 0, .bool false])
  | some (x, ns) => ∃ v, e = .returned (.tuple #[.string x, v, .bool true]) ∧ w'.ownsRow w.heap.size 3 1 v ns.length ((ns.map fun n : Nat => (n : Int)).map (Value.int .i64))
theorem RdP.no {s : ByteArray} {w w' : World} {e : Ending} (h : askR s = none) (he : e = .returned (.tuple #[.string ⟨#[]⟩, .slice none 0 0, .bool false])) : RdP s w w' e := by unfold RdP; rw [h]; exact he
theorem RdP.yes {s x : ByteArray} {ns : List Nat} {w w' : World} {e : Ending} (h : askR s = some (x, ns)) (he : ∃ v, e = .returned (.tuple #[.string x, v, .bool true]) ∧ w'.ownsRow w.heap.size 3 1 v ns.length ((ns.map fun n : Nat => (n : Int)).map (Value.int .i64))) : RdP s w w' e := by unfold RdP; rw [h]; exact he
theorem Rd.tail1 {w : World} {g q c : Nat} {x : Value} {xs : List Value} (h : Rd w 1 (some ⟨g, 0, none⟩) (q + 1) (c + 1) (x :: xs)) : Rd w 1 (some ⟨g, 1, none⟩) q c xs := by
  obtain ⟨h1, h2, h3⟩ := h
  refine ⟨by simpa using h1, by omega, fun hq => ?_⟩
  obtain ⟨ad, e, hl, hc⟩ := h3 (by omega)
  injection e with e
  subst e
  refine ⟨_, rfl, hl, fun j u hu => ?_⟩
  have h4 := hc (j + 1) u (by simpa using hu)
  have e2 : ((⟨g, 1, none⟩ : Addr).add j) = ((⟨g, 0, none⟩ : Addr).add (j + 1)) := by
    unfold Addr.add
    by_cases hj : j = 0
    · subst hj; simp
    · simp [hj]; omega
  rw [e2]; exact h4
theorem oneW (z : Int) : ∀ u ∈ [Value.int .i64 z], u.oneCell' = true := by intro u hu; simp at hu; subst hu; rfl

set_option maxRecDepth 100000 in
set_option maxHeartbeats 4000000 in
theorem SRead_any (s : ByteArray) (w : World) (hs : s.size ≤ 1048576) (hG : StrG w) (hP : PowG w) (hM : MaxG w) :
    Calls Tryz.prog 56 #[.string s] w fun e w' => RdP s w w' e ∧ Ext w w' := by
  obtain ⟨x0, r, hp⟩ : ∃ x r, partsB 32 s = x :: r := by
    cases h : partsB 32 s with
    | nil => exact absurd h (partsB_ne 32 s)
    | cons x r => exact ⟨x, r, rfl⟩
  have hx0 : x0.size ≤ s.size := parts_size (c := 32) (by rw [hp]; simp)
  have hrs : ∀ y ∈ r, y.size ≤ s.size := fun y hy => parts_size (c := 32) (by rw [hp]; simp [hy])
  obtain ⟨q, hq⟩ : ∃ q, r.length = q := ⟨_, rfl⟩
  have HSP : Hid (∀ W, Ext w W → Calls Tryz.prog 95 #[.string s, .string ⟨#[32]⟩] W fun e w' => ∃ g, e = .returned (.slice (some ⟨g, 0, none⟩) (q + 1) (q + 1)) ∧ Rd w' 1 (some ⟨g, 0, none⟩) (q + 1) (q + 1) (Value.string x0 :: r.map Value.string) ∧ Ext W w') := Lib.hid fun W e => by
    have h := Split_any' s W (by omega) (hM.ext e)
    unfold SplR at h
    rw [hp, List.length_cons, hq, List.map_cons] at h
    exact h
  have HNU : Hid (∀ x ∈ r, ∀ W, Ext w W → Calls Tryz.prog 97 #[.string x, .int .i64 4] W fun e w' => (∃ n : Int, e = .returned (.tuple #[.int .i64 n, .bool (numR x 4).isSome]) ∧ ∀ v, numR x 4 = some v → n = (v : Int)) ∧ Ext W w') := Lib.hid fun x hx W e => HNumber_any x 4 W (by have := hrs x hx; omega) (by omega) (hG.ext e) (hP.ext e)
  have HA1 := Lib.hid (askR_want hp)
  have HA2 := Lib.hid fun n => askR_len (n := n) hp
  have HA3 := Lib.hid (askR_bad hp)
  have HA4 := Lib.hid fun n (k : wantN x0 = some n) l ns (hn : numsR r = some ns) => askR_ok (n := n) (ns := ns) hp k l hn
  have HQ := Lib.hid hq
  have hx0m : x0.size ≤ maxLen := by simp only [maxLen]; omega
  have HW := Lib.hid fun W mb (h : MapIs W mb 6 wantN) => h.look x0 hx0m
  have hWL := fun n (h : wantN x0 = some n) => wantN_le h
  have HWL := Lib.hid hWL
  obtain ⟨wn, hwn⟩ : ∃ y, wantN x0 = y := ⟨_, rfl⟩
  rw [hwn] at HA1 HW HWL
  have HWN := Lib.hid hwn
  clear hp hq hG hP hM hx0 hx0m hrs hWL hwn
  go_enter Tryz.func56, Tryz.ntmps56
  go_wp2_with fail
  refine (HSP.out _ (Ext.refl _)).mono ?_
  rintro _ w1 ⟨g, rfl, R1, hb1⟩
  have HR1 := Lib.hid R1
  have HE1 := Lib.hid hb1
  obtain ⟨ad, had, hlt, cz⟩ := R1.at_ (j := 0) (u := .string x0) rfl
  injection had with had
  subst had
  rw [add_zero'] at cz
  clear R1 hb1 HSP
  go_upto_region 2 with (fail)
  go_cut [6, 7] (fun n b wc => n = .int .i64 (optV wn) ∧ b = .bool wn.isSome ∧ Ext w1 wc)
  case first =>
    as_aux_lemma =>
    go_region_with (go_at_call 96; (with_reducible refine (wants_any _).mono ?_); rintro _ w2 ⟨⟨mb, rfl, hm⟩, hb2⟩; have hl := HW.out _ _ hm; have n2 := (hb2.cell (p := ⟨g, 0, none⟩) hlt).trans cz)
    all_goals
      go_wp2_with fail
      go_meet
      exact ⟨rfl, rfl, by (repeat (with_reducible first | exact Ext.refl _ | assumption | refine Ext.drew ?_ | refine Ext.drewN ?_ _ | refine Ext.alloc ?_ _ | refine Ext.trans ?_ (by with_reducible assumption)))⟩
  case rest =>
  as_aux_lemma =>
  obtain ⟨rfl, rfl, hb2⟩ := hcut
  obtain ⟨w2, rfl⟩ : ∃ W, W = wc := ⟨_, rfl⟩
  have c2 := (hb2.cell (p := ⟨g, 0, none⟩) hlt).trans cz
  have hlt2 := hb2.lt hlt
  have HR2 := Lib.hid (HR1.out.ext hb2)
  have HE2 := Lib.hid (HE1.out.trans hb2)
  clear hb2 cz hlt HR1 HE1 HW
  cases wn with
  | none =>
    have HH := Lib.hid (HA1.out rfl)
    clear HA1 HA2 HA3 HA4
    simp only [optV, Option.isSome]
    go_wp2_with fail
    go_ret3
    exact ⟨RdP.no HH.out rfl, HE2.out⟩
  | some n =>
  have hn2 := HWL.out n rfl
  simp only [optV, Option.isSome]
  clear HA1 HWL
  by_cases hqn : q = n
  case neg =>
    have HH := Lib.hid (HA2.out n HWN.out (by rw [HQ.out]; exact hqn))
    have q1 : (((q + 1 : Nat) : Int) != (n : Int) + 1) = true := by simp; omega
    have q2 : (((q : Nat) : Int) + 1 != (n : Int) + 1) = true := by simp; omega
    clear HA2 HA3 HA4 hqn
    go_wp2_with fail
    go_ret3
    exact ⟨RdP.no HH.out rfl, HE2.out⟩
  subst hqn
  have q1 : (((q + 1 : Nat) : Int) != (q : Int) + 1) = false := by simp
  have q2 : (((q : Nat) : Int) + 1 != (q : Int) + 1) = false := by simp
  obtain ⟨i0, hi0, hz0, hz1, hz2⟩ := info_parts info_int'
  clear HA2
  have HT := Lib.hid HR2.out.tail1
  rcases Nat.eq_zero_or_pos q with h0 | h0
  · subst h0
    have hr0 : r = [] := List.eq_nil_of_length_eq_zero HQ.out
    have HH := Lib.hid (HA4.out 0 HWN.out HQ.out [] (by rw [hr0]; rfl))
    clear hr0 HT
    go_wp2_with fail
    refine wp_loop_rounds 1 ?_
    rw [rounds_succ]
    go_wp2_with fail
    go_ret3
    exact ⟨RdP.yes HH.out ⟨_, rfl, own_nil _ _ _ _⟩, HE2.out⟩
  go_wp2_with fail
  obtain ⟨A, hA⟩ : ∃ A, (some ⟨g, 1, none⟩ : Option Addr) = A := ⟨_, rfl⟩
  rw [hA] at HT
  rw [hA]
  clear hA
  go_loopw [8, 35] (fun v x wr => ∃ (i : Nat) (ns : List Nat), x = .int .i64 i ∧ i ≤ q ∧ Ext w2 wr ∧ Hid (numsR (r.take i) = some ns ∧ ns.length = i) ∧ Hid (wr.ownsRow w2.heap.size 3 1 v i ((ns.map fun n : Nat => (n : Int)).map (Value.int .i64)))) (fun _ x _ => q - (intOf x).toNat)
  case atStart => exact ⟨0, [], rfl, Nat.zero_le _, Ext.refl _, Lib.hid ⟨rfl, rfl⟩, own_nil _ _ _ _⟩
  case round =>
    obtain ⟨i, ns, rfl, hi, hbw, HNS, HOW⟩ := hrel
    by_cases hc : i < q
    · have hgy := List.getElem?_eq_getElem (l := r) (i := i) (by rw [HQ.out]; exact hc)
      generalize r[i]'(by rw [HQ.out]; exact hc) = y at *
      have HGY := Lib.hid hgy
      obtain ⟨ady, rfl, hby, cy⟩ := (HT.out.ext hbw).getS hgy
      have HN := Lib.hid (HNU.out y (List.mem_of_getElem? hgy) _ (HE2.out.trans hbw))
      clear hgy
      go_wp2_with fail
      refine HN.out.mono ?_
      rintro _ w3 ⟨⟨z, rfl, hz⟩, hb3⟩
      cases hy : numR y 4 with
      | none =>
        have HH := Lib.hid (HA3.out (numsR_bad HGY.out hy))
        simp only [Option.isSome]
        go_wp2_with fail
        go_ret3
        exact ⟨RdP.no HH.out rfl, (HE2.out.trans hbw).trans hb3⟩
      | some v =>
        obtain rfl := hz v hy
        have HY := Lib.hid hy
        have hbs := (hbw.trans hb3).size
        simp only [Option.isSome]
        clear hz hy
        go_wp2_with (at_builtin; refine wpl_app (by rfl) _ _ _ (by rfl) w2.heap.size 3 i0 _ 1 8 Tryz.underlying24 hi0 hz0 hz1 hz2 rfl (by omega) u8 _ _ (by rfl) ((own_ext HOW.out hb3).alloc _) w3.heap.size 1 [.int .i64 (v : Int)] rfl (by rfl) (news_new w3 _ _ _ rfl) (oneW _) (by omega) (by omega) (by simp; omega) ?_; intro g4 cap w4 own4 hext4)
        go_roundw
        case rel => exact ⟨i + 1, ns ++ [v], by go_num, by omega, hext4 _ (Nat.le_refl _) (by (repeat (with_reducible first | exact Ext.refl _ | assumption | refine Ext.drew ?_ | refine Ext.drewN ?_ _ | refine Ext.alloc ?_ _ | refine Ext.trans ?_ (by with_reducible assumption)))), Lib.hid ⟨by
          rw [List.take_add_one, HGY.out]
          exact numsR_snoc HNS.out.1 HY.out, by rw [List.length_append, HNS.out.2]; rfl⟩, Lib.hid (by
          rw [List.map_append, List.map_append]
          exact own4)⟩
        case measure => simp [intOf]; omega
    · obtain rfl : i = q := by omega
      have hns := HNS.out.1
      rw [List.take_of_length_le (by rw [HQ.out]; exact Nat.le_refl _)] at hns
      have HH := Lib.hid (HA4.out i HWN.out HQ.out ns hns)
      have c5 := (hbw.cell (p := ⟨g, 0, none⟩) hlt2).trans c2
      clear hns
      go_wp2_with fail
      go_ret3
      refine ⟨RdP.yes HH.out ⟨_, rfl, ?_⟩, HE2.out.trans hbw⟩
      rw [HNS.out.2]
      exact own_lower HOW.out HE2.out.size
end Go.Proofs.YtfccbjfiionepaaGreatDoor

namespace Go.Proofs.YtfccbjfiionepaaGreatDoor
open Go.RowKit Go.WideShapes
set_option linter.unusedVariables false
attribute [local go_sem ↓] Go.wp_at_zero Go.wp_at_succ

theorem info_tile : (Tryz.prog.info? 36).map (fun i => (i.zero, i.size, i.bytes)) = some (some (.agg #[.int .i64 0, .int .i64 0, .int .i64 0]), 3, 24) := by kernel_rfl
def OwnT (w w' : World) (v : Value) (ts : List Tl) : Prop := w'.ownsRow w.heap.size 36 3 v ts.length (ts.flatMap Tl.cells)
theorem OwnT.mk {w w' : World} {v : Value} {n : Nat} {cs : List Value} {ts : List Tl} (h : w'.ownsRow w.heap.size 36 3 v n cs) (hn : n = ts.length) (hc : cs = ts.flatMap Tl.cells) : OwnT w w' v ts := by
  subst hn; subst hc; exact h
theorem OwnT.ext {w w' w2 : World} {v : Value} {ts : List Tl} (h : OwnT w w' v ts) (e : Ext w' w2) : OwnT w w2 v ts := own_ext h e

theorem oneT (t : Tl) : ∀ u ∈ t.cells, u.oneCell' = true := by intro u hu; simp [Tl.cells] at hu; rcases hu with rfl | rfl | rfl <;> rfl

theorem many_any (s k : Nat) (w : World) (hs : s ≤ 200) (hk : k ≤ 4) :
    Calls Tryz.prog 44 #[.int .i64 s, .int .i64 k] w fun e w' => e = .returned (.int .i64 (s / 4 ^ k : Nat)) ∧ w = w' := by
  obtain ⟨r, hr⟩ : ∃ r, r = s / 4 ^ k := ⟨_, rfl⟩
  rw [← hr]
  have HR := Lib.hid hr
  clear hr
  go_enter Tryz.func44, Tryz.ntmps44
  go_wp2_with fail
  go_loop [0, 6] (fun a i => ∃ (q j : Nat), a = .int .i64 q ∧ i = .int .i64 j ∧ j ≤ k ∧ q ≤ 200 ∧ Hid (q = s / 4 ^ j)) (fun _ i => k - (intOf i).toNat)
  case atStart => exact ⟨s, 0, rfl, rfl, Nat.zero_le _, hs, by show _ = _; simp⟩
  case round =>
    obtain ⟨q, j, rfl, rfl, hj, hq, HQ⟩ := hrel
    by_cases hc : j < k
    · go_wp2_with fail
      go_round
      case rel => exact ⟨q / 4, j + 1, by go_num, by go_num, by omega, by omega, by show _ = _; rw [HQ.out, div4]⟩
      case measure => simp [intOf]; omega
    · obtain rfl : j = k := by omega
      go_wp2_with fail
      go_ret
      exact ⟨ret_int (by rw [HR.out, HQ.out]), rfl⟩

set_option maxRecDepth 100000 in
set_option maxHeartbeats 1000000 in
theorem AllOf_any (s : Nat) (w : World) (hs : s ≤ 200) :
    Calls Tryz.prog 89 #[.int .i64 s] w fun e w' => (∃ v, e = .returned v ∧ OwnT w w' v (allT s 4)) ∧ Ext w w' := by
  have HL := Lib.hid (allT_len s hs)
  obtain ⟨i0, hi0, hz0, hz1, hz2⟩ := info_parts info_tile
  go_enter Tryz.func89, Tryz.ntmps89
  go_wp2_with fail
  go_loopg [2, 6] 4 (fun g v kk wr => ∃ k : Nat, k + g = 4 ∧ kk = .int .i64 k ∧ Hid (OwnT w wr v (allT s k)) ∧ Ext w wr)
  case atStart => exact ⟨0, rfl, rfl, own_nil _ _ _ _, by (repeat (with_reducible first | exact Ext.refl _ | assumption | refine Ext.drew ?_ | refine Ext.drewN ?_ _ | refine Ext.alloc ?_ _ | refine Ext.trans ?_ (by with_reducible assumption)))⟩
  case round =>
    obtain ⟨k, hg, rfl, hown, hbw⟩ := hrel
    by_cases hc : k < 4
    · have hq := div4_le s k
      go_wp2_with fail
      refine (many_any s k _ hs (by omega)).mono ?_
      rintro e w' ⟨rfl, rfl⟩
      have HQ : Hid (s / 4 ^ k = s / 4 ^ k) := rfl
      generalize hqq : s / 4 ^ k = q at *
      have HQQ := Lib.hid hqq
      clear hqq HQ
      go_wp2_with fail
      go_loopg [2, 5] ((q + 3) / 4) (fun g2 v i wr => ∃ j : Nat, j + g2 = (q + 3) / 4 ∧ i = .int .i64 j ∧ Hid (OwnT w wr v (allT s k ++ (tilesAt q k).take j)) ∧ Ext w wr)
      case atStart => exact ⟨0, by omega, rfl, by show OwnT _ _ _ _; simpa using hown.out, hbw⟩
      case round =>
        obtain ⟨j, hg2, rfl, hown2, hbw2⟩ := hrel
        by_cases hc2 : 4 * j < q
        · have hl2 : (allT s k ++ (tilesAt q k).take j).length ≤ 1000 := by
            rw [List.length_append, List.length_take]
            have := HL.out k
            omega
          have HT : Hid (allT s k ++ (tilesAt q k).take (j + 1) = (allT s k ++ (tilesAt q k).take j) ++ [tileAt q k j]) := by show _ = _; rw [tilesAt_take q k j hc2, List.append_assoc]
          generalize allT s k ++ (tilesAt q k).take j = L at *
          go_wp2_with (at_builtin; refine wpl_app (by rfl) _ _ _ (by rfl) w.heap.size 36 i0 _ 3 24 Tryz.underlying85 hi0 hz0 hz1 hz2 rfl (by omega) u2 _ _ (by rfl) ((hown2.out).alloc _) wr.heap.size 1 (tileAt q k j).cells rfl (by rfl) (news_new wr _ _ _ rfl) (oneT _) (by omega) (by omega) (by have := hbw2.size; simp; omega) ?_; intro g cap w3 own3 hext3)
          go_roundg ((q + 3) / 4 - (j + 1))
          case measure => omega
          case rel => exact ⟨j + 1, by omega, by go_num, OwnT.mk own3 (by rw [HT.out]; simp) (by rw [HT.out]; simp [List.flatMap_append]), hext3 _ (Nat.le_refl _) (by (repeat (with_reducible first | exact Ext.refl _ | assumption | refine Ext.drew ?_ | refine Ext.drewN ?_ _ | refine Ext.alloc ?_ _ | refine Ext.trans ?_ (by with_reducible assumption))))⟩
        · go_wp2_with fail
          go_roundg (3 - k)
          case measure => omega
          case rel => exact ⟨k + 1, by omega, by go_num, (by have := hown2.out; rw [tilesAt_all q k j (by omega)] at this; rw [allT, HQQ.out]; exact this), hbw2⟩
    · obtain rfl : k = 4 := by omega
      go_wp2_with fail
      go_ret
      exact ⟨⟨_, rfl, hown.out⟩, hbw⟩

theorem All_ok (s : Int) (w : World) (h0 : 0 ≤ s) (h1 : s ≤ 200) :
    Calls Tryz.prog 41 #[.int .i64 s] w fun e w' => (∃ v, e = .returned (.tuple #[v, .nilIface]) ∧ OwnT w w' v (allT s.toNat 4)) ∧ Ext w w' := by
  obtain ⟨s, rfl⟩ := Int.eq_ofNat_of_zero_le h0
  rw [Int.toNat_natCast]
  go_enter Tryz.func41, Tryz.ntmps41
  go_wp2_with fail
  refine (AllOf_any s _ (by omega)).mono ?_
  rintro e w1 ⟨⟨v, rfl, hv⟩, hb1⟩
  go_wp2_with fail
  go_ret2
  exact ⟨⟨_, rfl, hv⟩, by (repeat (with_reducible first | exact Ext.refl _ | assumption | refine Ext.drew ?_ | refine Ext.drewN ?_ _ | refine Ext.alloc ?_ _ | refine Ext.trans ?_ (by with_reducible assumption)))⟩
theorem All_bad (s : Int) (w : World) (h : ¬ (0 ≤ s ∧ s ≤ 200)) :
    Calls Tryz.prog 41 #[.int .i64 s] w fun e w' => e = .returned (.tuple #[.slice none 0 0, errV 1]) ∧ Ext w w' := by
  have h' : s < 0 ∨ (0 ≤ s ∧ 200 < s) := by omega
  clear h
  rcases h' with h | ⟨h, h'⟩
  all_goals
    go_enter Tryz.func41, Tryz.ntmps41
    go_wp2_with fail
    go_ret2
    exact ⟨rfl, by (repeat (with_reducible first | exact Ext.refl _ | assumption | refine Ext.drew ?_ | refine Ext.drewN ?_ _ | refine Ext.alloc ?_ _ | refine Ext.trans ?_ (by with_reducible assumption)))⟩

set_option maxRecDepth 100000 in
set_option maxHeartbeats 2000000 in
theorem SumsOf_any (A : Option Addr) (n c : Nat) (xs : List Int) (k i m : Nat) (w : World) (hr : Rd w 1 A n c (xs.map (Value.int .i64))) (hm : c ≤ maxLen) (hk : leafsOk xs) (hk3 : k ≤ 3) (hm4 : m ≤ 4) (hf : i * 4 + m ≤ n / 4 ^ k) :
    Calls Tryz.prog 45 #[.slice A n c, .agg #[.int .i64 k, .int .i64 i, .int .i64 m]] w fun e w' => (∃ v, e = .returned v ∧ OwnN w w' v (sumsT xs k i m)) ∧ Ext w w' := by
  have hx := hr.lenI
  have hn : n ≤ 200 := by have := hk.1; omega
  have hl := hr.2.1
  have hi : i ≤ 200 := by have := div4_le n k; omega
  have HX := Lib.hid hx
  clear hx
  obtain ⟨i0, hi0, hz0, hz1, hz2⟩ := info_parts info_int'
  have B : Bk (w.alloc (.cells #[.int .i64 k, .int .i64 i, .int .i64 m] 36)) w.heap.size 36 #[.int .i64 k, .int .i64 i, .int .i64 m] := Bk.at_ _ _ _ _ rfl
  have q0 := B.cell 0
  have q1 := B.cell 1
  have q2 := B.cell 2
  go_enter Tryz.func45, Tryz.ntmps45
  go_wp2_with fail
  go_loop [5, 10] (fun a x => ∃ (q j : Nat), a = .int .i64 q ∧ x = .int .i64 j ∧ j ≤ k ∧ q ≤ 64 ∧ Hid (q = 4 ^ j)) (fun _ x => k - (intOf x).toNat)
  case atStart => exact ⟨1, 0, rfl, rfl, Nat.zero_le _, by omega, rfl⟩
  case round =>
    obtain ⟨q, j, rfl, rfl, hj, hq, HQ⟩ := hrel
    by_cases hc : j < k
    · have hq4 : q * 4 ≤ 64 := by
        have := pow4_le (k := j + 1) (by omega)
        rw [Nat.pow_succ] at this
        rw [HQ.out]; exact this
      go_wp2_with fail
      go_round
      case rel => exact ⟨q * 4, j + 1, by go_num, by go_num, by omega, hq4, by show _ = _; rw [HQ.out, Nat.pow_succ]⟩
      case measure => simp [intOf]; omega
    · obtain rfl : j = k := by omega
      go_wp2_with fail
      go_loopw [4, 17] (fun v x wr => ∃ j' : Nat, x = .int .i64 j' ∧ j' ≤ m ∧ Hid (OwnN (w.alloc (.cells #[.int .i64 j, .int .i64 i, .int .i64 m] 36)) wr v (sumsT xs j i j')) ∧ Ext (w.alloc (.cells #[.int .i64 j, .int .i64 i, .int .i64 m] 36)) wr) (fun _ x _ => m - (intOf x).toNat)
      case atStart => exact ⟨0, rfl, Nat.zero_le _, own_nil _ _ _ _, by (repeat (with_reducible first | exact Ext.refl _ | assumption | refine Ext.drew ?_ | refine Ext.drewN ?_ _ | refine Ext.alloc ?_ _ | refine Ext.trans ?_ (by with_reducible assumption)))⟩
      case round =>
        obtain ⟨j', rfl, hj', hown, hbw⟩ := hrel
        by_cases hc2 : j' < m
        · have hfit := fits hf hc2
          have HS : Hid (sumsT xs j i (j' + 1) = sumsT xs j i j' ++ [ofL ((xs.take ((i * 4 + j') * 4 ^ j + 4 ^ j)).drop ((i * 4 + j') * 4 ^ j))]) := sumsT_snoc _ _ _ _
          have e1 : ((i : Int) * 4 + (j' : Int)) * (q : Int) = (((i * 4 + j') * 4 ^ j : Nat) : Int) := by rw [HQ.out]; push_cast; rfl
          rw [← HQ.out] at hfit HS e1
          have hlen := sumsT_len xs j i j'
          have hq1 : 1 ≤ q := by rw [HQ.out]; exact Nat.one_le_pow _ _ (by omega)
          have r1 : wr.cell? ⟨w.heap.size, 1, none⟩ = some (.int .i64 i) := (Ext.cell (p := ⟨w.heap.size, 1, none⟩) hbw (by simp)).trans q1
          generalize (i * 4 + j') * q = f at *
          generalize sumsT xs j i j' = L at *
          have hcf : c ≠ f := by omega
          have hR := Rd_part (hr.ext ((Ext.alloc (Ext.refl w) (.cells #[.int .i64 j, .int .i64 i, .int .i64 m] 36)).trans hbw)) (i := f) (j := f + q) (by omega) (by omega)
          rw [if_neg hcf, Nat.add_sub_cancel_left] at hR
          have hva := allV_drop (allV_take hk.2 (f + q)) f
          have f1 : (0 : Int) ≤ (f : Int) := by omega
          have f2 : (f : Int) + (q : Int) ≤ (c : Int) := by omega
          have f3 : (f : Int) ≤ (c : Int) := by omega
          have f4 : (f : Int) ≤ (f : Int) + (q : Int) := by omega
          have f5 : f + q ≤ 200 := by omega
          have f6 : (f : Int) + (q : Int) - (f : Int) = (q : Int) := by omega
          have hbw0 : w.heap.size ≤ wr.heap.size := by have := hbw.size; simp at this; omega
          go_wp2_with fail
          refine (Of_any q _ q (c - f) _ _ (Nat.le_refl _) hR (by omega) (by omega) hva).mono ?_
          rintro e w1 ⟨rfl, hb1⟩
          generalize ofL ((xs.take (f + q)).drop f) = z at *
          have hl2 : L.length ≤ 4 := by omega
          have hbw1 := hb1.size
          clear hlen
          go_wp2_with (at_builtin; refine wpl_app (by rfl) _ _ _ (by rfl) (w.alloc (.cells #[.int .i64 j, .int .i64 i, .int .i64 m] 36)).heap.size 3 i0 _ 1 8 Tryz.underlying24 hi0 hz0 hz1 hz2 rfl (by omega) u4 _ _ (by rfl) ((own_ext hown.out hb1).alloc _) w1.heap.size 1 [.int .i64 z] rfl (by rfl) (news_new w1 _ _ _ rfl) (oneN _) (by omega) (by omega) (by have := hbw.size; simp at this ⊢; omega) ?_; intro g cap w3 own3 hext3)
          go_roundw
          case rel => exact ⟨j' + 1, by go_num, by omega, OwnN.mk own3 (by rw [HS.out]; simp) (by rw [HS.out]; simp), hext3 _ (Nat.le_refl _) (by (repeat (with_reducible first | exact Ext.refl _ | assumption | refine Ext.drew ?_ | refine Ext.drewN ?_ _ | refine Ext.alloc ?_ _ | refine Ext.trans ?_ (by with_reducible assumption))))⟩
          case measure => simp [intOf]; omega
        · obtain rfl : j' = m := by omega
          go_wp2_with fail
          go_ret
          exact ⟨⟨_, rfl, own_lower hown.out (by simp)⟩, by (repeat (with_reducible first | exact Ext.refl _ | assumption | refine Ext.drew ?_ | refine Ext.drewN ?_ _ | refine Ext.alloc ?_ _ | refine Ext.trans ?_ (by with_reducible assumption)))⟩
end Go.Proofs.YtfccbjfiionepaaGreatDoor

namespace Go.Proofs.YtfccbjfiionepaaGreatDoor
open Go.RowKit
set_option linter.unusedVariables false

theorem allT_mem (s : Nat) : ∀ (K : Nat) (t : Tl), t ∈ allT s K → ∃ k i m : Nat, k < K ∧ t = ⟨(k : Int), (i : Int), (m : Int)⟩ ∧ 1 ≤ m ∧ m ≤ 4 ∧ i * 4 + m ≤ s / 4 ^ k
  | 0, t, h => by simp [allT] at h
  | K + 1, t, h => by
    rw [allT, List.mem_append] at h
    rcases h with h | h
    · obtain ⟨k, i, m, h1, h2⟩ := allT_mem s K t h
      exact ⟨k, i, m, by omega, h2⟩
    · unfold tilesAt at h
      rw [List.mem_map] at h
      obtain ⟨i, hi, rfl⟩ := h
      rw [List.mem_range] at hi
      obtain ⟨q, hq⟩ : ∃ q, q = s / 4 ^ K := ⟨_, rfl⟩
      rw [← hq] at hi ⊢
      refine ⟨K, i, min 4 (q - 4 * i), by omega, ?_, by omega, by omega, by rw [← hq]; omega⟩
      unfold tileAt
      congr 1
      omega
theorem Rd.getT {w : World} {A : Option Addr} {n c : Nat} {ts : List Tl} (h : Rd w 3 A n c (ts.flatMap Tl.cells)) {j : Nat} {t : Tl} (he : ts[j]? = some t) :
    ∃ ad, A = some ad ∧ ad.block < w.heap.size ∧ w.cell? (ad.add (j * 3)) = some (.int .i64 t.level) ∧ w.cell? ⟨(ad.add (j * 3)).block, (ad.add (j * 3)).off + 1, none⟩ = some (.int .i64 t.index) ∧ w.cell? ⟨(ad.add (j * 3)).block, (ad.add (j * 3)).off + 2, none⟩ = some (.int .i64 t.wide) := by
  have h0 := flat_nth (f := Tl.cells) (k := 3) (fun _ => rfl) ts j t 0 he (by omega)
  have h1 := flat_nth (f := Tl.cells) (k := 3) (fun _ => rfl) ts j t 1 he (by omega)
  have h2 := flat_nth (f := Tl.cells) (k := 3) (fun _ => rfl) ts j t 2 he (by omega)
  obtain ⟨ad, e1, hb, hc0⟩ := h.at_ h0
  obtain ⟨ad', e2, _, hc1⟩ := h.at_ h1
  obtain ⟨ad'', e3, _, hc2⟩ := h.at_ h2
  rw [e1] at e2 e3
  obtain rfl : ad = ad' := by injection e2
  obtain rfl : ad = ad'' := by injection e3
  rw [← add_add'] at hc1 hc2
  exact ⟨ad, e1, hb, hc0, hc1, hc2⟩
end Go.Proofs.YtfccbjfiionepaaGreatDoor

namespace Go.Proofs.YtfccbjfiionepaaGreatDoor
open Go.RowKit Go.WideShapes
set_option linter.unusedVariables false
attribute [local go_sem ↓] Go.wp_at_zero Go.wp_at_succ

set_option maxRecDepth 100000 in
theorem TSums_ok (A : Option Addr) (n c : Nat) (xs : List Int) (k i m : Nat) (w : World) (hr : Rd w 1 A n c (xs.map (Value.int .i64))) (hm : c ≤ maxLen) (hk : leafsOk xs) (hk3 : k ≤ 3) (h1 : 1 ≤ m) (hm4 : m ≤ 4) (hf : i * 4 + m ≤ n / 4 ^ k) :
    Calls Tryz.prog 13 #[.slice A n c, .agg #[.int .i64 k, .int .i64 i, .int .i64 m]] w fun e w' => (∃ v, e = .returned (.tuple #[v, .nilIface]) ∧ OwnN w w' v (sumsT xs k i m)) ∧ Ext w w' := by
  have hx := hr.lenI
  have hn : n ≤ 200 := by have := hk.1; omega
  have hq := div4_le n k
  have HK := Lib.hid hk
  have HM := Lib.hid fun W => many_any n k W hn (by omega)
  have HF := Lib.hid hf
  generalize n / 4 ^ k = q at hf hq HM
  clear hx hk
  have B0 : Bk (w.alloc (.cells #[.int .i64 k, .int .i64 i, .int .i64 m] 36)) w.heap.size 36 #[.int .i64 k, .int .i64 i, .int .i64 m] := Bk.at_ _ _ _ _ rfl
  have q0 := B0.cell 0
  have q1 := B0.cell 1
  have q2 := B0.cell 2
  have e1 : (i : Int) ≤ (q : Int) := by omega
  have e2 : (i : Int) * 4 + (m : Int) ≤ (q : Int) := by omega
  have e3 : (i : Int) ≤ 200 := by omega
  go_enter Tryz.func13, Tryz.ntmps13
  go_wp2_with fail
  refine (TCheck_ok A n c xs _ (hr.ext (by (repeat (with_reducible first | exact Ext.refl _ | assumption | refine Ext.drew ?_ | refine Ext.drewN ?_ _ | refine Ext.alloc ?_ _ | refine Ext.trans ?_ (by with_reducible assumption))))) hm hn HK.out.2).mono ?_
  rintro e w' ⟨rfl, rfl⟩
  go_wp2_with fail
  refine (HM.out _).mono ?_
  rintro e w' ⟨rfl, rfl⟩
  go_wp2_with fail
  refine (SumsOf_any A n c xs k i m _ (hr.ext (by (repeat (with_reducible first | exact Ext.refl _ | assumption | refine Ext.drew ?_ | refine Ext.drewN ?_ _ | refine Ext.alloc ?_ _ | refine Ext.trans ?_ (by with_reducible assumption))))) hm HK.out hk3 hm4 HF.out).mono ?_
  rintro e w1 ⟨⟨v, rfl, hv⟩, hb1⟩
  go_wp2_with fail
  go_ret2
  exact ⟨⟨_, rfl, own_lower hv (by simp)⟩, by (repeat (with_reducible first | exact Ext.refl _ | assumption | refine Ext.drew ?_ | refine Ext.drewN ?_ _ | refine Ext.alloc ?_ _ | refine Ext.trans ?_ (by with_reducible assumption)))⟩

set_option maxRecDepth 100000 in
theorem TSums_none (A : Option Addr) (n c : Nat) (xs : List Int) (k i m : Nat) (w : World) (hr : Rd w 1 A n c (xs.map (Value.int .i64))) (hm : c ≤ maxLen) (hk : leafsOk xs) (hk3 : k ≤ 3) (h1 : 1 ≤ m) (hm4 : m ≤ 4) (hf : n / 4 ^ k < i * 4 + m) :
    Calls Tryz.prog 13 #[.slice A n c, .agg #[.int .i64 k, .int .i64 i, .int .i64 m]] w fun e w' => e = .returned (.tuple #[.slice none 0 0, errV 5]) ∧ Ext w w' := by
  have hx := hr.lenI
  have hn : n ≤ 200 := by have := hk.1; omega
  have hq := div4_le n k
  have HK := Lib.hid hk
  have HM := Lib.hid fun W => many_any n k W hn (by omega)
  generalize n / 4 ^ k = q at *
  clear hx hk
  have B0 : Bk (w.alloc (.cells #[.int .i64 k, .int .i64 i, .int .i64 m] 36)) w.heap.size 36 #[.int .i64 k, .int .i64 i, .int .i64 m] := Bk.at_ _ _ _ _ rfl
  have q0 := B0.cell 0
  have q1 := B0.cell 1
  have q2 := B0.cell 2
  by_cases hi : i ≤ q
  · have e1 : (i : Int) ≤ (q : Int) := by omega
    have e2 : (q : Int) < (i : Int) * 4 + (m : Int) := by omega
    have e3 : (i : Int) ≤ 200 := by omega
    clear hf
    go_enter Tryz.func13, Tryz.ntmps13
    go_wp2_with fail
    refine (TCheck_ok A n c xs _ (hr.ext (by (repeat (with_reducible first | exact Ext.refl _ | assumption | refine Ext.drew ?_ | refine Ext.drewN ?_ _ | refine Ext.alloc ?_ _ | refine Ext.trans ?_ (by with_reducible assumption))))) hm hn HK.out.2).mono ?_
    rintro e w' ⟨rfl, rfl⟩
    go_wp2_with fail
    refine (HM.out _).mono ?_
    rintro e w' ⟨rfl, rfl⟩
    go_wp2_with fail
    go_ret2
    exact ⟨rfl, by (repeat (with_reducible first | exact Ext.refl _ | assumption | refine Ext.drew ?_ | refine Ext.drewN ?_ _ | refine Ext.alloc ?_ _ | refine Ext.trans ?_ (by with_reducible assumption)))⟩
  · have e1 : (q : Int) < (i : Int) := by omega
    clear hf hi
    go_enter Tryz.func13, Tryz.ntmps13
    go_wp2_with fail
    refine (TCheck_ok A n c xs _ (hr.ext (by (repeat (with_reducible first | exact Ext.refl _ | assumption | refine Ext.drew ?_ | refine Ext.drewN ?_ _ | refine Ext.alloc ?_ _ | refine Ext.trans ?_ (by with_reducible assumption))))) hm hn HK.out.2).mono ?_
    rintro e w' ⟨rfl, rfl⟩
    go_wp2_with fail
    refine (HM.out _).mono ?_
    rintro e w' ⟨rfl, rfl⟩
    go_wp2_with fail
    go_ret2
    exact ⟨rfl, by (repeat (with_reducible first | exact Ext.refl _ | assumption | refine Ext.drew ?_ | refine Ext.drewN ?_ _ | refine Ext.alloc ?_ _ | refine Ext.trans ?_ (by with_reducible assumption)))⟩

set_option maxRecDepth 100000 in
theorem TSums_range (A : Option Addr) (n c : Nat) (xs : List Int) (k i m : Int) (w : World) (hr : Rd w 1 A n c (xs.map (Value.int .i64))) (hm : c ≤ maxLen) (hk : leafsOk xs) (h : ¬ (0 ≤ k ∧ k ≤ 3 ∧ 0 ≤ i ∧ 1 ≤ m ∧ m ≤ 4)) :
    Calls Tryz.prog 13 #[.slice A n c, .agg #[.int .i64 k, .int .i64 i, .int .i64 m]] w fun e w' => e = .returned (.tuple #[.slice none 0 0, errV 1]) ∧ Ext w w' := by
  have hx := hr.lenI
  have hn : n ≤ 200 := by have := hk.1; omega
  have HK := Lib.hid hk
  clear hx hk
  have B0 : Bk (w.alloc (.cells #[.int .i64 k, .int .i64 i, .int .i64 m] 36)) w.heap.size 36 #[.int .i64 k, .int .i64 i, .int .i64 m] := Bk.at_ _ _ _ _ rfl
  have q0 := B0.cell 0
  have q1 := B0.cell 1
  have q2 := B0.cell 2
  have h' : k < 0 ∨ (0 ≤ k ∧ 4 ≤ k) ∨ (0 ≤ k ∧ k < 4 ∧ i < 0) ∨ (0 ≤ k ∧ k < 4 ∧ 0 ≤ i ∧ m < 1) ∨ (0 ≤ k ∧ k < 4 ∧ 0 ≤ i ∧ 1 ≤ m ∧ 4 < m) := by omega
  clear h
  rcases h' with h | ⟨h, h1⟩ | ⟨h, h1, h2⟩ | ⟨h, h1, h2, h3⟩ | ⟨h, h1, h2, h3, h4⟩
  all_goals
    go_enter Tryz.func13, Tryz.ntmps13
    go_wp2_with fail
    refine (TCheck_ok A n c xs _ (hr.ext (by (repeat (with_reducible first | exact Ext.refl _ | assumption | refine Ext.drew ?_ | refine Ext.drewN ?_ _ | refine Ext.alloc ?_ _ | refine Ext.trans ?_ (by with_reducible assumption))))) hm hn HK.out.2).mono ?_
    rintro e w' ⟨rfl, rfl⟩
    go_wp2_with fail
    go_ret2
    exact ⟨rfl, by (repeat (with_reducible first | exact Ext.refl _ | assumption | refine Ext.drew ?_ | refine Ext.drewN ?_ _ | refine Ext.alloc ?_ _ | refine Ext.trans ?_ (by with_reducible assumption)))⟩

set_option maxRecDepth 100000 in
theorem TSums_bad (A : Option Addr) (n c : Nat) (xs : List Int) (k i m : Int) (w : World) (hr : Rd w 1 A n c (xs.map (Value.int .i64))) (hm : c ≤ maxLen) (hk : ¬ leafsOk xs) :
    Calls Tryz.prog 13 #[.slice A n c, .agg #[.int .i64 k, .int .i64 i, .int .i64 m]] w fun e w' => e = .returned (.tuple #[.slice none 0 0, errV (leafsErr xs)]) ∧ Ext w w' := by
  go_enter Tryz.func13, Tryz.ntmps13
  go_wp2_with fail
  refine (TCheck_bad A n c xs _ (hr.ext (by (repeat (with_reducible first | exact Ext.refl _ | assumption | refine Ext.drew ?_ | refine Ext.drewN ?_ _ | refine Ext.alloc ?_ _ | refine Ext.trans ?_ (by with_reducible assumption))))) hm hk).mono ?_
  rintro e w' ⟨rfl, rfl⟩
  simp only [errV]
  go_wp2_with fail
  go_ret2
  exact ⟨rfl, by (repeat (with_reducible first | exact Ext.refl _ | assumption | refine Ext.drew ?_ | refine Ext.drewN ?_ _ | refine Ext.alloc ?_ _ | refine Ext.trans ?_ (by with_reducible assumption)))⟩

/-! ### tile.Where -/
end Go.Proofs.YtfccbjfiionepaaGreatDoor
