/- Lines of a text, as strings.Lines hands them: plain. -/
import Derived.Test.YtnphbkjkeipmmaaGreatDoorJRunBegins20
import Derived.Lib.Strings
import Derived.RangeFuncNested
import Derived.RangeFuncFrom
import Derived.RangeFuncCalls
import Derived.RangeFuncLeaves
import Derived.Shelf.Abstract
import Derived.Shelf.RegionOpen
import Derived.WalkKit
import Derived.OwnWalkIn
import Derived.TacticsInMore
import Derived.LoopNIn
import Derived.LoopIn
import Derived.Test.YtnphbkjkeipmmaaGreatDoorJRunBegins9
import Derived.Test.YtnphbkjkeipmmaaGreatDoorJRunBegins22
import Derived.Lib.OthersKept
import Derived.RangeFuncKeeps
namespace Go.Proofs.YtnphbkjkeipmmaaGreatDoor
open Go.RowKit
set_option linter.unusedVariables false

/-- what was handed so far, and what is left -/
inductive Raw (t : List UInt8) : List (List UInt8) → List UInt8 → Prop
  | zero : Raw t [] t
  | hit {pre : List (List UInt8)} {d r : List UInt8} : Raw t pre (d ++ 10 :: r) → (∀ b ∈ d, b ≠ 10) → Raw t (pre ++ [d ++ [10]]) r
  | last {pre : List (List UInt8)} {d : List UInt8} : Raw t pre d → d ≠ [] → (∀ b ∈ d, b ≠ 10) → Raw t (pre ++ [d]) []
def trimL (l : List UInt8) : List UInt8 := Lib.trimSuffix l [10]
theorem trim_hit (d : List UInt8) : trimL (d ++ [10]) = d := by
  unfold trimL Lib.trimSuffix Lib.hasSuffix
  rw [if_pos (by rw [List.isSuffixOf_iff_suffix]; exact List.suffix_append d [10])]
  simp
theorem trim_miss {d : List UInt8} (h : ∀ b ∈ d, b ≠ 10) : trimL d = d := by
  unfold trimL Lib.trimSuffix Lib.hasSuffix
  rw [if_neg]
  rw [List.isSuffixOf_iff_suffix]
  rintro ⟨a, rfl⟩
  exact h 10 (by simp) rfl
theorem raw_lines {t : List UInt8} {pre : List (List UInt8)} {r : List UInt8} (h : Raw t pre r) : linesL t = pre.map trimL ++ linesL r := by
  induction h with
  | zero => rfl
  | hit h hd ih => rw [ih, linesL_cons hd, List.map_append, List.map_singleton, trim_hit]; simp
  | last h hne hd ih => rw [ih, linesL_one hd hne, List.map_append, List.map_singleton, trim_miss hd, linesL_nil]; simp
theorem raw_len {t : List UInt8} {pre : List (List UInt8)} {r : List UInt8} (h : Raw t pre r) : pre.length + r.length ≤ t.length ∧ ∀ l ∈ pre, l.length ≤ t.length := by
  induction h with
  | zero => exact ⟨by simp, fun l hl => by cases hl⟩
  | @hit pre d r h hd ih =>
    obtain ⟨h1, h2⟩ := ih
    simp at h1
    refine ⟨by simp; omega, fun l hl => ?_⟩
    rcases List.mem_append.1 hl with hl | hl
    · exact h2 l hl
    · simp at hl; subst hl; simp; omega
  | @last pre d h hne hd ih =>
    obtain ⟨h1, h2⟩ := ih
    have : d.length ≠ 0 := by simpa using hne
    refine ⟨by simp; omega, fun l hl => ?_⟩
    rcases List.mem_append.1 hl with hl | hl
    · exact h2 l hl
    · simp at hl; subst hl; omega
theorem raw_all {t : List UInt8} {pre : List (List UInt8)} (h : Raw t pre []) : pre.map trimL = linesL t := by rw [raw_lines h, linesL_nil, List.append_nil]
theorem playD_snoc (d : Dk) (out : ByteArray) (a : List (List UInt8)) (l : List UInt8) : playD d out (a ++ [l]) = (nextD (playD d out a).1 (baS l), (playD d out a).2 ++ ansD (playD d out a).1 (baS l) ++ nlT) := by
  rw [playD_app]
  rfl
end Go.Proofs.YtnphbkjkeipmmaaGreatDoor

/- A range over strings.Lines. -/
namespace Go.Proofs.YtnphbkjkeipmmaaGreatDoor
open Go.RowKit Go.Shelf
set_option linter.unusedVariables false
attribute [local go_sem] Oper.semAt_some

/-- a range over a function that writes one cell of its own; the body is left at its end alone -/
theorem range_cells {α : Type} {P : Program} {n : Nat} {g : Operand} {ps : Array Tmp} {assign body : Code} {Q : Exit → Act → World → Prop} {a : Act} {w : World} (h1 : 1 ≤ n)
    {gf : Nat} {lb : Array Value} (hg : a.eval g = .func (.func gf) #[] lb) (eg : ∀ args w, (callFunc gf args).run P w = .ok (.enter gf args) w) {encs : α → Array Value} {sb : Nat} (hsb : sb < w.heap.size) {Kp : World → World → Prop} {S : List α → Prop} {N : Nat} {C : World → Prop}
    (hit : ∀ (l : Nat) (J : List α → World → Prop) (W : World), Below w.heap.size w W → (∀ s A B, J s A → A.grownBy B (some sb) → C B → J s B) →
      (∀ pre x W1, J pre W1 → pre.length < N → YieldAt Fence.wide (n - 1 - 1) P l (encs x) W1 fun e W' => e = .returned (.bool true) ∧ J (pre ++ [x]) W' ∧ Kp W1 W') → J [] W →
      CallsIn Fence.wide (n - 1) P gf (#[.func (.yield l) #[] #[]] ++ lb) W fun e W' => (∃ v, e = .returned v) ∧ ∃ xs, S xs ∧ J xs W')
    (hKt : ∀ {A B C : World}, Kp A B → Kp B C → Kp A C) (hKb : ∀ (W : World) (l : Nat) (o o' : Obj), w.heap.size ≤ l → W.heap[l]? = some o → o.isCells = false → o.isWalk = false → Kp W (W.putObj l o')) (hps : ∀ x, (encs x).size = ps.size)
    (I : List α → World → Prop) (hI : OwnFrom w.heap.size I) (hIc : ∀ s A B, I s A → A.grownBy B (some sb) → C B → I s B) (h0 : I [] w) (a₁ : α → Act)
    (hassign : ∀ (l : Nat) (x : α) (W : World) (K : Act → World → Prop), K (a₁ x) W →
      assign.wpIn (Fence.wide.inRound l) (n - 1 - 1) P (Exit.then K (fun _ _ _ => False)) { tmps := (ps.zip (encs x)).foldl (fun t (p, v) => t.setIfInBounds p v) a.tmps, defers := [] } W)
    (hbody : ∀ (l : Nat) (pre : List α) (x : α) (W : World), I pre W → pre.length < N → body.wpIn (Fence.wide.inRound l) (n - 1 - 1) P (fun e _ W' => e = .normal ∧ KeepsOthers W W' ∧ Kp W W' ∧ I (pre ++ [x]) W') (a₁ x) W)
    (hdone : ∀ (D : Nat) (xs : List α) (W : World), w.heap.size ≤ D → S xs → I xs W → W.heap[D]? = some (.deferred (some [])) → Q .normal { a with defers := { target := .collected D, args := #[] } :: a.defers } W) :
    (Code.rangeFunc g ps assign body).wpIn Fence.wide n P Q a w := by
  refine wpIn_rangeFunc fun fn hfn => ?_
  have mk : ∃ rec : LoopState → Option Code → Loop, ∀ st pe, rec st pe = { state := st, pending := pe, fn, tmps := a.tmps, params := ps, assign, body, defers := w.heap.size } := ⟨_, fun _ _ => rfl⟩
  obtain ⟨rec, hrec⟩ := mk
  obtain ⟨W1, hW1⟩ : ∃ W1, (w.alloc (.deferred (some []))).alloc (.loop (rec .ready none)) = W1 := ⟨_, rfl⟩
  have sz : W1.heap.size = w.heap.size + 1 + 1 := by rw [← hW1, World.size_alloc, World.size_alloc]
  have lay : W1.heap[w.heap.size + 1]? = some (.loop (rec .ready none)) ∧ W1.heap[w.heap.size]? = some (.deferred (some [])) := by
    rw [← hW1]
    constructor
    · have := World.alloc_heap_new (w.alloc (.deferred (some []))) (.loop (rec .ready none))
      rwa [World.size_alloc] at this
    · exact (Below.heap_alloc _ _ _ (by simp)).trans (World.alloc_heap_new w _)
  have first : I [] W1 := by rw [← hW1]; exact hI.alloc _ (hI.alloc _ h0)
  have bel : Below w.heap.size w W1 := by rw [← hW1]; exact (((Below.refl _ w).alloc (Nat.le_refl _) _).alloc (by simp) _)
  refine ⟨w.heap.size + 1, [{ target := .collected w.heap.size, args := #[] }], W1, { target := .fn (.func gf) lb, args := #[.func (.yield (w.heap.size + 1)) #[] #[]] }, W1, gf, #[.func (.yield (w.heap.size + 1)) #[] #[]] ++ lb, W1, ?_, ?_, fun f' hf' => trivial, ?_, fun _ => h1, ?_⟩
  · rw [← hW1, hrec]
    exact run_enterLoop_outer _ _ _ _ _
  · simp only [resolve, hg]
    simp [go_sem]
  · simp [invoke, go_sem, eg]
  refine (hit (w.heap.size + 1) (fun pre W => I pre W ∧ W.heap[w.heap.size + 1]? = some (.loop (rec .ready none)) ∧ W.heap[w.heap.size]? = some (.deferred (some []))) W1 bel ?_ ?_ ⟨first, lay⟩).mono ?_
  · rintro s A B ⟨hi, hl, hk⟩ hgb hcb
    refine ⟨hIc s A B hi hgb hcb, (hgb.block _ (Array.getElem?_eq_some_iff.1 hl).1 (fun e => ?_)).trans hl, (hgb.block _ (Array.getElem?_eq_some_iff.1 hk).1 (fun e => ?_)).trans hk⟩
    · injection e with e; omega
    · injection e with e; omega
  · rintro pre x W ⟨hi, hl, hk⟩ hlen
    have hlt : w.heap.size + 1 < W.heap.size := (Array.getElem?_eq_some_iff.1 hl).1
    have hy := run_yield (P := P) (args := encs x) hl (by rw [hrec]; exact hps x)
    rw [hrec] at hy
    refine ⟨fn, _, assign, body, hy, roundIn_of_wpIn hfn (hassign _ x W _ ⟨_, run_beginRound hl (by rw [hrec]), ?_⟩)⟩
    have busy : (W.putObj (w.heap.size + 1) (.loop { rec .ready none with state := .busy })).heap[w.heap.size + 1]? = some (.loop { rec .ready none with state := .busy }) := World.putObj_heap_same hlt
    have dfr : (W.putObj (w.heap.size + 1) (.loop { rec .ready none with state := .busy })).heap[w.heap.size]? = some (.deferred (some [])) := (World.putObj_heap_other (by omega)).trans hk
    have kp0 : Kp W (W.putObj (w.heap.size + 1) (.loop { rec .ready none with state := .busy })) := hKb _ _ _ _ (by omega) hl rfl rfl
    refine wpIn_mono (hbody _ pre x _ (hI.putObj _ hi (by omega) hl rfl) hlen) ?_
    rintro e a3 W3 ⟨rfl, hk3, hkp3, hi3⟩
    have hl3 := hk3.same _ _ busy rfl
    have er := run_endRound (P := P) none hl3
    refine ⟨_, _, er, rfl, ⟨hI.putObj _ hi3 (by omega) hl3 rfl, ?_, (World.putObj_heap_other (by omega)).trans (hk3.same _ _ dfr rfl)⟩, hKt (hKt kp0 hkp3) (hKb _ _ _ _ (by omega) hl3 rfl rfl)⟩
    have := World.putObj_heap_same (o := .loop { ({ rec .ready none with state := .busy } : Loop) with state := if (none : Option Code).isNone then .ready else .done, pending := none }) (Array.getElem?_eq_some_iff.1 hl3).1
    rw [this]
    simp [hrec]
  · rintro e W2 ⟨⟨v, rfl⟩, xs, hS, hi, hl, hk⟩
    have el := run_endLoop (P := P) hl (by rw [hrec]; simp)
    have ep : (rec .ready none).pending = none := by rw [hrec]
    rw [ep] at el
    exact ⟨none, _, el, hdone _ xs _ (Nat.le_refl _) hS (hI.putObj _ hi (by omega) hl rfl) ((World.putObj_heap_other (by omega)).trans hk)⟩

/-! ### strings.Lines -/
/-- a line, with its end -/
abbrev RB := { x : ByteArray // x.size ≤ 3000 }
def rawOf (pre : List RB) : List (List UInt8) := pre.map fun x => x.1.data.toList
theorem rawOf_snoc (pre : List RB) (x : RB) : rawOf (pre ++ [x]) = rawOf pre ++ [x.1.data.toList] := by simp [rawOf]
theorem rawOf_len (pre : List RB) : (rawOf pre).length = pre.length := by simp [rawOf]
def KpS (sb : Nat) (W W' : World) : Prop := ∀ v, W.heap[sb]? = some (.cells #[v] 9) → W'.heap[sb]? = some (.cells #[v] 9)
theorem idx_hit (c : UInt8) : ∀ (d t : List UInt8), (∀ b ∈ d, b ≠ c) → Lib.indexByte (d ++ c :: t) c = d.length
  | [], t, _ => by
    rw [List.nil_append, Lib.indexByte, if_pos (by simp)]
    rfl
  | b :: d, t, h => by
    have ih := idx_hit c d t (fun x hx => h x (List.mem_cons_of_mem _ hx))
    have hb := h b (List.mem_cons_self ..)
    rw [List.cons_append, Lib.indexByte, if_neg (by simpa using hb), ih, if_neg (by simp)]
    simp
theorem idx_none (c : UInt8) : ∀ (d : List UInt8), (∀ b ∈ d, b ≠ c) → Lib.indexByte d c = -1
  | [], _ => rfl
  | b :: d, h => by
    have ih := idx_none c d (fun x hx => h x (List.mem_cons_of_mem _ hx))
    have hb := h b (List.mem_cons_self ..)
    rw [Lib.indexByte, if_neg (by simpa using hb), ih]
    rfl
def cellLen (o : Option Value) : Nat := match o with
  | some (.string s) => s.size
  | _ => 0
set_option maxRecDepth 100000 in
set_option maxHeartbeats 2000000 in
theorem lines1_in (n : Nat) (hn : 1 ≤ n) (l sb : Nat) (t : List UInt8) (ht : t.length ≤ 3000) (J : List RB → World → Prop) (hJ : ∀ s A B, J s A → A.grownBy B (some sb) → (∃ v, B.heap[sb]? = some (.cells #[v] 9)) → J s B)
    (hY : ∀ (pre : List RB) (x : RB) W1, J pre W1 → pre.length < t.length → YieldAt Fence.wide (n - 1) Tryz.prog l #[.string x.1] W1 fun e W' => e = .returned (.bool true) ∧ J (pre ++ [x]) W' ∧ KpS sb W1 W')
    (W : World) (hs : W.heap[sb]? = some (.cells #[.string ⟨t.toArray⟩] 9)) (h0 : J [] W) :
    CallsIn Fence.wide n Tryz.prog 28 #[.func (.yield l) #[] #[], .pointer (some ⟨sb, 0, none⟩)] W fun e W' => (∃ v, e = .returned v) ∧ ∃ xs, Raw t (rawOf xs) [] ∧ J xs W' := by
  refine callsIn_of_wp Tryz.func28 rfl trivial ?_ rfl
  simp only [Tryz.ntmps28, List.size_toArray, List.length_cons, List.length_nil, Nat.reduceAdd, Nat.reduceSub, Array.replicate_succ, Array.replicate_zero, List.push_toArray, List.append_toArray, List.nil_append, List.cons_append]
  gi_wp2
  gi_loopw [3] (fun i wr => ∃ (pre : List RB) (r : List UInt8), Hid (Raw t (rawOf pre) r) ∧ Hid (J pre wr) ∧ Hid (wr.heap[sb]? = some (.cells #[.string ⟨r.toArray⟩] 9)))
    (fun i wr => cellLen (wr.cell? ⟨sb, 0, none⟩))
  case atStart => exact ⟨[], t, Lib.hid Raw.zero, Lib.hid h0, Lib.hid hs⟩
  case round =>
    obtain ⟨pre, r, HRW, HJ, HS⟩ := hrel
    obtain ⟨S, hS⟩ : ∃ S : ByteArray, (⟨r.toArray⟩ : ByteArray) = S := ⟨_, rfl⟩
    have hSl : S.data.toList = r := by rw [← hS]
    have hsz : S.size = r.length := by rw [← hSl]; rfl
    have hcs : wr.cell? ⟨sb, 0, none⟩ = some (.string S) := by rw [← hS]; exact Bk.cell HS.out 0
    have hfz : wr.frozen? ⟨sb, 0, none⟩ = false := Bk.frozen HS.out 0
    have hrl := (raw_len HRW.out).1
    rw [rawOf_len] at hrl
    by_cases hr0 : r = []
    · subst hr0
      have hs0 : S.size = 0 := hsz
      gi_wp2
      go_end0
      exact ⟨⟨_, rfl⟩, pre, HRW.out, HJ.out⟩
    · have hrp : 0 < r.length := by
        rcases Nat.eq_zero_or_pos r.length with e | e
        · exact absurd (List.eq_nil_of_length_eq_zero e) hr0
        · exact e
      have hsp : (0 : Int) < (S.size : Int) := by omega
      have HIX := Lib.hid fun W => Tryz.strings_IndexByte S 10 W
      rcases cut_ways 10 r with hno | ⟨d, r', hst, hd⟩
      · have hix : Lib.indexByte S.data.toList (10 : Int).toNat.toUInt8 = -1 := by rw [hSl]; exact idx_none 10 r hno
        rw [hix] at HIX
        have HW4 := Lib.hid (gb_set wr sb 0 (.string ⟨#[]⟩))
        have HS4 : Hid ((wr.setCell ⟨sb, 0, none⟩ (.string ⟨#[]⟩)).heap[sb]? = some (.cells #[.string ⟨([] : List UInt8).toArray⟩] 9)) := Lib.hid (Bk.set_ HS.out 0 _)
        have HJ4 := Lib.hid (hJ _ _ _ HJ.out HW4.out ⟨_, HS4.out⟩)
        have HRN : Hid (Raw t (rawOf (pre ++ [⟨S, by omega⟩])) []) := Lib.hid (by rw [rawOf_snoc]; show Raw t (rawOf pre ++ [S.data.toList]) []; rw [hSl]; exact Raw.last HRW.out hr0 hno)
        have hme : cellLen (wr.cell? ⟨sb, 0, none⟩) = S.size := by rw [hcs]; rfl
        clear hno
        gi_wp2
        refine ⟨trivial, ?_⟩
        refine (callsIn_wide.2 (HIX.out wr)).mono ?_
        rintro _ W2 ⟨rfl, e2⟩
        obtain rfl : wr = W2 := e2.symm
        obtain ⟨fn, tmps, assign, body, hy, hR⟩ := hY pre ⟨S, by omega⟩ (wr.setCell ⟨sb, 0, none⟩ (.string ⟨#[]⟩)) HJ4.out (by omega)
        gi_wp2
        refine hR.mono ?_
        rintro e W3 ⟨rfl, hJ3, hk3⟩
        have hs3 := hk3 _ HS4.out
        gi_wp2
        go_roundw
        case rel => exact ⟨_, _, HRN, Lib.hid hJ3, Lib.hid hs3⟩
        case measure =>
          rw [hme, show W3.cell? ⟨sb, 0, none⟩ = some (.string ⟨#[]⟩) from Bk.cell hs3 0]
          show 0 < S.size
          omega
      · have hix : Lib.indexByte S.data.toList (10 : Int).toNat.toUInt8 = (d.length : Nat) := by rw [hSl, hst]; exact idx_hit 10 d r' hd
        rw [hix] at HIX
        obtain ⟨k, hk⟩ : ∃ k, d.length = k := ⟨_, rfl⟩
        rw [hk] at HIX
        have hlen : r.length = k + 1 + r'.length := by rw [hst, List.length_append, List.length_cons, hk]; omega
        have x1 : (S.extract 0 (k + 1)).data.toList = d ++ [10] := by
          rw [Lib.extract_data, hSl, hst, ← hk, List.drop_zero, Nat.sub_zero, show d ++ 10 :: r' = (d ++ [10]) ++ r' by simp, List.take_left' (by simp)]
        have x2 : S.extract (k + 1) S.size = ⟨r'.toArray⟩ := ba_ext (by
          rw [Lib.extract_data, hSl, hsz, hlen, hst, ← hk, show d ++ 10 :: r' = (d ++ [10]) ++ r' by simp, List.drop_left' (by simp)]
          exact List.take_of_length_le (by omega))
        have xs1 : (S.extract 0 (k + 1)).size ≤ 3000 := by rw [ByteArray.size_extract]; omega
        have hki : (k : Int) + 1 ≤ (S.size : Int) := by omega
        have hS4 : (wr.setCell ⟨sb, 0, none⟩ (.string (S.extract (k + 1) (k + 1 + r'.length)))).drew.heap[sb]? = some (.cells #[.string ⟨r'.toArray⟩] 9) := by
          have e : S.extract (k + 1) (k + 1 + r'.length) = ⟨r'.toArray⟩ := by rw [← x2, hsz, hlen]
          rw [e]
          exact Bk.set_ HS.out 0 _
        have HS4 := Lib.hid hS4
        have HJ4 := Lib.hid (hJ _ _ _ (hJ _ _ _ HJ.out (gb_set wr sb 0 (.string (S.extract (k + 1) (k + 1 + r'.length)))) ⟨_, Bk.set_ HS.out 0 _⟩) ((show Ext _ (wr.setCell ⟨sb, 0, none⟩ (.string (S.extract (k + 1) (k + 1 + r'.length)))).drew from Ext.drew (Ext.refl _)).gb (some sb)) ⟨_, hS4⟩)
        have HRN : Hid (Raw t (rawOf (pre ++ [⟨S.extract 0 (k + 1), xs1⟩])) r') := Lib.hid (by
          rw [rawOf_snoc]
          show Raw t (rawOf pre ++ [(S.extract 0 (k + 1)).data.toList]) r'
          rw [x1]
          have := HRW.out
          rw [hst] at this
          exact Raw.hit this hd)
        have hme : cellLen (wr.cell? ⟨sb, 0, none⟩) = S.size := by rw [hcs]; rfl
        clear x1 x2 hst hd hk hS4
        gi_wp2
        refine ⟨trivial, ?_⟩
        refine (callsIn_wide.2 (HIX.out wr)).mono ?_
        rintro _ W2 ⟨rfl, e2⟩
        obtain rfl : wr = W2 := e2.symm
        gi_wp2
        gi_region
        obtain ⟨fn, tmps, assign, body, hy, hR⟩ := hY pre ⟨S.extract 0 (k + 1), xs1⟩ (wr.setCell ⟨sb, 0, none⟩ (.string (S.extract (k + 1) (k + 1 + r'.length)))).drew HJ4.out (by omega)
        gi_wp2
        refine hR.mono ?_
        rintro e W3 ⟨rfl, hJ3, hk3⟩
        have hs3 := hk3 _ HS4.out
        gi_wp2
        go_roundw
        case rel => exact ⟨_, _, HRN, Lib.hid hJ3, Lib.hid hs3⟩
        case measure =>
          rw [hme, show W3.cell? ⟨sb, 0, none⟩ = some (.string ⟨r'.toArray⟩) from Bk.cell hs3 0]
          show r'.toArray.size < S.size
          rw [List.size_toArray]
          omega
set_option maxHeartbeats 1000000 in
theorem lines_in (n : Nat) (s : ByteArray) (w : World) :
    CallsIn Fence.wide n Tryz.prog 11 #[.string s] w fun e w' => e = .returned (.func (.func 28) #[] #[.pointer (some ⟨w.heap.size, 0, none⟩)]) ∧ w' = w.alloc (.cells #[.string s] 9) := by
  refine callsIn_of_wp Tryz.func11 rfl trivial ?_ rfl
  simp only [Tryz.ntmps11, List.size_toArray, List.length_cons, List.length_nil, Nat.reduceAdd, Nat.reduceSub, Array.replicate_succ, Array.replicate_zero, List.push_toArray, List.append_toArray, List.nil_append, List.cons_append]
  gi_wp2
  go_ret
  exact ⟨rfl, rfl⟩
end Go.Proofs.YtnphbkjkeipmmaaGreatDoor

/- A desk beside a builder of text, in a loop over a function: what is kept. -/
namespace Go.Proofs.YtnphbkjkeipmmaaGreatDoor
open Go.RowKit Go.WideShapes
set_option linter.unusedVariables false

section
variable {T Tm : TypeId} {w w' w0 : World} {S : Nat → Prop} {db mb : Nat} {ve va vw : Value} {d : Dk}
theorem own_at {base n size : Nat} {e : TypeId} {v : Value} {xs : List Value} (h : w.ownsRow base e size v n xs) {g : Nat} (hg : v.ownBlock = some g) : ∃ cs fz, w.heap[g]? = some (.cells cs e fz) := by
  rcases h.2 with ⟨rfl, _⟩ | ⟨g', cap, cur, rfl, _, hh, _⟩
  · cases hg
  · obtain rfl : g' = g := by simpa [Value.ownBlock] using hg
    exact ⟨_, _, hh⟩
theorem DAt.foot_type (h : DAt T Tm w db ve mb va vw d) {g : Nat} (hg : DFoot db ve mb va vw g) : ∃ cs t fz, w.heap[g]? = some (.cells cs t fz) ∧ (t = T ∨ t = Tm ∨ t = 67) := by
  rcases hg with rfl | hg | rfl | hg | hg
  · exact ⟨_, _, _, h.bk, .inl rfl⟩
  · obtain ⟨cs, fz, hh⟩ := own_at h.own hg
    exact ⟨_, _, _, hh, .inr (.inr rfl)⟩
  · exact ⟨_, _, _, h.mir.bk, .inr (.inl rfl)⟩
  · obtain ⟨cs, fz, hh⟩ := own_at h.mir.own hg
    exact ⟨_, _, _, hh, .inr (.inr rfl)⟩
  · obtain ⟨cs, fz, hh⟩ := own_at h.mir.waits hg
    exact ⟨_, _, _, hh, .inr (.inr rfl)⟩
/-- where a round may write -/
def RSet (w : World) (db : Nat) (ve : Value) (mb : Nat) (va vw : Value) (g : Nat) : Prop := DFoot db ve mb va vw g ∨ w.heap.size ≤ g
/-- what is no desk's -/
def Alien (T Tm : TypeId) (o : Obj) : Prop := ∀ cs t fz, o = .cells cs t fz → t ≠ T ∧ t ≠ Tm ∧ t ≠ 67
theorem DAt.keeps (h : DAt T Tm w db ve mb va vw d) (k : Chg w w' (RSet w db ve mb va vw)) {g : Nat} {o : Obj} (hg : w.heap[g]? = some o) (ha : Alien T Tm o) : w'.heap[g]? = some o := by
  have hl : g < w.heap.size := (Array.getElem?_eq_some_iff.1 hg).1
  refine (k.block g hl fun hs => ?_).trans hg
  rcases hs with hs | hs
  · obtain ⟨cs, t, fz, hh, ht⟩ := h.foot_type hs
    rw [hg] at hh
    injection hh with hh
    obtain ⟨a, b, c⟩ := ha cs t fz hh
    rcases ht with ht | ht | ht
    · exact a ht
    · exact b ht
    · exact c ht
  · omega
/-- a desk laid from a world on -/
def DN (T Tm : TypeId) (w0 w : World) (db : Nat) (d : Dk) : Prop := ∃ ve mb va vw, DAt T Tm w db ve mb va vw d ∧ ∀ g, DFoot db ve mb va vw g → w0.heap.size ≤ g
theorem DN.ext (h : DN T Tm w0 w db d) (k : Ext w w') : DN T Tm w0 w' db d := by
  obtain ⟨ve, mb, va, vw, h1, h2⟩ := h
  exact ⟨ve, mb, va, vw, h1.ext k, h2⟩
theorem DN.good (h : DN T Tm w0 w db d) : d.Good := by
  obtain ⟨_, _, _, _, h1, _⟩ := h
  exact h1.good
theorem DN.round (h : DN T Tm w0 w db d) (h0 : Ext w0 w) : ∃ S : Nat → Prop, DD T Tm w S db d ∧ (∀ g, w.heap.size ≤ g → S g) ∧ (∀ g, S g → w0.heap.size ≤ g) ∧ ∀ w', Chg w w' S → ∀ (g : Nat) (o : Obj), w.heap[g]? = some o → Alien T Tm o → w'.heap[g]? = some o := by
  obtain ⟨ve, mb, va, vw, h1, h2⟩ := h
  refine ⟨RSet w db ve mb va vw, ⟨ve, mb, va, vw, h1, fun g hg => .inl hg⟩, fun g hg => .inr hg, fun g hg => ?_, fun w' k g o hg ha => h1.keeps k hg ha⟩
  rcases hg with hg | hg
  · exact h2 g hg
  · exact Nat.le_trans h0.size hg
theorem DN.of (h : DD T Tm w S db d) (hS : ∀ g, S g → w0.heap.size ≤ g) : DN T Tm w0 w db d := by
  obtain ⟨ve, mb, va, vw, h1, h2⟩ := h
  exact ⟨ve, mb, va, vw, h1, fun g hg => hS g (h2 g hg)⟩
theorem chg_ext (k : Chg w w' S) (h0 : Ext w0 w) (hS : ∀ g, S g → w0.heap.size ≤ g) : Ext w0 w' :=
  ⟨k.os.trans h0.os, k.tape.trans h0.tape, k.output.trans h0.output, Nat.le_trans h0.size k.size, fun g hg => (k.block g (Nat.lt_of_lt_of_le hg h0.size) (fun s => by have := hS g s; omega)).trans (h0.block g hg)⟩
/-- a block that is no cells is turned -/
theorem DN.turned {row : Option Nat} (h : DN T Tm w0 w db d) (hg : w.grownBy w' row) (hr : ∀ r, row = some r → ∃ o : Obj, w.heap[r]? = some o ∧ o.isCells = false) : DN T Tm w0 w' db d := by
  obtain ⟨ve, mb, va, vw, h1, h2⟩ := h
  refine ⟨ve, mb, va, vw, h1.chg (gb_chg hg) fun g hf e => ?_, h2⟩
  obtain ⟨cs, t, fz, hh, _⟩ := h1.foot_type hf
  obtain ⟨o, ho, hc⟩ := hr g e
  rw [hh] at ho
  injection ho with ho
  subst ho
  cases hc
/-- a row of a builder's was written -/
theorem DN.others {B b : Nat} {e : TypeId} (h : DN T Tm w0 w db d) (hb : Below B w w') (ho : Lib.OthersKept e (some b) w w') (he : e ≠ T ∧ e ≠ Tm ∧ e ≠ 67) (hbt : ∃ cs t fz, w.heap[b]? = some (.cells cs t fz) ∧ t ≠ T ∧ t ≠ Tm ∧ t ≠ 67) : DN T Tm w0 w' db d := by
  obtain ⟨ve, mb, va, vw, h1, h2⟩ := h
  have k : Chg w w' (fun g => ¬ ∃ cs t fz, w.heap[g]? = some (.cells cs t fz) ∧ (t = T ∨ t = Tm ∨ t = 67)) := ⟨hb.os, hb.tape, hb.output, hb.size, fun g hg hS => by
    obtain ⟨cs, t, fz, hh, ht⟩ := Classical.not_not.1 hS
    rw [hh]
    refine ho g _ hh (fun e' => ?_) (fun c fz' e' => ?_)
    · injection e' with e'
      subst e'
      obtain ⟨cs', t', fz', hh', a1, a2, a3⟩ := hbt
      rw [hh] at hh'
      injection hh' with hh'
      injection hh' with _ hh' _
      subst hh'
      rcases ht with ht | ht | ht
      · exact a1 ht
      · exact a2 ht
      · exact a3 ht
    · injection e' with _ e' _
      subst e'
      rcases ht with ht | ht | ht
      · exact he.1 ht
      · exact he.2.1 ht
      · exact he.2.2 ht⟩
  exact ⟨ve, mb, va, vw, h1.chg k fun g hf hn => hn (h1.foot_type hf), h2⟩
theorem ownF_chg {base n size : Nat} {e : TypeId} {v : Value} {xs : List Value} (h : w.ownsRowF base e size v n xs) (k : ∀ (g : Nat) (cs : Array Value) fz, w.heap[g]? = some (.cells cs e fz) → w'.heap[g]? = some (.cells cs e fz)) : w'.ownsRowF base e size v n xs := by
  refine ⟨h.1, ?_⟩
  rcases h.2 with h2 | ⟨g, cap, cur, fz, hv, hg, hh, r⟩
  · exact .inl h2
  · exact .inr ⟨g, cap, cur, fz, hv, hg, k g _ _ hh, r⟩
theorem bld_chg {Tb e : TypeId} {B b : Nat} {bs : List Value} (h : Lib.IsBuilderF Tb e B b bs w) (k : ∀ (g : Nat) (o : Obj), w.heap[g]? = some o → (∃ cs t fz, o = .cells cs t fz ∧ (t = Tb ∨ t = e)) → w'.heap[g]? = some o) : Lib.IsBuilderF Tb e B b bs w' := by
  have one : ∀ p, Lib.BuilderAtF Tb e B b p bs w → Lib.BuilderAtF Tb e B b p bs w' := by
    rintro p ⟨h1, v, h2, h3, h4⟩
    exact ⟨h1, v, k b _ h2 ⟨_, _, _, rfl, .inl rfl⟩, ownF_chg h3 fun g cs fz hh => k g _ hh ⟨_, _, _, rfl, .inr rfl⟩, h4⟩
  exact h.imp (one _) (one _)
theorem bld_at {Tb e : TypeId} {B b : Nat} {bs : List Value} (h : Lib.IsBuilderF Tb e B b bs w) : B ≤ b ∧ ∃ cs, w.heap[b]? = some (.cells cs Tb (0, 0)) := by
  rcases h with ⟨h1, v, h2, _⟩ | ⟨h1, v, h2, _⟩
  · exact ⟨h1, _, h2⟩
  · exact ⟨h1, _, h2⟩
theorem bld_turned {Tb e : TypeId} {B b : Nat} {bs : List Value} {row : Option Nat} (h : Lib.IsBuilderF Tb e B b bs w) (hg : w.grownBy w' row) (hr : ∀ r, row = some r → ∃ o : Obj, w.heap[r]? = some o ∧ o.isCells = false) : Lib.IsBuilderF Tb e B b bs w' :=
  bld_chg h fun g o hh hc => by
    refine (hg.block g (Array.getElem?_eq_some_iff.1 hh).1 (fun e' => ?_)).trans hh
    obtain ⟨o', ho, hcc⟩ := hr g e'.symm
    rw [hh] at ho
    injection ho with ho
    obtain ⟨cs, t, fz, rfl, _⟩ := hc
    subst ho
    cases hcc
/-- one block of another type was written -/
theorem DN.apart_ {sb : Nat} {ts : TypeId} {cs : Array Value} (h : DN T Tm w0 w db d) (hs : w.heap[sb]? = some (.cells cs ts)) (ht : ts ≠ T ∧ ts ≠ Tm ∧ ts ≠ 67) (hg : w.grownBy w' (some sb)) : DN T Tm w0 w' db d := by
  obtain ⟨ve, mb, va, vw, h1, h2⟩ := h
  refine ⟨ve, mb, va, vw, h1.chg (gb_chg hg) fun g hf e => ?_, h2⟩
  injection e with e
  subst e
  obtain ⟨cs', t, fz, hh, ht'⟩ := h1.foot_type hf
  rw [hs] at hh
  injection hh with hh
  injection hh with _ hh _
  subst hh
  rcases ht' with e | e | e
  · exact ht.1 e
  · exact ht.2.1 e
  · exact ht.2.2 e
theorem bld_apart {sb : Nat} {Tb e ts : TypeId} {B b : Nat} {bs : List Value} {cs : Array Value} (h : Lib.IsBuilderF Tb e B b bs w) (hs : w.heap[sb]? = some (.cells cs ts)) (ht : ts ≠ Tb ∧ ts ≠ e) (hg : w.grownBy w' (some sb)) : Lib.IsBuilderF Tb e B b bs w' :=
  bld_chg h fun g o hh hc => by
    refine (hg.block g (Array.getElem?_eq_some_iff.1 hh).1 (fun e' => ?_)).trans hh
    injection e' with e'
    subst e'
    obtain ⟨cs', t, fz, rfl, ht'⟩ := hc
    rw [hs] at hh
    injection hh with hh
    injection hh with _ hh _
    subst hh
    rcases ht' with e' | e'
    · exact ht.1 e'
    · exact ht.2 e'
end
end Go.Proofs.YtnphbkjkeipmmaaGreatDoor
