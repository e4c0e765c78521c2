/- Slices that a call makes by append: kept, read, appended to; over any program. -/
import Derived.Test.YtmknpehjncpekaaGreatDoorJMirrorPlays0
import Derived.Deep.AppendLies
import Derived.Deep.RegionHeld3
import Derived.OwnWalk
import Derived.Test.YtmknpehjncpekaaGreatDoorJMirrorPlays3
import Derived.Deep.LoopGhost
import Derived.SizedLaws
namespace Go.Proofs.YtmknpehjncpekaaGreatDoor
set_option linter.unusedVariables false
open Go.RowKit

section
variable {w w' : World} {base n size : Nat} {e : TypeId} {v : Value} {xs : List Value}
theorem own_ext (h : w.ownsRow base e size v n xs) (hb : Ext w w') : w'.ownsRow base e size v n xs := by
  obtain ⟨h1, h2⟩ := h
  refine ⟨h1, ?_⟩
  rcases h2 with h2 | ⟨g, cap, cur, hv, hg, hh, r⟩
  · exact .inl h2
  · refine .inr ⟨g, cap, cur, hv, hg, ?_, r⟩
    have hlt : g < w.heap.size := by
      rcases Nat.lt_or_ge g w.heap.size with hl | hl
      · exact hl
      · rw [Array.getElem?_eq_none hl] at hh; cases hh
    exact (Below.block hb g hlt).trans hh
theorem own_lower (h : w.ownsRow base e size v n xs) {b : Nat} (hb : b ≤ base) : w.ownsRow b e size v n xs := by
  obtain ⟨h1, h2⟩ := h
  refine ⟨h1, ?_⟩
  rcases h2 with h2 | ⟨g, cap, cur, hv, hg, r⟩
  · exact .inl h2
  · exact .inr ⟨g, cap, cur, hv, by omega, r⟩
theorem own_rd (h : w.ownsRow base e size v n xs) : ∃ A c, v = .slice A n c ∧ c ≤ maxLen ∧ Rd w size A n c xs ∧ (n = 0 → A = none ∧ c = 0 ∨ A ≠ none) := by
  obtain ⟨h1, h2⟩ := id h
  rcases h2 with ⟨rfl, rfl⟩ | ⟨g, cap, cur, rfl, hg, hh, hn, hm, r⟩
  · have : xs = [] := List.eq_nil_of_length_eq_zero (by simpa using h1)
    subst this
    exact ⟨none, 0, rfl, Nat.zero_le _, Rd.nil _ _ _ _, fun _ => .inl ⟨rfl, rfl⟩⟩
  · refine ⟨some ⟨g, 0, none⟩, cap, rfl, hm, ⟨h1, hn, fun _ => ⟨_, rfl, ?_, h.cells (g := g) rfl⟩⟩, fun _ => .inr (by simp)⟩
    rcases Nat.lt_or_ge g w.heap.size with hl | hl
    · exact hl
    · rw [Array.getElem?_eq_none hl] at hh; cases hh
theorem own_nil (w : World) (base : Nat) (e : TypeId) (size : Nat) : w.ownsRow base e size (.slice none 0 0) 0 [] := ⟨by simp, .inl ⟨rfl, rfl⟩⟩
theorem own_len (h : w.ownsRow base e size v n xs) : xs.length = n * size := h.1
theorem own_block (h : w.ownsRow base e size v n xs) : ∀ k, v.ownBlock = some k → base ≤ k := by
  intro k hk
  rcases h.2 with ⟨rfl, _⟩ | ⟨g, cap, cur, rfl, hg, _⟩
  · simp [Value.ownBlock] at hk
  · simp [Value.ownBlock] at hk; omega
theorem own_grown (h : w.ownsRow base e size v n xs) (hg : w.grownBy w' v.ownBlock) : ∀ u, u.heap.size ≤ base → Ext u w → Ext u w' :=
  fun u hu hb => hb.grown hg fun k hk => Nat.le_trans hu (own_block h k hk)
theorem news_new (W : World) (t : TypeId) (cs : List Value) (H : Nat) (hH : W.heap.size = H) : ∀ j u, cs[j]? = some u → (W.alloc (.cells cs.toArray t)).cell? ((⟨H, 0, none⟩ : Addr).add j) = some u := by
  intro j u hu
  subst hH
  rw [add_mk, Nat.zero_add, World.cell?_alloc_new]
  simpa using hu
end

section
variable {P : Program} {w : World}
theorem wp_app {o : Oper} {a : Act} {K : Act → World → Prop} {Q : Exit → Act → World → Prop} (s x : Operand) (t : TypeId)
    (ho : o.op = .call { callee := .builtin .append, args := #[s, x], argTypes := #[t, t] })
    (base : Nat) (e : TypeId) (i : TypeInfo) (z : Value) (size bytes : Nat) (ht : P.underlying t = some (.slice e)) (hi : P.info? e = some i) (hz : i.zero = some z)
    (hsize : i.size = size) (hby : i.bytes = bytes) (hzs : z.cells.size = size) (hsz : 0 < size)
    (v : Value) (n : Nat) (xs : List Value) (hs : a.eval s = v) (hown : w.ownsRow base e size v n xs)
    (H c : Nat) (cs : List Value) (hcs : cs.length = size) (hx : a.eval x = .slice (some ⟨H, 0, none⟩) 1 c) (hnews : ∀ j u, cs[j]? = some u → w.cell? ((⟨H, 0, none⟩ : Addr).add j) = some u) (h1 : ∀ u ∈ cs, u.oneCell' = true)
    (h63 : n ≤ 1048576) (hbytes : bytes ≤ 1048576) (hbase : base ≤ w.heap.size)
    (h : ∀ g cap w', w'.ownsRow base e size (.slice (some ⟨g, 0, none⟩) (n + 1) cap) (n + 1) (xs ++ cs) → (∀ u, u.heap.size ≤ base → Ext u w → Ext u w') → K (a.put o.dst (.slice (some ⟨g, 0, none⟩) (n + 1) cap)) w') : o.wp P a w K Q :=
  wp_append_lies w s x t ho base e i z size bytes ht hi hz hsize hby hzs hsz v n xs hs hown ⟨H, 0, none⟩ 1 c cs hx (by rw [hcs, Nat.one_mul]) hnews h1 (by omega) (by simp only [maxLen]; omega)
    (by have := Nat.mul_le_mul (show n + 1 ≤ 1048577 by omega) hbytes; omega) hbase w.heap.size rfl
    fun g cap w' h2 h3 h4 h5 => h g cap w' h2 (own_grown hown h3)
/-- at a plain region's list -/
theorem wpl_app {ops : Array Oper} {rest : List Oper} {o : Oper} {a : Act} {Q : Exit → Act → World → Prop} (hgd : o.guard = none) (s x : Operand) (t : TypeId)
    (ho : o.op = .call { callee := .builtin .append, args := #[s, x], argTypes := #[t, t] })
    (base : Nat) (e : TypeId) (i : TypeInfo) (z : Value) (size bytes : Nat) (ht : P.underlying t = some (.slice e)) (hi : P.info? e = some i) (hz : i.zero = some z)
    (hsize : i.size = size) (hby : i.bytes = bytes) (hzs : z.cells.size = size) (hsz : 0 < size)
    (v : Value) (n : Nat) (xs : List Value) (hs : a.eval s = v) (hown : w.ownsRow base e size v n xs)
    (H c : Nat) (cs : List Value) (hcs : cs.length = size) (hx : a.eval x = .slice (some ⟨H, 0, none⟩) 1 c) (hnews : ∀ j u, cs[j]? = some u → w.cell? ((⟨H, 0, none⟩ : Addr).add j) = some u) (h1 : ∀ u ∈ cs, u.oneCell' = true)
    (h63 : n ≤ 1048576) (hbytes : bytes ≤ 1048576) (hbase : base ≤ w.heap.size)
    (h : ∀ g cap w', w'.ownsRow base e size (.slice (some ⟨g, 0, none⟩) (n + 1) cap) (n + 1) (xs ++ cs) → (∀ u, u.heap.size ≤ base → Ext u w → Ext u w') → wpList P ops Q rest (a.put o.dst (.slice (some ⟨g, 0, none⟩) (n + 1) cap)) w') : wpList P ops Q (o :: rest) a w :=
  wpList_plain hgd fun _ hK => wp_app s x t ho base e i z size bytes ht hi hz hsize hby hzs hsz v n xs hs hown H c cs hcs hx hnews h1 h63 hbytes hbase fun g cap w' h2 h3 => hK _ _ (h g cap w' h2 h3)
/-- at a step of a region that draws its order -/
theorem step_app {ops : Array Oper} {o : Oper} {a : Act} {K : Act → World → Prop} {Q : Exit → Act → World → Prop} {E : Prop} (hgd : o.guard = none) (s x : Operand) (t : TypeId)
    (ho : o.op = .call { callee := .builtin .append, args := #[s, x], argTypes := #[t, t] })
    (base : Nat) (e : TypeId) (i : TypeInfo) (z : Value) (size bytes : Nat) (ht : P.underlying t = some (.slice e)) (hi : P.info? e = some i) (hz : i.zero = some z)
    (hsize : i.size = size) (hby : i.bytes = bytes) (hzs : z.cells.size = size) (hsz : 0 < size)
    (v : Value) (n : Nat) (xs : List Value) (hs : a.eval s = v) (hown : w.ownsRow base e size v n xs)
    (H c : Nat) (cs : List Value) (hcs : cs.length = size) (hx : a.eval x = .slice (some ⟨H, 0, none⟩) 1 c) (hnews : ∀ j u, cs[j]? = some u → w.cell? ((⟨H, 0, none⟩ : Addr).add j) = some u) (h1 : ∀ u ∈ cs, u.oneCell' = true)
    (h63 : n ≤ 1048576) (hbytes : bytes ≤ 1048576) (hbase : base ≤ w.heap.size)
    (h : ∀ g cap w', w'.ownsRow base e size (.slice (some ⟨g, 0, none⟩) (n + 1) cap) (n + 1) (xs ++ cs) → (∀ u, u.heap.size ≤ base → Ext u w → Ext u w') → K (a.put o.dst (.slice (some ⟨g, 0, none⟩) (n + 1) cap)) w') :
    if Region.wanted o (yielded ops a.tmps) = true then Oper.wp P o a w K Q else E := by
  have hw : Region.wanted o (yielded ops a.tmps) = true := by simp [Region.wanted, hgd]
  rw [if_pos hw]
  exact wp_app s x t ho base e i z size bytes ht hi hz hsize hby hzs hsz v n xs hs hown H c cs hcs hx hnews h1 h63 hbytes hbase h
end
end Go.Proofs.YtmknpehjncpekaaGreatDoor

/- Worlds in which one block alone was written, and new ones were made; over any program. -/
namespace Go.Proofs.YtmknpehjncpekaaGreatDoor
set_option linter.unusedVariables false
open Go.RowKit

section
variable {a b w w' : World} {row : Option Nat} {g : Nat} {t : TypeId} {cs : Array Value}
theorem Ext.gb (h : Ext a b) (row : Option Nat) : a.grownBy b row := ⟨h.os, h.tape, h.output, Below.size h, fun k hk _ => Below.block h k hk⟩
theorem gb_trans {c : World} (h : a.grownBy b row) (k : b.grownBy c row) : a.grownBy c row :=
  ⟨k.os.trans h.os, k.tape.trans h.tape, k.output.trans h.output, Nat.le_trans h.size k.size, fun i hi hne => (k.block i (Nat.lt_of_lt_of_le hi h.size) hne).trans (h.block i hi hne)⟩
theorem gb_none (h : a.grownBy b none) : Ext a b := ⟨h.os, h.tape, h.output, h.size, fun k hk => h.block k hk (by simp)⟩
theorem gb_any (h : a.grownBy b none) (row : Option Nat) : a.grownBy b row := (gb_none h).gb row
theorem gb_set (w : World) (g i : Nat) (u : Value) : w.grownBy (w.setCell ⟨g, i, none⟩ u) (some g) := by
  have h := Below.setCell (Below.refl g w) (p := ⟨g, i, none⟩) (Nat.le_refl _) u
  exact ⟨h.os, h.tape, h.output, h.size, fun k hk hne => Below.heap_setCell w ⟨g, i, none⟩ u k (fun e => hne (by rw [e]))⟩
theorem gb_drew (h : a.grownBy b row) : a.grownBy b.drew row := ⟨h.os, h.tape, h.output, h.size, h.block⟩
theorem gb_alloc (h : a.grownBy b row) (o : Obj) : a.grownBy (b.alloc o) row := gb_trans h (World.grownBy_alloc b o row)
theorem gb_ext (h : a.grownBy b row) {c : World} (k : Ext b c) : a.grownBy c row := gb_trans h (k.gb row)
theorem Ext.gbt (h : Ext a b) {c : World} (k : b.grownBy c row) : a.grownBy c row := gb_trans (h.gb row) k
/-- written at a block that is new to the elder world -/
theorem gb_new (h : a.grownBy b row) {c : World} (k : b.grownBy c (some g)) (hg : a.heap.size ≤ g) : a.grownBy c row :=
  ⟨k.os.trans h.os, k.tape.trans h.tape, k.output.trans h.output, Nat.le_trans h.size k.size, fun i hi hne => (k.block i (Nat.lt_of_lt_of_le hi h.size) (by simp; omega)).trans (h.block i hi hne)⟩
theorem gb_row (h : a.grownBy b row) {c : World} {r : Option Nat} (k : b.grownBy c r) (hg : ∀ g, r = some g → a.heap.size ≤ g) : a.grownBy c row := by
  cases r with
  | none => exact gb_ext h (gb_none k)
  | some g => exact gb_new h k (hg g rfl)
theorem Ext.gbn (h : Ext a b) {c : World} (k : b.grownBy c (some g)) (hg : a.heap.size ≤ g) : Ext a c := gb_none (gb_new (h.gb none) k hg)
theorem Bk.kept (h : Bk w g t cs) (hg : w.grownBy w' row) (hne : row ≠ some g) : Bk w' g t cs := (hg.block g h.lt (fun e => hne e.symm)).trans h
theorem Rd.kept {size n c : Nat} {A : Option Addr} {xs : List Value} (h : Rd w size A n c xs) (hg : w.grownBy w' row) (hne : 0 < n → ∀ ad, A = some ad → row ≠ some ad.block) : Rd w' size A n c xs :=
  ⟨h.1, h.2.1, fun hn => by
    obtain ⟨ad, e, hl, hc⟩ := h.2.2 hn
    refine ⟨ad, e, Nat.lt_of_lt_of_le hl hg.size, fun j u hu => hg.cell (hc j u hu) (by rw [blk_add]; exact fun e' => hne hn ad e e'.symm)⟩⟩
theorem gb_below {c : World} {N : Nat} (h : a.grownBy b row) (k : Below N b c) (hN : a.heap.size ≤ N) : a.grownBy c row :=
  ⟨k.os.trans h.os, k.tape.trans h.tape, k.output.trans h.output, Nat.le_trans h.size k.size, fun i hi hne => (k.block i (by omega)).trans (h.block i hi hne)⟩
theorem below_gb {N : Nat} (h : w.grownBy w' row) (hN : N ≤ w.heap.size) (hr : ∀ g, row = some g → N ≤ g) : Below N w w' :=
  ⟨h.os, h.tape, h.output, h.size, fun k hk => h.block k (by omega) (fun e => by have := hr k e.symm; omega)⟩
theorem below_trans {N : Nat} {c : World} (h : Below N a b) (k : Below N b c) : Below N a c :=
  ⟨k.os.trans h.os, k.tape.trans h.tape, k.output.trans h.output, Nat.le_trans h.size k.size, fun i hi => (k.block i hi).trans (h.block i hi)⟩
theorem Bk.below {N : Nat} (h : Bk w g t cs) (hB : Below N w w') (hg : g < N) : Bk w' g t cs := (hB.block g hg).trans h
theorem Rd.below {size n c N : Nat} {A : Option Addr} {xs : List Value} (h : Rd w size A n c xs) (hB : Below N w w') (hne : 0 < n → ∀ ad, A = some ad → ad.block < N) : Rd w' size A n c xs :=
  ⟨h.1, h.2.1, fun hn => by
    obtain ⟨ad, e, hl, hc⟩ := h.2.2 hn
    have hb := hne hn ad e
    exact ⟨ad, e, Nat.lt_of_lt_of_le hl hB.size, fun j u hu => (Below.cell hB (p := ad.add j) (by rw [blk_add]; exact hb)).trans (hc j u hu)⟩⟩
theorem Rd.blk {size n c : Nat} {A : Option Addr} {xs : List Value} (h : Rd w size A n c xs) : 0 < n → ∀ ad, A = some ad → ad.block < w.heap.size := fun hn ad e => by
  obtain ⟨ad', e', hl, _⟩ := h.2.2 hn
  rw [e] at e'
  injection e' with e'
  rw [e']
  exact hl
/-- a slice that is owned lies in its own block -/
theorem own_addr {base n c size : Nat} {e : TypeId} {A : Option Addr} {xs : List Value} (h : w.ownsRow base e size (.slice A n c) n xs) : ∀ ad, A = some ad → base ≤ ad.block := by
  intro ad hA
  subst hA
  exact own_block h _ rfl
end

/-! ### Four rows in a block of slices -/
def rowsA (vs : Nat → Value) : Array Value := #[vs 0, vs 1, vs 2, vs 3]
structure Rows4 (E T : TypeId) (w : World) (gs B : Nat) (vs : Nat → Value) (L : Nat → List Int) : Prop where
  bk : Bk w gs T (rowsA vs)
  lt : gs < B
  le : B ≤ w.heap.size
  own : ∀ k, k < 4 → w.ownsRow B E 1 (vs k) (L k).length ((L k).map (Value.int .i64))
  apart : ∀ k k' g, k < 4 → k' < 4 → k ≠ k' → (vs k).ownBlock = some g → (vs k').ownBlock ≠ some g
def upd {α : Type} (f : Nat → α) (k : Nat) (x : α) : Nat → α := fun i => if i = k then x else f i
theorem upd_same {α : Type} (f : Nat → α) (k : Nat) (x : α) : upd f k x k = x := if_pos rfl
theorem upd_other {α : Type} (f : Nat → α) {k i : Nat} (x : α) (h : i ≠ k) : upd f k x i = f i := if_neg h
theorem rowsA_set (vs : Nat → Value) (k : Nat) (v : Value) (hk : k < 4) : (rowsA vs).setIfInBounds k v = rowsA (upd vs k v) := by
  have : k = 0 ∨ k = 1 ∨ k = 2 ∨ k = 3 := by omega
  rcases this with rfl | rfl | rfl | rfl <;> rfl
theorem rowsA_get (vs : Nat → Value) (k : Nat) (hk : k < 4) : (rowsA vs)[k]? = some (vs k) := by
  have : k = 0 ∨ k = 1 ∨ k = 2 ∨ k = 3 := by omega
  rcases this with rfl | rfl | rfl | rfl <;> rfl
section
variable {E T : TypeId} {w w' : World} {gs B : Nat} {vs : Nat → Value} {L : Nat → List Int}
theorem Rows4.kept (h : Rows4 E T w gs B vs L) {row : Option Nat} (hg : w.grownBy w' row) (hr : ∀ g, row = some g → g < gs) : Rows4 E T w' gs B vs L where
  bk := h.bk.kept hg fun e => absurd (hr _ e) (Nat.lt_irrefl _)
  lt := h.lt
  le := Nat.le_trans h.le hg.size
  own := fun k hk => (h.own k hk).kept hg (by
    by_cases hv : (vs k).ownBlock = row
    · left
      cases hb : (vs k).ownBlock with
      | none => rfl
      | some g =>
        have h1 := ((h.own k hk).lt g hb).1
        have h2 := hr g (hv.symm.trans hb)
        have h3 := h.lt
        omega
    · exact .inr hv)
  apart := h.apart
theorem Rows4.ext (h : Rows4 E T w gs B vs L) (hg : Ext w w') : Rows4 E T w' gs B vs L := h.kept (hg.gb none) (by simp)
/-- a row has grown, and was stored anew -/
theorem Rows4.add (h : Rows4 E T w gs B vs L) {k g cap : Nat} {l : List Int} {w1 : World} (hk : k < 4)
    (hown : w1.ownsRow B E 1 (.slice (some ⟨g, 0, none⟩) l.length cap) l.length (l.map (Value.int .i64))) (hg : w.grownBy w1 (vs k).ownBlock) (hH : (vs k).ownBlock = some g ∨ w.heap.size ≤ g) :
    Rows4 E T (w1.setCell ⟨gs, k, none⟩ (.slice (some ⟨g, 0, none⟩) l.length cap)) gs B (upd vs k (.slice (some ⟨g, 0, none⟩) l.length cap)) (upd L k l) where
  bk := by
    have h1 : Bk w1 gs T (rowsA vs) := h.bk.kept hg fun e => by
      have h1 := ((h.own k hk).lt gs e).1
      have h2 := h.lt
      omega
    have := h1.set_ k (.slice (some ⟨g, 0, none⟩) l.length cap)
    rwa [rowsA_set _ _ _ hk] at this
  lt := h.lt
  le := Nat.le_trans (Nat.le_trans h.le hg.size) (gb_set w1 gs k _).size
  own := fun k' hk' => by
    have hset := gb_set w1 gs k (.slice (some ⟨g, 0, none⟩) l.length cap)
    by_cases hkk : k' = k
    · subst hkk
      rw [upd_same, upd_same]
      refine hown.kept hset (.inr ?_)
      have h1 := (hown.lt g rfl).1
      have h2 := h.lt
      show some g ≠ some gs
      simp; omega
    · rw [upd_other _ _ hkk, upd_other _ _ hkk]
      have h1 : w1.ownsRow B E 1 (vs k') (L k').length ((L k').map (Value.int .i64)) := (h.own k' hk').kept hg (by
        cases hb : (vs k').ownBlock with
        | none => exact .inl rfl
        | some g' => exact .inr fun e => h.apart k' k g' hk' hk hkk hb e.symm)
      refine h1.kept hset ?_
      cases hb : (vs k').ownBlock with
      | none => exact .inl rfl
      | some g' =>
        have h2 := ((h.own k' hk').lt g' hb).1
        have h3 := h.lt
        exact .inr (by simp; omega)
  apart := fun i j g' hi hj hij hg' => by
    by_cases hik : i = k
    · subst hik
      rw [upd_same] at hg'
      rw [upd_other _ _ (Ne.symm hij)]
      have : g = g' := by simpa [Value.ownBlock] using hg'
      subst this
      intro hc
      rcases hH with hH | hH
      · exact h.apart i j g hi hj hij hH hc
      · have := ((h.own j hj).lt g hc).2; omega
    · rw [upd_other _ _ hik] at hg'
      by_cases hjk : j = k
      · subst hjk
        rw [upd_same]
        intro hc
        have : g = g' := by simpa [Value.ownBlock] using hc
        subst this
        rcases hH with hH | hH
        · exact h.apart i j g hi hj hij hg' hH
        · have := ((h.own i hi).lt g hg').2; omega
      · rw [upd_other _ _ hjk]
        exact h.apart i j g' hi hj hij hg'
end

/-- 'append' of some cells that lie anywhere, at a step of a region that draws its order -/
theorem step_apps {P : Program} {w : World} {ops : Array Oper} {o : Oper} {a : Act} {K : Act → World → Prop} {Q : Exit → Act → World → Prop} {E : Prop} (hgd : o.guard = none) (s x : Operand) (t : TypeId)
    (ho : o.op = .call { callee := .builtin .append, args := #[s, x], argTypes := #[t, t] })
    (base : Nat) (e : TypeId) (i : TypeInfo) (z : Value) (size bytes : Nat) (ht : P.underlying t = some (.slice e)) (hi : P.info? e = some i) (hz : i.zero = some z)
    (hsize : i.size = size) (hby : i.bytes = bytes) (hzs : z.cells.size = size) (hsz : 0 < size)
    (v : Value) (n : Nat) (xs : List Value) (hs : a.eval s = v) (hown : w.ownsRow base e size v n xs)
    (ad : Addr) (m c : Nat) (news : List Value) (hx : a.eval x = .slice (some ad) m c) (hl : news.length = m * size) (hnews : ∀ j u, news[j]? = some u → w.cell? (ad.add j) = some u) (h1 : ∀ u ∈ news, u.oneCell' = true)
    (hm : 0 < m) (h63 : n + m ≤ 1048576) (hbytes : bytes ≤ 1048576) (hbase : base ≤ w.heap.size)
    (h : ∀ g cap w', w'.ownsRow base e size (.slice (some ⟨g, 0, none⟩) (n + m) cap) (n + m) (xs ++ news) → w.grownBy w' v.ownBlock → (v.ownBlock = some g ∨ g = w.heap.size) → g < w'.heap.size → K (a.put o.dst (.slice (some ⟨g, 0, none⟩) (n + m) cap)) w') :
    if Region.wanted o (yielded ops a.tmps) = true then Oper.wp P o a w K Q else E := by
  have hw : Region.wanted o (yielded ops a.tmps) = true := by simp [Region.wanted, hgd]
  rw [if_pos hw]
  exact wp_append_lies w s x t ho base e i z size bytes ht hi hz hsize hby hzs hsz v n xs hs hown ad m c news hx hl hnews h1 hm (by simp only [maxLen]; omega)
    (by have := Nat.mul_le_mul (show n + m ≤ 1048576 by omega) hbytes; omega) hbase _ rfl h

/-- 'append' of some cells that lie anywhere, at a plain region's list -/
theorem wpl_apps {P : Program} {w : World} {ops : Array Oper} {rest : List Oper} {o : Oper} {a : Act} {Q : Exit → Act → World → Prop} (hgd : o.guard = none) (s x : Operand) (t : TypeId)
    (ho : o.op = .call { callee := .builtin .append, args := #[s, x], argTypes := #[t, t] })
    (base : Nat) (e : TypeId) (i : TypeInfo) (z : Value) (size bytes : Nat) (ht : P.underlying t = some (.slice e)) (hi : P.info? e = some i) (hz : i.zero = some z)
    (hsize : i.size = size) (hby : i.bytes = bytes) (hzs : z.cells.size = size) (hsz : 0 < size)
    (v : Value) (n : Nat) (xs : List Value) (hs : a.eval s = v) (hown : w.ownsRow base e size v n xs)
    (ad : Addr) (m c : Nat) (news : List Value) (hx : a.eval x = .slice (some ad) m c) (hl : news.length = m * size) (hnews : ∀ j u, news[j]? = some u → w.cell? (ad.add j) = some u) (h1 : ∀ u ∈ news, u.oneCell' = true)
    (hm : 0 < m) (h63 : n + m ≤ 1048576) (hbytes : bytes ≤ 1048576) (hbase : base ≤ w.heap.size)
    (h : ∀ g cap w', w'.ownsRow base e size (.slice (some ⟨g, 0, none⟩) (n + m) cap) (n + m) (xs ++ news) → w.grownBy w' v.ownBlock → (v.ownBlock = some g ∨ g = w.heap.size) → g < w'.heap.size → wpList P ops Q rest (a.put o.dst (.slice (some ⟨g, 0, none⟩) (n + m) cap)) w') : wpList P ops Q (o :: rest) a w :=
  wpList_plain hgd fun _ hK => wp_append_lies w s x t ho base e i z size bytes ht hi hz hsize hby hzs hsz v n xs hs hown ad m c news hx hl hnews h1 hm (by simp only [maxLen]; omega)
    (by have := Nat.mul_le_mul (show n + m ≤ 1048576 by omega) hbytes; omega) hbase _ rfl fun g cap w' h2 h3 h4 h5 => hK _ _ (h g cap w' h2 h3 h4 h5)
end Go.Proofs.YtmknpehjncpekaaGreatDoor

namespace Go.Proofs.YtmknpehjncpekaaGreatDoor
open Go.RowKit
set_option linter.unusedVariables false
attribute [local go_sem ↓] Go.wp_at_zero Go.wp_at_succ

theorem info_ent : (Tryz.prog.info? 59).map (fun i => (i.zero, i.size, i.bytes)) = some (some (.agg #[.int .i64 0, .string ⟨#[]⟩]), 2, 24) := by kernel_rfl
theorem oneE (e : Ent) : ∀ u ∈ e.cells, u.oneCell' = true := by intro u hu; simp [Ent.cells] at hu; rcases hu with rfl | rfl <;> rfl
theorem flat_nth {α : Type} {f : α → List Value} {k : Nat} (hf : ∀ x, (f x).length = k) : ∀ (l : List α) (j : Nat) (x : α) (i : Nat), l[j]? = some x → i < k → (l.flatMap f)[j * k + i]? = (f x)[i]?
  | [], j, x, i, h, _ => by simp at h
  | y :: l, 0, x, i, h, hi => by
    obtain rfl : y = x := by simpa using h
    rw [List.flatMap_cons, Nat.zero_mul, Nat.zero_add, List.getElem?_append_left (by rw [hf]; exact hi)]
  | y :: l, j + 1, x, i, h, hi => by
    rw [List.flatMap_cons, List.getElem?_append_right (by rw [hf, Nat.succ_mul]; omega), hf, show (j + 1) * k + i - k = j * k + i by rw [Nat.succ_mul]; omega]
    exact flat_nth hf l j x i (by simpa using h) hi
theorem Rd.getE {w : World} {A : Option Addr} {n c : Nat} {es : List Ent} (h : Rd w 2 A n c (es.flatMap Ent.cells)) {j : Nat} {e : Ent} (he : es[j]? = some e) :
    ∃ ad, A = some ad ∧ ad.block < w.heap.size ∧ w.cell? (ad.add (j * 2)) = some (.int .i64 e.time) ∧ w.cell? ⟨(ad.add (j * 2)).block, (ad.add (j * 2)).off + 1, none⟩ = some (.string e.data) := by
  have h0 := flat_nth (f := Ent.cells) (k := 2) (fun _ => rfl) es j e 0 he (by omega)
  have h1 := flat_nth (f := Ent.cells) (k := 2) (fun _ => rfl) es j e 1 he (by omega)
  obtain ⟨ad, e1, hb, hc0⟩ := h.at_ h0
  obtain ⟨ad', e2, _, hc1⟩ := h.at_ h1
  rw [e1] at e2
  obtain rfl : ad = ad' := by injection e2
  rw [← add_add'] at hc1
  exact ⟨ad, e1, hb, hc0, hc1⟩
theorem Rd.lenE {w : World} {A : Option Addr} {n c : Nat} {es : List Ent} (h : Rd w 2 A n c (es.flatMap Ent.cells)) : es.length = n := by
  have := h.1
  rw [flat_len Ent.cells 2 (fun _ => rfl)] at this
  omega

def entsOk (es : List Ent) : Prop := es.length ≤ 200 ∧ ∀ e ∈ es, e.ok

set_option maxRecDepth 100000 in
theorem ready_ok (A : Option Addr) (n c : Nat) (es : List Ent) (w : World) (hr : Rd w 2 A n c (es.flatMap Ent.cells)) (hm : c ≤ maxLen) (hk : entsOk es) :
    Calls Tryz.prog 73 #[.slice A n c] w fun e w' => e = .returned .nilIface ∧ Ext w w' := by
  have hx := hr.lenE
  have hn : n ≤ 200 := by have := hk.1; omega
  have HX := Lib.hid hx
  have HK := Lib.hid hk.2
  have hl := hr.2.1
  clear hx
  go_enter Tryz.func73, Tryz.ntmps73
  go_wp2_with fail
  go_loopw [12] (fun x wr => ∃ j : Nat, x = .int .i64 j ∧ j ≤ n ∧ Ext w wr) (fun x _ => n - (intOf x).toNat)
  case atStart => exact ⟨0, rfl, Nat.zero_le _, by (repeat (with_reducible first | exact Ext.refl _ | assumption | refine Ext.drew ?_ | refine Ext.drewN ?_ _ | refine Ext.alloc ?_ _ | refine Ext.trans ?_ (by with_reducible assumption)))⟩
  case round =>
    obtain ⟨j, rfl, hj, hbw⟩ := hrel
    by_cases hc : j < n
    · have hgj := List.getElem?_eq_getElem (l := es) (i := j) (by rw [HX.out]; exact hc)
      have hok := HK.out _ (List.mem_of_getElem? hgj)
      obtain ⟨ad, rfl, hb, c0, c1⟩ := (hr.ext hbw).getE hgj
      generalize es[j]'(by rw [HX.out]; exact hc) = e at *
      have hbk : ad.block < wr.heap.size := hb
      go_wp2_with fail
      refine (eCheck_ok _ _ _ hok).mono ?_
      rintro _ w1 ⟨rfl, hb1⟩
      go_wp2_with fail
      go_roundw
      case rel => exact ⟨j + 1, by go_num, by omega, by (repeat (with_reducible first | exact Ext.refl _ | assumption | refine Ext.drew ?_ | refine Ext.drewN ?_ _ | refine Ext.alloc ?_ _ | refine Ext.trans ?_ (by with_reducible assumption)))⟩
      case measure => simp [intOf]; omega
    · go_wp2_with fail
      go_ret
      exact ⟨rfl, by (repeat (with_reducible first | exact Ext.refl _ | assumption | refine Ext.drew ?_ | refine Ext.drewN ?_ _ | refine Ext.alloc ?_ _ | refine Ext.trans ?_ (by with_reducible assumption)))⟩

/-- the fault of some -/
def firstErr : List Ent → Int
  | [] => 0
  | e :: l => if e.ok then firstErr l else e.err
def entsErr (es : List Ent) : Int := if 200 < es.length then 4 else firstErr es
theorem Ent.err_ne (e : Ent) : e.err ≠ 0 := by unfold Ent.err; split <;> decide
theorem firstErr_ok {es : List Ent} (h : ∀ e ∈ es, e.ok) : firstErr es = 0 := by
  induction es with
  | nil => rfl
  | cons x es ih => rw [firstErr, if_pos (h x (by simp)), ih fun e he => h e (by simp [he])]
theorem entsErr_ok {es : List Ent} (h : entsOk es) : entsErr es = 0 := by
  unfold entsErr; rw [if_neg (by have := h.1; omega), firstErr_ok h.2]
theorem first_bad {es : List Ent} (h : ¬ ∀ e ∈ es, e.ok) : ∃ (j : Nat) (e : Ent), es[j]? = some e ∧ ¬ e.ok ∧ (∀ (i : Nat) (f : Ent), i < j → es[i]? = some f → f.ok) ∧ firstErr es = e.err := by
  induction es with
  | nil => exact absurd (fun e he => by simp at he) h
  | cons x es ih =>
    by_cases hx : x.ok
    · obtain ⟨j, e, h1, h2, h3, h4⟩ := ih fun hh => h fun e he => by
        rcases List.mem_cons.1 he with rfl | he
        · exact hx
        · exact hh e he
      refine ⟨j + 1, e, by simpa using h1, h2, fun i f hi hf => ?_, by rw [firstErr, if_pos hx, h4]⟩
      rcases i with _ | i
      · simp at hf; subst hf; exact hx
      · exact h3 i f (by omega) (by simpa using hf)
    · exact ⟨0, x, rfl, hx, fun i f hi => absurd hi (by omega), by rw [firstErr, if_neg hx]⟩
theorem entsErr_bad {es : List Ent} (h : ¬ entsOk es) : entsErr es ≠ 0 := by
  unfold entsErr
  by_cases hl : 200 < es.length
  · rw [if_pos hl]; decide
  · rw [if_neg hl]
    obtain ⟨_, e, _, _, _, h4⟩ := first_bad (es := es) fun hh => h ⟨by omega, hh⟩
    rw [h4]; exact e.err_ne

set_option maxRecDepth 100000 in
theorem ready_bad (A : Option Addr) (n c : Nat) (es : List Ent) (w : World) (hr : Rd w 2 A n c (es.flatMap Ent.cells)) (hm : c ≤ maxLen) (hk : ¬ entsOk es) :
    Calls Tryz.prog 73 #[.slice A n c] w fun e w' => e = .returned (errV (entsErr es)) ∧ Ext w w' := by
  have hx := hr.lenE
  by_cases hn : n ≤ 200
  · obtain ⟨j0, e0, hj0, hbad, hbef, hfe⟩ := first_bad (es := es) fun h => hk ⟨by omega, h⟩
    have HE : Hid (Ending.returned (errV e0.err) = Ending.returned (errV (entsErr es))) := by
      show _ = _
      unfold entsErr
      rw [if_neg (by omega), hfe]
    clear hfe
    have hjl : j0 < n := by have := (List.getElem?_eq_some_iff.1 hj0).1; omega
    have HX := Lib.hid hx
    have HB := Lib.hid hbef
    have HJ := Lib.hid hj0
    have HBAD := Lib.hid hbad
    have hl := hr.2.1
    clear hx hbef hj0 hk hbad
    go_enter Tryz.func73, Tryz.ntmps73
    go_wp2_with fail
    go_loopw [12] (fun x wr => ∃ j : Nat, x = .int .i64 j ∧ j ≤ j0 ∧ Ext w wr) (fun x _ => n - (intOf x).toNat)
    case atStart => exact ⟨0, rfl, Nat.zero_le _, by (repeat (with_reducible first | exact Ext.refl _ | assumption | refine Ext.drew ?_ | refine Ext.drewN ?_ _ | refine Ext.alloc ?_ _ | refine Ext.trans ?_ (by with_reducible assumption)))⟩
    case round =>
      obtain ⟨j, rfl, hj, hbw⟩ := hrel
      by_cases hc : j < j0
      · have hgj := List.getElem?_eq_getElem (l := es) (i := j) (by rw [HX.out]; omega)
        have hok := HB.out j _ hc hgj
        obtain ⟨ad, rfl, hb, c0, c1⟩ := (hr.ext hbw).getE hgj
        generalize es[j]'(by rw [HX.out]; omega) = e at *
        have hjn : j < n := by omega
        go_wp2_with fail
        refine (eCheck_ok _ _ _ hok).mono ?_
        rintro _ w1 ⟨rfl, hb1⟩
        go_wp2_with fail
        go_roundw
        case rel => exact ⟨j + 1, by go_num, by omega, by (repeat (with_reducible first | exact Ext.refl _ | assumption | refine Ext.drew ?_ | refine Ext.drewN ?_ _ | refine Ext.alloc ?_ _ | refine Ext.trans ?_ (by with_reducible assumption)))⟩
        case measure => simp [intOf]; omega
      · obtain rfl : j = j0 := by omega
        obtain ⟨ad, rfl, hb, c0, c1⟩ := (hr.ext hbw).getE HJ.out
        go_wp2_with fail
        refine (eCheck_bad _ _ _ HBAD.out).mono ?_
        rintro _ w1 ⟨rfl, hb1⟩
        simp only [errV]
        go_wp2_with fail
        go_ret
        exact ⟨HE.out, by (repeat (with_reducible first | exact Ext.refl _ | assumption | refine Ext.drew ?_ | refine Ext.drewN ?_ _ | refine Ext.alloc ?_ _ | refine Ext.trans ?_ (by with_reducible assumption)))⟩
  · have HE : Hid (Ending.returned (errV 4) = Ending.returned (errV (entsErr es))) := by
      show _ = _
      unfold entsErr
      rw [if_pos (by omega)]
    clear hx
    go_enter Tryz.func73, Tryz.ntmps73
    go_wp2_with fail
    go_ret
    exact ⟨HE.out, by (repeat (with_reducible first | exact Ext.refl _ | assumption | refine Ext.drew ?_ | refine Ext.drewN ?_ _ | refine Ext.alloc ?_ _ | refine Ext.trans ?_ (by with_reducible assumption)))⟩

theorem info_intL : (Tryz.prog.info? 3).map (fun i => (i.zero, i.size, i.bytes)) = some (some (.int .i64 0), 1, 8) := by kernel_rfl
/-- an entry's leaf -/
def Ent.leaf (e : Ent) : Int := leafL e.bytes.data.toList
theorem oneL (z : Int) : ∀ u ∈ [Value.int .i64 z], u.oneCell' = true := by intro u hu; simp at hu; subst hu; rfl

set_option maxRecDepth 100000 in
set_option maxHeartbeats 1000000 in
theorem Leafs_ok (A : Option Addr) (n c : Nat) (es : List Ent) (w : World) (hr : Rd w 2 A n c (es.flatMap Ent.cells)) (hm : c ≤ maxLen) (hk : entsOk es) :
    Calls Tryz.prog 55 #[.slice A n c] w fun e w' => (∃ v, e = .returned (.tuple #[v, .nilIface]) ∧ w'.ownsRow w.heap.size 3 1 v es.length ((es.map Ent.leaf).map (Value.int .i64))) ∧ Ext w w' := by
  have hx := hr.lenE
  have hn : n ≤ 200 := by have := hk.1; omega
  have HX := Lib.hid hx
  have HK := Lib.hid hk
  have hl := hr.2.1
  clear hx
  obtain ⟨i0, hi0, hz0, hz1, hz2⟩ := info_parts info_intL
  go_enter Tryz.func55, Tryz.ntmps55
  go_wp2_with fail
  refine (ready_ok A n c es _ hr hm HK.out).mono ?_
  rintro _ w0 ⟨rfl, hb0⟩
  go_wp2_with fail
  go_loopw [5, 15] (fun v x wr => ∃ j : Nat, x = .int .i64 j ∧ j ≤ n ∧ Ext w wr ∧ Hid (wr.ownsRow w.heap.size 3 1 v j (((es.take j).map Ent.leaf).map (Value.int .i64)))) (fun _ x _ => n - (intOf x).toNat)
  case atStart => exact ⟨0, rfl, Nat.zero_le _, by (repeat (with_reducible first | exact Ext.refl _ | assumption | refine Ext.drew ?_ | refine Ext.drewN ?_ _ | refine Ext.alloc ?_ _ | refine Ext.trans ?_ (by with_reducible assumption))), own_nil _ _ _ _⟩
  case round =>
    obtain ⟨j, rfl, hj, hbw, hown⟩ := hrel
    by_cases hc : j < n
    · have hgj := List.getElem?_eq_getElem (l := es) (i := j) (by rw [HX.out]; exact hc)
      have hok := HK.out.2 _ (List.mem_of_getElem? hgj)
      obtain ⟨ad, rfl, hb, c0, c1⟩ := (hr.ext hbw).getE hgj
      have HT : Hid ((es.take (j + 1)).map Ent.leaf = (es.take j).map Ent.leaf ++ [(es[j]'(by rw [HX.out]; exact hc)).leaf]) := by
        show _ = _
        rw [List.take_succ_eq_append_getElem (by rw [HX.out]; exact hc), List.map_append]; rfl
      generalize es[j]'(by rw [HX.out]; exact hc) = e at *
      obtain ⟨k0, k1, k2⟩ := hok
      have hsz := e.bytes_size
      have HLF : Hid (leafL e.bytes.data.toList = e.leaf) := rfl
      have hbw0 := hbw.size
      go_wp2_with fail
      refine (eBytes_any _ _ _ k0 (by omega)).mono ?_
      rintro _ w1 ⟨rfl, hb1⟩
      go_wp2_with fail
      refine (Leaf_any e.bytes _ (by omega)).mono ?_
      rintro _ w2 ⟨rfl, hb2⟩
      rw [HLF.out]
      have hs1 := hb1.size
      have hs2 := hb2.size
      go_wp2_with (at_builtin; refine wpl_app (by rfl) _ _ _ (by rfl) w.heap.size 3 i0 _ 1 8 Tryz.underlying38 hi0 hz0 hz1 hz2 rfl (by omega) u5 _ _ (by rfl) ((own_ext hown.out (by (repeat (with_reducible first | exact Ext.refl _ | assumption | refine Ext.drew ?_ | refine Ext.drewN ?_ _ | refine Ext.alloc ?_ _ | refine Ext.trans ?_ (by with_reducible assumption))))).alloc _) w2.heap.size 1 [.int .i64 e.leaf] rfl (by rfl) (news_new w2 _ _ _ rfl) (oneL _) (by omega) (by omega) (by simp at hs1 ⊢; omega) ?_; intro g cap w3 own3 hext3)
      go_roundw
      case rel => exact ⟨j + 1, by go_num, by omega, hext3 _ (Nat.le_refl _) (by (repeat (with_reducible first | exact Ext.refl _ | assumption | refine Ext.drew ?_ | refine Ext.drewN ?_ _ | refine Ext.alloc ?_ _ | refine Ext.trans ?_ (by with_reducible assumption)))), by rw [HT.out, List.map_append]; exact own3⟩
      case measure => simp [intOf]; omega
    · obtain rfl : j = n := by omega
      have hall : es.take j = es := List.take_of_length_le (by rw [HX.out]; omega)
      have HO : Hid (wr.ownsRow w.heap.size 3 1 u5 es.length ((es.map Ent.leaf).map (Value.int .i64))) := by have := hown.out; rw [hall] at this; rw [HX.out]; exact this
      clear hall
      go_wp2_with fail
      go_ret2
      exact ⟨⟨_, rfl, HO.out⟩, by (repeat (with_reducible first | exact Ext.refl _ | assumption | refine Ext.drew ?_ | refine Ext.drewN ?_ _ | refine Ext.alloc ?_ _ | refine Ext.trans ?_ (by with_reducible assumption)))⟩
set_option maxRecDepth 100000 in
theorem Leafs_bad (A : Option Addr) (n c : Nat) (es : List Ent) (w : World) (hr : Rd w 2 A n c (es.flatMap Ent.cells)) (hm : c ≤ maxLen) (hk : ¬ entsOk es) :
    Calls Tryz.prog 55 #[.slice A n c] w fun e w' => e = .returned (.tuple #[.slice none 0 0, errV (entsErr es)]) ∧ Ext w w' := by
  go_enter Tryz.func55, Tryz.ntmps55
  go_wp2_with fail
  refine (ready_bad A n c es _ hr hm hk).mono ?_
  rintro _ w0 ⟨rfl, hb0⟩
  simp only [errV]
  go_wp2_with fail
  go_ret2
  exact ⟨rfl, by (repeat (with_reducible first | exact Ext.refl _ | assumption | refine Ext.drew ?_ | refine Ext.drewN ?_ _ | refine Ext.alloc ?_ _ | refine Ext.trans ?_ (by with_reducible assumption)))⟩
end Go.Proofs.YtmknpehjncpekaaGreatDoor

/- How long the texts of entries that came in are. -/
namespace Go.Proofs.YtmknpehjncpekaaGreatDoor
open Go.ChangeShapes Go.WideShapes Go.ChangeAt Go.RowKit Go.Deep Go.Joins
set_option linter.unusedVariables false
section
variable {H : Type} {enc : TypeId × Value → H} {w : World} {spare : Nat → Bool} {held : Bool}

theorem weightsAllE_mem {P : Program} {e : TypeId} : ∀ {l : List (DataW H)} {d : DataW H} {k : Nat}, d ∈ l → k ∈ d.weights P e → k ∈ DataW.weightsAll P e l
  | d' :: l, d, k, hd, hk => by
    rw [DataW.weightsAll, List.mem_append]
    rcases List.mem_cons.1 hd with rfl | h
    · exact .inl hk
    · exact .inr (weightsAllE_mem h hk)
set_option maxRecDepth 100000 in
theorem weight_dent {n : Nat} {cs : List Value} {x : DataW H × List MemPlace} (h : DataW.trod enc Tryz.prog w 0 spare held n 59 cs = some x) : ∃ y : Ent, cs = y.cells ∧ y.data.size ∈ x.1.weights Tryz.prog 59 := by
  have hC : Tryz.prog.cellsOf 59 = 2 := by kernel_rfl
  have hC1 : Tryz.prog.cellsOf 3 = 1 := by kernel_rfl
  have hC2 : Tryz.prog.cellsOf 9 = 1 := by kernel_rfl
  obtain ⟨xs, m, _, rfl, hlen, hxl, hf⟩ := DataW.trod_struct Tryz.underlying59 h
  rw [hC] at hlen
  have hx2 : xs.length = 2 := hxl
  match cs, hlen, xs, hx2, hf with
  | [c0, c1], _, [x0, x1], _, hf =>
    have t0 : DataW.trod enc Tryz.prog w 0 spare held m 3 (List.take (Tryz.prog.cellsOf 3) (List.drop 0 [c0, c1])) = some x0 := hf 0 _ rfl
    rw [hC1] at t0
    have t1 : DataW.trod enc Tryz.prog w 0 spare held m 9 (List.take (Tryz.prog.cellsOf 9) (List.drop 1 [c0, c1])) = some x1 := hf 1 _ rfl
    rw [hC2] at t1
    have t0' : DataW.trod enc Tryz.prog w 0 spare held m 3 [c0] = some x0 := t0
    have t1' : DataW.trod enc Tryz.prog w 0 spare held m 9 [c1] = some x1 := t1
    obtain ⟨z, hz, _⟩ := DataW.trod_int Tryz.underlying3 t0'
    obtain ⟨s, hs, hx, _⟩ := DataW.trod_string Tryz.underlying9 t1'
    simp at hz hs
    subst hz hs
    refine ⟨⟨z, s⟩, rfl, ?_⟩
    subst hx
    simp only [DataW.weights, Tryz.underlying59]
    refine DataW.weights_mem_each (j := 1) (t := 9) rfl rfl _ ?_
    simp [DataW.weights]
theorem weight_ents {A : Option Addr} {n c : Nat} {es : List Ent} {d : DataW H} {p : List MemPlace} (hr : Rd w 2 A n c (es.flatMap Ent.cells)) (h : DataW.Trod enc Tryz.prog w 0 spare held 22 (.slice A n c) d p) : ∀ e ∈ es, e.data.size ∈ d.weights Tryz.prog 22 := by
  have hC : Tryz.prog.cellsOf 59 = 2 := by kernel_rfl
  obtain ⟨fuel, hf⟩ := h
  intro e he
  obtain ⟨j, hj⟩ := List.getElem?_of_mem he
  have hjl : j < n := by
    have := hr.lenE
    have := (List.getElem?_eq_some_iff.1 hj).1
    omega
  rcases open_slice Tryz.underlying22 hf with ⟨hcs, hx⟩ | ⟨a, len', cap', m, k, D, Pl, hcs, _, hl, hm, hmm, hx, hi⟩
  · simp [Value.cells] at hcs
    omega
  · simp [Value.cells] at hcs
    obtain ⟨rfl, rfl, rfl⟩ := hcs
    injection hx with h1 h2
    subst h1
    obtain ⟨cs', h3, h4⟩ := hi j (by rw [hmm]; split <;> omega)
    rw [hC] at h3
    obtain ⟨y, rfl, hy⟩ := weight_dent h4
    obtain ⟨ad, hA, _, c0, c1⟩ := hr.getE hj
    injection hA with hA
    subst hA
    obtain ⟨_, _, hat⟩ := World.cells?_some h3
    have e1 := hat 1 (by omega)
    have e2 : (a.add (j * 2)).add 1 = ⟨(a.add (j * 2)).block, (a.add (j * 2)).off + 1, none⟩ := rfl
    rw [e2, c1] at e1
    have e4 : some (Value.string e.data) = some (Value.string y.data) := e1
    have e3 : e.data = y.data := Value.string.inj (Option.some.inj e4)
    dsimp only at hy
    rw [e3]
    have h5 : D j ∈ (List.range n).map D := List.mem_map.2 ⟨j, List.mem_range.2 hjl, rfl⟩
    simp only [DataW.weights, Tryz.underlying22, List.mem_cons, List.mem_append]
    exact .inr (.inl (weightsAllE_mem h5 hy))
/-- entries that came in -/
theorem size_ents {A : Option Addr} {n c : Nat} {es : List Ent} {d : DataW H} {p : List MemPlace} {ts : List TypeId} {ds : List (DataW H)} (hs : (DataW.weightsEach Tryz.prog ts ds).all (· ≤ reachBytes) = true) (hr : Rd w 2 A n c (es.flatMap Ent.cells)) (h : DataW.Trod enc Tryz.prog w 0 spare held 22 (.slice A n c) d p)
    {j : Nat} (ht : ts[j]? = some 22) (hd : ds[j]? = some d) : ∀ e ∈ es, e.data.size ≤ 140737488351232 := fun e he => by
  have h1 := List.all_eq_true.1 hs _ (DataW.weights_mem_each ht hd _ (weight_ents hr h e he))
  have h2 : e.data.size ≤ reachBytes := of_decide_eq_true h1
  have h3 : reachBytes = 140737488351232 := rfl
  omega
end
end Go.Proofs.YtmknpehjncpekaaGreatDoor
