/- Slices that a call makes by append: kept, read, appended to; over any program. -/
import Derived.Test.YtnphbkjkeipmmaaGreatDoorJRunBegins0
import Derived.Deep.AppendLies
import Derived.Deep.RegionHeld3
import Derived.OwnWalk
import Derived.Test.YtnphbkjkeipmmaaGreatDoorJRunBegins3
import Derived.Deep.DrawnRows
namespace Go.Proofs.YtnphbkjkeipmmaaGreatDoor
set_option linter.unusedVariables false
open Go.RowKit

section
variable {w w' : World} {base n size : Nat} {e : TypeId} {v : Value} {xs : List Value}
theorem own_ext (h : w.ownsRow base e size v n xs) (hb : Ext w w') : w'.ownsRow base e size v n xs := by
  obtain ⟨h1, h2⟩ := h
  refine ⟨h1, ?_⟩
  rcases h2 with h2 | ⟨g, cap, cur, hv, hg, hh, r⟩
  · exact .inl h2
  · refine .inr ⟨g, cap, cur, hv, hg, ?_, r⟩
    have hlt : g < w.heap.size := by
      rcases Nat.lt_or_ge g w.heap.size with hl | hl
      · exact hl
      · rw [Array.getElem?_eq_none hl] at hh; cases hh
    exact (Below.block hb g hlt).trans hh
theorem own_lower (h : w.ownsRow base e size v n xs) {b : Nat} (hb : b ≤ base) : w.ownsRow b e size v n xs := by
  obtain ⟨h1, h2⟩ := h
  refine ⟨h1, ?_⟩
  rcases h2 with h2 | ⟨g, cap, cur, hv, hg, r⟩
  · exact .inl h2
  · exact .inr ⟨g, cap, cur, hv, by omega, r⟩
theorem own_rd (h : w.ownsRow base e size v n xs) : ∃ A c, v = .slice A n c ∧ c ≤ maxLen ∧ Rd w size A n c xs ∧ (n = 0 → A = none ∧ c = 0 ∨ A ≠ none) := by
  obtain ⟨h1, h2⟩ := id h
  rcases h2 with ⟨rfl, rfl⟩ | ⟨g, cap, cur, rfl, hg, hh, hn, hm, r⟩
  · have : xs = [] := List.eq_nil_of_length_eq_zero (by simpa using h1)
    subst this
    exact ⟨none, 0, rfl, Nat.zero_le _, Rd.nil _ _ _ _, fun _ => .inl ⟨rfl, rfl⟩⟩
  · refine ⟨some ⟨g, 0, none⟩, cap, rfl, hm, ⟨h1, hn, fun _ => ⟨_, rfl, ?_, h.cells (g := g) rfl⟩⟩, fun _ => .inr (by simp)⟩
    rcases Nat.lt_or_ge g w.heap.size with hl | hl
    · exact hl
    · rw [Array.getElem?_eq_none hl] at hh; cases hh
theorem own_nil (w : World) (base : Nat) (e : TypeId) (size : Nat) : w.ownsRow base e size (.slice none 0 0) 0 [] := ⟨by simp, .inl ⟨rfl, rfl⟩⟩
theorem own_len (h : w.ownsRow base e size v n xs) : xs.length = n * size := h.1
theorem own_block (h : w.ownsRow base e size v n xs) : ∀ k, v.ownBlock = some k → base ≤ k := by
  intro k hk
  rcases h.2 with ⟨rfl, _⟩ | ⟨g, cap, cur, rfl, hg, _⟩
  · simp [Value.ownBlock] at hk
  · simp [Value.ownBlock] at hk; omega
theorem own_grown (h : w.ownsRow base e size v n xs) (hg : w.grownBy w' v.ownBlock) : ∀ u, u.heap.size ≤ base → Ext u w → Ext u w' :=
  fun u hu hb => hb.grown hg fun k hk => Nat.le_trans hu (own_block h k hk)
theorem news_new (W : World) (t : TypeId) (cs : List Value) (H : Nat) (hH : W.heap.size = H) : ∀ j u, cs[j]? = some u → (W.alloc (.cells cs.toArray t)).cell? ((⟨H, 0, none⟩ : Addr).add j) = some u := by
  intro j u hu
  subst hH
  rw [add_mk, Nat.zero_add, World.cell?_alloc_new]
  simpa using hu
end

section
variable {P : Program} {w : World}
theorem wp_app {o : Oper} {a : Act} {K : Act → World → Prop} {Q : Exit → Act → World → Prop} (s x : Operand) (t : TypeId)
    (ho : o.op = .call { callee := .builtin .append, args := #[s, x], argTypes := #[t, t] })
    (base : Nat) (e : TypeId) (i : TypeInfo) (z : Value) (size bytes : Nat) (ht : P.underlying t = some (.slice e)) (hi : P.info? e = some i) (hz : i.zero = some z)
    (hsize : i.size = size) (hby : i.bytes = bytes) (hzs : z.cells.size = size) (hsz : 0 < size)
    (v : Value) (n : Nat) (xs : List Value) (hs : a.eval s = v) (hown : w.ownsRow base e size v n xs)
    (H c : Nat) (cs : List Value) (hcs : cs.length = size) (hx : a.eval x = .slice (some ⟨H, 0, none⟩) 1 c) (hnews : ∀ j u, cs[j]? = some u → w.cell? ((⟨H, 0, none⟩ : Addr).add j) = some u) (h1 : ∀ u ∈ cs, u.oneCell' = true)
    (h63 : n ≤ 1048576) (hbytes : bytes ≤ 1048576) (hbase : base ≤ w.heap.size)
    (h : ∀ g cap w', w'.ownsRow base e size (.slice (some ⟨g, 0, none⟩) (n + 1) cap) (n + 1) (xs ++ cs) → (∀ u, u.heap.size ≤ base → Ext u w → Ext u w') → K (a.put o.dst (.slice (some ⟨g, 0, none⟩) (n + 1) cap)) w') : o.wp P a w K Q :=
  wp_append_lies w s x t ho base e i z size bytes ht hi hz hsize hby hzs hsz v n xs hs hown ⟨H, 0, none⟩ 1 c cs hx (by rw [hcs, Nat.one_mul]) hnews h1 (by omega) (by simp only [maxLen]; omega)
    (by have := Nat.mul_le_mul (show n + 1 ≤ 1048577 by omega) hbytes; omega) hbase w.heap.size rfl
    fun g cap w' h2 h3 h4 h5 => h g cap w' h2 (own_grown hown h3)
/-- at a plain region's list -/
theorem wpl_app {ops : Array Oper} {rest : List Oper} {o : Oper} {a : Act} {Q : Exit → Act → World → Prop} (hgd : o.guard = none) (s x : Operand) (t : TypeId)
    (ho : o.op = .call { callee := .builtin .append, args := #[s, x], argTypes := #[t, t] })
    (base : Nat) (e : TypeId) (i : TypeInfo) (z : Value) (size bytes : Nat) (ht : P.underlying t = some (.slice e)) (hi : P.info? e = some i) (hz : i.zero = some z)
    (hsize : i.size = size) (hby : i.bytes = bytes) (hzs : z.cells.size = size) (hsz : 0 < size)
    (v : Value) (n : Nat) (xs : List Value) (hs : a.eval s = v) (hown : w.ownsRow base e size v n xs)
    (H c : Nat) (cs : List Value) (hcs : cs.length = size) (hx : a.eval x = .slice (some ⟨H, 0, none⟩) 1 c) (hnews : ∀ j u, cs[j]? = some u → w.cell? ((⟨H, 0, none⟩ : Addr).add j) = some u) (h1 : ∀ u ∈ cs, u.oneCell' = true)
    (h63 : n ≤ 1048576) (hbytes : bytes ≤ 1048576) (hbase : base ≤ w.heap.size)
    (h : ∀ g cap w', w'.ownsRow base e size (.slice (some ⟨g, 0, none⟩) (n + 1) cap) (n + 1) (xs ++ cs) → (∀ u, u.heap.size ≤ base → Ext u w → Ext u w') → wpList P ops Q rest (a.put o.dst (.slice (some ⟨g, 0, none⟩) (n + 1) cap)) w') : wpList P ops Q (o :: rest) a w :=
  wpList_plain hgd fun _ hK => wp_app s x t ho base e i z size bytes ht hi hz hsize hby hzs hsz v n xs hs hown H c cs hcs hx hnews h1 h63 hbytes hbase fun g cap w' h2 h3 => hK _ _ (h g cap w' h2 h3)
/-- at a step of a region that draws its order -/
theorem step_app {ops : Array Oper} {o : Oper} {a : Act} {K : Act → World → Prop} {Q : Exit → Act → World → Prop} {E : Prop} (hgd : o.guard = none) (s x : Operand) (t : TypeId)
    (ho : o.op = .call { callee := .builtin .append, args := #[s, x], argTypes := #[t, t] })
    (base : Nat) (e : TypeId) (i : TypeInfo) (z : Value) (size bytes : Nat) (ht : P.underlying t = some (.slice e)) (hi : P.info? e = some i) (hz : i.zero = some z)
    (hsize : i.size = size) (hby : i.bytes = bytes) (hzs : z.cells.size = size) (hsz : 0 < size)
    (v : Value) (n : Nat) (xs : List Value) (hs : a.eval s = v) (hown : w.ownsRow base e size v n xs)
    (H c : Nat) (cs : List Value) (hcs : cs.length = size) (hx : a.eval x = .slice (some ⟨H, 0, none⟩) 1 c) (hnews : ∀ j u, cs[j]? = some u → w.cell? ((⟨H, 0, none⟩ : Addr).add j) = some u) (h1 : ∀ u ∈ cs, u.oneCell' = true)
    (h63 : n ≤ 1048576) (hbytes : bytes ≤ 1048576) (hbase : base ≤ w.heap.size)
    (h : ∀ g cap w', w'.ownsRow base e size (.slice (some ⟨g, 0, none⟩) (n + 1) cap) (n + 1) (xs ++ cs) → (∀ u, u.heap.size ≤ base → Ext u w → Ext u w') → K (a.put o.dst (.slice (some ⟨g, 0, none⟩) (n + 1) cap)) w') :
    if Region.wanted o (yielded ops a.tmps) = true then Oper.wp P o a w K Q else E := by
  have hw : Region.wanted o (yielded ops a.tmps) = true := by simp [Region.wanted, hgd]
  rw [if_pos hw]
  exact wp_app s x t ho base e i z size bytes ht hi hz hsize hby hzs hsz v n xs hs hown H c cs hcs hx hnews h1 h63 hbytes hbase h
end
end Go.Proofs.YtnphbkjkeipmmaaGreatDoor

/- Worlds in which one block alone was written, and new ones were made; over any program. -/
namespace Go.Proofs.YtnphbkjkeipmmaaGreatDoor
set_option linter.unusedVariables false
open Go.RowKit

section
variable {a b w w' : World} {row : Option Nat} {g : Nat} {t : TypeId} {cs : Array Value}
theorem Ext.gb (h : Ext a b) (row : Option Nat) : a.grownBy b row := ⟨h.os, h.tape, h.output, Below.size h, fun k hk _ => Below.block h k hk⟩
theorem gb_trans {c : World} (h : a.grownBy b row) (k : b.grownBy c row) : a.grownBy c row :=
  ⟨k.os.trans h.os, k.tape.trans h.tape, k.output.trans h.output, Nat.le_trans h.size k.size, fun i hi hne => (k.block i (Nat.lt_of_lt_of_le hi h.size) hne).trans (h.block i hi hne)⟩
theorem gb_none (h : a.grownBy b none) : Ext a b := ⟨h.os, h.tape, h.output, h.size, fun k hk => h.block k hk (by simp)⟩
theorem gb_any (h : a.grownBy b none) (row : Option Nat) : a.grownBy b row := (gb_none h).gb row
theorem gb_set (w : World) (g i : Nat) (u : Value) : w.grownBy (w.setCell ⟨g, i, none⟩ u) (some g) := by
  have h := Below.setCell (Below.refl g w) (p := ⟨g, i, none⟩) (Nat.le_refl _) u
  exact ⟨h.os, h.tape, h.output, h.size, fun k hk hne => Below.heap_setCell w ⟨g, i, none⟩ u k (fun e => hne (by rw [e]))⟩
theorem gb_drew (h : a.grownBy b row) : a.grownBy b.drew row := ⟨h.os, h.tape, h.output, h.size, h.block⟩
theorem gb_alloc (h : a.grownBy b row) (o : Obj) : a.grownBy (b.alloc o) row := gb_trans h (World.grownBy_alloc b o row)
theorem gb_ext (h : a.grownBy b row) {c : World} (k : Ext b c) : a.grownBy c row := gb_trans h (k.gb row)
theorem Ext.gbt (h : Ext a b) {c : World} (k : b.grownBy c row) : a.grownBy c row := gb_trans (h.gb row) k
/-- written at a block that is new to the elder world -/
theorem gb_new (h : a.grownBy b row) {c : World} (k : b.grownBy c (some g)) (hg : a.heap.size ≤ g) : a.grownBy c row :=
  ⟨k.os.trans h.os, k.tape.trans h.tape, k.output.trans h.output, Nat.le_trans h.size k.size, fun i hi hne => (k.block i (Nat.lt_of_lt_of_le hi h.size) (by simp; omega)).trans (h.block i hi hne)⟩
theorem gb_row (h : a.grownBy b row) {c : World} {r : Option Nat} (k : b.grownBy c r) (hg : ∀ g, r = some g → a.heap.size ≤ g) : a.grownBy c row := by
  cases r with
  | none => exact gb_ext h (gb_none k)
  | some g => exact gb_new h k (hg g rfl)
theorem Ext.gbn (h : Ext a b) {c : World} (k : b.grownBy c (some g)) (hg : a.heap.size ≤ g) : Ext a c := gb_none (gb_new (h.gb none) k hg)
theorem Bk.kept (h : Bk w g t cs) (hg : w.grownBy w' row) (hne : row ≠ some g) : Bk w' g t cs := (hg.block g h.lt (fun e => hne e.symm)).trans h
theorem Rd.kept {size n c : Nat} {A : Option Addr} {xs : List Value} (h : Rd w size A n c xs) (hg : w.grownBy w' row) (hne : 0 < n → ∀ ad, A = some ad → row ≠ some ad.block) : Rd w' size A n c xs :=
  ⟨h.1, h.2.1, fun hn => by
    obtain ⟨ad, e, hl, hc⟩ := h.2.2 hn
    refine ⟨ad, e, Nat.lt_of_lt_of_le hl hg.size, fun j u hu => hg.cell (hc j u hu) (by rw [blk_add]; exact fun e' => hne hn ad e e'.symm)⟩⟩
theorem gb_below {c : World} {N : Nat} (h : a.grownBy b row) (k : Below N b c) (hN : a.heap.size ≤ N) : a.grownBy c row :=
  ⟨k.os.trans h.os, k.tape.trans h.tape, k.output.trans h.output, Nat.le_trans h.size k.size, fun i hi hne => (k.block i (by omega)).trans (h.block i hi hne)⟩
theorem below_gb {N : Nat} (h : w.grownBy w' row) (hN : N ≤ w.heap.size) (hr : ∀ g, row = some g → N ≤ g) : Below N w w' :=
  ⟨h.os, h.tape, h.output, h.size, fun k hk => h.block k (by omega) (fun e => by have := hr k e.symm; omega)⟩
theorem below_trans {N : Nat} {c : World} (h : Below N a b) (k : Below N b c) : Below N a c :=
  ⟨k.os.trans h.os, k.tape.trans h.tape, k.output.trans h.output, Nat.le_trans h.size k.size, fun i hi => (k.block i hi).trans (h.block i hi)⟩
theorem Bk.below {N : Nat} (h : Bk w g t cs) (hB : Below N w w') (hg : g < N) : Bk w' g t cs := (hB.block g hg).trans h
theorem Rd.below {size n c N : Nat} {A : Option Addr} {xs : List Value} (h : Rd w size A n c xs) (hB : Below N w w') (hne : 0 < n → ∀ ad, A = some ad → ad.block < N) : Rd w' size A n c xs :=
  ⟨h.1, h.2.1, fun hn => by
    obtain ⟨ad, e, hl, hc⟩ := h.2.2 hn
    have hb := hne hn ad e
    exact ⟨ad, e, Nat.lt_of_lt_of_le hl hB.size, fun j u hu => (Below.cell hB (p := ad.add j) (by rw [blk_add]; exact hb)).trans (hc j u hu)⟩⟩
theorem Rd.blk {size n c : Nat} {A : Option Addr} {xs : List Value} (h : Rd w size A n c xs) : 0 < n → ∀ ad, A = some ad → ad.block < w.heap.size := fun hn ad e => by
  obtain ⟨ad', e', hl, _⟩ := h.2.2 hn
  rw [e] at e'
  injection e' with e'
  rw [e']
  exact hl
/-- a slice that is owned lies in its own block -/
theorem own_addr {base n c size : Nat} {e : TypeId} {A : Option Addr} {xs : List Value} (h : w.ownsRow base e size (.slice A n c) n xs) : ∀ ad, A = some ad → base ≤ ad.block := by
  intro ad hA
  subst hA
  exact own_block h _ rfl
end

/-! ### Four rows in a block of slices -/
def rowsA (vs : Nat → Value) : Array Value := #[vs 0, vs 1, vs 2, vs 3]
structure Rows4 (E T : TypeId) (w : World) (gs B : Nat) (vs : Nat → Value) (L : Nat → List Int) : Prop where
  bk : Bk w gs T (rowsA vs)
  lt : gs < B
  le : B ≤ w.heap.size
  own : ∀ k, k < 4 → w.ownsRow B E 1 (vs k) (L k).length ((L k).map (Value.int .i64))
  apart : ∀ k k' g, k < 4 → k' < 4 → k ≠ k' → (vs k).ownBlock = some g → (vs k').ownBlock ≠ some g
def upd {α : Type} (f : Nat → α) (k : Nat) (x : α) : Nat → α := fun i => if i = k then x else f i
theorem upd_same {α : Type} (f : Nat → α) (k : Nat) (x : α) : upd f k x k = x := if_pos rfl
theorem upd_other {α : Type} (f : Nat → α) {k i : Nat} (x : α) (h : i ≠ k) : upd f k x i = f i := if_neg h
theorem rowsA_set (vs : Nat → Value) (k : Nat) (v : Value) (hk : k < 4) : (rowsA vs).setIfInBounds k v = rowsA (upd vs k v) := by
  have : k = 0 ∨ k = 1 ∨ k = 2 ∨ k = 3 := by omega
  rcases this with rfl | rfl | rfl | rfl <;> rfl
theorem rowsA_get (vs : Nat → Value) (k : Nat) (hk : k < 4) : (rowsA vs)[k]? = some (vs k) := by
  have : k = 0 ∨ k = 1 ∨ k = 2 ∨ k = 3 := by omega
  rcases this with rfl | rfl | rfl | rfl <;> rfl
section
variable {E T : TypeId} {w w' : World} {gs B : Nat} {vs : Nat → Value} {L : Nat → List Int}
theorem Rows4.kept (h : Rows4 E T w gs B vs L) {row : Option Nat} (hg : w.grownBy w' row) (hr : ∀ g, row = some g → g < gs) : Rows4 E T w' gs B vs L where
  bk := h.bk.kept hg fun e => absurd (hr _ e) (Nat.lt_irrefl _)
  lt := h.lt
  le := Nat.le_trans h.le hg.size
  own := fun k hk => (h.own k hk).kept hg (by
    by_cases hv : (vs k).ownBlock = row
    · left
      cases hb : (vs k).ownBlock with
      | none => rfl
      | some g =>
        have h1 := ((h.own k hk).lt g hb).1
        have h2 := hr g (hv.symm.trans hb)
        have h3 := h.lt
        omega
    · exact .inr hv)
  apart := h.apart
theorem Rows4.ext (h : Rows4 E T w gs B vs L) (hg : Ext w w') : Rows4 E T w' gs B vs L := h.kept (hg.gb none) (by simp)
/-- a row has grown, and was stored anew -/
theorem Rows4.add (h : Rows4 E T w gs B vs L) {k g cap : Nat} {l : List Int} {w1 : World} (hk : k < 4)
    (hown : w1.ownsRow B E 1 (.slice (some ⟨g, 0, none⟩) l.length cap) l.length (l.map (Value.int .i64))) (hg : w.grownBy w1 (vs k).ownBlock) (hH : (vs k).ownBlock = some g ∨ w.heap.size ≤ g) :
    Rows4 E T (w1.setCell ⟨gs, k, none⟩ (.slice (some ⟨g, 0, none⟩) l.length cap)) gs B (upd vs k (.slice (some ⟨g, 0, none⟩) l.length cap)) (upd L k l) where
  bk := by
    have h1 : Bk w1 gs T (rowsA vs) := h.bk.kept hg fun e => by
      have h1 := ((h.own k hk).lt gs e).1
      have h2 := h.lt
      omega
    have := h1.set_ k (.slice (some ⟨g, 0, none⟩) l.length cap)
    rwa [rowsA_set _ _ _ hk] at this
  lt := h.lt
  le := Nat.le_trans (Nat.le_trans h.le hg.size) (gb_set w1 gs k _).size
  own := fun k' hk' => by
    have hset := gb_set w1 gs k (.slice (some ⟨g, 0, none⟩) l.length cap)
    by_cases hkk : k' = k
    · subst hkk
      rw [upd_same, upd_same]
      refine hown.kept hset (.inr ?_)
      have h1 := (hown.lt g rfl).1
      have h2 := h.lt
      show some g ≠ some gs
      simp; omega
    · rw [upd_other _ _ hkk, upd_other _ _ hkk]
      have h1 : w1.ownsRow B E 1 (vs k') (L k').length ((L k').map (Value.int .i64)) := (h.own k' hk').kept hg (by
        cases hb : (vs k').ownBlock with
        | none => exact .inl rfl
        | some g' => exact .inr fun e => h.apart k' k g' hk' hk hkk hb e.symm)
      refine h1.kept hset ?_
      cases hb : (vs k').ownBlock with
      | none => exact .inl rfl
      | some g' =>
        have h2 := ((h.own k' hk').lt g' hb).1
        have h3 := h.lt
        exact .inr (by simp; omega)
  apart := fun i j g' hi hj hij hg' => by
    by_cases hik : i = k
    · subst hik
      rw [upd_same] at hg'
      rw [upd_other _ _ (Ne.symm hij)]
      have : g = g' := by simpa [Value.ownBlock] using hg'
      subst this
      intro hc
      rcases hH with hH | hH
      · exact h.apart i j g hi hj hij hH hc
      · have := ((h.own j hj).lt g hc).2; omega
    · rw [upd_other _ _ hik] at hg'
      by_cases hjk : j = k
      · subst hjk
        rw [upd_same]
        intro hc
        have : g = g' := by simpa [Value.ownBlock] using hc
        subst this
        rcases hH with hH | hH
        · exact h.apart i j g hi hj hij hg' hH
        · have := ((h.own i hi).lt g hg').2; omega
      · rw [upd_other _ _ hjk]
        exact h.apart i j g' hi hj hij hg'
end

/-- 'append' of some cells that lie anywhere, at a step of a region that draws its order -/
theorem step_apps {P : Program} {w : World} {ops : Array Oper} {o : Oper} {a : Act} {K : Act → World → Prop} {Q : Exit → Act → World → Prop} {E : Prop} (hgd : o.guard = none) (s x : Operand) (t : TypeId)
    (ho : o.op = .call { callee := .builtin .append, args := #[s, x], argTypes := #[t, t] })
    (base : Nat) (e : TypeId) (i : TypeInfo) (z : Value) (size bytes : Nat) (ht : P.underlying t = some (.slice e)) (hi : P.info? e = some i) (hz : i.zero = some z)
    (hsize : i.size = size) (hby : i.bytes = bytes) (hzs : z.cells.size = size) (hsz : 0 < size)
    (v : Value) (n : Nat) (xs : List Value) (hs : a.eval s = v) (hown : w.ownsRow base e size v n xs)
    (ad : Addr) (m c : Nat) (news : List Value) (hx : a.eval x = .slice (some ad) m c) (hl : news.length = m * size) (hnews : ∀ j u, news[j]? = some u → w.cell? (ad.add j) = some u) (h1 : ∀ u ∈ news, u.oneCell' = true)
    (hm : 0 < m) (h63 : n + m ≤ 1048576) (hbytes : bytes ≤ 1048576) (hbase : base ≤ w.heap.size)
    (h : ∀ g cap w', w'.ownsRow base e size (.slice (some ⟨g, 0, none⟩) (n + m) cap) (n + m) (xs ++ news) → w.grownBy w' v.ownBlock → (v.ownBlock = some g ∨ g = w.heap.size) → g < w'.heap.size → K (a.put o.dst (.slice (some ⟨g, 0, none⟩) (n + m) cap)) w') :
    if Region.wanted o (yielded ops a.tmps) = true then Oper.wp P o a w K Q else E := by
  have hw : Region.wanted o (yielded ops a.tmps) = true := by simp [Region.wanted, hgd]
  rw [if_pos hw]
  exact wp_append_lies w s x t ho base e i z size bytes ht hi hz hsize hby hzs hsz v n xs hs hown ad m c news hx hl hnews h1 hm (by simp only [maxLen]; omega)
    (by have := Nat.mul_le_mul (show n + m ≤ 1048576 by omega) hbytes; omega) hbase _ rfl h

/-- 'append' of some cells that lie anywhere, at a plain region's list -/
theorem wpl_apps {P : Program} {w : World} {ops : Array Oper} {rest : List Oper} {o : Oper} {a : Act} {Q : Exit → Act → World → Prop} (hgd : o.guard = none) (s x : Operand) (t : TypeId)
    (ho : o.op = .call { callee := .builtin .append, args := #[s, x], argTypes := #[t, t] })
    (base : Nat) (e : TypeId) (i : TypeInfo) (z : Value) (size bytes : Nat) (ht : P.underlying t = some (.slice e)) (hi : P.info? e = some i) (hz : i.zero = some z)
    (hsize : i.size = size) (hby : i.bytes = bytes) (hzs : z.cells.size = size) (hsz : 0 < size)
    (v : Value) (n : Nat) (xs : List Value) (hs : a.eval s = v) (hown : w.ownsRow base e size v n xs)
    (ad : Addr) (m c : Nat) (news : List Value) (hx : a.eval x = .slice (some ad) m c) (hl : news.length = m * size) (hnews : ∀ j u, news[j]? = some u → w.cell? (ad.add j) = some u) (h1 : ∀ u ∈ news, u.oneCell' = true)
    (hm : 0 < m) (h63 : n + m ≤ 1048576) (hbytes : bytes ≤ 1048576) (hbase : base ≤ w.heap.size)
    (h : ∀ g cap w', w'.ownsRow base e size (.slice (some ⟨g, 0, none⟩) (n + m) cap) (n + m) (xs ++ news) → w.grownBy w' v.ownBlock → (v.ownBlock = some g ∨ g = w.heap.size) → g < w'.heap.size → wpList P ops Q rest (a.put o.dst (.slice (some ⟨g, 0, none⟩) (n + m) cap)) w') : wpList P ops Q (o :: rest) a w :=
  wpList_plain hgd fun _ hK => wp_append_lies w s x t ho base e i z size bytes ht hi hz hsize hby hzs hsz v n xs hs hown ad m c news hx hl hnews h1 hm (by simp only [maxLen]; omega)
    (by have := Nat.mul_le_mul (show n + m ≤ 1048576 by omega) hbytes; omega) hbase _ rfl fun g cap w' h2 h3 h4 h5 => hK _ _ (h g cap w' h2 h3 h4 h5)
end Go.Proofs.YtnphbkjkeipmmaaGreatDoor

namespace Go.Proofs.YtnphbkjkeipmmaaGreatDoor
open Go.RowKit Go.WideShapes
set_option linter.unusedVariables false
attribute [local go_sem ↓] Go.wp_at_zero Go.wp_at_succ

/-- a function value that asks whether a number is no sum -/
def AsksNot (K : Nat) : Prop := (∀ (n : Int) (w : World), Calls Tryz.prog K #[.int .i64 n] w fun e w' => e = .returned (.bool (!vld n)) ∧ w = w') ∧ ∀ (v : Value) (w : World), (callFunc K #[v]).run Tryz.prog w = .ok (.enter K #[v]) w
set_option maxRecDepth 100000 in
theorem IndexFunc_all (K : Nat) (hK : AsksNot K) (A : Option Addr) (n c : Nat) (xs : List Int) (w : World) (hr : Rd w 1 A n c (xs.map (Value.int .i64))) (hm : c ≤ maxLen) (hv : allV xs = true) :
    Calls Tryz.prog 166 #[.slice A n c, .func (.func K) #[] #[]] w fun e w' => e = .returned (.int .i64 (-1)) ∧ w = w' := by
  have HV := Lib.hid hv
  have hl : n ≤ c := hr.2.1
  have HX := Lib.hid hr.lenI
  have HK := Lib.hid hK.1
  have hrun := hK.2
  clear hv hK
  unfold maxLen at hm
  go_enter Tryz.func166, Tryz.ntmps166
  go_wp2
  go_loop [8] (fun i => ∃ k : Nat, k ≤ n ∧ i = .int .i64 k) (fun i => n - (intOf i).toNat)
  case atStart => exact ⟨0, Nat.zero_le _, rfl⟩
  case round =>
    obtain ⟨k, hk, rfl⟩ := hrel
    by_cases hlt : k < n
    · obtain ⟨ad, hA, hb, hcell⟩ := hr.getI (j := k) (List.getElem?_eq_getElem (by rw [HX.out]; exact hlt))
      subst hA
      have hvk := allV_get HV.out (j := k) (List.getElem?_eq_getElem (by rw [HX.out]; exact hlt))
      generalize xs[k]'(by rw [HX.out]; exact hlt) = z at *
      go_wp2_with fail
      refine (HK.out z _).mono ?_
      rintro e w' ⟨rfl, rfl⟩
      go_wp2_with fail
      go_round
      case rel => exact ⟨k + 1, by omega, by go_num⟩
      case measure => simp [intOf]; omega
    · go_wp2_with fail
      go_ret
      exact ⟨rfl, rfl⟩

set_option maxRecDepth 100000 in
theorem IndexFunc_some (K : Nat) (hK : AsksNot K) (A : Option Addr) (n c : Nat) (xs : List Int) (w : World) (hr : Rd w 1 A n c (xs.map (Value.int .i64))) (hm : c ≤ maxLen) (hv : allV xs = false) :
    Calls Tryz.prog 166 #[.slice A n c, .func (.func K) #[] #[]] w fun e w' => (∃ k : Nat, e = .returned (.int .i64 k)) ∧ w = w' := by
  obtain ⟨j, z, hj, hz, hbefore⟩ := allV_not hv
  have hl : n ≤ c := hr.2.1
  have hx := hr.lenI
  have hjl : j < xs.length := (List.getElem?_eq_some_iff.1 hj).1
  have hjn : j < n := by omega
  have HX := Lib.hid hx
  have HJ := Lib.hid hj
  have HB := Lib.hid hbefore
  have HK := Lib.hid hK.1
  have hrun := hK.2
  clear hv hx hj hbefore hjl hK
  unfold maxLen at hm
  have HQ : ∀ k : Nat, Hid (∃ k' : Nat, Ending.returned (.int .i64 (k : Int)) = Ending.returned (.int .i64 (k' : Int))) := fun k => ⟨k, rfl⟩
  go_enter Tryz.func166, Tryz.ntmps166
  go_wp2
  go_loop [8] (fun i => ∃ k : Nat, k ≤ j ∧ i = .int .i64 k) (fun i => n - (intOf i).toNat)
  case atStart => exact ⟨0, Nat.zero_le _, rfl⟩
  case round =>
    obtain ⟨k, hk, rfl⟩ := hrel
    by_cases hlt : k < j
    · obtain ⟨ad, hA, hb, hcell⟩ := hr.getI (j := k) (List.getElem?_eq_getElem (by rw [HX.out]; omega))
      subst hA
      have hvk := HB.out k _ hlt (List.getElem?_eq_getElem (by rw [HX.out]; omega))
      generalize xs[k]'(by rw [HX.out]; omega) = u at *
      have hkn : k < n := by omega
      go_wp2_with fail
      refine (HK.out u _).mono ?_
      rintro e w' ⟨rfl, rfl⟩
      go_wp2_with fail
      go_round
      case rel => exact ⟨k + 1, by omega, by go_num⟩
      case measure => simp [intOf]; omega
    · obtain rfl : k = j := by omega
      obtain ⟨ad, hA, hb, hcell⟩ := hr.getI (j := k) HJ.out
      subst hA
      go_wp2_with fail
      refine (HK.out z _).mono ?_
      rintro e w' ⟨rfl, rfl⟩
      go_wp2_with fail
      go_ret
      exact ⟨(HQ k).out, rfl⟩

theorem ContainsFunc_any (K : Nat) (hK : AsksNot K) (A : Option Addr) (n c : Nat) (xs : List Int) (w : World) (hr : Rd w 1 A n c (xs.map (Value.int .i64))) (hm : c ≤ maxLen) :
    Calls Tryz.prog 141 #[.slice A n c, .func (.func K) #[] #[]] w fun e w' => e = .returned (.bool (!allV xs)) ∧ w = w' := by
  have HK := Lib.hid hK
  clear hK
  cases hv : allV xs
  · have HV := Lib.hid hv
    clear hv
    go_enter Tryz.func141, Tryz.ntmps141
    go_wp2_with fail
    refine (IndexFunc_some K HK.out A n c xs _ hr hm HV.out).mono ?_
    rintro e w' ⟨⟨k, rfl⟩, rfl⟩
    go_wp2_with fail
    go_ret
    exact ⟨rfl, rfl⟩
  · have HV := Lib.hid hv
    clear hv
    go_enter Tryz.func141, Tryz.ntmps141
    go_wp2_with fail
    refine (IndexFunc_all K HK.out A n c xs _ hr hm HV.out).mono ?_
    rintro e w' ⟨rfl, rfl⟩
    go_wp2_with fail
    go_ret
    exact ⟨rfl, rfl⟩

end Go.Proofs.YtnphbkjkeipmmaaGreatDoor
