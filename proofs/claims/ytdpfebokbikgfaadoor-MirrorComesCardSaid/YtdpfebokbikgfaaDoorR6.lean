/- The references' leafs of data. -/
import Derived.Test.YtdpfebokbikgfaaDoorR2
import Derived.Test.YtdpfebokbikgfaaDoorQuietT
import Derived.Deep.DeepCutAuto
namespace Go.Proofs.YtdpfebokbikgfaaDoor
open Go.RowKit Go.WideShapes
set_option linter.unusedVariables false
attribute [local go_sem ↓] Go.wp_at_zero Go.wp_at_succ

def newsS (s : ByteArray) : List Value := s.data.toList.map fun b => Value.int .u8 b.toNat
theorem newsS_len (s : ByteArray) : (newsS s).length = s.size * 1 := by unfold newsS; rw [List.length_map, Nat.mul_one]; rfl
theorem newsS_one (s : ByteArray) : ∀ u ∈ newsS s, u.oneCell' = true := by
  intro u hu
  unfold newsS at hu
  rw [List.mem_map] at hu
  obtain ⟨x, _, rfl⟩ := hu
  rfl
theorem newsS_int (s : ByteArray) : newsS s = (s.data.toList.map fun b => (b.toNat : Int)).map (Value.int .u8) := by unfold newsS; rw [List.map_map]; rfl
theorem conv_cells (w : World) (s : ByteArray) (cap : Nat) (e : TypeId) (m : Nat × Nat) (H : Nat) (hH : w.heap.size = H) : ∀ j u, (newsS s)[j]? = some u → (w.alloc (.cells (bytesRow s cap) e m)).cell? ((⟨H, 0, none⟩ : Addr).add j) = some u := by
  intro j u hu
  subst hH
  unfold newsS at hu
  rw [List.getElem?_map, Option.map_eq_some_iff] at hu
  obtain ⟨b, hb, rfl⟩ := hu
  obtain ⟨h1, h2⟩ := List.getElem?_eq_some_iff.1 hb
  have hj : j < s.data.size := by simpa using h1
  rw [add_mk, Nat.zero_add, World.cell?_alloc_mark]
  rw [bytesRow_at s cap j hj]
  have : s.data[j] = b := by simpa using h2
  rw [this]
/-- 'append' of some cells, none too -/
theorem wpl_appa {P : Program} {w : World} {ops : Array Oper} {rest : List Oper} {o : Oper} {a : Act} {Q : Exit → Act → World → Prop} (hgd : o.guard = none) (s x : Operand) (t : TypeId)
    (ho : o.op = .call { callee := .builtin .append, args := #[s, x], argTypes := #[t, t] })
    (base : Nat) (e : TypeId) (i : TypeInfo) (z : Value) (size bytes : Nat) (ht : P.underlying t = some (.slice e)) (hi : P.info? e = some i) (hz : i.zero = some z)
    (hsize : i.size = size) (hby : i.bytes = bytes) (hzs : z.cells.size = size) (hsz : 0 < size)
    (v : Value) (n : Nat) (xs : List Value) (hs : a.eval s = v) (hown : w.ownsRow base e size v n xs)
    (ad : Addr) (m c : Nat) (news : List Value) (hx : a.eval x = .slice (some ad) m c) (hl : news.length = m * size) (hnews : ∀ j u, news[j]? = some u → w.cell? (ad.add j) = some u) (h1 : ∀ u ∈ news, u.oneCell' = true)
    (h63 : n + m ≤ 1048576) (hbytes : bytes ≤ 1048576) (hbase : base ≤ w.heap.size)
    (h : ∀ v' w', w'.ownsRow base e size v' (n + m) (xs ++ news) → (∀ u, u.heap.size ≤ base → Ext u w → Ext u w') → wpList P ops Q rest (a.put o.dst v') w') : wpList P ops Q (o :: rest) a w :=
  wpList_append_own w hgd s x t ho base e i z size bytes ht hi hz hsize hby hzs hsz v n xs hs hown ad m c news hx hl hnews h1 (by simp only [maxLen]; omega)
    (by have := Nat.mul_le_mul (show n + m ≤ 1048576 by omega) hbytes; omega) hbase fun v' w' h2 h3 _ => h v' w' h2 (own_grown hown h3)

theorem leafI_bytes (s : ByteArray) : (([0] : List Int) ++ s.data.toList.map fun (b : UInt8) => (b.toNat : Int)).map byteOf = 0 :: s.data.toList := by
  rw [List.map_append, List.map_map]
  have : (byteOf ∘ fun (b : UInt8) => (b.toNat : Int)) = id := by funext b; exact byteOf_toNat b
  rw [this, List.map_id]; rfl
theorem str_of_own {w : World} {g : Nat} {v : Value} {n : Nat} {cs : List Value} {l : List Int} {L : List UInt8} (h : w.ownsRow g 5 1 v n cs) (hn : 0 < n) (hc : cs = l.map (Value.int .u8)) (hL : l.map byteOf = L) :
    ∃ ad c, v = .slice (some ad) n c ∧ (convert 92 9 (.slice (some ad) n c)).run Tryd.prog w = .ok (.string ⟨L.toArray⟩) w := by
  subst hc
  subst hL
  obtain ⟨A, c, rfl, -, R, -⟩ := own_rd h
  obtain ⟨ad, rfl, -, -⟩ := R.2.2 hn
  exact ⟨ad, c, rfl, conv_rd R hn⟩
theorem leaf_cells (s : ByteArray) : List.map (Value.int .u8) [0] ++ newsS s = (([0] : List Int) ++ s.data.toList.map fun (b : UInt8) => (b.toNat : Int)).map (Value.int .u8) := by rw [List.map_append, newsS_int]
set_option maxRecDepth 100000 in
theorem RLeaf_any (s : ByteArray) (w : World) (hs : s.size ≤ 1000000) :
    Calls Tryd.prog 86 #[.string s] w fun e w' => e = .returned (.int .i64 (leafL s.data.toList)) ∧ Ext w w' := by
  have own0 : (w.alloc (.cells #[.int .u8 0] 5)).ownsRow w.heap.size 5 1 (.slice (some ⟨w.heap.size, 0, none⟩) 1 1) 1 (([0] : List Int).map (Value.int .u8)) :=
    World.ownsRow_lit w #[.int .u8 0] 1 (Nat.le_refl _) (by simp [maxLen]) rfl
  have E0 : Ext w (w.alloc (.cells #[.int .u8 0] 5)) := by (repeat (with_reducible first | exact Ext.refl _ | assumption | refine Ext.drew ?_ | refine Ext.drewN ?_ _ | refine Ext.alloc ?_ _ | refine Ext.trans ?_ (by with_reducible assumption)))
  have hz0 : w.heap.size < (w.alloc (.cells #[.int .u8 0] 5)).heap.size := by simp
  obtain ⟨i0, hi0, hz0', hz1, hz2⟩ := info_parts info_u8
  obtain ⟨g, hg⟩ : ∃ g, g = w.heap.size := ⟨_, rfl⟩
  have HB := Lib.hid (leafI_bytes s)
  go_enter Tryd.func86, Tryd.ntmps86
  go_upto_region 2 with (fail)
  rw [← hg] at own0 hz0 ⊢
  generalize w.alloc (.cells #[.int .u8 0] 5) = w1 at *
  have hconv := run_bytes_of_string (P := Tryd.prog) w1 9 92 5 s Tryd.underlying9 Tryd.underlying92 Tryd.underlying5
  have hcells := conv_cells w1.drew s (grownCap w1 s.size 0 5) 5 ((bytesRow s (grownCap w1 s.size 0 5)).size, (bytesRow s (grownCap w1 s.size 0 5)).size + 1) w1.heap.size rfl
  have E1 : Ext w (w1.drew.alloc (.cells (bytesRow s (grownCap w1 s.size 0 5)) 5 ((bytesRow s (grownCap w1 s.size 0 5)).size, (bytesRow s (grownCap w1 s.size 0 5)).size + 1))) := by (repeat (with_reducible first | exact Ext.refl _ | assumption | refine Ext.drew ?_ | refine Ext.drewN ?_ _ | refine Ext.alloc ?_ _ | refine Ext.trans ?_ (by with_reducible assumption)))
  have own1 : (w1.drew.alloc (.cells (bytesRow s (grownCap w1 s.size 0 5)) 5 ((bytesRow s (grownCap w1 s.size 0 5)).size, (bytesRow s (grownCap w1 s.size 0 5)).size + 1))).ownsRow g 5 1 (.slice (some ⟨g, 0, none⟩) 1 1) 1 (([0] : List Int).map (Value.int .u8)) := (World.ownsRow.drew own0).alloc _
  generalize w1.drew.alloc (.cells (bytesRow s (grownCap w1 s.size 0 5)) 5 ((bytesRow s (grownCap w1 s.size 0 5)).size, (bytesRow s (grownCap w1 s.size 0 5)).size + 1)) = w2 at *
  generalize grownCap w1 s.size 0 5 = cp at *
  have hs2 := E1.size
  have HC := Lib.hid hcells
  clear hcells
  go_wp2_with (at_builtin; refine wpl_appa (by rfl) _ _ _ (by rfl) g 5 i0 _ 1 1 Tryd.underlying92 hi0 hz0' hz1 hz2 rfl (by omega) (.slice (some ⟨g, 0, none⟩) 1 1) 1 _ (by rfl) own1 ⟨w1.heap.size, 0, none⟩ s.size cp (newsS s) (by rfl) (newsS_len s) HC.out (newsS_one s) (by omega) (by omega) (by omega) ?_; intro v3 w3 own3 hx3; have E3 := hx3 w (by omega) E1; obtain ⟨ad3, c3, rfl, hcv3⟩ := str_of_own own3 (by omega) (leaf_cells s) (leafI_bytes s))
  have hl3 : (0 :: s.data.toList).length = 1 + s.size := by rw [List.length_cons, Nat.add_comm]; rfl
  have HL : Hid (sumL (⟨(0 :: s.data.toList).toArray⟩ : ByteArray).data.toList = leafL s.data.toList) := rfl
  have hz : (⟨(0 :: s.data.toList).toArray⟩ : ByteArray).size ≤ 1000001 := by rw [size_mk, hl3]; omega
  generalize (⟨(0 :: s.data.toList).toArray⟩ : ByteArray) = y at *
  go_wp2_with fail
  refine (RSum_any _ _ (by simp only [maxLen]; omega)).mono ?_
  rintro e w4 ⟨rfl, rfl⟩
  rw [HL.out]
  go_wp2_with fail
  go_ret
  exact ⟨rfl, E3⟩

/-! ### many -/
def dataOk (l : List ByteArray) : Prop := l.length ≤ 200 ∧ ∀ s ∈ l, s.size ≤ 200
instance (l : List ByteArray) : Decidable (dataOk l) := by unfold dataOk; exact inferInstance
def dataK (l : List ByteArray) : Int := if dataOk l then 0 else 4
theorem dataK_ok {l : List ByteArray} (h : dataOk l) : dataK l = 0 := if_pos h
theorem dataK_bad {l : List ByteArray} (h : ¬ dataOk l) : dataK l = 4 := if_neg h
theorem dataK_zero {l : List ByteArray} (h : dataK l = 0) : dataOk l := by
  by_cases hk : dataOk l
  · exact hk
  · rw [dataK_bad hk] at h; cases h
def sumsD (l : List ByteArray) : List Int := l.map fun s => leafL s.data.toList
theorem sumsD_len (l : List ByteArray) : (sumsD l).length = l.length := by simp [sumsD]
theorem sumsD_take (l : List ByteArray) (k : Nat) : (sumsD l).take k = sumsD (l.take k) := by simp [sumsD]
theorem sumsD_drop (l : List ByteArray) (k : Nat) : (sumsD l).drop k = sumsD (l.drop k) := by simp [sumsD]
theorem sumsD_snoc {l : List ByteArray} {k : Nat} {s : ByteArray} (h : l[k]? = some s) : sumsD (l.take (k + 1)) = sumsD (l.take k) ++ [leafL s.data.toList] := by
  obtain ⟨h1, rfl⟩ := List.getElem?_eq_some_iff.1 h
  rw [List.take_succ_eq_append_getElem h1]; unfold sumsD; rw [List.map_append]; rfl
theorem allV_sumsD (l : List ByteArray) : allV (sumsD l) = true := by
  unfold allV sumsD
  rw [List.all_eq_true]
  intro x hx
  rw [List.mem_map] at hx
  obtain ⟨s, _, rfl⟩ := hx
  exact vld_sum _

end Go.Proofs.YtdpfebokbikgfaaDoor
