/- The references' four, NodeBytes, Node, Leaf (for seats without the others). -/
import Derived.Test.YtelcabjhbgkfmaaDoorRead
import Derived.Test.YtelcabjhbgkfmaaDoorQuietT
namespace Go.Proofs.YtelcabjhbgkfmaaDoor
open Go.RowKit Go.WideShapes
set_option linter.unusedVariables false
attribute [local go_sem ↓] Go.wp_at_zero Go.wp_at_succ

def fourI (n : Int) : List Int := [n / 16777216, n / 65536 % 256, n / 256 % 256, n % 256]
theorem fourI_bytes {n : Int} (h0 : 0 ≤ n) (h1 : n < 2147483647) : (fourI n).map byteOf = fourB n := by
  have : n / 16777216 % 256 = n / 16777216 := by omega
  unfold fourI fourB
  rw [this]; rfl
theorem info_u8 : (Tryd.prog.info? 5).map (fun i => (i.zero, i.size, i.bytes)) = some (some (.int .u8 0), 1, 1) := by kernel_rfl
theorem oneU (z : Int) : ∀ u ∈ [Value.int .u8 z], u.oneCell' = true := by intro u hu; simp at hu; subst hu; rfl
theorem Rd.cellsU {w : World} {ad : Addr} {n c : Nat} {l : List Int} (h : Rd w 1 (some ad) n c (l.map (Value.int .u8))) : l.length = n ∧ (0 < n → ∀ j u, (l.map (Value.int .u8))[j]? = some u → w.cell? (ad.add j) = some u) := by
  refine ⟨by simpa using h.1, fun hn => ?_⟩
  obtain ⟨ad', e, _, hc⟩ := h.2.2 hn
  injection e with e; subst e
  exact hc
theorem conv_rd {w : World} {ad : Addr} {n c : Nat} {l : List Int} (h : Rd w 1 (some ad) n c (l.map (Value.int .u8))) (hn : 0 < n) :
    (convert 93 9 (.slice (some ad) n c)).run Tryd.prog w = .ok (.string ⟨(l.map byteOf).toArray⟩) w := by
  have h1 := h.cellsU.1
  have h2 := h.cellsU.2 hn
  subst h1
  exact run_conv_cells w 93 9 5 ad c l Tryd.underlying93 Tryd.underlying5 Tryd.underlying9 h2
theorem map_snoc4 (bs : List Int) (a b c d : Int) : (bs ++ [a, b, c, d]).map (Value.int .u8) = bs.map (Value.int .u8) ++ [.int .u8 a] ++ [.int .u8 b] ++ [.int .u8 c] ++ [.int .u8 d] := by simp

set_option maxRecDepth 100000 in
set_option maxHeartbeats 140737488355328 in
theorem RFour1_any (n : Int) (v : Value) (base m : Nat) (bs : List Int) (w : World) (h0 : 0 ≤ n) (h1 : n < 2147483647) (hb : base ≤ w.heap.size) (hm : m ≤ 1000) (hown : w.ownsRow base 5 1 v m (bs.map (Value.int .u8))) :
    Calls Tryd.prog 52 #[v, .int .i64 n] w fun e w' => (∃ v', e = .returned v' ∧ w'.ownsRow base 5 1 v' (m + 4) ((bs ++ fourI n).map (Value.int .u8))) ∧ ∀ u, u.heap.size ≤ base → Ext u w → Ext u w' := by
  obtain ⟨A, c, rfl, -⟩ := own_rd hown
  obtain ⟨i0, hi0, hz0, hz1, hz2⟩ := info_parts info_u8
  have hO := Lib.hid hown
  have HM := Lib.hid (map_snoc4 bs (n / 16777216) (n / 65536 % 256) (n / 256 % 256) (n % 256))
  clear hown
  go_enter Tryd.func52, Tryd.ntmps52
  go_wp2_with (first
    | (at_builtin; refine wpl_app (by rfl) _ _ _ (by rfl) base 5 i0 _ 1 1 Tryd.underlying93 hi0 hz0 hz1 hz2 rfl (by omega) (.slice (some ⟨g3, 0, none⟩) (m + 1 + 1 + 1) c3) _ _ (by rfl) (own3.alloc _) w3.heap.size 1 [.int .u8 (n % 256)] rfl (by rfl) (news_new w3 _ _ _ rfl) (oneU _) (by omega) (by omega) (by have := own3.lt g3 rfl; simp; omega) ?_; intro g4 c4 w4 own4 hx4)
    | (at_builtin; refine wpl_app (by rfl) _ _ _ (by rfl) base 5 i0 _ 1 1 Tryd.underlying93 hi0 hz0 hz1 hz2 rfl (by omega) (.slice (some ⟨g2, 0, none⟩) (m + 1 + 1) c2) _ _ (by rfl) (own2.alloc _) w2.heap.size 1 [.int .u8 (n / 256 % 256)] rfl (by rfl) (news_new w2 _ _ _ rfl) (oneU _) (by omega) (by omega) (by have := own2.lt g2 rfl; simp; omega) ?_; intro g3 c3 w3 own3 hx3)
    | (at_builtin; refine wpl_app (by rfl) _ _ _ (by rfl) base 5 i0 _ 1 1 Tryd.underlying93 hi0 hz0 hz1 hz2 rfl (by omega) (.slice (some ⟨g1, 0, none⟩) (m + 1) c1) _ _ (by rfl) (own1.alloc _) w1.heap.size 1 [.int .u8 (n / 65536 % 256)] rfl (by rfl) (news_new w1 _ _ _ rfl) (oneU _) (by omega) (by omega) (by have := own1.lt g1 rfl; simp; omega) ?_; intro g2 c2 w2 own2 hx2)
    | (at_builtin; refine wpl_app (by rfl) _ _ _ (by rfl) base 5 i0 _ 1 1 Tryd.underlying93 hi0 hz0 hz1 hz2 rfl (by omega) (.slice A m c) _ _ (by rfl) (hO.out.alloc _) w.heap.size 1 [.int .u8 (n / 16777216)] rfl (by rfl) (news_new w _ _ _ rfl) (oneU _) (by omega) (by omega) (by simp; omega) ?_; intro g1 c1 w1 own1 hx1))
  go_ret
  refine ⟨⟨_, rfl, ?_⟩, fun u hu hb => hx4 u hu (Ext.alloc (hx3 u hu (Ext.alloc (hx2 u hu (Ext.alloc (hx1 u hu (Ext.alloc hb _)) _)) _)) _)⟩
  show World.ownsRow _ _ _ _ _ _ (List.map _ (bs ++ [n / 16777216, n / 65536 % 256, n / 256 % 256, n % 256]))
  rw [HM.out]
  exact own4

theorem nodeI_bytes {a b : Int} (ha : vld a = true) (hb : vld b = true) : ([1] ++ fourI a ++ fourI b).map byteOf = nodeB a b := by
  have ha := vld_true ha
  have hb := vld_true hb
  rw [List.map_append, List.map_append, fourI_bytes ha.1 ha.2, fourI_bytes hb.1 hb.2]
  rfl
set_option maxRecDepth 100000 in
theorem RNodeBytes_any (a b : Int) (w : World) (ha : vld a = true) (hb : vld b = true) :
    Calls Tryd.prog 17 #[.int .i64 a, .int .i64 b] w fun e w' => e = .returned (.string ⟨(nodeB a b).toArray⟩) ∧ Ext w w' := by
  have HB := Lib.hid (nodeI_bytes ha hb)
  obtain ⟨a0, a1⟩ := vld_true ha
  obtain ⟨b0, b1⟩ := vld_true hb
  have own0 : (w.alloc (.cells #[.int .u8 1] 5)).ownsRow w.heap.size 5 1 (.slice (some ⟨w.heap.size, 0, none⟩) 1 1) 1 (([1] : List Int).map (Value.int .u8)) :=
    World.ownsRow_lit w #[.int .u8 1] 1 (Nat.le_refl _) (by simp [maxLen]) rfl
  clear ha hb
  go_enter Tryd.func17, Tryd.ntmps17
  go_wp2_with fail
  refine (RFour1_any a _ w.heap.size 1 [1] _ a0 a1 (by simp) (by omega) own0).mono ?_
  rintro _ w1 ⟨⟨v1, rfl, own1⟩, hx1⟩
  have E1 := hx1 w (Nat.le_refl _) (by (repeat (with_reducible first | exact Ext.refl _ | assumption | refine Ext.drew ?_ | refine Ext.drewN ?_ _ | refine Ext.alloc ?_ _ | refine Ext.trans ?_ (by with_reducible assumption))))
  have hs1 := E1.size
  clear own0 hx1
  replace own1 : w1.ownsRow w.heap.size 5 1 v1 5 (([1] ++ fourI a).map (Value.int .u8)) := own1
  obtain ⟨g1, c1, rfl, -⟩ := World.ownsRow.form own1 (by omega)
  go_wp2_with fail
  refine (RFour1_any b _ w.heap.size 5 ([1] ++ fourI a) _ b0 b1 hs1 (by omega) own1).mono ?_
  rintro _ w2 ⟨⟨v2, rfl, own2⟩, hx2⟩
  have E2 := hx2 w (Nat.le_refl _) E1
  replace own2 : w2.ownsRow w.heap.size 5 1 v2 9 (([1] ++ fourI a ++ fourI b).map (Value.int .u8)) := own2
  obtain ⟨A2, c2, rfl, hc2, R2, -⟩ := own_rd own2
  obtain ⟨ad, rfl, -, -⟩ := R2.2.2 (by omega)
  have hconv := conv_rd R2 (by omega)
  rw [HB.out] at hconv
  clear own1 own2 hx2 R2
  go_wp2_with fail
  go_ret
  exact ⟨rfl, E2⟩
theorem RNode_any (a b : Int) (w : World) (ha : vld a = true) (hb : vld b = true) :
    Calls Tryd.prog 104 #[.int .i64 a, .int .i64 b] w fun e w' => e = .returned (.int .i64 (nodeL a b)) ∧ Ext w w' := by
  go_enter Tryd.func104, Tryd.ntmps104
  go_wp2_with fail
  refine (RNodeBytes_any _ _ _ ha hb).mono ?_
  rintro e w1 ⟨rfl, hb1⟩
  have hl := size_mk (nodeB a b)
  rw [nodeB_len] at hl
  have HN : Hid (sumL (⟨(nodeB a b).toArray⟩ : ByteArray).data.toList = nodeL a b) := rfl
  generalize (⟨(nodeB a b).toArray⟩ : ByteArray) = x at *
  go_wp2_with fail
  refine (RSum_any _ _ (by simp only [maxLen]; omega)).mono ?_
  rintro e w2 ⟨rfl, rfl⟩
  rw [HN.out]
  go_wp2_with fail
  go_ret
  exact ⟨rfl, by (repeat (with_reducible first | exact Ext.refl _ | assumption | refine Ext.drew ?_ | refine Ext.drewN ?_ _ | refine Ext.alloc ?_ _ | refine Ext.trans ?_ (by with_reducible assumption)))⟩

def newsS (s : ByteArray) : List Value := s.data.toList.map fun b => Value.int .u8 b.toNat
theorem newsS_len (s : ByteArray) : (newsS s).length = s.size * 1 := by unfold newsS; rw [List.length_map, Nat.mul_one]; rfl
theorem newsS_one (s : ByteArray) : ∀ u ∈ newsS s, u.oneCell' = true := by
  intro u hu
  unfold newsS at hu
  rw [List.mem_map] at hu
  obtain ⟨x, _, rfl⟩ := hu
  rfl
theorem newsS_int (s : ByteArray) : newsS s = (s.data.toList.map fun b => (b.toNat : Int)).map (Value.int .u8) := by unfold newsS; rw [List.map_map]; rfl
theorem conv_cells (w : World) (s : ByteArray) (cap : Nat) (e : TypeId) (m : Nat × Nat) (H : Nat) (hH : w.heap.size = H) : ∀ j u, (newsS s)[j]? = some u → (w.alloc (.cells (bytesRow s cap) e m)).cell? ((⟨H, 0, none⟩ : Addr).add j) = some u := by
  intro j u hu
  subst hH
  unfold newsS at hu
  rw [List.getElem?_map, Option.map_eq_some_iff] at hu
  obtain ⟨b, hb, rfl⟩ := hu
  obtain ⟨h1, h2⟩ := List.getElem?_eq_some_iff.1 hb
  have hj : j < s.data.size := by simpa using h1
  rw [add_mk, Nat.zero_add, World.cell?_alloc_mark]
  rw [bytesRow_at s cap j hj]
  have : s.data[j] = b := by simpa using h2
  rw [this]
/-- 'append' of some cells, none too -/
theorem wpl_appa {P : Program} {w : World} {ops : Array Oper} {rest : List Oper} {o : Oper} {a : Act} {Q : Exit → Act → World → Prop} (hgd : o.guard = none) (s x : Operand) (t : TypeId)
    (ho : o.op = .call { callee := .builtin .append, args := #[s, x], argTypes := #[t, t] })
    (base : Nat) (e : TypeId) (i : TypeInfo) (z : Value) (size bytes : Nat) (ht : P.underlying t = some (.slice e)) (hi : P.info? e = some i) (hz : i.zero = some z)
    (hsize : i.size = size) (hby : i.bytes = bytes) (hzs : z.cells.size = size) (hsz : 0 < size)
    (v : Value) (n : Nat) (xs : List Value) (hs : a.eval s = v) (hown : w.ownsRow base e size v n xs)
    (ad : Addr) (m c : Nat) (news : List Value) (hx : a.eval x = .slice (some ad) m c) (hl : news.length = m * size) (hnews : ∀ j u, news[j]? = some u → w.cell? (ad.add j) = some u) (h1 : ∀ u ∈ news, u.oneCell' = true)
    (h63 : n + m ≤ 140737488355328) (hbytes : (n + m) * bytes ≤ 140737488355328) (hbase : base ≤ w.heap.size)
    (h : ∀ v' w', w'.ownsRow base e size v' (n + m) (xs ++ news) → (∀ u, u.heap.size ≤ base → Ext u w → Ext u w') → wpList P ops Q rest (a.put o.dst v') w') : wpList P ops Q (o :: rest) a w :=
  wpList_append_own w hgd s x t ho base e i z size bytes ht hi hz hsize hby hzs hsz v n xs hs hown ad m c news hx hl hnews h1 (by simp only [maxLen]; omega)
    hbytes hbase fun v' w' h2 h3 _ => h v' w' h2 (own_grown hown h3)

theorem leafI_bytes (s : ByteArray) : (([0] : List Int) ++ s.data.toList.map fun (b : UInt8) => (b.toNat : Int)).map byteOf = 0 :: s.data.toList := by
  rw [List.map_append, List.map_map]
  have : (byteOf ∘ fun (b : UInt8) => (b.toNat : Int)) = id := by funext b; exact byteOf_toNat b
  rw [this, List.map_id]; rfl
theorem str_of_own {w : World} {g : Nat} {v : Value} {n : Nat} {cs : List Value} {l : List Int} {L : List UInt8} (h : w.ownsRow g 5 1 v n cs) (hn : 0 < n) (hc : cs = l.map (Value.int .u8)) (hL : l.map byteOf = L) :
    ∃ ad c, v = .slice (some ad) n c ∧ (convert 93 9 (.slice (some ad) n c)).run Tryd.prog w = .ok (.string ⟨L.toArray⟩) w := by
  subst hc
  subst hL
  obtain ⟨A, c, rfl, -, R, -⟩ := own_rd h
  obtain ⟨ad, rfl, -, -⟩ := R.2.2 hn
  exact ⟨ad, c, rfl, conv_rd R hn⟩
theorem leaf_cells (s : ByteArray) : List.map (Value.int .u8) [0] ++ newsS s = (([0] : List Int) ++ s.data.toList.map fun (b : UInt8) => (b.toNat : Int)).map (Value.int .u8) := by rw [List.map_append, newsS_int]
set_option maxRecDepth 100000 in
theorem RLeaf_any (s : ByteArray) (w : World) (hs : s.size < 140737488355328) :
    Calls Tryd.prog 23 #[.string s] w fun e w' => e = .returned (.int .i64 (leafL s.data.toList)) ∧ Ext w w' := by
  have own0 : (w.alloc (.cells #[.int .u8 0] 5)).ownsRow w.heap.size 5 1 (.slice (some ⟨w.heap.size, 0, none⟩) 1 1) 1 (([0] : List Int).map (Value.int .u8)) :=
    World.ownsRow_lit w #[.int .u8 0] 1 (Nat.le_refl _) (by simp [maxLen]) rfl
  have E0 : Ext w (w.alloc (.cells #[.int .u8 0] 5)) := by (repeat (with_reducible first | exact Ext.refl _ | assumption | refine Ext.drew ?_ | refine Ext.drewN ?_ _ | refine Ext.alloc ?_ _ | refine Ext.trans ?_ (by with_reducible assumption)))
  have hz0 : w.heap.size < (w.alloc (.cells #[.int .u8 0] 5)).heap.size := by simp
  obtain ⟨i0, hi0, hz0', hz1, hz2⟩ := info_parts info_u8
  obtain ⟨g, hg⟩ : ∃ g, g = w.heap.size := ⟨_, rfl⟩
  have HB := Lib.hid (leafI_bytes s)
  go_enter Tryd.func23, Tryd.ntmps23
  go_upto_region 2 with (fail)
  rw [← hg] at own0 hz0 ⊢
  generalize w.alloc (.cells #[.int .u8 0] 5) = w1 at *
  have hconv := run_bytes_of_string (P := Tryd.prog) w1 9 93 5 s Tryd.underlying9 Tryd.underlying93 Tryd.underlying5
  have hcells := conv_cells w1.drew s (grownCap w1 s.size 0 5) 5 ((bytesRow s (grownCap w1 s.size 0 5)).size, (bytesRow s (grownCap w1 s.size 0 5)).size + 1) w1.heap.size rfl
  have E1 : Ext w (w1.drew.alloc (.cells (bytesRow s (grownCap w1 s.size 0 5)) 5 ((bytesRow s (grownCap w1 s.size 0 5)).size, (bytesRow s (grownCap w1 s.size 0 5)).size + 1))) := by (repeat (with_reducible first | exact Ext.refl _ | assumption | refine Ext.drew ?_ | refine Ext.drewN ?_ _ | refine Ext.alloc ?_ _ | refine Ext.trans ?_ (by with_reducible assumption)))
  have own1 : (w1.drew.alloc (.cells (bytesRow s (grownCap w1 s.size 0 5)) 5 ((bytesRow s (grownCap w1 s.size 0 5)).size, (bytesRow s (grownCap w1 s.size 0 5)).size + 1))).ownsRow g 5 1 (.slice (some ⟨g, 0, none⟩) 1 1) 1 (([0] : List Int).map (Value.int .u8)) := (World.ownsRow.drew own0).alloc _
  generalize w1.drew.alloc (.cells (bytesRow s (grownCap w1 s.size 0 5)) 5 ((bytesRow s (grownCap w1 s.size 0 5)).size, (bytesRow s (grownCap w1 s.size 0 5)).size + 1)) = w2 at *
  generalize grownCap w1 s.size 0 5 = cp at *
  have hs2 := E1.size
  have HC := Lib.hid hcells
  clear hcells
  go_wp2_with (at_builtin; refine wpl_appa (by rfl) _ _ _ (by rfl) g 5 i0 _ 1 1 Tryd.underlying93 hi0 hz0' hz1 hz2 rfl (by omega) (.slice (some ⟨g, 0, none⟩) 1 1) 1 _ (by rfl) own1 ⟨w1.heap.size, 0, none⟩ s.size cp (newsS s) (by rfl) (newsS_len s) HC.out (newsS_one s) (by omega) (by omega) (by omega) ?_; intro v3 w3 own3 hx3; have E3 := hx3 w (by omega) E1; obtain ⟨ad3, c3, rfl, hcv3⟩ := str_of_own own3 (by omega) (leaf_cells s) (leafI_bytes s))
  have hl3 : (0 :: s.data.toList).length = 1 + s.size := by rw [List.length_cons, Nat.add_comm]; rfl
  have HL : Hid (sumL (⟨(0 :: s.data.toList).toArray⟩ : ByteArray).data.toList = leafL s.data.toList) := rfl
  have hz : (⟨(0 :: s.data.toList).toArray⟩ : ByteArray).size ≤ 140737488355328 := by rw [size_mk, hl3]; omega
  generalize (⟨(0 :: s.data.toList).toArray⟩ : ByteArray) = y at *
  go_wp2_with fail
  refine (RSum_any _ _ (by simp only [maxLen]; omega)).mono ?_
  rintro e w4 ⟨rfl, rfl⟩
  rw [HL.out]
  go_wp2_with fail
  go_ret
  exact ⟨rfl, E3⟩


end Go.Proofs.YtelcabjhbgkfmaaDoor
