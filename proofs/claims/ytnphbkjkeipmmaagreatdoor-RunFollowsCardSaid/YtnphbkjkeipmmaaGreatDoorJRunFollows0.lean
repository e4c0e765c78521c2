/- A builder of text is written. -/
import Derived.Test.YtnphbkjkeipmmaaGreatDoorJRunBegins9
import Derived.Lib.Builder
import Derived.Lib.FrozenHead2
import Derived.Lib.OthersKept
import Derived.Shelf.Strings.BuilderK
import Derived.Test.YtnphbkjkeipmmaaGreatDoorJRunBegins30
import Derived.Test.YtnphbkjkeipmmaaGreatDoorJRunBegins31
import Derived.Test.YtnphbkjkeipmmaaGreatDoorJRunBegins18
import Derived.Test.YtnphbkjkeipmmaaGreatDoorJRunBegins26
import Derived.Test.YtnphbkjkeipmmaaGreatDoorJRunBegins16
namespace Go.Proofs.YtnphbkjkeipmmaaGreatDoor
open Go.RowKit Go.WideShapes
set_option linter.unusedVariables false

theorem bld_size : (Tryz.prog.info? 49).map (·.size) = some 2 := by kernel_rfl
theorem bld_lies : liesAt Tryz.prog Tryz.prog.depth 49 (2 / Tryz.prog.cellsOf 49) 0 49 1 = true := by kernel_rfl
theorem info_byteB : (Tryz.prog.info? 5).map (fun i => (i.zero, i.size, i.bytes)) = some (some (.int .u8 0), 1, 1) := by kernel_rfl
set_option maxHeartbeats 1000000 in
set_option maxRecDepth 100000 in
theorem BCheck_used (b : Nat) (w : World) (h0 : w.cell? ⟨b, 0, none⟩ = some (.pointer (some ⟨b, 0, none⟩))) :
    Calls Tryz.prog 30 #[.pointer (some ⟨b, 0, none⟩)] w fun e w' => e = .returned (.tuple #[]) ∧ w' = w := by
  obtain ⟨j, hj, _⟩ := Option.map_eq_some_iff.1 bld_size
  go_enter Tryz.func30, Tryz.ntmps30
  go_wp2
  rw [Lib.run_neq_ptr_same w _ Tryz.underlying46 hj]
  go_wp2
  go_end0
  exact ⟨rfl, rfl⟩
set_option maxHeartbeats 1000000 in
set_option maxRecDepth 100000 in
theorem BCheck_fresh (b : Nat) (w : World) (h0 : w.cell? ⟨b, 0, none⟩ = some (.pointer none)) (hsh : w.shape? b = some (49, 2)) (hfz : w.frozen? ⟨b, 0, none⟩ = false) :
    Calls Tryz.prog 30 #[.pointer (some ⟨b, 0, none⟩)] w fun e w' => e = .returned (.tuple #[]) ∧ w' = w.setCell ⟨b, 0, none⟩ (.pointer (some ⟨b, 0, none⟩)) := by
  obtain ⟨j, hj, hjs⟩ := Option.map_eq_some_iff.1 bld_size
  go_enter Tryz.func30, Tryz.ntmps30
  go_wp2
  rw [Lib.run_to_unsafe w ⟨b, 0, none⟩ Tryz.underlying46 Tryz.underlying102 hj (by rw [hjs]; decide) hsh (Nat.zero_lt_succ 1)]
  simp only [Result.andThen]
  rw [Oper.upon_value]
  go_wp2
  rw [run_callFunc_extern Tryz.func47 (by kernel_rfl) (by kernel_rfl) (by kernel_rfl) (e := Extern.AbiNoEscape.same) (by kernel_rfl)]
  rw [Lib.run_noEscape]
  simp only [Result.andThen]
  rw [Oper.upon_value]
  go_wp2
  rw [Lib.run_from_unsafe w ⟨b, 0, none⟩ Tryz.underlying102 Tryz.underlying46 hj hsh bld_lies]
  simp only [Result.andThen]
  rw [Oper.upon_value]
  go_wp2
  go_end0
  exact ⟨rfl, rfl⟩
theorem BCheck_k (B b : Nat) (bs : List Value) (w : World) (h : Lib.IsBuilderF 49 5 B b bs w) :
    Calls Tryz.prog 30 #[.pointer (some ⟨b, 0, none⟩)] w fun e w' => e = .returned (.tuple #[]) ∧ (Lib.BuilderAtF 49 5 B b (.pointer (some ⟨b, 0, none⟩)) bs w' ∧ Below B w w' ∧ Lib.OthersKept 5 (some b) w w') := by
  rcases h with h | h
  · refine (BCheck_fresh b w h.cell0 h.shape h.frozen0).mono ?_
    rintro e w' ⟨rfl, rfl⟩
    exact ⟨rfl, h.used _, (Below.refl B w).setCell (p := ⟨b, 0, none⟩) h.1 _, (Lib.OthersKept.refl _ _ w).setCell ⟨b, 0, none⟩ rfl _⟩
  · refine (BCheck_used b w h.cell0).mono ?_
    rintro e w' ⟨rfl, rfl⟩
    exact ⟨rfl, h, Below.refl B _, Lib.OthersKept.refl _ _ _⟩
set_option maxHeartbeats 2000000 in
set_option maxRecDepth 100000 in
theorem BWrite_k (B b : Nat) (bs : List Value) (s : ByteArray) (w : World) (h : Lib.IsBuilderF 49 5 B b bs w) (hlen : bs.length + s.size ≤ 140737488355328) (hBw : B ≤ w.heap.size) :
    Calls Tryz.prog 12 #[.pointer (some ⟨b, 0, none⟩), .string s] w fun e w' => e = .returned (.tuple #[.int .i64 s.size, .nilIface]) ∧ (Lib.BuilderAtF 49 5 B b (.pointer (some ⟨b, 0, none⟩)) (bs ++ Lib.strCells s) w' ∧ Below B w w' ∧ Lib.OthersKept 5 (some b) w w') := by
  obtain ⟨i0, hi, hz0, hz1, hz2⟩ := info_parts info_byteB
  go_enter Tryz.func12, Tryz.ntmps12
  go_wp2_with fail
  refine (BCheck_k B b bs _ h).mono ?_
  rintro e w1 ⟨rfl, h1, hb1, hk1⟩
  obtain ⟨hB, v, hbk, hown, hne⟩ := h1
  have c0 : w1.cell? ⟨b, 0, none⟩ = some (.pointer (some ⟨b, 0, none⟩)) := by rw [Lib.cell_of_heap hbk]; rfl
  have c1 : w1.cell? ⟨b, 1, none⟩ = some v := by rw [Lib.cell_of_heap hbk]; rfl
  go_wp2_with (at_builtin; refine Lib.wpList_append_own_stringF _ rfl _ _ 47 9 rfl B 5 i0 Tryz.underlying47 Tryz.underlying9 hi hz0 hz1 hz2 _ _ _ rfl hown s rfl ?c3 ?c4 ?c5 ?_)
  case c3 => unfold maxLen; omega
  case c4 => omega
  case c5 => have := hb1.size; omega
  intro v' w2 hown' hgrow _
  have hlt : b < w1.heap.size := by
    rcases Nat.lt_or_ge b w1.heap.size with h' | h'
    · exact h'
    · simp [Array.getElem?_eq_none h'] at hbk
  have hb2 : w2.heap[b]? = some (.cells #[.pointer (some ⟨b, 0, none⟩), v] 49 (0, 0)) := by
    rw [hgrow.block b hlt (fun e => hne e.symm)]
    exact hbk
  have d0 : w2.cell? ⟨b, 0, none⟩ = some (.pointer (some ⟨b, 0, none⟩)) := by rw [Lib.cell_of_heap hb2]; rfl
  have d1 : w2.cell? ⟨b, 1, none⟩ = some v := by rw [Lib.cell_of_heap hb2]; rfl
  have f1 : w2.frozen? ⟨b, 1, none⟩ = false := Lib.frozen_of_heap hb2 1
  obtain ⟨ao, n', cap, rfl⟩ : ∃ ao n' cap, v' = .slice ao n' cap := by
    rcases hown'.2 with ⟨hv, _⟩ | ⟨g, cap, cur, fz, hv, _⟩
    · exact ⟨_, _, _, hv⟩
    · exact ⟨_, _, _, hv⟩
  go_wp2
  go_ret2
  refine ⟨rfl, ?_, ?_, (hk1.grown hgrow (Lib.ownsRowF_kind hown)).setCell ⟨b, 1, none⟩ rfl _⟩
  · exact Lib.BuilderAtF.put (T := 49) (e := 5) hB hb2 (bs' := bs ++ Lib.strCells s) (by simpa [Lib.strCells_length] using hown') (by decide)
  · exact (hb1.grown hgrow (by have := hb1.size; omega) (fun k hk => (hown.lt k hk).1)).setCell (p := ⟨b, 1, none⟩) hB _
end Go.Proofs.YtnphbkjkeipmmaaGreatDoor

/- run.Run: what is answered to a text. -/
namespace Go.Proofs.YtnphbkjkeipmmaaGreatDoor
open Go.RowKit Go.Shelf
set_option linter.unusedVariables false
attribute [local go_sem] Oper.semAt_some

/-- what stands while lines are answered -/
def RunI (w : World) (db dx bb sb : Nat) (pre : List RB) (W : World) : Prop :=
  DN 45 75 w W db (playD dk0 noT ((rawOf pre).map trimL)).1 ∧
  Lib.IsBuilderF 49 5 bb bb (Lib.byteCells (playD dk0 noT ((rawOf pre).map trimL)).2.data.toList) W ∧
  (Ext w W ∧ bb ≤ W.heap.size) ∧ W.heap[dx]? = some (.cells #[.pointer (some ⟨db, 0, none⟩)] 43) ∧ ∃ v, W.heap[sb]? = some (.cells #[v] 9)
theorem RunI.turned {w W W' : World} {db dx bb sb B : Nat} {pre : List RB} {row : Option Nat} (h : RunI w db dx bb sb pre W) (hB : w.heap.size ≤ B) (hg : W.grownBy W' row) (hr : ∀ r, row = some r → B ≤ r ∧ ∃ o : Obj, W.heap[r]? = some o ∧ o.isCells = false) : RunI w db dx bb sb pre W' := by
  obtain ⟨h1, h2, ⟨h3, h3'⟩, h4, v, h5⟩ := h
  have hc : ∀ (g : Nat) (o : Obj), W.heap[g]? = some o → o.isCells = true → W'.heap[g]? = some o := fun g o ho hco => by
    refine (hg.block g (Array.getElem?_eq_some_iff.1 ho).1 (fun e => ?_)).trans ho
    obtain ⟨_, o', ho', hcc⟩ := hr g e.symm
    rw [ho] at ho'
    injection ho' with ho'
    subst ho'
    rw [hco] at hcc
    cases hcc
  refine ⟨h1.turned hg fun r e => (hr r e).2, bld_turned h2 hg fun r e => (hr r e).2, ⟨chg_ext (gb_chg hg) h3 fun g e => Nat.le_trans hB (hr g e).1, Nat.le_trans h3' hg.size⟩, hc _ _ h4 rfl, v, hc _ _ h5 rfl⟩
theorem RunI.lined {w W W' : World} {db dx bb sb : Nat} {pre : List RB} (h : RunI w db dx bb sb pre W) (hs : w.heap.size ≤ sb) (hg : W.grownBy W' (some sb)) (hc : ∃ v, W'.heap[sb]? = some (.cells #[v] 9)) : RunI w db dx bb sb pre W' := by
  obtain ⟨h1, h2, ⟨h3, h3'⟩, h4, v, h5⟩ := h
  refine ⟨h1.apart_ h5 (by decide) hg, bld_apart h2 h5 (by decide) hg, ⟨chg_ext (gb_chg hg) h3 fun g e => by injection e with e; omega, Nat.le_trans h3' hg.size⟩, ?_, hc⟩
  refine (hg.block dx (Array.getElem?_eq_some_iff.1 h4).1 (fun e => ?_)).trans h4
  injection e with e
  subst e
  rw [h4] at h5
  injection h5 with h5
  injection h5 with _ h5 _
  cases h5
theorem ext_below {w w2 w3 : World} {B : Nat} (h : Below B w2 w3) (e : Ext w w2) (hB : w.heap.size ≤ B) : Ext w w3 :=
  chg_ext (S := fun g => B ≤ g) ⟨h.os, h.tape, h.output, h.size, fun k hk hs => h.block k (by omega)⟩ e fun g hg => Nat.le_trans hB hg
theorem bld_kept {W w2 : World} {bb : Nat} {bs : List Value} (h2 : Lib.IsBuilderF 49 5 bb bb bs W) (hK : ∀ (g : Nat) (o : Obj), W.heap[g]? = some o → Alien 45 75 o → w2.heap[g]? = some o) : Lib.IsBuilderF 49 5 bb bb bs w2 :=
  bld_chg h2 fun g o hh hc => hK g o hh (by
    obtain ⟨cs, ts, fz, rfl, ht⟩ := hc
    intro cs' t' fz' e
    injection e with _ e _
    subst e
    rcases ht with rfl | rfl
    · decide
    · decide)
theorem alien_one {v : Value} {t : TypeId} (h : t ≠ 45 ∧ t ≠ 75 ∧ t ≠ 67) : Alien 45 75 (.cells #[v] t) := by
  intro cs t' fz e
  injection e with _ e _
  subst e
  exact h
theorem run_wrote {w W w2 w3 : World} {S : Nat → Prop} {db sb bb dx : Nat} {d' : Dk} {bs bs' : List Value} {p v u : Value} (hK : ∀ (g : Nat) (o : Obj), W.heap[g]? = some o → Alien 45 75 o → w2.heap[g]? = some o) (hc : Chg W w2 S)
    (hD : DD 45 75 w2 S db d') (hSw : ∀ g, S g → w.heap.size ≤ g) (h3 : Ext w W) (h2 : Lib.IsBuilderF 49 5 bb bb bs W) (h3' : bb ≤ W.heap.size) (hbw : w.heap.size ≤ bb) (hsb : sb ≠ bb) (hdx : dx ≠ bb)
    (h4 : W.heap[dx]? = some (.cells #[u] 43)) (h5 : W.heap[sb]? = some (.cells #[v] 9)) (q2 : Lib.BuilderAtF 49 5 bb bb p bs' w3) (hp : p = .pointer (some ⟨bb, 0, none⟩)) (q3 : Below bb w2 w3) (q4 : Lib.OthersKept 5 (some bb) w2 w3) :
    KeepsOthers W w3 ∧ KpS sb W w3 ∧ DN 45 75 w w3 db d' ∧ Lib.IsBuilderF 49 5 bb bb bs' w3 ∧ (Ext w w3 ∧ bb ≤ w3.heap.size) ∧ w3.heap[dx]? = some (.cells #[u] 43) ∧ ∃ v, w3.heap[sb]? = some (.cells #[v] 9) := by
  have e2 : Ext w w2 := chg_ext hc h3 hSw
  have b2 := bld_kept h2 hK
  have one : ∀ (g : Nat) (x : Value) (t : TypeId), W.heap[g]? = some (.cells #[x] t) → g ≠ bb → (t ≠ 45 ∧ t ≠ 75 ∧ t ≠ 67) → t ≠ 5 → w3.heap[g]? = some (.cells #[x] t) := fun g x t hg hne ha hu =>
    q4 g _ (hK g _ hg (alien_one ha)) (fun e => hne (Option.some.inj e)) (fun c fz e => by injection e with _ e _; exact hu e)
  refine ⟨⟨Nat.le_trans hc.size q3.size, fun k o hk ho => ?_⟩, fun x hx => one sb x _ hx hsb (by decide) (by decide), ?_, ?_, ⟨ext_below q3 e2 hbw, Nat.le_trans h3' (Nat.le_trans hc.size q3.size)⟩, one dx u _ h4 hdx (by decide) (by decide), v, one sb v _ h5 hsb (by decide) (by decide)⟩
  · refine q4 k o (hK k o hk fun cs t' fz e => ?_) (fun e => ?_) (fun c fz e => ?_)
    · subst e; cases ho
    · have e' := Option.some.inj e
      subst e'
      obtain ⟨_, cs, hcs⟩ := bld_at h2
      rw [hk] at hcs
      injection hcs with hcs
      subst hcs
      cases ho
    · subst e; cases ho
  · refine (DN.of hD hSw).others q3 q4 (by decide) ?_
    obtain ⟨_, cs, hcs⟩ := bld_at b2
    exact ⟨cs, _, _, hcs, by decide⟩
  · subst hp
    exact .inr q2
theorem run_round {w W w2 : World} {S : Nat → Prop} {db sb bb dx : Nat} {d' : Dk} {out an : ByteArray} {pre : List RB} {x : RB} {v : Value} (hK : ∀ (g : Nat) (o : Obj), W.heap[g]? = some o → Alien 45 75 o → w2.heap[g]? = some o)
    (hop : DOp 45 75 W S db d' w2) (hSw : ∀ g, S g → w.heap.size ≤ g) (h3 : Ext w W) (h2 : Lib.IsBuilderF 49 5 bb bb (Lib.byteCells out.data.toList) W) (h3' : bb ≤ W.heap.size) (hbw : w.heap.size ≤ bb) (hsb : sb ≠ bb) (hdx : dx ≠ bb)
    (h4 : W.heap[dx]? = some (.cells #[.pointer (some ⟨db, 0, none⟩)] 43)) (h5 : W.heap[sb]? = some (.cells #[v] 9)) (hout : out.size ≤ 200000000) (hasz : an.size ≤ 40000) {y : ByteArray} (hy : y.data.toList = an.data.toList ++ [10]) (hfin : playD dk0 noT ((rawOf (pre ++ [x])).map trimL) = (d', out ++ an ++ nlT)) :
    Calls Tryz.prog 12 #[.pointer (some ⟨bb, 0, none⟩), .string y] w2 fun e w' => (∃ v, e = .returned v) ∧ KeepsOthers W w' ∧ KpS sb W w' ∧ RunI w db dx bb sb (pre ++ [x]) w' := by
  have b2 := bld_kept h2 hK
  have hz : (Lib.byteCells out.data.toList).length + y.size ≤ 140737488355328 := by
    rw [Lib.byteCells_length]
    have h6 : out.data.toList.length = out.size := rfl
    have h7 : y.data.toList.length = y.size := rfl
    have h8 : an.data.toList.length = an.size := rfl
    rw [hy, List.length_append] at h7
    simp only [List.length_cons, List.length_nil] at h7
    omega
  refine (BWrite_k bb bb _ y w2 b2 hz (Nat.le_trans h3' hop.2.size)).mono fun e w3 hh => ?_
  obtain ⟨q1, q2, q3, q4⟩ := hh
  obtain ⟨r1, r2, r3, r4, r5, r6, r7⟩ := run_wrote hK hop.2 hop.1 hSw h3 h2 h3' hbw hsb hdx h4 h5 q2 rfl q3 q4
  have e1 : Lib.byteCells out.data.toList ++ Lib.strCells y = Lib.byteCells (out ++ an ++ nlT).data.toList := by
    rw [Lib.strCells_eq, ← Lib.byteCells_append, hy]
    congr 1
    have e2 : ∀ a b : ByteArray, (a ++ b).data.toList = a.data.toList ++ b.data.toList := fun a b => by simp
    rw [e2, e2, List.append_assoc]
    rfl
  rw [e1] at r4
  refine ⟨⟨_, q1⟩, r1, r2, ?_⟩
  unfold RunI
  rw [hfin]
  exact ⟨r3, r4, r5, r6, r7⟩
set_option maxRecDepth 100000 in
set_option maxHeartbeats 8000000 in
theorem Run_any (t : ByteArray) (w : World) (hD : DebG w) (hP : PowG w) (hG : StrG w) (hM : MaxG w) (hg : ErrG w) :
    Calls Tryz.prog 6 #[.string t] w fun e w' => e = .returned (.string (runT t)) ∧ Ext w w' := by
  by_cases hl : 3000 < t.size
  · have hi : (3000 : Int) < (t.size : Int) := by omega
    rw [runT_long hl]
    clear hl hD hP hG hM hg
    go_enter Tryz.func6, Tryz.ntmps6
    go_wp2
    go_ret
    exact ⟨rfl, Ext.refl _⟩
  have hi : ¬ (3000 : Int) < (t.size : Int) := by omega
  rw [runT_ok (by omega)]
  have HMN : Hid (Calls Tryz.prog 10 #[.int .i64 7] w fun e w' => e = .returned (.tuple #[.pointer (some ⟨w.heap.size, 0, none⟩), .nilIface]) ∧ MiAt 75 w' w.heap.size (.slice none 0 0) (.slice none 0 0) (Mi.new 7) ∧ Ext w w') := Lib.hid ((MNew_any 7 w).mono fun e w' h => by
    rcases h with ⟨h, _⟩ | ⟨_, h1, h2, h3⟩
    · exact absurd h (by decide)
    · exact ⟨h1, h2, h3⟩)
  refine (callsIn_wide (n := 4)).1 ?_
  refine callsIn_of_wp_marks Tryz.func6 rfl trivial ?_ rfl
  simp only [Tryz.ntmps6, List.size_toArray, List.length_cons, List.length_nil, Nat.reduceAdd, Nat.reduceSub, Array.replicate_succ, Array.replicate_zero, List.push_toArray, List.append_toArray, List.nil_append, List.cons_append]
  gi_wp2
  refine ⟨trivial, ?_⟩
  refine (callsIn_wide.2 HMN.out).mono ?_
  rintro _ w1 ⟨rfl, hm1, hb1⟩
  gi_wp2
  refine ⟨trivial, ?_⟩
  refine (lines_in _ t _).mono ?_
  rintro _ _ ⟨rfl, rfl⟩
  gi_wp2
  obtain ⟨db, hdb⟩ : ∃ g, w1.heap.size = g := ⟨_, rfl⟩
  obtain ⟨mb, hmb⟩ : ∃ g, w.heap.size = g := ⟨_, rfl⟩
  rw [hmb] at hm1
  rw [hdb, hmb]
  have hle : mb ≤ db := by rw [← hdb, ← hmb]; exact hb1.size
  have hmlt : mb < db := by rw [← hdb]; exact hm1.bk.lt
  have X2 : Ext w1 (w1.alloc (.cells #[.slice none 0 0, .pointer (some ⟨mb, 0, none⟩)] 45)) := (Ext.refl w1).alloc _
  have B2 := Bk.at_ w1 45 #[.slice none 0 0, .pointer (some ⟨mb, 0, none⟩)] db hdb.symm
  have B3 := Bk.at_ (w1.alloc (.cells #[.slice none 0 0, .pointer (some ⟨mb, 0, none⟩)] 45)) 43 #[.pointer (some ⟨db, 0, none⟩)] (db + 1) (by simp [hdb])
  have hs3 : ((w1.alloc (.cells #[.slice none 0 0, .pointer (some ⟨mb, 0, none⟩)] 45)).alloc (.cells #[.pointer (some ⟨db, 0, none⟩)] 43)).heap.size = db + 1 + 1 := by simp [hdb]
  have F4 := Lib.IsBuilderF.of (Lib.fresh_isBuilder 49 5 ((w1.alloc (.cells #[.slice none 0 0, .pointer (some ⟨mb, 0, none⟩)] 45)).alloc (.cells #[.pointer (some ⟨db, 0, none⟩)] 43)))
  rw [hs3] at F4
  have B5 := Bk.at_ (((w1.alloc (.cells #[.slice none 0 0, .pointer (some ⟨mb, 0, none⟩)] 45)).alloc (.cells #[.pointer (some ⟨db, 0, none⟩)] 43)).alloc (.cells #[.pointer none, .slice none 0 0] 49)) 9 #[.string t] (db + 1 + 1 + 1) (by simp [hdb])
  have X5 : Ext w1 ((((w1.alloc (.cells #[.slice none 0 0, .pointer (some ⟨mb, 0, none⟩)] 45)).alloc (.cells #[.pointer (some ⟨db, 0, none⟩)] 43)).alloc (.cells #[.pointer none, .slice none 0 0] 49)).alloc (.cells #[.string t] 9)) := X2.alloc _ |>.alloc _ |>.alloc _
  have HB5 := Lib.hid B5
  have HI0 : Hid (RunI w db (db + 1) (db + 1 + 1) (db + 1 + 1 + 1) [] ((((w1.alloc (.cells #[.slice none 0 0, .pointer (some ⟨mb, 0, none⟩)] 45)).alloc (.cells #[.pointer (some ⟨db, 0, none⟩)] 43)).alloc (.cells #[.pointer none, .slice none 0 0] 49)).alloc (.cells #[.string t] 9))) := Lib.hid (by
    refine ⟨⟨.slice none 0 0, mb, .slice none 0 0, .slice none 0 0, ⟨((B2.alloc _).alloc _).alloc _, own_nil _ _ _ _, hm1.ext X5, (fun g hg => by cases hg), dk0_good, by decide⟩, fun g hf => ?_⟩, ?_, ⟨hb1.trans X5, by simp [hdb]⟩, (B3.alloc _).alloc _, _, B5⟩
    · rw [hmb]
      rcases hf with rfl | hf | rfl | hf | hf
      · exact hle
      · cases hf
      · exact Nat.le_refl _
      · cases hf
      · cases hf
    · exact bld_chg F4 fun g o hh _ => (((Ext.refl _).alloc _ : Ext _ (World.alloc _ (.cells #[.string t] 9))).block g (Array.getElem?_eq_some_iff.1 hh).1).trans hh)
  have hsz : ((((w1.alloc (.cells #[.slice none 0 0, .pointer (some ⟨mb, 0, none⟩)] 45)).alloc (.cells #[.pointer (some ⟨db, 0, none⟩)] 43)).alloc (.cells #[.pointer none, .slice none 0 0] 49)).alloc (.cells #[.string t] 9)).heap.size = db + 1 + 1 + 1 + 1 := by simp [hdb]
  generalize ((((w1.alloc (.cells #[.slice none 0 0, .pointer (some ⟨mb, 0, none⟩)] 45)).alloc (.cells #[.pointer (some ⟨db, 0, none⟩)] 43)).alloc (.cells #[.pointer none, .slice none 0 0] 49)).alloc (.cells #[.string t] 9)) = W5 at *
  clear B2 B3 B5 F4 hs3 X2 X5 hm1 hdb HMN
  have htl : t.data.toList.length ≤ 3000 := by have : t.data.toList.length = t.size := rfl; omega
  have HWL : Hid (w.heap.size = mb) := Lib.hid hmb
  have HLN : Hid (t.data.toList.length ≤ 3000) := Lib.hid htl
  have HHD := Lib.hid hD
  have HHP := Lib.hid hP
  have HHG := Lib.hid hG
  have HHM := Lib.hid hM
  have HHE := Lib.hid hg
  clear hD hP hG hM hg hmb htl
  refine range_cells (n := 4) (by decide) (gf := 28) (lb := #[.pointer (some ⟨db + 1 + 1 + 1, 0, none⟩)]) rfl (enters_of Tryz.func28 (by kernel_rfl) rfl) (encs := fun x : RB => #[Value.string x.1]) (sb := db + 1 + 1 + 1) (by rw [hsz]; omega) (Kp := KpS (db + 1 + 1 + 1)) (S := fun xs => Raw t.data.toList (rawOf xs) []) (N := t.data.toList.length) (C := fun B => ∃ v, B.heap[db + 1 + 1 + 1]? = some (.cells #[v] 9))
    (fun l J W hbel hJ hY h0 => lines1_in (4 - 1) (by decide) l (db + 1 + 1 + 1) t.data.toList HLN.out J hJ hY W (by
      have := (hbel.block (db + 1 + 1 + 1) (by rw [hsz]; omega)).trans HB5.out
      rw [this]) h0)
    (fun h k v hv => k v (h v hv)) (fun W l o o' hl hh hc hw v hv => by
      have hne : l ≠ db + 1 + 1 + 1 := fun e => by rw [hsz] at hl; omega
      exact (World.putObj_heap_other (Ne.symm hne)).trans hv) (fun _ => rfl)
    (RunI w db (db + 1) (db + 1 + 1) (db + 1 + 1 + 1))
    (fun s A B row hs hgb hr => hs.turned (by have := HWL.out; rw [hsz]; omega) hgb hr)
    (fun s A B hs hgb hc => hs.lined (by have := HWL.out; omega) hgb hc)
    HI0.out
    (fun x => { tmps := #[.string t, undef, .string ⟨#[]⟩, .pointer (some ⟨mb, 0, none⟩), .nilIface, .pointer (some ⟨db + 1, 0, none⟩), .pointer (some ⟨db + 1 + 1, 0, none⟩), .string x.1, .string t, .int .i64 t.size, .bool false, .tuple #[.pointer (some ⟨mb, 0, none⟩), .nilIface], .tuple #[.pointer (some ⟨mb, 0, none⟩), .nilIface], .pointer (some ⟨mb, 0, none⟩), .nilIface, .nilIface, .bool false, .pointer (some ⟨mb, 0, none⟩), .agg #[.slice none 0 0, .pointer (some ⟨mb, 0, none⟩)], .pointer (some ⟨db, 0, none⟩), .string t, .func (.func 28) #[] #[.pointer (some ⟨db + 1 + 1 + 1, 0, none⟩)], .string x.1, undef, undef, undef, undef, undef, undef, undef], defers := [] }) ?assign ?body ?done
  case assign =>
    intro l x W K hK
    gi_wp2
    exact hK
  case body =>
    rintro l pre x W ⟨h1, h2, ⟨h3, h3'⟩, h4, v, h5⟩ hlen
    have hgood := h1.good
    obtain ⟨P0, hP0⟩ : ∃ z, playD dk0 noT ((rawOf pre).map trimL) = z := ⟨_, rfl⟩
    rw [hP0] at h1 h2 hgood
    obtain ⟨d, out⟩ := P0
    dsimp only at h1 h2 hgood
    have hout : out.size ≤ 200000000 := by
      have h6 := playD_size ((rawOf pre).map trimL) noT dk0_good
      rw [hP0] at h6
      dsimp only at h6
      rw [List.length_map, rawOf_len] at h6
      have h7 : noT.size = 0 := rfl
      have h8 := Nat.mul_le_mul_right 40001 (Nat.le_of_lt (Nat.lt_of_lt_of_le hlen HLN.out))
      omega
    obtain ⟨S, hDD, hSn, hSw, hKeep⟩ := h1.round h3
    have hE0 : 0 < w.heap.size := HHE.out.lt
    obtain ⟨ln, hln⟩ : ∃ z, baS (trimL x.1.data.toList) = z := ⟨_, rfl⟩
    have hls : ln.size ≤ 3000 := by
      rw [← hln]
      have hx := x.2
      have : (trimL x.1.data.toList).length ≤ x.1.data.toList.length := by
        unfold trimL Lib.trimSuffix
        split
        · rw [List.length_take]; omega
        · exact Nat.le_refl _
      have h9 : x.1.data.toList.length = x.1.size := rfl
      show (trimL x.1.data.toList).toArray.size ≤ _
      rw [List.size_toArray]
      omega
    have HTS : Hid (∀ W, Calls Tryz.prog 14 #[.string x.1, .string ⟨#[10]⟩] W fun e w' => e = .returned (.string ln) ∧ w' = W) := Lib.hid fun W => by
      have := Tryz.strings_TrimSuffix x.1 ⟨#[10]⟩ W (by have := x.2; omega)
      rw [← hln]
      exact this
    have HAN : Hid (∀ W', Ext W W' → Calls Tryz.prog 13 #[.pointer (some ⟨db, 0, none⟩), .string ln] W' fun e w' => e = .returned (.string (ansD d ln)) ∧ DOp 45 75 W S db (nextD d ln) w') := Lib.hid fun W' eW =>
      (DAns_any S db d ln W' (hDD.ext eW) (fun g hg => hSn g (Nat.le_trans eW.size hg)) hls (HHD.out.ext (h3.trans eW)) (HHP.out.ext (h3.trans eW)) (HHG.out.ext (h3.trans eW)) (HHM.out.ext (h3.trans eW)) (HHE.out.ext (h3.trans eW)) (fun h0 => by have := hSw 0 h0; omega)).mono fun e w' ⟨q1, q2⟩ => ⟨q1, q2.from_ eW⟩
    have hasz := ansD_size hgood ln
    have hfin : playD dk0 noT ((rawOf (pre ++ [x])).map trimL) = (nextD d ln, out ++ ansD d ln ++ nlT) := by
      rw [rawOf_snoc, List.map_append, List.map_singleton, playD_snoc, hP0, hln]
    obtain ⟨an, han⟩ : ∃ z, ansD d ln = z := ⟨_, rfl⟩
    rw [han] at HAN hasz hfin
    obtain ⟨y, hy⟩ : ∃ y : ByteArray, an ++ ⟨#[10]⟩ = y := ⟨_, rfl⟩
    have HY := Lib.hid hy
    have hyl : y.data.toList = an.data.toList ++ [10] := by rw [← hy]; simp
    have HWR := Lib.hid fun w2 (hop : DOp 45 75 W S db (nextD d ln) w2) => run_round (dx := db + 1) (bb := db + 1 + 1) (sb := db + 1 + 1 + 1) (hKeep w2 hop.2) hop hSw h3 h2 h3' (by have := HWL.out; omega) (by omega) (by omega) h4 h5 hout hasz hyl hfin
    have c0 : W.cell? ⟨db + 1, 0, none⟩ = some (.pointer (some ⟨db, 0, none⟩)) := Bk.cell h4 0
    clear h1 h2 h3 h3' h4 h5 hgood hDD hSn hSw hKeep hP0 hfin hln han hE0 hout hy hyl
    have hmix : Tryz.prog.follows .mixedOrders = true := by kernel_rfl
    have hfn : ∀ f, Fence.wide.fn f := fun _ => trivial
    gi_wp2
    gi_region_with_o (first
      | (gi_at_call 14; refine (CallsIn.inRound l (callsIn_wide.2 (HTS.out _))).mono ?_; rintro _ _ ⟨rfl, rfl⟩)
      | (gi_at_call 13; refine (CallsIn.inRound l (callsIn_wide.2 (HAN.out _ ?_))).mono ?_; (focus ((repeat (with_reducible first | exact Ext.refl _ | assumption | refine Ext.drew ?_ | refine Ext.drewN ?_ _ | refine Ext.alloc ?_ _ | refine Ext.trans ?_ (by with_reducible assumption))); done)); rintro _ w2 ⟨rfl, hop⟩; have HOP := Lib.hid hop; clear hop)
      | (gi_at_call 12; rw [HY.out]; refine (CallsIn.inRound l (callsIn_wide.2 (HWR.out _ HOP.out))).mono ?_; rintro _ w3 ⟨⟨v3, rfl⟩, r1, r2, r3⟩; have R1 := Lib.hid r1; have R2 := Lib.hid r2; have R3 := Lib.hid r3; clear r1 r2 r3)
      | fail)
    all_goals
      gi_wp2
      exact ⟨R1.out, R2.out, R3.out⟩
  case done =>
    rintro D xs W hD2 hS ⟨h1, h2, ⟨h3, h3'⟩, h4, v, h5⟩ hK
    rw [raw_all hS] at h2
    rw [hsz] at hD2
    have HST := Lib.hid (Tryz.Builder_String_any_k (db + 1 + 1) (db + 1 + 1) (playD dk0 noT (linesL t.data.toList)).2.data.toList W h2 h3')
    obtain ⟨out, hout⟩ : ∃ z, (playD dk0 noT (linesL t.data.toList)).2 = z := ⟨_, rfl⟩
    rw [hout] at HST
    have HO := Lib.hid hout
    have HID : Hid ((⟨out.data.toList.toArray⟩ : ByteArray) = out) := Lib.hid (by simp)
    rw [HID.out] at HST
    have HHK := Lib.hid hK
    have HH3 := Lib.hid h3
    clear h1 h2 h3 h3' h4 h5 hout hK
    gi_wp2
    refine ⟨trivial, ?_⟩
    refine (callsIn_wide.2 HST.out).mono ?_
    rintro _ w6 ⟨rfl, _, q3, q4⟩
    have hK6 : w6.heap[D]? = some (.deferred (some [])) := q4 _ _ HHK.out (fun e => by injection e with e; omega) (fun c fz e => by cases e)
    gi_wp2
    refine ⟨by simp, .inl ⟨_, _, rfl, run_takeDeferred hK6, ?_⟩⟩
    have e6 : Ext w w6 := ext_below q3 HH3.out (by have := HWL.out; omega)
    exact ⟨_, results_tmp rfl _ _ _, by rw [HO.out]; rfl, chg_ext (gb_chg (grownBy_putObj' w6 D _)) e6 (fun g e => by have := HWL.out; injection e with e; omega)⟩
end Go.Proofs.YtnphbkjkeipmmaaGreatDoor

/- What is asked of a log, and that the answer proves it; plain. -/
namespace Go.Proofs.YtnphbkjkeipmmaaGreatDoor
set_option linter.unusedVariables false

theorem digB_four {n : Nat} (h : n < 10000) : (digB n).size ≤ 4 := digB_small 3 n (by show n < 10000; exact h)
theorem numR_dig {n : Nat} (h : n < 10000) : numR (digB n) 4 = some n := numR_of (digB_four h) rfl
theorem parts_two {s x a : ByteArray} (e : s = x ++ ⟨#[32]⟩ ++ a) (hx : freeB 32 x) (ha : freeB 32 a) : partsB 32 s = [x, a] := by
  have e1 : s.data.toList = x.data.toList ++ 32 :: a.data.toList := by subst e; simp
  unfold partsB
  rw [e1, partsL_app 32 _ _ hx, partsL_one 32 _ ha]
  simp
theorem parts_three {s x a b : ByteArray} (e : s = x ++ ⟨#[32]⟩ ++ a ++ ⟨#[32]⟩ ++ b) (hx : freeB 32 x) (ha : freeB 32 a) (hb : freeB 32 b) : partsB 32 s = [x, a, b] := by
  have e1 : s.data.toList = x.data.toList ++ 32 :: (a.data.toList ++ 32 :: b.data.toList) := by subst e; simp
  unfold partsB
  rw [e1, partsL_app 32 _ _ hx, partsL_app 32 _ _ ha, partsL_one 32 _ hb]
  simp
theorem ask_one {s x : ByteArray} {i : Nat} (e : s = x ++ ⟨#[32]⟩ ++ digB i) (hx : freeB 32 x) (hw : wantN x = some 1) (hi : i < 10000) : askR s = some (x, [i]) := by
  refine askR_ok (parts_two e hx (free_dig i)) hw rfl ?_
  show (match numR (digB i) 4 with | none => none | some v => (numsR []).map (v :: ·)) = some [i]
  rw [numR_dig hi]; rfl
theorem ask_two {s x : ByteArray} {i j : Nat} (e : s = x ++ ⟨#[32]⟩ ++ digB i ++ ⟨#[32]⟩ ++ digB j) (hx : freeB 32 x) (hw : wantN x = some 2) (hi : i < 10000) (hj : j < 10000) : askR s = some (x, [i, j]) := by
  refine askR_ok (parts_three e hx (free_dig i) (free_dig j)) hw rfl ?_
  show (match numR (digB i) 4 with | none => none | some v => (match numR (digB j) 4 with | none => none | some v => (numsR []).map (v :: ·)).map (v :: ·)) = some [i, j]
  rw [numR_dig hi, numR_dig hj]; rfl
theorem free_lit {s : ByteArray} (h : s.data.toList.all (fun b => b != 32) = true) : freeB 32 s := fun b hb => by
  have := List.all_eq_true.1 h b hb
  simpa using this
theorem ask_head : askR wHead = some (wHead, []) := by
  refine askR_ok (r := []) (n := 0) ?_ (by decide) rfl rfl
  unfold partsB
  rw [partsL_one 32 _ (free_lit (by decide))]
  simp
theorem ask_leaf {s : ByteArray} {i : Nat} (e : s = ⟨#[108, 101, 97, 102, 32]⟩ ++ digB i) (hi : i < 10000) : askR s = some (wLeaf, [i]) :=
  ask_one (x := wLeaf) (by rw [e]; apply ba_ext; simp [wLeaf]) (free_lit (by decide)) (by decide) hi
theorem ask_proof {s : ByteArray} {i n : Nat} (e : s = ⟨#[112, 114, 111, 111, 102, 32]⟩ ++ digB i ++ ⟨#[32]⟩ ++ digB n) (hi : i < 10000) (hn : n < 10000) : askR s = some (wProof, [i, n]) :=
  ask_two (x := wProof) (by rw [e]; apply ba_ext; simp [wProof]) (free_lit (by decide)) (by decide) hi hn
theorem ask_grow {s : ByteArray} {i n : Nat} (e : s = ⟨#[103, 114, 111, 119, 32]⟩ ++ digB i ++ ⟨#[32]⟩ ++ digB n) (hi : i < 10000) (hn : n < 10000) : askR s = some (wGrow, [i, n]) :=
  ask_two (x := wGrow) (by rw [e]; apply ba_ext; simp [wGrow]) (free_lit (by decide)) (by decide) hi hn
theorem ask_entry0 : askR ⟨#[101, 110, 116, 114, 121, 32, 48]⟩ = some (wEntry, [0]) :=
  ask_one (x := wEntry) (i := 0) (by apply ba_ext; simp [wEntry, digB_one, digs]; try decide) (free_lit (by decide)) (by decide) (by omega)
theorem ansR_bad {es : List Ent} {key now : Int} {s x : ByteArray} {ns : List Nat} (h : askR s = some (x, ns)) (k : shK es key now ≠ 0) : ansR es key now s = (⟨#[]⟩, shK es key now) := by
  unfold ansR; rw [h]; exact if_pos k
theorem ansR_ok {es : List Ent} {key now : Int} {s x : ByteArray} {ns : List Nat} (h : askR s = some (x, ns)) (k : shK es key now = 0) : ansR es key now s = ansW es (shH es key now) x (ns.getD 0 0) (ns.getD 1 0) := by
  unfold ansR; rw [h]; exact if_neg (not_not_intro k)
theorem ans_head {es : List Ent} {key now : Int} (k : shK es key now = 0) : ansR es key now wHead = (headB (shH es key now), 0) := by
  rw [ansR_ok ask_head k]
  unfold ansW
  exact if_pos rfl
theorem ans_proof {es : List Ent} {key now : Int} {s : ByteArray} {i n : Nat} (k : shK es key now = 0) (hl : es.length = n) (hi : i < n) (e : s = ⟨#[112, 114, 111, 111, 102, 32]⟩ ++ digB i ++ ⟨#[32]⟩ ++ digB n) :
    ansR es key now s = (textsV (wayL (es.map Ent.leaf) i), 0) := by
  obtain ⟨hk, _⟩ := sh_parts k
  have hn := hk.1
  rw [ansR_ok (ask_proof e (by omega) (by omega)) k]
  show ansW es (shH es key now) wProof i n = _
  obtain ⟨p1, p2⟩ := pmV_way (leafs_of_ents hk) (n := n) (i := i) (by rw [List.length_map]; exact hl) hi
  unfold ansW
  rw [if_neg (by decide), if_pos rfl]
  rw [p1, p2]
  unfold sumsV
  rw [if_neg (by decide)]
theorem ans_grow {es : List Ent} {key now : Int} {s : ByteArray} {i n : Nat} (k : shK es key now = 0) (hl : es.length = n) (h1 : 1 ≤ i) (hi : i ≤ n) (e : s = ⟨#[103, 114, 111, 119, 32]⟩ ++ digB i ++ ⟨#[32]⟩ ++ digB n) :
    ansR es key now s = (textsV (growL (es.map Ent.leaf) i true), 0) := by
  obtain ⟨hk, _⟩ := sh_parts k
  have hn := hk.1
  rw [ansR_ok (ask_grow e (by omega) (by omega)) k]
  show ansW es (shH es key now) wGrow i n = _
  have p2 := gmK_ok (xs := es.map Ent.leaf) (o := (i : Int)) (n := (n : Int)) (leafs_of_ents hk) ⟨by omega, by omega, by rw [List.length_map]; omega⟩
  have p1 : gmV (es.map Ent.leaf) (i : Int) (n : Int) = growL (es.map Ent.leaf) i true := by
    unfold gmV
    rw [if_pos p2, Int.toNat_natCast, Int.toNat_natCast, List.take_of_length_le (by rw [List.length_map]; omega)]
  unfold ansW
  rw [if_neg (by decide), if_neg (by decide), if_pos rfl]
  rw [p1, p2]
  unfold sumsV
  rw [if_neg (by decide)]
theorem ans_leaf {es : List Ent} {key now : Int} {s : ByteArray} {i : Nat} {x : Ent} (k : shK es key now = 0) (hx : es[i]? = some x) (e : s = ⟨#[108, 101, 97, 102, 32]⟩ ++ digB i) :
    ansR es key now s = (hexT x.leaf.toNat, 0) := by
  obtain ⟨hk, _⟩ := sh_parts k
  have hn := hk.1
  have hi : i < es.length := (List.getElem?_eq_some_iff.1 hx).1
  rw [ansR_ok (ask_leaf e (by omega)) k]
  show ansW es (shH es key now) wLeaf i 0 = _
  unfold ansW
  rw [if_neg (by decide), if_neg (by decide), if_neg (by decide), if_neg (by decide), hx]
  exact if_pos rfl
theorem ans_entry0 {x : Ent} {es : List Ent} {key now : Int} (k : shK (x :: es) key now = 0) : ansR (x :: es) key now ⟨#[101, 110, 116, 114, 121, 32, 48]⟩ = (entT x, 0) := by
  rw [ansR_ok ask_entry0 k]
  show ansW (x :: es) (shH (x :: es) key now) wEntry 0 0 = _
  unfold ansW
  rw [if_neg (by decide), if_neg (by decide), if_neg (by decide), if_neg (by decide)]
  exact if_neg (by decide)
/-- the sums of a text, read back -/
def backV (s : ByteArray) : List Int := if s = ⟨#[45]⟩ then [] else (partsB 32 s).map readV
theorem back_texts {l : List Int} (h : allV l = true) : backV (textsV l) = l := by
  unfold textsV
  by_cases e : l = []
  · rw [if_pos e, e]; rfl
  · rw [if_neg e]
    have hp : partsB 32 (jnB (l.map fun n => hexT n.toNat)) = l.map fun n => hexT n.toNat := jnB_parts (by simpa using e) (fun s hs => by
      obtain ⟨n, _, rfl⟩ := List.mem_map.1 hs
      exact free_hex _)
    unfold backV
    have hne : jnB (l.map fun n => hexT n.toNat) ≠ ⟨#[45]⟩ := fun h => by
      rw [h] at hp
      have e2 : partsB 32 (⟨#[45]⟩ : ByteArray) = [⟨#[45]⟩] := by decide
      rw [e2] at hp
      cases l with
      | nil => exact e rfl
      | cons a l =>
        rw [List.map_cons] at hp
        injection hp with h1 h2
        have h3 := congrArg ByteArray.size h1
        rw [hexT_size] at h3
        exact absurd h3 (by decide)
    rw [if_neg hne, hp, List.map_map]
    conv => rhs; rw [← List.map_id l]
    apply List.map_congr_left
    intro n hn
    have hv : vld n = true := by
      obtain ⟨j, hj⟩ := List.mem_iff_getElem?.1 hn
      exact allV_get h hj
    exact (readV_hexT hv).1
end Go.Proofs.YtnphbkjkeipmmaaGreatDoor
