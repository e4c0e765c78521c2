/- run.Run: what is answered to a text. -/
import Derived.Test.YtnphbkjkeipmmaaGreatDoorJRunBegins30
import Derived.Test.YtnphbkjkeipmmaaGreatDoorJRunBegins31
import Derived.Test.YtnphbkjkeipmmaaGreatDoorJRunAnswers0
namespace Go.Proofs.YtnphbkjkeipmmaaGreatDoor
open Go.RowKit Go.Shelf
set_option linter.unusedVariables false
attribute [local go_sem] Oper.semAt_some

/-- what stands while lines are answered -/
def RunI (w : World) (db dx bb sb : Nat) (pre : List RB) (W : World) : Prop :=
  DN 45 75 w W db (playD dk0 noT ((rawOf pre).map trimL)).1 ∧
  Lib.IsBuilderF 49 5 bb bb (Lib.byteCells (playD dk0 noT ((rawOf pre).map trimL)).2.data.toList) W ∧
  (Ext w W ∧ bb ≤ W.heap.size) ∧ W.heap[dx]? = some (.cells #[.pointer (some ⟨db, 0, none⟩)] 43) ∧ ∃ v, W.heap[sb]? = some (.cells #[v] 9)
theorem RunI.turned {w W W' : World} {db dx bb sb B : Nat} {pre : List RB} {row : Option Nat} (h : RunI w db dx bb sb pre W) (hB : w.heap.size ≤ B) (hg : W.grownBy W' row) (hr : ∀ r, row = some r → B ≤ r ∧ ∃ o : Obj, W.heap[r]? = some o ∧ o.isCells = false) : RunI w db dx bb sb pre W' := by
  obtain ⟨h1, h2, ⟨h3, h3'⟩, h4, v, h5⟩ := h
  have hc : ∀ (g : Nat) (o : Obj), W.heap[g]? = some o → o.isCells = true → W'.heap[g]? = some o := fun g o ho hco => by
    refine (hg.block g (Array.getElem?_eq_some_iff.1 ho).1 (fun e => ?_)).trans ho
    obtain ⟨_, o', ho', hcc⟩ := hr g e.symm
    rw [ho] at ho'
    injection ho' with ho'
    subst ho'
    rw [hco] at hcc
    cases hcc
  refine ⟨h1.turned hg fun r e => (hr r e).2, bld_turned h2 hg fun r e => (hr r e).2, ⟨chg_ext (gb_chg hg) h3 fun g e => Nat.le_trans hB (hr g e).1, Nat.le_trans h3' hg.size⟩, hc _ _ h4 rfl, v, hc _ _ h5 rfl⟩
theorem RunI.lined {w W W' : World} {db dx bb sb : Nat} {pre : List RB} (h : RunI w db dx bb sb pre W) (hs : w.heap.size ≤ sb) (hg : W.grownBy W' (some sb)) (hc : ∃ v, W'.heap[sb]? = some (.cells #[v] 9)) : RunI w db dx bb sb pre W' := by
  obtain ⟨h1, h2, ⟨h3, h3'⟩, h4, v, h5⟩ := h
  refine ⟨h1.apart_ h5 (by decide) hg, bld_apart h2 h5 (by decide) hg, ⟨chg_ext (gb_chg hg) h3 fun g e => by injection e with e; omega, Nat.le_trans h3' hg.size⟩, ?_, hc⟩
  refine (hg.block dx (Array.getElem?_eq_some_iff.1 h4).1 (fun e => ?_)).trans h4
  injection e with e
  subst e
  rw [h4] at h5
  injection h5 with h5
  injection h5 with _ h5 _
  cases h5
theorem ext_below {w w2 w3 : World} {B : Nat} (h : Below B w2 w3) (e : Ext w w2) (hB : w.heap.size ≤ B) : Ext w w3 :=
  chg_ext (S := fun g => B ≤ g) ⟨h.os, h.tape, h.output, h.size, fun k hk hs => h.block k (by omega)⟩ e fun g hg => Nat.le_trans hB hg
theorem bld_kept {W w2 : World} {bb : Nat} {bs : List Value} (h2 : Lib.IsBuilderF 49 5 bb bb bs W) (hK : ∀ (g : Nat) (o : Obj), W.heap[g]? = some o → Alien 45 75 o → w2.heap[g]? = some o) : Lib.IsBuilderF 49 5 bb bb bs w2 :=
  bld_chg h2 fun g o hh hc => hK g o hh (by
    obtain ⟨cs, ts, fz, rfl, ht⟩ := hc
    intro cs' t' fz' e
    injection e with _ e _
    subst e
    rcases ht with rfl | rfl
    · decide
    · decide)
theorem alien_one {v : Value} {t : TypeId} (h : t ≠ 45 ∧ t ≠ 75 ∧ t ≠ 67) : Alien 45 75 (.cells #[v] t) := by
  intro cs t' fz e
  injection e with _ e _
  subst e
  exact h
theorem run_wrote {w W w2 w3 : World} {S : Nat → Prop} {db sb bb dx : Nat} {d' : Dk} {bs bs' : List Value} {p v u : Value} (hK : ∀ (g : Nat) (o : Obj), W.heap[g]? = some o → Alien 45 75 o → w2.heap[g]? = some o) (hc : Chg W w2 S)
    (hD : DD 45 75 w2 S db d') (hSw : ∀ g, S g → w.heap.size ≤ g) (h3 : Ext w W) (h2 : Lib.IsBuilderF 49 5 bb bb bs W) (h3' : bb ≤ W.heap.size) (hbw : w.heap.size ≤ bb) (hsb : sb ≠ bb) (hdx : dx ≠ bb)
    (h4 : W.heap[dx]? = some (.cells #[u] 43)) (h5 : W.heap[sb]? = some (.cells #[v] 9)) (q2 : Lib.BuilderAtF 49 5 bb bb p bs' w3) (hp : p = .pointer (some ⟨bb, 0, none⟩)) (q3 : Below bb w2 w3) (q4 : Lib.OthersKept 5 (some bb) w2 w3) :
    KeepsOthers W w3 ∧ KpS sb W w3 ∧ DN 45 75 w w3 db d' ∧ Lib.IsBuilderF 49 5 bb bb bs' w3 ∧ (Ext w w3 ∧ bb ≤ w3.heap.size) ∧ w3.heap[dx]? = some (.cells #[u] 43) ∧ ∃ v, w3.heap[sb]? = some (.cells #[v] 9) := by
  have e2 : Ext w w2 := chg_ext hc h3 hSw
  have b2 := bld_kept h2 hK
  have one : ∀ (g : Nat) (x : Value) (t : TypeId), W.heap[g]? = some (.cells #[x] t) → g ≠ bb → (t ≠ 45 ∧ t ≠ 75 ∧ t ≠ 67) → t ≠ 5 → w3.heap[g]? = some (.cells #[x] t) := fun g x t hg hne ha hu =>
    q4 g _ (hK g _ hg (alien_one ha)) (fun e => hne (Option.some.inj e)) (fun c fz e => by injection e with _ e _; exact hu e)
  refine ⟨⟨Nat.le_trans hc.size q3.size, fun k o hk ho => ?_⟩, fun x hx => one sb x _ hx hsb (by decide) (by decide), ?_, ?_, ⟨ext_below q3 e2 hbw, Nat.le_trans h3' (Nat.le_trans hc.size q3.size)⟩, one dx u _ h4 hdx (by decide) (by decide), v, one sb v _ h5 hsb (by decide) (by decide)⟩
  · refine q4 k o (hK k o hk fun cs t' fz e => ?_) (fun e => ?_) (fun c fz e => ?_)
    · subst e; cases ho
    · have e' := Option.some.inj e
      subst e'
      obtain ⟨_, cs, hcs⟩ := bld_at h2
      rw [hk] at hcs
      injection hcs with hcs
      subst hcs
      cases ho
    · subst e; cases ho
  · refine (DN.of hD hSw).others q3 q4 (by decide) ?_
    obtain ⟨_, cs, hcs⟩ := bld_at b2
    exact ⟨cs, _, _, hcs, by decide⟩
  · subst hp
    exact .inr q2
theorem run_round {w W w2 : World} {S : Nat → Prop} {db sb bb dx : Nat} {d' : Dk} {out an : ByteArray} {pre : List RB} {x : RB} {v : Value} (hK : ∀ (g : Nat) (o : Obj), W.heap[g]? = some o → Alien 45 75 o → w2.heap[g]? = some o)
    (hop : DOp 45 75 W S db d' w2) (hSw : ∀ g, S g → w.heap.size ≤ g) (h3 : Ext w W) (h2 : Lib.IsBuilderF 49 5 bb bb (Lib.byteCells out.data.toList) W) (h3' : bb ≤ W.heap.size) (hbw : w.heap.size ≤ bb) (hsb : sb ≠ bb) (hdx : dx ≠ bb)
    (h4 : W.heap[dx]? = some (.cells #[.pointer (some ⟨db, 0, none⟩)] 43)) (h5 : W.heap[sb]? = some (.cells #[v] 9)) (hout : out.size ≤ 200000000) (hasz : an.size ≤ 40000) {y : ByteArray} (hy : y.data.toList = an.data.toList ++ [10]) (hfin : playD dk0 noT ((rawOf (pre ++ [x])).map trimL) = (d', out ++ an ++ nlT)) :
    Calls Tryz.prog 12 #[.pointer (some ⟨bb, 0, none⟩), .string y] w2 fun e w' => (∃ v, e = .returned v) ∧ KeepsOthers W w' ∧ KpS sb W w' ∧ RunI w db dx bb sb (pre ++ [x]) w' := by
  have b2 := bld_kept h2 hK
  have hz : (Lib.byteCells out.data.toList).length + y.size ≤ 140737488355328 := by
    rw [Lib.byteCells_length]
    have h6 : out.data.toList.length = out.size := rfl
    have h7 : y.data.toList.length = y.size := rfl
    have h8 : an.data.toList.length = an.size := rfl
    rw [hy, List.length_append] at h7
    simp only [List.length_cons, List.length_nil] at h7
    omega
  refine (BWrite_k bb bb _ y w2 b2 hz (Nat.le_trans h3' hop.2.size)).mono fun e w3 hh => ?_
  obtain ⟨q1, q2, q3, q4⟩ := hh
  obtain ⟨r1, r2, r3, r4, r5, r6, r7⟩ := run_wrote hK hop.2 hop.1 hSw h3 h2 h3' hbw hsb hdx h4 h5 q2 rfl q3 q4
  have e1 : Lib.byteCells out.data.toList ++ Lib.strCells y = Lib.byteCells (out ++ an ++ nlT).data.toList := by
    rw [Lib.strCells_eq, ← Lib.byteCells_append, hy]
    congr 1
    have e2 : ∀ a b : ByteArray, (a ++ b).data.toList = a.data.toList ++ b.data.toList := fun a b => by simp
    rw [e2, e2, List.append_assoc]
    rfl
  rw [e1] at r4
  refine ⟨⟨_, q1⟩, r1, r2, ?_⟩
  unfold RunI
  rw [hfin]
  exact ⟨r3, r4, r5, r6, r7⟩
set_option maxRecDepth 100000 in
set_option maxHeartbeats 8000000 in
theorem Run_any (t : ByteArray) (w : World) (hD : DebG w) (hP : PowG w) (hG : StrG w) (hM : MaxG w) (hg : ErrG w) :
    Calls Tryz.prog 6 #[.string t] w fun e w' => e = .returned (.string (runT t)) ∧ Ext w w' := by
  by_cases hl : 3000 < t.size
  · have hi : (3000 : Int) < (t.size : Int) := by omega
    rw [runT_long hl]
    clear hl hD hP hG hM hg
    go_enter Tryz.func6, Tryz.ntmps6
    go_wp2
    go_ret
    exact ⟨rfl, Ext.refl _⟩
  have hi : ¬ (3000 : Int) < (t.size : Int) := by omega
  rw [runT_ok (by omega)]
  have HMN : Hid (Calls Tryz.prog 10 #[.int .i64 7] w fun e w' => e = .returned (.tuple #[.pointer (some ⟨w.heap.size, 0, none⟩), .nilIface]) ∧ MiAt 75 w' w.heap.size (.slice none 0 0) (.slice none 0 0) (Mi.new 7) ∧ Ext w w') := Lib.hid ((MNew_any 7 w).mono fun e w' h => by
    rcases h with ⟨h, _⟩ | ⟨_, h1, h2, h3⟩
    · exact absurd h (by decide)
    · exact ⟨h1, h2, h3⟩)
  refine (callsIn_wide (n := 4)).1 ?_
  refine callsIn_of_wp_marks Tryz.func6 rfl trivial ?_ rfl
  simp only [Tryz.ntmps6, List.size_toArray, List.length_cons, List.length_nil, Nat.reduceAdd, Nat.reduceSub, Array.replicate_succ, Array.replicate_zero, List.push_toArray, List.append_toArray, List.nil_append, List.cons_append]
  gi_wp2
  refine ⟨trivial, ?_⟩
  refine (callsIn_wide.2 HMN.out).mono ?_
  rintro _ w1 ⟨rfl, hm1, hb1⟩
  gi_wp2
  refine ⟨trivial, ?_⟩
  refine (lines_in _ t _).mono ?_
  rintro _ _ ⟨rfl, rfl⟩
  gi_wp2
  obtain ⟨db, hdb⟩ : ∃ g, w1.heap.size = g := ⟨_, rfl⟩
  obtain ⟨mb, hmb⟩ : ∃ g, w.heap.size = g := ⟨_, rfl⟩
  rw [hmb] at hm1
  rw [hdb, hmb]
  have hle : mb ≤ db := by rw [← hdb, ← hmb]; exact hb1.size
  have hmlt : mb < db := by rw [← hdb]; exact hm1.bk.lt
  have X2 : Ext w1 (w1.alloc (.cells #[.slice none 0 0, .pointer (some ⟨mb, 0, none⟩)] 45)) := (Ext.refl w1).alloc _
  have B2 := Bk.at_ w1 45 #[.slice none 0 0, .pointer (some ⟨mb, 0, none⟩)] db hdb.symm
  have B3 := Bk.at_ (w1.alloc (.cells #[.slice none 0 0, .pointer (some ⟨mb, 0, none⟩)] 45)) 43 #[.pointer (some ⟨db, 0, none⟩)] (db + 1) (by simp [hdb])
  have hs3 : ((w1.alloc (.cells #[.slice none 0 0, .pointer (some ⟨mb, 0, none⟩)] 45)).alloc (.cells #[.pointer (some ⟨db, 0, none⟩)] 43)).heap.size = db + 1 + 1 := by simp [hdb]
  have F4 := Lib.IsBuilderF.of (Lib.fresh_isBuilder 49 5 ((w1.alloc (.cells #[.slice none 0 0, .pointer (some ⟨mb, 0, none⟩)] 45)).alloc (.cells #[.pointer (some ⟨db, 0, none⟩)] 43)))
  rw [hs3] at F4
  have B5 := Bk.at_ (((w1.alloc (.cells #[.slice none 0 0, .pointer (some ⟨mb, 0, none⟩)] 45)).alloc (.cells #[.pointer (some ⟨db, 0, none⟩)] 43)).alloc (.cells #[.pointer none, .slice none 0 0] 49)) 9 #[.string t] (db + 1 + 1 + 1) (by simp [hdb])
  have X5 : Ext w1 ((((w1.alloc (.cells #[.slice none 0 0, .pointer (some ⟨mb, 0, none⟩)] 45)).alloc (.cells #[.pointer (some ⟨db, 0, none⟩)] 43)).alloc (.cells #[.pointer none, .slice none 0 0] 49)).alloc (.cells #[.string t] 9)) := X2.alloc _ |>.alloc _ |>.alloc _
  have HB5 := Lib.hid B5
  have HI0 : Hid (RunI w db (db + 1) (db + 1 + 1) (db + 1 + 1 + 1) [] ((((w1.alloc (.cells #[.slice none 0 0, .pointer (some ⟨mb, 0, none⟩)] 45)).alloc (.cells #[.pointer (some ⟨db, 0, none⟩)] 43)).alloc (.cells #[.pointer none, .slice none 0 0] 49)).alloc (.cells #[.string t] 9))) := Lib.hid (by
    refine ⟨⟨.slice none 0 0, mb, .slice none 0 0, .slice none 0 0, ⟨((B2.alloc _).alloc _).alloc _, own_nil _ _ _ _, hm1.ext X5, (fun g hg => by cases hg), dk0_good, by decide⟩, fun g hf => ?_⟩, ?_, ⟨hb1.trans X5, by simp [hdb]⟩, (B3.alloc _).alloc _, _, B5⟩
    · rw [hmb]
      rcases hf with rfl | hf | rfl | hf | hf
      · exact hle
      · cases hf
      · exact Nat.le_refl _
      · cases hf
      · cases hf
    · exact bld_chg F4 fun g o hh _ => (((Ext.refl _).alloc _ : Ext _ (World.alloc _ (.cells #[.string t] 9))).block g (Array.getElem?_eq_some_iff.1 hh).1).trans hh)
  have hsz : ((((w1.alloc (.cells #[.slice none 0 0, .pointer (some ⟨mb, 0, none⟩)] 45)).alloc (.cells #[.pointer (some ⟨db, 0, none⟩)] 43)).alloc (.cells #[.pointer none, .slice none 0 0] 49)).alloc (.cells #[.string t] 9)).heap.size = db + 1 + 1 + 1 + 1 := by simp [hdb]
  generalize ((((w1.alloc (.cells #[.slice none 0 0, .pointer (some ⟨mb, 0, none⟩)] 45)).alloc (.cells #[.pointer (some ⟨db, 0, none⟩)] 43)).alloc (.cells #[.pointer none, .slice none 0 0] 49)).alloc (.cells #[.string t] 9)) = W5 at *
  clear B2 B3 B5 F4 hs3 X2 X5 hm1 hdb HMN
  have htl : t.data.toList.length ≤ 3000 := by have : t.data.toList.length = t.size := rfl; omega
  have HWL : Hid (w.heap.size = mb) := Lib.hid hmb
  have HLN : Hid (t.data.toList.length ≤ 3000) := Lib.hid htl
  have HHD := Lib.hid hD
  have HHP := Lib.hid hP
  have HHG := Lib.hid hG
  have HHM := Lib.hid hM
  have HHE := Lib.hid hg
  clear hD hP hG hM hg hmb htl
  refine range_cells (n := 4) (by decide) (gf := 28) (lb := #[.pointer (some ⟨db + 1 + 1 + 1, 0, none⟩)]) rfl (enters_of Tryz.func28 (by kernel_rfl) rfl) (encs := fun x : RB => #[Value.string x.1]) (sb := db + 1 + 1 + 1) (by rw [hsz]; omega) (Kp := KpS (db + 1 + 1 + 1)) (S := fun xs => Raw t.data.toList (rawOf xs) []) (N := t.data.toList.length) (C := fun B => ∃ v, B.heap[db + 1 + 1 + 1]? = some (.cells #[v] 9))
    (fun l J W hbel hJ hY h0 => lines1_in (4 - 1) (by decide) l (db + 1 + 1 + 1) t.data.toList HLN.out J hJ hY W (by
      have := (hbel.block (db + 1 + 1 + 1) (by rw [hsz]; omega)).trans HB5.out
      rw [this]) h0)
    (fun h k v hv => k v (h v hv)) (fun W l o o' hl hh hc hw v hv => by
      have hne : l ≠ db + 1 + 1 + 1 := fun e => by rw [hsz] at hl; omega
      exact (World.putObj_heap_other (Ne.symm hne)).trans hv) (fun _ => rfl)
    (RunI w db (db + 1) (db + 1 + 1) (db + 1 + 1 + 1))
    (fun s A B row hs hgb hr => hs.turned (by have := HWL.out; rw [hsz]; omega) hgb hr)
    (fun s A B hs hgb hc => hs.lined (by have := HWL.out; omega) hgb hc)
    HI0.out
    (fun x => { tmps := #[.string t, undef, .string ⟨#[]⟩, .pointer (some ⟨mb, 0, none⟩), .nilIface, .pointer (some ⟨db + 1, 0, none⟩), .pointer (some ⟨db + 1 + 1, 0, none⟩), .string x.1, .string t, .int .i64 t.size, .bool false, .tuple #[.pointer (some ⟨mb, 0, none⟩), .nilIface], .tuple #[.pointer (some ⟨mb, 0, none⟩), .nilIface], .pointer (some ⟨mb, 0, none⟩), .nilIface, .nilIface, .bool false, .pointer (some ⟨mb, 0, none⟩), .agg #[.slice none 0 0, .pointer (some ⟨mb, 0, none⟩)], .pointer (some ⟨db, 0, none⟩), .string t, .func (.func 28) #[] #[.pointer (some ⟨db + 1 + 1 + 1, 0, none⟩)], .string x.1, undef, undef, undef, undef, undef, undef, undef], defers := [] }) ?assign ?body ?done
  case assign =>
    intro l x W K hK
    gi_wp2
    exact hK
  case body =>
    rintro l pre x W ⟨h1, h2, ⟨h3, h3'⟩, h4, v, h5⟩ hlen
    have hgood := h1.good
    obtain ⟨P0, hP0⟩ : ∃ z, playD dk0 noT ((rawOf pre).map trimL) = z := ⟨_, rfl⟩
    rw [hP0] at h1 h2 hgood
    obtain ⟨d, out⟩ := P0
    dsimp only at h1 h2 hgood
    have hout : out.size ≤ 200000000 := by
      have h6 := playD_size ((rawOf pre).map trimL) noT dk0_good
      rw [hP0] at h6
      dsimp only at h6
      rw [List.length_map, rawOf_len] at h6
      have h7 : noT.size = 0 := rfl
      have h8 := Nat.mul_le_mul_right 40001 (Nat.le_of_lt (Nat.lt_of_lt_of_le hlen HLN.out))
      omega
    obtain ⟨S, hDD, hSn, hSw, hKeep⟩ := h1.round h3
    have hE0 : 0 < w.heap.size := HHE.out.lt
    obtain ⟨ln, hln⟩ : ∃ z, baS (trimL x.1.data.toList) = z := ⟨_, rfl⟩
    have hls : ln.size ≤ 3000 := by
      rw [← hln]
      have hx := x.2
      have : (trimL x.1.data.toList).length ≤ x.1.data.toList.length := by
        unfold trimL Lib.trimSuffix
        split
        · rw [List.length_take]; omega
        · exact Nat.le_refl _
      have h9 : x.1.data.toList.length = x.1.size := rfl
      show (trimL x.1.data.toList).toArray.size ≤ _
      rw [List.size_toArray]
      omega
    have HTS : Hid (∀ W, Calls Tryz.prog 14 #[.string x.1, .string ⟨#[10]⟩] W fun e w' => e = .returned (.string ln) ∧ w' = W) := Lib.hid fun W => by
      have := Tryz.strings_TrimSuffix x.1 ⟨#[10]⟩ W (by have := x.2; omega)
      rw [← hln]
      exact this
    have HAN : Hid (∀ W', Ext W W' → Calls Tryz.prog 13 #[.pointer (some ⟨db, 0, none⟩), .string ln] W' fun e w' => e = .returned (.string (ansD d ln)) ∧ DOp 45 75 W S db (nextD d ln) w') := Lib.hid fun W' eW =>
      (DAns_any S db d ln W' (hDD.ext eW) (fun g hg => hSn g (Nat.le_trans eW.size hg)) hls (HHD.out.ext (h3.trans eW)) (HHP.out.ext (h3.trans eW)) (HHG.out.ext (h3.trans eW)) (HHM.out.ext (h3.trans eW)) (HHE.out.ext (h3.trans eW)) (fun h0 => by have := hSw 0 h0; omega)).mono fun e w' ⟨q1, q2⟩ => ⟨q1, q2.from_ eW⟩
    have hasz := ansD_size hgood ln
    have hfin : playD dk0 noT ((rawOf (pre ++ [x])).map trimL) = (nextD d ln, out ++ ansD d ln ++ nlT) := by
      rw [rawOf_snoc, List.map_append, List.map_singleton, playD_snoc, hP0, hln]
    obtain ⟨an, han⟩ : ∃ z, ansD d ln = z := ⟨_, rfl⟩
    rw [han] at HAN hasz hfin
    obtain ⟨y, hy⟩ : ∃ y : ByteArray, an ++ ⟨#[10]⟩ = y := ⟨_, rfl⟩
    have HY := Lib.hid hy
    have hyl : y.data.toList = an.data.toList ++ [10] := by rw [← hy]; simp
    have HWR := Lib.hid fun w2 (hop : DOp 45 75 W S db (nextD d ln) w2) => run_round (dx := db + 1) (bb := db + 1 + 1) (sb := db + 1 + 1 + 1) (hKeep w2 hop.2) hop hSw h3 h2 h3' (by have := HWL.out; omega) (by omega) (by omega) h4 h5 hout hasz hyl hfin
    have c0 : W.cell? ⟨db + 1, 0, none⟩ = some (.pointer (some ⟨db, 0, none⟩)) := Bk.cell h4 0
    clear h1 h2 h3 h3' h4 h5 hgood hDD hSn hSw hKeep hP0 hfin hln han hE0 hout hy hyl
    have hmix : Tryz.prog.follows .mixedOrders = true := by kernel_rfl
    have hfn : ∀ f, Fence.wide.fn f := fun _ => trivial
    gi_wp2
    gi_region_with_o (first
      | (gi_at_call 14; refine (CallsIn.inRound l (callsIn_wide.2 (HTS.out _))).mono ?_; rintro _ _ ⟨rfl, rfl⟩)
      | (gi_at_call 13; refine (CallsIn.inRound l (callsIn_wide.2 (HAN.out _ ?_))).mono ?_; (focus ((repeat (with_reducible first | exact Ext.refl _ | assumption | refine Ext.drew ?_ | refine Ext.drewN ?_ _ | refine Ext.alloc ?_ _ | refine Ext.trans ?_ (by with_reducible assumption))); done)); rintro _ w2 ⟨rfl, hop⟩; have HOP := Lib.hid hop; clear hop)
      | (gi_at_call 12; rw [HY.out]; refine (CallsIn.inRound l (callsIn_wide.2 (HWR.out _ HOP.out))).mono ?_; rintro _ w3 ⟨⟨v3, rfl⟩, r1, r2, r3⟩; have R1 := Lib.hid r1; have R2 := Lib.hid r2; have R3 := Lib.hid r3; clear r1 r2 r3)
      | fail)
    all_goals
      gi_wp2
      exact ⟨R1.out, R2.out, R3.out⟩
  case done =>
    rintro D xs W hD2 hS ⟨h1, h2, ⟨h3, h3'⟩, h4, v, h5⟩ hK
    rw [raw_all hS] at h2
    rw [hsz] at hD2
    have HST := Lib.hid (Tryz.Builder_String_any_k (db + 1 + 1) (db + 1 + 1) (playD dk0 noT (linesL t.data.toList)).2.data.toList W h2 h3')
    obtain ⟨out, hout⟩ : ∃ z, (playD dk0 noT (linesL t.data.toList)).2 = z := ⟨_, rfl⟩
    rw [hout] at HST
    have HO := Lib.hid hout
    have HID : Hid ((⟨out.data.toList.toArray⟩ : ByteArray) = out) := Lib.hid (by simp)
    rw [HID.out] at HST
    have HHK := Lib.hid hK
    have HH3 := Lib.hid h3
    clear h1 h2 h3 h3' h4 h5 hout hK
    gi_wp2
    refine ⟨trivial, ?_⟩
    refine (callsIn_wide.2 HST.out).mono ?_
    rintro _ w6 ⟨rfl, _, q3, q4⟩
    have hK6 : w6.heap[D]? = some (.deferred (some [])) := q4 _ _ HHK.out (fun e => by injection e with e; omega) (fun c fz e => by cases e)
    gi_wp2
    refine ⟨by simp, .inl ⟨_, _, rfl, run_takeDeferred hK6, ?_⟩⟩
    have e6 : Ext w w6 := ext_below q3 HH3.out (by have := HWL.out; omega)
    exact ⟨_, results_tmp rfl _ _ _, by rw [HO.out]; rfl, chg_ext (gb_chg (grownBy_putObj' w6 D _)) e6 (fun g e => by have := HWL.out; injection e with e; omega)⟩
end Go.Proofs.YtnphbkjkeipmmaaGreatDoor
