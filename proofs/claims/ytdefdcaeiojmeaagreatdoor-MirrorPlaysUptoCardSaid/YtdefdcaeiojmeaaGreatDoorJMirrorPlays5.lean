/- What a bound on what is read gives: entries. -/
import Derived.Test.YtdefdcaeiojmeaaGreatDoorJMirrorPlays1
import Derived.Test.YtdefdcaeiojmeaaGreatDoorJMirrorPlays4
import Derived.Test.YtdefdcaeiojmeaaGreatDoorJMirrorPlays2
import Derived.LaidEql
import Derived.Stop.Asserts
import Derived.RowKitTokens
import Derived.Test.YtdefdcaeiojmeaaGreatDoorRows
import Derived.ChangeSame
import Derived.ChangeVars
import Derived.JoinedOf
import Derived.LaidLaws
import Derived.LaidHandle
import Derived.Stop.Joined
import Derived.Deep.DeepHandedRow
import Derived.SevenTiedAt
namespace Go.Proofs.YtdefdcaeiojmeaaGreatDoor
open Go.ChangeShapes Go.WideShapes Go.ChangeAt Go.RowKit Go.Deep Go.Joins
set_option linter.unusedVariables false
section
variable {H : Type} {enc : TypeId × Value → H} {w : World} {spare : Nat → Bool} {held : Bool}

set_option maxRecDepth 100000 in
theorem bulk_dent {n : Nat} {cs : List Value} {x : DataW H × List MemPlace} (h : DataW.trod enc Tryz.prog w 0 spare held n 83 cs = some x) : ∃ y : Ent, cs = y.cells ∧ y.data.size ≤ Rows.uptoBulk x.1 := by
  have hC : Tryz.prog.cellsOf 83 = 2 := by kernel_rfl
  have hC1 : Tryz.prog.cellsOf 3 = 1 := by kernel_rfl
  have hC2 : Tryz.prog.cellsOf 9 = 1 := by kernel_rfl
  obtain ⟨xs, m, _, rfl, hlen, hxl, hf⟩ := DataW.trod_struct Tryz.underlying83 h
  rw [hC] at hlen
  have hx2 : xs.length = 2 := hxl
  match cs, hlen, xs, hx2, hf with
  | [c0, c1], _, [x0, x1], _, hf =>
    have t0 : DataW.trod enc Tryz.prog w 0 spare held m 3 (List.take (Tryz.prog.cellsOf 3) (List.drop 0 [c0, c1])) = some x0 := hf 0 _ rfl
    rw [hC1] at t0
    have t1 : DataW.trod enc Tryz.prog w 0 spare held m 9 (List.take (Tryz.prog.cellsOf 9) (List.drop 1 [c0, c1])) = some x1 := hf 1 _ rfl
    rw [hC2] at t1
    have t0' : DataW.trod enc Tryz.prog w 0 spare held m 3 [c0] = some x0 := t0
    have t1' : DataW.trod enc Tryz.prog w 0 spare held m 9 [c1] = some x1 := t1
    obtain ⟨z, hz, _⟩ := DataW.trod_int Tryz.underlying3 t0'
    obtain ⟨s, hs, hx, _⟩ := DataW.trod_string Tryz.underlying9 t1'
    simp at hz hs
    subst hz hs
    refine ⟨⟨z, s⟩, rfl, ?_⟩
    have h2 := bulk_string (H := H) s
    have e : s.data.toList.length = s.size := rfl
    subst hx
    show s.size ≤ Rows.uptoBulk (.agg _)
    simp [Rows.uptoBulk, Rows.uptoBulkAll]
    omega
theorem bulk_mem {D : Nat → DataW H} : ∀ (l : List (DataW H)) (d : DataW H), d ∈ l → Rows.uptoBulk d ≤ Rows.uptoBulkAll l
  | [], d, h => by cases h
  | x :: l, d, h => by
    simp only [Rows.uptoBulkAll]
    rcases List.mem_cons.1 h with rfl | h
    · omega
    · have := bulk_mem (D := D) l d h
      omega
theorem bulk_ents {A : Option Addr} {n c : Nat} {es : List Ent} {d : DataW H} {p : List MemPlace} (hr : Rd w 2 A n c (es.flatMap Ent.cells)) (h : DataW.Trod enc Tryz.prog w 0 spare held 22 (.slice A n c) d p) : ∀ e ∈ es, e.data.size ≤ Rows.uptoBulk d := by
  have hC : Tryz.prog.cellsOf 83 = 2 := by kernel_rfl
  obtain ⟨fuel, hf⟩ := h
  intro e he
  obtain ⟨j, hj⟩ := List.getElem?_of_mem he
  have hjl : j < n := by
    have := hr.lenE
    have := (List.getElem?_eq_some_iff.1 hj).1
    omega
  rcases open_slice Tryz.underlying22 hf with ⟨hcs, hx⟩ | ⟨a, len', cap', m, k, D, Pl, hcs, _, hl, hm, hmm, hx, hi⟩
  · simp [Value.cells] at hcs
    omega
  · simp [Value.cells] at hcs
    obtain ⟨rfl, rfl, rfl⟩ := hcs
    injection hx with h1 h2
    subst h1
    obtain ⟨cs', h3, h4⟩ := hi j (by rw [hmm]; split <;> omega)
    rw [hC] at h3
    obtain ⟨y, rfl, hy⟩ := bulk_dent h4
    obtain ⟨ad, hA, _, c0, c1⟩ := hr.getE hj
    injection hA with hA
    subst hA
    obtain ⟨_, _, hat⟩ := World.cells?_some h3
    have e1 := hat 1 (by omega)
    have e2 : (a.add (j * 2)).add 1 = ⟨(a.add (j * 2)).block, (a.add (j * 2)).off + 1, none⟩ := rfl
    rw [e2, c1] at e1
    have e4 : some (Value.string e.data) = some (Value.string y.data) := e1
    have e3 : e.data = y.data := Value.string.inj (Option.some.inj e4)
    dsimp only at hy
    rw [e3]
    have h5 : D j ∈ (List.range n).map D := List.mem_map.2 ⟨j, List.mem_range.2 hjl, rfl⟩
    have h6 := bulk_mem (D := D) _ _ h5
    simp only [Rows.uptoBulk]
    omega
end
end Go.Proofs.YtdefdcaeiojmeaaGreatDoor

/- errors.As at a target of type *api.Errno, where the error is nil or an api.Errno. After the guide's worked text ToyasAs. -/
namespace Go.Proofs.YtdefdcaeiojmeaaGreatDoor
open Go.RowKit Go.Extern.Stop Go.Stop Go.Extern
set_option linter.unusedVariables false

theorem as_valueOfP (t : Addr) (w : World) : (ReflectliteValue.unpack (.iface 168 (.pointer (some t)))).run Tryz.prog w
    = .ok (.agg #[.pointer (some ⟨9, 168, none⟩), .pointer (some ⟨w.heap.size, 0, none⟩), .int .u64 150]) (w.alloc (.cells #[.pointer (some t)] 168)) := by kernel_rfl
theorem as_typeP (a : Addr) (w : World) : (ReflectliteValue.methodAny (ReflectliteValue.valueError "reflectlite.Value.Type" 0) (fun t _ _ _ => ReflectliteType.toType t) #[.agg #[.pointer (some ⟨9, 168, none⟩), .pointer (some a), .int .u64 150]]).run Tryz.prog w
    = .ok (.iface 211 (.agg #[.pointer (some ⟨9, 168, none⟩)])) w := by kernel_rfl
theorem as_mKind (h : Value) (w : World) : (Go.method 381 211 (.agg #[h]) "Kind").run Tryz.prog w = .ok (215, h) w := by kernel_rfl
theorem as_kindP (w : World) : ((ReflectliteType.abiMethod fun t => (fun a : Nat => Value.int IntKind.u8 (a : Int)) <$> Rtype.kind t) #[.pointer (some ⟨9, 168, none⟩)]).run Tryz.prog w = .ok (.int .u8 22) w := by kernel_rfl
theorem as_kindE (w : World) : ((ReflectliteType.abiMethod fun t => (fun a : Nat => Value.int IntKind.u8 (a : Int)) <$> Rtype.kind t) #[.pointer (some ⟨9, 102, none⟩)]).run Tryz.prog w = .ok (.int .u8 2) w := by kernel_rfl
theorem rlm (z : Sem Value) (f : TypeId → Addr → Nat → Nat → Sem Value) (v : Value) :
    ReflectliteValue.method z f #[v] = (do match ← ReflectliteValue.parts v with | none => z | some (t, a, fl) => f t a fl (fl % 32)) := rfl
theorem as_partsP (a : Addr) (w : World) : (ReflectliteValue.parts (.agg #[.pointer (some ⟨9, 168, none⟩), .pointer (some a), .int .u64 150])).run Tryz.prog w = .ok (some (168, a, 150)) w := by kernel_rfl
theorem as_isNil (a p : Addr) (W : World) (ha : W.cell? a = some (.pointer (some p))) :
    (ReflectliteValue.method (ReflectliteValue.valueError "reflectlite.Value.IsNil" 0) ReflectliteValue.isNil #[.agg #[.pointer (some ⟨9, 168, none⟩), .pointer (some a), .int .u64 150]]).run Tryz.prog W = .ok (.bool false) W := by
  rw [rlm]
  simp only [Sem.run_bind, as_partsP, Result.andThen]
  simp [ReflectliteValue.isNil, loadVar, isAgg, underlying, Tryz.underlying168, ha, Result.andThen]
theorem as_mElem (h : Value) (w : World) : (Go.method 381 211 (.agg #[h]) "Elem").run Tryz.prog w = .ok (227, .agg #[h]) w := by kernel_rfl
theorem as_mImpl (h : Value) (w : World) : (Go.method 381 211 (.agg #[h]) "Implements").run Tryz.prog w = .ok (228, .agg #[h]) w := by kernel_rfl
theorem as_mAssign (h : Value) (w : World) : (Go.method 381 211 (.agg #[h]) "AssignableTo").run Tryz.prog w = .ok (225, .agg #[h]) w := by kernel_rfl
theorem as_elemP (w : World) : (ReflectliteType.method ReflectliteType.elem #[.agg #[.pointer (some ⟨9, 168, none⟩)]]).run Tryz.prog w = .ok (.iface 211 (.agg #[.pointer (some ⟨9, 102, none⟩)])) w := by kernel_rfl
theorem as_implE (w : World) : (ReflectliteType.relation "Implements" ReflectliteType.implements_ #[.agg #[.pointer (some ⟨9, 102, none⟩)], .iface 211 (.agg #[.pointer (some ⟨9, 26, none⟩)])]).run Tryz.prog w = .ok (.bool true) w := by kernel_rfl
theorem as_typeOfE (v : Value) (w : World) : (ReflectliteType.typeOf #[.iface 102 v]).run Tryz.prog w = .ok (.iface 211 (.agg #[.pointer (some ⟨9, 102, none⟩)])) w := by kernel_rfl
theorem as_assignE (w : World) : (ReflectliteType.relation "AssignableTo" ReflectliteType.assignableTo #[.agg #[.pointer (some ⟨9, 102, none⟩)], .iface 211 (.agg #[.pointer (some ⟨9, 102, none⟩)])]).run Tryz.prog w = .ok (.bool true) w := by kernel_rfl
theorem as_valueOfE (k : Int) (w : World) : (ReflectliteValue.unpack (.iface 102 (.int .i64 k))).run Tryz.prog w
    = .ok (.agg #[.pointer (some ⟨9, 102, none⟩), .pointer (some ⟨w.heap.size, 0, none⟩), .int .u64 130]) (w.alloc (.cells #[.int .i64 k] 102)) := by kernel_rfl
theorem as_elemOfP (w : World) : (Rtype.elem? 168).run Tryz.prog w = .ok (some 102) w := by kernel_rfl
theorem as_mkE (p : Addr) (w : World) : (ReflectliteValue.mk 102 p ReflectliteValue.flagAddr).run Tryz.prog w = .ok (.agg #[.pointer (some ⟨9, 102, none⟩), .pointer (some p), .int .u64 386]) w := by kernel_rfl
theorem as_elemV (a p : Addr) (W : World) (ha : W.cell? a = some (.pointer (some p))) :
    (ReflectliteValue.method (ReflectliteValue.valueError "reflectlite.Value.Elem" 0) ReflectliteValue.elem #[.agg #[.pointer (some ⟨9, 168, none⟩), .pointer (some a), .int .u64 150]]).run Tryz.prog W
      = .ok (.agg #[.pointer (some ⟨9, 102, none⟩), .pointer (some p), .int .u64 386]) W := by
  rw [rlm]
  simp only [Sem.run_bind, as_partsP, Result.andThen]
  simp [ReflectliteValue.elem, loadVar, isAgg, underlying, Tryz.underlying168, ha, Result.andThen, as_elemOfP, as_mkE]
theorem rls (v x : Value) : ReflectliteValue.set #[v, x] = (do
    let (some (dst, a, fl), some (src, b, _)) := (← ReflectliteValue.parts v, ← ReflectliteValue.parts x)
      | unsupported (.noEntry "extern/(internal/reflectlite.Value).Set.zeroValue")
    if fl / ReflectliteValue.flagAddr % 2 == 0 then unsupported (.noEntry "extern/(internal/reflectlite.Value).Set.unaddressable")
    let val ← loadVar src b
    if ← Rtype.directlyAssignable dst src then storeVar dst a val
    else if ← Rtype.implements dst src then
      if (← Rtype.kind src) == 20 then
        match val with
        | .nilIface => unsupported (.noEntry "extern/reflectlite: a nil value of one interface type handed on as a value of another")
        | _ => storeVar dst a val
      else storeVar dst a (.iface src val)
    else panicString ("reflectlite.Set: value of type " ++ (← Rtype.spelt src) ++ " is not assignable to type " ++ (← Rtype.spelt dst))
    pure (.tuple #[])) := rfl
theorem as_partsEa (a : Addr) (w : World) : (ReflectliteValue.parts (.agg #[.pointer (some ⟨9, 102, none⟩), .pointer (some a), .int .u64 386])).run Tryz.prog w = .ok (some (102, a, 386)) w := by kernel_rfl
theorem as_partsE (a : Addr) (w : World) : (ReflectliteValue.parts (.agg #[.pointer (some ⟨9, 102, none⟩), .pointer (some a), .int .u64 130])).run Tryz.prog w = .ok (some (102, a, 130)) w := by kernel_rfl
theorem as_direct (w : World) : (Rtype.directlyAssignable 102 102).run Tryz.prog w = .ok true w := by kernel_rfl
theorem as_set (ta b : Addr) (k : Int) (old : Value) (W : World) (hb : W.cell? b = some (.int .i64 k)) (ht : W.cell? ta = some old) (hf : W.frozen? ta = false) :
    (ReflectliteValue.set #[.agg #[.pointer (some ⟨9, 102, none⟩), .pointer (some ta), .int .u64 386], .agg #[.pointer (some ⟨9, 102, none⟩), .pointer (some b), .int .u64 130]]).run Tryz.prog W
      = .ok (.tuple #[]) (W.setCell ta (.int .i64 k)) := by
  rw [rls]
  simp only [Sem.run_bind, as_partsEa, as_partsE, Result.andThen]
  simp [ReflectliteValue.flagAddr, loadVar, isAgg, underlying, Tryz.underlying102, hb, Result.andThen, as_direct, storeVar, Value.cells, storeCells, Addr.add]
  rw [run_store Tryz.prog W ta _ _ (by rfl)]
  simp [ht, hf]

/-- what errors.As reads: the type of interface error, as it was laid -/
def ErrG (w : World) : Prop := w.cell? ⟨0, 0, none⟩ = some (.iface 211 (.agg #[.pointer (some ⟨9, 26, none⟩)]))
theorem ErrG.lt {w : World} (h : ErrG w) : 0 < w.heap.size := by
  rcases Nat.eq_zero_or_pos w.heap.size with h0 | h1
  · unfold ErrG at h; simp [World.cell?, h0] at h
  · exact h1
theorem ErrG.ext {w w' : World} (h : ErrG w) (e : Ext w w') : ErrG w' := (e.cell (p := ⟨0, 0, none⟩) h.lt).trans h

set_option maxHeartbeats 4000000 in
theorem as_hit (k : Int) (t : Addr) (old : Value) (w : World) (hg : ErrG w) (ht0 : w.cell? t = some old) (hf0 : w.frozen? t = false) :
    Calls Tryz.prog 125 #[.iface 102 (.int .i64 k), .iface 168 (.pointer (some t))] w fun ev w' => ev = .returned (.bool true) ∧ w' = ((((w.alloc (.cells #[.pointer (some t)] 168)).alloc (.cells #[.pointer (some ⟨9, 168, none⟩), .pointer (some ⟨w.heap.size, 0, none⟩), .int .u64 150] 186)).alloc (.cells #[.pointer (some ⟨9, 168, none⟩), .pointer (some ⟨w.heap.size, 0, none⟩), .int .u64 150] 186)).alloc (.cells #[.int .i64 k] 102)).setCell t (.int .i64 k) := by
  have hlt := hg.lt
  unfold ErrG at hg
  have h6 := @run_callFunc_extern Tryz.prog 149 _ (fun args => ReflectliteValue.unpack (args.getD 0 (.tuple #[]))) Tryz.func149 (by kernel_rfl) (by kernel_rfl) (by kernel_rfl) (by kernel_rfl)
  have h7 := @run_callFunc_extern Tryz.prog 150 _ (ReflectliteValue.methodAny (ReflectliteValue.valueError "reflectlite.Value.Type" 0) (fun t _ _ _ => ReflectliteType.toType t)) Tryz.func150 (by kernel_rfl) (by kernel_rfl) (by kernel_rfl) (by kernel_rfl)
  have h8 := @run_callFunc_extern Tryz.prog 151 _ (ReflectliteValue.method (ReflectliteValue.valueError "reflectlite.Value.IsNil" 0) ReflectliteValue.isNil) Tryz.func151 (by kernel_rfl) (by kernel_rfl) (by kernel_rfl) (by kernel_rfl)
  have h27 := @run_callFunc_extern Tryz.prog 215 _ (ReflectliteType.abiMethod fun t => do pure (.int .u8 (← Rtype.kind t))) Tryz.func215 (by kernel_rfl) (by kernel_rfl) (by kernel_rfl) (by kernel_rfl)
  have h37 := @run_callFunc_extern Tryz.prog 227 _ (ReflectliteType.method ReflectliteType.elem) Tryz.func227 (by kernel_rfl) (by kernel_rfl) (by kernel_rfl) (by kernel_rfl)
  have h38 := @run_callFunc_extern Tryz.prog 228 _ (ReflectliteType.relation "Implements" ReflectliteType.implements_) Tryz.func228 (by kernel_rfl) (by kernel_rfl) (by kernel_rfl) (by kernel_rfl)
  have h10 := @run_callFunc_extern Tryz.prog 169 _ ReflectliteType.typeOf Tryz.func169 (by kernel_rfl) (by kernel_rfl) (by kernel_rfl) (by kernel_rfl)
  have h35 := @run_callFunc_extern Tryz.prog 225 _ (ReflectliteType.relation "AssignableTo" ReflectliteType.assignableTo) Tryz.func225 (by kernel_rfl) (by kernel_rfl) (by kernel_rfl) (by kernel_rfl)
  have h11 := @run_callFunc_extern Tryz.prog 170 _ (ReflectliteValue.method (ReflectliteValue.valueError "reflectlite.Value.Elem" 0) ReflectliteValue.elem) Tryz.func170 (by kernel_rfl) (by kernel_rfl) (by kernel_rfl) (by kernel_rfl)
  have h12 := @run_callFunc_extern Tryz.prog 171 _ ReflectliteValue.set Tryz.func171 (by kernel_rfl) (by kernel_rfl) (by kernel_rfl) (by kernel_rfl)
  have tO := as_typeOfE
  have mA := as_mAssign
  have a25 := as_assignE
  have v25 := as_valueOfE
  have f6 := as_valueOfP
  have f7 := as_typeP
  have mK := as_mKind
  have mE := as_mElem
  have mI := as_mImpl
  have k27 := as_kindP
  have k25 := as_kindE
  have e27 := as_elemP
  have i25 := as_implE
  have n8 := as_isNil ⟨w.heap.size, 0, none⟩ t ((w.alloc (.cells #[.pointer (some t)] 168)).alloc (.cells #[.pointer (some ⟨9, 168, none⟩), .pointer (some ⟨w.heap.size, 0, none⟩), .int .u64 150] 186)) (by simp)
  have hg2 : ((w.alloc (.cells #[.pointer (some t)] 168)).alloc (.cells #[.pointer (some ⟨9, 168, none⟩), .pointer (some ⟨w.heap.size, 0, none⟩), .int .u64 150] 186)).cell? ⟨0, 0, none⟩ = some (.iface 211 (.agg #[.pointer (some ⟨9, 26, none⟩)])) := by
    rw [World.cell?_alloc_lt _ _ ⟨0, 0, none⟩ (by simp), World.cell?_alloc_lt _ _ ⟨0, 0, none⟩ hlt]; exact hg
  have htl : t.block < w.heap.size := by
    rcases Nat.lt_or_ge t.block w.heap.size with h | h
    · exact h
    · simp [World.cell?, Array.getElem?_eq_none h] at ht0
  have el := as_elemV ⟨w.heap.size, 0, none⟩ t (((w.alloc (.cells #[.pointer (some t)] 168)).alloc (.cells #[.pointer (some ⟨9, 168, none⟩), .pointer (some ⟨w.heap.size, 0, none⟩), .int .u64 150] 186)).alloc (.cells #[.pointer (some ⟨9, 168, none⟩), .pointer (some ⟨w.heap.size, 0, none⟩), .int .u64 150] 186)) (by rw [World.cell?_alloc_lt _ _ ⟨w.heap.size, 0, none⟩ (by simp; omega)]; simp)
  have st := as_set t ⟨w.heap.size + 1 + 1 + 1, 0, none⟩ k old ((((w.alloc (.cells #[.pointer (some t)] 168)).alloc (.cells #[.pointer (some ⟨9, 168, none⟩), .pointer (some ⟨w.heap.size, 0, none⟩), .int .u64 150] 186)).alloc (.cells #[.pointer (some ⟨9, 168, none⟩), .pointer (some ⟨w.heap.size, 0, none⟩), .int .u64 150] 186)).alloc (.cells #[.int .i64 k] 102))
    (by rw [World.cell?_alloc_at _ _ _ _ (by simp)]; rfl)
    (by rw [World.cell?_alloc_lt _ _ t (by simp; omega), World.cell?_alloc_lt _ _ t (by simp; omega), World.cell?_alloc_lt _ _ t (by simp; omega), World.cell?_alloc_lt _ _ t htl]; exact ht0)
    (by rw [World.frozen?_alloc_old _ _ t (by simp; omega), World.frozen?_alloc_old _ _ t (by simp; omega), World.frozen?_alloc_old _ _ t (by simp; omega), World.frozen?_alloc_old _ _ t (Nat.ne_of_lt htl)]; exact hf0)
  go_enter Tryz.func125, Tryz.ntmps125
  go_wp2
  refine wp_loop_rounds 1 ?_
  rw [rounds_succ]
  go_wp2
  go_ret
  exact ⟨rfl, rfl⟩

/-! ### plain.Told, witsame.Error -/
set_option maxRecDepth 100000 in
theorem Told_any (k : Int) (w : World) (hg : ErrG w) :
    Calls Tryz.prog 79 #[errR k] w fun e w' => e = .returned (.int .i64 k) ∧ Ext w w' := by
  by_cases h : k = 0
  · subst h
    rw [errR_0]
    go_enter Tryz.func79, Tryz.ntmps79
    go_wp2_with fail
    go_ret
    exact ⟨rfl, by (repeat (with_reducible first | exact Ext.refl _ | assumption | refine Ext.drew ?_ | refine Ext.drewN ?_ _ | refine Ext.alloc ?_ _ | refine Ext.trans ?_ (by with_reducible assumption)))⟩
  · rw [errR_ne h]
    unfold errV
    have E0 : Ext w (w.alloc (.cells #[.int .i64 0] 102)) := by (repeat (with_reducible first | exact Ext.refl _ | assumption | refine Ext.drew ?_ | refine Ext.drewN ?_ _ | refine Ext.alloc ?_ _ | refine Ext.trans ?_ (by with_reducible assumption)))
    have hgA := hg.ext E0
    go_enter Tryz.func79, Tryz.ntmps79
    go_wp2_with fail
    refine (as_hit k ⟨w.heap.size, 0, none⟩ (.int .i64 0) _ hgA (by simp) (by simp)).mono ?_
    rintro _ w1 ⟨rfl, rfl⟩
    go_wp2_with fail
    go_ret
    exact ⟨rfl, by (repeat (with_reducible first | exact Ext.refl _ | assumption | refine Ext.drew ?_ | refine Ext.drewN ?_ _ | refine Ext.alloc ?_ _ | refine Ext.trans ?_ (by with_reducible assumption)))⟩
/-- is it the fault that is told? -/
def errIs (k e : Int) : Bool := k == e
set_option maxRecDepth 100000 in
theorem Error_any (k e : Int) (w : World) (hg : ErrG w) :
    Calls Tryz.prog 33 #[errR k, .int .i64 e] w fun x w' => x = .returned (.bool (errIs k e)) ∧ Ext w w' := by
  have HE : Hid ((k == e) = errIs k e) := rfl
  go_enter Tryz.func33, Tryz.ntmps33
  go_wp2_with fail
  refine (Told_any k _ hg).mono ?_
  rintro _ w1 ⟨rfl, hb1⟩
  go_wp2_with fail
  go_ret
  exact ⟨ret_bool HE.out, by (repeat (with_reducible first | exact Ext.refl _ | assumption | refine Ext.drew ?_ | refine Ext.drewN ?_ _ | refine Ext.alloc ?_ _ | refine Ext.trans ?_ (by with_reducible assumption)))⟩
end Go.Proofs.YtdefdcaeiojmeaaGreatDoor

/- What the rows of this seat list: errors.errorType. After the guide's worked text ToyasProofs. -/
namespace Go.Proofs.YtdefdcaeiojmeaaGreatDoor
open Go.ChangeShapes Go.WideShapes Go.RowKit
set_option linter.unusedVariables false

theorem et : Tryz.prog.globalNamed "errors.errorType" = some 0 := by kernel_rfl
theorem rtG : (Tryz.prog.cutTypes.find? (·.1 == "internal/reflectlite.rtype")).map (·.2) = some 211 := by kernel_rfl
theorem sizeG : Tryz.prog.types.size = 281 := by kernel_rfl
theorem oneRowG : ((List.range 281).filter fun t => Tryz.prog.rowNamed t [101, 114, 114, 111, 114]) = [26] := by kernel_rfl
theorem handle_of_laid {W : World} (h : laidMetH Tryz.prog [("errors.errorType", Rows.laid_errors_errorType)] W) : ErrG W := by
  have h' : laidMet Tryz.prog [] W ∧ handlesMet Tryz.prog [("errors.errorType", Rows.laid_errors_errorType)] W := h
  obtain ⟨name, u, ty, e1, e2, e3, e4, e5⟩ := h'.2 _ (List.mem_singleton.2 rfl)
  have en : name = [101, 114, 114, 111, 114] := (Option.some.inj e1).symm
  subst en
  obtain rfl := Option.some.inj (rtG.symm.trans e2)
  have hm : ty ∈ (List.range 281).filter fun t => Tryz.prog.rowNamed t [101, 114, 114, 111, 114] := List.mem_filter.2 ⟨List.mem_range.2 (by rw [← sizeG]; exact e3), e4⟩
  rw [oneRowG] at hm
  obtain rfl := List.mem_singleton.1 hm
  have hh : typeHandle Tryz.prog 26 = .pointer (some ⟨9, 26, none⟩) := by kernel_rfl
  rw [hh] at e5
  have := World.var?_cell et e5 0
  unfold ErrG
  simpa using this
/-- a world for the witness -/
noncomputable def laidWorld (os : Os) : World :=
  let w0 := World.holding Tryz.prog os ⟨#[], #[], []⟩
  { w0 with heap := w0.heap.modify 0 fun
      | .cells _ t frozen => .cells #[.iface 211 (.agg #[.pointer (some ⟨9, 26, none⟩)])] t frozen
      | o => o }
end Go.Proofs.YtdefdcaeiojmeaaGreatDoor
