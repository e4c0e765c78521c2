import Derived.Test.YtmknpehjncpekaaGreatDoorJMirrorPlays2
import Derived.Test.YtmknpehjncpekaaGreatDoorJMirrorPlays0
import Derived.Deep.RegionHeld3
import Derived.Deep.DrawnRows
namespace Go.Proofs.YtmknpehjncpekaaGreatDoor
open Go.RowKit
set_option linter.unusedVariables false

end Go.Proofs.YtmknpehjncpekaaGreatDoor

namespace Go.Proofs.YtmknpehjncpekaaGreatDoor
open Go.RowKit
set_option linter.unusedVariables false

end Go.Proofs.YtmknpehjncpekaaGreatDoor

namespace Go.Proofs.YtmknpehjncpekaaGreatDoor
open Go.RowKit
set_option linter.unusedVariables false
attribute [local go_sem ↓] Go.wp_at_zero Go.wp_at_succ

/-- which fault an entry has -/
def Ent.ok (e : Ent) : Prop := 0 ≤ e.time ∧ e.time ≤ 1000000 ∧ e.data.size ≤ 200
def Ent.err (e : Ent) : Int := if e.time < 0 ∨ 1000000 < e.time then 1 else 4
instance (e : Ent) : Decidable e.ok := by unfold Ent.ok; infer_instance

theorem eCheck_ok (t : Int) (s : ByteArray) (w : World) (h : (⟨t, s⟩ : Ent).ok) :
    Calls Tryz.prog 49 #[.agg #[.int .i64 t, .string s]] w fun e w' => e = .returned .nilIface ∧ Ext w w' := by
  obtain ⟨h0, h1, h2⟩ := h
  dsimp only at h0 h1 h2
  go_enter Tryz.func49, Tryz.ntmps49
  go_wp2
  go_ret
  exact ⟨rfl, by (repeat (with_reducible first | exact Ext.refl _ | assumption | refine Ext.drew ?_ | refine Ext.drewN ?_ _ | refine Ext.alloc ?_ _ | refine Ext.trans ?_ (by with_reducible assumption)))⟩
theorem eCheck_bad (t : Int) (s : ByteArray) (w : World) (h : ¬ (⟨t, s⟩ : Ent).ok) :
    Calls Tryz.prog 49 #[.agg #[.int .i64 t, .string s]] w fun e w' => e = .returned (errV (⟨t, s⟩ : Ent).err) ∧ Ext w w' := by
  have h' : (t < 0) ∨ (0 ≤ t ∧ 1000000 < t) ∨ (0 ≤ t ∧ t ≤ 1000000 ∧ 200 < s.size) := by
    unfold Ent.ok at h
    dsimp only at h
    omega
  clear h
  rcases h' with h | ⟨h, h'⟩ | ⟨h, h', h''⟩
  · have HE : Hid ((⟨t, s⟩ : Ent).err = 1) := by show Ent.err _ = 1; unfold Ent.err; rw [if_pos (by dsimp only; omega)]
    go_enter Tryz.func49, Tryz.ntmps49
    go_wp2
    go_ret
    exact ⟨by rw [HE.out]; rfl, by (repeat (with_reducible first | exact Ext.refl _ | assumption | refine Ext.drew ?_ | refine Ext.drewN ?_ _ | refine Ext.alloc ?_ _ | refine Ext.trans ?_ (by with_reducible assumption)))⟩
  · have HE : Hid ((⟨t, s⟩ : Ent).err = 1) := by show Ent.err _ = 1; unfold Ent.err; rw [if_pos (by dsimp only; omega)]
    go_enter Tryz.func49, Tryz.ntmps49
    go_wp2
    go_ret
    exact ⟨by rw [HE.out]; rfl, by (repeat (with_reducible first | exact Ext.refl _ | assumption | refine Ext.drew ?_ | refine Ext.drewN ?_ _ | refine Ext.alloc ?_ _ | refine Ext.trans ?_ (by with_reducible assumption)))⟩
  · have HE : Hid ((⟨t, s⟩ : Ent).err = 4) := by show Ent.err _ = 4; unfold Ent.err; rw [if_neg (by dsimp only; omega)]
    go_enter Tryz.func49, Tryz.ntmps49
    go_wp2
    go_ret
    exact ⟨by rw [HE.out]; rfl, by (repeat (with_reducible first | exact Ext.refl _ | assumption | refine Ext.drew ?_ | refine Ext.drewN ?_ _ | refine Ext.alloc ?_ _ | refine Ext.trans ?_ (by with_reducible assumption)))⟩

/-- an entry's bytes -/
def entH (t : Int) (n : Nat) : List UInt8 := [byteOf (t / 65536 % 256), byteOf (t / 256 % 256), byteOf (t % 256), byteOf ((n : Int) % 256)]
def entB (t : Int) (l : List UInt8) : List UInt8 := entH t l.length ++ l
def Ent.bytes (e : Ent) : ByteArray := (⟨(entH e.time e.data.size).toArray⟩ : ByteArray) ++ e.data
theorem Ent.bytes_list (e : Ent) : e.bytes.data.toList = entB e.time e.data.data.toList := by unfold Ent.bytes; rw [toList_cat]; rfl
theorem Ent.bytes_size (e : Ent) : e.bytes.size = 4 + e.data.size := by unfold Ent.bytes; rw [size_cat]; rfl
theorem extract_tail (l : List UInt8) (s : ByteArray) (k : Nat) (hk : l.length = k) : ((⟨l.toArray⟩ : ByteArray) ++ s).extract k (k + s.size) = s := by
  subst hk
  have h := ByteArray.extract_append_eq_right (a := (⟨l.toArray⟩ : ByteArray)) (b := s) (i := l.length) (j := l.length + s.size) rfl rfl
  exact h
theorem Ent.bytes_tail (e : Ent) : e.bytes.extract 4 (4 + e.data.size) = e.data := extract_tail _ _ 4 rfl
set_option maxRecDepth 100000 in
theorem eBytes_any (t : Int) (s : ByteArray) (w : World) (h0 : 0 ≤ t) (h2 : s.size ≤ 140737488355328) :
    Calls Tryz.prog 75 #[.agg #[.int .i64 t, .string s]] w fun e w' => e = .returned (.string (⟨t, s⟩ : Ent).bytes) ∧ Ext w w' := by
  have hk := conv4
  go_enter Tryz.func75, Tryz.ntmps75
  go_wp2
  go_ret
  exact ⟨rfl, by (repeat (with_reducible first | exact Ext.refl _ | assumption | refine Ext.drew ?_ | refine Ext.drewN ?_ _ | refine Ext.alloc ?_ _ | refine Ext.trans ?_ (by with_reducible assumption)))⟩

end Go.Proofs.YtmknpehjncpekaaGreatDoor
