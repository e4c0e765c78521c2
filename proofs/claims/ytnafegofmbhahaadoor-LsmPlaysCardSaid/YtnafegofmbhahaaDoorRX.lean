/- an lsm, and beside it the references' one. -/
import Derived.Test.YtnafegofmbhahaaDoorRLsm3
namespace Go.Proofs.YtnafegofmbhahaaDoor
open Go.RowKit Go.WideShapes
set_option linter.unusedVariables false

theorem RM.trim {w : World} {G : Nat → Prop} {mb : Nat} {lim : Int} {Y : List Pr} {T : List (List Pr)} (h : RM w G mb lim Y T) : RM w (fun g => G g ∧ g < w.heap.size) mb lim Y T := by
  obtain ⟨yv, lv, vs, hR, hG⟩ := h
  exact ⟨yv, lv, vs, hR, fun g hg => ⟨hG g hg, hR.lt hg⟩⟩
theorem LM.trim' {w : World} {F : Nat → Prop} {x : Nat} {lim : Int} {Y : List Pr} {T : List (List Pr)} (h : LM w F x lim Y T) : LM w (fun g => F g ∧ g < w.heap.size) x lim Y T := by
  obtain ⟨sb, sv, lv, ts, hL, hT, hF⟩ := h
  exact ⟨sb, sv, lv, ts, hL, hT, fun g hg => ⟨hF g hg, hL.lt hg⟩⟩
/-- both, made behind w0; what H says is kept -/
def XR (w0 w : World) (x lim mb : Nat) (Y : List Pr) (T : List (List Pr)) (Y2 : List Pr) (T2 : List (List Pr)) (H : Nat → Prop) : Prop :=
  Ext w0 w ∧ ∃ F G, LM w F x lim Y T ∧ RM w G mb lim Y2 T2 ∧ (∀ g, F g → w0.heap.size ≤ g ∧ g < w.heap.size) ∧ (∀ g, G g → w0.heap.size ≤ g ∧ g < w.heap.size) ∧ (∀ g, F g → ¬ G g) ∧ (∀ g, H g → ¬ F g ∧ ¬ G g ∧ g < w.heap.size)
section
variable {w0 w w' : World} {x lim mb : Nat} {Y Y' Y2 : List Pr} {T T' T2 : List (List Pr)} {H : Nat → Prop}
theorem XR.many (h : XR w0 w x lim mb Y T Y2 T2 H) : T.length ≤ 8 ∧ LsOk (Y :: T) ∧ Y.length ≤ 60 := by
  obtain ⟨_, F, G, hL, _⟩ := h
  exact ⟨hL.many.2.1, hL.many.2.2, hL.many.1⟩
theorem XR.ext (h : XR w0 w x lim mb Y T Y2 T2 H) (k : Ext w w') : XR w0 w' x lim mb Y T Y2 T2 H := by
  obtain ⟨e, F, G, hL, hR, hF, hG, hD, hH⟩ := h
  have hs := k.size
  exact ⟨e.trans k, F, G, hL.ext k, hR.ext k, fun g hg => ⟨(hF g hg).1, Nat.lt_of_lt_of_le (hF g hg).2 hs⟩, fun g hg => ⟨(hG g hg).1, Nat.lt_of_lt_of_le (hG g hg).2 hs⟩, hD, fun g hg => ⟨(hH g hg).1, (hH g hg).2.1, Nat.lt_of_lt_of_le (hH g hg).2.2 hs⟩⟩
theorem XR.weak {H' : Nat → Prop} (h : XR w0 w x lim mb Y T Y2 T2 H) (hH' : ∀ g, H' g → H g) : XR w0 w x lim mb Y T Y2 T2 H' := by
  obtain ⟨e, F, G, hL, hR, hF, hG, hD, hH⟩ := h
  exact ⟨e, F, G, hL, hR, hF, hG, hD, fun g hg => hH g (hH' g hg)⟩
/-- what was made since is kept too -/
theorem XR.box {pb : Nat} {H' : Nat → Prop} (h : XR w0 w x lim mb Y T Y2 T2 H') (k : Ext w w') (h1 : w.heap.size ≤ pb) (h2 : pb < w'.heap.size) : XR w0 w' x lim mb Y T Y2 T2 (fun g => g = pb) := by
  obtain ⟨e, F, G, hL, hR, hF, hG, hD, hH⟩ := h
  have hs := k.size
  refine ⟨e.trans k, F, G, hL.ext k, hR.ext k, fun g hg => ⟨(hF g hg).1, Nat.lt_of_lt_of_le (hF g hg).2 hs⟩, fun g hg => ⟨(hG g hg).1, Nat.lt_of_lt_of_le (hG g hg).2 hs⟩, hD, fun g hg => ⟨fun hf => ?_, fun hf => ?_, by rw [hg]; exact h2⟩⟩
  · have := (hF g hf).2; omega
  · have := (hG g hf).2; omega
theorem XR.xop {F F' G : Nat → Prop} (e : Ext w0 w) (hR : RM w G mb lim Y2 T2) (hF : ∀ g, F g → w0.heap.size ≤ g ∧ g < w.heap.size) (hG : ∀ g, G g → w0.heap.size ≤ g ∧ g < w.heap.size) (hD : ∀ g, F g → ¬ G g) (hH : ∀ g, H g → ¬ F g ∧ ¬ G g ∧ g < w.heap.size) (h : LOp w w' F x lim Y' T' F') :
    XR w0 w' x lim mb Y' T' Y2 T2 H ∧ ∀ g, H g → w'.heap[g]? = w.heap[g]? := by
  have hsz := e.size
  have hs := h.chg.size
  refine ⟨⟨(h.keep e fun g hg => (hF g hg).1).1, fun g => F' g ∧ g < w'.heap.size, G, h.at_.trim', hR.chg h.chg (fun g hg hf => hD g hf hg), fun g hg => ⟨?_, hg.2⟩, fun g hg => ⟨(hG g hg).1, Nat.lt_of_lt_of_le (hG g hg).2 hs⟩, fun g hg hg2 => ?_, fun g hg => ⟨fun hf => ?_, (hH g hg).2.1, Nat.lt_of_lt_of_le (hH g hg).2.2 hs⟩⟩, fun g hg => h.chg.block g (hH g hg).2.2 (hH g hg).1⟩
  · rcases h.new g hg.1 with h1 | h1
    · exact (hF g h1).1
    · omega
  · rcases h.new g hg.1 with h1 | h1
    · exact hD g h1 hg2
    · have := (hG g hg2).2; omega
  · rcases h.new g hf.1 with h1 | h1
    · exact (hH g hg).1 h1
    · have := (hH g hg).2.2; omega
theorem XR.mop {F G G' : Nat → Prop} {Y2' : List Pr} {T2' : List (List Pr)} (e : Ext w0 w) (hL : LM w F x lim Y T) (hF : ∀ g, F g → w0.heap.size ≤ g ∧ g < w.heap.size) (hG : ∀ g, G g → w0.heap.size ≤ g ∧ g < w.heap.size) (hD : ∀ g, F g → ¬ G g) (hH : ∀ g, H g → ¬ F g ∧ ¬ G g ∧ g < w.heap.size) (h : ROp w w' G mb lim Y2' T2' G') :
    XR w0 w' x lim mb Y T Y2' T2' H ∧ ∀ g, H g → w'.heap[g]? = w.heap[g]? := by
  have hsz := e.size
  have hs := h.chg.size
  refine ⟨⟨((e.chg G).trans h.chg fun g _ hg => hg).ext fun g hg hS => ?_, F, fun g => G' g ∧ g < w'.heap.size, hL.chg h.chg (fun g hg hf => hD g hg hf), h.at_.trim, fun g hg => ⟨(hF g hg).1, Nat.lt_of_lt_of_le (hF g hg).2 hs⟩, fun g hg => ⟨?_, hg.2⟩, fun g hg hg2 => ?_, fun g hg => ⟨(hH g hg).1, fun hf => ?_, Nat.lt_of_lt_of_le (hH g hg).2.2 hs⟩⟩, fun g hg => h.chg.block g (hH g hg).2.2 (hH g hg).2.1⟩
  · have := (hG g hS).1; omega
  · rcases h.new g hg.1 with h1 | h1
    · exact (hG g h1).1
    · omega
  · rcases h.new g hg2.1 with h1 | h1
    · exact hD g hg h1
    · have := (hF g hg).2; omega
  · rcases h.new g hf.1 with h1 | h1
    · exact (hH g hg).2.1 h1
    · have := (hH g hg).2.2; omega
theorem XR_put (key value : ByteArray) (h : XR w0 w x lim mb Y T Y2 T2 H) (htot : totL T ≤ 1000) (hlim : 1 ≤ lim) :
    Calls Tryd.prog 48 #[.pointer (some ⟨x, 0, none⟩), .string key, .string value] w fun e w' => e = .returned (errR (putK Y ⟨key, value, false⟩)) ∧ XR w0 w' x lim mb (doY lim Y ⟨key, value, false⟩) (doT lim Y T ⟨key, value, false⟩) Y2 T2 H ∧ ∀ g, H g → w'.heap[g]? = w.heap[g]? := by
  obtain ⟨e, F, G, hL, hR, hF, hG, hD, hH⟩ := h
  exact (LPut_any F x lim Y T key value w hL htot hlim).mono fun _ _ ⟨he, F', hop⟩ => ⟨he, XR.xop e hR hF hG hD hH hop⟩
theorem XR_drop (key : ByteArray) (h : XR w0 w x lim mb Y T Y2 T2 H) (htot : totL T ≤ 1000) (hlim : 1 ≤ lim) :
    Calls Tryd.prog 54 #[.pointer (some ⟨x, 0, none⟩), .string key] w fun e w' => e = .returned (errR (putK Y ⟨key, ⟨#[]⟩, true⟩)) ∧ XR w0 w' x lim mb (doY lim Y ⟨key, ⟨#[]⟩, true⟩) (doT lim Y T ⟨key, ⟨#[]⟩, true⟩) Y2 T2 H ∧ ∀ g, H g → w'.heap[g]? = w.heap[g]? := by
  obtain ⟨e, F, G, hL, hR, hF, hG, hD, hH⟩ := h
  exact (LDrop_any F x lim Y T key w hL htot hlim).mono fun _ _ ⟨he, F', hop⟩ => ⟨he, XR.xop e hR hF hG hD hH hop⟩
theorem XR_flush (h : XR w0 w x lim mb Y T Y2 T2 H) (htot : totL T ≤ 1000) :
    Calls Tryd.prog 50 #[.pointer (some ⟨x, 0, none⟩)] w fun e w' => e = .returned (errR (flK Y)) ∧ XR w0 w' x lim mb (flY Y) (flT Y T) Y2 T2 H ∧ ∀ g, H g → w'.heap[g]? = w.heap[g]? := by
  obtain ⟨e, F, G, hL, hR, hF, hG, hD, hH⟩ := h
  exact (LFlush_any F x lim Y T w hL htot).mono fun _ _ ⟨he, F', hop⟩ => ⟨he, XR.xop e hR hF hG hD hH hop⟩
theorem XR_merge (h : XR w0 w x lim mb Y T Y2 T2 H) (htot : totL T ≤ 1000) :
    Calls Tryd.prog 51 #[.pointer (some ⟨x, 0, none⟩)] w fun e w' => e = .returned (errR (mgK T)) ∧ XR w0 w' x lim mb Y (mergeT T) Y2 T2 H ∧ ∀ g, H g → w'.heap[g]? = w.heap[g]? := by
  obtain ⟨e, F, G, hL, hR, hF, hG, hD, hH⟩ := h
  exact (LMerge_any F x lim Y T w hL htot).mono fun _ _ ⟨he, F', hop⟩ => ⟨he, XR.xop e hR hF hG hD hH hop⟩
theorem XM_put (p : Pr) (h : XR w0 w x lim mb Y T Y2 T2 H) (htot : totL T2 ≤ 1000) (hT8 : T2.length ≤ 1000) (hlim : 1 ≤ lim) (hY : Asc Y2) (hy : Y2.length ≤ 1000) :
    Calls Tryd.prog 57 #[.pointer (some ⟨mb, 0, none⟩), p.val] w fun e w' => e = .returned (.int .i64 (putK Y2 p)) ∧ XR w0 w' x lim mb Y T (doY lim Y2 p) (doT lim Y2 T2 p) H ∧ ∀ g, H g → w'.heap[g]? = w.heap[g]? := by
  obtain ⟨e, F, G, hL, hR, hF, hG, hD, hH⟩ := h
  exact (RPut_any G mb lim Y2 T2 p w hR htot hT8 hlim hY hy).mono fun _ _ ⟨he, G', hop⟩ => ⟨he, XR.mop e hL hF hG hD hH hop⟩
theorem XM_flush (h : XR w0 w x lim mb Y T Y2 T2 H) (htot : totL T2 ≤ 1000) (hT8 : T2.length ≤ 1000) :
    Calls Tryd.prog 55 #[.pointer (some ⟨mb, 0, none⟩)] w fun e w' => e = .returned (.int .i64 (flK Y2)) ∧ XR w0 w' x lim mb Y T (flY Y2) (flT Y2 T2) H ∧ ∀ g, H g → w'.heap[g]? = w.heap[g]? := by
  obtain ⟨e, F, G, hL, hR, hF, hG, hD, hH⟩ := h
  exact (RFlush_any G mb lim Y2 T2 w hR htot hT8).mono fun _ _ ⟨he, G', hop⟩ => ⟨he, XR.mop e hL hF hG hD hH hop⟩
theorem XM_merge (h : XR w0 w x lim mb Y T Y2 T2 H) (htot : totL T2 ≤ 1000) (hT8 : T2.length ≤ 1000) :
    Calls Tryd.prog 56 #[.pointer (some ⟨mb, 0, none⟩)] w fun e w' => e = .returned (.int .i64 (mgK T2)) ∧ XR w0 w' x lim mb Y T Y2 (mergeT T2) H ∧ ∀ g, H g → w'.heap[g]? = w.heap[g]? := by
  obtain ⟨e, F, G, hL, hR, hF, hG, hD, hH⟩ := h
  exact (RMerge_any G mb lim Y2 T2 w hR htot hT8).mono fun _ _ ⟨he, G', hop⟩ => ⟨he, XR.mop e hL hF hG hD hH hop⟩
theorem XR_young (h : XR w0 w x lim mb Y T Y2 T2 H) : Calls Tryd.prog 49 #[.pointer (some ⟨x, 0, none⟩)] w fun e w' => e = .returned (.int .i64 (Y.length : Nat)) ∧ w = w' := by
  obtain ⟨e, F, G, hL, _⟩ := h
  exact LYoung_any F x lim Y T w hL
theorem XR_tables (h : XR w0 w x lim mb Y T Y2 T2 H) : Calls Tryd.prog 52 #[.pointer (some ⟨x, 0, none⟩)] w fun e w' => (∃ v, e = .returned v ∧ w'.ownsRow w.heap.size 9 1 v T.length (T.map tabV)) ∧ Ext w w' := by
  obtain ⟨e, F, G, hL, _⟩ := h
  exact LTables_any F x lim Y T w hL
theorem XR_get (key : ByteArray) (h : XR w0 w x lim mb Y T Y2 T2 H) : Calls Tryd.prog 59 #[.pointer (some ⟨x, 0, none⟩), .string key] w fun e w' => e = .returned (.tuple #[.string (oV (seeL Y T key)), errR (oK (seeL Y T key))]) ∧ Ext w w' := by
  obtain ⟨e, F, G, hL, _⟩ := h
  exact LGet_any F x lim Y T key w hL
theorem XR_all (h : XR w0 w x lim mb Y T Y2 T2 H) (htot : totL (Y :: T) ≤ 1000) : Calls Tryd.prog 53 #[.pointer (some ⟨x, 0, none⟩)] w fun e w' => (∃ v', e = .returned v' ∧ w'.ownsRow w.heap.size 25 3 v' (liveL (Y :: T)).length ((liveL (Y :: T)).flatMap Pr.cells)) ∧ Ext w w' := by
  obtain ⟨e, F, G, hL, _⟩ := h
  exact LAll_any F x lim Y T w hL htot
theorem XM_all (h : XR w0 w x lim mb Y T Y2 T2 H) (htot : totL (Y2 :: T2) ≤ 1000) (hT8 : T2.length ≤ 1000) : Calls Tryd.prog 58 #[.pointer (some ⟨mb, 0, none⟩)] w fun e w' => (∃ v', e = .returned v' ∧ w'.ownsRow w.heap.size 25 3 v' (liveL (Y2 :: T2)).length ((liveL (Y2 :: T2)).flatMap Pr.cells)) ∧ Ext w w' := by
  obtain ⟨e, F, G, hL, hR, _⟩ := h
  exact RAll_any G mb lim Y2 T2 w hR htot hT8
theorem XM_tables (h : XR w0 w x lim mb Y T Y2 T2 H) (hT8 : T2.length ≤ 1000) (hok : LsOk T2) (htot : totL T2 ≤ 1000) : Calls Tryd.prog 61 #[.pointer (some ⟨mb, 0, none⟩)] w fun e w' => (∃ v, e = .returned v ∧ w'.ownsRow w.heap.size 9 1 v T2.length (T2.map tabV)) ∧ Ext w w' := by
  obtain ⟨e, F, G, hL, hR, _⟩ := h
  exact RTables_any G mb lim Y2 T2 w hR hT8 hok htot
theorem XM_young (h : XR w0 w x lim mb Y T Y2 T2 H) : ∃ A c, ∀ W, Ext w W → W.cell? ⟨mb, 1, none⟩ = some (.slice A Y2.length c) := by
  obtain ⟨e, F, G, hL, ⟨yv, lv, vs, hR, _⟩, _⟩ := h
  obtain ⟨A, c, rfl, _⟩ := own_rd hR.yo
  exact ⟨A, c, fun W k => (hR.ext k).bk.cell 1⟩
end
/-- i steps were done by both -/
structure PJ (i lim : Nat) (Y : List Pr) (T : List (List Pr)) : Prop where
  young : Y.length < lim
  tot : totL (Y :: T) ≤ i
theorem PJ.put {i lim : Nat} {Y : List Pr} {T : List (List Pr)} (h : PJ i lim Y T) (p : Pr) : PJ (i + 1) lim (doY lim Y p) (doT lim Y T p) := ⟨do_young h.young, by have := do_tot lim Y T p; have := h.tot; omega⟩
theorem PJ.fl {i lim : Nat} {Y : List Pr} {T : List (List Pr)} (h : PJ i lim Y T) (hl : 1 ≤ lim) : PJ (i + 1) lim (flY Y) (flT Y T) := ⟨hl, by have := fl_tot Y T; have := h.tot; omega⟩
theorem PJ.mg {i lim : Nat} {Y : List Pr} {T : List (List Pr)} (h : PJ i lim Y T) : PJ (i + 1) lim Y (mergeT T) := ⟨h.young, by have h1 := merge_tot T; have h2 := h.tot; rw [totL_cons] at h2 ⊢; omega⟩
theorem live_getV {Y : List Pr} {T : List (List Pr)} (h : LsOk (Y :: T)) (key : ByteArray) : getV (liveL (Y :: T)) key = oV (seeL Y T key) ∧ getK (liveL (Y :: T)) key = oK (seeL Y T key) := by
  rw [← live_see h]
  unfold getV getK
  cases getE (liveL (Y :: T)) key with
  | none => exact ⟨rfl, rfl⟩
  | some p =>
    obtain ⟨pk, pv, pg⟩ := p
    cases pg <;> exact ⟨rfl, rfl⟩
theorem oK_two (o : Option ByteArray) : oK o = 0 ∨ oK o = 5 := by
  cases o
  · exact .inr rfl
  · exact .inl rfl
end Go.Proofs.YtnafegofmbhahaaDoor
