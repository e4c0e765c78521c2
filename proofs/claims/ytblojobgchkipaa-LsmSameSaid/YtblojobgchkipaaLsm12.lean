/- an lsm, and beside it a store: what is done to the one leaves the other as it was. -/
import Derived.Test.YtblojobgchkipaaLsm11
namespace Go.Proofs.Ytblojobgchkipaa
open Go.RowKit Go.WideShapes
set_option linter.unusedVariables false

def Dis (F : Nat → Prop) (sb : Nat) (v : Value) : Prop := ∀ g, F g → g ≠ sb ∧ v.ownBlock ≠ some g
/-- an lsm and a store that were made behind w0 -/
def XS (w0 w : World) (x lim sb : Nat) (Y : List Pr) (T : List (List Pr)) (es : List Pr) : Prop :=
  Ext w0 w ∧ ∃ F v, LM w F x lim Y T ∧ StAt w sb sb v es ∧ (∀ g, F g → w0.heap.size ≤ g ∧ g < w.heap.size) ∧ Dis F sb v ∧ w0.heap.size ≤ sb
section
variable {w0 w w' : World} {x lim sb : Nat} {Y Y' : List Pr} {T T' : List (List Pr)} {es es' : List Pr}
theorem XS.e (h : XS w0 w x lim sb Y T es) : Ext w0 w := h.1
theorem XS.many (h : XS w0 w x lim sb Y T es) : T.length ≤ 8 ∧ LsOk (Y :: T) ∧ Asc es ∧ es.length ≤ 60 ∧ Y.length ≤ 60 := by
  obtain ⟨_, F, v, hL, hS, _⟩ := h
  exact ⟨hL.many.2.1, hL.many.2.2, hS.asc, hS.len, hL.many.1⟩
theorem XS.ext (h : XS w0 w x lim sb Y T es) (k : Ext w w') : XS w0 w' x lim sb Y T es := by
  obtain ⟨e, F, v, hL, hS, hF, hD, hb⟩ := h
  exact ⟨e.trans k, F, v, hL.ext k, hS.ext k, fun g hg => ⟨(hF g hg).1, Nat.lt_of_lt_of_le (hF g hg).2 k.size⟩, hD, hb⟩
theorem LM.trim {F : Nat → Prop} {lim : Int} (h : LM w F x lim Y T) : LM w (fun g => F g ∧ g < w.heap.size) x lim Y T := by
  obtain ⟨sb, sv, lv, ts, hL, hT, hF⟩ := h
  exact ⟨sb, sv, lv, ts, hL, hT, fun g hg => ⟨hF g hg, hL.lt hg⟩⟩
theorem XS.op {F F' : Nat → Prop} {v : Value} (e : Ext w0 w) (hS : StAt w sb sb v es) (hF : ∀ g, F g → w0.heap.size ≤ g ∧ g < w.heap.size) (hD : Dis F sb v) (hb : w0.heap.size ≤ sb) (h : LOp w w' F x lim Y' T' F') : XS w0 w' x lim sb Y' T' es := by
  have hsz := e.size
  refine ⟨(h.keep e fun g hg => (hF g hg).1).1, fun g => F' g ∧ g < w'.heap.size, v, h.at_.trim, hS.chg h.chg (fun hg => (hD sb hg).1 rfl) (fun g hg hg' => (hD g hg').2 hg), fun g hg => ⟨?_, hg.2⟩, fun g hg => ?_, hb⟩
  · rcases h.new g hg.1 with h1 | h1
    · exact (hF g h1).1
    · omega
  · rcases h.new g hg.1 with h1 | h1
    · exact hD g h1
    · have h2 := hS.bk.lt
      refine ⟨by omega, fun hv => ?_⟩
      have := (hS.own.lt _ hv).2
      omega
theorem XS.st {F : Nat → Prop} {v v' : Value} (e : Ext w0 w) (hL : LM w F x lim Y T) (hS : StAt w sb sb v es) (hF : ∀ g, F g → w0.heap.size ≤ g ∧ g < w.heap.size) (hD : Dis F sb v) (hb : w0.heap.size ≤ sb) (hS' : StAt w' sb sb v' es') (k : Chg w w' (fun k => k = sb ∨ v.ownBlock = some k)) (hv : ∀ g, v'.ownBlock = some g → v.ownBlock = some g ∨ w.heap.size ≤ g) : XS w0 w' x lim sb Y T es' := by
  refine ⟨Chg.keep e hS hb k, F, v', hL.chg k fun g hg hS => ?_, hS', fun g hg => ⟨(hF g hg).1, Nat.lt_of_lt_of_le (hF g hg).2 k.size⟩, fun g hg => ⟨(hD g hg).1, fun hg' => ?_⟩, hb⟩
  · rcases hS with rfl | hS
    · exact (hD g hg).1 rfl
    · exact (hD g hg).2 hS
  · rcases hv g hg' with h1 | h1
    · exact (hD g hg).2 h1
    · have := (hF g hg).2
      omega
theorem XS_put (key value : ByteArray) (h : XS w0 w x lim sb Y T es) (htot : totL T ≤ 1000) (hlim : 1 ≤ lim) :
    Calls Try.prog 26 #[.pointer (some ⟨x, 0, none⟩), .string key, .string value] w fun e w' => e = .returned (errR (putK Y ⟨key, value, false⟩)) ∧ XS w0 w' x lim sb (doY lim Y ⟨key, value, false⟩) (doT lim Y T ⟨key, value, false⟩) es := by
  obtain ⟨e, F, v, hL, hS, hF, hD, hb⟩ := h
  exact (LPut_any F x lim Y T key value w hL htot hlim).mono fun _ _ ⟨he, F', hop⟩ => ⟨he, XS.op e hS hF hD hb hop⟩
theorem XS_drop (key : ByteArray) (h : XS w0 w x lim sb Y T es) (htot : totL T ≤ 1000) (hlim : 1 ≤ lim) :
    Calls Try.prog 30 #[.pointer (some ⟨x, 0, none⟩), .string key] w fun e w' => e = .returned (errR (putK Y ⟨key, ⟨#[]⟩, true⟩)) ∧ XS w0 w' x lim sb (doY lim Y ⟨key, ⟨#[]⟩, true⟩) (doT lim Y T ⟨key, ⟨#[]⟩, true⟩) es := by
  obtain ⟨e, F, v, hL, hS, hF, hD, hb⟩ := h
  exact (LDrop_any F x lim Y T key w hL htot hlim).mono fun _ _ ⟨he, F', hop⟩ => ⟨he, XS.op e hS hF hD hb hop⟩
theorem XS_flush (h : XS w0 w x lim sb Y T es) (htot : totL T ≤ 1000) :
    Calls Try.prog 31 #[.pointer (some ⟨x, 0, none⟩)] w fun e w' => e = .returned (errR (flK Y)) ∧ XS w0 w' x lim sb (flY Y) (flT Y T) es := by
  obtain ⟨e, F, v, hL, hS, hF, hD, hb⟩ := h
  exact (LFlush_any F x lim Y T w hL htot).mono fun _ _ ⟨he, F', hop⟩ => ⟨he, XS.op e hS hF hD hb hop⟩
theorem XS_merge (h : XS w0 w x lim sb Y T es) (htot : totL T ≤ 1000) :
    Calls Try.prog 32 #[.pointer (some ⟨x, 0, none⟩)] w fun e w' => e = .returned (errR (mgK T)) ∧ XS w0 w' x lim sb Y (mergeT T) es := by
  obtain ⟨e, F, v, hL, hS, hF, hD, hb⟩ := h
  exact (LMerge_any F x lim Y T w hL htot).mono fun _ _ ⟨he, F', hop⟩ => ⟨he, XS.op e hS hF hD hb hop⟩
theorem XS_young (h : XS w0 w x lim sb Y T es) : Calls Try.prog 27 #[.pointer (some ⟨x, 0, none⟩)] w fun e w' => e = .returned (.int .i64 (Y.length : Nat)) ∧ w = w' := by
  obtain ⟨e, F, v, hL, hS, hF, hD, hb⟩ := h
  exact LYoung_any F x lim Y T w hL
theorem XS_tables (h : XS w0 w x lim sb Y T es) : Calls Try.prog 28 #[.pointer (some ⟨x, 0, none⟩)] w fun e w' => (∃ v, e = .returned v ∧ w'.ownsRow w.heap.size 9 1 v T.length (T.map tabV)) ∧ Ext w w' := by
  obtain ⟨e, F, v, hL, hS, hF, hD, hb⟩ := h
  exact LTables_any F x lim Y T w hL
theorem XS_get (key : ByteArray) (h : XS w0 w x lim sb Y T es) : Calls Try.prog 29 #[.pointer (some ⟨x, 0, none⟩), .string key] w fun e w' => e = .returned (.tuple #[.string (oV (seeL Y T key)), errR (oK (seeL Y T key))]) ∧ Ext w w' := by
  obtain ⟨e, F, v, hL, hS, hF, hD, hb⟩ := h
  exact LGet_any F x lim Y T key w hL
theorem XS_all (h : XS w0 w x lim sb Y T es) (htot : totL (Y :: T) ≤ 1000) : Calls Try.prog 34 #[.pointer (some ⟨x, 0, none⟩)] w fun e w' => (∃ v', e = .returned v' ∧ w'.ownsRow w.heap.size 28 3 v' (liveL (Y :: T)).length ((liveL (Y :: T)).flatMap Pr.cells)) ∧ Ext w w' := by
  obtain ⟨e, F, v, hL, hS, hF, hD, hb⟩ := h
  exact LAll_any F x lim Y T w hL htot
theorem XS_sput (key value : ByteArray) (h : XS w0 w x lim sb Y T es) :
    Calls Try.prog 20 #[.pointer (some ⟨sb, 0, none⟩), .string key, .string value] w fun e w' => e = .returned (errR (putK es ⟨key, value, false⟩)) ∧ XS w0 w' x lim sb Y T (storeL es ⟨key, value, false⟩) := by
  obtain ⟨e, F, v, hL, hS, hF, hD, hb⟩ := h
  exact (SPut_any sb sb v es key value w hS (Nat.le_of_lt hS.bk.lt)).mono fun _ _ ⟨he, v', hS', hc, hv⟩ => ⟨he, XS.st e hL hS hF hD hb hS' hc hv⟩
theorem XS_sdrop (key : ByteArray) (h : XS w0 w x lim sb Y T es) :
    Calls Try.prog 23 #[.pointer (some ⟨sb, 0, none⟩), .string key] w fun e w' => e = .returned (errR (putK es ⟨key, ⟨#[]⟩, true⟩)) ∧ XS w0 w' x lim sb Y T (storeL es ⟨key, ⟨#[]⟩, true⟩) := by
  obtain ⟨e, F, v, hL, hS, hF, hD, hb⟩ := h
  exact (SDrop_any sb sb v es key w hS (Nat.le_of_lt hS.bk.lt)).mono fun _ _ ⟨he, v', hS', hc, hv⟩ => ⟨he, XS.st e hL hS hF hD hb hS' hc hv⟩
theorem XS_sall (h : XS w0 w x lim sb Y T es) : Calls Try.prog 33 #[.pointer (some ⟨sb, 0, none⟩)] w fun e w' => (∃ v', e = .returned v' ∧ w'.ownsRow w.heap.size 28 3 v' es.length (es.flatMap Pr.cells)) ∧ Ext w w' := by
  obtain ⟨e, F, v, hL, hS, hF, hD, hb⟩ := h
  exact SAll_any sb sb v es w hS
theorem XS_sget (key : ByteArray) (h : XS w0 w x lim sb Y T es) : Calls Try.prog 22 #[.pointer (some ⟨sb, 0, none⟩), .string key] w fun e w' => e = .returned (.tuple #[.string (getV es key), errR (getK es key)]) ∧ Ext w w' := by
  obtain ⟨e, F, v, hL, hS, hF, hD, hb⟩ := h
  exact SGet_any sb sb v es key w hS
end

/-- i pairs were put into both -/
structure SJ (i lim : Nat) (Y : List Pr) (T : List (List Pr)) (es : List Pr) : Prop where
  young : Y.length < lim
  tot : totL (Y :: T) ≤ i
  len : es.length ≤ i
  see : ∀ key, seeL Y T key = vis (getE es key)
theorem sj_zero {lim : Nat} (h : 1 ≤ lim) : SJ 0 lim [] [] [] := ⟨h, Nat.le_refl _, Nat.le_refl _, fun key => rfl⟩
theorem putK_room {es : List Pr} {p : Pr} (h : es.length < 60) : putK es p = putK [] p := by
  unfold putK
  by_cases hk : keyK p.key = 0
  · rw [if_neg (not_not_intro hk), if_neg (not_not_intro hk)]
    by_cases hv : 200 < p.value.size
    · rw [if_pos (.inl hv), if_pos (.inl hv)]
    · rw [if_neg, if_neg]
      · rintro (h1 | ⟨_, h1⟩)
        · exact hv h1
        · simp at h1
      · rintro (h1 | ⟨_, h1⟩)
        · exact hv h1
        · omega
  · rw [if_pos hk, if_pos hk]
theorem SJ.keys {i lim : Nat} {Y : List Pr} {T : List (List Pr)} {es : List Pr} (h : SJ i lim Y T es) (hi : i < 60) (p : Pr) : putK Y p = putK es p := by
  have h1 := h.tot
  have h2 := h.len
  rw [totL_cons] at h1
  rw [putK_room (es := Y) (by omega), putK_room (es := es) (by omega)]
theorem SJ.put {i lim : Nat} {Y : List Pr} {T : List (List Pr)} {es : List Pr} (h : SJ i lim Y T es) (hi : i < 60) (hok : LsOk (Y :: T)) (ho : Asc es) {p : Pr} (hp : p.gone = true → p.value.size = 0) : SJ (i + 1) lim (doY lim Y p) (doT lim Y T p) (storeL es p) := by
  have hkk := h.keys hi p
  have h1 := do_tot lim Y T p
  have h2 := h.tot
  have h3 := store_len es p
  have h4 := h.len
  refine ⟨do_young h.young, by omega, by omega, fun key => ?_⟩
  by_cases hk : putK Y p = 0
  · rw [see_do hok hp hk, get_store ho (by rw [← hkk]; exact hk), h.see]
    split <;> rfl
  · obtain ⟨e1, e2⟩ := do_bad (lim := lim) (T := T) hk
    rw [e1, e2, store_bad (by rw [← hkk]; exact hk), h.see]
theorem SJ.fl {i lim : Nat} {Y : List Pr} {T : List (List Pr)} {es : List Pr} (h : SJ i lim Y T es) (hok : LsOk (Y :: T)) (hl : 1 ≤ lim) : SJ i lim (flY Y) (flT Y T) es :=
  ⟨hl, Nat.le_trans (fl_tot Y T) h.tot, h.len, fun key => by rw [see_fl hok, h.see]⟩
theorem SJ.mg {i lim : Nat} {Y : List Pr} {T : List (List Pr)} {es : List Pr} (h : SJ i lim Y T es) (hok : LsOk (Y :: T)) : SJ i lim Y (mergeT T) es := by
  have h1 := merge_tot T
  have h2 := h.tot
  rw [totL_cons] at h2
  exact ⟨h.young, by rw [totL_cons]; omega, h.len, fun key => by rw [see_mg hok, h.see]⟩
theorem SJ.get {i lim : Nat} {Y : List Pr} {T : List (List Pr)} {es : List Pr} (h : SJ i lim Y T es) (key : ByteArray) : getV es key = oV (seeL Y T key) ∧ getK es key = oK (seeL Y T key) := by
  rw [h.see]
  unfold getV getK
  cases getE es key with
  | none => exact ⟨rfl, rfl⟩
  | some p =>
    obtain ⟨pk, pv, pg⟩ := p
    cases pg <;> exact ⟨rfl, rfl⟩
theorem ng_gone {es : List Pr} : ∀ p ∈ ngL es, p.gone = false := fun p hp => by simpa using (List.mem_filter.1 hp).2
theorem SJ.all {i lim : Nat} {Y : List Pr} {T : List (List Pr)} {es : List Pr} (h : SJ i lim Y T es) (hok : LsOk (Y :: T)) (ho : Asc es) : liveL (Y :: T) = ngL es :=
  live_ext (live_asc _) (filter_asc _ ho) live_gone ng_gone fun key => by
    rw [live_see hok, h.see]
    unfold ngL
    rw [filter_get _ ho, vis_filter]
end Go.Proofs.Ytblojobgchkipaa
