/- What the laws of a mirror share: plain, and how rows and replies are read. -/
import Derived.Test.YtdefdcaeiojmeaaGreatDoorJServeProves21
import Derived.Test.YtdefdcaeiojmeaaGreatDoorJServeProves16
import Derived.Test.YtdefdcaeiojmeaaGreatDoorJServeProves19
import Derived.Test.YtdefdcaeiojmeaaGreatDoorJServeProves20
import Derived.Test.YtdefdcaeiojmeaaGreatDoorJServeProves10
import Derived.Test.YtdefdcaeiojmeaaGreatDoorJServeProves7
import Derived.Deep.RegionHeld3
import Derived.Deep.DeepCutAuto
import Derived.Deep.CutRange
import Derived.Deep.CutBlock
namespace Go.Proofs.YtdefdcaeiojmeaaGreatDoor
open Go.RowKit Go.WideShapes
set_option linter.unusedVariables false

theorem Mi.want_nat {m : Mi} (h : m.Good) : ∃ wh fr to_ : Nat, m.want = ⟨(wh : Int), (fr : Int), (to_ : Int)⟩ ∧ (wh = 1 ∨ wh = 2 ∨ wh = 3) ∧ fr ≤ 200 ∧ to_ ≤ 200 := by
  have h1 := h.nsz
  have h2 := h.have_le
  unfold Mi.want Mi.have_
  by_cases e : m.next.size = 0
  · rw [if_pos e]; exact ⟨1, 0, 0, rfl, .inl rfl, by omega, by omega⟩
  rw [if_neg e]
  obtain ⟨ns, hns⟩ := Int.eq_ofNat_of_zero_le h1.1
  rw [hns] at h1 e ⊢
  by_cases e2 : (m.own.length : Int) + (m.waits.length : Int) = (ns : Int)
  · rw [if_pos e2]; exact ⟨3, m.own.length, ns, rfl, .inr (.inr rfl), by omega, by omega⟩
  · rw [if_neg e2]
    refine ⟨2, m.own.length + m.waits.length, min ns (m.own.length + m.waits.length + 16), ?_, .inr (.inl rfl), by omega, by omega⟩
    have e3 : min (ns : Int) ((m.own.length : Int) + (m.waits.length : Int) + 16) = ((min ns (m.own.length + m.waits.length + 16) : Nat) : Int) := by omega
    rw [e3]
    simp
theorem shK_ok {es : List Ent} {key now : Int} (hk : entsOk es) (hkey : keyI key = true) (hn : 0 ≤ now ∧ now ≤ 1000000) : shK es key now = 0 := by
  have h1 := leafs_of_ents hk
  have h2 := hk.1
  unfold shK
  rw [if_neg (not_not_intro (entsErr_ok hk))]
  exact (lg_ok (n := es.length) (r := ofL (es.map Ent.leaf)) (t := now) (key := key) (by omega) (vld_root h1) hn hkey).1
theorem flatE_take : ∀ (es : List Ent) (k : Nat), (es.flatMap Ent.cells).take (k * 2) = (es.take k).flatMap Ent.cells
  | [], k => by simp
  | e :: es, 0 => by simp
  | e :: es, k + 1 => by
    rw [List.flatMap_cons, List.take_succ_cons, List.flatMap_cons, ← flatE_take es k, show (k + 1) * 2 = k * 2 + 2 by omega]
    rfl
theorem RdE_take {w : World} {A : Option Addr} {n c k : Nat} {es : List Ent} (h : Rd w 2 A n c (es.flatMap Ent.cells)) (hk : k ≤ n) : Rd w 2 A k c ((es.take k).flatMap Ent.cells) := by
  have := h.take hk
  rwa [flatE_take] at this
theorem Rd.getRow {w : World} {A : Option Addr} {n c : Nat} {rs : List (RowG Int)} (h : Rd w 1 A n c (rs.flatMap RowG.cells)) {j : Nat} {r : RowG Int} (hr : rs[j]? = some r) : ∃ ad, A = some ad ∧ ad.block < w.heap.size ∧ w.cell? (ad.add j) = some (.slice r.A r.n r.c) := by
  rw [flat_rows] at h
  have h1 := h.at_ (j := j) (u := .slice r.A r.n r.c) (by rw [List.getElem?_map, hr]; rfl)
  exact h1
theorem flatP_nth : ∀ (l : List RpG) (j : Nat) (x : RpG) (i : Nat), l[j]? = some x → i < 7 → (l.flatMap RpG.cells)[j * 7 + i]? = x.cells[i]?
  | [], j, x, i, h, _ => by simp at h
  | y :: l, 0, x, i, h, hi => by
    obtain rfl : y = x := by simpa using h
    rw [List.flatMap_cons, Nat.zero_mul, Nat.zero_add, List.getElem?_append_left (by simpa [RpG.cells] using hi)]
  | y :: l, j + 1, x, i, h, hi => by
    rw [List.flatMap_cons, List.getElem?_append_right (by simp [RpG.cells]; omega), show (j + 1) * 7 + i - y.cells.length = j * 7 + i by simp [RpG.cells]; omega]
    exact flatP_nth l j x i (by simpa using h) hi
theorem flatP_len (l : List RpG) : (l.flatMap RpG.cells).length = l.length * 7 := by
  induction l with
  | nil => rfl
  | cons x l ih => rw [List.flatMap_cons, List.length_append, ih, List.length_cons]; simp [RpG.cells]; omega
theorem Rd.lenP {w : World} {A : Option Addr} {n c : Nat} {ys : List RpG} (h : Rd w 7 A n c (ys.flatMap RpG.cells)) : ys.length = n := by
  have := h.1
  rw [flatP_len] at this
  omega
/-- a reply in a row: its cells -/
def CellsP (w : World) (a : Addr) (r : RpG) : Prop := w.cell? a = some (.int .i64 r.what) ∧ w.cell? ⟨a.block, a.off + 1, none⟩ = some (.int .i64 r.head.size) ∧ w.cell? ⟨a.block, a.off + 2, none⟩ = some (.int .i64 r.head.root) ∧ w.cell? ⟨a.block, a.off + 3, none⟩ = some (.int .i64 r.head.time) ∧ w.cell? ⟨a.block, a.off + 4, none⟩ = some (.int .i64 r.head.sign) ∧ w.cell? ⟨a.block, a.off + 5, none⟩ = some (.slice r.ents.A r.ents.n r.ents.c) ∧ w.cell? ⟨a.block, a.off + 6, none⟩ = some (.slice r.proof.A r.proof.n r.proof.c)
theorem Rd.getRp {w : World} {A : Option Addr} {n c : Nat} {ys : List RpG} (h : Rd w 7 A n c (ys.flatMap RpG.cells)) {j : Nat} {r : RpG} (hr : ys[j]? = some r) : ∃ ad, A = some ad ∧ ad.block < w.heap.size ∧ CellsP w (ad.add (j * 7)) r := by
  have k := fun i (hi : i < 7) => flatP_nth ys j r i hr hi
  obtain ⟨ad, e, hb, c0⟩ := h.at_ (k 0 (by omega))
  have get : ∀ i u, i < 7 → r.cells[i]? = some u → w.cell? (ad.add (j * 7 + i)) = some u := fun i u hi hu => by
    obtain ⟨ad', e', _, hc⟩ := h.at_ ((k i hi).trans hu)
    rw [e] at e'
    injection e' with e'
    rw [e']; exact hc
  have g1 := get 1 _ (by omega) rfl
  have g2 := get 2 _ (by omega) rfl
  have g3 := get 3 _ (by omega) rfl
  have g4 := get 4 _ (by omega) rfl
  have g5 := get 5 _ (by omega) rfl
  have g6 := get 6 _ (by omega) rfl
  rw [← add_add'] at g1 g2 g3 g4 g5 g6
  exact ⟨ad, e, hb, c0, g1, g2, g3, g4, g5, g6⟩
theorem CellsP.ext {w w' : World} {a : Addr} {r : RpG} (h : CellsP w a r) (e : Ext w w') (hb : a.block < w.heap.size) : CellsP w' a r := by
  obtain ⟨h0, h1, h2, h3, h4, h5, h6⟩ := h
  exact ⟨(e.cell hb).trans h0, (e.cell (p := ⟨a.block, a.off + 1, none⟩) hb).trans h1, (e.cell (p := ⟨a.block, a.off + 2, none⟩) hb).trans h2, (e.cell (p := ⟨a.block, a.off + 3, none⟩) hb).trans h3, (e.cell (p := ⟨a.block, a.off + 4, none⟩) hb).trans h4, (e.cell (p := ⟨a.block, a.off + 5, none⟩) hb).trans h5, (e.cell (p := ⟨a.block, a.off + 6, none⟩) hb).trans h6⟩
end Go.Proofs.YtdefdcaeiojmeaaGreatDoor

/- ServeProves: the walk. -/
namespace Go.Proofs.YtdefdcaeiojmeaaGreatDoor.serveProves
open Go.RowKit Go.WideShapes
set_option linter.unusedVariables false
attribute [local go_sem ↓] Go.wp_at_zero Go.wp_at_succ

def hiE : Ent := ⟨3, ⟨#[104, 105]⟩⟩
theorem hi_ok : entsOk [hiE] := ⟨by decide, fun e he => by
  obtain rfl : e = hiE := by simpa using he
  exact ⟨by decide, by decide, by decide⟩⟩
theorem hi_text : entT hiE = ⟨#[51, 32, 104, 105]⟩ := by
  unfold entT hiE
  rw [show ((3 : Int).toNat) = 3 from rfl, digB_one (by omega)]
  kernel_rfl
theorem headB_size {h : Hd} (k : h.ok = true) : (headB h).size ≤ 1000 := by
  obtain ⟨k1, k2, k3, k4, _⟩ := Hd.ok_parts k
  unfold headB
  have s1 : (digB h.size.toNat).size ≤ 7 := digB_small 6 _ (by show _ < 10000000; omega)
  have s3 : (digB h.time.toNat).size ≤ 7 := digB_small 6 _ (by show _ < 10000000; omega)
  rw [four4_size, hexT_size, hexT_size]
  omega
theorem addS_size (a b : ByteArray) : (a ++ b).size = a.size + b.size := ByteArray.size_append
set_option maxRecDepth 100000 in
set_option maxHeartbeats 8000000 in
theorem walk (A : Option Addr) (n c : Nat) (es : List Ent) (key now i old : Int) (w : World)
    (hl : es.length = n) (hm : c ≤ maxLen) (hr : Rd w 2 A n c (es.flatMap Ent.cells)) (ge : ∀ y ∈ es, y.good) (gk : igood key) (gn : igood now) (gi : igood i) (go : igood old)
    (hG : StrG w) (hD : DebG w) (hP : PowG w) (hM : MaxG w) :
    Calls Tryz.prog 6 #[.slice A n c, .int .i64 key, .int .i64 now, .int .i64 i, .int .i64 old] w fun e w' => e = .returned (.bool true) ∧ Ext w w' := by
  obtain ⟨hE, hN, hG0⟩ := errR_rules
  have hx := hr.lenE
  have hnc := hr.2.1
  have hcs : c ≤ 9223372036854775807 := by unfold maxLen at hm; omega
  have q0 : shK [hiE] 7 1 = 0 := shK_ok hi_ok (by decide) (by decide)
  have HA1 : Hid (∀ W ad c0, Ext w W → Rd W 2 (some ad) 1 c0 [.int .i64 3, .string ⟨#[104, 105]⟩] → c0 ≤ maxLen → Calls Tryz.prog 24 #[.slice (some ad) 1 c0, .int .i64 7, .int .i64 1, .string ⟨#[101, 110, 116, 114, 121, 32, 48]⟩] W fun e w' => e = .returned (.tuple #[.string ⟨#[51, 32, 104, 105]⟩, .nilIface]) ∧ Ext W w') := Lib.hid fun W ad c0 e hR hc => by
    have := Answer_any (some ad) 1 c0 [hiE] 7 1 ⟨#[101, 110, 116, 114, 121, 32, 48]⟩ W hR hc (by show 7 ≤ 1048576; omega) (hD.ext e) (hP.ext e) (hG.ext e) (hM.ext e)
    refine this.mono fun e w' hh => ⟨?_, hh.2⟩
    have h1 := hh.1
    unfold AnsR at h1
    rw [ans_entry0 q0, hi_text] at h1
    exact h1
  have HAN : Hid (∀ W s z, Ext w W → s.size ≤ 1000 → ansR es key now s = z → Calls Tryz.prog 24 #[.slice A n c, .int .i64 key, .int .i64 now, .string s] W fun e w' => e = .returned (.tuple #[.string z.1, errR z.2]) ∧ Ext W w') := Lib.hid fun W s z e hs hz => by
    have := Answer_any A n c es key now s W (hr.ext e) hm (by omega) (hD.ext e) (hP.ext e) (hG.ext e) (hM.ext e)
    refine this.mono fun e w' hh => ⟨?_, hh.2⟩
    have h1 := hh.1
    unfold AnsR at h1
    rw [hz] at h1
    exact h1
  have HSH := Lib.hid fun k (hk : k ≤ n) W (e : Ext w W) => SHead_any A k c (es.take k) key now W (RdE_take (hr.ext e) hk) hm (hD.ext e) (hP.ext e)
  have HHP := Lib.hid fun W s (e : Ext w W) (hs : s.size ≤ 1000) => HParse_any s W (by omega) (hG.ext e) (hP.ext e) (hM.ext e)
  have HVF := Lib.hid fun W h (e : Ext w W) => Verify_any h key W (hD.ext e) (hP.ext e)
  have HDG := Lib.hid fun (k : Nat) W (hk : k ≤ 1000000000) => RDigits_any k k W (Nat.le_refl _) hk
  have HX := Lib.hid hx
  have rP : Rd (w.alloc (.cells #[.int .i64 3, .string ⟨#[104, 105]⟩] 83)) 2 (some ⟨w.heap.size, 0, none⟩) 1 1 [.int .i64 3, .string ⟨#[104, 105]⟩] :=
    ⟨rfl, Nat.le_refl _, fun _ => ⟨_, rfl, by simp, fun j u hu => news_new w 83 [.int .i64 3, .string ⟨#[104, 105]⟩] _ rfl j u hu⟩⟩
  have HRP := Lib.hid rP
  have HE1 := Lib.hid ((Ext.refl w).alloc (.cells #[.int .i64 3, .string ⟨#[104, 105]⟩] 83))
  clear rP q0
  by_cases hsk : shK es key now = 0
  case neg =>
    have HZ : Hid (ansR es key now wHead = (⟨#[]⟩, shK es key now)) := Lib.hid (ansR_bad ask_head hsk)
    obtain ⟨sk, hsk2⟩ : ∃ v, shK es key now = v := ⟨_, rfl⟩
    rw [hsk2] at HZ hsk
    have hok := isOk_no hsk
    clear hsk hsk2 hl hm hr ge gk gn gi go hG hD hP hM hx
    go_enter Tryz.func6, Tryz.ntmps6
    go_wp2_with fail
    refine (HA1.out _ _ _ HE1.out HRP.out (by simp only [maxLen]; omega)).mono ?_
    rintro _ w2 ⟨rfl, hb2⟩
    have HE2 := Lib.hid (HE1.out.trans hb2)
    clear hb2 HRP HE1 HA1
    go_wp2_with fail
    refine (HAN.out _ wHead _ HE2.out (by show 4 ≤ 1000; omega) HZ.out).mono ?_
    rintro _ w3 ⟨rfl, hb3⟩
    go_wp2_with fail
    go_ret
    exact ⟨rfl, HE2.out.trans hb3⟩
  obtain ⟨hek, hsh, hver, hkey⟩ := sh_parts hsk
  have hHok : (shH es key now).ok = true := (verK_zero hver).2.1
  have HZH : Hid (ansR es key now wHead = (headB (shH es key now), 0)) := Lib.hid (ans_head hsk)
  have HBK : Hid (headR (headB (shH es key now)) = (shH es key now, 0)) := Lib.hid (headR_back hHok)
  have HBS : Hid ((headB (shH es key now)).size ≤ 1000) := Lib.hid (headB_size hHok)
  have hn200 : n ≤ 200 := by have := hek.1; omega
  have hnow : 0 ≤ now ∧ now ≤ 1000000 := by
    obtain ⟨_, _, k3, k4, _⟩ := Hd.ok_parts hHok
    rw [hsh] at k3 k4
    exact ⟨k3, k4⟩
  obtain ⟨xs, hxs⟩ : ∃ xs, es.map Ent.leaf = xs := ⟨_, rfl⟩
  have hlo : leafsOk xs := by rw [← hxs]; exact leafs_of_ents hek
  have hxl : xs.length = n := by rw [← hxs, List.length_map, hx]
  have HZP : Hid (∀ (j : Nat) s, j < n → s = ⟨#[112, 114, 111, 111, 102, 32]⟩ ++ digB j ++ ⟨#[32]⟩ ++ digB n → ansR es key now s = (textsV (wayL xs j), 0)) := Lib.hid fun j s hj e => by rw [← hxs]; exact ans_proof hsk hx hj e
  have HZG : Hid (∀ (j : Nat) s, 1 ≤ j → j ≤ n → s = ⟨#[103, 114, 111, 119, 32]⟩ ++ digB j ++ ⟨#[32]⟩ ++ digB n → ansR es key now s = (textsV (growL xs j true), 0)) := Lib.hid fun j s h1 hj e => by rw [← hxs]; exact ans_grow hsk hx h1 hj e
  have HZL : Hid (∀ (j : Nat) (z : Int) s, xs[j]? = some z → s = ⟨#[108, 101, 97, 102, 32]⟩ ++ digB j → ansR es key now s = (hexT z.toNat, 0)) := Lib.hid fun j z s hz e => by
    rw [← hxs, List.getElem?_map] at hz
    cases hj : es[j]? with
    | none => rw [hj] at hz; cases hz
    | some x =>
      rw [hj] at hz
      obtain rfl : x.leaf = z := by simpa using hz
      exact ans_leaf hsk hj e
  have HOLD : Hid (∀ j : Nat, j ≤ n → shK (es.take j) key now = 0 ∧ (shH (es.take j) key now).root = ofL (xs.take j)) := Lib.hid fun j hj => by
    have hk : entsOk (es.take j) := ⟨by have := hek.1; rw [List.length_take]; omega, fun e he => hek.2 e (List.mem_of_mem_take he)⟩
    have h1 := shK_ok (key := key) (now := now) hk hkey hnow
    obtain ⟨_, h2, _⟩ := sh_parts h1
    refine ⟨h1, ?_⟩
    rw [h2, ← hxs, ← List.map_take]
  have HLO := Lib.hid hlo
  have HXL := Lib.hid hxl
  have HVR := Lib.hid hver
  rw [hxs, hx] at hsh
  obtain ⟨ro, hro⟩ : ∃ r, ofL xs = r := ⟨_, rfl⟩
  have HRO := Lib.hid hro
  rw [hro] at hsh
  obtain ⟨sg, hsg⟩ : ∃ v, signI (lgB n ro now) key = v := ⟨_, rfl⟩
  rw [hsg] at hsh
  rw [hsh] at HZH HBK HBS HVR
  obtain ⟨hbt, hhbt⟩ : ∃ t, headB ⟨(n : Int), ro, now, sg⟩ = t := ⟨_, rfl⟩
  rw [hhbt] at HZH HBK HBS
  have HVF2 : Hid (∀ W, Ext w W → Calls Tryz.prog 18 #[.agg #[.int .i64 n, .int .i64 ro, .int .i64 now, .int .i64 sg], .int .i64 key] W fun e w' => e = .returned .nilIface ∧ Ext W w') := Lib.hid fun W e => by
    have := HVF.out W ⟨(n : Int), ro, now, sg⟩ e
    rw [HVR.out] at this
    exact this
  have HHP2 : Hid (∀ W, Ext w W → Calls Tryz.prog 42 #[.string hbt] W fun e w' => e = .returned (.tuple #[.agg #[.int .i64 n, .int .i64 ro, .int .i64 now, .int .i64 sg], .nilIface]) ∧ Ext W w') := Lib.hid fun W e => by
    refine (HHP.out W hbt e HBS.out).mono fun e w' hh => ⟨?_, hh.2⟩
    have h1 := hh.1
    unfold HPR at h1
    rw [HBK.out] at h1
    exact h1
  have HR := Lib.hid hr
  clear hl hm hr ge gk gn gi go hG hD hP hM hx hek hsk hsh hver hkey hHok hnow hxs hlo hxl hro hsg hhbt HHP HVF HVR
  go_enter Tryz.func6, Tryz.ntmps6
  go_wp2_with fail
  refine (HA1.out _ _ _ HE1.out HRP.out (by simp only [maxLen]; omega)).mono ?_
  rintro _ w2 ⟨rfl, hb2⟩
  have HE2 := Lib.hid (HE1.out.trans hb2)
  clear hb2 HRP HE1 HA1
  go_wp2_with fail
  refine (HAN.out _ wHead _ HE2.out (by show 4 ≤ 1000; omega) HZH.out).mono ?_
  rintro _ w3 ⟨rfl, hb3⟩
  dsimp only
  rw [errR_0]
  have HE3 := Lib.hid (HE2.out.trans hb3)
  clear hb3 HE2
  go_wp2_with fail
  refine (HHP2.out _ HE3.out).mono ?_
  rintro _ w4 ⟨rfl, hb4⟩
  have B16 := Bk.at_ w4 40 #[.int .i64 n, .int .i64 ro, .int .i64 now, .int .i64 sg] w4.heap.size rfl
  have e16 : Ext w3 (w4.alloc (.cells #[.int .i64 n, .int .i64 ro, .int .i64 now, .int .i64 sg] 40)) := hb4.alloc _
  go_upto_region 9 with (fail)
  generalize w4.alloc (.cells #[.int .i64 n, .int .i64 ro, .int .i64 now, .int .i64 sg] 40) = W4 at *
  generalize w4.heap.size = g16 at *
  have HB16 := Lib.hid B16
  have HE4 := Lib.hid (HE3.out.trans e16)
  have y0 := B16.cell 0
  have y1 := B16.cell 1
  have y2 := B16.cell 2
  have y3 := B16.cell 3
  clear hb4 e16 B16 HE3 HHP2
  go_wp2_with fail
  refine (HVF2.out _ HE4.out).mono ?_
  rintro _ w5 ⟨rfl, hb5⟩
  have HE5 := Lib.hid (HE4.out.trans hb5)
  have HB5 := Lib.hid (HB16.out.ext hb5)
  clear y0 y1 y2 y3 hb5 HE4 HB16 HVF2
  have y0 := HB5.out.cell 0
  have y2 := HB5.out.cell 2
  by_cases hi : 0 ≤ i ∧ i < (n : Int)
  case neg =>
    have hi' : i < 0 ∨ (0 ≤ i ∧ (n : Int) ≤ i) := by omega
    clear hi
    rcases hi' with h | ⟨h, h'⟩
    all_goals
      go_wp2_with fail
      go_ret
      exact ⟨rfl, HE5.out⟩
  obtain ⟨hi0, hi1⟩ := hi
  obtain ⟨p, rfl⟩ := Int.eq_ofNat_of_zero_le hi0
  have hpn : p < n := by omega
  have hgz := List.getElem?_eq_getElem (l := xs) (i := p) (by rw [HXL.out]; exact hpn)
  obtain ⟨z, hz⟩ : ∃ z, xs[p]'(by rw [HXL.out]; exact hpn) = z := ⟨_, rfl⟩
  rw [hz] at hgz
  have HGZ := Lib.hid hgz
  have hvz := allV_get HLO.out.2 hgz
  obtain ⟨rz, rk⟩ := readV_hexT hvz
  have HRZ := Lib.hid rz
  have HRK := Lib.hid rk
  have hdp : (digB p).size ≤ 4 := digB_four (by omega)
  have hdn : (digB n).size ≤ 4 := digB_four (by omega)
  have HDP := Lib.hid (HDG.out p · (by omega))
  have HDN := Lib.hid (HDG.out n · (by omega))
  obtain ⟨dp, hdp2⟩ : ∃ s, digB p = s := ⟨_, rfl⟩
  obtain ⟨dn, hdn2⟩ : ∃ s, digB n = s := ⟨_, rfl⟩
  have HAP : Hid (∀ W, Ext w W → Calls Tryz.prog 24 #[.slice A n c, .int .i64 key, .int .i64 now, .string (⟨#[112, 114, 111, 111, 102, 32]⟩ ++ dp ++ ⟨#[32]⟩ ++ dn)] W fun e w' => e = .returned (.tuple #[.string (textsV (wayL xs p)), .nilIface]) ∧ Ext W w') := Lib.hid fun W e => by
    have := HAN.out W (⟨#[112, 114, 111, 111, 102, 32]⟩ ++ dp ++ ⟨#[32]⟩ ++ dn) _ e (by
      rw [addS_size, addS_size, addS_size, ← hdp2, ← hdn2]
      have h1 : (⟨#[112, 114, 111, 111, 102, 32]⟩ : ByteArray).size = 6 := rfl
      have h2 : (⟨#[32]⟩ : ByteArray).size = 1 := rfl
      omega) (HZP.out p _ hpn (by rw [hdp2, hdn2]))
    rw [errR_0] at this
    exact this
  have HAL : Hid (∀ W, Ext w W → Calls Tryz.prog 24 #[.slice A n c, .int .i64 key, .int .i64 now, .string (⟨#[108, 101, 97, 102, 32]⟩ ++ dp)] W fun e w' => e = .returned (.tuple #[.string (hexT z.toNat), .nilIface]) ∧ Ext W w') := Lib.hid fun W e => by
    have := HAN.out W (⟨#[108, 101, 97, 102, 32]⟩ ++ dp) _ e (by
      rw [addS_size, ← hdp2]
      have h1 : (⟨#[108, 101, 97, 102, 32]⟩ : ByteArray).size = 5 := rfl
      omega) (HZL.out p z _ hgz (by rw [hdp2]))
    rw [errR_0] at this
    exact this
  have hwl := way_len_le (xs := xs) (i := p) (by rw [HXL.out]; omega)
  have hts := texts_size (wayL xs p)
  have HWS : Hid (∀ W, Calls Tryz.prog 45 #[.string (textsV (wayL xs p))] W fun e w' => (∃ v, e = .returned v ∧ OwnI W w' v (wayL xs p)) ∧ Ext W w') := Lib.hid fun W => by
    have := WSums_any (textsV (wayL xs p)) W (by omega)
    rw [back_texts (allV_way xs.length xs p (Nat.le_refl _) (by rw [HXL.out]; omega) HLO.out.2)] at this
    exact this
  have HPC : Hid (∀ W A2 n2 c2, Rd W 1 A2 n2 c2 ((wayL xs p).map (Value.int .i64)) → c2 ≤ maxLen → Calls Tryz.prog 44 #[.int .i64 ro, .int .i64 n, .int .i64 p, .int .i64 z, .slice A2 n2 c2] W fun e w' => e = .returned .nilIface ∧ Ext W w') := Lib.hid fun W A2 n2 c2 h1 h2 => by
    have := PCheck_any ro (n : Int) (p : Int) z A2 n2 c2 (wayL xs p) W h1 h2
    rw [← HRO.out, pcheck_way HLO.out HXL.out hgz] at this
    rw [← HRO.out]
    exact this
  rw [hdp2] at HDP
  rw [hdn2] at HDN
  have HDN2 := Lib.hid hdn2
  have HDNS := Lib.hid hdn
  obtain ⟨tx, htx⟩ : ∃ t, textsV (wayL xs p) = t := ⟨_, rfl⟩
  obtain ⟨hx8, hhx8⟩ : ∃ t, hexT z.toNat = t := ⟨_, rfl⟩
  rw [htx] at HAP HWS
  rw [hhx8] at HAL HRZ HRK
  have HRD : Hid (∀ W, Calls Tryz.prog 43 #[.string hx8] W fun e w' => e = .returned (.tuple #[.int .i64 z, .int .i64 0]) ∧ Ext W w') := Lib.hid fun W => by
    have := RRead_any hx8 W
    rw [HRZ.out, HRK.out] at this
    exact this
  have hi1' : ¬ (n : Int) ≤ (p : Int) := by omega
  have hdps : dp.size ≤ 4 := by rw [← hdp2]; exact hdp
  have hdns : dn.size ≤ 4 := by rw [← hdn2]; exact hdn
  clear hi0 hi1 hz hgz hvz rz rk hdp hdn hdp2 hdn2 hwl hts htx hhx8
  go_wp2_with fail
  refine (HDP.out _).mono ?_
  rintro _ w6 ⟨rfl, hb6⟩
  have HE6 := Lib.hid (HE5.out.trans hb6)
  have HB6 := Lib.hid (HB5.out.ext hb6)
  clear y0 y2 hb6 HE5 HB5
  go_wp2_with fail
  refine (HDN.out _).mono ?_
  rintro _ w7 ⟨rfl, hb7⟩
  have HE7 := Lib.hid (HE6.out.trans hb7)
  have HB7 := Lib.hid (HB6.out.ext hb7)
  clear hb7 HE6 HB6
  go_wp2_with fail
  refine (HAP.out _ HE7.out).mono ?_
  rintro _ w8 ⟨rfl, hb8⟩
  have HE8 := Lib.hid (HE7.out.trans hb8)
  have HB8 := Lib.hid (HB7.out.ext hb8)
  clear hb8 HE7 HB7
  go_wp2_with fail
  refine (HAL.out _ HE8.out).mono ?_
  rintro _ w9 ⟨rfl, hb9⟩
  have HE9 := Lib.hid (HE8.out.trans hb9)
  have HB9 := Lib.hid (HB8.out.ext hb9)
  clear hb9 HE8 HB8
  go_wp2_with fail
  refine (HRD.out _).mono ?_
  rintro _ w10 ⟨rfl, hb10⟩
  have HE10 := Lib.hid (HE9.out.trans hb10)
  have HB10 := Lib.hid (HB9.out.ext hb10)
  have y0 := HB10.out.cell 0
  have y1 := HB10.out.cell 1
  clear hb10 HE9 HB9
  go_upto_region 18 with (fail)
  go_cut [137] (fun b wc => b = .bool false ∧ Ext w10 wc)
  case first =>
    as_aux_lemma =>
    have y0a : w10.cell? ⟨g16, 0, none⟩ = some (.int .i64 n) := y0
    have y1a : w10.cell? ⟨g16, 1, none⟩ = some (.int .i64 ro) := y1
    go_region_held3 (fun W => W.cell? ⟨g16, 0, none⟩ = some (.int .i64 n) ∧ W.cell? ⟨g16, 1, none⟩ = some (.int .i64 ro)) (first | exact ⟨y0a, y1a⟩ | exact ⟨(HB10.out.ext (by (repeat (with_reducible first | exact Ext.refl _ | assumption | refine Ext.drew ?_ | refine Ext.drewN ?_ _ | refine Ext.alloc ?_ _ | refine Ext.trans ?_ (by with_reducible assumption))))).cell 0, (HB10.out.ext (by (repeat (with_reducible first | exact Ext.refl _ | assumption | refine Ext.drew ?_ | refine Ext.drewN ?_ _ | refine Ext.alloc ?_ _ | refine Ext.trans ?_ (by with_reducible assumption))))).cell 1⟩) (first
      | (go_at_call 45; (with_reducible refine (HWS.out _).mono ?_); rintro _ x5 ⟨⟨v5, rfl, own5⟩, hx5⟩; obtain ⟨A5, c5, rfl, hc5, R5⟩ := own5.rd; have HC5 := Lib.hid hc5; have HR5 := Lib.hid R5; clear own5 hc5 R5)
      | (go_at_call 44; (with_reducible refine (HPC.out _ _ _ _ (HR5.out.ext (by (repeat (with_reducible first | exact Ext.refl _ | assumption | refine Ext.drew ?_ | refine Ext.drewN ?_ _ | refine Ext.alloc ?_ _ | refine Ext.trans ?_ (by with_reducible assumption))))) HC5.out).mono ?_); rintro _ x6 ⟨rfl, hx6⟩)
      | fail)
    have e6 : Ext w10 x6 := by (repeat (with_reducible first | exact Ext.refl _ | assumption | refine Ext.drew ?_ | refine Ext.drewN ?_ _ | refine Ext.alloc ?_ _ | refine Ext.trans ?_ (by with_reducible assumption)))
    go_wp2_with fail
    go_meet
    exact ⟨rfl, e6⟩
  case rest =>
  as_aux_lemma =>
  obtain ⟨rfl, hb11⟩ := hcut
  obtain ⟨w11, rfl⟩ : ∃ W, W = wc := ⟨_, rfl⟩
  have HE11 := Lib.hid (HE10.out.trans hb11)
  have HB11 := Lib.hid (HB10.out.ext hb11)
  clear y0 y1 hb11 HE10 HB10 HWS HPC HAP HAL HRD
  by_cases ho : 1 ≤ old ∧ old ≤ (n : Int)
  case neg =>
    have ho' : old < 1 ∨ (1 ≤ old ∧ (n : Int) < old) := by omega
    clear ho
    rcases ho' with h | ⟨h, h'⟩
    all_goals
      go_wp2_with fail
      go_ret
      exact ⟨rfl, HE11.out⟩
  obtain ⟨ho1, ho2⟩ := ho
  obtain ⟨q, rfl⟩ := Int.eq_ofNat_of_zero_le (show 0 ≤ old by omega)
  have hq1 : 1 ≤ q := by omega
  have hqn : q ≤ n := by omega
  have hqc : q ≤ c := by omega
  have hdq : (digB q).size ≤ 4 := digB_four (by omega)
  have HDQ := Lib.hid (HDG.out q · (by omega))
  obtain ⟨dq, hdq2⟩ : ∃ s, digB q = s := ⟨_, rfl⟩
  rw [hdq2] at HDQ
  have HAG : Hid (∀ W, Ext w W → Calls Tryz.prog 24 #[.slice A n c, .int .i64 key, .int .i64 now, .string (⟨#[103, 114, 111, 119, 32]⟩ ++ dq ++ ⟨#[32]⟩ ++ dn)] W fun e w' => e = .returned (.tuple #[.string (textsV (growL xs q true)), .nilIface]) ∧ Ext W w') := Lib.hid fun W e => by
    have := HAN.out W (⟨#[103, 114, 111, 119, 32]⟩ ++ dq ++ ⟨#[32]⟩ ++ dn) _ e (by
      rw [addS_size, addS_size, addS_size, ← hdq2, ← HDN2.out]
      have h1 : (⟨#[103, 114, 111, 119, 32]⟩ : ByteArray).size = 5 := rfl
      have h2 : (⟨#[32]⟩ : ByteArray).size = 1 := rfl
      have := HDNS.out
      omega) (HZG.out q _ hq1 hqn (by rw [hdq2, HDN2.out]))
    rw [errR_0] at this
    exact this
  have hgl := growL_len n xs q true (by rw [HXL.out]; exact Nat.le_refl _) hq1 (by rw [HXL.out]; exact hqn) (by rw [HXL.out]; omega)
  have hgs := gsteps_le n q n true (Nat.le_refl _) (by omega) (by omega)
  rw [HXL.out] at hgl
  have hts := texts_size (growL xs q true)
  have HWS : Hid (∀ W, Calls Tryz.prog 45 #[.string (textsV (growL xs q true))] W fun e w' => (∃ v, e = .returned v ∧ OwnI W w' v (growL xs q true)) ∧ Ext W w') := Lib.hid fun W => by
    have := WSums_any (textsV (growL xs q true)) W (by omega)
    rw [back_texts (growL_vld n xs q true (by rw [HXL.out]; exact Nat.le_refl _) hq1 (by rw [HXL.out]; exact hqn) (by rw [HXL.out]; omega) HLO.out.2)] at this
    exact this
  have HGC : Hid (∀ W A2 n2 c2, Rd W 1 A2 n2 c2 ((growL xs q true).map (Value.int .i64)) → c2 ≤ maxLen → Calls Tryz.prog 46 #[.int .i64 (ofL (xs.take q)), .int .i64 q, .int .i64 ro, .int .i64 n, .slice A2 n2 c2] W fun e w' => e = .returned .nilIface ∧ Ext W w') := Lib.hid fun W A2 n2 c2 h1 h2 => by
    have := GCheck_any (ofL (xs.take q)) (q : Int) ro (n : Int) A2 n2 c2 (growL xs q true) W h1 h2
    have h3 := gcheck_grow (xs := xs) (o := q) (m := n) hq1 hqn (by rw [HXL.out]; exact Nat.le_refl _) HLO.out
    rw [show xs.take n = xs from List.take_of_length_le (by rw [HXL.out]; exact Nat.le_refl _), HRO.out] at h3
    rw [h3] at this
    exact this
  have HSO : Hid (∀ W, Ext w W → Calls Tryz.prog 16 #[.slice A q c, .int .i64 key, .int .i64 now] W fun e w' => (∃ a b d : Int, e = .returned (.tuple #[.agg #[.int .i64 a, .int .i64 (ofL (xs.take q)), .int .i64 b, .int .i64 d], .nilIface])) ∧ Ext W w') := Lib.hid fun W e => by
    obtain ⟨h1, h2⟩ := HOLD.out q hqn
    refine (HSH.out q hqn W e).mono fun e w' hh => ⟨?_, hh.2⟩
    have h3 := hh.1
    rw [h1] at h3
    obtain ⟨hd, hhd⟩ : ∃ x, shH (es.take q) key now = x := ⟨_, rfl⟩
    rw [hhd] at h3 h2
    obtain ⟨a, b, d, e'⟩ := hd
    dsimp only at h2
    subst h2
    exact ⟨a, d, e', h3⟩
  obtain ⟨tx2, htx2⟩ : ∃ t, textsV (growL xs q true) = t := ⟨_, rfl⟩
  rw [htx2] at HAG HWS
  obtain ⟨rq, hrq⟩ : ∃ t, ofL (xs.take q) = t := ⟨_, rfl⟩
  rw [hrq] at HGC HSO
  have hdqs : dq.size ≤ 4 := by rw [← hdq2]; exact hdq
  clear hdq hdq2 hgl hgs hts htx2 hrq HZH HZP HZG HZL HOLD HSH HAN HDG HRZ HRK HGZ
  go_wp2_with fail
  refine (HDQ.out _).mono ?_
  rintro _ w12 ⟨rfl, hb12⟩
  have HE12 := Lib.hid (HE11.out.trans hb12)
  have HB12 := Lib.hid (HB11.out.ext hb12)
  clear hb12 HE11 HB11
  go_wp2_with fail
  refine (HAG.out _ HE12.out).mono ?_
  rintro _ w13 ⟨rfl, hb13⟩
  have HE13 := Lib.hid (HE12.out.trans hb13)
  have HB13 := Lib.hid (HB12.out.ext hb13)
  clear hb13 HE12 HB12
  go_wp2_with fail
  refine (HSO.out _ HE13.out).mono ?_
  rintro _ w14 ⟨⟨a, b, d, rfl⟩, hb14⟩
  have B28 := Bk.at_ w14 40 #[.int .i64 a, .int .i64 rq, .int .i64 b, .int .i64 d] w14.heap.size rfl
  have e28 : Ext w13 (w14.alloc (.cells #[.int .i64 a, .int .i64 rq, .int .i64 b, .int .i64 d] 40)) := hb14.alloc _
  go_upto_region 25 with (fail)
  generalize w14.alloc (.cells #[.int .i64 a, .int .i64 rq, .int .i64 b, .int .i64 d] 40) = W14 at *
  generalize w14.heap.size = g28 at *
  have HB28 := Lib.hid B28
  have HB14 := Lib.hid (HB13.out.ext e28)
  have HE14 := Lib.hid (HE13.out.trans e28)
  have z1 := B28.cell 1
  have y0 := HB14.out.cell 0
  have y1 := HB14.out.cell 1
  clear hb14 e28 B28 HE13 HB13
  go_cut [10] (fun b wc => b = .bool true ∧ Ext W14 wc)
  case first =>
    as_aux_lemma =>
    have y0a : W14.cell? ⟨g16, 0, none⟩ = some (.int .i64 n) := y0
    have y1a : W14.cell? ⟨g16, 1, none⟩ = some (.int .i64 ro) := y1
    have z1a : W14.cell? ⟨g28, 1, none⟩ = some (.int .i64 rq) := z1
    go_region_held3 (fun W => W.cell? ⟨g28, 1, none⟩ = some (.int .i64 rq) ∧ W.cell? ⟨g16, 0, none⟩ = some (.int .i64 n) ∧ W.cell? ⟨g16, 1, none⟩ = some (.int .i64 ro)) (first | exact ⟨z1a, y0a, y1a⟩ | exact ⟨(HB28.out.ext (by (repeat (with_reducible first | exact Ext.refl _ | assumption | refine Ext.drew ?_ | refine Ext.drewN ?_ _ | refine Ext.alloc ?_ _ | refine Ext.trans ?_ (by with_reducible assumption))))).cell 1, (HB14.out.ext (by (repeat (with_reducible first | exact Ext.refl _ | assumption | refine Ext.drew ?_ | refine Ext.drewN ?_ _ | refine Ext.alloc ?_ _ | refine Ext.trans ?_ (by with_reducible assumption))))).cell 0, (HB14.out.ext (by (repeat (with_reducible first | exact Ext.refl _ | assumption | refine Ext.drew ?_ | refine Ext.drewN ?_ _ | refine Ext.alloc ?_ _ | refine Ext.trans ?_ (by with_reducible assumption))))).cell 1⟩) (first
      | (go_at_call 45; (with_reducible refine (HWS.out _).mono ?_); rintro _ x5 ⟨⟨v5, rfl, own5⟩, hx5⟩; obtain ⟨A5, c5, rfl, hc5, R5⟩ := own5.rd; have HC5 := Lib.hid hc5; have HR5 := Lib.hid R5; clear own5 hc5 R5)
      | (go_at_call 46; (with_reducible refine (HGC.out _ _ _ _ (HR5.out.ext (by (repeat (with_reducible first | exact Ext.refl _ | assumption | refine Ext.drew ?_ | refine Ext.drewN ?_ _ | refine Ext.alloc ?_ _ | refine Ext.trans ?_ (by with_reducible assumption))))) HC5.out).mono ?_); rintro _ x6 ⟨rfl, hx6⟩)
      | fail)
    have e6 : Ext W14 x6 := by (repeat (with_reducible first | exact Ext.refl _ | assumption | refine Ext.drew ?_ | refine Ext.drewN ?_ _ | refine Ext.alloc ?_ _ | refine Ext.trans ?_ (by with_reducible assumption)))
    go_wp2_with fail
    go_meet
    exact ⟨rfl, e6⟩
  case rest =>
  as_aux_lemma =>
  obtain ⟨rfl, hb15⟩ := hcut
  go_wp2_with fail
  go_ret
  exact ⟨rfl, HE14.out.trans hb15⟩
end Go.Proofs.YtdefdcaeiojmeaaGreatDoor.serveProves
