/- The plain wal: views, records, segments' names. -/
import Derived.Test.YtikjckdoldiddaaGreatDoorC07
import Derived.Lib.AppendStr
import Derived.BigQuiet
namespace Go.Proofs.YtikjckdoldiddaaGreatDoor
open Go.RowKit Go.Maps
set_option linter.unusedVariables false
set_option linter.unusedSimpArgs false

/-- What records say. -/
structure Wv where
  ht : Int
  hv : Int
  i : Int
  t : Int
  l : List Ent
def wv0 : Wv := ⟨0, 0, 0, 0, []⟩
def Wv.last (v : Wv) : Int := v.i + (v.l.length : Int)
def withinS (n lo : Int) : Bool := decide (lo ≤ n) && decide (n ≤ 1099511627776)
def goodHS (t v : Int) : Bool := withinS t 0 && decide (0 ≤ v) && decide (v ≤ 7)
def Wv.good (v : Wv) (e : Ent) : Bool := decide (e.i = v.last + 1) && withinS e.i 1 && withinS e.t 1 && decide (e.d.length ≤ 4096)
def Wv.at_ (v : Wv) (i : Int) : Int := if i = v.i then v.t else if i < v.i ∨ v.last < i then 0 else ((v.l[(i - v.i - 1).toNat]?).map Ent.t).getD 0
def numsB (l : List Int) : By := (l.map numS).flatten
/-- A payload's bytes. -/
def payB (l : List Int) (more : Bool) (d : By) : By := if more = true then numsB l ++ (numS (d.length : Int) ++ d) else numsB l
def hardB (t v : Int) : By := recB (payB [1, t, v] false [])
def entB (e : Ent) : By := recB (payB [2, e.i, e.t] true e.d)
def cutB (n : Int) : By := recB (payB [3, n] false [])
def startB (i t : Int) : By := recB (payB [4, i, t] false [])
def endB : By := recB (payB [5] false [])
def entsB (l : List Ent) : By := (l.map entB).flatten
def Wv.whole (v : Wv) : By := startB v.i v.t ++ (hardB v.ht v.hv ++ (entsB v.l ++ endB))
/-- A scan's text. -/
def Sc.text (s : Sc) (m : Nat) : By × Sc :=
  if s.num.2.err ≠ 0 then ([], s.num.2)
  else if m < s.num.1 then ([], { s.num.2 with at_ := s.at_, err := 4 })
  else if s.b.length - s.num.2.at_ < s.num.1 then ([], { s.num.2 with at_ := s.at_, err := 2 })
  else ((s.b.drop s.num.2.at_).take s.num.1, { s.num.2 with at_ := s.num.2.at_ + s.num.1 })
/-- What a record does; none: it does not fit. -/
def Wv.take (v : Wv) (b : By) : Option Wv :=
  let s0 : Sc := ⟨b, 0, 0⟩
  let s1 := s0.num.2
  let k := s0.num.1
  if k = 1 then
    (if goodHS s1.num.1 s1.num.2.num.1 = true ∧ s1.num.2.num.2.end_.1 = 0 then some { v with ht := s1.num.1, hv := s1.num.2.num.1 } else none)
  else if k = 2 then
    (if v.good ⟨s1.num.1, s1.num.2.num.1, (s1.num.2.num.2.text 4096).1⟩ = true ∧ (s1.num.2.num.2.text 4096).2.end_.1 = 0 then some { v with l := v.l ++ [⟨s1.num.1, s1.num.2.num.1, (s1.num.2.num.2.text 4096).1⟩] } else none)
  else if k = 3 then
    (if (v.i < (s1.num.1 : Int) ∧ (s1.num.1 : Int) ≤ v.last) ∧ s1.num.2.end_.1 = 0 then some { v with l := v.l.take ((s1.num.1 : Int) - v.i - 1).toNat } else none)
  else none
/-- A view that a segment says which stands alone, behind its first record. -/
def goWV : Nat → Wv → List By → Wv × Nat
  | _, _, [] => (wv0, 0)
  | k, v, b :: r => if b = [5] then (v, k + 2) else match v.take b with | none => (wv0, 0) | some v' => goWV (k + 1) v' r
def beginW (rows : List By) : Wv × Nat :=
  match rows with
  | [] => (wv0, 0)
  | b :: r =>
    let s0 : Sc := ⟨b, 0, 0⟩
    if s0.num.1 = 4 ∧ s0.num.2.num.2.num.2.end_.1 = 0 ∧ withinS s0.num.2.num.1 0 = true ∧ withinS s0.num.2.num.2.num.1 0 = true then goWV 0 ⟨0, 0, s0.num.2.num.1, s0.num.2.num.2.num.1, []⟩ r else (wv0, 0)
/-- The records that fit: the view behind them, how many they are. -/
def Wv.more (v : Wv) : List By → Wv × Nat
  | [] => (v, 0)
  | b :: r => match v.take b with | none => (v, 0) | some v' => ((v'.more r).1, (v'.more r).2 + 1)
def sizedB (rows : List By) : Nat := (rows.map fun p => (recB p).length).sum
end Go.Proofs.YtikjckdoldiddaaGreatDoor

/- The walks of Text and of a scan's Text. Printed by gen_wt2.py. -/
namespace Go.Proofs.YtikjckdoldiddaaGreatDoor
open Go.RowKit Go.Maps
set_option linter.unusedVariables false
set_option linter.unusedSimpArgs false
attribute [local go_sem] bmax2 bmin2 bmax_two bmin_two

theorem Sc.num_b (s : Sc) : s.num.2.b = s.b := by
  unfold Sc.num Sc.numV
  split
  · rfl
  split <;> rfl
theorem ScAt.at_le {D : Nat → Prop} {w : World} {g : Nat} {s : Sc} (h : ScAt D w g s) : s.at_ ≤ s.b.length ∧ s.b.length ≤ 140737488351232 := by
  obtain ⟨g1, a, n, c, h1, h2, h3, h4, h5, h6, h7⟩ := h
  have := h3.1
  have := h3.2.2.1.2
  omega
theorem Sc.failS_0 {s : Sc} (h : s.err = 0) (z : Int) : s.failS z = { s with err := z } := by unfold Sc.failS; rw [if_pos h]
set_option maxRecDepth 100000 in
set_option maxHeartbeats 4000000 in
theorem SText_any {D : Nat → Prop} {w : World} {g : Nat} {s : Sc} (h : ScAt D w g s) (m : Nat) (hm : m ≤ 1000000) :
    Calls Tryz.prog 169 #[.pointer (some ⟨g, 0, none⟩), .int .i64 (m : Int)] w (fun e w' => e = .returned (.string ⟨(s.text m).1.toArray⟩) ∧ ScAt D w' g (s.text m).2 ∧ Frm D w w') := by
  have HS := hid h
  have HNU := hid (SNumber_any h)
  have hal := h.at_le
  have hnb := s.num_b
  obtain ⟨g1, a, n, c, h1, h2, h3, h4, h5, h6, h7⟩ := h
  have HM := hid (made_any h1)
  have c0 : w.cell? ⟨g, 0, none⟩ = some (.pointer (some ⟨g1, 0, none⟩)) := by simp [World.cell?, h1]
  have c2 : w.cell? ⟨g1, 1, none⟩ = some (.int .i64 s.at_) := by simp [World.cell?, h2]
  unfold Sc.text
  obtain ⟨⟨nn, s1⟩, hr⟩ : ∃ r, r = s.num := ⟨_, rfl⟩
  rw [← hr] at HNU hnb ⊢
  dsimp only at hnb ⊢
  have HAL := hid hal
  have HNB := hid hnb
  clear h1 h2 h3 h4 h5 h6 h7 hr hal hnb
  have hmx : max (m : Int) 0 = (m : Int) := by omega
  by_cases he : s1.err ≠ 0
  · rw [if_pos he]
    have heb : (s1.err != 0) = true := by simpa using he
    obtain ⟨ez, hez⟩ : ∃ ez, ez = s1.err := ⟨_, rfl⟩
    have HEZ := hid hez
    rw [← hez] at heb
    clear he hez
    go_enter Tryz.func169, Tryz.ntmps169
    go_wp2_with fail
    refine Calls.mono HM.out ?_
    rintro e w0 ⟨rfl, rfl⟩
    go_wp2_with fail
    refine Calls.mono HNU.out ?_
    rintro e w1 ⟨rfl, hs1, hf1⟩
    have HER := hid (Err_any hs1)
    rw [← HEZ.out] at HER
    have HS1 := hid hs1
    have HF1 := hid hf1
    clear hs1 hf1 c0 c2
    go_wp2_with fail
    refine Calls.mono HER.out ?_
    rintro e w2 ⟨rfl, rfl⟩
    go_wp2
    go_ret
    exact ⟨rfl, HS1.out, HF1.out⟩
  rw [if_neg he]
  have HE0 := hid (show s1.err = 0 by simpa using he)
  clear he
  by_cases hlong : m < nn
  · rw [if_pos hlong]
    have hlb : decide (m < nn) = true := by simpa using hlong
    clear hlong
    go_enter Tryz.func169, Tryz.ntmps169
    go_wp2_with fail
    refine Calls.mono HM.out ?_
    rintro e w0 ⟨rfl, rfl⟩
    go_wp2_with fail
    refine Calls.mono HNU.out ?_
    rintro e w1 ⟨rfl, hs1, hf1⟩
    have HER := hid (Err_any hs1)
    rw [HE0.out] at HER
    have HS1 := hid hs1
    have HF1 := hid hf1
    clear hs1 hf1 c0 c2
    go_wp2_with fail
    refine Calls.mono HER.out ?_
    rintro e w2 ⟨rfl, rfl⟩
    obtain ⟨g2, a2, n2, c2', k1, k2, k3, k4, k5, k6, k7⟩ := HS1.out
    have d0 : w2.cell? ⟨g, 0, none⟩ = some (.pointer (some ⟨g2, 0, none⟩)) := by simp [World.cell?, k1]
    have d2 : w2.cell? ⟨g2, 1, none⟩ = some (.int .i64 s1.at_) := by simp [World.cell?, k2]
    have f2 : w2.frozen? ⟨g2, 1, none⟩ = false := by simp [World.frozen?, k2]
    have hg2l : g2 < w2.heap.size := (Array.getElem?_eq_some_iff.1 k2).1
    have HST := hid (sc_step k1 k2 k3 k5 k6 k7 s.at_ (by have h1 := HAL.out.1; have h2 := HNB.out; have h3 := k3.1; rw [h2] at h3; omega) _ rfl)
    have HFT := hid (frm_set (D := D) (w := w2) (p := ⟨g2, 1, none⟩) k7 (.int .i64 (s.at_ : Int)))
    clear k1 k2 k3 k4 k5 k6 k7
    go_wp2_with fail
    have hfail := fail_any HST.out 4
    rw [Sc.failS_0 (s := { b := s1.b, at_ := s.at_, err := s1.err }) HE0.out] at hfail
    refine Calls.mono hfail ?_
    rintro e w3 ⟨rfl, hs3, hf3⟩
    have HS3 := hid hs3
    have HF3 := hid hf3
    clear hs3 hf3 hfail
    go_wp2
    go_ret
    exact ⟨rfl, HS3.out, (HF1.out.trans HFT.out fun q hq => .inl hq).trans HF3.out fun q hq => .inl hq⟩
  rw [if_neg hlong]
  have hlb : decide (m < nn) = false := by simpa using hlong
  have hnn : nn ≤ 1000000 := by omega
  obtain ⟨lf, hlf⟩ : ∃ lf, lf = s.b.length - s1.at_ := ⟨_, rfl⟩
  rw [← hlf]
  have HLF := hid hlf
  clear hlong hlf
  by_cases hshort : lf < nn
  · rw [if_pos hshort]
    have hsb : decide (lf < nn) = true := by simpa using hshort
    clear hshort
    go_enter Tryz.func169, Tryz.ntmps169
    go_wp2_with fail
    refine Calls.mono HM.out ?_
    rintro e w0 ⟨rfl, rfl⟩
    go_wp2_with fail
    refine Calls.mono HNU.out ?_
    rintro e w1 ⟨rfl, hs1, hf1⟩
    have HER := hid (Err_any hs1)
    rw [HE0.out] at HER
    have HS1 := hid hs1
    have HF1 := hid hf1
    have HLE := hid (Left_any hs1)
    rw [HNB.out, ← HLF.out] at HLE
    clear hs1 hf1 c0 c2
    go_wp2_with fail
    refine Calls.mono HER.out ?_
    rintro e w2 ⟨rfl, rfl⟩
    go_wp2_with fail
    refine Calls.mono HLE.out ?_
    rintro e w3 ⟨rfl, qq, rfl⟩
    obtain ⟨g2, a2, n2, c2', k1, k2, k3, k4, k5, k6, k7⟩ := HS1.out.ext (ext_drewN w2 qq)
    have hxq := ext_drewN w2 qq
    generalize w2.drewN qq = w3 at *
    have HXQ := hid hxq
    have d0 : w3.cell? ⟨g, 0, none⟩ = some (.pointer (some ⟨g2, 0, none⟩)) := by simp [World.cell?, k1]
    have d2 : w3.cell? ⟨g2, 1, none⟩ = some (.int .i64 s1.at_) := by simp [World.cell?, k2]
    have f2 : w3.frozen? ⟨g2, 1, none⟩ = false := by simp [World.frozen?, k2]
    have hg2l : g2 < w3.heap.size := (Array.getElem?_eq_some_iff.1 k2).1
    have HST := hid (sc_step k1 k2 k3 k5 k6 k7 s.at_ (by have h1 := HAL.out.1; have h2 := HNB.out; have h3 := k3.1; rw [h2] at h3; omega) _ rfl)
    have HFT := hid (frm_set (D := D) (w := w3) (p := ⟨g2, 1, none⟩) k7 (.int .i64 (s.at_ : Int)))
    clear k1 k2 k3 k4 k5 k6 k7 hxq
    go_wp2_with fail
    have hfail := fail_any HST.out 2
    rw [Sc.failS_0 (s := { b := s1.b, at_ := s.at_, err := s1.err }) HE0.out] at hfail
    refine Calls.mono hfail ?_
    rintro e w4 ⟨rfl, hs3, hf3⟩
    have HS3 := hid hs3
    have HF3 := hid hf3
    clear hs3 hf3 hfail
    go_wp2
    go_ret
    exact ⟨rfl, HS3.out, (((HF1.out.then_ext HXQ.out).trans HFT.out fun q hq => .inl hq)).trans HF3.out fun q hq => .inl hq⟩
  rw [if_neg hshort]
  have hsb : decide (lf < nn) = false := by simpa using hshort
  have HSH := hid (show nn ≤ lf by omega)
  clear hshort
  go_enter Tryz.func169, Tryz.ntmps169
  go_wp2_with fail
  refine Calls.mono HM.out ?_
  rintro e w0 ⟨rfl, rfl⟩
  go_wp2_with fail
  refine Calls.mono HNU.out ?_
  rintro e w1 ⟨rfl, hs1, hf1⟩
  have HER := hid (Err_any hs1)
  rw [HE0.out] at HER
  have HS1 := hid hs1
  have HF1 := hid hf1
  have HLE := hid (Left_any hs1)
  rw [HNB.out, ← HLF.out] at HLE
  clear hs1 hf1 c0 c2
  go_wp2_with fail
  refine Calls.mono HER.out ?_
  rintro e w2 ⟨rfl, rfl⟩
  go_wp2_with fail
  refine Calls.mono HLE.out ?_
  rintro e w3 ⟨rfl, qq, rfl⟩
  have hal2 := HS1.out.at_le
  obtain ⟨g2, a2, n2, c2', k1, k2, k3, k4, k5, k6, k7⟩ := HS1.out.ext (ext_drewN w2 qq)
  have hxq := ext_drewN w2 qq
  generalize w2.drewN qq = w3 at *
  have HXQ := hid hxq
  have d0 : w3.cell? ⟨g, 0, none⟩ = some (.pointer (some ⟨g2, 0, none⟩)) := by simp [World.cell?, k1]
  have d2 : w3.cell? ⟨g2, 1, none⟩ = some (.int .i64 s1.at_) := by simp [World.cell?, k2]
  have f2 : w3.frozen? ⟨g2, 1, none⟩ = false := by simp [World.frozen?, k2]
  have hg2l : g2 < w3.heap.size := (Array.getElem?_eq_some_iff.1 k2).1
  have hsl : s1.at_ + nn ≤ s1.b.length := by have h1 := HSH.out; have h2 := HLF.out; have h3 := HNB.out; rw [← h3] at h2; omega
  obtain ⟨pn, hpn⟩ : ∃ pn, pn = s1.at_ + nn := ⟨_, rfl⟩
  have HST := hid (sc_step k1 k2 k3 k5 k6 k7 pn (by have h3 := k3.1; omega) (.int .i64 (pn : Int)) rfl)
  have HFT := hid (frm_set (D := D) (w := w3) (p := ⟨g2, 1, none⟩) k7 (.int .i64 (pn : Int)))
  have e1 := (heap_setCell_other w3 ⟨g2, 1, none⟩ g (.int .i64 (pn : Int)) (by show g ≠ g2; exact k5)).trans k1
  have e2 := heap_setCell_same w3 g2 1 _ _ (.int .i64 (pn : Int)) k2
  have HB3 := hid (k3.keep (G := fun q => D q ∧ q ≠ g ∧ q ≠ g2) (w' := w3.setCell ⟨g2, 1, none⟩ (.int .i64 (pn : Int))) fun q hq hl => ⟨hq, heap_setCell_other w3 _ q _ hq.2.2⟩)
  obtain ⟨at1, hat1⟩ : ∃ at1, at1 = s1.at_ := ⟨_, rfl⟩
  rw [← hat1] at d2 hsl hal2 hpn
  have hw0 : (at1 : Int) + (nn : Int) = (pn : Int) := by omega
  have hw1 : IntKind.i64.wrap (pn : Int) = (pn : Int) := IntWalk.i64_in _ ⟨by omega, by omega⟩
  have HPN := hid hpn
  have HE1 := hid e1
  have HE2 := hid e2
  have HAT := hid hat1
  have HSL := hid hsl
  clear k1 k2 k3 k4 k5 k6 k7 hxq e1 e2 hat1 hpn hsl hal2
  go_wp2_with fail
  generalize w3.setCell ⟨g2, 1, none⟩ (.int .i64 (pn : Int)) = w4 at *
  clear d0 d2 f2 hw0 hw1
  have y0 : Ext w4 w4.drew := ext_drew w4
  refine wp_region_held_drew (S := fun W => Ext w4 W) (by kernel_rfl) y0 (fun hH => ?_)
  obtain ⟨a', m', k', cut1, cut2, hcut⟩ := cut_lh HB3.out (at1 : Int) (pn : Int) (by omega) (by have := HPN.out; omega) (by have h1 := HSL.out; have h2 := HB3.out.1; have h3 := HPN.out; omega)
  have HCUT := hid hcut
  have HC1 := hid (fun W (hW : Ext w4 W) => show W.cell? ⟨g, 0, none⟩ = some (.pointer (some ⟨g2, 0, none⟩)) from by have h := (hW.block g (Array.getElem?_eq_some_iff.1 HE1.out).1).trans HE1.out; simp [World.cell?, h])
  have HC2 := hid (fun W (hW : Ext w4 W) => show W.cell? ⟨g2, 0, none⟩ = some (.slice a2 n2 c2') ∧ W.cell? ⟨g2, 1, none⟩ = some (.int .i64 (pn : Int)) from by have h := (hW.block g2 (Array.getElem?_eq_some_iff.1 HE2.out).1).trans HE2.out; exact ⟨by simp [World.cell?, h], by simp [World.cell?, h]⟩)
  have hsub : (pn : Int) - (nn : Int) = (at1 : Int) := by have := HPN.out; omega
  have hsub2 : IntKind.i64.wrap (at1 : Int) = (at1 : Int) := IntWalk.i64_in _ ⟨by omega, by have h1 := HSL.out; have h2 := HB3.out.1; have h3 := HB3.out.2.2.1.2; omega⟩
  clear hH hcut
  refine held_run (i := 0) (v := .pointer (some ⟨g, 0, none⟩)) rfl (by kernel_rfl) (by kernel_rfl) (by kernel_rfl) (fun _ _ _ h => h) (by rfl) y0 (fun W hW => ?_) ?_
  · (clear hW; go_simp)
  try simp only [Act.put, List.setIfInBounds_toArray, List.set_cons_zero, List.set_cons_succ]
  refine held_run (i := 1) (v := .pointer (some ⟨g, 0, none⟩)) rfl (by kernel_rfl) (by kernel_rfl) (by kernel_rfl) (fun _ _ _ h => h) (by rfl) y0 (fun W hW => ?_) ?_
  · (clear hW; go_simp)
  try simp only [Act.put, List.setIfInBounds_toArray, List.set_cons_zero, List.set_cons_succ]
  refine held_run (i := 2) (v := .pointer (some ⟨g, 0, none⟩)) rfl (by kernel_rfl) (by kernel_rfl) (by kernel_rfl) (fun _ _ _ h => h) (by rfl) y0 (fun W hW => ?_) ?_
  · (clear hW; go_simp)
  try simp only [Act.put, List.setIfInBounds_toArray, List.set_cons_zero, List.set_cons_succ]
  refine held_run (i := 3) (v := .pointer (some ⟨g2, 0, none⟩)) rfl (by kernel_rfl) (by kernel_rfl) (by kernel_rfl) (fun _ _ _ h => h) (by rfl) y0 (fun W hW => ?_) ?_
  · (have q0 := HC1.out W hW; clear hW; go_simp)
  try simp only [Act.put, List.setIfInBounds_toArray, List.set_cons_zero, List.set_cons_succ]
  refine held_run (i := 4) (v := .pointer (some ⟨g2, 0, none⟩)) rfl (by kernel_rfl) (by kernel_rfl) (by kernel_rfl) (fun _ _ _ h => h) (by rfl) y0 (fun W hW => ?_) ?_
  · (clear hW; go_simp)
  try simp only [Act.put, List.setIfInBounds_toArray, List.set_cons_zero, List.set_cons_succ]
  refine held_run (i := 5) (v := .pointer (some ⟨g2, 0, none⟩)) rfl (by kernel_rfl) (by kernel_rfl) (by kernel_rfl) (fun _ _ _ h => h) (by rfl) y0 (fun W hW => ?_) ?_
  · (clear hW; go_simp)
  try simp only [Act.put, List.setIfInBounds_toArray, List.set_cons_zero, List.set_cons_succ]
  refine held_run (i := 6) (v := .slice a2 n2 c2') rfl (by kernel_rfl) (by kernel_rfl) (by kernel_rfl) (fun _ _ _ h => h) (by rfl) y0 (fun W hW => ?_) ?_
  · (obtain ⟨q0, q1⟩ := HC2.out W hW; clear hW; go_simp)
  try simp only [Act.put, List.setIfInBounds_toArray, List.set_cons_zero, List.set_cons_succ]
  refine held_run (i := 7) (v := .pointer (some ⟨g, 0, none⟩)) rfl (by kernel_rfl) (by kernel_rfl) (by kernel_rfl) (fun _ _ _ h => h) (by rfl) y0 (fun W hW => ?_) ?_
  · (clear hW; go_simp)
  try simp only [Act.put, List.setIfInBounds_toArray, List.set_cons_zero, List.set_cons_succ]
  refine held_run (i := 8) (v := .pointer (some ⟨g, 0, none⟩)) rfl (by kernel_rfl) (by kernel_rfl) (by kernel_rfl) (fun _ _ _ h => h) (by rfl) y0 (fun W hW => ?_) ?_
  · (clear hW; go_simp)
  try simp only [Act.put, List.setIfInBounds_toArray, List.set_cons_zero, List.set_cons_succ]
  refine held_run (i := 9) (v := .pointer (some ⟨g, 0, none⟩)) rfl (by kernel_rfl) (by kernel_rfl) (by kernel_rfl) (fun _ _ _ h => h) (by rfl) y0 (fun W hW => ?_) ?_
  · (clear hW; go_simp)
  try simp only [Act.put, List.setIfInBounds_toArray, List.set_cons_zero, List.set_cons_succ]
  refine held_run (i := 10) (v := .pointer (some ⟨g2, 0, none⟩)) rfl (by kernel_rfl) (by kernel_rfl) (by kernel_rfl) (fun _ _ _ h => h) (by rfl) y0 (fun W hW => ?_) ?_
  · (have q0 := HC1.out W hW; clear hW; go_simp)
  try simp only [Act.put, List.setIfInBounds_toArray, List.set_cons_zero, List.set_cons_succ]
  refine held_run (i := 11) (v := .pointer (some ⟨g2, 0, none⟩)) rfl (by kernel_rfl) (by kernel_rfl) (by kernel_rfl) (fun _ _ _ h => h) (by rfl) y0 (fun W hW => ?_) ?_
  · (clear hW; go_simp)
  try simp only [Act.put, List.setIfInBounds_toArray, List.set_cons_zero, List.set_cons_succ]
  refine held_run (i := 12) (v := .pointer (some ⟨g2, 1, none⟩)) rfl (by kernel_rfl) (by kernel_rfl) (by kernel_rfl) (fun _ _ _ h => h) (by rfl) y0 (fun W hW => ?_) ?_
  · (clear hW; go_simp)
  try simp only [Act.put, List.setIfInBounds_toArray, List.set_cons_zero, List.set_cons_succ]
  refine held_run (i := 13) (v := .int .i64 (pn : Int)) rfl (by kernel_rfl) (by kernel_rfl) (by kernel_rfl) (fun _ _ _ h => h) (by rfl) y0 (fun W hW => ?_) ?_
  · (obtain ⟨q0, q1⟩ := HC2.out W hW; clear hW; go_simp)
  try simp only [Act.put, List.setIfInBounds_toArray, List.set_cons_zero, List.set_cons_succ]
  refine held_run (i := 14) (v := .int .i64 (nn : Int)) rfl (by kernel_rfl) (by kernel_rfl) (by kernel_rfl) (fun _ _ _ h => h) (by rfl) y0 (fun W hW => ?_) ?_
  · (clear hW; go_simp)
  try simp only [Act.put, List.setIfInBounds_toArray, List.set_cons_zero, List.set_cons_succ]
  refine held_run (i := 15) (v := .int .i64 (at1 : Int)) rfl (by kernel_rfl) (by kernel_rfl) (by kernel_rfl) (fun _ _ _ h => h) (by rfl) y0 (fun W hW => ?_) ?_
  · (clear hW; go_simp)
  try simp only [Act.put, List.setIfInBounds_toArray, List.set_cons_zero, List.set_cons_succ]
  refine held_run (i := 16) (v := .pointer (some ⟨g, 0, none⟩)) rfl (by kernel_rfl) (by kernel_rfl) (by kernel_rfl) (fun _ _ _ h => h) (by rfl) y0 (fun W hW => ?_) ?_
  · (clear hW; go_simp)
  try simp only [Act.put, List.setIfInBounds_toArray, List.set_cons_zero, List.set_cons_succ]
  refine held_run (i := 17) (v := .pointer (some ⟨g, 0, none⟩)) rfl (by kernel_rfl) (by kernel_rfl) (by kernel_rfl) (fun _ _ _ h => h) (by rfl) y0 (fun W hW => ?_) ?_
  · (clear hW; go_simp)
  try simp only [Act.put, List.setIfInBounds_toArray, List.set_cons_zero, List.set_cons_succ]
  refine held_run (i := 18) (v := .pointer (some ⟨g, 0, none⟩)) rfl (by kernel_rfl) (by kernel_rfl) (by kernel_rfl) (fun _ _ _ h => h) (by rfl) y0 (fun W hW => ?_) ?_
  · (clear hW; go_simp)
  try simp only [Act.put, List.setIfInBounds_toArray, List.set_cons_zero, List.set_cons_succ]
  refine held_run (i := 19) (v := .pointer (some ⟨g2, 0, none⟩)) rfl (by kernel_rfl) (by kernel_rfl) (by kernel_rfl) (fun _ _ _ h => h) (by rfl) y0 (fun W hW => ?_) ?_
  · (have q0 := HC1.out W hW; clear hW; go_simp)
  try simp only [Act.put, List.setIfInBounds_toArray, List.set_cons_zero, List.set_cons_succ]
  refine held_run (i := 20) (v := .pointer (some ⟨g2, 0, none⟩)) rfl (by kernel_rfl) (by kernel_rfl) (by kernel_rfl) (fun _ _ _ h => h) (by rfl) y0 (fun W hW => ?_) ?_
  · (clear hW; go_simp)
  try simp only [Act.put, List.setIfInBounds_toArray, List.set_cons_zero, List.set_cons_succ]
  refine held_run (i := 21) (v := .pointer (some ⟨g2, 1, none⟩)) rfl (by kernel_rfl) (by kernel_rfl) (by kernel_rfl) (fun _ _ _ h => h) (by rfl) y0 (fun W hW => ?_) ?_
  · (clear hW; go_simp)
  try simp only [Act.put, List.setIfInBounds_toArray, List.set_cons_zero, List.set_cons_succ]
  refine held_run (i := 22) (v := .int .i64 (pn : Int)) rfl (by kernel_rfl) (by kernel_rfl) (by kernel_rfl) (fun _ _ _ h => h) (by rfl) y0 (fun W hW => ?_) ?_
  · (obtain ⟨q0, q1⟩ := HC2.out W hW; clear hW; go_simp)
  try simp only [Act.put, List.setIfInBounds_toArray, List.set_cons_zero, List.set_cons_succ]
  refine held_run (i := 23) (v := .slice a' m' k') rfl (by kernel_rfl) (by kernel_rfl) (by kernel_rfl) (fun _ _ _ h => h) (by rfl) y0 (fun W hW => ?_) ?_
  · (clear hW; go_simp)
  try simp only [Act.put, List.setIfInBounds_toArray, List.set_cons_zero, List.set_cons_succ]
  refine held_run (i := 24) (v := .string ⟨((s1.b.take pn).drop at1).toArray⟩) rfl (by kernel_rfl) (by kernel_rfl) (by kernel_rfl) (fun _ _ _ h => h) (by rfl) y0 (fun W hW => ?_) ?_
  · exact exec_convert rfl (conv_str (by have h := HCUT.out.below hW; simpa using h))
  try simp only [Act.put, List.setIfInBounds_toArray, List.set_cons_zero, List.set_cons_succ]
  refine held_run (i := 25) (v := .string ⟨((s1.b.take pn).drop at1).toArray⟩) rfl (by kernel_rfl) (by kernel_rfl) (by kernel_rfl) (fun _ _ _ h => h) (by rfl) y0 (fun W hW => ?_) ?_
  · (clear hW; go_simp)
  try simp only [Act.put, List.setIfInBounds_toArray, List.set_cons_zero, List.set_cons_succ]
  refine wpAnyH_done (by kernel_rfl) ?_ _
  clear y0
  clear cut1 cut2
  go_wp2
  go_ret
  refine ⟨?_, ?_, ?_⟩
  · rw [← HNB.out, ← HAT.out]
    rw [List.drop_take, show pn - at1 = nn by have := HPN.out; omega]
    rfl
  · rw [← HAT.out, ← HPN.out]
    exact HST.out.ext (ext_drew w4)
  exact ((HF1.out.then_ext HXQ.out).trans HFT.out fun q hq => .inl hq).then_ext (ext_drew w4)
theorem wpList_appS {w : World} {ops : Array Oper} {rest : List Oper} {o : Oper} {a : Act} {Q : Exit → Act → World → Prop} (hgd : o.guard = none) (s x : Operand)
    (ho : o.op = .call { callee := .builtin .append, args := #[s, x], argTypes := #[37, 9] })
    (B : Nat) (v : Value) (n : Nat) (d0 : By) (hs : a.eval s = v) (hown : OwnB B w v n d0) (d : By) (hx : a.eval x = .string ⟨d.toArray⟩)
    (hlen : n + d.length ≤ 140737488351232) (hB : B ≤ w.heap.size)
    (h : ∀ g' c' w', OwnB B w' (.slice (some ⟨g', 0, none⟩) (n + d.length) c') (n + d.length) (d0 ++ d) → Below B w w' → wpList Tryz.prog ops Q rest (a.put o.dst (.slice (some ⟨g', 0, none⟩) (n + d.length) c')) w') : wpList Tryz.prog ops Q (o :: rest) a w := by
  obtain ⟨hn, g0, c0, rfl, hr⟩ := hown
  obtain ⟨i, hi, hz, hz1, hz2⟩ := info_parts info_u8
  refine Lib.wpList_append_own_string (w := w) hgd s x _ _ ho B 5 i Tryz.underlying37 Tryz.underlying9 hi hz hz1 hz2 _ n _ hs hr ⟨d.toArray⟩ hx (by show n + d.toArray.size ≤ _; rw [List.size_toArray]; unfold maxLen; omega) (by show n + d.toArray.size ≤ _; rw [List.size_toArray]; omega) hB fun v' w' h2 h3 h4 => ?_
  have hne : v' ≠ .slice none 0 0 := fun e => by have := (h4.1 e).1; cases this
  have hsz : (⟨d.toArray⟩ : ByteArray).size = d.length := List.size_toArray ..
  have hsc : Lib.strCells ⟨d.toArray⟩ = u8s d := by simp [Lib.strCells, u8s]
  rw [hsz, hsc] at h2
  rcases h2.2 with ⟨e, -⟩ | ⟨g', cap, cur, rfl, hb, -⟩
  · exact absurd e hne
  refine h g' cap w' ⟨by simp [hn], g', cap, rfl, by simpa [u8s] using h2⟩ ?_
  exact (Below.refl _ _).grown h3 hB fun q hq => (hr.lt q hq).1
theorem Text_any {F : Nat → Prop} {w : World} {a : Option Addr} {bn bc : Nat} {b d : By} (hb : ByF F w a bn bc b) (hb24 : bn ≤ 1000000000) (hd : d.length ≤ 1000000000) :
    Calls Tryz.prog 119 #[.slice a bn bc, .string ⟨d.toArray⟩] w (BytesPost (b ++ (numS (d.length : Int) ++ d)) w) := by
  have HN := hid (Number_any hb hb24 (d.length : Int) ⟨by omega, by omega⟩)
  have hbn := hb.1
  have h9 : (numS (d.length : Int)).length ≤ 9 := by unfold numS; exact (numB_len _).2
  have HB := hid hbn
  have H9 := hid h9
  clear hb hbn h9
  go_enter Tryz.func119, Tryz.ntmps119
  go_wp2_with fail
  refine Calls.mono HN.out ?_
  rintro e w1 ⟨g1, n1, c1, rfl, ho1, hx1⟩
  have HO := hid ho1
  have HX := hid hx1
  clear ho1 hx1
  go_wp2_with (at_builtin; refine wpList_appS rfl (.tmp 8) (.tmp 9) rfl w.heap.size _ n1 _ rfl HO.out d rfl (by have h1 := HO.out.1; have h2 := HB.out; have h3 := H9.out; rw [List.length_append] at h1; omega) HX.out.size ?_; intro g2 c2 w2 ho2 hx2; have HO2 := hid ho2; have HX2 := hid (HX.out.trans hx2); clear ho2 hx2)
  go_ret
  exact ⟨g2, _, c2, rfl, by rw [← List.append_assoc]; exact HO2.out, HX2.out⟩
end Go.Proofs.YtikjckdoldiddaaGreatDoor

/- A view in memory; the walks of its small calls. Printed by gen_wt3.py. -/
namespace Go.Proofs.YtikjckdoldiddaaGreatDoor
open Go.RowKit Go.Maps
set_option linter.unusedVariables false
set_option linter.unusedSimpArgs false
attribute [local go_sem] bmax2 bmin2 bmax_two bmin_two

/-- A view that may be read. -/
structure VwAt (F : Nat → Prop) (w : World) (g : Nat) (v : Wv) (la : Option Addr) (ln lc : Nat) : Prop where
  c0 : w.cell? ⟨g, 0, none⟩ = some (.int .i64 v.ht)
  c1 : w.cell? ⟨g, 1, none⟩ = some (.int .i64 v.hv)
  c2 : w.cell? ⟨g, 2, none⟩ = some (.int .i64 v.i)
  c3 : w.cell? ⟨g, 3, none⟩ = some (.int .i64 v.t)
  c4 : w.cell? ⟨g, 4, none⟩ = some (.slice la ln lc)
  es : EsF F w la ln lc v.l
  i64 : In64 v.ht ∧ In64 v.hv ∧ In64 v.i ∧ In64 v.t
  big : -1099511627776 ≤ v.i ∧ v.i ≤ 1099511627776
  many : v.l.length ≤ 100000000
theorem VwAt.below {F : Nat → Prop} {w w' : World} {g : Nat} {v : Wv} {la : Option Addr} {ln lc : Nat} (h : VwAt F w g v la ln lc) (hx : Ext w w') : VwAt F w' g v la ln lc := by
  have hg := World.block_lt_of_cell? w _ h.c0
  have hc : ∀ j, w'.cell? ⟨g, j, none⟩ = w.cell? ⟨g, j, none⟩ := fun j => hx.cell (p := ⟨g, j, none⟩) hg
  exact ⟨(hc _).trans h.c0, (hc _).trans h.c1, (hc _).trans h.c2, (hc _).trans h.c3, (hc _).trans h.c4, h.es.below hx, h.i64, h.big, h.many⟩
theorem VwAt.ln {F : Nat → Prop} {w : World} {g : Nat} {v : Wv} {la : Option Addr} {ln lc : Nat} (h : VwAt F w g v la ln lc) : ln = v.l.length := h.es.1
theorem within_any (w : World) (n lo : Int) :
    Calls Tryz.prog 74 #[.int .i64 n, .int .i64 lo] w (fun e w' => e = .returned (.bool (withinS n lo)) ∧ w' = w) := by
  unfold withinS
  by_cases h1 : lo ≤ n
  · have hd1 : decide (lo ≤ n) = true := by simpa using h1
    rw [hd1]
    cases hd2 : decide (n ≤ 1099511627776) with
    | true =>
      clear h1
      go_enter Tryz.func74, Tryz.ntmps74
      go_wp2
      go_ret
      exact ⟨rfl, rfl⟩
    | false =>
      clear h1
      go_enter Tryz.func74, Tryz.ntmps74
      go_wp2
      go_ret
      exact ⟨rfl, rfl⟩
  have hd1 : decide (lo ≤ n) = false := by simpa using h1
  rw [hd1]
  clear h1
  go_enter Tryz.func74, Tryz.ntmps74
  go_wp2
  go_ret
  exact ⟨rfl, rfl⟩
theorem last_any {F : Nat → Prop} {w : World} {g : Nat} {v : Wv} {la : Option Addr} {ln lc : Nat} (h : VwAt F w g v la ln lc) :
    Calls Tryz.prog 72 #[.pointer (some ⟨g, 0, none⟩)] w (fun e w' => e = .returned (.int .i64 v.last) ∧ ∃ q, w' = w.drewN q) := by
  obtain ⟨-, -, c2, -, c4, es, -, big, many⟩ := h
  unfold Wv.last
  obtain ⟨big1, big2⟩ := big
  have hln := es.1
  have hw : IntKind.i64.wrap (v.i + (ln : Int)) = v.i + (ln : Int) := IntWalk.i64_in _ ⟨by omega, by omega⟩
  rw [← hln]
  clear es hln many
  go_enter Tryz.func72, Tryz.ntmps72
  go_wp2
  refine wp_region_quiet_lit (by kernel_rfl) (by kernel_rfl) ?_
  repeat (any_goals (first | go_big_quiet_step (fail) | quiet_step (fail)))
  refine wpQuiet_nil ?_
  intro wq hwq
  obtain ⟨nq, hwq⟩ := hwq
  subst hwq
  go_wp2
  go_ret
  exact ⟨rfl, _, rfl⟩
theorem at_any {F : Nat → Prop} {w : World} {g : Nat} {v : Wv} {la : Option Addr} {ln lc : Nat} (h : VwAt F w g v la ln lc) (i : Int) (hi : In64 i) :
    Calls Tryz.prog 75 #[.pointer (some ⟨g, 0, none⟩), .int .i64 i] w (fun e w' => e = .returned (.int .i64 (v.at_ i)) ∧ ∃ q, w' = w.drewN q) := by
  have HLA := hid (last_any h)
  have HV := hid h
  obtain ⟨-, -, c2, c3, c4, es, -, big, many⟩ := h
  have hln := es.1
  have HES := hid es
  obtain ⟨hi1, hi2⟩ := hi
  obtain ⟨big1, big2⟩ := big
  clear es
  unfold Wv.at_
  by_cases h1 : i = v.i
  · rw [if_pos h1]
    subst h1
    have hb : (v.i == v.i) = true := by simp
    clear hln many
    go_enter Tryz.func75, Tryz.ntmps75
    go_wp2
    go_ret
    exact ⟨rfl, 0, rfl⟩
  rw [if_neg h1]
  have hb : (i == v.i) = false := by simpa using h1
  clear h1
  by_cases h2 : i < v.i
  · rw [if_pos (.inl h2)]
    have hb2 : decide (i < v.i) = true := by simpa using h2
    clear h2 hln many
    go_enter Tryz.func75, Tryz.ntmps75
    go_wp2
    go_ret
    exact ⟨rfl, 0, rfl⟩
  have hb2 : decide (i < v.i) = false := by simpa using h2
  by_cases h3 : v.last < i
  · rw [if_pos (.inr h3)]
    have hb3 : decide (v.last < i) = true := by simpa using h3
    obtain ⟨z, hz⟩ : ∃ z, z = v.last := ⟨_, rfl⟩
    rw [← hz] at HLA hb3
    clear h2 h3 hz hln many
    go_enter Tryz.func75, Tryz.ntmps75
    go_wp2_with fail
    refine Calls.mono HLA.out ?_
    rintro e w1 ⟨rfl, q, rfl⟩
    go_wp2
    go_ret
    exact ⟨rfl, q, rfl⟩
  rw [if_neg (by omega)]
  have hb3 : decide (v.last < i) = false := by simpa using h3
  unfold Wv.last at h3
  obtain ⟨k, hk⟩ : ∃ k : Nat, i - v.i = (k : Int) := ⟨(i - v.i).toNat, by omega⟩
  have hk1 : k ≠ 0 := fun e => by subst e; simp at hb; omega
  obtain ⟨j, rfl⟩ : ∃ j, k = j + 1 := ⟨k - 1, by omega⟩
  have hjl : j < ln := by omega
  obtain ⟨b, ob, rfl, -, hbl, hlk, -, -, -, q1, -⟩ := HES.out.at_ hjl
  have htn : (i - v.i - 1).toNat = j := by omega
  rw [htn, List.getElem?_eq_getElem hlk]
  show Calls _ _ _ _ (fun e w' => e = .returned (.int .i64 (v.l[j]).t) ∧ _)
  have hw1 : IntKind.i64.wrap (i - v.i) = ((j + 1 : Nat) : Int) := by rw [IntWalk.i64_in _ ⟨by omega, by omega⟩]; exact hk
  have hw2 : IntKind.i64.wrap (((j + 1 : Nat) : Int) - 1) = (j : Int) := by rw [IntWalk.i64_in _ ⟨by omega, by omega⟩]; omega
  have hj0 : (0 : Int) ≤ (j : Int) := by omega
  have hj1 : (j : Int) < (ln : Int) := by omega
  obtain ⟨jj, hjj⟩ : ∃ jj : Int, jj = ((j + 1 : Nat) : Int) := ⟨_, rfl⟩
  rw [← hjj] at hw1 hw2
  obtain ⟨z, hz⟩ : ∃ z, z = v.last := ⟨_, rfl⟩
  rw [← hz] at HLA hb3
  obtain ⟨tt, htt⟩ : ∃ tt, tt = (v.l[j]).t := ⟨_, rfl⟩
  rw [← htt] at q1 ⊢
  clear h2 h3 hz hln many hk hk1 hjj htn htt hi1 hi2 big1 big2 hjl
  go_enter Tryz.func75, Tryz.ntmps75
  go_wp2_with fail
  refine Calls.mono HLA.out ?_
  rintro e w1 ⟨rfl, q, hw⟩
  have d2 : w1.cell? ⟨g, 2, none⟩ = some (.int .i64 v.i) := by rw [hw]; exact c2
  have d4 : w1.cell? ⟨g, 4, none⟩ = some (.slice (some ⟨b, ob, none⟩) ln lc) := by rw [hw]; exact c4
  have d1 : w1.cell? ⟨b, ob + j * 3 + 1, none⟩ = some (.int .i64 tt) := by rw [hw]; exact q1
  have HW := hid hw
  clear hw c2 c3 c4 q1
  go_wp2
  refine wp_region_quiet_lit (by kernel_rfl) (by kernel_rfl) ?_
  repeat (any_goals (first | go_big_quiet_step (fail) | quiet_step (fail)))
  refine wpQuiet_nil ?_
  intro wq hwq
  obtain ⟨nq, hwq⟩ := hwq
  subst hwq
  go_wp2
  go_ret
  exact ⟨rfl, q + nq, by rw [HW.out]; exact World.drewN_drewN ..⟩
end Go.Proofs.YtikjckdoldiddaaGreatDoor
