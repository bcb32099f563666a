/- The walk of Put. -/
import Derived.Test.YtikjckdoldiddaaGreatDoorC20
import Derived.Test.YtikjckdoldiddaaGreatDoorC17
import Derived.Test.YtikjckdoldiddaaGreatDoorC18
namespace Go.Proofs.YtikjckdoldiddaaGreatDoor
open Go.RowKit Go.Maps
set_option linter.unusedVariables false
set_option linter.unusedSimpArgs false
attribute [local go_sem] bmax2 bmin2 bmax_two bmin_two

def Lo.setH (v : Lo) (t x : Int) : Lo := ⟨⟨⟨t, x, v.s.v.i, v.s.v.t, v.s.v.l⟩, v.s.fr, v.s.tt, v.s.sz⟩, v.d⟩
def Lo.hard (v : Lo) (t x : Int) : Int × Lo :=
  if goodHS t x = true then (if (v.write (hardB t x)).1 = 0 then (0, (v.write (hardB t x)).2.setH t x) else v.write (hardB t x)) else (1, v)
theorem LoAt.set2 {A : Nat → Prop} {w : World} {g dg : Nat} {v : Lo} (h : LoAt A w g dg v) (t x : Int) :
    LoAt A ((w.setCell ⟨g, 0, none⟩ (.int .i64 t)).setCell ⟨g, 1, none⟩ (.int .i64 x)) g dg (v.setH t x) ∧
      Frm (fun q => q = g) w ((w.setCell ⟨g, 0, none⟩ (.int .i64 t)).setCell ⟨g, 1, none⟩ (.int .i64 x)) ∧
      ((w.setCell ⟨g, 0, none⟩ (.int .i64 t)).setCell ⟨g, 1, none⟩ (.int .i64 x)).heap.size = w.heap.size := by
  obtain ⟨D, G, h1, h2, h3, h4, h5, h6⟩ := h
  obtain ⟨la, ln, lc, o1, o2⟩ := h2
  have hS := ((SetG.start o1).step 0 (.int .i64 t)).step 1 (.int .i64 x)
  refine ⟨⟨D, G, h1.frm hS.frm fun q hq e => (h3 q hq).2.1 e, ⟨la, ln, lc, hS.obj, o2.keep fun q hq hl => ⟨hq, hS.frm.block q hl fun e => (h4 q hq).2 e⟩⟩, h3, h4, h5, fun q hq => ?_⟩, hS.frm, hS.size⟩
  rw [hS.size]; exact h6 q hq
theorem LoAt.cells {A : Nat → Prop} {w : World} {g dg : Nat} {v : Lo} (h : LoAt A w g dg v) : ∃ x0 x1 x2 x3 x4, w.heap[g]? = some (.cells #[x0, x1, x2, x3, x4, .pointer (some ⟨dg, 0, none⟩), .int .i64 (v.s.fr : Int), .int .i64 (v.s.tt : Int), .int .i64 (v.s.sz : Int)] 64 (0, 0)) := by
  obtain ⟨D, G, h1, h2, h3, h4, h5, h6⟩ := h
  exact h2.nine
theorem hardB_le (t x : Int) : (hardB t x).length ≤ 100 := by
  have h1 := recB_le (payB [1, t, x] false [])
  have h2 : (payB [1, t, x] false []).length ≤ 27 := by
    have e : payB [1, t, x] false [] = numS 1 ++ (numS t ++ (numS x ++ [])) := rfl
    rw [e, List.length_append, List.length_append, List.length_append]
    have a1 : (numS 1).length ≤ 9 := by unfold numS; exact (numB_len _).2
    have a2 : (numS t).length ≤ 9 := by unfold numS; exact (numB_len _).2
    have a3 : (numS x).length ≤ 9 := by unfold numS; exact (numB_len _).2
    simp only [List.length_nil]; omega
  have e : hardB t x = recB (payB [1, t, x] false []) := rfl
  rw [e]; omega
set_option maxRecDepth 100000 in
set_option maxHeartbeats 4000000 in
theorem LPut_any {A : Nat → Prop} {w : World} {g dg : Nat} {v : Lo} (h : LoAt A w g dg v) (hok : v.d.Ok) (hc : v.d.acts.length ≤ 1000000000) (htt : v.s.tt < 100000000000) (hsz : v.s.sz ≤ 100000000000000) (hT : TabP w) (hpow : ¬ A powG) (t x : Int) (ht : In64 t) (hx : In64 x) :
    Calls Tryz.prog 24 #[.pointer (some ⟨g, 0, none⟩), .agg #[.int .i64 t, .int .i64 x]] w (LoPost A g dg (v.hard t x) w) := by
  have hx0 := ext_alloc w (.cells #[.int .i64 t, .int .i64 x] 39)
  have hn0 := heap_alloc_new w (.cells #[.int .i64 t, .int .i64 x] 39)
  have hz0 : (w.alloc (.cells #[.int .i64 t, .int .i64 x] 39)).heap.size = w.heap.size + 1 := World.size_alloc ..
  have HX0 := hid hx0
  have HN0 := hid hn0
  have HZ0 := hid hz0
  have HLA := hid h
  obtain ⟨z0, z1, z2, z3, z4, hobj⟩ := h.cells
  have HM := hid (fun W (hW : Ext w W) => lmade_any (w := W) (g := g) (dg := dg) (((cells9 ((hW.block g (Array.getElem?_eq_some_iff.1 hobj).1).trans hobj)).1).2.2.2.2.2.1))
  have HGH := hid (fun W => goodH_any W t x)
  have HHR := hid (fun W => hardR_any W t x ht hx)
  have hle := hardB_le t x
  have HWR := hid (fun W (hW : Ext w W) {F : Nat → Prop} {ba : Option Addr} {bn bc : Nat} (hb : ByF F W ba bn bc (hardB t x)) => write_any (h.below hW) hok hc htt hsz hb (by omega) (hT.ext hW) hpow)
  obtain ⟨r, hr⟩ : ∃ r, r = v.hard t x := ⟨_, rfl⟩
  rw [← hr]
  unfold Lo.hard at hr
  obtain ⟨H, hH⟩ : ∃ H, H = hardB t x := ⟨_, rfl⟩
  rw [← hH] at hr HHR HWR hle
  obtain ⟨q, hq⟩ : ∃ q, q = v.write H := ⟨_, rfl⟩
  rw [← hq] at hr HWR
  have HR := hid hr
  have HLE := hid hle
  clear hx0 hn0 hz0 h hobj hok hc htt hsz hT hpow ht hx hle hr hH hq
  cases hg : goodHS t x with
  | false =>
    rw [hg] at HGH HR
    have HR2 := hid (HR.out.trans (if_neg (by simp)))
    clear hg HR
    go_enter Tryz.func24, Tryz.ntmps24
    go_wp2_with fail
    generalize w.alloc (.cells #[.int .i64 t, .int .i64 x] 39) = w1 at *
    refine Calls.mono (HM.out w1 HX0.out) ?_
    rintro e w2 ⟨rfl, rfl⟩
    obtain ⟨c0, c1⟩ := gcells2 HN0.out
    have cl := (Array.getElem?_eq_some_iff.1 HN0.out).1
    go_wp2_with fail
    refine Calls.mono (HGH.out w2) ?_
    rintro e w3 ⟨rfl, hx3⟩
    have HX3 := hid (HX0.out.trans' hx3)
    clear hx3
    go_wp2
    go_ret
    rw [HR2.out]
    exact HLA.out.same HX3.out 1
  | true =>
    rw [hg] at HGH HR
    have HR2 := hid (HR.out.trans (if_pos rfl))
    clear hg HR
    have HPL := hid HLA.out.lt
    obtain ⟨q1, q2⟩ := q
    dsimp only at HWR HR2
    go_enter Tryz.func24, Tryz.ntmps24
    go_wp2_with fail
    generalize w.alloc (.cells #[.int .i64 t, .int .i64 x] 39) = w1 at *
    obtain ⟨p, hp⟩ : ∃ p, p = w.heap.size := ⟨_, rfl⟩
    rw [← hp] at HN0 ⊢
    have HAP := hid (show ¬ A p from fun h => by have := HPL.out p h; omega)
    clear hp
    refine Calls.mono (HM.out w1 HX0.out) ?_
    rintro e w2 ⟨rfl, rfl⟩
    obtain ⟨c0, c1⟩ := gcells2 HN0.out
    have cl := (Array.getElem?_eq_some_iff.1 HN0.out).1
    go_wp2_with fail
    refine Calls.mono (HGH.out w2) ?_
    rintro e w3 ⟨rfl, hx3⟩
    have HX3 := hid (HX0.out.trans' hx3)
    have HN3 := hid ((hx3.block p cl).trans HN0.out)
    clear hx3 c0 c1 cl
    obtain ⟨c0, c1⟩ := gcells2 HN3.out
    have cl := (Array.getElem?_eq_some_iff.1 HN3.out).1
    go_wp2_with fail
    refine Calls.mono (HHR.out w3) ?_
    rintro e w4 ⟨g4, n4, k4, rfl, ho4, hx4⟩
    have HX4 := hid (HX3.out.trans' hx4)
    have HN4 := hid ((hx4.block p cl).trans HN3.out)
    have HW := hid (HWR.out w4 HX4.out (ho4.any (by have h1 := ho4.1; have h2 := HLE.out; omega)))
    clear ho4 hx4 c0 c1 cl
    go_wp2_with fail
    refine Calls.mono HW.out ?_
    rintro e w5 ⟨rfl, hl5, hf5⟩
    dsimp only at hl5
    have HN5 := hid ((hf5.block p (Array.getElem?_eq_some_iff.1 HN4.out).1 HAP.out).trans HN4.out)
    have hl5b : LoAt (Go.Proofs.YtikjckdoldiddaaGreatDoor.grow A w w5) w5 g dg q2 := hl5.more (fun q hq => by rcases hq with hq | hq; exact .inl hq; exact .inr ⟨by have := HX4.out.size; have := hq.1; omega, hq.2⟩) fun q hq => by
      rcases hq with hq | hq
      · exact hl5.lt q (.inl hq)
      exact hq.2
    have HL5 := hid hl5b
    have HF5 := hid (show Frm A w w5 from Frm.after_ext HX4.out hf5)
    have HGA := hid (show g < w.heap.size ∧ A g from by obtain ⟨D, G, -, -, -, -, h5, h6⟩ := HLA.out; exact ⟨h6 g h5, h5⟩)
    clear hl5 hf5 hl5b HW
    by_cases hq1 : q1 = 0
    · subst hq1
      have hr2 := HR2.out
      rw [if_pos rfl] at hr2
      have HR3 := hid hr2
      obtain ⟨c0, c1⟩ := gcells2 HN5.out
      have cl := (Array.getElem?_eq_some_iff.1 HN5.out).1
      obtain ⟨z0, z1, z2, z3, z4, hobj⟩ := HL5.out.cells
      obtain ⟨⟨e0, e1, -⟩, efz, gl⟩ := cells9 hobj
      have f0 := efz 0
      have f1 := efz 1
      have HS := hid (HL5.out.set2 t x)
      clear hr2 HR2 hobj efz
      go_wp2
      go_ret
      rw [HR3.out]
      refine ⟨rfl, ?_, HF5.out.trans HS.out.2.1 fun q hq => .inl (by rw [show q = g from hq]; exact HGA.out.2)⟩
      exact HS.out.1.more (fun q hq => by rcases hq with hq | hq; exact .inl hq; exact .inr ⟨hq.1, by rw [HS.out.2.2]; exact hq.2⟩) fun q hq => by
        rw [HS.out.2.2]
        rcases hq with hq | hq
        · exact HL5.out.lt q (.inl hq)
        rw [HS.out.2.2] at hq; exact HL5.out.lt q (.inr hq)
    have hb : (q1 == 0) = false := by simpa using hq1
    have hr2 := HR2.out
    rw [if_neg hq1] at hr2
    have HR3 := hid hr2
    clear hr2 HR2 hq1
    go_wp2
    go_ret
    rw [HR3.out]
    exact ⟨rfl, HL5.out, HF5.out⟩
end Go.Proofs.YtikjckdoldiddaaGreatDoor

/- The walk of Base. Printed by gen_wv1.py. -/
namespace Go.Proofs.YtikjckdoldiddaaGreatDoor
open Go.RowKit Go.Maps
set_option linter.unusedVariables false
set_option linter.unusedSimpArgs false
attribute [local go_sem] bmax2 bmin2 bmax_two bmin_two

theorem LgB.nine2 {F : Nat → Prop} {w : World} {g : Nat} {dp : Value} {v : Wv} {fr tt sz : Nat} (h : LgB F w g dp v fr tt sz) :
    w.cell? ⟨g, 0, none⟩ = some (.int .i64 v.ht) ∧ w.cell? ⟨g, 1, none⟩ = some (.int .i64 v.hv) ∧ w.cell? ⟨g, 2, none⟩ = some (.int .i64 v.i) ∧ w.cell? ⟨g, 3, none⟩ = some (.int .i64 v.t) := by
  obtain ⟨la, ln, lc, h1, h2⟩ := h
  obtain ⟨⟨c0, c1, c2, c3, -⟩, -, -⟩ := cells9 h1
  exact ⟨c0, c1, c2, c3⟩
set_option maxRecDepth 100000 in
set_option maxHeartbeats 4000000 in
theorem LBase_any {A : Nat → Prop} {w : World} {g dg : Nat} {v : Lo} (h : LoAt A w g dg v) :
    Calls Tryz.prog 31 #[.pointer (some ⟨g, 0, none⟩)] w (fun e w' => e = .returned (.tuple #[.int .i64 v.s.v.i, .int .i64 v.s.v.t]) ∧ Ext w w') := by
  obtain ⟨D, G, -, h2, -⟩ := h
  have HM := hid (lmade_any h2.cells.1)
  have HC := hid (fun W (hW : Ext w W) => (h2.below hW).nine2)
  obtain ⟨⟨⟨vht, vhv, vi, vt, vl⟩, fr, tt, sz⟩, d⟩ := v
  dsimp only at *
  clear h2
  go_enter Tryz.func31, Tryz.ntmps31
  go_wp2_with fail
  refine Calls.mono HM.out ?_
  rintro e w1 ⟨rfl, rfl⟩
  go_wp2
  have y0 : Ext w1 w1.drew := ext_drew w1
  refine wp_region_held_drew (S := fun W => Ext w1 W) (by kernel_rfl) y0 (fun hH => ?_)
  clear hH
  refine held_run (i := 0) (v := .pointer (some ⟨g, 0, none⟩)) rfl (by kernel_rfl) (by kernel_rfl) (by kernel_rfl) (fun _ _ _ h => h) (by rfl) y0 (fun W hW => ?_) ?_
  · (clear hW; go_simp)
  try simp only [Act.put, List.setIfInBounds_toArray, List.set_cons_zero, List.set_cons_succ]
  refine held_run (i := 1) (v := .pointer (some ⟨g, 0, none⟩)) rfl (by kernel_rfl) (by kernel_rfl) (by kernel_rfl) (fun _ _ _ h => h) (by rfl) y0 (fun W hW => ?_) ?_
  · (clear hW; go_simp)
  try simp only [Act.put, List.setIfInBounds_toArray, List.set_cons_zero, List.set_cons_succ]
  refine held_run (i := 2) (v := .pointer (some ⟨g, 0, none⟩)) rfl (by kernel_rfl) (by kernel_rfl) (by kernel_rfl) (fun _ _ _ h => h) (by rfl) y0 (fun W hW => ?_) ?_
  · (clear hW; go_simp)
  try simp only [Act.put, List.setIfInBounds_toArray, List.set_cons_zero, List.set_cons_succ]
  refine held_run (i := 3) (v := .pointer (some ⟨g, 2, none⟩)) rfl (by kernel_rfl) (by kernel_rfl) (by kernel_rfl) (fun _ _ _ h => h) (by rfl) y0 (fun W hW => ?_) ?_
  · (clear hW; go_simp)
  try simp only [Act.put, List.setIfInBounds_toArray, List.set_cons_zero, List.set_cons_succ]
  refine held_run (i := 4) (v := .int .i64 vi) rfl (by kernel_rfl) (by kernel_rfl) (by kernel_rfl) (fun _ _ _ h => h) (by rfl) y0 (fun W hW => ?_) ?_
  · (obtain ⟨c0, c1, c2, c3⟩ := HC.out W hW; clear hW; go_simp)
  try simp only [Act.put, List.setIfInBounds_toArray, List.set_cons_zero, List.set_cons_succ]
  refine held_run (i := 5) (v := .pointer (some ⟨g, 0, none⟩)) rfl (by kernel_rfl) (by kernel_rfl) (by kernel_rfl) (fun _ _ _ h => h) (by rfl) y0 (fun W hW => ?_) ?_
  · (clear hW; go_simp)
  try simp only [Act.put, List.setIfInBounds_toArray, List.set_cons_zero, List.set_cons_succ]
  refine held_run (i := 6) (v := .pointer (some ⟨g, 0, none⟩)) rfl (by kernel_rfl) (by kernel_rfl) (by kernel_rfl) (fun _ _ _ h => h) (by rfl) y0 (fun W hW => ?_) ?_
  · (clear hW; go_simp)
  try simp only [Act.put, List.setIfInBounds_toArray, List.set_cons_zero, List.set_cons_succ]
  refine held_run (i := 7) (v := .pointer (some ⟨g, 0, none⟩)) rfl (by kernel_rfl) (by kernel_rfl) (by kernel_rfl) (fun _ _ _ h => h) (by rfl) y0 (fun W hW => ?_) ?_
  · (clear hW; go_simp)
  try simp only [Act.put, List.setIfInBounds_toArray, List.set_cons_zero, List.set_cons_succ]
  refine held_run (i := 8) (v := .pointer (some ⟨g, 3, none⟩)) rfl (by kernel_rfl) (by kernel_rfl) (by kernel_rfl) (fun _ _ _ h => h) (by rfl) y0 (fun W hW => ?_) ?_
  · (clear hW; go_simp)
  try simp only [Act.put, List.setIfInBounds_toArray, List.set_cons_zero, List.set_cons_succ]
  refine held_run (i := 9) (v := .int .i64 vt) rfl (by kernel_rfl) (by kernel_rfl) (by kernel_rfl) (fun _ _ _ h => h) (by rfl) y0 (fun W hW => ?_) ?_
  · (obtain ⟨c0, c1, c2, c3⟩ := HC.out W hW; clear hW; go_simp)
  try simp only [Act.put, List.setIfInBounds_toArray, List.set_cons_zero, List.set_cons_succ]
  refine held_run (i := 10) (v := .int .i64 vi) rfl (by kernel_rfl) (by kernel_rfl) (by kernel_rfl) (fun _ _ _ h => h) (by rfl) y0 (fun W hW => ?_) ?_
  · (clear hW; go_simp)
  try simp only [Act.put, List.setIfInBounds_toArray, List.set_cons_zero, List.set_cons_succ]
  refine held_run (i := 11) (v := .int .i64 vt) rfl (by kernel_rfl) (by kernel_rfl) (by kernel_rfl) (fun _ _ _ h => h) (by rfl) y0 (fun W hW => ?_) ?_
  · (clear hW; go_simp)
  try simp only [Act.put, List.setIfInBounds_toArray, List.set_cons_zero, List.set_cons_succ]
  refine wpAnyH_done (by kernel_rfl) ?_ _
  go_wp2
  go_ret2
  exact ⟨rfl, ext_drew w1⟩
end Go.Proofs.YtikjckdoldiddaaGreatDoor

/- The walk of Hard. -/
namespace Go.Proofs.YtikjckdoldiddaaGreatDoor
open Go.RowKit Go.Maps
set_option linter.unusedVariables false
set_option linter.unusedSimpArgs false
attribute [local go_sem] bmax2 bmin2 bmax_two bmin_two

theorem frozen2 {W : World} {b : Nat} {x0 x1 : Value} {t : TypeId} (h : W.heap[b]? = some (.cells #[x0, x1] t (0, 0))) : W.frozen? ⟨b, 0, none⟩ = false ∧ W.frozen? ⟨b, 1, none⟩ = false ∧ b < W.heap.size := ⟨by simp [World.frozen?, h], by simp [World.frozen?, h], (Array.getElem?_eq_some_iff.1 h).1⟩
set_option maxRecDepth 100000 in
set_option maxHeartbeats 4000000 in
theorem LHard_any {A : Nat → Prop} {w : World} {g dg : Nat} {v : Lo} (h : LoAt A w g dg v) :
    Calls Tryz.prog 33 #[.pointer (some ⟨g, 0, none⟩)] w (fun e w' => e = .returned (.agg #[.int .i64 v.s.v.ht, .int .i64 v.s.v.hv]) ∧ Ext w w') := by
  obtain ⟨D, G, -, h2, -⟩ := h
  have HM := hid (fun W (hW : Ext w W) => lmade_any (h2.below hW).cells.1)
  have HC := hid (fun W (hW : Ext w W) => (h2.below hW).nine2)
  have HGL := hid h2.lt
  obtain ⟨⟨⟨vht, vhv, vi, vt, vl⟩, fr, tt, sz⟩, d⟩ := v
  dsimp only at *
  clear h2
  have hx0 := ext_alloc w (.cells #[.int .i64 0, .int .i64 0] 39)
  have hn0 := heap_alloc_new w (.cells #[.int .i64 0, .int .i64 0] 39)
  have HX0 := hid hx0
  have HN0 := hid hn0
  clear hx0 hn0
  go_enter Tryz.func33, Tryz.ntmps33
  go_wp2_with fail
  generalize w.alloc (.cells #[.int .i64 0, .int .i64 0] 39) = w1 at *
  obtain ⟨p, hp⟩ : ∃ p, p = w.heap.size := ⟨_, rfl⟩
  rw [← hp] at HN0 ⊢
  have HP := hid hp
  clear hp
  refine Calls.mono (HM.out w1 HX0.out) ?_
  rintro e w2 ⟨rfl, rfl⟩
  obtain ⟨c0, c1, -, -⟩ := HC.out w2 HX0.out
  obtain ⟨d0, d1⟩ := gcells2 HN0.out
  obtain ⟨f0, f1, pl⟩ := frozen2 HN0.out
  have HS := hid (((SetG.start HN0.out).step 0 (.int .i64 vht)).step 1 (.int .i64 vhv))
  go_wp2
  refine bodyPost_ret_by (results_cell_row rfl _ _ p _ _ _ (Tryz.prog.underlying 39).get! rfl HS.out.obj (by kernel_rfl) (by kernel_rfl) (by kernel_rfl)) rfl ⟨rfl, ext_frm HX0.out HS.out.frm fun q hq => ?_⟩
  rw [show q = p from hq, HP.out]
  exact Nat.le_refl _
end Go.Proofs.YtikjckdoldiddaaGreatDoor

/- The walks of the calls of a log that no call made. -/
namespace Go.Proofs.YtikjckdoldiddaaGreatDoor
open Go.RowKit Go.Maps
set_option linter.unusedVariables false
set_option linter.unusedSimpArgs false
attribute [local go_sem] bmax2 bmin2 bmax_two bmin_two

/-- A log that no call made. -/
def Unmade (w : World) (p : Option Addr) : Prop := p = none ∨ ∃ g, p = some ⟨g, 0, none⟩ ∧ w.cell? ⟨g, 5, none⟩ = some (.pointer none)
theorem Unmade.ext {w w' : World} {p : Option Addr} (h : Unmade w p) (hx : Ext w w') : Unmade w' p := by
  rcases h with h | ⟨g, h1, h2⟩
  · exact .inl h
  exact .inr ⟨g, h1, (hx.cell (p := ⟨g, 5, none⟩) (World.block_lt_of_cell? w _ h2)).trans h2⟩
end Go.Proofs.YtikjckdoldiddaaGreatDoor

/- Plain: how many records a file may hold; a log's disk and its files' sizes. -/
namespace Go.Proofs.YtikjckdoldiddaaGreatDoor
open Go.RowKit Go.Maps
set_option linter.unusedVariables false
set_option linter.unusedSimpArgs false

/-- A record has five bytes at least. -/
theorem rowsB_five : ∀ (m : Nat) (b : By), b.length ≤ m → 5 * (rowsB b).1.length ≤ b.length := by
  intro m
  induction m with
  | zero =>
    intro b h
    rw [rowsB_eq]
    split
    · simp
    rename_i h2
    have h3 := pickB_ok (Decidable.of_not_not h2)
    omega
  | succ m ih =>
    intro b h
    rw [rowsB_eq]
    split
    · simp
    rename_i h2
    obtain ⟨h3, h4⟩ := pickB_ok (Decidable.of_not_not h2)
    have h5 := ih (b.drop (pickB b).2.1) (by rw [List.length_drop]; omega)
    rw [List.length_drop] at h5
    simp only [List.length_cons]
    omega
theorem segR_five (d : DS) (n : Nat) : 5 * (segR d n).length ≤ (segB d n).length := rowsB_five _ _ (Nat.le_refl _)
theorem sumR_five (d : DS) : ∀ (l : List Nat), 5 * sumR d l ≤ (l.map fun n => (segB d n).length).sum := by
  intro l
  induction l with
  | nil => exact Nat.le_refl _
  | cons n r ih =>
    have h := segR_five d n
    rw [sumR_cons, List.map_cons, List.sum_cons]
    omega
/-- The files' sizes, all together. -/
theorem tTot_names {T : Tab} (h : tRise T) : ∀ (R : Tab), (∀ p ∈ R, tGet T p.1 = some p.2) → (R.map fun p => (tOld T p.1).length).sum = tTot R := by
  intro R
  induction R with
  | nil => intro _; rfl
  | cons p R ih =>
    intro hR
    have h1 := hR p (List.mem_cons_self ..)
    rw [List.map_cons, List.sum_cons, tTot_cons, ih fun q hq => hR q (List.mem_cons_of_mem _ hq)]
    unfold tOld
    rw [h1]; rfl
/-- All files are a log's own. -/
def DS.Wal (d : DS) : Prop := ∀ p ∈ d.seen, ∃ n, 1 ≤ n ∧ n < 1000000000000 ∧ p.1 = fileW n
theorem wal_names : ∀ (T : Tab), (∀ p ∈ T, ∃ n, 1 ≤ n ∧ n < 1000000000000 ∧ p.1 = fileW n) → ∃ l : List Nat, T.map Prod.fst = l.map fileW ∧ ∀ n ∈ l, 1 ≤ n ∧ n < 1000000000000 := by
  intro T
  induction T with
  | nil => intro _; exact ⟨[], rfl, fun n hn => by cases hn⟩
  | cons p T ih =>
    intro h
    obtain ⟨l, h1, h2⟩ := ih fun q hq => h q (List.mem_cons_of_mem _ hq)
    obtain ⟨n, n1, n2, n3⟩ := h p (List.mem_cons_self ..)
    refine ⟨n :: l, by rw [List.map_cons, List.map_cons, h1, n3], fun m hm => ?_⟩
    rcases List.mem_cons.1 hm with rfl | hm
    · exact ⟨n1, n2⟩
    exact h2 m hm
theorem segB_le (d : DS) (n : Nat) : (segB d n).length ≤ (tOld d.seen (fileW n)).length := by
  unfold segB DS.read
  split
  · exact Nat.zero_le _
  exact Nat.le_refl _
theorem sum_le_of : ∀ (l : List Nat) (f g : Nat → Nat), (∀ n, f n ≤ g n) → (l.map f).sum ≤ (l.map g).sum := by
  intro l f g h
  induction l with
  | nil => exact Nat.le_refl _
  | cons n r ih =>
    rw [List.map_cons, List.map_cons, List.sum_cons, List.sum_cons]
    have := h n
    omega
theorem segs_of {d : DS} (hok : d.Ok) (h : d.Wal) : ∃ l, d.Segs l := by
  obtain ⟨h1, h2, h3, -, -⟩ := hok.run
  by_cases ho : d.off = true
  · refine ⟨[], by unfold DS.list; rw [if_pos ho]; rfl, fun n hn => (by cases hn), Nat.zero_le _, Nat.zero_le _⟩
  obtain ⟨l, e1, e2⟩ := wal_names d.seen h
  have hl : l.length = d.seen.length := by
    have := congrArg List.length e1
    simpa using this.symm
  refine ⟨l, by unfold DS.list; rw [if_neg ho]; exact e1, e2, by omega, ?_⟩
  have s1 := sumR_five d l
  have s2 := sum_le_of l (fun n => (segB d n).length) (fun n => (tOld d.seen (fileW n)).length) (segB_le d)
  have s3 := tTot_names h1 d.seen fun p hp => h1.get hp
  have s4 : (l.map fun n => (tOld d.seen (fileW n)).length) = d.seen.map fun p => (tOld d.seen p.1).length := by
    have e := congrArg (List.map fun x => (tOld d.seen x).length) e1
    rw [List.map_map, List.map_map] at e
    exact e.symm
  rw [s4, s3] at s2
  omega
end Go.Proofs.YtikjckdoldiddaaGreatDoor

/- Plain: a log's disk keeps its files' names. -/
namespace Go.Proofs.YtikjckdoldiddaaGreatDoor
open Go.RowKit Go.Maps
set_option linter.unusedVariables false
set_option linter.unusedSimpArgs false

def isW (x : Nm) : Prop := ∃ n, 1 ≤ n ∧ n < 1000000000000 ∧ x = fileW n
def tW (T : Tab) : Prop := ∀ p ∈ T, isW p.1
def aW : ActS → Prop
  | .write n _ _ => isW n
  | .trim n _ => isW n
  | .move _ n => isW n
  | .drop _ => True
theorem tW_del {T : Tab} (h : tW T) (n : Nm) : tW (tDel T n) := fun p hp => h p (List.mem_filter.1 hp).1
theorem tW_put {T : Tab} (h : tW T) {n : Nm} (hn : isW n) (b : By) : tW (tPut T n b) := fun p hp => by
  rcases mem_ins hp with rfl | hp
  · exact hn
  exact tW_del h n p hp
theorem ActS.run_w {a : ActS} {T : Tab} (ha : aW a) (h : tW T) : tW (a.run T) := by
  cases a with
  | write n k b => exact tW_put h ha _
  | trim n k => exact tW_put h ha _
  | move o n => exact tW_put (tW_del h o) ha _
  | drop n => exact tW_del h n
theorem runAll_w : ∀ (l : List ActS) (T : Tab), (∀ a ∈ l, aW a) → tW T → tW (runAll T l) := by
  intro l
  induction l with
  | nil => intro T _ h; exact h
  | cons a l ih => intro T hf h; exact ih (a.run T) (fun x hx => hf x (List.mem_cons_of_mem _ hx)) (ActS.run_w (hf a (List.mem_cons_self ..)) h)
def DS.Wok (d : DS) : Prop := tW d.last ∧ ∀ a ∈ d.acts, aW a
theorem DS.Wok.wal {d : DS} (h : d.Wok) (hok : d.Ok) : d.Wal := by
  intro p hp
  rw [hok.seen] at hp
  exact runAll_w _ _ h.2 h.1 p hp
theorem aW_cut {a : ActS} (h : aW a) (q : Nat) : aW (a.cut q) := by cases a <;> exact h
theorem DS.Wok.fall {d : DS} (h : d.Wok) (keep tear : Int) : (d.fall keep tear).Wok := by
  refine ⟨runAll_w _ _ (fun a ha => ?_) h.1, fun a ha => by cases ha⟩
  rcases lastsS_split d.acts keep tear with e | ⟨m, x, q, hm, hx, hq, e⟩
  · rw [e] at ha; cases ha
  rw [e] at ha
  rcases List.mem_append.1 ha with ha | ha
  · exact h.2 a (List.mem_of_mem_take ha)
  rw [List.mem_singleton.1 ha]
  exact aW_cut (h.2 x (List.mem_of_getElem? hx)) q
theorem DS.Wok.hit {d : DS} (h : d.Wok) : d.hit.2.Wok := by unfold DS.hit; split <;> exact h
theorem DS.Wok.does {d : DS} (h : d.Wok) {a : ActS} (ha : aW a) : (d.does a).2.Wok := by
  have h1 : DS.Wok { d with seen := a.run d.seen, acts := d.acts ++ [a] } := ⟨h.1, fun x hx => by
    rcases List.mem_append.1 hx with hx | hx
    · exact h.2 x hx
    rw [List.mem_singleton.1 hx]; exact ha⟩
  unfold DS.does
  dsimp only
  split
  · exact DS.Wok.fall h1.hit _ _
  exact h1.hit
theorem DS.Wok.write {d : DS} (h : d.Wok) {n : Nm} (hn : isW n) (k : Int) (b : By) : (d.write n k b).2.Wok := by
  unfold DS.write
  repeat' split
  all_goals first
    | exact h
    | exact h.does hn
theorem DS.Wok.trim {d : DS} (h : d.Wok) {n : Nm} (hn : isW n) (k : Int) : (d.trim n k).2.Wok := by
  unfold DS.trim
  repeat' split
  all_goals first
    | exact h
    | exact h.does hn
theorem DS.Wok.drop {d : DS} (h : d.Wok) (n : Nm) : (d.drop n).2.Wok := by
  unfold DS.drop
  split
  · exact h
  exact h.does (a := .drop n) trivial
theorem DS.Wok.sync {d : DS} (h : d.Wok) (hok : d.Ok) : d.sync.2.Wok := by
  unfold DS.sync
  split
  · exact h
  split
  · exact h.hit.fall _ _
  exact ⟨fun p hp => (h.wal hok) p hp, fun a ha => by cases ha⟩
end Go.Proofs.YtikjckdoldiddaaGreatDoor

/- Plain: what Open keeps. -/
namespace Go.Proofs.YtikjckdoldiddaaGreatDoor
open Go.RowKit Go.Maps
set_option linter.unusedVariables false
set_option linter.unusedSimpArgs false

theorem isW_file {n : Nat} (h : 1 ≤ n) (h1 : n < 1000000000000) : isW (fileW n) := ⟨n, h, h1, rfl⟩
theorem dropsW_wok (s : Wl) : ∀ (l : List Nat) {d : DS}, d.Wok → (dropsW s l d).2.Wok := by
  intro l
  induction l with
  | nil => intro d h; exact h
  | cons n r ih =>
    intro d h
    rw [dropsW_cons]
    split
    · split
      · exact h.drop _
      exact ih (h.drop _)
    exact ih h
theorem trimW_ok {s : Wl} {d : DS} (h : d.Ok) : (trimW s d).2.Ok := by
  unfold trimW
  split
  · exact h.trim _ _
  exact h
theorem trimW_wok {s : Wl} (hs : s.tt < 1000000000000) {d : DS} (h : d.Wok) : (trimW s d).2.Wok := by
  unfold trimW
  split
  · rename_i h0
    exact h.trim (isW_file h0 hs) _
  exact h
theorem endW_ok {s : Wl} (hs : s.tt < 1000000000000) {r : Int × DS} (h : r.2.Ok) (hw : r.2.Wok) : (endW s r).2.Ok ∧ (endW s r).2.Wok := by
  unfold endW
  split
  · exact ⟨h, hw⟩
  split
  · exact ⟨trimW_ok h, trimW_wok hs hw⟩
  exact ⟨(trimW_ok h).sync, (trimW_wok hs hw).sync (trimW_ok h)⟩
theorem openW_keeps {d : DS} (hok : d.Ok) (hw : d.Wok) {l : List Nat} (hs : d.Segs l) : (openW d l).2.Ok ∧ (openW d l).2.Wok :=
  endW_ok (read_fine hok hs).tt (dropsW_ok _ _ hok) (dropsW_wok _ _ hw)
end Go.Proofs.YtikjckdoldiddaaGreatDoor
