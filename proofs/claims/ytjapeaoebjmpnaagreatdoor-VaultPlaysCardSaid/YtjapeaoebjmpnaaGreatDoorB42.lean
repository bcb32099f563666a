/- Copies that may be written. Printed by gen_rl0.py. -/
import Derived.Test.YtjapeaoebjmpnaaGreatDoorB41
import Derived.Test.YtjapeaoebjmpnaaGreatDoorB23
import Derived.Test.YtjapeaoebjmpnaaGreatDoorB29
import Derived.Deep.RegionWith
namespace Go.Proofs.YtjapeaoebjmpnaaGreatDoor
open Go.RowKit Go.Maps
set_option linter.unusedVariables false
set_option linter.unusedSimpArgs false
attribute [local go_sem] bmax2 bmin2 bmax_two bmin_two

/-- A state's data may be written. -/
def DatW (D : Nat → Prop) (w : World) (v : Value) : Prop := ∃ x0 x1 x2 da dn dc, v = .agg #[x0, x1, x2, .slice da dn dc] ∧ Row8 D w da dn
theorem cloneW_any {F : Nat → Prop} {a : Option Addr} {n c : Nat} {d : By} {w : World} (hd : ByF F w a n c d) :
    Calls Tryz.prog 40 #[.slice a n c] w (fun e w' => ∃ a' n' c', e = .returned (.slice a' n' c') ∧ ByF (fun q => w.heap.size ≤ q ∧ q < w'.heap.size) w' a' n' c' d ∧ Ext w w' ∧ Row8 (fun q => w.heap.size ≤ q ∧ q < w'.heap.size) w' a' n') := by
  refine (cloneR_any hd).mono ?_
  rintro e w' ⟨v, rfl, ho, hx⟩
  obtain ⟨a', c', rfl⟩ := own_slice3 ho
  have hn := hd.1
  have hl := hd.2.2.1.2
  have hr := Row8.of_own ho hn
  subst hn
  exact ⟨a', _, c', rfl, own_byF ho hl, hx, hr⟩
set_option maxHeartbeats 4000000 in
theorem copied_w {F : Nat → Prop} {w : World} {v : Value} {s : Sn} (h : SnV F w v s) :
    Calls Tryz.prog 52 #[v] w (fun e w' => ∃ v', e = .returned v' ∧ SnV (fun q => w.heap.size ≤ q ∧ q < w'.heap.size) w' v' s ∧ Ext w w' ∧ DatW (fun q => w.heap.size ≤ q ∧ q < w'.heap.size) w' v') := by
  obtain ⟨va, vn, vc, da, dn, dc, rfl, hi, ht, hv, hd⟩ := h
  have HV := hid (fun W (hW : Ext w W) => cloneI_any (hv.below hW))
  have HD := hid (fun W (hW : Ext w W) => cloneW_any (hd.below hW))
  have HIT := hid (show In64 s.i ∧ In64 s.t from ⟨hi, ht⟩)
  clear hv hd hi ht
  go_enter Tryz.func52, Tryz.ntmps52
  go_wp2
  obtain ⟨i, t, vs, d⟩ := s
  dsimp only at *
  generalize hW0 : (w.alloc (.cells #[.int .i64 i, .int .i64 t, .slice va vn vc, .slice da dn dc] 25)).alloc (.cells #[.int .i64 0, .int .i64 0, .slice none 0 0, .slice none 0 0] 25) = W0
  have hx0 : Ext w W0 := by rw [← hW0]; exact (ext_alloc _ _).trans' (ext_alloc _ _)
  have hz0 : W0.heap.size = w.heap.size + 2 := by rw [← hW0]; simp
  have hq1 : W0.heap[w.heap.size]? = some (.cells #[.int .i64 i, .int .i64 t, .slice va vn vc, .slice da dn dc] 25 (0, 0)) := by rw [← hW0]; exact heap_alloc2_old _ _ _
  have hq2 : W0.heap[w.heap.size + 1]? = some (.cells #[.int .i64 0, .int .i64 0, .slice none 0 0, .slice none 0 0] 25 (0, 0)) := by rw [← hW0]; exact heap_alloc2_new _ _ _
  have facts : ∀ W, Ext W0 W → (W.heap[w.heap.size]? = some (.cells #[.int .i64 i, .int .i64 t, .slice va vn vc, .slice da dn dc] 25 (0, 0)) ∧ W.heap[w.heap.size + 1]? = some (.cells #[.int .i64 0, .int .i64 0, .slice none 0 0, .slice none 0 0] 25 (0, 0))) := fun W hW =>
    ⟨(hW.block _ (by omega)).trans hq1, (hW.block _ (by omega)).trans hq2⟩
  have cells : ∀ W, Ext W0 W → (W.cell? ⟨w.heap.size, 0, none⟩ = some (.int .i64 i) ∧ W.cell? ⟨w.heap.size, 1, none⟩ = some (.int .i64 t) ∧ W.cell? ⟨w.heap.size, 2, none⟩ = some (.slice va vn vc) ∧ W.cell? ⟨w.heap.size, 3, none⟩ = some (.slice da dn dc) ∧
      W.frozen? ⟨w.heap.size, 2, none⟩ = false ∧ W.frozen? ⟨w.heap.size, 3, none⟩ = false ∧ w.heap.size < W.heap.size) := fun W hW => by
    have h1 := (facts W hW).1
    exact ⟨by simp [World.cell?, h1], by simp [World.cell?, h1], by simp [World.cell?, h1], by simp [World.cell?, h1], by simp [World.frozen?, h1], by simp [World.frozen?, h1], (Array.getElem?_eq_some_iff.1 h1).1⟩
  obtain ⟨y0, y1, y2, y3, y4, y5, y6⟩ := cells W0 (Below.refl _ _)
  have HFA := hid facts
  have HCE := hid cells
  have HX0 := hid hx0
  clear hW0 facts cells hx0 hq1 hq2
  have HZ0 := hid hz0
  clear hz0
  go_region_with (first
    | (go_at_call 44; refine Calls.mono (HV.out _ (by first | exact HX0.out | exact HX0.out.trans' (ext_drew _))) ?_; rintro e w1 ⟨a1, n1, c1, rfl, hb1, hx1⟩; have hxa : Ext W0 w1 := by first | exact hx1 | exact (ext_drew _).trans' hx1
       obtain ⟨z0, z1, z2, z3, z4, z5, z6⟩ := HCE.out w1 hxa; have HB1 := hid hb1; have HXA := hid hxa; clear hb1 hx1 hxa)
    | (go_at_call 40; refine Calls.mono (HD.out _ (HX0.out.trans' HXA.out)) ?_; rintro e w2 ⟨a2, n2, c2, rfl, hb2, hx2, hr2⟩; have hxb : Ext W0 w2 := HXA.out.trans' hx2
       obtain ⟨t0, t1, t2, t3, t4, t5, t6⟩ := HCE.out w2 hxb; have HB2 := hid hb2; have HR2 := hid hr2; have HXB := hid hx2; have HX02 := hid hxb; clear hb2 hx2 hxb hr2))
  all_goals
    obtain ⟨hf1, hf2⟩ := HFA.out w2 HX02.out
    have hw2 : Ext w w2 := HX0.out.trans' HX02.out
    have k1 := heap_setCell_same w2 w.heap.size 2 _ _ (.slice a1 n1 c1) hf1
    have k2 := heap_setCell_same _ w.heap.size 3 _ _ (.slice a2 n2 c2) k1
    have k3 : ((w2.setCell ⟨w.heap.size, 2, none⟩ (.slice a1 n1 c1)).setCell ⟨w.heap.size, 3, none⟩ (.slice a2 n2 c2)).heap[w.heap.size + 1]? = some (.cells #[.int .i64 0, .int .i64 0, .slice none 0 0, .slice none 0 0] 25 (0, 0)) :=
      (heap_setCell_other _ _ _ _ (by show w.heap.size + 1 ≠ w.heap.size; omega)).trans ((heap_setCell_other _ _ _ _ (by show w.heap.size + 1 ≠ w.heap.size; omega)).trans hf2)
    have hx5 : Ext w ((w2.setCell ⟨w.heap.size, 2, none⟩ (.slice a1 n1 c1)).setCell ⟨w.heap.size, 3, none⟩ (.slice a2 n2 c2)) := (hw2.setCell (Nat.le_refl _) _).setCell (Nat.le_refl _) _
    have hother : ∀ q, q ≠ w.heap.size → ((w2.setCell ⟨w.heap.size, 2, none⟩ (.slice a1 n1 c1)).setCell ⟨w.heap.size, 3, none⟩ (.slice a2 n2 c2)).heap[q]? = w2.heap[q]? := fun q hq =>
      (heap_setCell_other _ _ _ _ hq).trans (heap_setCell_other _ _ _ _ hq)
    have hsize : ((w2.setCell ⟨w.heap.size, 2, none⟩ (.slice a1 n1 c1)).setCell ⟨w.heap.size, 3, none⟩ (.slice a2 n2 c2)).heap.size = w2.heap.size := by simp [World.setCell]
    generalize (w2.setCell ⟨w.heap.size, 2, none⟩ (.slice a1 n1 c1)).setCell ⟨w.heap.size, 3, none⟩ (.slice a2 n2 c2) = W5 at *
    have e0 : W5.cell? ⟨w.heap.size, 0, none⟩ = some (.int .i64 i) := by simp [World.cell?, k2]
    have e1 : W5.cell? ⟨w.heap.size, 1, none⟩ = some (.int .i64 t) := by simp [World.cell?, k2]
    have e2 : W5.cell? ⟨w.heap.size, 2, none⟩ = some (.slice a1 n1 c1) := by simp [World.cell?, k2]
    have e3 : W5.cell? ⟨w.heap.size, 3, none⟩ = some (.slice a2 n2 c2) := by simp [World.cell?, k2]
    have r0 : W5.cell? ⟨w.heap.size + 1, 0, none⟩ = some (.int .i64 0) := by simp [World.cell?, k3]
    have r1 : W5.cell? ⟨w.heap.size + 1, 1, none⟩ = some (.int .i64 0) := by simp [World.cell?, k3]
    have r2 : W5.cell? ⟨w.heap.size + 1, 2, none⟩ = some (.slice none 0 0) := by simp [World.cell?, k3]
    have r3 : W5.cell? ⟨w.heap.size + 1, 3, none⟩ = some (.slice none 0 0) := by simp [World.cell?, k3]
    have v0 : W5.frozen? ⟨w.heap.size + 1, 0, none⟩ = false := by simp [World.frozen?, k3]
    have v1 : W5.frozen? ⟨w.heap.size + 1, 1, none⟩ = false := by simp [World.frozen?, k3]
    have v2 : W5.frozen? ⟨w.heap.size + 1, 2, none⟩ = false := by simp [World.frozen?, k3]
    have v3 : W5.frozen? ⟨w.heap.size + 1, 3, none⟩ = false := by simp [World.frozen?, k3]
    have hl1 : w.heap.size < W5.heap.size := (Array.getElem?_eq_some_iff.1 k2).1
    have hl2 : w.heap.size + 1 < W5.heap.size := (Array.getElem?_eq_some_iff.1 k3).1
    have K3 := hid k3
    have HX5 := hid hx5
    have HO5 := hid hother
    have HS5 := hid hsize
    have HF1 := hid hf1
    clear k1 k2 k3 hx5 hother hsize hf1 hf2 hw2
    go_wp2
    obtain ⟨j1, j2, j3, j4⟩ := four_set K3.out (.int .i64 i) (.int .i64 t) (.slice a1 n1 c1) (.slice a2 n2 c2)
    refine bodyPost_ret_by (results_cell_row rfl _ _ (w.heap.size + 1) _ _ _ (Tryz.prog.underlying 25).get! rfl j1 (by kernel_rfl) (by kernel_rfl) (by kernel_rfl)) rfl ⟨_, rfl, ?_, ?_, ?_⟩
    · refine ⟨a1, n1, c1, a2, n2, c2, rfl, HIT.out.1, HIT.out.2, ?_, ?_⟩
      · have hb1 := HB1.out.below HXB.out
        refine hb1.keep fun q hq hl => ?_
        have hq1 : W0.heap.size ≤ q := hq.1
        have := HZ0.out
        refine ⟨⟨by omega, by rw [j3, HS5.out]; exact hl⟩, ?_⟩
        rw [j2 q (by omega), HO5.out q (by omega)]
      refine HB2.out.keep fun q hq hl => ⟨⟨?_, ?_⟩, ?_⟩
      · have := HXA.out.size; have := HX0.out.size; omega
      · rw [j3, HS5.out]; exact hl
      have := HXA.out.size
      rw [j2 q (by have := HZ0.out; omega), HO5.out q (by have := HZ0.out; omega)]
    · exact HX5.out.trans (j4 w.heap.size (by omega))
    refine ⟨_, _, _, a2, n2, c2, rfl, HR2.out.keep (fun q hq hl => ⟨⟨?_, ?_⟩, ?_⟩) ?_⟩
    · have h1 := hq.1; have := HXA.out.size; have := HX0.out.size; omega
    · rw [j3, HS5.out]; exact hl
    · have h1 := hq.1
      have := HXA.out.size
      rw [j2 q (by have := HZ0.out; omega), HO5.out q (by have := HZ0.out; omega)]
    rw [j3, HS5.out]; exact Nat.le_refl _
def LastPostW (s : Sn) (sm : Bool) (w : World) (e : Ending) (w' : World) : Prop :=
  ∃ v, e = .returned (.tuple #[v, .bool sm]) ∧ SnV (fun q => w.heap.size ≤ q ∧ q < w'.heap.size) w' v s ∧ Ext w w' ∧ DatW (fun q => w.heap.size ≤ q ∧ q < w'.heap.size) w' v
theorem last_retw {w W : World} {s : Sn} {sm : Bool} {tmps : Array Value} {x0 x1 x2 x3 y0 y1 y2 : Value} {da : Option Addr} {dn dc : Nat} (hp : tmps.getD 2 undef = .pointer (some ⟨w.heap.size, 0, none⟩)) (hu : tmps.getD 3 undef = .bool sm)
    (hq : W.heap[w.heap.size]? = some (.cells #[x0, x1, x2, x3] 25 (0, 0))) (hx : Ext w W) (hs : SnV (fun q => w.heap.size < q ∧ q < W.heap.size) W (.agg #[y0, y1, y2, .slice da dn dc]) s) (hr : Row8 (fun q => w.heap.size < q ∧ q < W.heap.size) W da dn) :
    bodyPost Tryz.prog Tryz.f18 (LastPostW s sm w) .ret { tmps := tmps, defers := [] } ((((W.setCell ⟨w.heap.size, 0, none⟩ y0).setCell ⟨w.heap.size, 1, none⟩ y1).setCell ⟨w.heap.size, 2, none⟩ y2).setCell ⟨w.heap.size, 3, none⟩ (.slice da dn dc)) := by
  obtain ⟨j1, j2, j3, j4⟩ := four_set hq y0 y1 y2 (.slice da dn dc)
  refine bodyPost_ret_by (results_cell_row_tmp rfl _ _ w.heap.size _ _ _ (Tryz.prog.underlying 25).get! hp j1 (by kernel_rfl) (by kernel_rfl) (by kernel_rfl)) rfl ⟨_, by rw [hu], ?_, hx.trans (j4 _ (Nat.le_refl _)), _, _, _, da, dn, dc, rfl, ?_⟩
  · exact hs.keep fun q hq hl => ⟨⟨by omega, by rw [j3]; exact hl⟩, j2 q (by omega)⟩
  exact hr.keep (fun q hq hl => ⟨⟨by omega, by rw [j3]; exact hl⟩, j2 q (by omega)⟩) (by rw [j3]; exact Nat.le_refl _)
set_option maxRecDepth 100000 in
set_option maxHeartbeats 4000000 in
theorem Last_w {G : Nat → Prop} {w : World} {g dg : Nat} {s : Sn} {sm : Bool} (h : VaO G w g s sm dg) :
    Calls Tryz.prog 18 #[.pointer (some ⟨g, 0, none⟩)] w (LastPostW s sm w) := by
  obtain ⟨va, vn, vc, da, dn, dc, h1, h2⟩ := h
  have hg : g < w.heap.size := (Array.getElem?_eq_some_iff.1 h1).1
  have HCO := hid (fun W (hW : Ext w W) => copied_w (h2.below hW))
  have HG := hid (fun W (hW : Ext w W) => cells6 ((hW.block g hg).trans h1))
  clear h1 h2
  go_enter Tryz.func18, Tryz.ntmps18
  go_wp2_with fail
  generalize hW0 : w.alloc (.cells #[.int .i64 0, .int .i64 0, .slice none 0 0, .slice none 0 0] 25) = W0
  have hx0 : Ext w W0 := by rw [← hW0]; exact ext_alloc _ _
  have hq0 : W0.heap[w.heap.size]? = some (.cells #[.int .i64 0, .int .i64 0, .slice none 0 0, .slice none 0 0] 25 (0, 0)) := by rw [← hW0]; exact heap_alloc_new _ _
  have hz0 : W0.heap.size = w.heap.size + 1 := by rw [← hW0]; simp
  have HX0 := hid hx0
  have HQ0 := hid hq0
  have HZ0 := hid hz0
  clear hW0 hx0 hq0 hz0
  refine Calls.mono (vmade_any (HG.out W0 HX0.out).1.2.2.2.2.2) ?_
  rintro e w1 ⟨rfl, rfl⟩
  go_wp2
  have y0 : Ext w W0.drew := HX0.out.trans' (ext_drew _)
  refine wp_region_held_drew (S := fun W => Ext w W) (by kernel_rfl) y0 (fun hH => ?_)
  refine hr_ 0 (.pointer (some ⟨g, 0, none⟩)) rfl y0 (fun W hW => ?_) ?_
  · (clear hW; go_simp)
  try simp only [Act.put, sA_, s0_, sS_]
  refine hr_ 1 (.pointer (some ⟨g, 0, none⟩)) rfl y0 (fun W hW => ?_) ?_
  · (clear hW; go_simp)
  try simp only [Act.put, sA_, s0_, sS_]
  refine hr_ 2 (.pointer (some ⟨g, 0, none⟩)) rfl y0 (fun W hW => ?_) ?_
  · (clear hW; go_simp)
  try simp only [Act.put, sA_, s0_, sS_]
  refine hr_ 3 (.pointer (some ⟨g, 0, none⟩)) rfl y0 (fun W hW => ?_) ?_
  · (clear hW; go_simp)
  try simp only [Act.put, sA_, s0_, sS_]
  refine hr_ 4 (.agg #[.int .i64 s.i, .int .i64 s.t, .slice va vn vc, .slice da dn dc]) rfl y0 (fun W hW => ?_) ?_
  · (obtain ⟨⟨q0, q1, q2, q3, q4, q5⟩, -, -⟩ := HG.out W hW; clear hW; go_simp)
  try simp only [Act.put, sA_, s0_, sS_]
  refine hr_ 6 (.pointer (some ⟨g, 0, none⟩)) rfl y0 (fun W hW => ?_) ?_
  · (clear hW; go_simp)
  try simp only [Act.put, sA_, s0_, sS_]
  refine hr_ 7 (.pointer (some ⟨g, 0, none⟩)) rfl y0 (fun W hW => ?_) ?_
  · (clear hW; go_simp)
  try simp only [Act.put, sA_, s0_, sS_]
  refine hr_ 8 (.pointer (some ⟨g, 0, none⟩)) rfl y0 (fun W hW => ?_) ?_
  · (clear hW; go_simp)
  try simp only [Act.put, sA_, s0_, sS_]
  refine hr_ 9 (.pointer (some ⟨g, 4, none⟩)) rfl y0 (fun W hW => ?_) ?_
  · (clear hW; go_simp)
  try simp only [Act.put, sA_, s0_, sS_]
  refine hr_ 10 (.bool sm) rfl y0 (fun W hW => ?_) ?_
  · (obtain ⟨⟨q0, q1, q2, q3, q4, q5⟩, -, -⟩ := HG.out W hW; clear hW; go_simp)
  try simp only [Act.put, sA_, s0_, sS_]
  refine hc_ 5 rfl (fun K hK => ?_)
  go_simp
  go_at_call 52
  refine Calls.mono (HCO.out _ y0) ?_
  rintro e w2 ⟨v, rfl, hsv, hx2, hdw⟩
  have HX2 := hid ((ext_drew W0).trans' hx2)
  have y1 : Ext w w2 := HX0.out.trans' HX2.out
  have HQ2 := hid ((HX2.out.block w.heap.size (by have := HZ0.out; omega)).trans HQ0.out)
  obtain ⟨va', vn', vc', da', dn', dc', rfl, k1, k2, k3, k4⟩ := hsv
  have HSV := hid (show SnV (fun q => w.heap.size < q ∧ q < w2.heap.size) w2 (.agg #[.int .i64 s.i, .int .i64 s.t, .slice va' vn' vc', .slice da' dn' dc']) s from
    SnV.more ⟨va', vn', vc', da', dn', dc', rfl, k1, k2, k3, k4⟩ fun q hq => by have h3 := hq.1; have h4 := HZ0.out; simp at h3; exact ⟨by omega, hq.2⟩)
  obtain ⟨b0, b1, b2, ba, bn, bc, hbe, hr8⟩ := hdw
  simp only [Value.agg.injEq, Array.mk.injEq, List.cons.injEq, and_true, Value.slice.injEq] at hbe
  obtain ⟨-, -, -, rfl, rfl, rfl⟩ := hbe
  have HR8 := hid (hr8.keep (E := fun q => w.heap.size < q ∧ q < w2.heap.size) (fun q hq _ => ⟨by have h3 := hq.1; have h4 := HZ0.out; simp at h3; exact ⟨by omega, hq.2⟩, rfl⟩) (Nat.le_refl _))
  clear k1 k2 k3 k4 hx2 hr8
  go_wp2_with fail
  refine hK.out _ _ y1 (fun hH2 => ?_)
  clear hK K hH
  try simp only [Act.put, sA_, s0_, sS_]
  refine hc_ 11 rfl (fun K hK => ?_)
  obtain ⟨⟨q0, q1, q2, q3⟩, ⟨f0, f1, f2, f3⟩, hl⟩ := cells4 HQ2.out
  go_simp
  refine hK.out _ _ ?_ (fun hH3 => ?_)
  · exact y1.trans ((four_set HQ2.out _ _ _ _).2.2.2 _ (Nat.le_refl _))
  clear hK K
  try simp only [Act.put, sA_, s0_, sS_]
  refine held_run (i := 12) (v := .bool sm) rfl (by kernel_rfl) (by kernel_rfl) (by kernel_rfl) (fun _ _ _ h => h) (by rfl) hH3 (fun W hW => ?_) ?_
  · (clear hW; go_simp)
  try simp only [Act.put, sA_, s0_, sS_]
  refine wpAnyH_done (by kernel_rfl) ?_ _
  go_wp2
  exact last_retw rfl rfl HQ2.out y1 HSV.out HR8.out
set_option maxRecDepth 100000 in
set_option maxHeartbeats 4000000 in
theorem snap_w {F : Nat → Prop} {w : World} {v : Value} {k : Kt} (h : KtV F w v k) :
    Calls Tryz.prog 16 #[v] w (fun e w' => ∃ x0 x1 x2 x3, e = .returned (.agg #[x0, x1, x2, x3]) ∧ (k.s.d.length ≤ 1000000000000 → SnV (fun q => w.heap.size ≤ q ∧ q < w'.heap.size) w' (.agg #[x0, x1, x2, x3]) (snapS k)) ∧ Ext w w' ∧ DatW (fun q => w.heap.size ≤ q ∧ q < w'.heap.size) w' (.agg #[x0, x1, x2, x3])) := by
  obtain ⟨va, vn, vc, da, dn, dc, rfl, -, hi, ht, -, -, -, -, hv, hd⟩ := h
  obtain ⟨hz, hz3⟩ := szN_eq k.size
  obtain ⟨kop, ⟨ki, kt, kvs, kd⟩, ksz, kn, kk, ktr⟩ := k
  dsimp only at *
  unfold snapS
  dsimp only
  obtain ⟨N, hN⟩ : ∃ N, N = szN ksz := ⟨_, rfl⟩
  rw [← hN] at hz hz3 ⊢
  have HIT := hid (show In64 ki ∧ In64 kt from ⟨hi, ht⟩)
  have hdn : dn = kd.length := hd.1
  have hd47 : dn ≤ 140737488351232 := hd.2.2.1.2
  have HDN := hid hdn
  have HV := hid (fun W (hW : Ext w W) => cloneI_any (hv.below hW))
  have HD := hid (fun W (hW : Ext w W) => cloneR_any (hd.below hW))
  clear hv hd hi ht hdn hN
  go_enter Tryz.func16, Tryz.ntmps16
  go_wp2_with fail

  have e1 := heap_alloc_new w (.cells #[.int .i64 kop, .int .i64 ki, .int .i64 kt, .slice va vn vc, .slice da dn dc, .int .i64 ksz, .int .i64 kn, .int .i64 kk, .int .i64 ktr] 38)
  have z1 : (w.alloc (.cells #[.int .i64 kop, .int .i64 ki, .int .i64 kt, .slice va vn vc, .slice da dn dc, .int .i64 ksz, .int .i64 kn, .int .i64 kk, .int .i64 ktr] 38)).heap.size = w.heap.size + 1 := World.size_alloc ..
  have x1 := ext_alloc w (.cells #[.int .i64 kop, .int .i64 ki, .int .i64 kt, .slice va vn vc, .slice da dn dc, .int .i64 ksz, .int .i64 kn, .int .i64 kk, .int .i64 ktr] 38)
  generalize w.alloc (.cells #[.int .i64 kop, .int .i64 ki, .int .i64 kt, .slice va vn vc, .slice da dn dc, .int .i64 ksz, .int .i64 kn, .int .i64 kk, .int .i64 ktr] 38) = W1 at *
  have e2 := heap_alloc_new W1 (.cells #[.int .i64 0, .int .i64 0, .slice none 0 0, .slice none 0 0] 25)
  have z2 : (W1.alloc (.cells #[.int .i64 0, .int .i64 0, .slice none 0 0, .slice none 0 0] 25)).heap.size = W1.heap.size + 1 := World.size_alloc ..
  have x2 := ext_alloc W1 (.cells #[.int .i64 0, .int .i64 0, .slice none 0 0, .slice none 0 0] 25)
  generalize W1.alloc (.cells #[.int .i64 0, .int .i64 0, .slice none 0 0, .slice none 0 0] 25) = W2 at *
  have e3 := heap_alloc_new W2 (.cells #[.int .i64 ki, .int .i64 kt, .slice va vn vc, .slice da dn dc] 25)
  have z3 : (W2.alloc (.cells #[.int .i64 ki, .int .i64 kt, .slice va vn vc, .slice da dn dc] 25)).heap.size = W2.heap.size + 1 := World.size_alloc ..
  have x3 := ext_alloc W2 (.cells #[.int .i64 ki, .int .i64 kt, .slice va vn vc, .slice da dn dc] 25)
  generalize W2.alloc (.cells #[.int .i64 ki, .int .i64 kt, .slice va vn vc, .slice da dn dc] 25) = W3 at *
  have x13 := x2.trans' x3
  have e1 := (x13.block w.heap.size (by omega)).trans e1
  have e2 := (x3.block W1.heap.size (by omega)).trans e2
  rw [z1] at e2
  rw [show W2.heap.size = w.heap.size + 1 + 1 by omega] at e3
  have HX3 := hid (x1.trans' x13)
  have HZ3 := hid (show W3.heap.size = w.heap.size + 3 by omega)
  clear x1 x2 x3 x13 z1 z2 z3
  refine Calls.mono (HV.out W3 HX3.out) ?_
  rintro e w4 ⟨a1, n1, c1, rfl, hb1, hx4⟩
  have e1 := (hx4.block w.heap.size (by have := HZ3.out; omega)).trans e1
  have e2 := (hx4.block (w.heap.size + 1) (by have := HZ3.out; omega)).trans e2
  have e3 := (hx4.block (w.heap.size + 1 + 1) (by have := HZ3.out; omega)).trans e3
  have HB1 := hid hb1
  have HX4 := hid (HX3.out.trans' hx4)
  have HZ4 := hid (show w.heap.size + 3 ≤ w4.heap.size by have := HZ3.out; have := hx4.size; omega)
  clear hb1 hx4
  obtain ⟨⟨q0, q1, q2, q3⟩, ⟨f0, f1, f2, f3⟩, hl3⟩ := cells4 e3
  go_wp2
  have hS := (SetG.start e3).step 2 (.slice a1 n1 c1)
  generalize w4.setCell ⟨w.heap.size + 1 + 1, 2, none⟩ (.slice a1 n1 c1) = w5 at *
  have E1 := hid ((hS.frm.block w.heap.size (by have := HZ4.out; omega) (by show ¬ w.heap.size = w.heap.size + 1 + 1; omega)).trans e1)
  have E2 := hid ((hS.frm.block (w.heap.size + 1) (by have := HZ4.out; omega) (by show ¬ w.heap.size + 1 = w.heap.size + 1 + 1; omega)).trans e2)
  have E3 := hid hS.obj
  have HX5 := hid (ext_frm HX4.out hS.frm (fun q hq => by rw [hq]; omega))
  have HZ5 := hid hS.size
  have HB5 := hid (HB1.out.keep (w' := w5) (G := fun q => w.heap.size + 3 ≤ q ∧ q < w5.heap.size) fun q hq hl => ⟨⟨by have := hq.1; have := HZ3.out; omega, by rw [hS.size]; exact hl⟩, hS.frm.block q hl (by show ¬ q = _; have := hq.1; have := HZ3.out; omega)⟩)
  clear e1 e2 e3 q0 q1 q2 q3 f0 f1 f2 f3 hl3 hS HB1
  have y0 : w5.drew.cell? ⟨w.heap.size, 5, none⟩ = some (.int .i64 ksz) := cells9 E1.out
  refine wp_region_held_drew (S := fun W => W.cell? ⟨w.heap.size, 5, none⟩ = some (.int .i64 ksz)) (by kernel_rfl) y0 (fun hH => ?_)
  refine hr_ 0 (.pointer (some ⟨w.heap.size + 1 + 1, 3, none⟩)) rfl y0 (fun W hW => ?_) ?_
  · (clear hW; go_simp)
  try simp only [Act.put, sA_, s0_, sS_]
  refine hr_ 3 (.pointer (some ⟨w.heap.size, 5, none⟩)) rfl y0 (fun W hW => ?_) ?_
  · (clear hW; go_simp)
  try simp only [Act.put, sA_, s0_, sS_]
  refine hr_ 4 (.int .i64 ksz) rfl y0 (fun W hW => ?_) ?_
  · go_simp
  try simp only [Act.put, sA_, s0_, sS_]
  refine hr_ 5 (.int .u64 (IntKind.u64.wrap ksz)) rfl y0 (fun W hW => ?_) ?_
  · (clear hW; go_simp)
  try simp only [Act.put, sA_, s0_, sS_]
  refine hr_ 6 (.int .u64 (N : Int)) rfl y0 (fun W hW => ?_) ?_
  · (clear hW; go_simp)
  try simp only [Act.put, sA_, s0_, sS_]
  have hwN : IntKind.i64.wrap (N : Int) = N := IntWalk.i64_in _ ⟨by omega, by omega⟩
  refine hr_ 7 (.int .i64 (N : Int)) rfl y0 (fun W hW => ?_) ?_
  · (clear hW; go_simp)
  try simp only [Act.put, sA_, s0_, sS_]
  clear hwN
  have c13 : w5.drew.cell? ⟨w.heap.size + 1 + 1, 3, none⟩ = some (.slice da dn dc) := (cells4 E3.out).1.2.2.2
  refine hc_ 1 rfl (fun K hK => ?_)
  go_simp
  refine hK.out _ _ y0 (fun hH1 => ?_)
  clear hK K
  try simp only [Act.put, sA_, s0_, sS_]
  clear hH c13
  refine hc_ 2 rfl (fun K hK => ?_)
  go_simp
  go_at_call 40
  refine Calls.mono (HD.out _ (HX5.out.trans' (ext_drew w5))) ?_
  rintro e w6 ⟨v6, rfl, hown, hx6⟩
  have hx56 := (ext_drew w5).trans' hx6
  have y1 : w6.cell? ⟨w.heap.size, 5, none⟩ = some (.int .i64 ksz) := (hx56.cell (p := ⟨w.heap.size, 5, none⟩) (World.block_lt_of_cell? _ _ y0)).trans y0
  have HX56 := hid hx56
  obtain ⟨a6, c6, hv6⟩ := own_slice3 hown
  subst hv6
  have HOWN := hid hown
  clear hx6 hx56 hown
  go_wp2_with fail
  refine hK.out _ _ y1 (fun hH2 => ?_)
  clear hK K
  try simp only [Act.put, sA_, s0_, sS_]
  clear hH1 y0
  refine hc_ 8 rfl (fun K hK => ?_)
  obtain ⟨v7, w7, hrun, hown7, hg7⟩ := app_zeros HOWN.out N (by omega) hd47 (by have := HX56.out.size; simp; omega) 23
  rw [if_pos (by rfl)]
  refine Lib.wp_append_run w6 (.tmp 12) (.tmp 17) 23 3 rfl (.slice a6 dn c6) (.int .i64 (N : Int)) rfl rfl v7 w7 hrun ?_
  have hbelow : ∀ q, q < w5.heap.size → w7.heap[q]? = w6.heap[q]? := fun q hq => hg7.block q (by have := HX56.out.size; omega) (fun e => by
    rcases HOWN.out.2 with ⟨e1, -⟩ | ⟨g, cp, cur, e1, e2, -⟩
    · rw [e1] at e; cases e
    rw [e1] at e
    injection e with e
    have e : g = q := e.symm
    simp at e2
    omega)
  have hx67 : Ext w w7 := by
    refine ⟨(show _ = _ from hg7.os).trans (HX56.out.os.trans HX5.out.os), hg7.tape.trans (HX56.out.tape.trans HX5.out.tape), hg7.output.trans (HX56.out.output.trans HX5.out.output), ?_, fun q hq => ?_⟩
    · have := hg7.size; have := HX56.out.size; have := HX5.out.size; omega
    exact (hbelow q (by have := HX5.out.size; omega)).trans ((HX56.out.block q (by have := HX5.out.size; omega)).trans (HX5.out.block q hq))
  have F1 : w7.heap[w.heap.size]? = _ := (hbelow _ (by have := HZ5.out; have := HZ4.out; omega)).trans ((HX56.out.block _ (by have := HZ5.out; have := HZ4.out; omega)).trans E1.out)
  have F2 : w7.heap[w.heap.size + 1]? = _ := (hbelow _ (by have := HZ5.out; have := HZ4.out; omega)).trans ((HX56.out.block _ (by have := HZ5.out; have := HZ4.out; omega)).trans E2.out)
  have F3 : w7.heap[w.heap.size + 1 + 1]? = _ := (hbelow _ (by have := HZ5.out; have := HZ4.out; omega)).trans ((HX56.out.block _ (by have := HZ5.out; have := HZ4.out; omega)).trans E3.out)
  have y2 : w7.cell? ⟨w.heap.size, 5, none⟩ = some (.int .i64 ksz) := cells9 F1
  have HF2 := hid F2
  have HF3 := hid F3
  have HX7 := hid hx67
  have HG7 := hid hg7
  have HOWN7 := hid hown7
  have HBL := hid hbelow
  obtain ⟨a7, c7, hv7⟩ := own_slice3 hown7
  subst hv7
  clear hrun hown7 hg7 hbelow hx67 F1 F2 F3
  refine hK.out _ _ y2 (fun hH3 => ?_)
  clear hK K
  try simp only [Act.put, sA_, s0_, sS_]
  clear hH2 y1
  refine held_run (i := 9) (v := .pointer (some ⟨w.heap.size + 1 + 1, 3, none⟩)) rfl (by kernel_rfl) (by kernel_rfl) (by kernel_rfl) (fun _ _ _ h => h) (by rfl) y2 (fun W hW => ?_) ?_
  · (clear hW; go_simp)
  try simp only [Act.put, sA_, s0_, sS_]
  obtain ⟨⟨q0, q1, q2, q3⟩, ⟨f0, f1, f2, f3⟩, hl3⟩ := cells4 HF3.out
  refine hc_ 10 rfl (fun K hK => ?_)
  go_simp
  have hS := (SetG.start HF3.out).step 3 (.slice a7 (dn + N) c7)
  generalize w7.setCell ⟨w.heap.size + 1 + 1, 3, none⟩ (.slice a7 (dn + N) c7) = w8 at *
  have y3 : w8.cell? ⟨w.heap.size, 5, none⟩ = some (.int .i64 ksz) := (hS.frm.cell (p := ⟨w.heap.size, 5, none⟩) (World.block_lt_of_cell? _ _ y2) (by show ¬ w.heap.size = w.heap.size + 1 + 1; omega)).trans y2
  have HS8 := hid hS
  clear hS q0 q1 q2 q3 f0 f1 f2 f3 hl3
  refine hK.out _ _ y3 (fun hH4 => ?_)
  clear hK K
  try simp only [Act.put, sA_, s0_, sS_]
  refine wpAnyH_done (by kernel_rfl) ?_ _
  have e2 := (HS8.out.frm.block (w.heap.size + 1) (Array.getElem?_eq_some_iff.1 HF2.out).1 (by show ¬ w.heap.size + 1 = w.heap.size + 1 + 1; omega)).trans HF2.out
  have e3 := HS8.out.obj
  obtain ⟨⟨q0, q1, q2, q3⟩, -, -⟩ := cells4 e3
  obtain ⟨⟨r0, r1, r2, r3⟩, ⟨f0, f1, f2, f3⟩, hl2⟩ := cells4 e2
  have HE2 := hid e2
  clear e2 e3 y2 y3 hH3 hH4
  go_wp2
  obtain ⟨j1, j2, j3, j4⟩ := four_set HE2.out (.int .i64 ki) (.int .i64 kt) (.slice a1 n1 c1) (.slice a7 (dn + N) c7)
  have hx8 : Ext w w8 := ext_frm HX7.out HS8.out.frm (fun q hq => by rw [hq]; omega)
  refine bodyPost_ret_by (results_cell_row rfl _ _ (w.heap.size + 1) _ _ _ (Tryz.prog.underlying 25).get! rfl j1 (by kernel_rfl) (by kernel_rfl) (by kernel_rfl)) rfl ?_
  have hlast : ∀ q, q < w7.heap.size → q ≠ w.heap.size + 1 → q ≠ w.heap.size + 1 + 1 → ((((w8.setCell ⟨w.heap.size + 1, 0, none⟩ (.int .i64 ki)).setCell ⟨w.heap.size + 1, 1, none⟩ (.int .i64 kt)).setCell ⟨w.heap.size + 1, 2, none⟩ (.slice a1 n1 c1)).setCell ⟨w.heap.size + 1, 3, none⟩ (.slice a7 (dn + N) c7)).heap[q]? = w7.heap[q]? := fun q h1 h2 h3 =>
    (j2 q h2).trans (HS8.out.frm.block q h1 h3)
  have hz8 := HS8.out.size
  refine ⟨_, _, _, _, rfl, fun hle => ?_, hx8.trans (j4 w.heap.size (by omega)), _, _, _, a7, dn + N, c7, rfl, ?_⟩
  case refine_2 =>
    have ho := HOWN7.out
    have e : u8s kd ++ List.replicate N (Value.int .u8 0) = u8s (kd ++ List.replicate N 0) := by unfold u8s; simp
    have el : dn + N = (kd ++ List.replicate N 0).length := by rw [List.length_append, List.length_replicate, HDN.out]
    rw [e] at ho
    refine (Row8.of_own ho el).keep (fun q hq hl => ⟨⟨?_, ?_⟩, hlast q hl ?_ ?_⟩) ?_
    · have h1 := hq.1; have := HZ5.out; have := HZ4.out; simp at h1; omega
    · rw [j3, hz8]; exact hl
    · have h1 := hq.1; have := HZ5.out; have := HZ4.out; simp at h1; omega
    · have h1 := hq.1; have := HZ5.out; have := HZ4.out; simp at h1; omega
    rw [j3, hz8]; exact Nat.le_refl _
  refine ⟨a1, n1, c1, a7, dn + N, c7, rfl, HIT.out.1, HIT.out.2, ?_, ?_⟩
  · refine HB5.out.keep fun q hq hl => ⟨⟨by omega, ?_⟩, ?_⟩
    · rw [j3, hz8]; have := HX56.out.size; have := HG7.out.size; omega
    rw [hlast q (by have := HX56.out.size; have := HG7.out.size; omega) (by omega) (by omega)]
    exact (HBL.out q hq.2).trans (HX56.out.block q hq.2)
  have ho := HOWN7.out
  have e : u8s kd ++ List.replicate N (Value.int .u8 0) = u8s (kd ++ List.replicate N 0) := by unfold u8s; simp
  have el : dn + N = (kd ++ List.replicate N 0).length := by rw [List.length_append, List.length_replicate, HDN.out]
  rw [e, el] at ho
  have hb := own_byF ho (by rw [← el, HDN.out]; omega)
  rw [← el] at hb
  refine hb.keep fun q hq hl => ⟨⟨?_, ?_⟩, hlast q hl ?_ ?_⟩
  · have h1 := hq.1; have := HZ5.out; have := HZ4.out; simp at h1; omega
  · rw [j3, hz8]; exact hl
  · have h1 := hq.1; have := HZ5.out; have := HZ4.out; simp at h1; omega
  have h1 := hq.1; have := HZ5.out; have := HZ4.out; simp at h1; omega
end Go.Proofs.YtjapeaoebjmpnaaGreatDoor
