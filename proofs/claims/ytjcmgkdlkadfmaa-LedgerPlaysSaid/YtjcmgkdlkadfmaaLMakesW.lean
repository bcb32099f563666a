/- The walk of the law LedgerMakes. -/
import Derived.Test.YtjcmgkdlkadfmaaLFreshW
import Derived.Test.YtjcmgkdlkadfmaaLr4
import Derived.Test.YtjcmgkdlkadfmaaLd2
namespace Go.Proofs.Ytjcmgkdlkadfmaa
open Go.RowKit
set_option linter.unusedVariables false
set_option linter.unusedSimpArgs false
attribute [local go_sem] bmax2 bmin2 bmax_two bmin_two

theorem base_cells (w : World) (i t : Int) (a : Option Addr) (n c : Nat) (ty ty' : TypeId) (u : Value) :
    let w1 := (w.alloc (.cells #[.int .i64 i, .int .i64 t, .slice a n c] ty)).alloc (.cells #[u] ty')
    w1.cell? ⟨w.heap.size, 0, none⟩ = some (.int .i64 i) ∧ w1.cell? ⟨w.heap.size, 1, none⟩ = some (.int .i64 t) ∧ w1.cell? ⟨w.heap.size, 2, none⟩ = some (.slice a n c) ∧ w.heap.size < w1.heap.size := by
  intro w1
  have h0 : w1.heap[w.heap.size]? = some (.cells #[.int .i64 i, .int .i64 t, .slice a n c] ty (0, 0)) := by
    rw [Below.heap_alloc _ _ _ (by simp)]
    exact heap_alloc_new w _
  refine ⟨?_, ?_, ?_, by simp [w1]; omega⟩
  all_goals unfold World.cell?; rw [h0]; rfl

set_option maxRecDepth 100000 in
set_option maxHeartbeats 2000000 in
theorem LedgerMakes_calls {F : Nat → Prop} (i t : Int) (a : Option Addr) (n c : Nat) (l : List Ent) (x y : Int) (w : World) (hi : In64 i) (ht : In64 t) (hl : EsF F w a n c l) (hx : In64 x) (hy : In64 y) :
    Calls Try.prog 6 #[baseV i t a n c, .int .i64 x, .int .i64 y] w fun e w' => e = .returned (.bool true) ∧ Ext w w' := by
  have HL := hid hl
  have HI := hid hi
  have HT := hid ht
  have HX := hid hx
  have HY := hid hy
  clear hl hi ht hx hy
  go_enter Try.func6, Try.ntmps6
  go_wp2_with fail
  refine (light_any F _ _ _ [l] _ (by exact LLsF.one _ (HL.out.below (ext_alloc _ _)) (by simp))).mono ?_
  rintro e w1 ⟨bb, rfl, hbb, hw1⟩
  have hx1 : Ext w ((w.alloc (.cells #[.int .i64 i, .int .i64 t, .slice a n c] 24)).alloc (.cells #[.slice a n c] 22)) := Ext.trans' (ext_alloc _ _) (ext_alloc _ _)
  obtain ⟨c0, c1, c2, c3⟩ := base_cells w i t a n c 24 22 (.slice a n c)
  rw [hw1] at hx1 c0 c1 c2 c3
  clear hw1
  have HBB := hid hbb
  clear hbb
  cases bb with
  | false =>
    go_wp2_with fail
    refine (awake_any _).mono ?_
    rintro e w2 ⟨rfl, hb2⟩
    go_wp2
    go_ret
    exact ⟨rfl, Ext.trans' hx1 hb2⟩
  | true =>
    have hlen : l.length ≤ 12000 := by have := HBB.out rfl l (by simp); omega
    go_wp2_with fail
    by_cases hok : LS.Ok ⟨i, t, l⟩
    · refine (New_ok i t a n c l _ HI.out HT.out (by exact HL.out.below hx1) hok).mono ?_
      rintro e w2 ⟨b, rfl, hled, hbw, hb2⟩
      have hx2 := Ext.trans' hx1 hb2
      have d0 := (hb2.cell (p := ⟨w.heap.size, 0, none⟩) c3).trans c0
      have d1 := (hb2.cell (p := ⟨w.heap.size, 1, none⟩) c3).trans c1
      have d2 := (hb2.cell (p := ⟨w.heap.size, 2, none⟩) c3).trans c2
      have d3 : w.heap.size < w2.heap.size := by have := hb2.size; omega
      have HLED := hid hled
      have HOK := hid hok
      clear hled c0 c1 c2 c3 hb2 hok
      go_wp2_with fail
      refine (RNew_ok i t a n c l _ HI.out HT.out (by exact HL.out.below hx2) HOK.out).mono ?_
      rintro e w3 ⟨b', rfl, href, hbw', hb3⟩
      have hx3 := Ext.trans' hx2 hb3
      have HL3 := hid (HLED.out.below hb3)
      have HR3 := hid href
      clear href d0 d1 d2 d3 hb3
      go_wp2_with fail
      refine (Term_at HL3.out HOK.out x HX.out).mono ?_
      rintro e w' ⟨rfl, k, rfl⟩
      go_wp2_with fail
      refine (RAt_at (HR3.out.drewN _) HOK.out x).mono ?_
      rintro e w4 ⟨rfl, hb4⟩
      have hb4 := ext_of_drewN hb4
      have hx4 := Ext.trans' hx3 hb4
      have HL4 := hid (HL3.out.below hb4)
      have HR4 := hid (HR3.out.below hb4)
      generalize ((LS.term ⟨i, t, l⟩ x).getD 0) = u at *
      generalize ((LS.term ⟨i, t, l⟩ x).isSome) = o at *
      clear hb4
      go_wp2_with fail
      refine (From_at HL4.out HOK.out x y HX.out HY.out).mono ?_
      rintro e w5 ⟨v, rfl, hown, hb5⟩
      obtain ⟨a5, c5, rfl, he5⟩ := hown.es
      have HE5 := hid he5
      have HR5 := hid (HR4.out.below hb5)
      have HL5 := hid (HL4.out.below hb5)
      have hx5 := Ext.trans' hx4 hb5
      clear hown he5 hb5
      go_wp2_with fail
      refine (RFrom_at HR5.out HOK.out x y HX.out HY.out).mono ?_
      rintro e w6 ⟨a6, c6, rfl, he6, hb6⟩
      have HE6 := hid he6
      have HF6 := hid (HE5.out.below hb6)
      have HR6 := hid (HR5.out.below hb6)
      have HL6 := hid (HL5.out.below hb6)
      have hx6 := Ext.trans' hx5 hb6
      clear he6 hb6
      generalize LS.from_ ⟨i, t, l⟩ x y = r at *
      go_wp2_with fail
      refine (Same_any _ HF6.out HE6.out).mono ?_
      rintro e w' ⟨rfl, k7, rfl⟩
      go_wp2_with fail
      refine (tells_at (HL6.out.drewN _) (HR6.out.drewN _) HOK.out hlen).mono ?_
      rintro e w8 ⟨rfl, hb8⟩
      have hx8 := Ext.trans' hx6 (ext_of_drewN hb8)
      go_wp2_with fail
      refine (awake_any _).mono ?_
      rintro e w9 ⟨rfl, hb9⟩
      go_wp2
      go_ret
      exact ⟨rfl, Ext.trans' hx8 hb9⟩
    · refine (New_bad i t a n c l _ HI.out (by exact HL.out.below hx1) hok).mono ?_
      rintro e w2 ⟨rfl, hb2⟩
      have hx2 := Ext.trans' hx1 hb2
      have d0 := (hb2.cell (p := ⟨w.heap.size, 0, none⟩) c3).trans c0
      have d1 := (hb2.cell (p := ⟨w.heap.size, 1, none⟩) c3).trans c1
      have d2 := (hb2.cell (p := ⟨w.heap.size, 2, none⟩) c3).trans c2
      have d3 : w.heap.size < w2.heap.size := by have := hb2.size; omega
      have HOK := hid hok
      clear c0 c1 c2 c3 hb2 hok
      go_wp2_with fail
      refine (RNew_bad i t a n c l _ HI.out (by exact HL.out.below hx2) HOK.out).mono ?_
      rintro e w3 ⟨rfl, hb3⟩
      go_wp2_with fail
      refine (awake_any _).mono ?_
      rintro e w4 ⟨rfl, hb4⟩
      go_wp2
      go_ret
      exact ⟨rfl, Ext.trans' hx2 (Ext.trans' hb3 hb4)⟩
end Go.Proofs.Ytjcmgkdlkadfmaa
