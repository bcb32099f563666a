/- The walk of the law LedgerRefused. -/
import Derived.Test.YtjcmgkdlkadfmaaLtwo
namespace Go.Proofs.Ytjcmgkdlkadfmaa
open Go.RowKit
set_option linter.unusedVariables false
set_option linter.unusedSimpArgs false
attribute [local go_sem] bmax2 bmin2 bmax_two bmin_two

set_option maxRecDepth 100000 in
set_option maxHeartbeats 2000000 in
theorem LedgerRefused_calls {F G : Nat → Prop} (i t : Int) (a : Option Addr) (n c : Nat) (l : List Ent) (op x y : Int) (a' : Option Addr) (n' c' : Nat) (l' : List Ent) (w : World) (hi : In64 i) (ht : In64 t) (hl : EsF F w a n c l)
    (ho : In64 op) (hx : In64 x) (hy : In64 y) (hl' : EsF G w a' n' c' l') :
    Calls Try.prog 9 #[baseV i t a n c, doV op x y a' n' c'] w fun e w' => e = .returned (.bool true) ∧ Ext w w' := by
  have HL := hid hl
  have HI := hid hi
  have HT := hid ht
  have HX := hid hx
  have HY := hid hy
  have HK := hid hl'
  clear hl hi ht hx hy hl'
  go_enter Try.func9, Try.ntmps9
  go_wp2_with fail
  have hx0 : Ext w ((w.alloc (.cells #[.int .i64 i, .int .i64 t, .slice a n c] 24)).alloc (.cells #[.int .i64 op, .int .i64 x, .int .i64 y, .slice a' n' c'] 59)) := Ext.trans' (ext_alloc _ _) (ext_alloc _ _)
  refine (light_any (fun _ => True) _ _ _ [l, l'] _ (by exact LLsF.two _ (HL.out.below hx0) (HK.out.below hx0) (by simp))).mono ?_
  rintro e w1 ⟨bb, rfl, hbb, hw1⟩
  obtain ⟨c0, c1, c2, hx1⟩ := base_do_cells w i t a n c op x y a' n' c' 24 59 22 (.slice a n c) (.slice a' n' c')
  rw [hw1] at hx1 c0 c1 c2
  clear hw1 hx0
  have HBB := hid hbb
  clear hbb
  cases bb with
  | false =>
    go_wp2_with fail
    refine (awake_any _).mono ?_
    rintro e w2 ⟨rfl, hb2⟩
    go_wp2
    go_ret
    exact ⟨rfl, Ext.trans' hx1 hb2⟩
  | true =>
    have hlen : l.length ≤ 200 := HBB.out rfl l (by simp)
    have hlen' : l'.length ≤ 200 := HBB.out rfl l' (by simp)
    have e0 : w1.cell? ⟨w.heap.size, 0, none⟩ = some (.int .i64 i) := by simp [World.cell?, c0]
    have e1 : w1.cell? ⟨w.heap.size, 1, none⟩ = some (.int .i64 t) := by simp [World.cell?, c0]
    have e2 : w1.cell? ⟨w.heap.size, 2, none⟩ = some (.slice a n c) := by simp [World.cell?, c0]
    have e3 : w.heap.size < w1.heap.size := by omega
    go_wp2_with fail
    by_cases hok : LS.Ok ⟨i, t, l⟩
    · refine (made_ok i t a n c l _ HI.out HT.out (by exact HL.out.below hx1) hok).mono ?_
      rintro e w2 ⟨b, b', rfl, hled, href, hb1, hb2, hbb, hx2⟩
      have d0 := (hx2.block _ c2).trans c1
      have hxw := Ext.trans' hx1 hx2
      have f0 : w2.cell? ⟨w.heap.size + 1, 0, none⟩ = some (.int .i64 op) := by simp [World.cell?, d0]
      have f1 : w2.cell? ⟨w.heap.size + 1, 1, none⟩ = some (.int .i64 x) := by simp [World.cell?, d0]
      have f2 : w2.cell? ⟨w.heap.size + 1, 2, none⟩ = some (.int .i64 y) := by simp [World.cell?, d0]
      have f3 : w2.cell? ⟨w.heap.size + 1, 3, none⟩ = some (.slice a' n' c') := by simp [World.cell?, d0]
      have f4 : w.heap.size + 1 < w2.heap.size := by have := hx2.size; omega
      have HLED := hid (hled.keep (G := fun k => k ≠ b ∧ k ≠ b') rfl (fun k hk _ => ⟨⟨hk.2.1, hk.2.2⟩, rfl⟩) (fun h => h.1 rfl))
      have HREF := hid href
      have HOK := hid hok
      have hbw : w.heap.size ≤ b := by have := hx1.size; omega
      have hsw := hxw.size
      clear hled href e0 e1 e2 e3 d0 c0 c1 c2 hok hbb hx2
      have HB1 := hid hb1
      have HB2 := hid hb2
      clear hb1 hb2
      go_wp2_with fail
      · refine (Add_any HLED.out (fun k hk => by have := HLED.out.lt; have := HREF.out.lt; omega) HOK.out (by exact HK.out.below hxw) (by dsimp only; omega)).mono ?_
        rintro e w3 ⟨z, rfl, ⟨hz, hg⟩ | ⟨hz, hg⟩⟩
        · have hx3 : Ext w w3 := hxw.grown hg hsw (fun q hq => by cases hq; exact hbw)
          go_wp2_with fail
          refine (awake_any _).mono ?_
          rintro e w4 ⟨rfl, hb4⟩
          go_wp2
          go_ret
          exact ⟨rfl, Ext.trans' hx3 hb4⟩
        · have hx3 := Ext.trans' hxw hg
          have HL3 := hid (HLED.out.below hg)
          have HR3 := hid (HREF.out.below hg)
          clear hg
          go_wp2_with fail
          refine (tells_at HL3.out HR3.out HOK.out (by dsimp only; omega)).mono ?_
          rintro e w4 ⟨rfl, hb4⟩
          go_wp2_with fail
          refine (awake_any _).mono ?_
          rintro e w5 ⟨rfl, hb5⟩
          go_wp2
          go_ret
          exact ⟨rfl, Ext.trans' hx3 (Ext.trans' hb4 hb5)⟩
      · refine (Cut_any HLED.out (fun k hk => by have := HLED.out.lt; have := HREF.out.lt; omega) HOK.out x).mono ?_
        rintro e w3 ⟨z, rfl, ⟨hz, hg⟩ | ⟨hz, hg⟩⟩
        · have hx3 : Ext w w3 := hxw.grown hg hsw (fun q hq => by cases hq; exact hbw)
          go_wp2_with fail
          refine (awake_any _).mono ?_
          rintro e w4 ⟨rfl, hb4⟩
          go_wp2
          go_ret
          exact ⟨rfl, Ext.trans' hx3 hb4⟩
        · have hx3 := Ext.trans' hxw hg
          have HL3 := hid (HLED.out.below hg)
          have HR3 := hid (HREF.out.below hg)
          clear hg
          go_wp2_with fail
          refine (tells_at HL3.out HR3.out HOK.out (by dsimp only; omega)).mono ?_
          rintro e w4 ⟨rfl, hb4⟩
          go_wp2_with fail
          refine (awake_any _).mono ?_
          rintro e w5 ⟨rfl, hb5⟩
          go_wp2
          go_ret
          exact ⟨rfl, Ext.trans' hx3 (Ext.trans' hb4 hb5)⟩
      · refine (Rebase_any HLED.out (fun k hk => by have := HLED.out.lt; have := HREF.out.lt; omega) HOK.out x y HX.out).mono ?_
        rintro e w3 ⟨z, rfl, ⟨hz, hg⟩ | ⟨hz, hg⟩⟩
        · have hx3 : Ext w w3 := hxw.grown hg hsw (fun q hq => by cases hq; exact hbw)
          go_wp2_with fail
          refine (awake_any _).mono ?_
          rintro e w4 ⟨rfl, hb4⟩
          go_wp2
          go_ret
          exact ⟨rfl, Ext.trans' hx3 hb4⟩
        · have hx3 := Ext.trans' hxw hg
          have HL3 := hid (HLED.out.below hg)
          have HR3 := hid (HREF.out.below hg)
          clear hg
          go_wp2_with fail
          refine (tells_at HL3.out HR3.out HOK.out (by dsimp only; omega)).mono ?_
          rintro e w4 ⟨rfl, hb4⟩
          go_wp2_with fail
          refine (awake_any _).mono ?_
          rintro e w5 ⟨rfl, hb5⟩
          go_wp2
          go_ret
          exact ⟨rfl, Ext.trans' hx3 (Ext.trans' hb4 hb5)⟩
    · refine (made_bad i t a n c l _ HI.out (by exact HL.out.below hx1) hok).mono ?_
      rintro e w2 ⟨rfl, hx2⟩
      go_wp2_with fail
      refine (awake_any _).mono ?_
      rintro e w3 ⟨rfl, hb3⟩
      go_wp2
      go_ret
      exact ⟨rfl, Ext.trans' hx1 (Ext.trans' hx2 hb3)⟩
end Go.Proofs.Ytjcmgkdlkadfmaa
