/- The walk of WalRebased. Printed by gen_wk4.py. -/
import Derived.Test.YtikjckdoldiddaaGreatDoorCWk3
import Derived.Test.YtikjckdoldiddaaGreatDoorC00
namespace Go.Proofs.YtikjckdoldiddaaGreatDoor
open Go.RowKit Go.Maps
set_option linter.unusedVariables false
set_option linter.unusedSimpArgs false
attribute [local go_sem] bmax2 bmin2 bmax_two bmin_two

set_option maxRecDepth 100000 in
set_option maxHeartbeats 16000000 in
theorem WalRebased_calls {w : World} {a : Option Addr} {n c : Nat} {D : List DoW} (hD : DosF (fun _ => True) w a n c D) (index : Int) (hix : In64 index) (term : Int) (htm : In64 term) (hT : TabP w) :
    Calls Tryz.prog 5 #[.slice a n c, .int .i64 index, .int .i64 term] w (Answer w) := by
  have HS := hid (short_any hD)
  have HD := hid hD.own
  have H64 := hid hD.t64
  have HT := hid hT
  have HAW := hid (fun W (hW : Ext w W) => awake_any (hT.ext hW))
  have HBG := hid (begun_any hT (room := 16777216) (by decide) (by decide))
  have HK := hid (And.intro hix htm)
  clear hD hT hix htm
  go_enter Tryz.func5, Tryz.ntmps5
  go_wp2_with fail
  refine Calls.mono HS.out ?_
  rintro e w ⟨bb, rfl, hbb, rfl⟩
  cases bb with
  | false =>
    clear hbb
    go_wp2_with fail
    refine Calls.mono (HAW.out w (Below.refl _ _)) ?_
    rintro e w1 ⟨rfl, hx⟩
    have HX := hid hx
    clear hx
    go_wp2
    go_ret
    exact ⟨rfl, HX.out⟩
  | true =>
    obtain ⟨hD60, hDW⟩ := hbb rfl
    obtain ⟨b1, b2, b3, b4⟩ := began (room := 16777216) (by decide) (by decide) H64.out hD60 hDW
    have HBE := hid (And.intro b1 (And.intro b2 (And.intro b3 b4)))
    have HDB := hid (And.intro hD60 hDW)
    clear hbb hD60 hDW b1 b2 b3 b4 HS
    go_wp2_with fail
    refine Calls.mono HBG.out ?_
    rintro e w1 ⟨dg, g, A1, rfl, hl1, hA1, hx1⟩
    have hpl := play_any hl1 (lo0_fit (room := 16777216) (by decide) (by decide)) (by decide) (by decide) (HD.out.below hx1) (fun q hq hA => by have := hA1 q hA; omega) HDB.out.1 HDB.out.2 (HT.out.ext hx1) (pow_fresh HT.out hA1)
    have HPL := hid hpl
    have HX1 := hid hx1
    have HA1 := hid hA1
    clear hl1 hA1 hx1 hpl HBG
    go_wp2_with fail
    refine Calls.mono HPL.out ?_
    rintro e w2 ⟨val, rfl, hpi⟩
    obtain ⟨hx2, A2, hl2, hA2, -, -⟩ := hpi.fresh HX1.out HA1.out
    obtain ⟨v, hv⟩ : ∃ v, v = playV (lo0 16777216) [(lo0 16777216).s.v] D := ⟨_, rfl⟩
    have hbe := HBE.out
    rw [← hv] at hl2 hbe
    clear hv
    obtain ⟨u, L⟩ := v
    dsimp only at hl2 hbe
    obtain ⟨g1, g2, g3, g4⟩ := hbe
    have hend := rebase_end g1 g2 g3 g4 index term
    have hsnd := g1.gd.1
    have hva := view_any hl2
    obtain ⟨uv, huv⟩ : ∃ uv, uv = u.s.v := ⟨_, rfl⟩
    have HUV := hid huv.symm
    rw [← huv] at hend hsnd hva
    have hi := within_big hsnd.i
    have HVA := hid hva
    have HL2 := hid hl2
    have HFIT := hid g4
    have HX2 := hid hx2
    have HA2 := hid hA2
    have HEND := hid hend
    have HSN := hid hsnd
    have HI := hid hi
    clear hpi hx2 hl2 hA2 g1 g2 g3 g4 hend hsnd hva huv hi HPL HA1 HX1 HBE
    go_wp2_with fail
    refine Calls.mono HVA.out ?_
    rintro e w3 ⟨a3, n3, c3, rfl, he3, hx3⟩
    have hx34 := ext_alloc w3 (.cells #[.int .i64 uv.ht, .int .i64 uv.hv, .int .i64 uv.i, .int .i64 uv.t, .slice a3 n3 c3] 42)
    have hn4 := heap_alloc_new w3 (.cells #[.int .i64 uv.ht, .int .i64 uv.hv, .int .i64 uv.i, .int .i64 uv.t, .slice a3 n3 c3] 42)
    have hx24 := hx3.trans' hx34
    have HX4 := hid (HX2.out.trans' hx24)
    have HRB := hid (LRebase_any (HL2.out.below hx24) HFIT.out (by decide) (by decide) index term HK.out.1 HK.out.2 (HT.out.ext HX4.out) (pow_fresh HT.out HA2.out))
    have hPA : ¬ A2 w3.heap.size := fun h => by have h1 := HL2.out.lt _ h; have := hx3.size; omega
    have heA : EsF (fun q => q < w3.heap.size ∧ ¬ A2 q) w3 a3 n3 c3 uv.l := he3.more fun q hq => ⟨hq.2, fun h => by have h1 := HL2.out.lt _ h; omega⟩
    have HPA := hid hPA
    have HE4 := hid (heA.keep (w' := w3.alloc (.cells #[.int .i64 uv.ht, .int .i64 uv.hv, .int .i64 uv.i, .int .i64 uv.t, .slice a3 n3 c3] 42)) (G := fun q => ¬ A2 q) fun q hq hl => ⟨hq.2, hx34.block q hl⟩)
    have HN4 := hid hn4
    clear he3 hx3 hx34 hn4 hx24 hPA heA HVA HL2 HX2 HFIT
    dsimp only [vwV]
    go_wp2_with fail
    generalize w3.alloc (.cells #[.int .i64 uv.ht, .int .i64 uv.hv, .int .i64 uv.i, .int .i64 uv.t, .slice a3 n3 c3] 42) = w4 at *
    obtain ⟨P, hP⟩ : ∃ P, P = w3.heap.size := ⟨_, rfl⟩
    rw [← hP] at HN4 HPA ⊢
    clear hP
    refine Calls.mono HRB.out ?_
    rintro e w5 hp
    obtain ⟨hx5, hl5, hA5⟩ := LoPost.ext HX4.out HA2.out hp
    obtain ⟨rfl, -, hf5⟩ := hp
    have hP4 := (Array.getElem?_eq_some_iff.1 HN4.out).1
    have hP5 := (hf5.block P hP4 HPA.out).trans HN4.out
    have HE5 := hid (HE4.out.keep (G := fun _ => True) fun q hq hl => ⟨trivial, hf5.block q hl hq⟩)
    have HP5 := hid hP5
    have HX5 := hid hx5
    have HPL5 := hid (show P < w5.heap.size from (Array.getElem?_eq_some_iff.1 hP5).1)
    have HI0 := hid (show n3 = uv.l.length ∧ n3 * 40 ≤ 140737488351232 from ⟨HE4.out.1, HE4.out.2.2.1.2⟩)
    rcases HEND.out with ⟨hr, hC⟩ | ⟨hC, hr0, hrv⟩
    · rw [hr] at hl5 ⊢
      have HVB := hid (fun W (hW : Ext w5 W) => view_any (hl5.below hW))
      have HCP := hid (fun (W : World) (hW : Ext w5 W) => (cells5 ((hW.block P HPL5.out).trans HP5.out)).1)
      obtain ⟨⟨p0, p1, p2, p3, p4⟩, pfz, pl⟩ := cells5 hP5
      have hC4 : (index < uv.i) ∨ (¬ index < uv.i ∧ 1099511627776 < index) ∨ (¬ index < uv.i ∧ ¬ 1099511627776 < index ∧ term < 0) ∨ (¬ index < uv.i ∧ ¬ 1099511627776 < index ∧ ¬ term < 0 ∧ 1099511627776 < term) := by omega
      clear hr hC hx5 hl5 hA5 hf5 hP4 hP5 pfz HRB HEND HN4 HE4 HA2
      dsimp only
      rcases hC4 with hc1 | ⟨hc1, hc2⟩ | ⟨hc1, hc2, hc3⟩ | ⟨hc1, hc2, hc3, hc4⟩
      · go_wp2
        clear p0 p1 p2 p3 p4
        have y0 : Ext w5 w5.drew := ext_drew w5
        refine wp_region_held_drew (S := fun W => Ext w5 W) (by kernel_rfl) y0 (fun hH => ?_)
        clear hH
        refine held_run (i := 0) (v := .int .i64 51) rfl (by kernel_rfl) (by kernel_rfl) (by kernel_rfl) (fun _ _ _ h => h) (by rfl) y0 (fun W hW => ?_) ?_
        · (clear hW; go_simp)
        try simp only [Act.put, List.setIfInBounds_toArray, List.set_cons_zero, List.set_cons_succ]
        refine held_run (i := 1) (v := .bool true) rfl (by kernel_rfl) (by kernel_rfl) (by kernel_rfl) (fun _ _ _ h => h) (by rfl) y0 (fun W hW => ?_) ?_
        · (clear hW; go_simp)
        try simp only [Act.put, List.setIfInBounds_toArray, List.set_cons_zero, List.set_cons_succ]
        refine held_run (i := 2) (v := .bool true) rfl (by kernel_rfl) (by kernel_rfl) (by kernel_rfl) (fun _ _ _ h => h) (by rfl) y0 (fun W hW => ?_) ?_
        · (clear hW; go_simp)
        try simp only [Act.put, List.setIfInBounds_toArray, List.set_cons_zero, List.set_cons_succ]
        refine held_run (i := 3) (v := .pointer (some ⟨g, 0, none⟩)) rfl (by kernel_rfl) (by kernel_rfl) (by kernel_rfl) (fun _ _ _ h => h) (by rfl) y0 (fun W hW => ?_) ?_
        · (clear hW; go_simp)
        try simp only [Act.put, List.setIfInBounds_toArray, List.set_cons_zero, List.set_cons_succ]
        refine held_run (i := 5) (v := .agg #[.int .i64 uv.ht, .int .i64 uv.hv, .int .i64 uv.i, .int .i64 uv.t, .slice a3 n3 c3]) rfl (by kernel_rfl) (by kernel_rfl) (by kernel_rfl) (fun _ _ _ h => h) (by rfl) y0 (fun W hW => ?_) ?_
        · (obtain ⟨r0, r1, r2, r3, r4⟩ := HCP.out W hW; clear hW; go_simp)
        try simp only [Act.put, List.setIfInBounds_toArray, List.set_cons_zero, List.set_cons_succ]
        refine wpAnyH_ready (rs := [4]) (by kernel_rfl) (by simp) ?_
        refine held_cons (i := 4) rfl (fun K hK => ?_)
        go_simp
        go_at_call 19
        refine Calls.mono (HVB.out _ y0) ?_
        rintro e w8 ⟨a8, n8, c8, rfl, he8, hx8⟩
        have y1 : Ext w5 w8 := y0.trans' hx8
        have HE8 := hid he8
        clear he8 hx8
        dsimp only [vwV]
        refine hK.out _ _ y1 (fun hH => ?_)
        clear hK K y0 hH
        have y0 := y1
        clear y1
        try simp only [Act.put, List.setIfInBounds_toArray, List.set_cons_zero, List.set_cons_succ]
        refine wpAnyH_ready (rs := [6]) (by kernel_rfl) (by simp) ?_
        refine held_cons (i := 6) rfl (fun K hK => ?_)
        go_simp
        go_at_call 22
        refine Calls.mono (sameV_any HE8.out (HE5.out.below y0)) ?_
        rintro e w9 ⟨bb, rfl, hbb, hx9⟩
        have y1 : Ext w5 w9 := y0.trans' hx9
        have hbt : bb = true := hbb.2 HUV.out
        subst hbt
        clear hbb hx9
        dsimp only
        refine hK.out _ _ y1 (fun hH => ?_)
        clear hK K y0 hH
        have y0 := y1
        clear y1
        try simp only [Act.put, List.setIfInBounds_toArray, List.set_cons_zero, List.set_cons_succ]
        refine held_run (i := 7) (v := .bool true) rfl (by kernel_rfl) (by kernel_rfl) (by kernel_rfl) (fun _ _ _ h => h) (by rfl) y0 (fun W hW => ?_) ?_
        · (clear hW; go_simp)
        try simp only [Act.put, List.setIfInBounds_toArray, List.set_cons_zero, List.set_cons_succ]
        refine held_run (i := 8) (v := .bool true) rfl (by kernel_rfl) (by kernel_rfl) (by kernel_rfl) (fun _ _ _ h => h) (by rfl) y0 (fun W hW => ?_) ?_
        · (clear hW; go_simp)
        try simp only [Act.put, List.setIfInBounds_toArray, List.set_cons_zero, List.set_cons_succ]
        refine wpAnyH_ready (rs := [9]) (by kernel_rfl) (by simp) ?_
        refine held_cons (i := 9) rfl (fun K hK => ?_)
        go_simp
        go_at_call 13
        refine Calls.mono (HAW.out _ (HX5.out.trans' y0)) ?_
        rintro e w10 ⟨rfl, hx⟩
        have y1 : Ext w5 w10 := y0.trans' hx
        clear hx
        dsimp only
        refine hK.out _ _ y1 (fun hH => ?_)
        clear hK K y0 hH
        have y0 := y1
        clear y1
        try simp only [Act.put, List.setIfInBounds_toArray, List.set_cons_zero, List.set_cons_succ]
        refine held_run (i := 10) (v := .bool true) rfl (by kernel_rfl) (by kernel_rfl) (by kernel_rfl) (fun _ _ _ h => h) (by rfl) y0 (fun W hW => ?_) ?_
        · (clear hW; go_simp)
        try simp only [Act.put, List.setIfInBounds_toArray, List.set_cons_zero, List.set_cons_succ]
        refine held_run (i := 11) (v := .bool true) rfl (by kernel_rfl) (by kernel_rfl) (by kernel_rfl) (fun _ _ _ h => h) (by rfl) y0 (fun W hW => ?_) ?_
        · (clear hW; go_simp)
        try simp only [Act.put, List.setIfInBounds_toArray, List.set_cons_zero, List.set_cons_succ]
        refine wpAnyH_done (by kernel_rfl) ?_ _
        have HY := hid y0
        clear y0
        go_wp2
        go_ret
        exact ⟨rfl, HX5.out.trans' HY.out⟩
      · go_wp2
        clear p0 p1 p2 p3 p4
        have y0 : Ext w5 w5.drew := ext_drew w5
        refine wp_region_held_drew (S := fun W => Ext w5 W) (by kernel_rfl) y0 (fun hH => ?_)
        clear hH
        refine held_run (i := 0) (v := .int .i64 51) rfl (by kernel_rfl) (by kernel_rfl) (by kernel_rfl) (fun _ _ _ h => h) (by rfl) y0 (fun W hW => ?_) ?_
        · (clear hW; go_simp)
        try simp only [Act.put, List.setIfInBounds_toArray, List.set_cons_zero, List.set_cons_succ]
        refine held_run (i := 1) (v := .bool true) rfl (by kernel_rfl) (by kernel_rfl) (by kernel_rfl) (fun _ _ _ h => h) (by rfl) y0 (fun W hW => ?_) ?_
        · (clear hW; go_simp)
        try simp only [Act.put, List.setIfInBounds_toArray, List.set_cons_zero, List.set_cons_succ]
        refine held_run (i := 2) (v := .bool true) rfl (by kernel_rfl) (by kernel_rfl) (by kernel_rfl) (fun _ _ _ h => h) (by rfl) y0 (fun W hW => ?_) ?_
        · (clear hW; go_simp)
        try simp only [Act.put, List.setIfInBounds_toArray, List.set_cons_zero, List.set_cons_succ]
        refine held_run (i := 3) (v := .pointer (some ⟨g, 0, none⟩)) rfl (by kernel_rfl) (by kernel_rfl) (by kernel_rfl) (fun _ _ _ h => h) (by rfl) y0 (fun W hW => ?_) ?_
        · (clear hW; go_simp)
        try simp only [Act.put, List.setIfInBounds_toArray, List.set_cons_zero, List.set_cons_succ]
        refine held_run (i := 5) (v := .agg #[.int .i64 uv.ht, .int .i64 uv.hv, .int .i64 uv.i, .int .i64 uv.t, .slice a3 n3 c3]) rfl (by kernel_rfl) (by kernel_rfl) (by kernel_rfl) (fun _ _ _ h => h) (by rfl) y0 (fun W hW => ?_) ?_
        · (obtain ⟨r0, r1, r2, r3, r4⟩ := HCP.out W hW; clear hW; go_simp)
        try simp only [Act.put, List.setIfInBounds_toArray, List.set_cons_zero, List.set_cons_succ]
        refine wpAnyH_ready (rs := [4]) (by kernel_rfl) (by simp) ?_
        refine held_cons (i := 4) rfl (fun K hK => ?_)
        go_simp
        go_at_call 19
        refine Calls.mono (HVB.out _ y0) ?_
        rintro e w8 ⟨a8, n8, c8, rfl, he8, hx8⟩
        have y1 : Ext w5 w8 := y0.trans' hx8
        have HE8 := hid he8
        clear he8 hx8
        dsimp only [vwV]
        refine hK.out _ _ y1 (fun hH => ?_)
        clear hK K y0 hH
        have y0 := y1
        clear y1
        try simp only [Act.put, List.setIfInBounds_toArray, List.set_cons_zero, List.set_cons_succ]
        refine wpAnyH_ready (rs := [6]) (by kernel_rfl) (by simp) ?_
        refine held_cons (i := 6) rfl (fun K hK => ?_)
        go_simp
        go_at_call 22
        refine Calls.mono (sameV_any HE8.out (HE5.out.below y0)) ?_
        rintro e w9 ⟨bb, rfl, hbb, hx9⟩
        have y1 : Ext w5 w9 := y0.trans' hx9
        have hbt : bb = true := hbb.2 HUV.out
        subst hbt
        clear hbb hx9
        dsimp only
        refine hK.out _ _ y1 (fun hH => ?_)
        clear hK K y0 hH
        have y0 := y1
        clear y1
        try simp only [Act.put, List.setIfInBounds_toArray, List.set_cons_zero, List.set_cons_succ]
        refine held_run (i := 7) (v := .bool true) rfl (by kernel_rfl) (by kernel_rfl) (by kernel_rfl) (fun _ _ _ h => h) (by rfl) y0 (fun W hW => ?_) ?_
        · (clear hW; go_simp)
        try simp only [Act.put, List.setIfInBounds_toArray, List.set_cons_zero, List.set_cons_succ]
        refine held_run (i := 8) (v := .bool true) rfl (by kernel_rfl) (by kernel_rfl) (by kernel_rfl) (fun _ _ _ h => h) (by rfl) y0 (fun W hW => ?_) ?_
        · (clear hW; go_simp)
        try simp only [Act.put, List.setIfInBounds_toArray, List.set_cons_zero, List.set_cons_succ]
        refine wpAnyH_ready (rs := [9]) (by kernel_rfl) (by simp) ?_
        refine held_cons (i := 9) rfl (fun K hK => ?_)
        go_simp
        go_at_call 13
        refine Calls.mono (HAW.out _ (HX5.out.trans' y0)) ?_
        rintro e w10 ⟨rfl, hx⟩
        have y1 : Ext w5 w10 := y0.trans' hx
        clear hx
        dsimp only
        refine hK.out _ _ y1 (fun hH => ?_)
        clear hK K y0 hH
        have y0 := y1
        clear y1
        try simp only [Act.put, List.setIfInBounds_toArray, List.set_cons_zero, List.set_cons_succ]
        refine held_run (i := 10) (v := .bool true) rfl (by kernel_rfl) (by kernel_rfl) (by kernel_rfl) (fun _ _ _ h => h) (by rfl) y0 (fun W hW => ?_) ?_
        · (clear hW; go_simp)
        try simp only [Act.put, List.setIfInBounds_toArray, List.set_cons_zero, List.set_cons_succ]
        refine held_run (i := 11) (v := .bool true) rfl (by kernel_rfl) (by kernel_rfl) (by kernel_rfl) (fun _ _ _ h => h) (by rfl) y0 (fun W hW => ?_) ?_
        · (clear hW; go_simp)
        try simp only [Act.put, List.setIfInBounds_toArray, List.set_cons_zero, List.set_cons_succ]
        refine wpAnyH_done (by kernel_rfl) ?_ _
        have HY := hid y0
        clear y0
        go_wp2
        go_ret
        exact ⟨rfl, HX5.out.trans' HY.out⟩
      · go_wp2
        clear p0 p1 p2 p3 p4
        have y0 : Ext w5 w5.drew := ext_drew w5
        refine wp_region_held_drew (S := fun W => Ext w5 W) (by kernel_rfl) y0 (fun hH => ?_)
        clear hH
        refine held_run (i := 0) (v := .int .i64 51) rfl (by kernel_rfl) (by kernel_rfl) (by kernel_rfl) (fun _ _ _ h => h) (by rfl) y0 (fun W hW => ?_) ?_
        · (clear hW; go_simp)
        try simp only [Act.put, List.setIfInBounds_toArray, List.set_cons_zero, List.set_cons_succ]
        refine held_run (i := 1) (v := .bool true) rfl (by kernel_rfl) (by kernel_rfl) (by kernel_rfl) (fun _ _ _ h => h) (by rfl) y0 (fun W hW => ?_) ?_
        · (clear hW; go_simp)
        try simp only [Act.put, List.setIfInBounds_toArray, List.set_cons_zero, List.set_cons_succ]
        refine held_run (i := 2) (v := .bool true) rfl (by kernel_rfl) (by kernel_rfl) (by kernel_rfl) (fun _ _ _ h => h) (by rfl) y0 (fun W hW => ?_) ?_
        · (clear hW; go_simp)
        try simp only [Act.put, List.setIfInBounds_toArray, List.set_cons_zero, List.set_cons_succ]
        refine held_run (i := 3) (v := .pointer (some ⟨g, 0, none⟩)) rfl (by kernel_rfl) (by kernel_rfl) (by kernel_rfl) (fun _ _ _ h => h) (by rfl) y0 (fun W hW => ?_) ?_
        · (clear hW; go_simp)
        try simp only [Act.put, List.setIfInBounds_toArray, List.set_cons_zero, List.set_cons_succ]
        refine held_run (i := 5) (v := .agg #[.int .i64 uv.ht, .int .i64 uv.hv, .int .i64 uv.i, .int .i64 uv.t, .slice a3 n3 c3]) rfl (by kernel_rfl) (by kernel_rfl) (by kernel_rfl) (fun _ _ _ h => h) (by rfl) y0 (fun W hW => ?_) ?_
        · (obtain ⟨r0, r1, r2, r3, r4⟩ := HCP.out W hW; clear hW; go_simp)
        try simp only [Act.put, List.setIfInBounds_toArray, List.set_cons_zero, List.set_cons_succ]
        refine wpAnyH_ready (rs := [4]) (by kernel_rfl) (by simp) ?_
        refine held_cons (i := 4) rfl (fun K hK => ?_)
        go_simp
        go_at_call 19
        refine Calls.mono (HVB.out _ y0) ?_
        rintro e w8 ⟨a8, n8, c8, rfl, he8, hx8⟩
        have y1 : Ext w5 w8 := y0.trans' hx8
        have HE8 := hid he8
        clear he8 hx8
        dsimp only [vwV]
        refine hK.out _ _ y1 (fun hH => ?_)
        clear hK K y0 hH
        have y0 := y1
        clear y1
        try simp only [Act.put, List.setIfInBounds_toArray, List.set_cons_zero, List.set_cons_succ]
        refine wpAnyH_ready (rs := [6]) (by kernel_rfl) (by simp) ?_
        refine held_cons (i := 6) rfl (fun K hK => ?_)
        go_simp
        go_at_call 22
        refine Calls.mono (sameV_any HE8.out (HE5.out.below y0)) ?_
        rintro e w9 ⟨bb, rfl, hbb, hx9⟩
        have y1 : Ext w5 w9 := y0.trans' hx9
        have hbt : bb = true := hbb.2 HUV.out
        subst hbt
        clear hbb hx9
        dsimp only
        refine hK.out _ _ y1 (fun hH => ?_)
        clear hK K y0 hH
        have y0 := y1
        clear y1
        try simp only [Act.put, List.setIfInBounds_toArray, List.set_cons_zero, List.set_cons_succ]
        refine held_run (i := 7) (v := .bool true) rfl (by kernel_rfl) (by kernel_rfl) (by kernel_rfl) (fun _ _ _ h => h) (by rfl) y0 (fun W hW => ?_) ?_
        · (clear hW; go_simp)
        try simp only [Act.put, List.setIfInBounds_toArray, List.set_cons_zero, List.set_cons_succ]
        refine held_run (i := 8) (v := .bool true) rfl (by kernel_rfl) (by kernel_rfl) (by kernel_rfl) (fun _ _ _ h => h) (by rfl) y0 (fun W hW => ?_) ?_
        · (clear hW; go_simp)
        try simp only [Act.put, List.setIfInBounds_toArray, List.set_cons_zero, List.set_cons_succ]
        refine wpAnyH_ready (rs := [9]) (by kernel_rfl) (by simp) ?_
        refine held_cons (i := 9) rfl (fun K hK => ?_)
        go_simp
        go_at_call 13
        refine Calls.mono (HAW.out _ (HX5.out.trans' y0)) ?_
        rintro e w10 ⟨rfl, hx⟩
        have y1 : Ext w5 w10 := y0.trans' hx
        clear hx
        dsimp only
        refine hK.out _ _ y1 (fun hH => ?_)
        clear hK K y0 hH
        have y0 := y1
        clear y1
        try simp only [Act.put, List.setIfInBounds_toArray, List.set_cons_zero, List.set_cons_succ]
        refine held_run (i := 10) (v := .bool true) rfl (by kernel_rfl) (by kernel_rfl) (by kernel_rfl) (fun _ _ _ h => h) (by rfl) y0 (fun W hW => ?_) ?_
        · (clear hW; go_simp)
        try simp only [Act.put, List.setIfInBounds_toArray, List.set_cons_zero, List.set_cons_succ]
        refine held_run (i := 11) (v := .bool true) rfl (by kernel_rfl) (by kernel_rfl) (by kernel_rfl) (fun _ _ _ h => h) (by rfl) y0 (fun W hW => ?_) ?_
        · (clear hW; go_simp)
        try simp only [Act.put, List.setIfInBounds_toArray, List.set_cons_zero, List.set_cons_succ]
        refine wpAnyH_done (by kernel_rfl) ?_ _
        have HY := hid y0
        clear y0
        go_wp2
        go_ret
        exact ⟨rfl, HX5.out.trans' HY.out⟩
      go_wp2
      clear p0 p1 p2 p3 p4
      have y0 : Ext w5 w5.drew := ext_drew w5
      refine wp_region_held_drew (S := fun W => Ext w5 W) (by kernel_rfl) y0 (fun hH => ?_)
      clear hH
      refine held_run (i := 0) (v := .int .i64 51) rfl (by kernel_rfl) (by kernel_rfl) (by kernel_rfl) (fun _ _ _ h => h) (by rfl) y0 (fun W hW => ?_) ?_
      · (clear hW; go_simp)
      try simp only [Act.put, List.setIfInBounds_toArray, List.set_cons_zero, List.set_cons_succ]
      refine held_run (i := 1) (v := .bool true) rfl (by kernel_rfl) (by kernel_rfl) (by kernel_rfl) (fun _ _ _ h => h) (by rfl) y0 (fun W hW => ?_) ?_
      · (clear hW; go_simp)
      try simp only [Act.put, List.setIfInBounds_toArray, List.set_cons_zero, List.set_cons_succ]
      refine held_run (i := 2) (v := .bool true) rfl (by kernel_rfl) (by kernel_rfl) (by kernel_rfl) (fun _ _ _ h => h) (by rfl) y0 (fun W hW => ?_) ?_
      · (clear hW; go_simp)
      try simp only [Act.put, List.setIfInBounds_toArray, List.set_cons_zero, List.set_cons_succ]
      refine held_run (i := 3) (v := .pointer (some ⟨g, 0, none⟩)) rfl (by kernel_rfl) (by kernel_rfl) (by kernel_rfl) (fun _ _ _ h => h) (by rfl) y0 (fun W hW => ?_) ?_
      · (clear hW; go_simp)
      try simp only [Act.put, List.setIfInBounds_toArray, List.set_cons_zero, List.set_cons_succ]
      refine held_run (i := 5) (v := .agg #[.int .i64 uv.ht, .int .i64 uv.hv, .int .i64 uv.i, .int .i64 uv.t, .slice a3 n3 c3]) rfl (by kernel_rfl) (by kernel_rfl) (by kernel_rfl) (fun _ _ _ h => h) (by rfl) y0 (fun W hW => ?_) ?_
      · (obtain ⟨r0, r1, r2, r3, r4⟩ := HCP.out W hW; clear hW; go_simp)
      try simp only [Act.put, List.setIfInBounds_toArray, List.set_cons_zero, List.set_cons_succ]
      refine wpAnyH_ready (rs := [4]) (by kernel_rfl) (by simp) ?_
      refine held_cons (i := 4) rfl (fun K hK => ?_)
      go_simp
      go_at_call 19
      refine Calls.mono (HVB.out _ y0) ?_
      rintro e w8 ⟨a8, n8, c8, rfl, he8, hx8⟩
      have y1 : Ext w5 w8 := y0.trans' hx8
      have HE8 := hid he8
      clear he8 hx8
      dsimp only [vwV]
      refine hK.out _ _ y1 (fun hH => ?_)
      clear hK K y0 hH
      have y0 := y1
      clear y1
      try simp only [Act.put, List.setIfInBounds_toArray, List.set_cons_zero, List.set_cons_succ]
      refine wpAnyH_ready (rs := [6]) (by kernel_rfl) (by simp) ?_
      refine held_cons (i := 6) rfl (fun K hK => ?_)
      go_simp
      go_at_call 22
      refine Calls.mono (sameV_any HE8.out (HE5.out.below y0)) ?_
      rintro e w9 ⟨bb, rfl, hbb, hx9⟩
      have y1 : Ext w5 w9 := y0.trans' hx9
      have hbt : bb = true := hbb.2 HUV.out
      subst hbt
      clear hbb hx9
      dsimp only
      refine hK.out _ _ y1 (fun hH => ?_)
      clear hK K y0 hH
      have y0 := y1
      clear y1
      try simp only [Act.put, List.setIfInBounds_toArray, List.set_cons_zero, List.set_cons_succ]
      refine held_run (i := 7) (v := .bool true) rfl (by kernel_rfl) (by kernel_rfl) (by kernel_rfl) (fun _ _ _ h => h) (by rfl) y0 (fun W hW => ?_) ?_
      · (clear hW; go_simp)
      try simp only [Act.put, List.setIfInBounds_toArray, List.set_cons_zero, List.set_cons_succ]
      refine held_run (i := 8) (v := .bool true) rfl (by kernel_rfl) (by kernel_rfl) (by kernel_rfl) (fun _ _ _ h => h) (by rfl) y0 (fun W hW => ?_) ?_
      · (clear hW; go_simp)
      try simp only [Act.put, List.setIfInBounds_toArray, List.set_cons_zero, List.set_cons_succ]
      refine wpAnyH_ready (rs := [9]) (by kernel_rfl) (by simp) ?_
      refine held_cons (i := 9) rfl (fun K hK => ?_)
      go_simp
      go_at_call 13
      refine Calls.mono (HAW.out _ (HX5.out.trans' y0)) ?_
      rintro e w10 ⟨rfl, hx⟩
      have y1 : Ext w5 w10 := y0.trans' hx
      clear hx
      dsimp only
      refine hK.out _ _ y1 (fun hH => ?_)
      clear hK K y0 hH
      have y0 := y1
      clear y1
      try simp only [Act.put, List.setIfInBounds_toArray, List.set_cons_zero, List.set_cons_succ]
      refine held_run (i := 10) (v := .bool true) rfl (by kernel_rfl) (by kernel_rfl) (by kernel_rfl) (fun _ _ _ h => h) (by rfl) y0 (fun W hW => ?_) ?_
      · (clear hW; go_simp)
      try simp only [Act.put, List.setIfInBounds_toArray, List.set_cons_zero, List.set_cons_succ]
      refine held_run (i := 11) (v := .bool true) rfl (by kernel_rfl) (by kernel_rfl) (by kernel_rfl) (fun _ _ _ h => h) (by rfl) y0 (fun W hW => ?_) ?_
      · (clear hW; go_simp)
      try simp only [Act.put, List.setIfInBounds_toArray, List.set_cons_zero, List.set_cons_succ]
      refine wpAnyH_done (by kernel_rfl) ?_ _
      have HY := hid y0
      clear y0
      go_wp2
      go_ret
      exact ⟨rfl, HX5.out.trans' HY.out⟩
    rw [hr0]
    obtain ⟨hc1, hc2, hc3, hc4⟩ : ¬ index < uv.i ∧ ¬ 1099511627776 < index ∧ ¬ term < 0 ∧ ¬ 1099511627776 < term := by omega
    obtain ⟨M, hM⟩ : ∃ M, M = if uv.at_ index = term ∧ index ≤ uv.last then uv.l.drop (index - uv.i).toNat else [] := ⟨_, rfl⟩
    have hnv : (u.rebase index term).2.s.v = ⟨uv.ht, uv.hv, index, term, M⟩ := by rw [hrv, hM]; rfl
    have hvb := view_any hl5
    rw [hnv] at hvb
    have HVB := hid hvb
    have HM := hid hM
    have HCI := hid (show uv.i ≤ index ∧ index ≤ 1099511627776 by omega)
    obtain ⟨⟨p0, p1, p2, p3, p4⟩, pfz, pl⟩ := cells5 hP5
    clear hr0 hrv hnv hvb hM hC hx5 hl5 hA5 hf5 hP4 hP5 pfz HRB HEND HN4 HE4 HA2
    go_wp2_with fail
    refine Calls.mono HVB.out ?_
    rintro e w6 ⟨a6, n6, c6, rfl, he6, hx6⟩
    dsimp only [vwV]
    have hx67 := ext_alloc w6 (.cells #[.int .i64 uv.ht, .int .i64 uv.hv, .int .i64 index, .int .i64 term, .slice a6 n6 c6] 42)
    have hn7 := heap_alloc_new w6 (.cells #[.int .i64 uv.ht, .int .i64 uv.hv, .int .i64 index, .int .i64 term, .slice a6 n6 c6] 42)
    have hx57 := hx6.trans' hx67
    have HX7 := hid (HX5.out.trans' hx57)
    have HE6 := hid ((he6.below hx67).more (G := fun _ => True) fun _ _ => trivial)
    have HE7 := hid (HE5.out.below hx57)
    have hp7 := (hx57.block P HPL5.out).trans HP5.out
    have hp6 := (hx6.block P HPL5.out).trans HP5.out
    have HP7 := hid hp7
    have HN7 := hid hn7
    have hn6 : n6 = M.length := he6.1
    have HN6 := hid hn6
    have hn640 : n6 * 40 ≤ 140737488351232 := he6.2.2.1.2
    have HN640 := hid hn640
    have hPQ : P ≠ w6.heap.size := by have h1 := HPL5.out; have h2 := hx6.size; omega
    clear p0 p1 p2 p3 p4 pl
    have pl := (Array.getElem?_eq_some_iff.1 hp7).1
    obtain ⟨⟨p0, p1, p2, p3, p4⟩, pfz, -⟩ := cells5 hp7
    obtain ⟨⟨p0', p1', p2', p3', p4'⟩, -, pl6⟩ := cells5 hp6
    obtain ⟨⟨q0, q1, q2, q3, q4⟩, qfz, ql⟩ := cells5 hn7
    clear he6 hx6 hx67 hx57 hp7 hp6 hn7 hn6 pfz qfz HVB
    by_cases d1 : index = uv.i
    · have b1 : (index == uv.i) = true := by simpa using d1
      have hst : ((term == uv.t) = true) ↔ ((index = uv.i ∧ term = uv.t) ∨ ∃ x ∈ uv.l.take 0, x.i = index ∧ x.t = term) := by
        rw [beq_iff_eq]
        exact ⟨fun h => .inl ⟨d1, h⟩, fun h => by
          rcases h with h | ⟨x, hx, -⟩
          · exact h.2
          cases hx⟩
      have HST := hid hst
      clear hst d1
      go_wp2
      generalize w6.alloc (.cells #[.int .i64 uv.ht, .int .i64 uv.hv, .int .i64 index, .int .i64 term, .slice a6 n6 c6] 42) = w7 at *
      obtain ⟨Q, hQ⟩ : ∃ Q, Q = w6.heap.size := ⟨_, rfl⟩
      rw [← hQ] at HN7 ql ⊢
      have HPQ := hid (show P < w7.heap.size ∧ Q < w7.heap.size from ⟨pl, ql⟩)
      clear hQ p0' p1' p2' p3' p4' pl6 p0 p1 p2 p3 p4 pl q0 q1 q2 q3 q4 ql hPQ
      have HC7 := hid (fun (W : World) (hW : Ext w7 W) => And.intro (cells5 ((hW.block P HPQ.out.1).trans HP7.out)).1 (cells5 ((hW.block Q HPQ.out.2).trans HN7.out)).1)
      have hn340 : n3 * 40 ≤ 140737488351232 := HI0.out.2
      go_loopw [13, 99] (fun x z wr => ∃ (k : Nat) (bb : Bool), k ≤ n3 ∧ z = .int .i64 (k : Int) ∧ x = .bool bb ∧ Hid (Ext w7 wr) ∧ Hid (bb = true ↔ ((index = uv.i ∧ term = uv.t) ∨ ∃ x ∈ uv.l.take k, x.i = index ∧ x.t = term))) (fun _ z _ => n3 - (intOf z).toNat)
      case atStart => exact ⟨0, term == uv.t, Nat.zero_le _, rfl, rfl, Below.refl _ _, HST.out⟩
      obtain ⟨k, bb, hk, rfl, rfl, HX, HB⟩ := hrel
      by_cases hlt : k < n3
      · obtain ⟨b, o, rfl, -, hbl, hkl, -, -, hc0, hc1, a', n', c', hc2, hd⟩ := HE7.out.at_ hlt
        have hb := HX.out
        have cc := fun j => hb.cell (p := ⟨b, j, none⟩) hbl
        rw [← cc] at hc0 hc1 hc2
        have hmem : (∃ x ∈ uv.l.take (k + 1), x.i = index ∧ x.t = term) ↔ ((∃ x ∈ uv.l.take k, x.i = index ∧ x.t = term) ∨ (uv.l[k].i = index ∧ uv.l[k].t = term)) := by
          rw [List.take_succ_eq_append_getElem hkl]
          constructor
          · rintro ⟨x, hx, h⟩
            rcases List.mem_append.1 hx with hx | hx
            · exact .inl ⟨x, hx, h⟩
            rw [List.mem_singleton] at hx; subst hx; exact .inr h
          rintro (⟨x, hx, h⟩ | h)
          · exact ⟨x, List.mem_append.2 (.inl hx), h⟩
          exact ⟨_, List.mem_append.2 (.inr (List.mem_singleton.2 rfl)), h⟩
        have HMM := hid hmem
        clear hd hmem cc hb
        generalize uv.l[k] = x at *
        obtain ⟨xi, xt, xd⟩ := x
        dsimp only at *
        have hk0 : (0 : Int) ≤ (k : Int) := by omega
        cases bb with
        | true =>
          have H1 := hid (show (true : Bool) = true ↔ ((index = uv.i ∧ term = uv.t) ∨ ∃ x ∈ uv.l.take (k + 1), x.i = index ∧ x.t = term) from ⟨fun _ => by
            rcases HB.out.1 rfl with h | h
            · exact .inl h
            exact .inr (HMM.out.2 (.inl h)), fun _ => rfl⟩)
          clear HB HMM
          go_wp2
          go_roundw
          case rel => exact ⟨k + 1, true, by omega, by go_num, rfl, HX.out.trans' (ext_alloc _ _), H1.out⟩
          case measure => simp [intOf]; omega
        | false =>
          have hno : ¬ ((index = uv.i ∧ term = uv.t) ∨ ∃ x ∈ uv.l.take k, x.i = index ∧ x.t = term) := fun h => by have := HB.out.2 h; cases this
          by_cases e1 : xi = index
          · have b1 : (xi == index) = true := by simpa using e1
            have H1 := hid (show (xt == term) = true ↔ ((index = uv.i ∧ term = uv.t) ∨ ∃ x ∈ uv.l.take (k + 1), x.i = index ∧ x.t = term) from by
              rw [HMM.out, beq_iff_eq]
              exact ⟨fun h => .inr (.inr ⟨e1, h⟩), fun h => by
                rcases h with h | h | h
                · exact absurd (.inl h) hno
                · exact absurd (.inr h) hno
                exact h.2⟩)
            clear HB HMM hno e1
            go_wp2
            go_roundw
            case rel => exact ⟨k + 1, xt == term, by omega, by go_num, rfl, HX.out.trans' (ext_alloc _ _), H1.out⟩
            case measure => simp [intOf]; omega
          have b1 : (xi == index) = false := by simpa using e1
          have H1 := hid (show (false : Bool) = true ↔ ((index = uv.i ∧ term = uv.t) ∨ ∃ x ∈ uv.l.take (k + 1), x.i = index ∧ x.t = term) from by
            rw [HMM.out]
            exact ⟨fun h => (by cases h), fun h => by
              rcases h with h | h | h
              · exact absurd (.inl h) hno
              · exact absurd (.inr h) hno
              exact absurd h.1 e1⟩)
          clear HB HMM hno e1
          go_wp2
          go_roundw
          case rel => exact ⟨k + 1, false, by omega, by go_num, rfl, HX.out.trans' (ext_alloc _ _), H1.out⟩
          case measure => simp [intOf]; omega
      have hfits : bb = true ↔ (uv.at_ index = term ∧ index ≤ uv.last) := by
        have h1 := HB.out
        rw [List.take_of_length_le (by have := HI0.out.1; omega)] at h1
        exact h1.trans (HSN.out.fits_iff HCI.out.1)
      have HX2 := hid (HX7.out.trans' HX.out)
      obtain ⟨⟨p0, p1, p2, p3, p4⟩, ⟨q0, q1, q2, q3, q4⟩⟩ := HC7.out wr HX.out
      cases bb with
      | false =>
        have hn0 : n6 = 0 := by
          have h1 := HN6.out
          rw [HM.out, if_neg (fun h => by have := hfits.2 h; cases this)] at h1
          exact h1
        clear hfits HB
        subst hn0
        go_wp2_with fail
        refine Calls.mono (HAW.out wr HX2.out) ?_
        rintro e w12 ⟨rfl, hx12⟩
        have HX12 := hid (HX2.out.trans' hx12)
        clear hx12
        go_wp2
        go_ret
        exact ⟨rfl, HX12.out⟩
      | true =>
        have hyes := hfits.1 rfl
        have hm := HM.out
        rw [if_pos hyes] at hm
        obtain ⟨kk, hkk⟩ : ∃ kk : Nat, index - uv.i = (kk : Int) := ⟨(index - uv.i).toNat, by have := HCI.out.1; omega⟩
        have hkn : kk ≤ n3 := by have h1 := HI0.out.1; have h2 := hyes.2; unfold Wv.last at h2; omega
        rw [hkk, Int.toNat_natCast] at hm
        have hlast : (Wv.mk uv.ht uv.hv index term M).last = uv.last := by
          show index + (M.length : Int) = uv.i + (uv.l.length : Int)
          rw [hm, List.length_drop]
          have := HI0.out.1
          omega
        obtain ⟨ca, cm, ck, cut1, cut2, hcut⟩ := ecut_l HE7.out (kk : Int) (by omega) (by omega)
        rw [Int.toNat_natCast, ← hm] at hcut
        have HCUT := hid hcut
        have HLQ := hid (fun W => VLast_any (w := W) (v := Wv.mk uv.ht uv.hv index term M) (a := a6) (c := c6) HN6.out (show 0 ≤ index by have h1 := HCI.out.1; have h2 := HI.out.1; omega) (show index ≤ 1099511627776 from HCI.out.2) (by have := HN640.out; omega))
        have HLP := hid (fun W => VLast_any (w := W) (v := uv) (a := a3) (c := c3) HI0.out.1 HI.out.1 HI.out.2 (by have := HI0.out.2; omega))
        have HLE := hid hlast
        have hsub : IntKind.i64.wrap (index - uv.i) = (kk : Int) := by rw [hkk]; exact IntWalk.i64_in _ ⟨by omega, by omega⟩
        have hkc : (kk : Int) ≤ (c3 : Int) := by have := HE7.out.2.1; omega
        have hkn' : (kk : Int) ≤ (n3 : Int) := by omega
        have hk0 : (0 : Int) ≤ (kk : Int) := by omega
        clear hyes hm hkk hlast hcut hfits HB p0 p1 p2 p3 p4 q0 q1 q2 q3 q4
        go_wp2
        have y0 : Ext w7 wr.drew := HX.out.trans' (ext_drew wr)
        refine wp_region_held_drew (S := fun W => Ext w7 W) (by kernel_rfl) y0 (fun hH => ?_)
        clear hH
        refine held_run (i := 0) (v := .agg #[.int .i64 uv.ht, .int .i64 uv.hv, .int .i64 index, .int .i64 term, .slice a6 n6 c6]) rfl (by kernel_rfl) (by kernel_rfl) (by kernel_rfl) (fun _ _ _ h => h) (by rfl) y0 (fun W hW => ?_) ?_
        · (obtain ⟨-, ⟨r0, r1, r2, r3, r4⟩⟩ := HC7.out W hW; clear hW; go_simp)
        try simp only [Act.put, List.setIfInBounds_toArray, List.set_cons_zero, List.set_cons_succ]
        refine held_run (i := 2) (v := .agg #[.int .i64 uv.ht, .int .i64 uv.hv, .int .i64 uv.i, .int .i64 uv.t, .slice a3 n3 c3]) rfl (by kernel_rfl) (by kernel_rfl) (by kernel_rfl) (fun _ _ _ h => h) (by rfl) y0 (fun W hW => ?_) ?_
        · (obtain ⟨⟨r0, r1, r2, r3, r4⟩, -⟩ := HC7.out W hW; clear hW; go_simp)
        try simp only [Act.put, List.setIfInBounds_toArray, List.set_cons_zero, List.set_cons_succ]
        refine wpAnyH_ready (rs := [1]) (by kernel_rfl) (by simp) ?_
        refine held_cons (i := 1) rfl (fun K hK => ?_)
        go_simp
        go_at_call 20
        refine Calls.mono (HLQ.out _) ?_
        rintro e w8 ⟨rfl, hx8⟩
        have y1 : Ext w7 w8 := y0.trans' hx8
        clear hx8
        rw [HLE.out]
        dsimp only
        refine hK.out _ _ y1 (fun hH => ?_)
        clear hK K y0 hH
        have y0 := y1
        clear y1
        try simp only [Act.put, List.setIfInBounds_toArray, List.set_cons_zero, List.set_cons_succ]
        refine wpAnyH_ready (rs := [3]) (by kernel_rfl) (by simp) ?_
        refine held_cons (i := 3) rfl (fun K hK => ?_)
        go_simp
        go_at_call 20
        refine Calls.mono (HLP.out _) ?_
        rintro e w9 ⟨rfl, hx9⟩
        have y1 : Ext w7 w9 := y0.trans' hx9
        clear hx9
        dsimp only
        refine hK.out _ _ y1 (fun hH => ?_)
        clear hK K y0 hH
        have y0 := y1
        clear y1
        try simp only [Act.put, List.setIfInBounds_toArray, List.set_cons_zero, List.set_cons_succ]
        refine held_run (i := 4) (v := .bool true) rfl (by kernel_rfl) (by kernel_rfl) (by kernel_rfl) (fun _ _ _ h => h) (by rfl) y0 (fun W hW => ?_) ?_
        · (clear hW; go_simp)
        try simp only [Act.put, List.setIfInBounds_toArray, List.set_cons_zero, List.set_cons_succ]
        refine held_run (i := 5) (v := .bool true) rfl (by kernel_rfl) (by kernel_rfl) (by kernel_rfl) (fun _ _ _ h => h) (by rfl) y0 (fun W hW => ?_) ?_
        · (clear hW; go_simp)
        try simp only [Act.put, List.setIfInBounds_toArray, List.set_cons_zero, List.set_cons_succ]
        refine held_run (i := 6) (v := .pointer (some ⟨Q, 4, none⟩)) rfl (by kernel_rfl) (by kernel_rfl) (by kernel_rfl) (fun _ _ _ h => h) (by rfl) y0 (fun W hW => ?_) ?_
        · (clear hW; go_simp)
        try simp only [Act.put, List.setIfInBounds_toArray, List.set_cons_zero, List.set_cons_succ]
        refine held_run (i := 7) (v := .slice a6 n6 c6) rfl (by kernel_rfl) (by kernel_rfl) (by kernel_rfl) (fun _ _ _ h => h) (by rfl) y0 (fun W hW => ?_) ?_
        · (obtain ⟨-, ⟨r0, r1, r2, r3, r4⟩⟩ := HC7.out W hW; clear hW; go_simp)
        try simp only [Act.put, List.setIfInBounds_toArray, List.set_cons_zero, List.set_cons_succ]
        refine held_run (i := 8) (v := .pointer (some ⟨P, 4, none⟩)) rfl (by kernel_rfl) (by kernel_rfl) (by kernel_rfl) (fun _ _ _ h => h) (by rfl) y0 (fun W hW => ?_) ?_
        · (clear hW; go_simp)
        try simp only [Act.put, List.setIfInBounds_toArray, List.set_cons_zero, List.set_cons_succ]
        refine held_run (i := 9) (v := .slice a3 n3 c3) rfl (by kernel_rfl) (by kernel_rfl) (by kernel_rfl) (fun _ _ _ h => h) (by rfl) y0 (fun W hW => ?_) ?_
        · (obtain ⟨⟨r0, r1, r2, r3, r4⟩, -⟩ := HC7.out W hW; clear hW; go_simp)
        try simp only [Act.put, List.setIfInBounds_toArray, List.set_cons_zero, List.set_cons_succ]
        refine held_run (i := 10) (v := .int .i64 index) rfl (by kernel_rfl) (by kernel_rfl) (by kernel_rfl) (fun _ _ _ h => h) (by rfl) y0 (fun W hW => ?_) ?_
        · (clear hW; go_simp)
        try simp only [Act.put, List.setIfInBounds_toArray, List.set_cons_zero, List.set_cons_succ]
        refine held_run (i := 11) (v := .pointer (some ⟨P, 2, none⟩)) rfl (by kernel_rfl) (by kernel_rfl) (by kernel_rfl) (fun _ _ _ h => h) (by rfl) y0 (fun W hW => ?_) ?_
        · (clear hW; go_simp)
        try simp only [Act.put, List.setIfInBounds_toArray, List.set_cons_zero, List.set_cons_succ]
        refine held_run (i := 12) (v := .int .i64 uv.i) rfl (by kernel_rfl) (by kernel_rfl) (by kernel_rfl) (fun _ _ _ h => h) (by rfl) y0 (fun W hW => ?_) ?_
        · (obtain ⟨⟨r0, r1, r2, r3, r4⟩, -⟩ := HC7.out W hW; clear hW; go_simp)
        try simp only [Act.put, List.setIfInBounds_toArray, List.set_cons_zero, List.set_cons_succ]
        refine held_run (i := 13) (v := .int .i64 (kk : Int)) rfl (by kernel_rfl) (by kernel_rfl) (by kernel_rfl) (fun _ _ _ h => h) (by rfl) y0 (fun W hW => ?_) ?_
        · (clear hW; go_simp)
        try simp only [Act.put, List.setIfInBounds_toArray, List.set_cons_zero, List.set_cons_succ]
        refine held_run (i := 14) (v := .slice ca cm ck) rfl (by kernel_rfl) (by kernel_rfl) (by kernel_rfl) (fun _ _ _ h => h) (by rfl) y0 (fun W hW => ?_) ?_
        · (clear hW; go_simp)
        try simp only [Act.put, List.setIfInBounds_toArray, List.set_cons_zero, List.set_cons_succ]
        refine wpAnyH_ready (rs := [15]) (by kernel_rfl) (by simp) ?_
        refine held_cons (i := 15) rfl (fun K hK => ?_)
        go_simp
        go_at_call 29
        refine Calls.mono (Same_any (HE6.out.below y0) (HCUT.out.below y0)) ?_
        rintro e w10 ⟨bb, rfl, hbb, q, hq⟩
        have y1 : Ext w7 w10 := y0.trans' (show Ext _ w10 by rw [hq]; exact ext_drewN _ _)
        have hbt : bb = true := hbb.2 rfl
        subst hbt
        clear hbb hq
        dsimp only
        refine hK.out _ _ y1 (fun hH => ?_)
        clear hK K y0 hH
        have y0 := y1
        clear y1
        try simp only [Act.put, List.setIfInBounds_toArray, List.set_cons_zero, List.set_cons_succ]
        refine held_run (i := 16) (v := .bool true) rfl (by kernel_rfl) (by kernel_rfl) (by kernel_rfl) (fun _ _ _ h => h) (by rfl) y0 (fun W hW => ?_) ?_
        · (clear hW; go_simp)
        try simp only [Act.put, List.setIfInBounds_toArray, List.set_cons_zero, List.set_cons_succ]
        refine held_run (i := 17) (v := .bool true) rfl (by kernel_rfl) (by kernel_rfl) (by kernel_rfl) (fun _ _ _ h => h) (by rfl) y0 (fun W hW => ?_) ?_
        · (clear hW; go_simp)
        try simp only [Act.put, List.setIfInBounds_toArray, List.set_cons_zero, List.set_cons_succ]
        refine wpAnyH_ready (rs := [18]) (by kernel_rfl) (by simp) ?_
        refine held_cons (i := 18) rfl (fun K hK => ?_)
        go_simp
        go_at_call 13
        refine Calls.mono (HAW.out _ (HX7.out.trans' y0)) ?_
        rintro e w11 ⟨rfl, hx⟩
        have y1 : Ext w7 w11 := y0.trans' hx
        clear hx
        dsimp only
        refine hK.out _ _ y1 (fun hH => ?_)
        clear hK K y0 hH
        have y0 := y1
        clear y1
        try simp only [Act.put, List.setIfInBounds_toArray, List.set_cons_zero, List.set_cons_succ]
        refine held_run (i := 19) (v := .bool true) rfl (by kernel_rfl) (by kernel_rfl) (by kernel_rfl) (fun _ _ _ h => h) (by rfl) y0 (fun W hW => ?_) ?_
        · (clear hW; go_simp)
        try simp only [Act.put, List.setIfInBounds_toArray, List.set_cons_zero, List.set_cons_succ]
        refine held_run (i := 20) (v := .bool true) rfl (by kernel_rfl) (by kernel_rfl) (by kernel_rfl) (fun _ _ _ h => h) (by rfl) y0 (fun W hW => ?_) ?_
        · (clear hW; go_simp)
        try simp only [Act.put, List.setIfInBounds_toArray, List.set_cons_zero, List.set_cons_succ]
        refine wpAnyH_done (by kernel_rfl) ?_ _
        have HY := hid y0
        clear y0
        go_wp2
        go_ret
        exact ⟨rfl, HX7.out.trans' HY.out⟩
    have b1 : (index == uv.i) = false := by simpa using d1
    have hst : ((false : Bool) = true) ↔ ((index = uv.i ∧ term = uv.t) ∨ ∃ x ∈ uv.l.take 0, x.i = index ∧ x.t = term) :=
      ⟨fun h => (by cases h), fun h => by
        rcases h with h | ⟨x, hx, -⟩
        · exact absurd h.1 d1
        cases hx⟩
    have HST := hid hst
    clear hst d1
    go_wp2
    generalize w6.alloc (.cells #[.int .i64 uv.ht, .int .i64 uv.hv, .int .i64 index, .int .i64 term, .slice a6 n6 c6] 42) = w7 at *
    obtain ⟨Q, hQ⟩ : ∃ Q, Q = w6.heap.size := ⟨_, rfl⟩
    rw [← hQ] at HN7 ql ⊢
    have HPQ := hid (show P < w7.heap.size ∧ Q < w7.heap.size from ⟨pl, ql⟩)
    clear hQ p0' p1' p2' p3' p4' pl6 p0 p1 p2 p3 p4 pl q0 q1 q2 q3 q4 ql hPQ
    have HC7 := hid (fun (W : World) (hW : Ext w7 W) => And.intro (cells5 ((hW.block P HPQ.out.1).trans HP7.out)).1 (cells5 ((hW.block Q HPQ.out.2).trans HN7.out)).1)
    have hn340 : n3 * 40 ≤ 140737488351232 := HI0.out.2
    go_loopw [13, 99] (fun x z wr => ∃ (k : Nat) (bb : Bool), k ≤ n3 ∧ z = .int .i64 (k : Int) ∧ x = .bool bb ∧ Hid (Ext w7 wr) ∧ Hid (bb = true ↔ ((index = uv.i ∧ term = uv.t) ∨ ∃ x ∈ uv.l.take k, x.i = index ∧ x.t = term))) (fun _ z _ => n3 - (intOf z).toNat)
    case atStart => exact ⟨0, false, Nat.zero_le _, rfl, rfl, Below.refl _ _, HST.out⟩
    obtain ⟨k, bb, hk, rfl, rfl, HX, HB⟩ := hrel
    by_cases hlt : k < n3
    · obtain ⟨b, o, rfl, -, hbl, hkl, -, -, hc0, hc1, a', n', c', hc2, hd⟩ := HE7.out.at_ hlt
      have hb := HX.out
      have cc := fun j => hb.cell (p := ⟨b, j, none⟩) hbl
      rw [← cc] at hc0 hc1 hc2
      have hmem : (∃ x ∈ uv.l.take (k + 1), x.i = index ∧ x.t = term) ↔ ((∃ x ∈ uv.l.take k, x.i = index ∧ x.t = term) ∨ (uv.l[k].i = index ∧ uv.l[k].t = term)) := by
        rw [List.take_succ_eq_append_getElem hkl]
        constructor
        · rintro ⟨x, hx, h⟩
          rcases List.mem_append.1 hx with hx | hx
          · exact .inl ⟨x, hx, h⟩
          rw [List.mem_singleton] at hx; subst hx; exact .inr h
        rintro (⟨x, hx, h⟩ | h)
        · exact ⟨x, List.mem_append.2 (.inl hx), h⟩
        exact ⟨_, List.mem_append.2 (.inr (List.mem_singleton.2 rfl)), h⟩
      have HMM := hid hmem
      clear hd hmem cc hb
      generalize uv.l[k] = x at *
      obtain ⟨xi, xt, xd⟩ := x
      dsimp only at *
      have hk0 : (0 : Int) ≤ (k : Int) := by omega
      cases bb with
      | true =>
        have H1 := hid (show (true : Bool) = true ↔ ((index = uv.i ∧ term = uv.t) ∨ ∃ x ∈ uv.l.take (k + 1), x.i = index ∧ x.t = term) from ⟨fun _ => by
          rcases HB.out.1 rfl with h | h
          · exact .inl h
          exact .inr (HMM.out.2 (.inl h)), fun _ => rfl⟩)
        clear HB HMM
        go_wp2
        go_roundw
        case rel => exact ⟨k + 1, true, by omega, by go_num, rfl, HX.out.trans' (ext_alloc _ _), H1.out⟩
        case measure => simp [intOf]; omega
      | false =>
        have hno : ¬ ((index = uv.i ∧ term = uv.t) ∨ ∃ x ∈ uv.l.take k, x.i = index ∧ x.t = term) := fun h => by have := HB.out.2 h; cases this
        by_cases e1 : xi = index
        · have b1 : (xi == index) = true := by simpa using e1
          have H1 := hid (show (xt == term) = true ↔ ((index = uv.i ∧ term = uv.t) ∨ ∃ x ∈ uv.l.take (k + 1), x.i = index ∧ x.t = term) from by
            rw [HMM.out, beq_iff_eq]
            exact ⟨fun h => .inr (.inr ⟨e1, h⟩), fun h => by
              rcases h with h | h | h
              · exact absurd (.inl h) hno
              · exact absurd (.inr h) hno
              exact h.2⟩)
          clear HB HMM hno e1
          go_wp2
          go_roundw
          case rel => exact ⟨k + 1, xt == term, by omega, by go_num, rfl, HX.out.trans' (ext_alloc _ _), H1.out⟩
          case measure => simp [intOf]; omega
        have b1 : (xi == index) = false := by simpa using e1
        have H1 := hid (show (false : Bool) = true ↔ ((index = uv.i ∧ term = uv.t) ∨ ∃ x ∈ uv.l.take (k + 1), x.i = index ∧ x.t = term) from by
          rw [HMM.out]
          exact ⟨fun h => (by cases h), fun h => by
            rcases h with h | h | h
            · exact absurd (.inl h) hno
            · exact absurd (.inr h) hno
            exact absurd h.1 e1⟩)
        clear HB HMM hno e1
        go_wp2
        go_roundw
        case rel => exact ⟨k + 1, false, by omega, by go_num, rfl, HX.out.trans' (ext_alloc _ _), H1.out⟩
        case measure => simp [intOf]; omega
    have hfits : bb = true ↔ (uv.at_ index = term ∧ index ≤ uv.last) := by
      have h1 := HB.out
      rw [List.take_of_length_le (by have := HI0.out.1; omega)] at h1
      exact h1.trans (HSN.out.fits_iff HCI.out.1)
    have HX2 := hid (HX7.out.trans' HX.out)
    obtain ⟨⟨p0, p1, p2, p3, p4⟩, ⟨q0, q1, q2, q3, q4⟩⟩ := HC7.out wr HX.out
    cases bb with
    | false =>
      have hn0 : n6 = 0 := by
        have h1 := HN6.out
        rw [HM.out, if_neg (fun h => by have := hfits.2 h; cases this)] at h1
        exact h1
      clear hfits HB
      subst hn0
      go_wp2_with fail
      refine Calls.mono (HAW.out wr HX2.out) ?_
      rintro e w12 ⟨rfl, hx12⟩
      have HX12 := hid (HX2.out.trans' hx12)
      clear hx12
      go_wp2
      go_ret
      exact ⟨rfl, HX12.out⟩
    | true =>
      have hyes := hfits.1 rfl
      have hm := HM.out
      rw [if_pos hyes] at hm
      obtain ⟨kk, hkk⟩ : ∃ kk : Nat, index - uv.i = (kk : Int) := ⟨(index - uv.i).toNat, by have := HCI.out.1; omega⟩
      have hkn : kk ≤ n3 := by have h1 := HI0.out.1; have h2 := hyes.2; unfold Wv.last at h2; omega
      rw [hkk, Int.toNat_natCast] at hm
      have hlast : (Wv.mk uv.ht uv.hv index term M).last = uv.last := by
        show index + (M.length : Int) = uv.i + (uv.l.length : Int)
        rw [hm, List.length_drop]
        have := HI0.out.1
        omega
      obtain ⟨ca, cm, ck, cut1, cut2, hcut⟩ := ecut_l HE7.out (kk : Int) (by omega) (by omega)
      rw [Int.toNat_natCast, ← hm] at hcut
      have HCUT := hid hcut
      have HLQ := hid (fun W => VLast_any (w := W) (v := Wv.mk uv.ht uv.hv index term M) (a := a6) (c := c6) HN6.out (show 0 ≤ index by have h1 := HCI.out.1; have h2 := HI.out.1; omega) (show index ≤ 1099511627776 from HCI.out.2) (by have := HN640.out; omega))
      have HLP := hid (fun W => VLast_any (w := W) (v := uv) (a := a3) (c := c3) HI0.out.1 HI.out.1 HI.out.2 (by have := HI0.out.2; omega))
      have HLE := hid hlast
      have hsub : IntKind.i64.wrap (index - uv.i) = (kk : Int) := by rw [hkk]; exact IntWalk.i64_in _ ⟨by omega, by omega⟩
      have hkc : (kk : Int) ≤ (c3 : Int) := by have := HE7.out.2.1; omega
      have hkn' : (kk : Int) ≤ (n3 : Int) := by omega
      have hk0 : (0 : Int) ≤ (kk : Int) := by omega
      clear hyes hm hkk hlast hcut hfits HB p0 p1 p2 p3 p4 q0 q1 q2 q3 q4
      go_wp2
      have y0 : Ext w7 wr.drew := HX.out.trans' (ext_drew wr)
      refine wp_region_held_drew (S := fun W => Ext w7 W) (by kernel_rfl) y0 (fun hH => ?_)
      clear hH
      refine held_run (i := 0) (v := .agg #[.int .i64 uv.ht, .int .i64 uv.hv, .int .i64 index, .int .i64 term, .slice a6 n6 c6]) rfl (by kernel_rfl) (by kernel_rfl) (by kernel_rfl) (fun _ _ _ h => h) (by rfl) y0 (fun W hW => ?_) ?_
      · (obtain ⟨-, ⟨r0, r1, r2, r3, r4⟩⟩ := HC7.out W hW; clear hW; go_simp)
      try simp only [Act.put, List.setIfInBounds_toArray, List.set_cons_zero, List.set_cons_succ]
      refine held_run (i := 2) (v := .agg #[.int .i64 uv.ht, .int .i64 uv.hv, .int .i64 uv.i, .int .i64 uv.t, .slice a3 n3 c3]) rfl (by kernel_rfl) (by kernel_rfl) (by kernel_rfl) (fun _ _ _ h => h) (by rfl) y0 (fun W hW => ?_) ?_
      · (obtain ⟨⟨r0, r1, r2, r3, r4⟩, -⟩ := HC7.out W hW; clear hW; go_simp)
      try simp only [Act.put, List.setIfInBounds_toArray, List.set_cons_zero, List.set_cons_succ]
      refine wpAnyH_ready (rs := [1]) (by kernel_rfl) (by simp) ?_
      refine held_cons (i := 1) rfl (fun K hK => ?_)
      go_simp
      go_at_call 20
      refine Calls.mono (HLQ.out _) ?_
      rintro e w8 ⟨rfl, hx8⟩
      have y1 : Ext w7 w8 := y0.trans' hx8
      clear hx8
      rw [HLE.out]
      dsimp only
      refine hK.out _ _ y1 (fun hH => ?_)
      clear hK K y0 hH
      have y0 := y1
      clear y1
      try simp only [Act.put, List.setIfInBounds_toArray, List.set_cons_zero, List.set_cons_succ]
      refine wpAnyH_ready (rs := [3]) (by kernel_rfl) (by simp) ?_
      refine held_cons (i := 3) rfl (fun K hK => ?_)
      go_simp
      go_at_call 20
      refine Calls.mono (HLP.out _) ?_
      rintro e w9 ⟨rfl, hx9⟩
      have y1 : Ext w7 w9 := y0.trans' hx9
      clear hx9
      dsimp only
      refine hK.out _ _ y1 (fun hH => ?_)
      clear hK K y0 hH
      have y0 := y1
      clear y1
      try simp only [Act.put, List.setIfInBounds_toArray, List.set_cons_zero, List.set_cons_succ]
      refine held_run (i := 4) (v := .bool true) rfl (by kernel_rfl) (by kernel_rfl) (by kernel_rfl) (fun _ _ _ h => h) (by rfl) y0 (fun W hW => ?_) ?_
      · (clear hW; go_simp)
      try simp only [Act.put, List.setIfInBounds_toArray, List.set_cons_zero, List.set_cons_succ]
      refine held_run (i := 5) (v := .bool true) rfl (by kernel_rfl) (by kernel_rfl) (by kernel_rfl) (fun _ _ _ h => h) (by rfl) y0 (fun W hW => ?_) ?_
      · (clear hW; go_simp)
      try simp only [Act.put, List.setIfInBounds_toArray, List.set_cons_zero, List.set_cons_succ]
      refine held_run (i := 6) (v := .pointer (some ⟨Q, 4, none⟩)) rfl (by kernel_rfl) (by kernel_rfl) (by kernel_rfl) (fun _ _ _ h => h) (by rfl) y0 (fun W hW => ?_) ?_
      · (clear hW; go_simp)
      try simp only [Act.put, List.setIfInBounds_toArray, List.set_cons_zero, List.set_cons_succ]
      refine held_run (i := 7) (v := .slice a6 n6 c6) rfl (by kernel_rfl) (by kernel_rfl) (by kernel_rfl) (fun _ _ _ h => h) (by rfl) y0 (fun W hW => ?_) ?_
      · (obtain ⟨-, ⟨r0, r1, r2, r3, r4⟩⟩ := HC7.out W hW; clear hW; go_simp)
      try simp only [Act.put, List.setIfInBounds_toArray, List.set_cons_zero, List.set_cons_succ]
      refine held_run (i := 8) (v := .pointer (some ⟨P, 4, none⟩)) rfl (by kernel_rfl) (by kernel_rfl) (by kernel_rfl) (fun _ _ _ h => h) (by rfl) y0 (fun W hW => ?_) ?_
      · (clear hW; go_simp)
      try simp only [Act.put, List.setIfInBounds_toArray, List.set_cons_zero, List.set_cons_succ]
      refine held_run (i := 9) (v := .slice a3 n3 c3) rfl (by kernel_rfl) (by kernel_rfl) (by kernel_rfl) (fun _ _ _ h => h) (by rfl) y0 (fun W hW => ?_) ?_
      · (obtain ⟨⟨r0, r1, r2, r3, r4⟩, -⟩ := HC7.out W hW; clear hW; go_simp)
      try simp only [Act.put, List.setIfInBounds_toArray, List.set_cons_zero, List.set_cons_succ]
      refine held_run (i := 10) (v := .int .i64 index) rfl (by kernel_rfl) (by kernel_rfl) (by kernel_rfl) (fun _ _ _ h => h) (by rfl) y0 (fun W hW => ?_) ?_
      · (clear hW; go_simp)
      try simp only [Act.put, List.setIfInBounds_toArray, List.set_cons_zero, List.set_cons_succ]
      refine held_run (i := 11) (v := .pointer (some ⟨P, 2, none⟩)) rfl (by kernel_rfl) (by kernel_rfl) (by kernel_rfl) (fun _ _ _ h => h) (by rfl) y0 (fun W hW => ?_) ?_
      · (clear hW; go_simp)
      try simp only [Act.put, List.setIfInBounds_toArray, List.set_cons_zero, List.set_cons_succ]
      refine held_run (i := 12) (v := .int .i64 uv.i) rfl (by kernel_rfl) (by kernel_rfl) (by kernel_rfl) (fun _ _ _ h => h) (by rfl) y0 (fun W hW => ?_) ?_
      · (obtain ⟨⟨r0, r1, r2, r3, r4⟩, -⟩ := HC7.out W hW; clear hW; go_simp)
      try simp only [Act.put, List.setIfInBounds_toArray, List.set_cons_zero, List.set_cons_succ]
      refine held_run (i := 13) (v := .int .i64 (kk : Int)) rfl (by kernel_rfl) (by kernel_rfl) (by kernel_rfl) (fun _ _ _ h => h) (by rfl) y0 (fun W hW => ?_) ?_
      · (clear hW; go_simp)
      try simp only [Act.put, List.setIfInBounds_toArray, List.set_cons_zero, List.set_cons_succ]
      refine held_run (i := 14) (v := .slice ca cm ck) rfl (by kernel_rfl) (by kernel_rfl) (by kernel_rfl) (fun _ _ _ h => h) (by rfl) y0 (fun W hW => ?_) ?_
      · (clear hW; go_simp)
      try simp only [Act.put, List.setIfInBounds_toArray, List.set_cons_zero, List.set_cons_succ]
      refine wpAnyH_ready (rs := [15]) (by kernel_rfl) (by simp) ?_
      refine held_cons (i := 15) rfl (fun K hK => ?_)
      go_simp
      go_at_call 29
      refine Calls.mono (Same_any (HE6.out.below y0) (HCUT.out.below y0)) ?_
      rintro e w10 ⟨bb, rfl, hbb, q, hq⟩
      have y1 : Ext w7 w10 := y0.trans' (show Ext _ w10 by rw [hq]; exact ext_drewN _ _)
      have hbt : bb = true := hbb.2 rfl
      subst hbt
      clear hbb hq
      dsimp only
      refine hK.out _ _ y1 (fun hH => ?_)
      clear hK K y0 hH
      have y0 := y1
      clear y1
      try simp only [Act.put, List.setIfInBounds_toArray, List.set_cons_zero, List.set_cons_succ]
      refine held_run (i := 16) (v := .bool true) rfl (by kernel_rfl) (by kernel_rfl) (by kernel_rfl) (fun _ _ _ h => h) (by rfl) y0 (fun W hW => ?_) ?_
      · (clear hW; go_simp)
      try simp only [Act.put, List.setIfInBounds_toArray, List.set_cons_zero, List.set_cons_succ]
      refine held_run (i := 17) (v := .bool true) rfl (by kernel_rfl) (by kernel_rfl) (by kernel_rfl) (fun _ _ _ h => h) (by rfl) y0 (fun W hW => ?_) ?_
      · (clear hW; go_simp)
      try simp only [Act.put, List.setIfInBounds_toArray, List.set_cons_zero, List.set_cons_succ]
      refine wpAnyH_ready (rs := [18]) (by kernel_rfl) (by simp) ?_
      refine held_cons (i := 18) rfl (fun K hK => ?_)
      go_simp
      go_at_call 13
      refine Calls.mono (HAW.out _ (HX7.out.trans' y0)) ?_
      rintro e w11 ⟨rfl, hx⟩
      have y1 : Ext w7 w11 := y0.trans' hx
      clear hx
      dsimp only
      refine hK.out _ _ y1 (fun hH => ?_)
      clear hK K y0 hH
      have y0 := y1
      clear y1
      try simp only [Act.put, List.setIfInBounds_toArray, List.set_cons_zero, List.set_cons_succ]
      refine held_run (i := 19) (v := .bool true) rfl (by kernel_rfl) (by kernel_rfl) (by kernel_rfl) (fun _ _ _ h => h) (by rfl) y0 (fun W hW => ?_) ?_
      · (clear hW; go_simp)
      try simp only [Act.put, List.setIfInBounds_toArray, List.set_cons_zero, List.set_cons_succ]
      refine held_run (i := 20) (v := .bool true) rfl (by kernel_rfl) (by kernel_rfl) (by kernel_rfl) (fun _ _ _ h => h) (by rfl) y0 (fun W hW => ?_) ?_
      · (clear hW; go_simp)
      try simp only [Act.put, List.setIfInBounds_toArray, List.set_cons_zero, List.set_cons_succ]
      refine wpAnyH_done (by kernel_rfl) ?_ _
      have HY := hid y0
      clear y0
      go_wp2
      go_ret
      exact ⟨rfl, HX7.out.trans' HY.out⟩
end Go.Proofs.YtikjckdoldiddaaGreatDoor
