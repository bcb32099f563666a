/- The walks of goodHard and goodEntry. Printed by gen_wt4.py. -/
import Derived.Test.YtikjckdoldiddaaGreatDoorC08
namespace Go.Proofs.YtikjckdoldiddaaGreatDoor
open Go.RowKit Go.Maps
set_option linter.unusedVariables false
set_option linter.unusedSimpArgs false
attribute [local go_sem] bmax2 bmin2 bmax_two bmin_two

theorem gcells2 {W : World} {b : Nat} {x0 x1 : Value} {t : TypeId} (h : W.heap[b]? = some (.cells #[x0, x1] t (0, 0))) : W.cell? ⟨b, 0, none⟩ = some x0 ∧ W.cell? ⟨b, 1, none⟩ = some x1 := ⟨by simp [World.cell?, h], by simp [World.cell?, h]⟩
theorem gcells3 {W : World} {b : Nat} {x0 x1 x2 : Value} {t : TypeId} (h : W.heap[b]? = some (.cells #[x0, x1, x2] t (0, 0))) : W.cell? ⟨b, 0, none⟩ = some x0 ∧ W.cell? ⟨b, 1, none⟩ = some x1 ∧ W.cell? ⟨b, 2, none⟩ = some x2 := ⟨by simp [World.cell?, h], by simp [World.cell?, h], by simp [World.cell?, h]⟩
theorem goodH_any (w : World) (t v : Int) :
    Calls Tryz.prog 69 #[.agg #[.int .i64 t, .int .i64 v]] w (fun e w' => e = .returned (.bool (goodHS t v)) ∧ Ext w w') := by
  unfold goodHS
  have hx := ext_alloc w (.cells #[.int .i64 t, .int .i64 v] 39)
  obtain ⟨c0, c1⟩ := gcells2 (heap_alloc_new w (.cells #[.int .i64 t, .int .i64 v] 39))
  have HX := hid hx
  have HW := hid (fun W => within_any W t 0)
  have HC0 := hid c0
  have HC1 := hid c1
  clear hx c0 c1
  cases hb1 : withinS t 0 with
  | false =>
    rw [hb1] at HW
    clear hb1
    go_enter Tryz.func69, Tryz.ntmps69
    go_wp2_with fail
    refine Calls.mono (HW.out _) ?_
    rintro e w1 ⟨rfl, rfl⟩
    go_wp2
    go_ret
    exact ⟨rfl, HX.out⟩
  | true =>
    rw [hb1] at HW
    clear hb1
    cases hb2 : decide (0 ≤ v) with
    | false =>
      go_enter Tryz.func69, Tryz.ntmps69
      go_wp2_with fail
      refine Calls.mono (HW.out _) ?_
      rintro e w1 ⟨rfl, rfl⟩
      have c1 := HC1.out
      go_wp2
      go_ret
      exact ⟨rfl, HX.out⟩
    | true =>
      cases hb3 : decide (v ≤ 7) with
      | false =>
        go_enter Tryz.func69, Tryz.ntmps69
        go_wp2_with fail
        refine Calls.mono (HW.out _) ?_
        rintro e w1 ⟨rfl, rfl⟩
        have c1 := HC1.out
        go_wp2
        go_ret
        exact ⟨rfl, HX.out⟩
      | true =>
        go_enter Tryz.func69, Tryz.ntmps69
        go_wp2_with fail
        refine Calls.mono (HW.out _) ?_
        rintro e w1 ⟨rfl, rfl⟩
        have c1 := HC1.out
        go_wp2
        go_ret
        exact ⟨rfl, HX.out⟩
set_option maxRecDepth 100000 in
set_option maxHeartbeats 4000000 in
theorem goodE_any {F : Nat → Prop} {w : World} {g : Nat} {v : Wv} {la : Option Addr} {ln lc : Nat} (h : VwAt F w g v la ln lc) (x : Ent) {ea : Option Addr} {en ec : Nat} (hen : en = x.d.length) :
    Calls Tryz.prog 64 #[.pointer (some ⟨g, 0, none⟩), .agg #[.int .i64 x.i, .int .i64 x.t, .slice ea en ec]] w (fun e w' => e = .returned (.bool (v.good x)) ∧ Ext w w') := by
  have hx0 := ext_alloc w (.cells #[.int .i64 x.i, .int .i64 x.t, .slice ea en ec] 46)
  have hn0 := heap_alloc_new w (.cells #[.int .i64 x.i, .int .i64 x.t, .slice ea en ec] 46)
  have HX0 := hid hx0
  have hp0 : w.heap.size < (w.alloc (.cells #[.int .i64 x.i, .int .i64 x.t, .slice ea en ec] 46)).heap.size := by simp
  have HLA := hid (fun W (hW : Ext w W) => last_any (h.below hW))
  have hlast : v.last + 1 ≤ 2199023255552 ∧ -2199023255552 ≤ v.last + 1 := by have h1 := h.big; have h2 := h.many; unfold Wv.last; omega
  have hwz : IntKind.i64.wrap (v.last + 1) = v.last + 1 := IntWalk.i64_in _ ⟨by omega, by omega⟩
  unfold Wv.good
  obtain ⟨zl, hzl⟩ : ∃ zl, zl = v.last := ⟨_, rfl⟩
  rw [← hzl] at HLA hwz ⊢
  obtain ⟨ei, et, ed⟩ := x
  dsimp only at *
  rw [← hen]
  have HW2 := hid (fun W => within_any W ei 1)
  have HW3 := hid (fun W => within_any W et 1)
  clear h hlast hzl hen hx0
  obtain ⟨z1, hz1⟩ : ∃ z1, z1 = zl + 1 := ⟨_, rfl⟩
  rw [← hz1] at hwz ⊢
  have HZ1 := hid hz1
  clear hz1
  have hwz1 : IntKind.i64.wrap (zl + 1) = z1 := by rw [HZ1.out] at hwz ⊢; exact hwz
  by_cases h1 : ei = z1
  · have q1 : (ei == z1) = true := by simpa using h1
    rw [show decide (ei = z1) = true by simpa using h1]
    clear h1
    cases hb2 : withinS ei 1 with
    | false =>
      rw [hb2] at HW2
      clear hb2
      go_enter Tryz.func64, Tryz.ntmps64
      go_wp2
      generalize w.alloc (.cells #[.int .i64 ei, .int .i64 et, .slice ea en ec] 46) = wb at *
      obtain ⟨p, hp⟩ : ∃ p, p = w.heap.size := ⟨_, rfl⟩
      rw [← hp] at hn0 hp0 ⊢
      have HPC := hid (fun W (hW : Ext wb W) => gcells3 ((hW.block p hp0).trans hn0))
      have y0 : Ext wb wb.drew := ext_drew wb
      refine wp_region_held_drew (S := fun W => Ext wb W) (by kernel_rfl) y0 (fun hH => ?_)
      clear hH hp hn0 hp0
      refine held_run (i := 0) (v := .pointer (some ⟨p, 0, none⟩)) rfl (by kernel_rfl) (by kernel_rfl) (by kernel_rfl) (fun _ _ _ h => h) (by rfl) y0 (fun W hW => ?_) ?_
      · (clear hW; go_simp)
      try simp only [Act.put, List.setIfInBounds_toArray, List.set_cons_zero, List.set_cons_succ]
      refine held_run (i := 1) (v := .int .i64 ei) rfl (by kernel_rfl) (by kernel_rfl) (by kernel_rfl) (fun _ _ _ h => h) (by rfl) y0 (fun W hW => ?_) ?_
      · (obtain ⟨q0, q1, q2⟩ := HPC.out W hW; clear hW; go_simp)
      try simp only [Act.put, List.setIfInBounds_toArray, List.set_cons_zero, List.set_cons_succ]
      refine held_run (i := 2) (v := .pointer (some ⟨g, 0, none⟩)) rfl (by kernel_rfl) (by kernel_rfl) (by kernel_rfl) (fun _ _ _ h => h) (by rfl) y0 (fun W hW => ?_) ?_
      · (clear hW; go_simp)
      try simp only [Act.put, List.setIfInBounds_toArray, List.set_cons_zero, List.set_cons_succ]
      refine wpAnyH_ready (rs := [3]) (by kernel_rfl) (by simp) ?_
      refine held_cons (i := 3) rfl (fun K hK => ?_)
      go_simp
      go_at_call 72
      refine Calls.mono (HLA.out _ (HX0.out.trans' y0)) ?_
      rintro e w1 ⟨rfl, q, hw⟩
      have y1 : Ext wb w1 := by rw [hw]; exact y0.trans' (ext_drewN _ q)
      clear hw
      dsimp only
      refine hK.out _ _ y1 (fun hH => ?_)
      clear hK K y0 hH
      have y0 := y1
      clear y1
      try simp only [Act.put, List.setIfInBounds_toArray, List.set_cons_zero, List.set_cons_succ]
      refine held_run (i := 4) (v := .int .i64 z1) rfl (by kernel_rfl) (by kernel_rfl) (by kernel_rfl) (fun _ _ _ h => h) (by rfl) y0 (fun W hW => ?_) ?_
      · (clear hW; go_simp)
      try simp only [Act.put, List.setIfInBounds_toArray, List.set_cons_zero, List.set_cons_succ]
      refine held_run (i := 5) (v := .bool true) rfl (by kernel_rfl) (by kernel_rfl) (by kernel_rfl) (fun _ _ _ h => h) (by rfl) y0 (fun W hW => ?_) ?_
      · (clear hW; go_simp)
      try simp only [Act.put, List.setIfInBounds_toArray, List.set_cons_zero, List.set_cons_succ]
      refine held_run (i := 6) (v := .bool true) rfl (by kernel_rfl) (by kernel_rfl) (by kernel_rfl) (fun _ _ _ h => h) (by rfl) y0 (fun W hW => ?_) ?_
      · (clear hW; go_simp)
      try simp only [Act.put, List.setIfInBounds_toArray, List.set_cons_zero, List.set_cons_succ]
      refine held_run (i := 7) (v := .pointer (some ⟨p, 0, none⟩)) rfl (by kernel_rfl) (by kernel_rfl) (by kernel_rfl) (fun _ _ _ h => h) (by rfl) y0 (fun W hW => ?_) ?_
      · (clear hW; go_simp)
      try simp only [Act.put, List.setIfInBounds_toArray, List.set_cons_zero, List.set_cons_succ]
      refine held_run (i := 8) (v := .int .i64 ei) rfl (by kernel_rfl) (by kernel_rfl) (by kernel_rfl) (fun _ _ _ h => h) (by rfl) y0 (fun W hW => ?_) ?_
      · (obtain ⟨q0, q1, q2⟩ := HPC.out W hW; clear hW; go_simp)
      try simp only [Act.put, List.setIfInBounds_toArray, List.set_cons_zero, List.set_cons_succ]
      refine wpAnyH_ready (rs := [9]) (by kernel_rfl) (by simp) ?_
      refine held_cons (i := 9) rfl (fun K hK => ?_)
      go_simp
      go_at_call 74
      refine Calls.mono (HW2.out _) ?_
      rintro e w2 ⟨rfl, rfl⟩
      have y1 := y0
      dsimp only
      refine hK.out _ _ y1 (fun hH => ?_)
      clear hK K y0 hH
      have y0 := y1
      clear y1
      try simp only [Act.put, List.setIfInBounds_toArray, List.set_cons_zero, List.set_cons_succ]
      refine held_run (i := 10) (v := .bool false) rfl (by kernel_rfl) (by kernel_rfl) (by kernel_rfl) (fun _ _ _ h => h) (by rfl) y0 (fun W hW => ?_) ?_
      · (clear hW; go_simp)
      try simp only [Act.put, List.setIfInBounds_toArray, List.set_cons_zero, List.set_cons_succ]
      refine held_run (i := 11) (v := .bool false) rfl (by kernel_rfl) (by kernel_rfl) (by kernel_rfl) (fun _ _ _ h => h) (by rfl) y0 (fun W hW => ?_) ?_
      · (clear hW; go_simp)
      try simp only [Act.put, List.setIfInBounds_toArray, List.set_cons_zero, List.set_cons_succ]
      refine held_skip (i := 12) rfl (by kernel_rfl) (by kernel_rfl) (by kernel_rfl) (fun _ _ _ h => h) (by rfl) y0 ?_
      try simp only [Act.put, List.setIfInBounds_toArray, List.set_cons_zero, List.set_cons_succ]
      refine held_skip (i := 13) rfl (by kernel_rfl) (by kernel_rfl) (by kernel_rfl) (fun _ _ _ h => h) (by rfl) y0 ?_
      try simp only [Act.put, List.setIfInBounds_toArray, List.set_cons_zero, List.set_cons_succ]
      refine held_skip (i := 14) rfl (by kernel_rfl) (by kernel_rfl) (by kernel_rfl) (fun _ _ _ h => h) (by rfl) y0 ?_
      try simp only [Act.put, List.setIfInBounds_toArray, List.set_cons_zero, List.set_cons_succ]
      refine held_run (i := 15) (v := .bool false) rfl (by kernel_rfl) (by kernel_rfl) (by kernel_rfl) (fun _ _ _ h => h) (by rfl) y0 (fun W hW => ?_) ?_
      · (clear hW; go_simp)
      try simp only [Act.put, List.setIfInBounds_toArray, List.set_cons_zero, List.set_cons_succ]
      refine held_run (i := 16) (v := .bool false) rfl (by kernel_rfl) (by kernel_rfl) (by kernel_rfl) (fun _ _ _ h => h) (by rfl) y0 (fun W hW => ?_) ?_
      · (clear hW; go_simp)
      try simp only [Act.put, List.setIfInBounds_toArray, List.set_cons_zero, List.set_cons_succ]
      refine held_skip (i := 17) rfl (by kernel_rfl) (by kernel_rfl) (by kernel_rfl) (fun _ _ _ h => h) (by rfl) y0 ?_
      try simp only [Act.put, List.setIfInBounds_toArray, List.set_cons_zero, List.set_cons_succ]
      refine held_skip (i := 18) rfl (by kernel_rfl) (by kernel_rfl) (by kernel_rfl) (fun _ _ _ h => h) (by rfl) y0 ?_
      try simp only [Act.put, List.setIfInBounds_toArray, List.set_cons_zero, List.set_cons_succ]
      refine held_skip (i := 19) rfl (by kernel_rfl) (by kernel_rfl) (by kernel_rfl) (fun _ _ _ h => h) (by rfl) y0 ?_
      try simp only [Act.put, List.setIfInBounds_toArray, List.set_cons_zero, List.set_cons_succ]
      refine held_skip (i := 20) rfl (by kernel_rfl) (by kernel_rfl) (by kernel_rfl) (fun _ _ _ h => h) (by rfl) y0 ?_
      try simp only [Act.put, List.setIfInBounds_toArray, List.set_cons_zero, List.set_cons_succ]
      refine held_run (i := 21) (v := .bool false) rfl (by kernel_rfl) (by kernel_rfl) (by kernel_rfl) (fun _ _ _ h => h) (by rfl) y0 (fun W hW => ?_) ?_
      · (clear hW; go_simp)
      try simp only [Act.put, List.setIfInBounds_toArray, List.set_cons_zero, List.set_cons_succ]
      refine held_run (i := 22) (v := .bool false) rfl (by kernel_rfl) (by kernel_rfl) (by kernel_rfl) (fun _ _ _ h => h) (by rfl) y0 (fun W hW => ?_) ?_
      · (clear hW; go_simp)
      try simp only [Act.put, List.setIfInBounds_toArray, List.set_cons_zero, List.set_cons_succ]
      refine wpAnyH_done (by kernel_rfl) ?_ _
      have HY := hid y0
      clear y0
      go_wp2
      go_ret
      exact ⟨rfl, HX0.out.trans' HY.out⟩
    | true =>
      rw [hb2] at HW2
      clear hb2
      cases hb3 : withinS et 1 with
      | false =>
        rw [hb3] at HW3
        clear hb3
        go_enter Tryz.func64, Tryz.ntmps64
        go_wp2
        generalize w.alloc (.cells #[.int .i64 ei, .int .i64 et, .slice ea en ec] 46) = wb at *
        obtain ⟨p, hp⟩ : ∃ p, p = w.heap.size := ⟨_, rfl⟩
        rw [← hp] at hn0 hp0 ⊢
        have HPC := hid (fun W (hW : Ext wb W) => gcells3 ((hW.block p hp0).trans hn0))
        have y0 : Ext wb wb.drew := ext_drew wb
        refine wp_region_held_drew (S := fun W => Ext wb W) (by kernel_rfl) y0 (fun hH => ?_)
        clear hH hp hn0 hp0
        refine held_run (i := 0) (v := .pointer (some ⟨p, 0, none⟩)) rfl (by kernel_rfl) (by kernel_rfl) (by kernel_rfl) (fun _ _ _ h => h) (by rfl) y0 (fun W hW => ?_) ?_
        · (clear hW; go_simp)
        try simp only [Act.put, List.setIfInBounds_toArray, List.set_cons_zero, List.set_cons_succ]
        refine held_run (i := 1) (v := .int .i64 ei) rfl (by kernel_rfl) (by kernel_rfl) (by kernel_rfl) (fun _ _ _ h => h) (by rfl) y0 (fun W hW => ?_) ?_
        · (obtain ⟨q0, q1, q2⟩ := HPC.out W hW; clear hW; go_simp)
        try simp only [Act.put, List.setIfInBounds_toArray, List.set_cons_zero, List.set_cons_succ]
        refine held_run (i := 2) (v := .pointer (some ⟨g, 0, none⟩)) rfl (by kernel_rfl) (by kernel_rfl) (by kernel_rfl) (fun _ _ _ h => h) (by rfl) y0 (fun W hW => ?_) ?_
        · (clear hW; go_simp)
        try simp only [Act.put, List.setIfInBounds_toArray, List.set_cons_zero, List.set_cons_succ]
        refine wpAnyH_ready (rs := [3]) (by kernel_rfl) (by simp) ?_
        refine held_cons (i := 3) rfl (fun K hK => ?_)
        go_simp
        go_at_call 72
        refine Calls.mono (HLA.out _ (HX0.out.trans' y0)) ?_
        rintro e w1 ⟨rfl, q, hw⟩
        have y1 : Ext wb w1 := by rw [hw]; exact y0.trans' (ext_drewN _ q)
        clear hw
        dsimp only
        refine hK.out _ _ y1 (fun hH => ?_)
        clear hK K y0 hH
        have y0 := y1
        clear y1
        try simp only [Act.put, List.setIfInBounds_toArray, List.set_cons_zero, List.set_cons_succ]
        refine held_run (i := 4) (v := .int .i64 z1) rfl (by kernel_rfl) (by kernel_rfl) (by kernel_rfl) (fun _ _ _ h => h) (by rfl) y0 (fun W hW => ?_) ?_
        · (clear hW; go_simp)
        try simp only [Act.put, List.setIfInBounds_toArray, List.set_cons_zero, List.set_cons_succ]
        refine held_run (i := 5) (v := .bool true) rfl (by kernel_rfl) (by kernel_rfl) (by kernel_rfl) (fun _ _ _ h => h) (by rfl) y0 (fun W hW => ?_) ?_
        · (clear hW; go_simp)
        try simp only [Act.put, List.setIfInBounds_toArray, List.set_cons_zero, List.set_cons_succ]
        refine held_run (i := 6) (v := .bool true) rfl (by kernel_rfl) (by kernel_rfl) (by kernel_rfl) (fun _ _ _ h => h) (by rfl) y0 (fun W hW => ?_) ?_
        · (clear hW; go_simp)
        try simp only [Act.put, List.setIfInBounds_toArray, List.set_cons_zero, List.set_cons_succ]
        refine held_run (i := 7) (v := .pointer (some ⟨p, 0, none⟩)) rfl (by kernel_rfl) (by kernel_rfl) (by kernel_rfl) (fun _ _ _ h => h) (by rfl) y0 (fun W hW => ?_) ?_
        · (clear hW; go_simp)
        try simp only [Act.put, List.setIfInBounds_toArray, List.set_cons_zero, List.set_cons_succ]
        refine held_run (i := 8) (v := .int .i64 ei) rfl (by kernel_rfl) (by kernel_rfl) (by kernel_rfl) (fun _ _ _ h => h) (by rfl) y0 (fun W hW => ?_) ?_
        · (obtain ⟨q0, q1, q2⟩ := HPC.out W hW; clear hW; go_simp)
        try simp only [Act.put, List.setIfInBounds_toArray, List.set_cons_zero, List.set_cons_succ]
        refine wpAnyH_ready (rs := [9]) (by kernel_rfl) (by simp) ?_
        refine held_cons (i := 9) rfl (fun K hK => ?_)
        go_simp
        go_at_call 74
        refine Calls.mono (HW2.out _) ?_
        rintro e w2 ⟨rfl, rfl⟩
        have y1 := y0
        dsimp only
        refine hK.out _ _ y1 (fun hH => ?_)
        clear hK K y0 hH
        have y0 := y1
        clear y1
        try simp only [Act.put, List.setIfInBounds_toArray, List.set_cons_zero, List.set_cons_succ]
        refine held_run (i := 10) (v := .bool true) rfl (by kernel_rfl) (by kernel_rfl) (by kernel_rfl) (fun _ _ _ h => h) (by rfl) y0 (fun W hW => ?_) ?_
        · (clear hW; go_simp)
        try simp only [Act.put, List.setIfInBounds_toArray, List.set_cons_zero, List.set_cons_succ]
        refine held_run (i := 11) (v := .bool true) rfl (by kernel_rfl) (by kernel_rfl) (by kernel_rfl) (fun _ _ _ h => h) (by rfl) y0 (fun W hW => ?_) ?_
        · (clear hW; go_simp)
        try simp only [Act.put, List.setIfInBounds_toArray, List.set_cons_zero, List.set_cons_succ]
        refine held_run (i := 12) (v := .pointer (some ⟨p, 1, none⟩)) rfl (by kernel_rfl) (by kernel_rfl) (by kernel_rfl) (fun _ _ _ h => h) (by rfl) y0 (fun W hW => ?_) ?_
        · (clear hW; go_simp)
        try simp only [Act.put, List.setIfInBounds_toArray, List.set_cons_zero, List.set_cons_succ]
        refine held_run (i := 13) (v := .int .i64 et) rfl (by kernel_rfl) (by kernel_rfl) (by kernel_rfl) (fun _ _ _ h => h) (by rfl) y0 (fun W hW => ?_) ?_
        · (obtain ⟨q0, q1, q2⟩ := HPC.out W hW; clear hW; go_simp)
        try simp only [Act.put, List.setIfInBounds_toArray, List.set_cons_zero, List.set_cons_succ]
        refine wpAnyH_ready (rs := [14]) (by kernel_rfl) (by simp) ?_
        refine held_cons (i := 14) rfl (fun K hK => ?_)
        go_simp
        go_at_call 74
        refine Calls.mono (HW3.out _) ?_
        rintro e w2 ⟨rfl, rfl⟩
        have y1 := y0
        dsimp only
        refine hK.out _ _ y1 (fun hH => ?_)
        clear hK K y0 hH
        have y0 := y1
        clear y1
        try simp only [Act.put, List.setIfInBounds_toArray, List.set_cons_zero, List.set_cons_succ]
        refine held_run (i := 15) (v := .bool false) rfl (by kernel_rfl) (by kernel_rfl) (by kernel_rfl) (fun _ _ _ h => h) (by rfl) y0 (fun W hW => ?_) ?_
        · (clear hW; go_simp)
        try simp only [Act.put, List.setIfInBounds_toArray, List.set_cons_zero, List.set_cons_succ]
        refine held_run (i := 16) (v := .bool false) rfl (by kernel_rfl) (by kernel_rfl) (by kernel_rfl) (fun _ _ _ h => h) (by rfl) y0 (fun W hW => ?_) ?_
        · (clear hW; go_simp)
        try simp only [Act.put, List.setIfInBounds_toArray, List.set_cons_zero, List.set_cons_succ]
        refine held_skip (i := 17) rfl (by kernel_rfl) (by kernel_rfl) (by kernel_rfl) (fun _ _ _ h => h) (by rfl) y0 ?_
        try simp only [Act.put, List.setIfInBounds_toArray, List.set_cons_zero, List.set_cons_succ]
        refine held_skip (i := 18) rfl (by kernel_rfl) (by kernel_rfl) (by kernel_rfl) (fun _ _ _ h => h) (by rfl) y0 ?_
        try simp only [Act.put, List.setIfInBounds_toArray, List.set_cons_zero, List.set_cons_succ]
        refine held_skip (i := 19) rfl (by kernel_rfl) (by kernel_rfl) (by kernel_rfl) (fun _ _ _ h => h) (by rfl) y0 ?_
        try simp only [Act.put, List.setIfInBounds_toArray, List.set_cons_zero, List.set_cons_succ]
        refine held_skip (i := 20) rfl (by kernel_rfl) (by kernel_rfl) (by kernel_rfl) (fun _ _ _ h => h) (by rfl) y0 ?_
        try simp only [Act.put, List.setIfInBounds_toArray, List.set_cons_zero, List.set_cons_succ]
        refine held_run (i := 21) (v := .bool false) rfl (by kernel_rfl) (by kernel_rfl) (by kernel_rfl) (fun _ _ _ h => h) (by rfl) y0 (fun W hW => ?_) ?_
        · (clear hW; go_simp)
        try simp only [Act.put, List.setIfInBounds_toArray, List.set_cons_zero, List.set_cons_succ]
        refine held_run (i := 22) (v := .bool false) rfl (by kernel_rfl) (by kernel_rfl) (by kernel_rfl) (fun _ _ _ h => h) (by rfl) y0 (fun W hW => ?_) ?_
        · (clear hW; go_simp)
        try simp only [Act.put, List.setIfInBounds_toArray, List.set_cons_zero, List.set_cons_succ]
        refine wpAnyH_done (by kernel_rfl) ?_ _
        have HY := hid y0
        clear y0
        go_wp2
        go_ret
        exact ⟨rfl, HX0.out.trans' HY.out⟩
      | true =>
        rw [hb3] at HW3
        clear hb3
        by_cases h4 : en ≤ 4096
        · have q4 : decide ((en : Int) ≤ 4096) = true := by simp; omega
          rw [show decide (en ≤ 4096) = true by simpa using h4]
          clear h4
          go_enter Tryz.func64, Tryz.ntmps64
          go_wp2
          generalize w.alloc (.cells #[.int .i64 ei, .int .i64 et, .slice ea en ec] 46) = wb at *
          obtain ⟨p, hp⟩ : ∃ p, p = w.heap.size := ⟨_, rfl⟩
          rw [← hp] at hn0 hp0 ⊢
          have HPC := hid (fun W (hW : Ext wb W) => gcells3 ((hW.block p hp0).trans hn0))
          have y0 : Ext wb wb.drew := ext_drew wb
          refine wp_region_held_drew (S := fun W => Ext wb W) (by kernel_rfl) y0 (fun hH => ?_)
          clear hH hp hn0 hp0
          refine held_run (i := 0) (v := .pointer (some ⟨p, 0, none⟩)) rfl (by kernel_rfl) (by kernel_rfl) (by kernel_rfl) (fun _ _ _ h => h) (by rfl) y0 (fun W hW => ?_) ?_
          · (clear hW; go_simp)
          try simp only [Act.put, List.setIfInBounds_toArray, List.set_cons_zero, List.set_cons_succ]
          refine held_run (i := 1) (v := .int .i64 ei) rfl (by kernel_rfl) (by kernel_rfl) (by kernel_rfl) (fun _ _ _ h => h) (by rfl) y0 (fun W hW => ?_) ?_
          · (obtain ⟨q0, q1, q2⟩ := HPC.out W hW; clear hW; go_simp)
          try simp only [Act.put, List.setIfInBounds_toArray, List.set_cons_zero, List.set_cons_succ]
          refine held_run (i := 2) (v := .pointer (some ⟨g, 0, none⟩)) rfl (by kernel_rfl) (by kernel_rfl) (by kernel_rfl) (fun _ _ _ h => h) (by rfl) y0 (fun W hW => ?_) ?_
          · (clear hW; go_simp)
          try simp only [Act.put, List.setIfInBounds_toArray, List.set_cons_zero, List.set_cons_succ]
          refine wpAnyH_ready (rs := [3]) (by kernel_rfl) (by simp) ?_
          refine held_cons (i := 3) rfl (fun K hK => ?_)
          go_simp
          go_at_call 72
          refine Calls.mono (HLA.out _ (HX0.out.trans' y0)) ?_
          rintro e w1 ⟨rfl, q, hw⟩
          have y1 : Ext wb w1 := by rw [hw]; exact y0.trans' (ext_drewN _ q)
          clear hw
          dsimp only
          refine hK.out _ _ y1 (fun hH => ?_)
          clear hK K y0 hH
          have y0 := y1
          clear y1
          try simp only [Act.put, List.setIfInBounds_toArray, List.set_cons_zero, List.set_cons_succ]
          refine held_run (i := 4) (v := .int .i64 z1) rfl (by kernel_rfl) (by kernel_rfl) (by kernel_rfl) (fun _ _ _ h => h) (by rfl) y0 (fun W hW => ?_) ?_
          · (clear hW; go_simp)
          try simp only [Act.put, List.setIfInBounds_toArray, List.set_cons_zero, List.set_cons_succ]
          refine held_run (i := 5) (v := .bool true) rfl (by kernel_rfl) (by kernel_rfl) (by kernel_rfl) (fun _ _ _ h => h) (by rfl) y0 (fun W hW => ?_) ?_
          · (clear hW; go_simp)
          try simp only [Act.put, List.setIfInBounds_toArray, List.set_cons_zero, List.set_cons_succ]
          refine held_run (i := 6) (v := .bool true) rfl (by kernel_rfl) (by kernel_rfl) (by kernel_rfl) (fun _ _ _ h => h) (by rfl) y0 (fun W hW => ?_) ?_
          · (clear hW; go_simp)
          try simp only [Act.put, List.setIfInBounds_toArray, List.set_cons_zero, List.set_cons_succ]
          refine held_run (i := 7) (v := .pointer (some ⟨p, 0, none⟩)) rfl (by kernel_rfl) (by kernel_rfl) (by kernel_rfl) (fun _ _ _ h => h) (by rfl) y0 (fun W hW => ?_) ?_
          · (clear hW; go_simp)
          try simp only [Act.put, List.setIfInBounds_toArray, List.set_cons_zero, List.set_cons_succ]
          refine held_run (i := 8) (v := .int .i64 ei) rfl (by kernel_rfl) (by kernel_rfl) (by kernel_rfl) (fun _ _ _ h => h) (by rfl) y0 (fun W hW => ?_) ?_
          · (obtain ⟨q0, q1, q2⟩ := HPC.out W hW; clear hW; go_simp)
          try simp only [Act.put, List.setIfInBounds_toArray, List.set_cons_zero, List.set_cons_succ]
          refine wpAnyH_ready (rs := [9]) (by kernel_rfl) (by simp) ?_
          refine held_cons (i := 9) rfl (fun K hK => ?_)
          go_simp
          go_at_call 74
          refine Calls.mono (HW2.out _) ?_
          rintro e w2 ⟨rfl, rfl⟩
          have y1 := y0
          dsimp only
          refine hK.out _ _ y1 (fun hH => ?_)
          clear hK K y0 hH
          have y0 := y1
          clear y1
          try simp only [Act.put, List.setIfInBounds_toArray, List.set_cons_zero, List.set_cons_succ]
          refine held_run (i := 10) (v := .bool true) rfl (by kernel_rfl) (by kernel_rfl) (by kernel_rfl) (fun _ _ _ h => h) (by rfl) y0 (fun W hW => ?_) ?_
          · (clear hW; go_simp)
          try simp only [Act.put, List.setIfInBounds_toArray, List.set_cons_zero, List.set_cons_succ]
          refine held_run (i := 11) (v := .bool true) rfl (by kernel_rfl) (by kernel_rfl) (by kernel_rfl) (fun _ _ _ h => h) (by rfl) y0 (fun W hW => ?_) ?_
          · (clear hW; go_simp)
          try simp only [Act.put, List.setIfInBounds_toArray, List.set_cons_zero, List.set_cons_succ]
          refine held_run (i := 12) (v := .pointer (some ⟨p, 1, none⟩)) rfl (by kernel_rfl) (by kernel_rfl) (by kernel_rfl) (fun _ _ _ h => h) (by rfl) y0 (fun W hW => ?_) ?_
          · (clear hW; go_simp)
          try simp only [Act.put, List.setIfInBounds_toArray, List.set_cons_zero, List.set_cons_succ]
          refine held_run (i := 13) (v := .int .i64 et) rfl (by kernel_rfl) (by kernel_rfl) (by kernel_rfl) (fun _ _ _ h => h) (by rfl) y0 (fun W hW => ?_) ?_
          · (obtain ⟨q0, q1, q2⟩ := HPC.out W hW; clear hW; go_simp)
          try simp only [Act.put, List.setIfInBounds_toArray, List.set_cons_zero, List.set_cons_succ]
          refine wpAnyH_ready (rs := [14]) (by kernel_rfl) (by simp) ?_
          refine held_cons (i := 14) rfl (fun K hK => ?_)
          go_simp
          go_at_call 74
          refine Calls.mono (HW3.out _) ?_
          rintro e w2 ⟨rfl, rfl⟩
          have y1 := y0
          dsimp only
          refine hK.out _ _ y1 (fun hH => ?_)
          clear hK K y0 hH
          have y0 := y1
          clear y1
          try simp only [Act.put, List.setIfInBounds_toArray, List.set_cons_zero, List.set_cons_succ]
          refine held_run (i := 15) (v := .bool true) rfl (by kernel_rfl) (by kernel_rfl) (by kernel_rfl) (fun _ _ _ h => h) (by rfl) y0 (fun W hW => ?_) ?_
          · (clear hW; go_simp)
          try simp only [Act.put, List.setIfInBounds_toArray, List.set_cons_zero, List.set_cons_succ]
          refine held_run (i := 16) (v := .bool true) rfl (by kernel_rfl) (by kernel_rfl) (by kernel_rfl) (fun _ _ _ h => h) (by rfl) y0 (fun W hW => ?_) ?_
          · (clear hW; go_simp)
          try simp only [Act.put, List.setIfInBounds_toArray, List.set_cons_zero, List.set_cons_succ]
          refine held_run (i := 17) (v := .pointer (some ⟨p, 2, none⟩)) rfl (by kernel_rfl) (by kernel_rfl) (by kernel_rfl) (fun _ _ _ h => h) (by rfl) y0 (fun W hW => ?_) ?_
          · (clear hW; go_simp)
          try simp only [Act.put, List.setIfInBounds_toArray, List.set_cons_zero, List.set_cons_succ]
          refine held_run (i := 18) (v := .slice ea en ec) rfl (by kernel_rfl) (by kernel_rfl) (by kernel_rfl) (fun _ _ _ h => h) (by rfl) y0 (fun W hW => ?_) ?_
          · (obtain ⟨q0, q1, q2⟩ := HPC.out W hW; clear hW; go_simp)
          try simp only [Act.put, List.setIfInBounds_toArray, List.set_cons_zero, List.set_cons_succ]
          refine held_run (i := 19) (v := .int .i64 (en : Int)) rfl (by kernel_rfl) (by kernel_rfl) (by kernel_rfl) (fun _ _ _ h => h) (by rfl) y0 (fun W hW => ?_) ?_
          · (clear hW; go_simp)
          try simp only [Act.put, List.setIfInBounds_toArray, List.set_cons_zero, List.set_cons_succ]
          refine held_run (i := 20) (v := .bool true) rfl (by kernel_rfl) (by kernel_rfl) (by kernel_rfl) (fun _ _ _ h => h) (by rfl) y0 (fun W hW => ?_) ?_
          · (clear hW; go_simp)
          try simp only [Act.put, List.setIfInBounds_toArray, List.set_cons_zero, List.set_cons_succ]
          refine held_run (i := 21) (v := .bool true) rfl (by kernel_rfl) (by kernel_rfl) (by kernel_rfl) (fun _ _ _ h => h) (by rfl) y0 (fun W hW => ?_) ?_
          · (clear hW; go_simp)
          try simp only [Act.put, List.setIfInBounds_toArray, List.set_cons_zero, List.set_cons_succ]
          refine held_run (i := 22) (v := .bool true) rfl (by kernel_rfl) (by kernel_rfl) (by kernel_rfl) (fun _ _ _ h => h) (by rfl) y0 (fun W hW => ?_) ?_
          · (clear hW; go_simp)
          try simp only [Act.put, List.setIfInBounds_toArray, List.set_cons_zero, List.set_cons_succ]
          refine wpAnyH_done (by kernel_rfl) ?_ _
          have HY := hid y0
          clear y0
          go_wp2
          go_ret
          exact ⟨rfl, HX0.out.trans' HY.out⟩
        have q4 : decide ((en : Int) ≤ 4096) = false := by simp; omega
        rw [show decide (en ≤ 4096) = false by simpa using h4]
        clear h4
        go_enter Tryz.func64, Tryz.ntmps64
        go_wp2
        generalize w.alloc (.cells #[.int .i64 ei, .int .i64 et, .slice ea en ec] 46) = wb at *
        obtain ⟨p, hp⟩ : ∃ p, p = w.heap.size := ⟨_, rfl⟩
        rw [← hp] at hn0 hp0 ⊢
        have HPC := hid (fun W (hW : Ext wb W) => gcells3 ((hW.block p hp0).trans hn0))
        have y0 : Ext wb wb.drew := ext_drew wb
        refine wp_region_held_drew (S := fun W => Ext wb W) (by kernel_rfl) y0 (fun hH => ?_)
        clear hH hp hn0 hp0
        refine held_run (i := 0) (v := .pointer (some ⟨p, 0, none⟩)) rfl (by kernel_rfl) (by kernel_rfl) (by kernel_rfl) (fun _ _ _ h => h) (by rfl) y0 (fun W hW => ?_) ?_
        · (clear hW; go_simp)
        try simp only [Act.put, List.setIfInBounds_toArray, List.set_cons_zero, List.set_cons_succ]
        refine held_run (i := 1) (v := .int .i64 ei) rfl (by kernel_rfl) (by kernel_rfl) (by kernel_rfl) (fun _ _ _ h => h) (by rfl) y0 (fun W hW => ?_) ?_
        · (obtain ⟨q0, q1, q2⟩ := HPC.out W hW; clear hW; go_simp)
        try simp only [Act.put, List.setIfInBounds_toArray, List.set_cons_zero, List.set_cons_succ]
        refine held_run (i := 2) (v := .pointer (some ⟨g, 0, none⟩)) rfl (by kernel_rfl) (by kernel_rfl) (by kernel_rfl) (fun _ _ _ h => h) (by rfl) y0 (fun W hW => ?_) ?_
        · (clear hW; go_simp)
        try simp only [Act.put, List.setIfInBounds_toArray, List.set_cons_zero, List.set_cons_succ]
        refine wpAnyH_ready (rs := [3]) (by kernel_rfl) (by simp) ?_
        refine held_cons (i := 3) rfl (fun K hK => ?_)
        go_simp
        go_at_call 72
        refine Calls.mono (HLA.out _ (HX0.out.trans' y0)) ?_
        rintro e w1 ⟨rfl, q, hw⟩
        have y1 : Ext wb w1 := by rw [hw]; exact y0.trans' (ext_drewN _ q)
        clear hw
        dsimp only
        refine hK.out _ _ y1 (fun hH => ?_)
        clear hK K y0 hH
        have y0 := y1
        clear y1
        try simp only [Act.put, List.setIfInBounds_toArray, List.set_cons_zero, List.set_cons_succ]
        refine held_run (i := 4) (v := .int .i64 z1) rfl (by kernel_rfl) (by kernel_rfl) (by kernel_rfl) (fun _ _ _ h => h) (by rfl) y0 (fun W hW => ?_) ?_
        · (clear hW; go_simp)
        try simp only [Act.put, List.setIfInBounds_toArray, List.set_cons_zero, List.set_cons_succ]
        refine held_run (i := 5) (v := .bool true) rfl (by kernel_rfl) (by kernel_rfl) (by kernel_rfl) (fun _ _ _ h => h) (by rfl) y0 (fun W hW => ?_) ?_
        · (clear hW; go_simp)
        try simp only [Act.put, List.setIfInBounds_toArray, List.set_cons_zero, List.set_cons_succ]
        refine held_run (i := 6) (v := .bool true) rfl (by kernel_rfl) (by kernel_rfl) (by kernel_rfl) (fun _ _ _ h => h) (by rfl) y0 (fun W hW => ?_) ?_
        · (clear hW; go_simp)
        try simp only [Act.put, List.setIfInBounds_toArray, List.set_cons_zero, List.set_cons_succ]
        refine held_run (i := 7) (v := .pointer (some ⟨p, 0, none⟩)) rfl (by kernel_rfl) (by kernel_rfl) (by kernel_rfl) (fun _ _ _ h => h) (by rfl) y0 (fun W hW => ?_) ?_
        · (clear hW; go_simp)
        try simp only [Act.put, List.setIfInBounds_toArray, List.set_cons_zero, List.set_cons_succ]
        refine held_run (i := 8) (v := .int .i64 ei) rfl (by kernel_rfl) (by kernel_rfl) (by kernel_rfl) (fun _ _ _ h => h) (by rfl) y0 (fun W hW => ?_) ?_
        · (obtain ⟨q0, q1, q2⟩ := HPC.out W hW; clear hW; go_simp)
        try simp only [Act.put, List.setIfInBounds_toArray, List.set_cons_zero, List.set_cons_succ]
        refine wpAnyH_ready (rs := [9]) (by kernel_rfl) (by simp) ?_
        refine held_cons (i := 9) rfl (fun K hK => ?_)
        go_simp
        go_at_call 74
        refine Calls.mono (HW2.out _) ?_
        rintro e w2 ⟨rfl, rfl⟩
        have y1 := y0
        dsimp only
        refine hK.out _ _ y1 (fun hH => ?_)
        clear hK K y0 hH
        have y0 := y1
        clear y1
        try simp only [Act.put, List.setIfInBounds_toArray, List.set_cons_zero, List.set_cons_succ]
        refine held_run (i := 10) (v := .bool true) rfl (by kernel_rfl) (by kernel_rfl) (by kernel_rfl) (fun _ _ _ h => h) (by rfl) y0 (fun W hW => ?_) ?_
        · (clear hW; go_simp)
        try simp only [Act.put, List.setIfInBounds_toArray, List.set_cons_zero, List.set_cons_succ]
        refine held_run (i := 11) (v := .bool true) rfl (by kernel_rfl) (by kernel_rfl) (by kernel_rfl) (fun _ _ _ h => h) (by rfl) y0 (fun W hW => ?_) ?_
        · (clear hW; go_simp)
        try simp only [Act.put, List.setIfInBounds_toArray, List.set_cons_zero, List.set_cons_succ]
        refine held_run (i := 12) (v := .pointer (some ⟨p, 1, none⟩)) rfl (by kernel_rfl) (by kernel_rfl) (by kernel_rfl) (fun _ _ _ h => h) (by rfl) y0 (fun W hW => ?_) ?_
        · (clear hW; go_simp)
        try simp only [Act.put, List.setIfInBounds_toArray, List.set_cons_zero, List.set_cons_succ]
        refine held_run (i := 13) (v := .int .i64 et) rfl (by kernel_rfl) (by kernel_rfl) (by kernel_rfl) (fun _ _ _ h => h) (by rfl) y0 (fun W hW => ?_) ?_
        · (obtain ⟨q0, q1, q2⟩ := HPC.out W hW; clear hW; go_simp)
        try simp only [Act.put, List.setIfInBounds_toArray, List.set_cons_zero, List.set_cons_succ]
        refine wpAnyH_ready (rs := [14]) (by kernel_rfl) (by simp) ?_
        refine held_cons (i := 14) rfl (fun K hK => ?_)
        go_simp
        go_at_call 74
        refine Calls.mono (HW3.out _) ?_
        rintro e w2 ⟨rfl, rfl⟩
        have y1 := y0
        dsimp only
        refine hK.out _ _ y1 (fun hH => ?_)
        clear hK K y0 hH
        have y0 := y1
        clear y1
        try simp only [Act.put, List.setIfInBounds_toArray, List.set_cons_zero, List.set_cons_succ]
        refine held_run (i := 15) (v := .bool true) rfl (by kernel_rfl) (by kernel_rfl) (by kernel_rfl) (fun _ _ _ h => h) (by rfl) y0 (fun W hW => ?_) ?_
        · (clear hW; go_simp)
        try simp only [Act.put, List.setIfInBounds_toArray, List.set_cons_zero, List.set_cons_succ]
        refine held_run (i := 16) (v := .bool true) rfl (by kernel_rfl) (by kernel_rfl) (by kernel_rfl) (fun _ _ _ h => h) (by rfl) y0 (fun W hW => ?_) ?_
        · (clear hW; go_simp)
        try simp only [Act.put, List.setIfInBounds_toArray, List.set_cons_zero, List.set_cons_succ]
        refine held_run (i := 17) (v := .pointer (some ⟨p, 2, none⟩)) rfl (by kernel_rfl) (by kernel_rfl) (by kernel_rfl) (fun _ _ _ h => h) (by rfl) y0 (fun W hW => ?_) ?_
        · (clear hW; go_simp)
        try simp only [Act.put, List.setIfInBounds_toArray, List.set_cons_zero, List.set_cons_succ]
        refine held_run (i := 18) (v := .slice ea en ec) rfl (by kernel_rfl) (by kernel_rfl) (by kernel_rfl) (fun _ _ _ h => h) (by rfl) y0 (fun W hW => ?_) ?_
        · (obtain ⟨q0, q1, q2⟩ := HPC.out W hW; clear hW; go_simp)
        try simp only [Act.put, List.setIfInBounds_toArray, List.set_cons_zero, List.set_cons_succ]
        refine held_run (i := 19) (v := .int .i64 (en : Int)) rfl (by kernel_rfl) (by kernel_rfl) (by kernel_rfl) (fun _ _ _ h => h) (by rfl) y0 (fun W hW => ?_) ?_
        · (clear hW; go_simp)
        try simp only [Act.put, List.setIfInBounds_toArray, List.set_cons_zero, List.set_cons_succ]
        refine held_run (i := 20) (v := .bool false) rfl (by kernel_rfl) (by kernel_rfl) (by kernel_rfl) (fun _ _ _ h => h) (by rfl) y0 (fun W hW => ?_) ?_
        · (clear hW; go_simp)
        try simp only [Act.put, List.setIfInBounds_toArray, List.set_cons_zero, List.set_cons_succ]
        refine held_run (i := 21) (v := .bool false) rfl (by kernel_rfl) (by kernel_rfl) (by kernel_rfl) (fun _ _ _ h => h) (by rfl) y0 (fun W hW => ?_) ?_
        · (clear hW; go_simp)
        try simp only [Act.put, List.setIfInBounds_toArray, List.set_cons_zero, List.set_cons_succ]
        refine held_run (i := 22) (v := .bool false) rfl (by kernel_rfl) (by kernel_rfl) (by kernel_rfl) (fun _ _ _ h => h) (by rfl) y0 (fun W hW => ?_) ?_
        · (clear hW; go_simp)
        try simp only [Act.put, List.setIfInBounds_toArray, List.set_cons_zero, List.set_cons_succ]
        refine wpAnyH_done (by kernel_rfl) ?_ _
        have HY := hid y0
        clear y0
        go_wp2
        go_ret
        exact ⟨rfl, HX0.out.trans' HY.out⟩
  have q1 : (ei == z1) = false := by simpa using h1
  rw [show decide (ei = z1) = false by simpa using h1]
  clear h1
  go_enter Tryz.func64, Tryz.ntmps64
  go_wp2
  generalize w.alloc (.cells #[.int .i64 ei, .int .i64 et, .slice ea en ec] 46) = wb at *
  obtain ⟨p, hp⟩ : ∃ p, p = w.heap.size := ⟨_, rfl⟩
  rw [← hp] at hn0 hp0 ⊢
  have HPC := hid (fun W (hW : Ext wb W) => gcells3 ((hW.block p hp0).trans hn0))
  have y0 : Ext wb wb.drew := ext_drew wb
  refine wp_region_held_drew (S := fun W => Ext wb W) (by kernel_rfl) y0 (fun hH => ?_)
  clear hH hp hn0 hp0
  refine held_run (i := 0) (v := .pointer (some ⟨p, 0, none⟩)) rfl (by kernel_rfl) (by kernel_rfl) (by kernel_rfl) (fun _ _ _ h => h) (by rfl) y0 (fun W hW => ?_) ?_
  · (clear hW; go_simp)
  try simp only [Act.put, List.setIfInBounds_toArray, List.set_cons_zero, List.set_cons_succ]
  refine held_run (i := 1) (v := .int .i64 ei) rfl (by kernel_rfl) (by kernel_rfl) (by kernel_rfl) (fun _ _ _ h => h) (by rfl) y0 (fun W hW => ?_) ?_
  · (obtain ⟨q0, q1, q2⟩ := HPC.out W hW; clear hW; go_simp)
  try simp only [Act.put, List.setIfInBounds_toArray, List.set_cons_zero, List.set_cons_succ]
  refine held_run (i := 2) (v := .pointer (some ⟨g, 0, none⟩)) rfl (by kernel_rfl) (by kernel_rfl) (by kernel_rfl) (fun _ _ _ h => h) (by rfl) y0 (fun W hW => ?_) ?_
  · (clear hW; go_simp)
  try simp only [Act.put, List.setIfInBounds_toArray, List.set_cons_zero, List.set_cons_succ]
  refine wpAnyH_ready (rs := [3]) (by kernel_rfl) (by simp) ?_
  refine held_cons (i := 3) rfl (fun K hK => ?_)
  go_simp
  go_at_call 72
  refine Calls.mono (HLA.out _ (HX0.out.trans' y0)) ?_
  rintro e w1 ⟨rfl, q, hw⟩
  have y1 : Ext wb w1 := by rw [hw]; exact y0.trans' (ext_drewN _ q)
  clear hw
  dsimp only
  refine hK.out _ _ y1 (fun hH => ?_)
  clear hK K y0 hH
  have y0 := y1
  clear y1
  try simp only [Act.put, List.setIfInBounds_toArray, List.set_cons_zero, List.set_cons_succ]
  refine held_run (i := 4) (v := .int .i64 z1) rfl (by kernel_rfl) (by kernel_rfl) (by kernel_rfl) (fun _ _ _ h => h) (by rfl) y0 (fun W hW => ?_) ?_
  · (clear hW; go_simp)
  try simp only [Act.put, List.setIfInBounds_toArray, List.set_cons_zero, List.set_cons_succ]
  refine held_run (i := 5) (v := .bool false) rfl (by kernel_rfl) (by kernel_rfl) (by kernel_rfl) (fun _ _ _ h => h) (by rfl) y0 (fun W hW => ?_) ?_
  · (clear hW; go_simp)
  try simp only [Act.put, List.setIfInBounds_toArray, List.set_cons_zero, List.set_cons_succ]
  refine held_run (i := 6) (v := .bool false) rfl (by kernel_rfl) (by kernel_rfl) (by kernel_rfl) (fun _ _ _ h => h) (by rfl) y0 (fun W hW => ?_) ?_
  · (clear hW; go_simp)
  try simp only [Act.put, List.setIfInBounds_toArray, List.set_cons_zero, List.set_cons_succ]
  refine held_skip (i := 7) rfl (by kernel_rfl) (by kernel_rfl) (by kernel_rfl) (fun _ _ _ h => h) (by rfl) y0 ?_
  try simp only [Act.put, List.setIfInBounds_toArray, List.set_cons_zero, List.set_cons_succ]
  refine held_skip (i := 8) rfl (by kernel_rfl) (by kernel_rfl) (by kernel_rfl) (fun _ _ _ h => h) (by rfl) y0 ?_
  try simp only [Act.put, List.setIfInBounds_toArray, List.set_cons_zero, List.set_cons_succ]
  refine held_skip (i := 9) rfl (by kernel_rfl) (by kernel_rfl) (by kernel_rfl) (fun _ _ _ h => h) (by rfl) y0 ?_
  try simp only [Act.put, List.setIfInBounds_toArray, List.set_cons_zero, List.set_cons_succ]
  refine held_run (i := 10) (v := .bool false) rfl (by kernel_rfl) (by kernel_rfl) (by kernel_rfl) (fun _ _ _ h => h) (by rfl) y0 (fun W hW => ?_) ?_
  · (clear hW; go_simp)
  try simp only [Act.put, List.setIfInBounds_toArray, List.set_cons_zero, List.set_cons_succ]
  refine held_run (i := 11) (v := .bool false) rfl (by kernel_rfl) (by kernel_rfl) (by kernel_rfl) (fun _ _ _ h => h) (by rfl) y0 (fun W hW => ?_) ?_
  · (clear hW; go_simp)
  try simp only [Act.put, List.setIfInBounds_toArray, List.set_cons_zero, List.set_cons_succ]
  refine held_skip (i := 12) rfl (by kernel_rfl) (by kernel_rfl) (by kernel_rfl) (fun _ _ _ h => h) (by rfl) y0 ?_
  try simp only [Act.put, List.setIfInBounds_toArray, List.set_cons_zero, List.set_cons_succ]
  refine held_skip (i := 13) rfl (by kernel_rfl) (by kernel_rfl) (by kernel_rfl) (fun _ _ _ h => h) (by rfl) y0 ?_
  try simp only [Act.put, List.setIfInBounds_toArray, List.set_cons_zero, List.set_cons_succ]
  refine held_skip (i := 14) rfl (by kernel_rfl) (by kernel_rfl) (by kernel_rfl) (fun _ _ _ h => h) (by rfl) y0 ?_
  try simp only [Act.put, List.setIfInBounds_toArray, List.set_cons_zero, List.set_cons_succ]
  refine held_run (i := 15) (v := .bool false) rfl (by kernel_rfl) (by kernel_rfl) (by kernel_rfl) (fun _ _ _ h => h) (by rfl) y0 (fun W hW => ?_) ?_
  · (clear hW; go_simp)
  try simp only [Act.put, List.setIfInBounds_toArray, List.set_cons_zero, List.set_cons_succ]
  refine held_run (i := 16) (v := .bool false) rfl (by kernel_rfl) (by kernel_rfl) (by kernel_rfl) (fun _ _ _ h => h) (by rfl) y0 (fun W hW => ?_) ?_
  · (clear hW; go_simp)
  try simp only [Act.put, List.setIfInBounds_toArray, List.set_cons_zero, List.set_cons_succ]
  refine held_skip (i := 17) rfl (by kernel_rfl) (by kernel_rfl) (by kernel_rfl) (fun _ _ _ h => h) (by rfl) y0 ?_
  try simp only [Act.put, List.setIfInBounds_toArray, List.set_cons_zero, List.set_cons_succ]
  refine held_skip (i := 18) rfl (by kernel_rfl) (by kernel_rfl) (by kernel_rfl) (fun _ _ _ h => h) (by rfl) y0 ?_
  try simp only [Act.put, List.setIfInBounds_toArray, List.set_cons_zero, List.set_cons_succ]
  refine held_skip (i := 19) rfl (by kernel_rfl) (by kernel_rfl) (by kernel_rfl) (fun _ _ _ h => h) (by rfl) y0 ?_
  try simp only [Act.put, List.setIfInBounds_toArray, List.set_cons_zero, List.set_cons_succ]
  refine held_skip (i := 20) rfl (by kernel_rfl) (by kernel_rfl) (by kernel_rfl) (fun _ _ _ h => h) (by rfl) y0 ?_
  try simp only [Act.put, List.setIfInBounds_toArray, List.set_cons_zero, List.set_cons_succ]
  refine held_run (i := 21) (v := .bool false) rfl (by kernel_rfl) (by kernel_rfl) (by kernel_rfl) (fun _ _ _ h => h) (by rfl) y0 (fun W hW => ?_) ?_
  · (clear hW; go_simp)
  try simp only [Act.put, List.setIfInBounds_toArray, List.set_cons_zero, List.set_cons_succ]
  refine held_run (i := 22) (v := .bool false) rfl (by kernel_rfl) (by kernel_rfl) (by kernel_rfl) (fun _ _ _ h => h) (by rfl) y0 (fun W hW => ?_) ?_
  · (clear hW; go_simp)
  try simp only [Act.put, List.setIfInBounds_toArray, List.set_cons_zero, List.set_cons_succ]
  refine wpAnyH_done (by kernel_rfl) ?_ _
  have HY := hid y0
  clear y0
  go_wp2
  go_ret
  exact ⟨rfl, HX0.out.trans' HY.out⟩
end Go.Proofs.YtikjckdoldiddaaGreatDoor

/- The walks of record, hardRecord, entryRecords and whole. Printed by gen_wt5.py. -/
namespace Go.Proofs.YtikjckdoldiddaaGreatDoor
open Go.RowKit Go.Maps
set_option linter.unusedVariables false
set_option linter.unusedSimpArgs false
attribute [local go_sem] bmax2 bmin2 bmax_two bmin_two

theorem numsB_take (l : List Int) {k : Nat} (hk : k < l.length) : numsB (l.take (k + 1)) = numsB (l.take k) ++ numS l[k] := by
  unfold numsB
  rw [List.take_succ_eq_append_getElem hk, List.map_append, List.flatten_append]
  simp
theorem numsB_len (l : List Int) : (numsB l).length ≤ 9 * l.length := by
  induction l with
  | nil => simp [numsB]
  | cons x r ih =>
    have : (numS x).length ≤ 9 := by unfold numS; exact (numB_len _).2
    have e : numsB (x :: r) = numS x ++ numsB r := rfl
    rw [e, List.length_append, List.length_cons]
    omega
theorem entsB_take (l : List Ent) {k : Nat} (hk : k < l.length) : entsB (l.take (k + 1)) = entsB (l.take k) ++ entB l[k] := by
  unfold entsB
  rw [List.take_succ_eq_append_getElem hk, List.map_append, List.flatten_append]
  simp
theorem payB_len (l : List Int) (more : Bool) (d : By) : (payB l more d).length ≤ 9 * l.length + 9 + d.length := by
  have h1 := numsB_len l
  have h2 : (numS (d.length : Int)).length ≤ 9 := by unfold numS; exact (numB_len _).2
  unfold payB
  split
  · simp only [List.length_append]; omega
  omega
theorem recB_le (p : By) : (recB p).length ≤ p.length + 14 := by
  have := recB_len p
  have := (numB_len p.length).2
  omega
theorem entB_le {x : Ent} (h : x.d.length ≤ 4096) : (entB x).length ≤ x.d.length + 50 := by
  have h1 := recB_le (payB [2, x.i, x.t] true x.d)
  have h2 := payB_len [2, x.i, x.t] true x.d
  simp at h2
  unfold entB
  omega
theorem entsB_le (l : List Ent) (h : ∀ x ∈ l, x.d.length ≤ 4096) : (entsB l).length ≤ 4146 * l.length := by
  induction l with
  | nil => simp [entsB]
  | cons x r ih =>
    have h1 := ih fun y hy => h y (List.mem_cons_of_mem _ hy)
    have h2 := h x (List.mem_cons_self ..)
    have h3 := entB_le h2
    have e : entsB (x :: r) = entB x ++ entsB r := rfl
    rw [e, List.length_append, List.length_cons]
    omega
theorem OwnB.mono {B B' : Nat} {w : World} {v : Value} {n : Nat} {d : By} (h : OwnB B w v n d) (hb : B' ≤ B) : OwnB B' w v n d := by
  obtain ⟨h1, g, c, h2, h3, h4⟩ := h
  refine ⟨h1, g, c, h2, h3, ?_⟩
  rcases h4 with h4 | ⟨g', cap, cur, e, hg, hr⟩
  · exact .inl h4
  exact .inr ⟨g', cap, cur, e, Nat.le_trans hb hg, hr⟩
set_option maxRecDepth 100000 in
set_option maxHeartbeats 4000000 in
theorem record_any {F G : Nat → Prop} {w : World} {da : Option Addr} {dn dc : Nat} {d : By} {more : Bool} {na : Option Addr} {nn nc : Nat} {l : List Int} (hd : ByF F w da dn dc d) (hl : IsF G w na nn nc l) (hl100 : l.length ≤ 100) (hd6 : d.length ≤ 60000) :
    Calls Tryz.prog 73 #[.slice da dn dc, .bool more, .slice na nn nc] w (BytesPost (recB (payB l more d)) w) := by
  have hnn := hl.1
  have hpl := payB_len l more d
  have hnl := numsB_len l
  have HD := hid hd
  have HL := hid hl
  have HPL := hid hpl
  have HNL := hid hnl
  have HNN := hid hnn
  have hn63 : nn ≤ 100 := by omega
  have HL6 := hid (show l.length ≤ 100 ∧ d.length ≤ 60000 from ⟨hl100, hd6⟩)
  have hre := fun (F : Nat → Prop) (W : World) (a : Option Addr) (n c : Nat) (hb : ByF F W a n c (payB l more d)) => Record_any hb (by have := hb.1; omega)
  obtain ⟨R, hR⟩ : ∃ R, R = recB (payB l more d) := ⟨_, rfl⟩
  rw [← hR] at hre ⊢
  have HRE := hid hre
  clear hd hl hnn hpl hnl hl100 hd6 hre hR
  go_enter Tryz.func73, Tryz.ntmps73
  go_wp2
  go_loopw [7, 14] (fun b z W => ∃ (k : Nat) (ba : Option Addr) (bn bc : Nat), k ≤ nn ∧ z = .int .i64 (k : Int) ∧ b = .slice ba bn bc ∧ Hid (ByF (fun _ => True) W ba bn bc (numsB (l.take k))) ∧ Hid (Ext w W)) (fun _ z _ => nn - (intOf z).toNat)
  case atStart => exact ⟨0, none, 0, 0, Nat.zero_le _, rfl, rfl, ByF.nil_ _ _, Below.refl _ _⟩
  obtain ⟨k, ba, bn, bc, hk, rfl, rfl, HB, HX⟩ := hrel
  by_cases hlt : k < nn
  · obtain ⟨b, ob, rfl, hbl, hkl, q0, q64⟩ := (HL.out.below HX.out).at_ hlt
    have hki : (0 : Int) ≤ (k : Int) := by omega
    have hki2 : (k : Int) < (nn : Int) := by omega
    have hbn : bn ≤ 900 := by
      have h1 := HB.out.1
      have h2 := numsB_len (l.take k)
      rw [List.length_take] at h2
      omega
    have HNU := hid (Number_any HB.out (by omega) l[k] q64)
    have htk := numsB_take l hkl
    rw [← htk] at HNU
    obtain ⟨x, hx⟩ : ∃ x, x = l[k] := ⟨_, rfl⟩
    rw [← hx] at q0 HNU
    have HTL := hid (show (numsB (l.take (k + 1))).length ≤ 2000 by have h2 := numsB_len (l.take (k + 1)); rw [List.length_take] at h2; omega)
    clear htk hx q64
    go_wp2_with fail
    refine Calls.mono HNU.out ?_
    rintro e w1 ⟨g1, n1, c1, rfl, ho1, hx1⟩
    have HB1 := hid (ho1.any (by have h1 := ho1.1; have h2 := HTL.out; omega))
    have HX1 := hid (HX.out.trans' hx1)
    clear ho1 hx1 HNU
    go_wp2
    go_roundw
    case rel => exact ⟨k + 1, _, n1, c1, by omega, by go_num, rfl, HB1.out, HX1.out⟩
    case measure => simp [intOf]; omega
  have hkn : l.take k = l := List.take_of_length_le (by have := HNN.out; omega)
  rw [hkn] at HB
  have hki : ¬ (k : Int) < (nn : Int) := by omega
  clear hkn hlt
  have hbn : bn ≤ 900 := by have h1 := HB.out.1; have h2 := HNL.out; have h3 := HL6.out.1; omega
  have hcv := conv_str (HD.out.below HX.out)
  have HTX := hid (Text_any HB.out (d := d) (by omega) (by have := HL6.out.2; omega))
  cases more with
  | false =>
    have hp : payB l false d = numsB l := rfl
    rw [hp] at HRE
    clear hp hcv
    go_wp2_with fail
    refine Calls.mono (HRE.out _ _ _ _ _ HB.out) ?_
    rintro e w1 ⟨g1, n1, c1, rfl, ho1, hx1⟩
    have HX1 := hid (HX.out.trans' hx1)
    have HO1 := hid (OwnB.mono ho1 HX.out.size)
    clear ho1 hx1
    go_wp2
    go_ret
    exact ⟨g1, n1, c1, rfl, HO1.out, HX1.out⟩
  | true =>
    have hp : payB l true d = numsB l ++ (numS (d.length : Int) ++ d) := rfl
    rw [← hp] at HTX
    clear hp
    go_wp2_with fail
    refine Calls.mono HTX.out ?_
    rintro e w1 ⟨g1, n1, c1, rfl, ho1, hx1⟩
    have hpl : (payB l true d).length ≤ 65536 := by have h1 := HPL.out; have h2 := HL6.out; omega
    have hn1 := ho1.1
    have HRX := hid (HRE.out _ _ _ _ _ (ho1.any (by omega)))
    have HX1 := hid (HX.out.trans' hx1)
    clear ho1 hx1 hpl hn1 hcv HTX
    go_wp2_with fail
    refine Calls.mono HRX.out ?_
    rintro e w2 ⟨g2, n2, c2, rfl, ho2, hx2⟩
    have HX2 := hid (HX1.out.trans' hx2)
    have HO2 := hid (OwnB.mono ho2 HX1.out.size)
    clear ho2 hx2
    go_wp2
    go_ret
    exact ⟨g2, n2, c2, rfl, HO2.out, HX2.out⟩
theorem isF_lit {w : World} (S : List Int) (t : TypeId) (hin : ∀ x ∈ S, In64 x) (hl : S.length ≤ 1000) : IsF (fun _ => True) (w.alloc (.cells (S.map (Value.int .i64)).toArray t)) (some ⟨w.heap.size, 0, none⟩) S.length S.length S :=
  (isF_block (heap_alloc_new w _) (by simp) hin (by omega)).more fun _ _ => trivial
theorem record_lit (W : World) (S : List Int) (t : TypeId) (hin : ∀ x ∈ S, In64 x) (hl : S.length ≤ 100) :
    Calls Tryz.prog 73 #[.slice none 0 0, .bool false, .slice (some ⟨W.heap.size, 0, none⟩) S.length S.length] (W.alloc (.cells (S.map (Value.int .i64)).toArray t)) (BytesPost (recB (payB S false [])) (W.alloc (.cells (S.map (Value.int .i64)).toArray t))) :=
  record_any (F := fun _ => False) (d := []) (more := false) (l := S) (ByF.nil_ _ _) (isF_lit S t hin (Nat.le_trans hl (by decide))) hl (Nat.zero_le _)
set_option maxRecDepth 100000 in
theorem hardR_any (w : World) (t v : Int) (ht : In64 t) (hv : In64 v) :
    Calls Tryz.prog 70 #[.agg #[.int .i64 t, .int .i64 v]] w (BytesPost (hardB t v) w) := by
  have hx := ext_alloc w (.cells #[.int .i64 t, .int .i64 v] 39)
  have h2 := heap_alloc_new w (.cells #[.int .i64 t, .int .i64 v] 39)
  obtain ⟨c0, c1⟩ := gcells2 h2
  have HX := hid hx
  have hr := record_lit (w.alloc (.cells #[.int .i64 t, .int .i64 v] 39)) [1, t, v] 3 (by intro x hx; simp at hx; rcases hx with rfl | rfl | rfl; exact ⟨by decide, by decide⟩; exact ht; exact hv) (by simp)
  unfold hardB
  generalize recB (payB [1, t, v] false []) = R at *
  rw [World.size_alloc] at hr
  simp only [List.map_cons, List.map_nil, List.length_cons, List.length_nil, Nat.zero_add, Nat.reduceAdd] at hr
  have HR := hid hr
  clear h2 hx ht hv hr
  go_enter Tryz.func70, Tryz.ntmps70
  go_wp2_with fail
  refine Calls.mono HR.out ?_
  rintro e w1 ⟨g1, n1, c1, rfl, ho1, hx1⟩
  have HX1 := hid (HX.out.trans' ((ext_alloc _ _).trans' hx1))
  have HO1 := hid (OwnB.mono ho1 (Nat.le_trans HX.out.size (ext_alloc _ _).size))
  clear ho1 hx1
  go_wp2
  go_ret
  exact ⟨g1, n1, c1, rfl, HO1.out, HX1.out⟩
end Go.Proofs.YtikjckdoldiddaaGreatDoor
