/- The walk of Save. Printed by gen_vs8.py. -/
import Derived.Test.YtjapeaoebjmpnaaGreatDoorB14
import Derived.BigQuiet
namespace Go.Proofs.YtjapeaoebjmpnaaGreatDoor
open Go.RowKit Go.Maps
set_option linter.unusedVariables false
set_option linter.unusedSimpArgs false
attribute [local go_sem] bmax2 bmin2 bmax_two bmin_two

theorem layS_ok : ∀ (L : List By) (k : Nat) {d : DS}, d.Ok → (layS k L d).2.Ok := by
  intro L
  induction L with
  | nil => intro k d h; exact h
  | cons b r ih =>
    intro k d h
    rw [layS_cons]
    split
    · exact h.write _ _ _
    exact ih _ (h.write _ _ _)
theorem layS_acts : ∀ (L : List By) (k : Nat) (d : DS), (layS k L d).2.acts.length ≤ d.acts.length + L.length := by
  intro L
  induction L with
  | nil => intro k d; exact Nat.le_refl _
  | cons b r ih =>
    intro k d
    rw [layS_cons]
    have h1 := DS.write_acts d freshS (k : Int) b
    split
    · simp only [List.length_cons]; omega
    have h2 := ih (k + b.length) (d.write freshS (k : Int) b).2
    simp only [List.length_cons]; omega
theorem threeS_ok (n : Nm) {d : DS} (h : d.Ok) : (threeS d n).2.Ok := by
  unfold threeS
  split
  · exact h.sync
  split
  · exact h.sync.move _ _
  exact (h.sync.move _ _).sync
theorem threeS_acts (d : DS) (n : Nm) : (threeS d n).2.acts.length ≤ d.acts.length + 1 := by
  have h1 := DS.sync_acts d
  have h2 := DS.move_acts d.sync.2 freshS n
  have h3 := DS.sync_acts (d.sync.2.move freshS n).2
  unfold threeS
  split
  · omega
  split <;> omega
theorem cells5 {W : World} {b : Nat} {x0 x1 x2 x3 x4 : Value} {t : TypeId} (h : W.heap[b]? = some (.cells #[x0, x1, x2, x3, x4] t (0, 0))) :
    W.cell? ⟨b, 0, none⟩ = some x0 ∧ W.cell? ⟨b, 4, none⟩ = some x4 ∧ b < W.heap.size := ⟨by simp [World.cell?, h], by simp [World.cell?, h], (Array.getElem?_eq_some_iff.1 h).1⟩

/-- A vault that has a new state. -/
theorem save_new {A D D9 G : Nat → Prop} {w w4 w9 w10 w11 : World} {g dg : Nat} {s : Sn} {d : DS} {va da : Option Addr} {vn vc dn dc : Nat} (hD : ∀ q, D q → A q ∧ q ≠ g ∧ ¬ G q) (hAg : A g) (hAl : ∀ q, A q → q < w.heap.size) (hx4 : Ext w w4)
    (hd9 : DiskAt D9 w9 dg d) (h9 : ∀ q, D9 q → grow D w4 w9 q) (hf9 : Frm D w4 w9) (hx10 : Ext w9 w10) (hsn : SnV (fun q => w9.heap.size ≤ q ∧ q < w10.heap.size) w10 (.agg #[.int .i64 s.i, .int .i64 s.t, .slice va vn vc, .slice da dn dc]) s)
    (hS : SetG g 72 w10 w11 #[.int .i64 s.i, .int .i64 s.t, .slice va vn vc, .slice da dn dc, .bool true, .pointer (some ⟨dg, 0, none⟩)]) :
    DiskAt D9 w11 dg d ∧ VaO (fun q => w9.heap.size ≤ q ∧ q < w10.heap.size) w11 g s true dg ∧ (∀ q, D9 q → grow A w w11 q ∧ q ≠ g ∧ ¬ (w9.heap.size ≤ q ∧ q < w10.heap.size)) ∧ (∀ q, (w9.heap.size ≤ q ∧ q < w10.heap.size) → grow A w w11 q ∧ q ≠ g) ∧ Frm A w w11 ∧
      (∀ q, grow A w w11 q → q < w11.heap.size) := by
  have z4 := hx4.size
  have z9 := hf9.size
  have z10 := hx10.size
  have z11 := hS.size
  have hgl := hAl g hAg
  have hg9 : ¬ grow D w4 w9 g := fun h => by
    rcases h with h | h
    · exact (hD g h).2.1 rfl
    omega
  have hdl := hd9.lt
  refine ⟨(hd9.below hx10).frm hS.frm (fun q hq e => hg9 (by rw [← e]; exact h9 q hq)), ⟨va, vn, vc, da, dn, dc, hS.obj, hsn.keep fun q hq hl => ⟨hq, hS.frm.block q hl (by omega)⟩⟩, fun q hq => ?_, fun q hq => ⟨.inr ⟨by omega, by omega⟩, by omega⟩, ?_, fun q hq => ?_⟩
  · have hlq := hdl q hq
    refine ⟨?_, fun e => hg9 (by rw [← e]; exact h9 q hq), by omega⟩
    rcases h9 q hq with hq | hq
    · exact .inl (hD q hq).1
    exact .inr ⟨by omega, by omega⟩
  · exact (((Frm.of_ext hx4 A).trans hf9 fun q hq => .inl (hD q hq).1).then_ext hx10).trans hS.frm fun q hq => .inl (by rw [hq]; exact hAg)
  rcases hq with hq | hq
  · have := hAl q hq; omega
  exact hq.2

set_option maxRecDepth 100000 in
set_option maxHeartbeats 8000000 in
theorem Save_any {A F : Nat → Prop} {w : World} {g dg : Nat} {v : VS} {val : Value} {s : Sn} (h : VaAt A w g dg v) (hok : v.Ok) (hc : v.d.acts.length ≤ 1000000000) (hs : SnV F w val s) (hF : ∀ q, F q → ¬ A q) (hT : TabP w) (hpow : ¬ A powG) :
    Calls Tryz.prog 17 #[.pointer (some ⟨g, 0, none⟩), val] w (SavePost A g dg (saveS v s) w) := by
  obtain ⟨vs, sm, vd⟩ := v
  have H0 := hid h
  have HAL := hid h.lt
  obtain ⟨D, G, hd, ho, hD, hG, hAg, -⟩ := h
  dsimp only at hd ho hc
  have HOV := hid ho
  obtain ⟨va, vn, vc, da, dn, dc, hob, hsn⟩ := ho
  obtain ⟨pa, pn, pc, qa, qn, qc, rfl, k1, k2, k3, k4⟩ := hs
  have HS := hid (show SnV F w (.agg #[.int .i64 s.i, .int .i64 s.t, .slice pa pn pc, .slice qa qn qc]) s from ⟨pa, pn, pc, qa, qn, qc, rfl, k1, k2, k3, k4⟩)
  have hgl := (Array.getElem?_eq_some_iff.1 hob).1
  have HO := hid hob
  have HD := hid hd
  have HDG := hid hD
  have HGG := hid hG
  have HAG := hid hAg
  have HF := hid hF
  have HT := hid hT
  have HPOW := hid hpow
  have HOKD := hid hok.d
  have HOKS := hid hok.s
  have HC := hid hc
  have HGD := hid (show ¬ D g from fun h => (hD g h).2.1 rfl)
  have HDL := hid hd.lt
  have HGL := hid hgl
  clear hok hc hF hT hpow hd hob hsn k1 k2 k3 k4 hD hG hAg hgl
  go_enter Tryz.func17, Tryz.ntmps17
  go_wp2_with fail
  generalize hW2 : (w.alloc (.cells #[.pointer (some ⟨g, 0, none⟩)] 34)).alloc (.cells #[.int .i64 s.i, .int .i64 s.t, .slice pa pn pc, .slice qa qn qc] 25) = W2
  have hx2 : Ext w W2 := by rw [← hW2]; exact (ext_alloc _ _).trans' (ext_alloc _ _)
  have hz2 : W2.heap.size = w.heap.size + 2 := by rw [← hW2]; simp
  have e2 : W2.heap[w.heap.size]? = some (.cells #[.pointer (some ⟨g, 0, none⟩)] 34 (0, 0)) := by rw [← hW2]; exact heap_alloc2_old _ _ _
  have e3 : W2.heap[w.heap.size + 1]? = some (.cells #[.int .i64 s.i, .int .i64 s.t, .slice pa pn pc, .slice qa qn qc] 25 (0, 0)) := by rw [← hW2]; exact heap_alloc2_new _ _ _
  have HB := hid (fun W (hW : Frm D W2 W) => (show W.cell? ⟨w.heap.size, 0, none⟩ = some (.pointer (some ⟨g, 0, none⟩)) ∧
      (W.cell? ⟨w.heap.size + 1, 0, none⟩ = some (.int .i64 s.i) ∧ W.cell? ⟨w.heap.size + 1, 1, none⟩ = some (.int .i64 s.t) ∧ W.cell? ⟨w.heap.size + 1, 2, none⟩ = some (.slice pa pn pc) ∧ W.cell? ⟨w.heap.size + 1, 3, none⟩ = some (.slice qa qn qc)) ∧
      W.heap[g]? = some (.cells #[.int .i64 vs.i, .int .i64 vs.t, .slice va vn vc, .slice da dn dc, .bool sm, .pointer (some ⟨dg, 0, none⟩)] 72 (0, 0)) from by
    have h1 : W.heap[w.heap.size]? = _ := (hW.block _ (by omega) fun h => by have := HDL.out _ h; omega).trans e2
    have h2 : W.heap[w.heap.size + 1]? = _ := (hW.block _ (by omega) fun h => by have := HDL.out _ h; omega).trans e3
    have h3 : W.heap[g]? = _ := (hW.block _ (by have := HGL.out; omega) HGD.out).trans ((hx2.block g HGL.out).trans HO.out)
    exact ⟨by simp [World.cell?, h1], (cells4 h2).1, h3⟩))
  have HX2 := hid hx2
  have HZ2 := hid hz2
  clear hW2 hx2 hz2 e2 e3
  obtain ⟨b2, ⟨b30, b31, b32, b33⟩, hgo⟩ := HB.out W2 (Frm.refl _ _)
  obtain ⟨⟨g0, g1, g2, g3, g4, g5⟩, -, -⟩ := cells6 hgo
  refine Calls.mono (vmade_any g5) ?_
  rintro e w1 ⟨rfl, rfl⟩
  go_wp2_with fail
  refine Calls.mono (Check_any (HS.out.below HX2.out)) ?_
  rintro e w3 ⟨rfl, hx3⟩
  have HX3 := hid (HX2.out.trans' hx3)
  have HF3 := hid (Frm.of_ext hx3 D)
  clear hx3 b2 b30 b31 b32 b33 hgo g0 g1 g2 g3 g4 g5
  rcases checkS_vals s with hcz | hcz | hcz
  · have HCZ := hid hcz
    rw [hcz]
    clear hcz
    obtain ⟨b2, ⟨b30, b31, b32, b33⟩, hgo⟩ := HB.out w3 HF3.out
    obtain ⟨⟨g0, g1, g2, g3, g4, g5⟩, -, -⟩ := cells6 hgo
    clear hgo
    have hres0 : ¬ (sm = true ∧ s.i ≤ vs.i) → saveS ⟨vs, sm, vd⟩ s = (if (layS 0 (partsB s) vd).1 ≠ 0 then ((layS 0 (partsB s) vd).1, ⟨vs, sm, if (layS 0 (partsB s) vd).1 = 7 then ((layS 0 (partsB s) vd).2.drop freshS).2.sync.2 else (layS 0 (partsB s) vd).2⟩)
        else if (threeS (layS 0 (partsB s) vd).2 (nameB s.i)).1 ≠ 0 then ((threeS (layS 0 (partsB s) vd).2 (nameB s.i)).1, ⟨vs, sm, (threeS (layS 0 (partsB s) vd).2 (nameB s.i)).2⟩)
        else if sm = true then (((threeS (layS 0 (partsB s) vd).2 (nameB s.i)).2.drop (nameB vs.i)).1, ⟨s, true, ((threeS (layS 0 (partsB s) vd).2 (nameB s.i)).2.drop (nameB vs.i)).2⟩)
        else (0, ⟨s, true, (threeS (layS 0 (partsB s) vd).2 (nameB s.i)).2⟩)) := fun hn => by
      unfold saveS
      rw [if_neg (by rw [HCZ.out]; simp), if_neg hn]
    cases sm with
    | false =>
      have HRES := hid (hres0 (by simp))
      clear hres0
      go_wp2
      refine wp_region_quiet_lit (by kernel_rfl) (by kernel_rfl) ?_
      repeat (any_goals (first | go_big_quiet_step (fail) | quiet_step (fail)))
      refine wpQuiet_nil ?_
      intro wq hwq
      obtain ⟨nq, hwq⟩ := hwq
      subst hwq
      clear b2 b30 b31 b32 b33 g0 g1 g2 g3 g4 g5
      have hx4 := HX3.out.trans' (ext_drewN w3 nq)
      have HX4 := hid hx4
      have HF4 := hid (HF3.out.then_ext (ext_drewN w3 nq))
      generalize w3.drewN nq = w4 at *
      clear hx4
      obtain ⟨b2, ⟨b30, b31, b32, b33⟩, hgo⟩ := HB.out w4 HF4.out
      obtain ⟨⟨g0, g1, g2, g3, g4, g5⟩, -, -⟩ := cells6 hgo
      have hLA := lay_any (HD.out.below HX4.out) HOKD.out (by have := HC.out; omega) HGD.out g5 (HS.out.below HX4.out) HCZ.out
      have hokl := layS_ok (partsB s) 0 HOKD.out
      have hacl := layS_acts (partsB s) 0 vd
      have hpl := (partsB_len HCZ.out).1
      obtain ⟨r, hr⟩ : ∃ r, r = layS 0 (partsB s) vd := ⟨_, rfl⟩
      rw [← hr] at hLA hokl hacl HRES
      obtain ⟨l1, l2⟩ := r
      have HLA := hid hLA
      have HOKL := hid hokl
      have HACL := hid (show l2.acts.length ≤ 1000001000 by have := HC.out; dsimp only at hacl; omega)
      clear hLA hokl hacl hpl hr hgo g0 g1 g2 g3 g4
      go_wp2_with fail
      refine Calls.mono HLA.out ?_
      rintro e w5 ⟨rfl, hd5, hf5⟩
      have HD5 := hid hd5
      have HF5 := hid hf5
      have HF25 := hid (HF4.out.trans hf5 fun q hq => .inl hq)
      clear hd5 hf5 b2 b30 b31 b32 b33 g5
      obtain ⟨b2, ⟨b30, b31, b32, b33⟩, hgo⟩ := HB.out w5 HF25.out
      obtain ⟨⟨g0, g1, g2, g3, g4, g5⟩, -, -⟩ := cells6 hgo
      have HGO5 := hid hgo
      clear hgo
      by_cases hl : l1 = 0
      · subst hl
        (try dsimp only at HRES HD5)
        clear HLA
        go_wp2
        have hx8 := ext_alloc w5 (.cells #[.int .i64 vs.i, .int .i64 vs.t, .slice va vn vc, .slice da dn dc, .bool false] 70)
        have hn8 := heap_alloc_new w5 (.cells #[.int .i64 vs.i, .int .i64 vs.t, .slice va vn vc, .slice da dn dc, .bool false] 70)
        have hz8 : (w5.alloc (.cells #[.int .i64 vs.i, .int .i64 vs.t, .slice va vn vc, .slice da dn dc, .bool false] 70)).heap.size = w5.heap.size + 1 := by simp
        generalize w5.alloc (.cells #[.int .i64 vs.i, .int .i64 vs.t, .slice va vn vc, .slice da dn dc, .bool false] 70) = W8 at *
        have hx85 := hx8
        have HX8 := hid (hx8.trans' (ext_drew W8))
        have HN8 := hid hn8
        have HZ8 := hid hz8
        have y0 : Frm D W2 W8.drew := HF25.out.then_ext HX8.out
        clear hx8 hn8 hz8 b2 b30 b31 b32 b33 g0 g1 g2 g3 g4 g5
        refine wp_region_held_drew (S := fun W => Frm D W2 W) (by kernel_rfl) y0 (fun hH => ?_)
        refine hr_ 0 (.pointer (some ⟨g, 0, none⟩)) rfl y0 (fun W hW => ?_) ?_
        · (obtain ⟨b2, ⟨b30, b31, b32, b33⟩, hgo⟩ := HB.out W hW; obtain ⟨⟨g0, g1, g2, g3, g4, g5⟩, -, -⟩ := cells6 hgo; clear hgo hW; go_simp)
        try simp only [Act.put, sA_, s0_, sS_]
        refine hr_ 1 (.pointer (some ⟨g, 0, none⟩)) rfl y0 (fun W hW => ?_) ?_
        · (clear hW; go_simp)
        try simp only [Act.put, sA_, s0_, sS_]
        refine hr_ 2 (.pointer (some ⟨g, 5, none⟩)) rfl y0 (fun W hW => ?_) ?_
        · (clear hW; go_simp)
        try simp only [Act.put, sA_, s0_, sS_]
        refine hr_ 3 (.pointer (some ⟨dg, 0, none⟩)) rfl y0 (fun W hW => ?_) ?_
        · (obtain ⟨b2, ⟨b30, b31, b32, b33⟩, hgo⟩ := HB.out W hW; obtain ⟨⟨g0, g1, g2, g3, g4, g5⟩, -, -⟩ := cells6 hgo; clear hgo hW; go_simp)
        try simp only [Act.put, sA_, s0_, sS_]
        skip
        refine hr_ 4 (.func (.func 20) #[.pointer (some ⟨dg, 0, none⟩)] #[]) rfl y0 (fun W hW => ?_) ?_
        · (clear hW; go_simp)
        try simp only [Act.put, sA_, s0_, sS_]
        refine hr_ 5 (.func (.func 49) #[] #[.pointer (some ⟨w.heap.size, 0, none⟩), .pointer (some ⟨w.heap.size + 1, 0, none⟩)]) rfl y0 (fun W hW => ?_) ?_
        · (clear hW; go_simp)
        try simp only [Act.put, sA_, s0_, sS_]
        refine hr_ 6 (.pointer (some ⟨g, 0, none⟩)) rfl y0 (fun W hW => ?_) ?_
        · (obtain ⟨b2, ⟨b30, b31, b32, b33⟩, hgo⟩ := HB.out W hW; obtain ⟨⟨g0, g1, g2, g3, g4, g5⟩, -, -⟩ := cells6 hgo; clear hgo hW; go_simp)
        try simp only [Act.put, sA_, s0_, sS_]
        refine hr_ 7 (.pointer (some ⟨g, 0, none⟩)) rfl y0 (fun W hW => ?_) ?_
        · (clear hW; go_simp)
        try simp only [Act.put, sA_, s0_, sS_]
        refine hr_ 8 (.pointer (some ⟨g, 5, none⟩)) rfl y0 (fun W hW => ?_) ?_
        · (clear hW; go_simp)
        try simp only [Act.put, sA_, s0_, sS_]
        refine hr_ 9 (.pointer (some ⟨dg, 0, none⟩)) rfl y0 (fun W hW => ?_) ?_
        · (obtain ⟨b2, ⟨b30, b31, b32, b33⟩, hgo⟩ := HB.out W hW; obtain ⟨⟨g0, g1, g2, g3, g4, g5⟩, -, -⟩ := cells6 hgo; clear hgo hW; go_simp)
        try simp only [Act.put, sA_, s0_, sS_]
        refine hr_ 10 (.func (.func 20) #[.pointer (some ⟨dg, 0, none⟩)] #[]) rfl y0 (fun W hW => ?_) ?_
        · (clear hW; go_simp)
        try simp only [Act.put, sA_, s0_, sS_]
        refine hc_ 11 rfl (fun K hK => ?_)
        go_simp
        have hxb := (ext_alloc W8 (.cells #[.func (.func 20) #[.pointer (some ⟨dg, 0, none⟩)] #[], .func (.func 49) #[] #[.pointer (some ⟨w.heap.size, 0, none⟩), .pointer (some ⟨w.heap.size + 1, 0, none⟩)], .func (.func 20) #[.pointer (some ⟨dg, 0, none⟩)] #[]] 43)).trans' (ext_drew _)
        have hnb : (W8.alloc (.cells #[.func (.func 20) #[.pointer (some ⟨dg, 0, none⟩)] #[], .func (.func 49) #[] #[.pointer (some ⟨w.heap.size, 0, none⟩), .pointer (some ⟨w.heap.size + 1, 0, none⟩)], .func (.func 20) #[.pointer (some ⟨dg, 0, none⟩)] #[]] 43)).drew.heap[W8.heap.size]? = _ := heap_alloc_new W8 (.cells #[.func (.func 20) #[.pointer (some ⟨dg, 0, none⟩)] #[], .func (.func 49) #[] #[.pointer (some ⟨w.heap.size, 0, none⟩), .pointer (some ⟨w.heap.size + 1, 0, none⟩)], .func (.func 20) #[.pointer (some ⟨dg, 0, none⟩)] #[]] 43)
        have hzb : (W8.alloc (.cells #[.func (.func 20) #[.pointer (some ⟨dg, 0, none⟩)] #[], .func (.func 49) #[] #[.pointer (some ⟨w.heap.size, 0, none⟩), .pointer (some ⟨w.heap.size + 1, 0, none⟩)], .func (.func 20) #[.pointer (some ⟨dg, 0, none⟩)] #[]] 43)).drew.heap.size = W8.heap.size + 1 := World.size_alloc ..
        generalize (W8.alloc (.cells #[.func (.func 20) #[.pointer (some ⟨dg, 0, none⟩)] #[], .func (.func 49) #[] #[.pointer (some ⟨w.heap.size, 0, none⟩), .pointer (some ⟨w.heap.size + 1, 0, none⟩)], .func (.func 20) #[.pointer (some ⟨dg, 0, none⟩)] #[]] 43)).drew = WB at *
        have HXB := hid (hx85.trans' hxb)
        have HXB8 := hid hxb
        have HNB := hid hnb
        have HZB := hid hzb
        have y1 : Frm D W2 WB := HF25.out.then_ext HXB.out
        clear hxb hnb hzb
        refine hK.out _ _ y1 (fun hH1 => ?_)
        clear hK K
        try simp only [Act.put, sA_, s0_, sS_]
        clear hH y0
        obtain ⟨b2, ⟨b30, b31, b32, b33⟩, hgo⟩ := HB.out WB y1
        obtain ⟨⟨g0, g1, g2, g3, g4, g5⟩, -, -⟩ := cells6 hgo
        have hq := HNB.out
        obtain ⟨⟨r0, r1, r2⟩, -, -⟩ := cells3 hq
        have hnot : ∀ q, q < w5.heap.size → ¬ D q → (q < w4.heap.size ∨ w5.heap.size ≤ q) → ¬ grow D w4 w5 q := fun q h1 h2 h3 h => by
          rcases h with h | h
          · exact h2 h
          omega
        have h3l := HX4.out.size
        have h2l := HZ2.out
        have h24 := HF4.out.size
        have h5l := HF5.out.size
        have hdl := HDL.out
        have hbz : W8.heap.size = w5.heap.size + 1 := HZ8.out
        obtain ⟨⟨ck1, ck2⟩, -, -, -, -, -⟩ := checkS_ok HCZ.out
        have hE := each_three (c := 3) (HD5.out.below HXB.out) HOKL.out (by have := HACL.out; omega) b2 g5 b30 (hnot _ (by omega) (fun h => by have := hdl _ h; omega) (.inl (by omega))) (hnot _ (by have := HGL.out; omega) HGD.out (.inl (by have := HGL.out; omega)))
          (hnot _ (by omega) (fun h => by have := hdl _ h; omega) (.inl (by omega))) (fun h => by
            rcases h with h | h
            · have := hdl _ h; (try simp at this); omega
            · (try simp at h); omega) (((HT.out.ext HX4.out).frm HF5.out (fun h => HPOW.out (HDG.out _ h).1)).ext HXB.out) (fun h => by
            rcases h with h | h
            · exact HPOW.out (HDG.out _ h).1
            have := HT.out.lt; omega) (by omega) ck2 r0 r1 r2
        have hok3 := threeS_ok (nameB s.i) HOKL.out
        have hac3 := threeS_acts l2 (nameB s.i)
        obtain ⟨r, hr⟩ : ∃ r, r = threeS l2 (nameB s.i) := ⟨_, rfl⟩
        rw [← hr] at hE hok3 hac3 HRES
        obtain ⟨m1, m2⟩ := r
        have HE := hid hE
        have HOK3 := hid hok3
        have HAC3 := hid (show m2.acts.length ≤ 1000001001 by have := HACL.out; dsimp only at hac3; omega)
        clear hE hok3 hac3 hr hnot h3l h2l h24 h5l hdl hbz ck1 ck2 r0 r1 r2 hq b2 b30 b31 b32 b33 hgo g0 g1 g2 g3 g4 g5
        refine hc_ 12 rfl (fun K hK => ?_)
        go_simp
        go_at_call 48
        refine Calls.mono HE.out ?_
        rintro e w9 hE9
        have hEE := DoPost.next HD5.out HF5.out HXB.out hE9
        have HD9 := hid hE9.2.1
        have HF9 := hid hE9.2.2
        obtain ⟨rfl, -, -⟩ := hE9
        have HOL9 := hid (show w5.heap.size < w9.heap.size by have := HF9.out.size; have := HZB.out; have := HZ8.out; omega)
        have h5n : ¬ grow D w4 w5 w5.heap.size := fun h => by
          rcases h with h | h
          · have := HDL.out _ h; have := HF5.out.size; have := HX4.out.size; omega
          omega
        have HOLD9 := hid ((HF9.out.block w5.heap.size (by have := HZB.out; have := HZ8.out; omega) h5n).trans ((HXB8.out.block w5.heap.size (by have := HZ8.out; omega)).trans HN8.out))
        have HND := hid (show ∀ q, q = w.heap.size ∨ q = g ∨ q = w5.heap.size → ¬ grow (grow D w4 w5) WB w9 q from fun q hq h => by
          have z1 := HX4.out.size
          have z2 := HF5.out.size
          have z3 := HZB.out
          have z4 := HZ8.out
          have z5 := HZ2.out
          have z6 := HF4.out.size
          have z7 := HGL.out
          rcases hq with rfl | rfl | rfl
          · rcases h with (h | h) | h
            · have := HDL.out _ h; omega
            · omega
            omega
          · rcases h with (h | h) | h
            · exact HGD.out h
            · omega
            omega
          rcases h with h | h
          · exact h5n h
          omega)
        have HDP := hid hEE
        have y2 : Frm D W2 w9 := HF4.out.trans hEE.2.2 fun q hq => .inl hq
        clear hEE HE h5n
        go_wp2_with fail
        refine hK.out _ _ y2 (fun hH2 => ?_)
        clear hK K
        try simp only [Act.put, sA_, s0_, sS_]
        clear hH1 y1
        refine held_run (i := 13) (v := .int .i64 m1) rfl (by kernel_rfl) (by kernel_rfl) (by kernel_rfl) (fun _ _ _ h => h) (by rfl) y2 (fun W hW => ?_) ?_
        · (clear hW; go_simp)
        try simp only [Act.put, sA_, s0_, sS_]
        refine wpAnyH_done (by kernel_rfl) ?_ _
        (try dsimp only at HDP HRES)
        obtain ⟨b2, ⟨b30, b31, b32, b33⟩, hgo⟩ := HB.out w9 y2
        have HGO9 := hid hgo
        clear hgo
        by_cases hm : m1 = 0
        · subst hm
          go_wp2
          have y3 : w9.drew.cell? ⟨w.heap.size, 0, none⟩ = some (.pointer (some ⟨g, 0, none⟩)) ∧ w9.drew.cell? ⟨w.heap.size + 1, 0, none⟩ = some (.int .i64 s.i) ∧ w9.drew.cell? ⟨w.heap.size + 1, 1, none⟩ = some (.int .i64 s.t) ∧ w9.drew.cell? ⟨w.heap.size + 1, 2, none⟩ = some (.slice pa pn pc) ∧ w9.drew.cell? ⟨w.heap.size + 1, 3, none⟩ = some (.slice qa qn qc) := ⟨b2, b30, b31, b32, b33⟩
          clear b2 b30 b31 b32 b33
          refine wp_region_held_drew (S := fun W => W.cell? ⟨w.heap.size, 0, none⟩ = some (.pointer (some ⟨g, 0, none⟩)) ∧ W.cell? ⟨w.heap.size + 1, 0, none⟩ = some (.int .i64 s.i) ∧ W.cell? ⟨w.heap.size + 1, 1, none⟩ = some (.int .i64 s.t) ∧ W.cell? ⟨w.heap.size + 1, 2, none⟩ = some (.slice pa pn pc) ∧ W.cell? ⟨w.heap.size + 1, 3, none⟩ = some (.slice qa qn qc)) (by kernel_rfl) y3 (fun hH3 => ?_)
          clear hH2
          refine held_run (i := 0) (v := .pointer (some ⟨g, 0, none⟩)) rfl (by kernel_rfl) (by kernel_rfl) (by kernel_rfl) (fun _ _ _ h => h) (by rfl) y3 (fun W hW => ?_) ?_
          · (obtain ⟨b2, b30, b31, b32, b33⟩ := hW; go_simp)
          try simp only [Act.put, sA_, s0_, sS_]
          refine held_run (i := 1) (v := .agg #[.int .i64 s.i, .int .i64 s.t, .slice pa pn pc, .slice qa qn qc]) rfl (by kernel_rfl) (by kernel_rfl) (by kernel_rfl) (fun _ _ _ h => h) (by rfl) y3 (fun W hW => ?_) ?_
          · (obtain ⟨b2, b30, b31, b32, b33⟩ := hW; go_simp)
          try simp only [Act.put, sA_, s0_, sS_]
          have hs9 := HS.out.keep (w' := w9) (G := F) fun q hq hl => ⟨hq, (HDP.out.2.2.block q (by have := HX4.out.size; omega) fun h => HF.out q hq (HDG.out q h).1).trans (HX4.out.block q hl)⟩
          have HCP := hid (copied_sn (hs9.below (ext_drew w9)))
          clear hs9
          refine hc_ 2 rfl (fun K hK => ?_)
          go_simp
          go_at_call 52
          refine Calls.mono HCP.out ?_
          rintro e w10 ⟨v', rfl, hsv, hx10⟩
          have hx10' := (ext_drew w9).trans' hx10
          obtain ⟨na, nn, nc, ma, mn, mc, rfl, k1, k2, k3, k4⟩ := hsv
          have HSV := hid (show SnV (fun q => w9.heap.size ≤ q ∧ q < w10.heap.size) w10 (.agg #[.int .i64 s.i, .int .i64 s.t, .slice na nn nc, .slice ma mn mc]) s from ⟨na, nn, nc, ma, mn, mc, rfl, k1, k2, k3, k4⟩)
          have h9z : w.heap.size + 2 ≤ w9.heap.size := by have := y2.size; have := HZ2.out; omega
          have y4 : w10.cell? ⟨w.heap.size, 0, none⟩ = some (.pointer (some ⟨g, 0, none⟩)) ∧ w10.cell? ⟨w.heap.size + 1, 0, none⟩ = some (.int .i64 s.i) ∧ w10.cell? ⟨w.heap.size + 1, 1, none⟩ = some (.int .i64 s.t) ∧ w10.cell? ⟨w.heap.size + 1, 2, none⟩ = some (.slice pa pn pc) ∧ w10.cell? ⟨w.heap.size + 1, 3, none⟩ = some (.slice qa qn qc) :=
            ⟨(hx10'.cell (p := ⟨w.heap.size, 0, none⟩) (by show w.heap.size < _; omega)).trans y3.1, (hx10'.cell (p := ⟨w.heap.size + 1, 0, none⟩) (by show w.heap.size + 1 < _; omega)).trans y3.2.1, (hx10'.cell (p := ⟨w.heap.size + 1, 1, none⟩) (by show w.heap.size + 1 < _; omega)).trans y3.2.2.1, (hx10'.cell (p := ⟨w.heap.size + 1, 2, none⟩) (by show w.heap.size + 1 < _; omega)).trans y3.2.2.2.1, (hx10'.cell (p := ⟨w.heap.size + 1, 3, none⟩) (by show w.heap.size + 1 < _; omega)).trans y3.2.2.2.2⟩
          have HX10 := hid hx10'
          have HGO10 := hid ((hx10'.block g (by have := HGL.out; omega)).trans HGO9.out)
          clear k1 k2 k3 k4 hx10 hx10' h9z
          go_wp2_with fail
          refine hK.out _ _ y4 (fun hH4 => ?_)
          clear hK K
          try simp only [Act.put, sA_, s0_, sS_]
          clear hH3 y3
          refine held_run (i := 3) (v := .agg #[.int .i64 s.i, .int .i64 s.t, .slice na nn nc, .slice ma mn mc, .bool true]) rfl (by kernel_rfl) (by kernel_rfl) (by kernel_rfl) (fun _ _ _ h => h) (by rfl) y4 (fun W hW => ?_) ?_
          · (clear hW; go_simp)
          try simp only [Act.put, sA_, s0_, sS_]
          refine held_run (i := 4) (v := .pointer (some ⟨g, 0, none⟩)) rfl (by kernel_rfl) (by kernel_rfl) (by kernel_rfl) (fun _ _ _ h => h) (by rfl) y4 (fun W hW => ?_) ?_
          · (clear hW; go_simp)
          try simp only [Act.put, sA_, s0_, sS_]
          refine held_run (i := 5) (v := .pointer (some ⟨g, 0, none⟩)) rfl (by kernel_rfl) (by kernel_rfl) (by kernel_rfl) (fun _ _ _ h => h) (by rfl) y4 (fun W hW => ?_) ?_
          · (clear hW; go_simp)
          try simp only [Act.put, sA_, s0_, sS_]
          have hgo10 := HGO10.out
          obtain ⟨⟨g0, g1, g2, g3, g4, g5⟩, ⟨f0, f1, f2, f3, f4, f5⟩, gl10⟩ := cells6 hgo10
          clear hgo10
          refine hc_ 6 rfl (fun K hK => ?_)
          go_simp
          have hS := (((((SetG.start HGO10.out).step 0 (.int .i64 s.i)).step 1 (.int .i64 s.t)).step 2 (.slice na nn nc)).step 3 (.slice ma mn mc)).step 4 (.bool true)
          generalize ((((w10.setCell ⟨g, 0, none⟩ (.int .i64 s.i)).setCell ⟨g, 1, none⟩ (.int .i64 s.t)).setCell ⟨g, 2, none⟩ (.slice na nn nc)).setCell ⟨g, 3, none⟩ (.slice ma mn mc)).setCell ⟨g, 4, none⟩ (.bool true) = w11 at *
          have hgw := HGL.out
          have hzz : w.heap.size + 1 < w10.heap.size := World.block_lt_of_cell? w10 _ y4.2.1
          have y5 : w11.cell? ⟨w.heap.size, 0, none⟩ = some (.pointer (some ⟨g, 0, none⟩)) ∧ w11.cell? ⟨w.heap.size + 1, 0, none⟩ = some (.int .i64 s.i) ∧ w11.cell? ⟨w.heap.size + 1, 1, none⟩ = some (.int .i64 s.t) ∧ w11.cell? ⟨w.heap.size + 1, 2, none⟩ = some (.slice pa pn pc) ∧ w11.cell? ⟨w.heap.size + 1, 3, none⟩ = some (.slice qa qn qc) :=
            ⟨(hS.frm.cell (p := ⟨w.heap.size, 0, none⟩) (by show w.heap.size < _; omega) (by show ¬ w.heap.size = g; omega)).trans y4.1, (hS.frm.cell (p := ⟨w.heap.size + 1, 0, none⟩) (by show w.heap.size + 1 < _; omega) (by show ¬ w.heap.size + 1 = g; omega)).trans y4.2.1, (hS.frm.cell (p := ⟨w.heap.size + 1, 1, none⟩) (by show w.heap.size + 1 < _; omega) (by show ¬ w.heap.size + 1 = g; omega)).trans y4.2.2.1, (hS.frm.cell (p := ⟨w.heap.size + 1, 2, none⟩) (by show w.heap.size + 1 < _; omega) (by show ¬ w.heap.size + 1 = g; omega)).trans y4.2.2.2.1, (hS.frm.cell (p := ⟨w.heap.size + 1, 3, none⟩) (by show w.heap.size + 1 < _; omega) (by show ¬ w.heap.size + 1 = g; omega)).trans y4.2.2.2.2⟩
          have HNEW := hid (save_new (G := G) HDG.out HAG.out HAL.out HX4.out HD9.out (grow.trans2 (by have := HF5.out.size; have := HXB.out.size; omega) (by have := HF9.out.size; have := HXB.out.size; omega)) HDP.out.2.2 HX10.out HSV.out hS)
          have HGO11 := hid hS.obj
          have HOLD := hid ((hS.frm.block w5.heap.size (by have := HX10.out.size; have := HDP.out.2.2.size; have := HOL9.out; omega) (by show ¬ w5.heap.size = g; have := HF5.out.size; have := HX4.out.size; omega)).trans ((HX10.out.block _ HOL9.out).trans HOLD9.out))
          clear hS hgw hzz g0 g1 g2 g3 g4 g5 f0 f1 f2 f3 f4 f5 gl10
          refine hK.out _ _ y5 (fun hH5 => ?_)
          clear hK K
          try simp only [Act.put, sA_, s0_, sS_]
          clear hH4 y4
          refine wpAnyH_done (by kernel_rfl) ?_ _
          have hold := HOLD.out
          obtain ⟨o0, o4, hol⟩ := cells5 hold
          clear hold
          go_wp2
          go_ret
          obtain ⟨n1, n2, n3, n4, n5, n6⟩ := HNEW.out
          rw [HRES.out, if_neg (by simp), if_neg (by simp), if_neg (by simp)]
          exact ⟨rfl, ⟨_, _, n1, n2, n3, n4, .inl HAG.out, n6⟩, n5⟩
        have hb : (m1 != 0) = true := by simpa using hm
        have HM1 := hid hm
        clear hm b2 b30 b31 b32 b33
        go_wp2
        go_ret
        rw [HRES.out, if_neg (by simp), if_pos HM1.out]
        have hV := VaAt.disk (v := ⟨vs, false, vd⟩) (w := w) (HOV.out.below HX4.out) HDG.out HGG.out HAG.out HAL.out (fun q hq => by have := HDL.out q hq; have := HX4.out.size; omega) (Frm.of_ext HX4.out A) HDP.out.2.1 HDP.out.2.2
        exact ⟨rfl, hV.1, hV.2⟩
      by_cases h7 : l1 = 7
      · subst h7
        clear HLA
        (try dsimp only at HRES HD5)
        go_wp2_with fail
        refine Calls.mono (Drop_at HD5.out HOKL.out (by have := HACL.out; (try dsimp only); omega) freshS (by decide)) ?_
        rintro e w6 hD6
        have hE6 := DoPost.next HD5.out HF5.out (Below.refl _ _) hD6
        obtain ⟨rfl, -, -⟩ := hD6
        have HE6 := hid hE6
        have y6 := HF4.out.trans hE6.2.2 fun q hq => .inl hq
        clear hE6
        (try dsimp only at HE6)
        have hok6 := HOKL.out.drop freshS
        have hac6 := DS.drop_acts l2 freshS
        (try dsimp only at hok6)
        obtain ⟨d6, hd6⟩ : ∃ d6, d6 = (l2.drop freshS).2 := ⟨_, rfl⟩
        obtain ⟨e6, he6⟩ : ∃ e6, e6 = (l2.drop freshS).1 := ⟨_, rfl⟩
        have HRES2 := hid (show saveS ⟨vs, false, vd⟩ s = (7, ⟨vs, false, d6.sync.2⟩) by rw [HRES.out, hd6]; simp)
        have HD6 := hid (show DiskAt (grow D w4 w6) w6 dg d6 by rw [hd6]; exact HE6.out.2.1)
        have HF6 := hid HE6.out.2.2
        rw [← hd6] at hok6 hac6
        rw [← he6]
        have HOK6 := hid hok6
        have HAC6 := hid (show d6.acts.length ≤ 1000001001 by have := HACL.out; (try dsimp only at this); omega)
        clear hok6 hac6 hd6 he6 HE6 b2 b30 b31 b32 b33 g0 g1 g2 g3 g4 g5
        obtain ⟨b2, ⟨b30, b31, b32, b33⟩, hgo⟩ := HB.out w6 y6
        obtain ⟨⟨g0, g1, g2, g3, g4, g5⟩, -, -⟩ := cells6 hgo
        clear hgo y6
        go_wp2_with fail
        refine Calls.mono (Sync_at HD6.out HOK6.out (by have := HAC6.out; omega)) ?_
        rintro e w7 hD7
        have hE7 := DoPost.next HD6.out HF6.out (Below.refl _ _) hD7
        obtain ⟨rfl, -, -⟩ := hD7
        have HE7 := hid hE7
        clear hE7
        go_wp2
        go_ret
        rw [HRES2.out]
        have hV := VaAt.disk (v := ⟨vs, false, vd⟩) (w := w) (HOV.out.below HX4.out) HDG.out HGG.out HAG.out HAL.out (fun q hq => by have := HDL.out q hq; have := HX4.out.size; omega) (Frm.of_ext HX4.out A) HE7.out.2.1 HE7.out.2.2
        exact ⟨rfl, hV.1, hV.2⟩
      have hb : (l1 != 0) = true := by simpa using hl
      have hb7 : (l1 == 7) = false := by simpa using h7
      have HL1 := hid hl
      have HL7 := hid h7
      clear hl h7 HLA
      go_wp2
      go_ret
      (try dsimp only at HRES)
      rw [HRES.out, if_pos HL1.out, if_neg HL7.out]
      have hV := VaAt.disk (v := ⟨vs, false, vd⟩) (w := w) (HOV.out.below HX4.out) HDG.out HGG.out HAG.out HAL.out (fun q hq => by have := HDL.out q hq; have := HX4.out.size; omega) (Frm.of_ext HX4.out A) HD5.out HF5.out
      exact ⟨rfl, hV.1, hV.2⟩
    | true =>
      by_cases hle : s.i ≤ vs.i
      · have hres : saveS ⟨vs, true, vd⟩ s = (51, ⟨vs, true, vd⟩) := by
          unfold saveS
          rw [if_neg (by rw [HCZ.out]; simp), if_pos ⟨rfl, hle⟩]
        have HRES := hid hres
        have hd1 : decide (s.i ≤ vs.i) = true := by simpa using hle
        clear hres hres0 hle
        go_wp2
        refine wp_region_quiet_lit (by kernel_rfl) (by kernel_rfl) ?_
        repeat (any_goals (first | go_big_quiet_step (fail) | quiet_step (fail)))
        refine wpQuiet_nil ?_
        intro wq hwq
        obtain ⟨nq, hwq⟩ := hwq
        subst hwq
        go_wp2
        go_ret
        rw [HRES.out]
        exact H0.out.same (HX3.out.trans' (ext_drewN w3 nq)) _
      have HRES := hid (hres0 (by rintro ⟨-, h⟩; exact hle h))
      have hd1 : decide (s.i ≤ vs.i) = false := by simpa using hle
      clear hres0 hle
      go_wp2
      refine wp_region_quiet_lit (by kernel_rfl) (by kernel_rfl) ?_
      repeat (any_goals (first | go_big_quiet_step (fail) | quiet_step (fail)))
      refine wpQuiet_nil ?_
      intro wq hwq
      obtain ⟨nq, hwq⟩ := hwq
      subst hwq
      clear b2 b30 b31 b32 b33 g0 g1 g2 g3 g4 g5 hd1
      have hx4 := HX3.out.trans' (ext_drewN w3 nq)
      have HX4 := hid hx4
      have HF4 := hid (HF3.out.then_ext (ext_drewN w3 nq))
      generalize w3.drewN nq = w4 at *
      clear hx4
      obtain ⟨b2, ⟨b30, b31, b32, b33⟩, hgo⟩ := HB.out w4 HF4.out
      obtain ⟨⟨g0, g1, g2, g3, g4, g5⟩, -, -⟩ := cells6 hgo
      have hLA := lay_any (HD.out.below HX4.out) HOKD.out (by have := HC.out; omega) HGD.out g5 (HS.out.below HX4.out) HCZ.out
      have hokl := layS_ok (partsB s) 0 HOKD.out
      have hacl := layS_acts (partsB s) 0 vd
      have hpl := (partsB_len HCZ.out).1
      obtain ⟨r, hr⟩ : ∃ r, r = layS 0 (partsB s) vd := ⟨_, rfl⟩
      rw [← hr] at hLA hokl hacl HRES
      obtain ⟨l1, l2⟩ := r
      have HLA := hid hLA
      have HOKL := hid hokl
      have HACL := hid (show l2.acts.length ≤ 1000001000 by have := HC.out; dsimp only at hacl; omega)
      clear hLA hokl hacl hpl hr hgo g0 g1 g2 g3 g4
      go_wp2_with fail
      refine Calls.mono HLA.out ?_
      rintro e w5 ⟨rfl, hd5, hf5⟩
      have HD5 := hid hd5
      have HF5 := hid hf5
      have HF25 := hid (HF4.out.trans hf5 fun q hq => .inl hq)
      clear hd5 hf5 b2 b30 b31 b32 b33 g5
      obtain ⟨b2, ⟨b30, b31, b32, b33⟩, hgo⟩ := HB.out w5 HF25.out
      obtain ⟨⟨g0, g1, g2, g3, g4, g5⟩, -, -⟩ := cells6 hgo
      have HGO5 := hid hgo
      clear hgo
      by_cases hl : l1 = 0
      · subst hl
        (try dsimp only at HRES HD5)
        clear HLA
        go_wp2
        have hx8 := ext_alloc w5 (.cells #[.int .i64 vs.i, .int .i64 vs.t, .slice va vn vc, .slice da dn dc, .bool true] 70)
        have hn8 := heap_alloc_new w5 (.cells #[.int .i64 vs.i, .int .i64 vs.t, .slice va vn vc, .slice da dn dc, .bool true] 70)
        have hz8 : (w5.alloc (.cells #[.int .i64 vs.i, .int .i64 vs.t, .slice va vn vc, .slice da dn dc, .bool true] 70)).heap.size = w5.heap.size + 1 := by simp
        generalize w5.alloc (.cells #[.int .i64 vs.i, .int .i64 vs.t, .slice va vn vc, .slice da dn dc, .bool true] 70) = W8 at *
        have hx85 := hx8
        have HX8 := hid (hx8.trans' (ext_drew W8))
        have HN8 := hid hn8
        have HZ8 := hid hz8
        have y0 : Frm D W2 W8.drew := HF25.out.then_ext HX8.out
        clear hx8 hn8 hz8 b2 b30 b31 b32 b33 g0 g1 g2 g3 g4 g5
        refine wp_region_held_drew (S := fun W => Frm D W2 W) (by kernel_rfl) y0 (fun hH => ?_)
        refine hr_ 0 (.pointer (some ⟨g, 0, none⟩)) rfl y0 (fun W hW => ?_) ?_
        · (obtain ⟨b2, ⟨b30, b31, b32, b33⟩, hgo⟩ := HB.out W hW; obtain ⟨⟨g0, g1, g2, g3, g4, g5⟩, -, -⟩ := cells6 hgo; clear hgo hW; go_simp)
        try simp only [Act.put, sA_, s0_, sS_]
        refine hr_ 1 (.pointer (some ⟨g, 0, none⟩)) rfl y0 (fun W hW => ?_) ?_
        · (clear hW; go_simp)
        try simp only [Act.put, sA_, s0_, sS_]
        refine hr_ 2 (.pointer (some ⟨g, 5, none⟩)) rfl y0 (fun W hW => ?_) ?_
        · (clear hW; go_simp)
        try simp only [Act.put, sA_, s0_, sS_]
        refine hr_ 3 (.pointer (some ⟨dg, 0, none⟩)) rfl y0 (fun W hW => ?_) ?_
        · (obtain ⟨b2, ⟨b30, b31, b32, b33⟩, hgo⟩ := HB.out W hW; obtain ⟨⟨g0, g1, g2, g3, g4, g5⟩, -, -⟩ := cells6 hgo; clear hgo hW; go_simp)
        try simp only [Act.put, sA_, s0_, sS_]
        skip
        refine hr_ 4 (.func (.func 20) #[.pointer (some ⟨dg, 0, none⟩)] #[]) rfl y0 (fun W hW => ?_) ?_
        · (clear hW; go_simp)
        try simp only [Act.put, sA_, s0_, sS_]
        refine hr_ 5 (.func (.func 49) #[] #[.pointer (some ⟨w.heap.size, 0, none⟩), .pointer (some ⟨w.heap.size + 1, 0, none⟩)]) rfl y0 (fun W hW => ?_) ?_
        · (clear hW; go_simp)
        try simp only [Act.put, sA_, s0_, sS_]
        refine hr_ 6 (.pointer (some ⟨g, 0, none⟩)) rfl y0 (fun W hW => ?_) ?_
        · (obtain ⟨b2, ⟨b30, b31, b32, b33⟩, hgo⟩ := HB.out W hW; obtain ⟨⟨g0, g1, g2, g3, g4, g5⟩, -, -⟩ := cells6 hgo; clear hgo hW; go_simp)
        try simp only [Act.put, sA_, s0_, sS_]
        refine hr_ 7 (.pointer (some ⟨g, 0, none⟩)) rfl y0 (fun W hW => ?_) ?_
        · (clear hW; go_simp)
        try simp only [Act.put, sA_, s0_, sS_]
        refine hr_ 8 (.pointer (some ⟨g, 5, none⟩)) rfl y0 (fun W hW => ?_) ?_
        · (clear hW; go_simp)
        try simp only [Act.put, sA_, s0_, sS_]
        refine hr_ 9 (.pointer (some ⟨dg, 0, none⟩)) rfl y0 (fun W hW => ?_) ?_
        · (obtain ⟨b2, ⟨b30, b31, b32, b33⟩, hgo⟩ := HB.out W hW; obtain ⟨⟨g0, g1, g2, g3, g4, g5⟩, -, -⟩ := cells6 hgo; clear hgo hW; go_simp)
        try simp only [Act.put, sA_, s0_, sS_]
        refine hr_ 10 (.func (.func 20) #[.pointer (some ⟨dg, 0, none⟩)] #[]) rfl y0 (fun W hW => ?_) ?_
        · (clear hW; go_simp)
        try simp only [Act.put, sA_, s0_, sS_]
        refine hc_ 11 rfl (fun K hK => ?_)
        go_simp
        have hxb := (ext_alloc W8 (.cells #[.func (.func 20) #[.pointer (some ⟨dg, 0, none⟩)] #[], .func (.func 49) #[] #[.pointer (some ⟨w.heap.size, 0, none⟩), .pointer (some ⟨w.heap.size + 1, 0, none⟩)], .func (.func 20) #[.pointer (some ⟨dg, 0, none⟩)] #[]] 43)).trans' (ext_drew _)
        have hnb : (W8.alloc (.cells #[.func (.func 20) #[.pointer (some ⟨dg, 0, none⟩)] #[], .func (.func 49) #[] #[.pointer (some ⟨w.heap.size, 0, none⟩), .pointer (some ⟨w.heap.size + 1, 0, none⟩)], .func (.func 20) #[.pointer (some ⟨dg, 0, none⟩)] #[]] 43)).drew.heap[W8.heap.size]? = _ := heap_alloc_new W8 (.cells #[.func (.func 20) #[.pointer (some ⟨dg, 0, none⟩)] #[], .func (.func 49) #[] #[.pointer (some ⟨w.heap.size, 0, none⟩), .pointer (some ⟨w.heap.size + 1, 0, none⟩)], .func (.func 20) #[.pointer (some ⟨dg, 0, none⟩)] #[]] 43)
        have hzb : (W8.alloc (.cells #[.func (.func 20) #[.pointer (some ⟨dg, 0, none⟩)] #[], .func (.func 49) #[] #[.pointer (some ⟨w.heap.size, 0, none⟩), .pointer (some ⟨w.heap.size + 1, 0, none⟩)], .func (.func 20) #[.pointer (some ⟨dg, 0, none⟩)] #[]] 43)).drew.heap.size = W8.heap.size + 1 := World.size_alloc ..
        generalize (W8.alloc (.cells #[.func (.func 20) #[.pointer (some ⟨dg, 0, none⟩)] #[], .func (.func 49) #[] #[.pointer (some ⟨w.heap.size, 0, none⟩), .pointer (some ⟨w.heap.size + 1, 0, none⟩)], .func (.func 20) #[.pointer (some ⟨dg, 0, none⟩)] #[]] 43)).drew = WB at *
        have HXB := hid (hx85.trans' hxb)
        have HXB8 := hid hxb
        have HNB := hid hnb
        have HZB := hid hzb
        have y1 : Frm D W2 WB := HF25.out.then_ext HXB.out
        clear hxb hnb hzb
        refine hK.out _ _ y1 (fun hH1 => ?_)
        clear hK K
        try simp only [Act.put, sA_, s0_, sS_]
        clear hH y0
        obtain ⟨b2, ⟨b30, b31, b32, b33⟩, hgo⟩ := HB.out WB y1
        obtain ⟨⟨g0, g1, g2, g3, g4, g5⟩, -, -⟩ := cells6 hgo
        have hq := HNB.out
        obtain ⟨⟨r0, r1, r2⟩, -, -⟩ := cells3 hq
        have hnot : ∀ q, q < w5.heap.size → ¬ D q → (q < w4.heap.size ∨ w5.heap.size ≤ q) → ¬ grow D w4 w5 q := fun q h1 h2 h3 h => by
          rcases h with h | h
          · exact h2 h
          omega
        have h3l := HX4.out.size
        have h2l := HZ2.out
        have h24 := HF4.out.size
        have h5l := HF5.out.size
        have hdl := HDL.out
        have hbz : W8.heap.size = w5.heap.size + 1 := HZ8.out
        obtain ⟨⟨ck1, ck2⟩, -, -, -, -, -⟩ := checkS_ok HCZ.out
        have hE := each_three (c := 3) (HD5.out.below HXB.out) HOKL.out (by have := HACL.out; omega) b2 g5 b30 (hnot _ (by omega) (fun h => by have := hdl _ h; omega) (.inl (by omega))) (hnot _ (by have := HGL.out; omega) HGD.out (.inl (by have := HGL.out; omega)))
          (hnot _ (by omega) (fun h => by have := hdl _ h; omega) (.inl (by omega))) (fun h => by
            rcases h with h | h
            · have := hdl _ h; (try simp at this); omega
            · (try simp at h); omega) (((HT.out.ext HX4.out).frm HF5.out (fun h => HPOW.out (HDG.out _ h).1)).ext HXB.out) (fun h => by
            rcases h with h | h
            · exact HPOW.out (HDG.out _ h).1
            have := HT.out.lt; omega) (by omega) ck2 r0 r1 r2
        have hok3 := threeS_ok (nameB s.i) HOKL.out
        have hac3 := threeS_acts l2 (nameB s.i)
        obtain ⟨r, hr⟩ : ∃ r, r = threeS l2 (nameB s.i) := ⟨_, rfl⟩
        rw [← hr] at hE hok3 hac3 HRES
        obtain ⟨m1, m2⟩ := r
        have HE := hid hE
        have HOK3 := hid hok3
        have HAC3 := hid (show m2.acts.length ≤ 1000001001 by have := HACL.out; dsimp only at hac3; omega)
        clear hE hok3 hac3 hr hnot h3l h2l h24 h5l hdl hbz ck1 ck2 r0 r1 r2 hq b2 b30 b31 b32 b33 hgo g0 g1 g2 g3 g4 g5
        refine hc_ 12 rfl (fun K hK => ?_)
        go_simp
        go_at_call 48
        refine Calls.mono HE.out ?_
        rintro e w9 hE9
        have hEE := DoPost.next HD5.out HF5.out HXB.out hE9
        have HD9 := hid hE9.2.1
        have HF9 := hid hE9.2.2
        obtain ⟨rfl, -, -⟩ := hE9
        have HOL9 := hid (show w5.heap.size < w9.heap.size by have := HF9.out.size; have := HZB.out; have := HZ8.out; omega)
        have h5n : ¬ grow D w4 w5 w5.heap.size := fun h => by
          rcases h with h | h
          · have := HDL.out _ h; have := HF5.out.size; have := HX4.out.size; omega
          omega
        have HOLD9 := hid ((HF9.out.block w5.heap.size (by have := HZB.out; have := HZ8.out; omega) h5n).trans ((HXB8.out.block w5.heap.size (by have := HZ8.out; omega)).trans HN8.out))
        have HND := hid (show ∀ q, q = w.heap.size ∨ q = g ∨ q = w5.heap.size → ¬ grow (grow D w4 w5) WB w9 q from fun q hq h => by
          have z1 := HX4.out.size
          have z2 := HF5.out.size
          have z3 := HZB.out
          have z4 := HZ8.out
          have z5 := HZ2.out
          have z6 := HF4.out.size
          have z7 := HGL.out
          rcases hq with rfl | rfl | rfl
          · rcases h with (h | h) | h
            · have := HDL.out _ h; omega
            · omega
            omega
          · rcases h with (h | h) | h
            · exact HGD.out h
            · omega
            omega
          rcases h with h | h
          · exact h5n h
          omega)
        have HDP := hid hEE
        have y2 : Frm D W2 w9 := HF4.out.trans hEE.2.2 fun q hq => .inl hq
        clear hEE HE h5n
        go_wp2_with fail
        refine hK.out _ _ y2 (fun hH2 => ?_)
        clear hK K
        try simp only [Act.put, sA_, s0_, sS_]
        clear hH1 y1
        refine held_run (i := 13) (v := .int .i64 m1) rfl (by kernel_rfl) (by kernel_rfl) (by kernel_rfl) (fun _ _ _ h => h) (by rfl) y2 (fun W hW => ?_) ?_
        · (clear hW; go_simp)
        try simp only [Act.put, sA_, s0_, sS_]
        refine wpAnyH_done (by kernel_rfl) ?_ _
        (try dsimp only at HDP HRES)
        obtain ⟨b2, ⟨b30, b31, b32, b33⟩, hgo⟩ := HB.out w9 y2
        have HGO9 := hid hgo
        clear hgo
        by_cases hm : m1 = 0
        · subst hm
          go_wp2
          have y3 : w9.drew.cell? ⟨w.heap.size, 0, none⟩ = some (.pointer (some ⟨g, 0, none⟩)) ∧ w9.drew.cell? ⟨w.heap.size + 1, 0, none⟩ = some (.int .i64 s.i) ∧ w9.drew.cell? ⟨w.heap.size + 1, 1, none⟩ = some (.int .i64 s.t) ∧ w9.drew.cell? ⟨w.heap.size + 1, 2, none⟩ = some (.slice pa pn pc) ∧ w9.drew.cell? ⟨w.heap.size + 1, 3, none⟩ = some (.slice qa qn qc) := ⟨b2, b30, b31, b32, b33⟩
          clear b2 b30 b31 b32 b33
          refine wp_region_held_drew (S := fun W => W.cell? ⟨w.heap.size, 0, none⟩ = some (.pointer (some ⟨g, 0, none⟩)) ∧ W.cell? ⟨w.heap.size + 1, 0, none⟩ = some (.int .i64 s.i) ∧ W.cell? ⟨w.heap.size + 1, 1, none⟩ = some (.int .i64 s.t) ∧ W.cell? ⟨w.heap.size + 1, 2, none⟩ = some (.slice pa pn pc) ∧ W.cell? ⟨w.heap.size + 1, 3, none⟩ = some (.slice qa qn qc)) (by kernel_rfl) y3 (fun hH3 => ?_)
          clear hH2
          refine held_run (i := 0) (v := .pointer (some ⟨g, 0, none⟩)) rfl (by kernel_rfl) (by kernel_rfl) (by kernel_rfl) (fun _ _ _ h => h) (by rfl) y3 (fun W hW => ?_) ?_
          · (obtain ⟨b2, b30, b31, b32, b33⟩ := hW; go_simp)
          try simp only [Act.put, sA_, s0_, sS_]
          refine held_run (i := 1) (v := .agg #[.int .i64 s.i, .int .i64 s.t, .slice pa pn pc, .slice qa qn qc]) rfl (by kernel_rfl) (by kernel_rfl) (by kernel_rfl) (fun _ _ _ h => h) (by rfl) y3 (fun W hW => ?_) ?_
          · (obtain ⟨b2, b30, b31, b32, b33⟩ := hW; go_simp)
          try simp only [Act.put, sA_, s0_, sS_]
          have hs9 := HS.out.keep (w' := w9) (G := F) fun q hq hl => ⟨hq, (HDP.out.2.2.block q (by have := HX4.out.size; omega) fun h => HF.out q hq (HDG.out q h).1).trans (HX4.out.block q hl)⟩
          have HCP := hid (copied_sn (hs9.below (ext_drew w9)))
          clear hs9
          refine hc_ 2 rfl (fun K hK => ?_)
          go_simp
          go_at_call 52
          refine Calls.mono HCP.out ?_
          rintro e w10 ⟨v', rfl, hsv, hx10⟩
          have hx10' := (ext_drew w9).trans' hx10
          obtain ⟨na, nn, nc, ma, mn, mc, rfl, k1, k2, k3, k4⟩ := hsv
          have HSV := hid (show SnV (fun q => w9.heap.size ≤ q ∧ q < w10.heap.size) w10 (.agg #[.int .i64 s.i, .int .i64 s.t, .slice na nn nc, .slice ma mn mc]) s from ⟨na, nn, nc, ma, mn, mc, rfl, k1, k2, k3, k4⟩)
          have h9z : w.heap.size + 2 ≤ w9.heap.size := by have := y2.size; have := HZ2.out; omega
          have y4 : w10.cell? ⟨w.heap.size, 0, none⟩ = some (.pointer (some ⟨g, 0, none⟩)) ∧ w10.cell? ⟨w.heap.size + 1, 0, none⟩ = some (.int .i64 s.i) ∧ w10.cell? ⟨w.heap.size + 1, 1, none⟩ = some (.int .i64 s.t) ∧ w10.cell? ⟨w.heap.size + 1, 2, none⟩ = some (.slice pa pn pc) ∧ w10.cell? ⟨w.heap.size + 1, 3, none⟩ = some (.slice qa qn qc) :=
            ⟨(hx10'.cell (p := ⟨w.heap.size, 0, none⟩) (by show w.heap.size < _; omega)).trans y3.1, (hx10'.cell (p := ⟨w.heap.size + 1, 0, none⟩) (by show w.heap.size + 1 < _; omega)).trans y3.2.1, (hx10'.cell (p := ⟨w.heap.size + 1, 1, none⟩) (by show w.heap.size + 1 < _; omega)).trans y3.2.2.1, (hx10'.cell (p := ⟨w.heap.size + 1, 2, none⟩) (by show w.heap.size + 1 < _; omega)).trans y3.2.2.2.1, (hx10'.cell (p := ⟨w.heap.size + 1, 3, none⟩) (by show w.heap.size + 1 < _; omega)).trans y3.2.2.2.2⟩
          have HX10 := hid hx10'
          have HGO10 := hid ((hx10'.block g (by have := HGL.out; omega)).trans HGO9.out)
          clear k1 k2 k3 k4 hx10 hx10' h9z
          go_wp2_with fail
          refine hK.out _ _ y4 (fun hH4 => ?_)
          clear hK K
          try simp only [Act.put, sA_, s0_, sS_]
          clear hH3 y3
          refine held_run (i := 3) (v := .agg #[.int .i64 s.i, .int .i64 s.t, .slice na nn nc, .slice ma mn mc, .bool true]) rfl (by kernel_rfl) (by kernel_rfl) (by kernel_rfl) (fun _ _ _ h => h) (by rfl) y4 (fun W hW => ?_) ?_
          · (clear hW; go_simp)
          try simp only [Act.put, sA_, s0_, sS_]
          refine held_run (i := 4) (v := .pointer (some ⟨g, 0, none⟩)) rfl (by kernel_rfl) (by kernel_rfl) (by kernel_rfl) (fun _ _ _ h => h) (by rfl) y4 (fun W hW => ?_) ?_
          · (clear hW; go_simp)
          try simp only [Act.put, sA_, s0_, sS_]
          refine held_run (i := 5) (v := .pointer (some ⟨g, 0, none⟩)) rfl (by kernel_rfl) (by kernel_rfl) (by kernel_rfl) (fun _ _ _ h => h) (by rfl) y4 (fun W hW => ?_) ?_
          · (clear hW; go_simp)
          try simp only [Act.put, sA_, s0_, sS_]
          have hgo10 := HGO10.out
          obtain ⟨⟨g0, g1, g2, g3, g4, g5⟩, ⟨f0, f1, f2, f3, f4, f5⟩, gl10⟩ := cells6 hgo10
          clear hgo10
          refine hc_ 6 rfl (fun K hK => ?_)
          go_simp
          have hS := (((((SetG.start HGO10.out).step 0 (.int .i64 s.i)).step 1 (.int .i64 s.t)).step 2 (.slice na nn nc)).step 3 (.slice ma mn mc)).step 4 (.bool true)
          generalize ((((w10.setCell ⟨g, 0, none⟩ (.int .i64 s.i)).setCell ⟨g, 1, none⟩ (.int .i64 s.t)).setCell ⟨g, 2, none⟩ (.slice na nn nc)).setCell ⟨g, 3, none⟩ (.slice ma mn mc)).setCell ⟨g, 4, none⟩ (.bool true) = w11 at *
          have hgw := HGL.out
          have hzz : w.heap.size + 1 < w10.heap.size := World.block_lt_of_cell? w10 _ y4.2.1
          have y5 : w11.cell? ⟨w.heap.size, 0, none⟩ = some (.pointer (some ⟨g, 0, none⟩)) ∧ w11.cell? ⟨w.heap.size + 1, 0, none⟩ = some (.int .i64 s.i) ∧ w11.cell? ⟨w.heap.size + 1, 1, none⟩ = some (.int .i64 s.t) ∧ w11.cell? ⟨w.heap.size + 1, 2, none⟩ = some (.slice pa pn pc) ∧ w11.cell? ⟨w.heap.size + 1, 3, none⟩ = some (.slice qa qn qc) :=
            ⟨(hS.frm.cell (p := ⟨w.heap.size, 0, none⟩) (by show w.heap.size < _; omega) (by show ¬ w.heap.size = g; omega)).trans y4.1, (hS.frm.cell (p := ⟨w.heap.size + 1, 0, none⟩) (by show w.heap.size + 1 < _; omega) (by show ¬ w.heap.size + 1 = g; omega)).trans y4.2.1, (hS.frm.cell (p := ⟨w.heap.size + 1, 1, none⟩) (by show w.heap.size + 1 < _; omega) (by show ¬ w.heap.size + 1 = g; omega)).trans y4.2.2.1, (hS.frm.cell (p := ⟨w.heap.size + 1, 2, none⟩) (by show w.heap.size + 1 < _; omega) (by show ¬ w.heap.size + 1 = g; omega)).trans y4.2.2.2.1, (hS.frm.cell (p := ⟨w.heap.size + 1, 3, none⟩) (by show w.heap.size + 1 < _; omega) (by show ¬ w.heap.size + 1 = g; omega)).trans y4.2.2.2.2⟩
          have HNEW := hid (save_new (G := G) HDG.out HAG.out HAL.out HX4.out HD9.out (grow.trans2 (by have := HF5.out.size; have := HXB.out.size; omega) (by have := HF9.out.size; have := HXB.out.size; omega)) HDP.out.2.2 HX10.out HSV.out hS)
          have HGO11 := hid hS.obj
          have HOLD := hid ((hS.frm.block w5.heap.size (by have := HX10.out.size; have := HDP.out.2.2.size; have := HOL9.out; omega) (by show ¬ w5.heap.size = g; have := HF5.out.size; have := HX4.out.size; omega)).trans ((HX10.out.block _ HOL9.out).trans HOLD9.out))
          clear hS hgw hzz g0 g1 g2 g3 g4 g5 f0 f1 f2 f3 f4 f5 gl10
          refine hK.out _ _ y5 (fun hH5 => ?_)
          clear hK K
          try simp only [Act.put, sA_, s0_, sS_]
          clear hH4 y4
          refine wpAnyH_done (by kernel_rfl) ?_ _
          have hold := HOLD.out
          obtain ⟨o0, o4, hol⟩ := cells5 hold
          clear hold
          obtain ⟨z2, -, -, -, -⟩ := y5
          obtain ⟨⟨-, -, -, -, -, g5⟩, -, -⟩ := cells6 HGO11.out
          go_wp2
          have y6 : w11.drew.cell? ⟨w.heap.size, 0, none⟩ = some (.pointer (some ⟨g, 0, none⟩)) ∧ w11.drew.cell? ⟨g, 5, none⟩ = some (.pointer (some ⟨dg, 0, none⟩)) ∧ w11.drew.cell? ⟨w5.heap.size, 0, none⟩ = some (.int .i64 vs.i) := ⟨z2, g5, o0⟩
          clear z2 g5 o0 o4
          refine wp_region_held_drew (S := fun W => W.cell? ⟨w.heap.size, 0, none⟩ = some (.pointer (some ⟨g, 0, none⟩)) ∧ W.cell? ⟨g, 5, none⟩ = some (.pointer (some ⟨dg, 0, none⟩)) ∧ W.cell? ⟨w5.heap.size, 0, none⟩ = some (.int .i64 vs.i)) (by kernel_rfl) y6 (fun hH6 => ?_)
          clear hH5
          refine held_run (i := 0) (v := .pointer (some ⟨g, 0, none⟩)) rfl (by kernel_rfl) (by kernel_rfl) (by kernel_rfl) (fun _ _ _ h => h) (by rfl) y6 (fun W hW => ?_) ?_
          · (obtain ⟨z2, g5, o0⟩ := hW; go_simp)
          try simp only [Act.put, sA_, s0_, sS_]
          refine held_run (i := 1) (v := .pointer (some ⟨g, 0, none⟩)) rfl (by kernel_rfl) (by kernel_rfl) (by kernel_rfl) (fun _ _ _ h => h) (by rfl) y6 (fun W hW => ?_) ?_
          · (clear hW; go_simp)
          try simp only [Act.put, sA_, s0_, sS_]
          refine held_run (i := 2) (v := .pointer (some ⟨g, 5, none⟩)) rfl (by kernel_rfl) (by kernel_rfl) (by kernel_rfl) (fun _ _ _ h => h) (by rfl) y6 (fun W hW => ?_) ?_
          · (clear hW; go_simp)
          try simp only [Act.put, sA_, s0_, sS_]
          refine held_run (i := 3) (v := .pointer (some ⟨dg, 0, none⟩)) rfl (by kernel_rfl) (by kernel_rfl) (by kernel_rfl) (fun _ _ _ h => h) (by rfl) y6 (fun W hW => ?_) ?_
          · (obtain ⟨z2, g5, o0⟩ := hW; go_simp)
          try simp only [Act.put, sA_, s0_, sS_]
          refine held_run (i := 4) (v := .pointer (some ⟨w5.heap.size, 0, none⟩)) rfl (by kernel_rfl) (by kernel_rfl) (by kernel_rfl) (fun _ _ _ h => h) (by rfl) y6 (fun W hW => ?_) ?_
          · (clear hW; go_simp)
          try simp only [Act.put, sA_, s0_, sS_]
          refine held_run (i := 5) (v := .pointer (some ⟨w5.heap.size, 0, none⟩)) rfl (by kernel_rfl) (by kernel_rfl) (by kernel_rfl) (fun _ _ _ h => h) (by rfl) y6 (fun W hW => ?_) ?_
          · (clear hW; go_simp)
          try simp only [Act.put, sA_, s0_, sS_]
          refine held_run (i := 6) (v := .int .i64 vs.i) rfl (by kernel_rfl) (by kernel_rfl) (by kernel_rfl) (fun _ _ _ h => h) (by rfl) y6 (fun W hW => ?_) ?_
          · (obtain ⟨z2, g5, o0⟩ := hW; go_simp)
          try simp only [Act.put, sA_, s0_, sS_]
          obtain ⟨n1, n2, n3, n4, n5, n6⟩ := HNEW.out
          have N1 := hid n1
          have N2 := hid n2
          have N3 := hid n3
          have N4 := hid n4
          have N5 := hid n5
          have N6 := hid n6
          obtain ⟨⟨ck1, ck2⟩, -, -, -, -, -⟩ := checkS_ok (HOKS.out (by trivial))
          (try dsimp only at ck1 ck2)
          have HNM := hid (name_any (((HT.out.frm N5.out HPOW.out)).ext (ext_drew w11)) (i := vs.i) (by omega) ck2)
          have HGF := hid (fun W (hW : Ext w11 W) => Drop_at (N1.out.below hW) HOK3.out (by have := HAC3.out; omega) (nameB vs.i) (by rw [nameB_len (by omega) ck2]; decide))
          obtain ⟨nm, hnm⟩ : ∃ nm, nm = nameB vs.i := ⟨_, rfl⟩
          rw [← hnm] at HNM HGF HRES
          clear n1 n2 n3 n4 n5 n6 ck1 ck2 hnm HNEW
          refine hc_ 7 rfl (fun K hK => ?_)
          go_simp
          go_at_call 51
          refine Calls.mono HNM.out ?_
          rintro e w12 ⟨rfl, hx12⟩
          have HX12 := hid ((ext_drew w11).trans' hx12)
          have hg11 : g < w11.heap.size := World.block_lt_of_cell? w11.drew ⟨g, 5, none⟩ y6.2.1
          have y7 : w12.cell? ⟨w.heap.size, 0, none⟩ = some (.pointer (some ⟨g, 0, none⟩)) ∧ w12.cell? ⟨g, 5, none⟩ = some (.pointer (some ⟨dg, 0, none⟩)) ∧ w12.cell? ⟨w5.heap.size, 0, none⟩ = some (.int .i64 vs.i) :=
            ⟨(hx12.cell (p := ⟨w.heap.size, 0, none⟩) (World.block_lt_of_cell? _ _ y6.1)).trans y6.1, (hx12.cell (p := ⟨g, 5, none⟩) (World.block_lt_of_cell? _ _ y6.2.1)).trans y6.2.1, (hx12.cell (p := ⟨w5.heap.size, 0, none⟩) (World.block_lt_of_cell? _ _ y6.2.2)).trans y6.2.2⟩
          clear hx12
          go_wp2_with fail
          refine hK.out _ _ y7 (fun hH7 => ?_)
          clear hK K
          try simp only [Act.put, sA_, s0_, sS_]
          clear hH6
          refine hc_ 8 rfl (fun K hK => ?_)
          go_simp
          go_at_call 47
          refine Calls.mono (HGF.out w12 HX12.out) ?_
          rintro e w13 ⟨rfl, hd13, hf13⟩
          have y8 : w13.cell? ⟨w.heap.size, 0, none⟩ = some (.pointer (some ⟨g, 0, none⟩)) ∧ w13.cell? ⟨g, 5, none⟩ = some (.pointer (some ⟨dg, 0, none⟩)) ∧ w13.cell? ⟨w5.heap.size, 0, none⟩ = some (.int .i64 vs.i) :=
            ⟨(hf13.cell (p := ⟨w.heap.size, 0, none⟩) (World.block_lt_of_cell? _ _ y7.1) (HND.out _ (.inl rfl))).trans y7.1, (hf13.cell (p := ⟨g, 5, none⟩) (World.block_lt_of_cell? _ _ y7.2.1) (HND.out _ (.inr (.inl rfl)))).trans y7.2.1, (hf13.cell (p := ⟨w5.heap.size, 0, none⟩) (World.block_lt_of_cell? _ _ y7.2.2) (HND.out _ (.inr (.inr rfl)))).trans y7.2.2⟩
          have HD13 := hid hd13
          have HF13 := hid hf13
          clear hd13 hf13
          go_wp2_with fail
          refine hK.out _ _ y8 (fun hH8 => ?_)
          clear hK K
          try simp only [Act.put, sA_, s0_, sS_]
          clear hH7
          refine held_run (i := 9) (v := .int .i64 (m2.drop nm).1) rfl (by kernel_rfl) (by kernel_rfl) (by kernel_rfl) (fun _ _ _ h => h) (by rfl) y8 (fun W hW => ?_) ?_
          · (clear hW; go_simp)
          try simp only [Act.put, sA_, s0_, sS_]
          refine wpAnyH_done (by kernel_rfl) ?_ _
          go_wp2
          go_ret
          rw [HRES.out, if_neg (by simp), if_neg (by simp), if_pos (by trivial)]
          have hV := VaAt.disk (v := ⟨s, true, m2⟩) (A := grow A w w11) (w := w11) (N2.out.below HX12.out) N3.out N4.out (.inl HAG.out) N6.out (fun q hq => by have := N1.out.lt q hq; have := HX12.out.size; omega) (Frm.of_ext HX12.out _) HD13.out HF13.out
          exact ⟨rfl, hV.1.more (grow.trans N5.out.size (by have := HX12.out.size; have := HF13.out.size; omega)) (grow.lt HAL.out (by have := N5.out.size; have := HX12.out.size; have := HF13.out.size; omega)), N5.out.trans hV.2 fun q hq => by
            rcases hq with hq | hq
            · exact .inl hq
            exact .inr hq.1⟩
        have hb : (m1 != 0) = true := by simpa using hm
        have HM1 := hid hm
        clear hm b2 b30 b31 b32 b33
        go_wp2
        go_ret
        rw [HRES.out, if_neg (by simp), if_pos HM1.out]
        have hV := VaAt.disk (v := ⟨vs, true, vd⟩) (w := w) (HOV.out.below HX4.out) HDG.out HGG.out HAG.out HAL.out (fun q hq => by have := HDL.out q hq; have := HX4.out.size; omega) (Frm.of_ext HX4.out A) HDP.out.2.1 HDP.out.2.2
        exact ⟨rfl, hV.1, hV.2⟩
      by_cases h7 : l1 = 7
      · subst h7
        clear HLA
        (try dsimp only at HRES HD5)
        go_wp2_with fail
        refine Calls.mono (Drop_at HD5.out HOKL.out (by have := HACL.out; (try dsimp only); omega) freshS (by decide)) ?_
        rintro e w6 hD6
        have hE6 := DoPost.next HD5.out HF5.out (Below.refl _ _) hD6
        obtain ⟨rfl, -, -⟩ := hD6
        have HE6 := hid hE6
        have y6 := HF4.out.trans hE6.2.2 fun q hq => .inl hq
        clear hE6
        (try dsimp only at HE6)
        have hok6 := HOKL.out.drop freshS
        have hac6 := DS.drop_acts l2 freshS
        (try dsimp only at hok6)
        obtain ⟨d6, hd6⟩ : ∃ d6, d6 = (l2.drop freshS).2 := ⟨_, rfl⟩
        obtain ⟨e6, he6⟩ : ∃ e6, e6 = (l2.drop freshS).1 := ⟨_, rfl⟩
        have HRES2 := hid (show saveS ⟨vs, true, vd⟩ s = (7, ⟨vs, true, d6.sync.2⟩) by rw [HRES.out, hd6]; simp)
        have HD6 := hid (show DiskAt (grow D w4 w6) w6 dg d6 by rw [hd6]; exact HE6.out.2.1)
        have HF6 := hid HE6.out.2.2
        rw [← hd6] at hok6 hac6
        rw [← he6]
        have HOK6 := hid hok6
        have HAC6 := hid (show d6.acts.length ≤ 1000001001 by have := HACL.out; (try dsimp only at this); omega)
        clear hok6 hac6 hd6 he6 HE6 b2 b30 b31 b32 b33 g0 g1 g2 g3 g4 g5
        obtain ⟨b2, ⟨b30, b31, b32, b33⟩, hgo⟩ := HB.out w6 y6
        obtain ⟨⟨g0, g1, g2, g3, g4, g5⟩, -, -⟩ := cells6 hgo
        clear hgo y6
        go_wp2_with fail
        refine Calls.mono (Sync_at HD6.out HOK6.out (by have := HAC6.out; omega)) ?_
        rintro e w7 hD7
        have hE7 := DoPost.next HD6.out HF6.out (Below.refl _ _) hD7
        obtain ⟨rfl, -, -⟩ := hD7
        have HE7 := hid hE7
        clear hE7
        go_wp2
        go_ret
        rw [HRES2.out]
        have hV := VaAt.disk (v := ⟨vs, true, vd⟩) (w := w) (HOV.out.below HX4.out) HDG.out HGG.out HAG.out HAL.out (fun q hq => by have := HDL.out q hq; have := HX4.out.size; omega) (Frm.of_ext HX4.out A) HE7.out.2.1 HE7.out.2.2
        exact ⟨rfl, hV.1, hV.2⟩
      have hb : (l1 != 0) = true := by simpa using hl
      have hb7 : (l1 == 7) = false := by simpa using h7
      have HL1 := hid hl
      have HL7 := hid h7
      clear hl h7 HLA
      go_wp2
      go_ret
      (try dsimp only at HRES)
      rw [HRES.out, if_pos HL1.out, if_neg HL7.out]
      have hV := VaAt.disk (v := ⟨vs, true, vd⟩) (w := w) (HOV.out.below HX4.out) HDG.out HGG.out HAG.out HAL.out (fun q hq => by have := HDL.out q hq; have := HX4.out.size; omega) (Frm.of_ext HX4.out A) HD5.out HF5.out
      exact ⟨rfl, hV.1, hV.2⟩
  · have hres : saveS ⟨vs, sm, vd⟩ s = (4, ⟨vs, sm, vd⟩) := by unfold saveS; rw [if_pos (by rw [hcz]; simp), hcz]
    rw [hcz]
    have HRES := hid hres
    clear hres hcz
    go_wp2
    go_ret
    rw [HRES.out]
    exact H0.out.same HX3.out _
  have hres : saveS ⟨vs, sm, vd⟩ s = (60, ⟨vs, sm, vd⟩) := by unfold saveS; rw [if_pos (by rw [hcz]; simp), hcz]
  rw [hcz]
  have HRES := hid hres
  clear hres hcz
  go_wp2
  go_ret
  rw [HRES.out]
  exact H0.out.same HX3.out _
end Go.Proofs.YtjapeaoebjmpnaaGreatDoor
