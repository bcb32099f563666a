/- Whether a view is among views: the walks of ContainsFunc and of the law's closure. -/
import Derived.Test.YtikjckdoldiddaaGreatDoorCWl9
namespace Go.Proofs.YtikjckdoldiddaaGreatDoor
open Go.RowKit Go.Maps
set_option linter.unusedVariables false
set_option linter.unusedSimpArgs false
attribute [local go_sem] bmax2 bmin2 bmax_two bmin_two

theorem VsR.get {F : Nat → Prop} {B : Nat} {w : World} {v : Value} {L : List Wv} (h : VsR F B w v L) {k : Nat} (hk : k < L.length) :
    ∃ (g c : Nat) (a : Option Addr) (n m : Nat), v = .slice (some ⟨g, 0, none⟩) L.length c ∧ g < w.heap.size ∧ (w.cell? ⟨g, k * 5, none⟩ = some (.int .i64 L[k].ht) ∧ w.cell? ⟨g, k * 5 + 1, none⟩ = some (.int .i64 L[k].hv) ∧ w.cell? ⟨g, k * 5 + 2, none⟩ = some (.int .i64 L[k].i) ∧ w.cell? ⟨g, k * 5 + 3, none⟩ = some (.int .i64 L[k].t) ∧ w.cell? ⟨g, k * 5 + 4, none⟩ = some (.slice a n m)) ∧ EsF (fun _ => True) w a n m L[k].l := by
  obtain ⟨H, h1, h2, h3⟩ := h
  have hown := h2
  obtain ⟨hl, ⟨rfl, h0⟩ | ⟨g, cap, cur, rfl, hb, hg, hn, hmx, hs, ht⟩⟩ := h2
  · omega
  have hgl := (Array.getElem?_eq_some_iff.1 hg).1
  have hc : ∀ i, i < 5 → w.cell? ⟨g, k * 5 + i, none⟩ = (vcell L[k] (H[k]'(by omega)))[i]? := fun i hi => by
    rw [hown.cellAt (k * 5 + i) (by omega), rawV_get L H k i hk (by omega) hi]
  exact ⟨g, cap, _, _, _, rfl, hgl, ⟨hc 0 (by omega), hc 1 (by omega), hc 2 (by omega), hc 3 (by omega), hc 4 (by omega)⟩, (h3 k (by omega) hk).more fun _ _ => trivial⟩
theorem VsR.len {F : Nat → Prop} {B : Nat} {w : World} {v : Value} {L : List Wv} (h : VsR F B w v L) : L.length ≤ 9223372036854775807 := by
  obtain ⟨H, h1, h2, h3⟩ := h
  obtain ⟨hl, ⟨rfl, h0⟩ | ⟨g, cap, cur, rfl, hb, hg, hn, hmx, hs, ht⟩⟩ := h2
  · omega
  unfold maxLen at hmx; omega
/-- The view that a closure has captured. -/
def VcAt (w : World) (B : Nat) (v : Wv) : Prop :=
  ∃ (a : Option Addr) (n c : Nat), w.heap[B]? = some (.cells #[.int .i64 v.ht, .int .i64 v.hv, .int .i64 v.i, .int .i64 v.t, .slice a n c] 42 (0, 0)) ∧ EsF (fun _ => True) w a n c v.l
theorem VcAt.ext {w w' : World} {B : Nat} {v : Wv} (h : VcAt w B v) (hx : Ext w w') : VcAt w' B v := by
  obtain ⟨a, n, c, h1, h2⟩ := h
  exact ⟨a, n, c, (hx.block B (Array.getElem?_eq_some_iff.1 h1).1).trans h1, h2.below hx⟩
theorem VcAt.lt {w : World} {B : Nat} {v : Wv} (h : VcAt w B v) : B < w.heap.size := by
  obtain ⟨a, n, c, h1, h2⟩ := h
  exact (Array.getElem?_eq_some_iff.1 h1).1
set_option maxHeartbeats 1000000 in
theorem clo_any {F : Nat → Prop} {w : World} {u v : Wv} {a : Option Addr} {n c B : Nat} (h : EsF F w a n c u.l) (hB : VcAt w B v) :
    Calls Tryz.prog 38 #[vwV u (.slice a n c), .pointer (some ⟨B, 0, none⟩)] w (SamePostV u v w) := by
  have hx0 : Ext w (w.alloc (.cells #[.int .i64 u.ht, .int .i64 u.hv, .int .i64 u.i, .int .i64 u.t, .slice a n c] 42)) := ext_alloc _ _
  obtain ⟨a', n', c', hb, h'⟩ := hB.ext hx0
  have HSA := hid (sameV_any (h.below hx0) h')
  have HX0 := hid hx0
  obtain ⟨⟨b0, b1, b2, b3, b4⟩, -, -⟩ := cells5 hb
  have hlt : B < w.heap.size := hB.lt
  have hne : B ≠ w.heap.size := by omega
  clear h h' hb hx0 hB
  unfold vwV at *
  go_enter Tryz.func38, Tryz.ntmps38
  go_wp2_with fail
  refine Calls.mono HSA.out ?_
  rintro e w1 ⟨bb, rfl, hbb, hx⟩
  have HBB := hid hbb
  have HX1 := hid (HX0.out.trans' hx)
  clear hbb hx
  go_wp2
  go_ret
  exact ⟨bb, rfl, HBB.out, HX1.out⟩
def IdxPost (L : List Wv) (u : Wv) (w : World) (e : Ending) (w' : World) : Prop := ∃ r : Int, e = .returned (.int .i64 r) ∧ (0 ≤ r ↔ u ∈ L) ∧ Ext w w'
set_option maxRecDepth 100000 in
set_option maxHeartbeats 2000000 in
theorem idxV_any {F : Nat → Prop} {B0 : Nat} {w : World} {val : Value} {L : List Wv} {B : Nat} {v : Wv} (h : VsR F B0 w val L) (hL : L.length ≤ 9223372036854775807) (hB : VcAt w B v) :
    Calls Tryz.prog 78 #[val, .func (.func 38) #[] #[.pointer (some ⟨B, 0, none⟩)]] w (IdxPost L v w) := by
  obtain ⟨a0, c0, rfl⟩ := h.slice_
  obtain ⟨n, hn⟩ : ∃ n, n = L.length := ⟨_, rfl⟩
  have HV := hid h
  have HB := hid hB
  have HN := hid hn
  rw [← hn] at hL
  have HLN := hid hL
  rw [← hn]
  clear h hB hn
  go_enter Tryz.func78, Tryz.ntmps78
  go_wp2
  go_loopw [5, 8] (fun _ z wr => ∃ k : Nat, k ≤ n ∧ z = .int .i64 k ∧ Hid (Ext w wr) ∧ Hid (v ∉ L.take k)) (fun _ z _ => n - (intOf z).toNat)
  case atStart => exact ⟨0, Nat.zero_le _, rfl, Below.refl _ _, (by intro h; cases h)⟩
  obtain ⟨k, hk, rfl, HX, HT⟩ := hrel
  by_cases hlt : k < n
  · have hkl : k < L.length := by have := HN.out; omega
    obtain ⟨g, c, a, m, mc, hv, hg, ⟨d0, d1, d2, d3, d4⟩, hes⟩ := HV.out.get hkl
    injection hv with e1 e2 e3
    subst e1; subst e3
    have hb := HX.out
    have cc := fun o => hb.cell (p := ⟨g, o, none⟩) hg
    rw [← cc] at d0 d1 d2 d3 d4
    have HCL := hid (clo_any (hes.below hb) (HB.out.ext hb))
    have hmem : v ∈ L.take (k + 1) ↔ v ∈ L.take k ∨ v = L[k] := by rw [List.take_succ_eq_append_getElem hkl, List.mem_append, List.mem_singleton]
    have HMM := hid hmem
    have HIN := hid (show L[k] = v → v ∈ L from fun h => h ▸ List.getElem_mem hkl)
    clear hes cc hb hmem
    generalize L[k] = u at *
    obtain ⟨uh, ug, ui, ut, ul⟩ := u
    unfold vwV at *
    dsimp only at *
    have hk0 : (0 : Int) ≤ (k : Int) := by omega
    go_wp2_with fail
    refine Calls.mono HCL.out ?_
    rintro e w1 ⟨bb, rfl, hbb, hx1⟩
    have HX1 := hid (HX.out.trans' hx1)
    cases bb with
    | true =>
      have H1 := hid (HIN.out (hbb.1 rfl))
      clear hbb hx1 HCL HX HT HMM HIN
      go_wp2
      go_ret
      exact ⟨k, rfl, ⟨fun _ => H1.out, fun _ => by omega⟩, HX1.out⟩
    | false =>
      have H1 := hid (show v ∉ L.take (k + 1) from fun h => by
        rcases HMM.out.1 h with h | h
        · exact HT.out h
        have := hbb.2 h.symm; cases this)
      clear hbb hx1 HCL HX HT HMM HIN
      go_wp2
      go_round
      case rel => exact ⟨k + 1, by omega, by go_num, HX1.out, H1.out⟩
      case measure => simp [intOf]; omega
  have H1 := hid (show v ∉ L from fun h => HT.out (by rw [List.take_of_length_le (by have := HN.out; omega)]; exact h))
  clear HT
  go_wp2
  go_ret
  exact ⟨-1, rfl, ⟨fun h => absurd h (by decide), fun h => absurd h H1.out⟩, HX.out⟩
def ConPost (L : List Wv) (u : Wv) (w : World) (e : Ending) (w' : World) : Prop := ∃ bb, e = .returned (.bool bb) ∧ (bb = true ↔ u ∈ L) ∧ Ext w w'
theorem conV_any {F : Nat → Prop} {B0 : Nat} {w : World} {val : Value} {L : List Wv} {B : Nat} {v : Wv} (h : VsR F B0 w val L) (hL : L.length ≤ 9223372036854775807) (hB : VcAt w B v) :
    Calls Tryz.prog 37 #[val, .func (.func 38) #[] #[.pointer (some ⟨B, 0, none⟩)]] w (ConPost L v w) := by
  have HI := hid (idxV_any h hL hB)
  obtain ⟨a0, c0, rfl⟩ := h.slice_
  clear h hB hL
  go_enter Tryz.func37, Tryz.ntmps37
  go_wp2_with fail
  refine Calls.mono HI.out ?_
  rintro e w1 ⟨r, rfl, hr, hx⟩
  have HR := hid hr
  have HX := hid hx
  clear hr hx
  go_wp2
  go_ret
  exact ⟨decide (0 ≤ r), rfl, (by rw [decide_eq_true_iff]; exact HR.out), HX.out⟩
end Go.Proofs.YtikjckdoldiddaaGreatDoor
