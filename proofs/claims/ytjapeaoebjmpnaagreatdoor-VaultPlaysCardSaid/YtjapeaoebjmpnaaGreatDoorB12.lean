/- Vaults in memory; the walks of made, Have, Last, Piece. -/
import Derived.Test.YtjapeaoebjmpnaaGreatDoorB10
import Derived.Test.YtjapeaoebjmpnaaGreatDoorB11
namespace Go.Proofs.YtjapeaoebjmpnaaGreatDoor
open Go.RowKit Go.Maps
set_option linter.unusedVariables false
set_option linter.unusedSimpArgs false
attribute [local go_sem] bmax2 bmin2 bmax_two bmin_two

/-- A vault's own block. -/
def VaO (G : Nat → Prop) (w : World) (g : Nat) (s : Sn) (sm : Bool) (dg : Nat) : Prop :=
  ∃ va vn vc da dn dc, w.heap[g]? = some (.cells #[.int .i64 s.i, .int .i64 s.t, .slice va vn vc, .slice da dn dc, .bool sm, .pointer (some ⟨dg, 0, none⟩)] 72 (0, 0)) ∧
    SnV G w (.agg #[.int .i64 s.i, .int .i64 s.t, .slice va vn vc, .slice da dn dc]) s
theorem VaO.keep {F G : Nat → Prop} {w w' : World} {g dg : Nat} {s : Sn} {sm : Bool} (h : VaO F w g s sm dg) (hg : w'.heap[g]? = w.heap[g]?) (hf : ∀ k, F k → k < w.heap.size → G k ∧ w'.heap[k]? = w.heap[k]?) : VaO G w' g s sm dg := by
  obtain ⟨va, vn, vc, da, dn, dc, h1, h2⟩ := h
  exact ⟨va, vn, vc, da, dn, dc, hg.trans h1, h2.keep hf⟩
theorem VaO.lt {G : Nat → Prop} {w : World} {g dg : Nat} {s : Sn} {sm : Bool} (h : VaO G w g s sm dg) : g < w.heap.size := by
  obtain ⟨va, vn, vc, da, dn, dc, h1, h2⟩ := h
  exact (Array.getElem?_eq_some_iff.1 h1).1
theorem VaO.below {G : Nat → Prop} {w w' : World} {g dg : Nat} {s : Sn} {sm : Bool} (h : VaO G w g s sm dg) (hx : Ext w w') : VaO G w' g s sm dg := h.keep (hx.block g h.lt) fun k hk hl => ⟨hk, hx.block k hl⟩
theorem cells6 {W : World} {b : Nat} {x0 x1 x2 x3 x4 x5 : Value} {t : TypeId} (h : W.heap[b]? = some (.cells #[x0, x1, x2, x3, x4, x5] t (0, 0))) :
    (W.cell? ⟨b, 0, none⟩ = some x0 ∧ W.cell? ⟨b, 1, none⟩ = some x1 ∧ W.cell? ⟨b, 2, none⟩ = some x2 ∧ W.cell? ⟨b, 3, none⟩ = some x3 ∧ W.cell? ⟨b, 4, none⟩ = some x4 ∧ W.cell? ⟨b, 5, none⟩ = some x5) ∧
    (W.frozen? ⟨b, 0, none⟩ = false ∧ W.frozen? ⟨b, 1, none⟩ = false ∧ W.frozen? ⟨b, 2, none⟩ = false ∧ W.frozen? ⟨b, 3, none⟩ = false ∧ W.frozen? ⟨b, 4, none⟩ = false ∧ W.frozen? ⟨b, 5, none⟩ = false) ∧ b < W.heap.size := by
  refine ⟨⟨?_, ?_, ?_, ?_, ?_, ?_⟩, ⟨?_, ?_, ?_, ?_, ?_, ?_⟩, (Array.getElem?_eq_some_iff.1 h).1⟩
  all_goals first
    | (simp [World.cell?, h]; done)
    | simp [World.frozen?, h]

set_option maxHeartbeats 400000 in
theorem vmade_any {w : World} {g : Nat} {p : Option Addr} (h5 : w.cell? ⟨g, 5, none⟩ = some (.pointer p)) : Calls Tryz.prog 45 #[.pointer (some ⟨g, 0, none⟩)] w fun e w' => e = .returned (.bool p.isSome) ∧ w = w' := by
  cases p
  all_goals
    go_enter Tryz.func45, Tryz.ntmps45
    go_wp2
    go_ret
    exact ⟨rfl, rfl⟩

/-! ### an intake -/
theorem cells3 {W : World} {b : Nat} {x0 x1 x2 : Value} {t : TypeId} (h : W.heap[b]? = some (.cells #[x0, x1, x2] t (0, 0))) :
    (W.cell? ⟨b, 0, none⟩ = some x0 ∧ W.cell? ⟨b, 1, none⟩ = some x1 ∧ W.cell? ⟨b, 2, none⟩ = some x2) ∧
    (W.frozen? ⟨b, 0, none⟩ = false ∧ W.frozen? ⟨b, 1, none⟩ = false ∧ W.frozen? ⟨b, 2, none⟩ = false) ∧ b < W.heap.size := by
  refine ⟨⟨?_, ?_, ?_⟩, ⟨?_, ?_, ?_⟩, (Array.getElem?_eq_some_iff.1 h).1⟩
  all_goals first
    | (simp [World.cell?, h]; done)
    | simp [World.frozen?, h]
end Go.Proofs.YtjapeaoebjmpnaaGreatDoor

/- The walk of Last. -/
namespace Go.Proofs.YtjapeaoebjmpnaaGreatDoor
open Go.RowKit Go.Maps
set_option linter.unusedVariables false
set_option linter.unusedSimpArgs false
attribute [local go_sem] bmax2 bmin2 bmax_two bmin_two

def LastPost (s : Sn) (sm : Bool) (w : World) (e : Ending) (w' : World) : Prop :=
  ∃ v, e = .returned (.tuple #[v, .bool sm]) ∧ SnV (fun q => w.heap.size ≤ q ∧ q < w'.heap.size) w' v s ∧ Ext w w'
theorem SnV.zero (F : Nat → Prop) (w : World) : SnV F w snZero sn0 :=
  ⟨none, 0, 0, none, 0, 0, rfl, ⟨by decide, by decide⟩, ⟨by decide, by decide⟩, IsF.nil_ _ _, ByF.nil_ _ _⟩
theorem last_ret {w W : World} {s : Sn} {sm : Bool} {tmps : Array Value} {x0 x1 x2 x3 y0 y1 y2 y3 : Value} (hp : tmps.getD 2 undef = .pointer (some ⟨w.heap.size, 0, none⟩)) (hu : tmps.getD 3 undef = .bool sm)
    (hq : W.heap[w.heap.size]? = some (.cells #[x0, x1, x2, x3] 25 (0, 0))) (hx : Ext w W) (hs : SnV (fun q => w.heap.size < q ∧ q < W.heap.size) W (.agg #[y0, y1, y2, y3]) s) :
    bodyPost Tryz.prog Tryz.f18 (LastPost s sm w) .ret { tmps := tmps, defers := [] } ((((W.setCell ⟨w.heap.size, 0, none⟩ y0).setCell ⟨w.heap.size, 1, none⟩ y1).setCell ⟨w.heap.size, 2, none⟩ y2).setCell ⟨w.heap.size, 3, none⟩ y3) := by
  obtain ⟨j1, j2, j3, j4⟩ := four_set hq y0 y1 y2 y3
  refine bodyPost_ret_by (results_cell_row_tmp rfl _ _ w.heap.size _ _ _ (Tryz.prog.underlying 25).get! hp j1 (by kernel_rfl) (by kernel_rfl) (by kernel_rfl)) rfl ⟨_, by rw [hu], ?_, hx.trans (j4 _ (Nat.le_refl _))⟩
  exact hs.keep fun q hq hl => ⟨⟨by omega, by rw [j3]; exact hl⟩, j2 q (by omega)⟩

set_option maxRecDepth 100000 in
set_option maxHeartbeats 4000000 in
theorem Last_any {G : Nat → Prop} {w : World} {g dg : Nat} {s : Sn} {sm : Bool} (h : VaO G w g s sm dg) :
    Calls Tryz.prog 18 #[.pointer (some ⟨g, 0, none⟩)] w (LastPost s sm w) := by
  obtain ⟨va, vn, vc, da, dn, dc, h1, h2⟩ := h
  have hg : g < w.heap.size := (Array.getElem?_eq_some_iff.1 h1).1
  have HCO := hid (fun W (hW : Ext w W) => copied_sn (h2.below hW))
  have HG := hid (fun W (hW : Ext w W) => cells6 ((hW.block g hg).trans h1))
  clear h1 h2
  go_enter Tryz.func18, Tryz.ntmps18
  go_wp2_with fail
  generalize hW0 : w.alloc (.cells #[.int .i64 0, .int .i64 0, .slice none 0 0, .slice none 0 0] 25) = W0
  have hx0 : Ext w W0 := by rw [← hW0]; exact ext_alloc _ _
  have hq0 : W0.heap[w.heap.size]? = some (.cells #[.int .i64 0, .int .i64 0, .slice none 0 0, .slice none 0 0] 25 (0, 0)) := by rw [← hW0]; exact heap_alloc_new _ _
  have hz0 : W0.heap.size = w.heap.size + 1 := by rw [← hW0]; simp
  have HX0 := hid hx0
  have HQ0 := hid hq0
  have HZ0 := hid hz0
  clear hW0 hx0 hq0 hz0
  refine Calls.mono (vmade_any (HG.out W0 HX0.out).1.2.2.2.2.2) ?_
  rintro e w1 ⟨rfl, rfl⟩
  go_wp2
  have y0 : Ext w W0.drew := HX0.out.trans' (ext_drew _)
  refine wp_region_held_drew (S := fun W => Ext w W) (by kernel_rfl) y0 (fun hH => ?_)
  refine hr_ 0 (.pointer (some ⟨g, 0, none⟩)) rfl y0 (fun W hW => ?_) ?_
  · (clear hW; go_simp)
  try simp only [Act.put, sA_, s0_, sS_]
  refine hr_ 1 (.pointer (some ⟨g, 0, none⟩)) rfl y0 (fun W hW => ?_) ?_
  · (clear hW; go_simp)
  try simp only [Act.put, sA_, s0_, sS_]
  refine hr_ 2 (.pointer (some ⟨g, 0, none⟩)) rfl y0 (fun W hW => ?_) ?_
  · (clear hW; go_simp)
  try simp only [Act.put, sA_, s0_, sS_]
  refine hr_ 3 (.pointer (some ⟨g, 0, none⟩)) rfl y0 (fun W hW => ?_) ?_
  · (clear hW; go_simp)
  try simp only [Act.put, sA_, s0_, sS_]
  refine hr_ 4 (.agg #[.int .i64 s.i, .int .i64 s.t, .slice va vn vc, .slice da dn dc]) rfl y0 (fun W hW => ?_) ?_
  · (obtain ⟨⟨q0, q1, q2, q3, q4, q5⟩, -, -⟩ := HG.out W hW; clear hW; go_simp)
  try simp only [Act.put, sA_, s0_, sS_]
  refine hr_ 6 (.pointer (some ⟨g, 0, none⟩)) rfl y0 (fun W hW => ?_) ?_
  · (clear hW; go_simp)
  try simp only [Act.put, sA_, s0_, sS_]
  refine hr_ 7 (.pointer (some ⟨g, 0, none⟩)) rfl y0 (fun W hW => ?_) ?_
  · (clear hW; go_simp)
  try simp only [Act.put, sA_, s0_, sS_]
  refine hr_ 8 (.pointer (some ⟨g, 0, none⟩)) rfl y0 (fun W hW => ?_) ?_
  · (clear hW; go_simp)
  try simp only [Act.put, sA_, s0_, sS_]
  refine hr_ 9 (.pointer (some ⟨g, 4, none⟩)) rfl y0 (fun W hW => ?_) ?_
  · (clear hW; go_simp)
  try simp only [Act.put, sA_, s0_, sS_]
  refine hr_ 10 (.bool sm) rfl y0 (fun W hW => ?_) ?_
  · (obtain ⟨⟨q0, q1, q2, q3, q4, q5⟩, -, -⟩ := HG.out W hW; clear hW; go_simp)
  try simp only [Act.put, sA_, s0_, sS_]
  refine hc_ 5 rfl (fun K hK => ?_)
  go_simp
  go_at_call 52
  refine Calls.mono (HCO.out _ y0) ?_
  rintro e w2 ⟨v, rfl, hsv, hx2⟩
  have HX2 := hid ((ext_drew W0).trans' hx2)
  have y1 : Ext w w2 := HX0.out.trans' HX2.out
  have HQ2 := hid ((HX2.out.block w.heap.size (by have := HZ0.out; omega)).trans HQ0.out)
  obtain ⟨va', vn', vc', da', dn', dc', rfl, k1, k2, k3, k4⟩ := hsv
  have HSV := hid (show SnV (fun q => w.heap.size < q ∧ q < w2.heap.size) w2 (.agg #[.int .i64 s.i, .int .i64 s.t, .slice va' vn' vc', .slice da' dn' dc']) s from
    SnV.more ⟨va', vn', vc', da', dn', dc', rfl, k1, k2, k3, k4⟩ fun q hq => by have h3 := hq.1; have h4 := HZ0.out; simp at h3; exact ⟨by omega, hq.2⟩)
  clear k1 k2 k3 k4 hx2
  go_wp2_with fail
  refine hK.out _ _ y1 (fun hH2 => ?_)
  clear hK K hH
  try simp only [Act.put, sA_, s0_, sS_]
  refine hc_ 11 rfl (fun K hK => ?_)
  obtain ⟨⟨q0, q1, q2, q3⟩, ⟨f0, f1, f2, f3⟩, hl⟩ := cells4 HQ2.out
  go_simp
  refine hK.out _ _ ?_ (fun hH3 => ?_)
  · exact y1.trans ((four_set HQ2.out _ _ _ _).2.2.2 _ (Nat.le_refl _))
  clear hK K
  try simp only [Act.put, sA_, s0_, sS_]
  refine held_run (i := 12) (v := .bool sm) rfl (by kernel_rfl) (by kernel_rfl) (by kernel_rfl) (fun _ _ _ h => h) (by rfl) hH3 (fun W hW => ?_) ?_
  · (clear hW; go_simp)
  try simp only [Act.put, sA_, s0_, sS_]
  refine wpAnyH_done (by kernel_rfl) ?_ _
  go_wp2
  exact last_ret rfl rfl HQ2.out y1 HSV.out
end Go.Proofs.YtjapeaoebjmpnaaGreatDoor

/- The walk of Piece. -/
namespace Go.Proofs.YtjapeaoebjmpnaaGreatDoor
open Go.RowKit Go.Maps
set_option linter.unusedVariables false
set_option linter.unusedSimpArgs false
attribute [local go_sem] bmax2 bmin2 bmax_two bmin_two

def PiecePost (r : By × Bool × Int) (w : World) (e : Ending) (w' : World) : Prop :=
  ∃ a n c, e = .returned (.tuple #[.slice a n c, .bool r.2.1, .int .i64 r.2.2]) ∧ ByF (fun q => w.heap.size ≤ q ∧ q < w'.heap.size) w' a n c r.1 ∧ Ext w w'
set_option maxRecDepth 100000 in
set_option maxHeartbeats 4000000 in
theorem Piece_any {G : Nat → Prop} {w : World} {g dg : Nat} {v : VS} (h : VaO G w g v.s v.some dg) (k : Int) :
    Calls Tryz.prog 36 #[.pointer (some ⟨g, 0, none⟩), .int .i64 k] w (PiecePost (pieceS v k) w) := by
  obtain ⟨va, vn, vc, da, dn, dc, h1, h2⟩ := h
  obtain ⟨⟨c0, c1, c2, c3, c4, c5⟩, -, hgl⟩ := cells6 h1
  obtain ⟨va', vn', vc', da', dn', dc', he, k1, k2, k3, hd⟩ := h2
  injection he with he
  injection he with he
  injection he with _ he
  injection he with _ he
  injection he with _ he
  injection he with he _
  injection he with e1 e2 e3
  subst e1; subst e2; subst e3
  have HM := hid (vmade_any c5)
  have hdn : dn = v.s.d.length := hd.1
  have HD := hid hd
  have HDN := hid hdn
  clear h1 hd hdn k1 k2 k3
  by_cases hs : v.some = false
  · have e : pieceS v k = ([], false, 60) := by unfold pieceS; rw [if_pos hs]
    rw [e]
    rw [hs] at c4
    clear e hs
    go_enter Tryz.func36, Tryz.ntmps36
    go_wp2_with fail
    refine Calls.mono HM.out ?_
    rintro e w1 ⟨rfl, rfl⟩
    go_wp2
    go_ret3
    exact ⟨none, 0, 0, rfl, ByF.nil_ _ _, Below.refl _ _⟩
  have hs1 : v.some = true := by simpa using hs
  rw [hs1] at c4
  by_cases hk : k < 0 ∨ (dn : Int) < k
  · have e : pieceS v k = ([], false, 61) := by unfold pieceS; rw [if_neg hs, if_pos (by rw [← HDN.out]; exact hk)]
    rw [e]
    clear e hs hs1
    by_cases hk0 : k < 0
    · have hb : decide (k < 0) = true := by simpa using hk0
      clear hk
      go_enter Tryz.func36, Tryz.ntmps36
      go_wp2_with fail
      refine Calls.mono HM.out ?_
      rintro e w1 ⟨rfl, rfl⟩
      go_wp2
      go_ret3
      exact ⟨none, 0, 0, rfl, ByF.nil_ _ _, Below.refl _ _⟩
    have hk1 : (dn : Int) < k := by omega
    have hb : decide (k < 0) = false := by simpa using hk0
    have hb1 : decide ((dn : Int) < k) = true := by simpa using hk1
    clear hk hk0
    go_enter Tryz.func36, Tryz.ntmps36
    go_wp2_with fail
    refine Calls.mono HM.out ?_
    rintro e w1 ⟨rfl, rfl⟩
    go_wp2
    go_ret3
    exact ⟨none, 0, 0, rfl, ByF.nil_ _ _, Below.refl _ _⟩
  have e : pieceS v k = ((v.s.d.drop k.toNat).take 512, decide ((v.s.d.drop k.toNat).length ≤ 512), 0) := by unfold pieceS; rw [if_neg hs, if_neg (by rw [← HDN.out]; exact hk)]
  rw [e]
  have hk0 : decide (k < 0) = false := by simp; omega
  have hk1 : decide ((dn : Int) < k) = false := by simp; omega
  have hka : ¬ (k < 0) := by omega
  have hkb : ¬ ((dn : Int) < k) := by omega
  obtain ⟨a4, m4, k4, u1, u2, hb4⟩ := cut_l HD.out k (by omega) (by omega)
  obtain ⟨rest, hrest⟩ : ∃ rest, rest = v.s.d.drop k.toNat := ⟨_, rfl⟩
  rw [← hrest] at hb4 ⊢
  have hm4 : m4 = rest.length := hb4.1
  clear e hs hs1 hk hrest
  by_cases hle : m4 ≤ 512
  · obtain ⟨a5, m5, k5, u3, u4, hb5⟩ := cut_h hb4 (m4 : Int) (by omega) (by omega)
    have e5 : rest.take (m4 : Int).toNat = rest.take 512 := by rw [List.take_of_length_le (by omega), List.take_of_length_le (by omega)]
    rw [e5] at hb5
    have HC := hid (cloneB_any hb5)
    have hd1 : decide (rest.length ≤ 512) = true := by simp; omega
    rw [hd1]
    have hmin : min (m4 : Int) 512 = m4 := by omega
    have hmin2 : ¬ ((512 : Int) < m4) := by omega
    have hle2 : (m4 : Int) ≤ 512 := by omega
    clear e5 hd1 hm4 hb4 hb5
    go_enter Tryz.func36, Tryz.ntmps36
    go_wp2_with fail
    refine Calls.mono HM.out ?_
    rintro e w1 ⟨rfl, rfl⟩
    go_wp2_with fail
    refine Calls.mono HC.out ?_
    rintro e w2 ⟨a6, m6, k6, rfl, hb6, hx6⟩
    have HB6 := hid hb6
    have HX6 := hid hx6
    clear hb6 hx6
    go_wp2
    go_ret3
    exact ⟨a6, m6, k6, rfl, HB6.out, HX6.out⟩
  obtain ⟨a5, m5, k5, u3, u4, hb5⟩ := cut_h hb4 512 (by omega) (by omega)
  have HC := hid (cloneB_any hb5)
  have hd1 : decide (rest.length ≤ 512) = false := by simp; omega
  rw [hd1]
  have hmin : min (m4 : Int) 512 = 512 := by omega
  have hmin2 : ((512 : Int) < m4) := by omega
  have hle2 : ¬ (m4 : Int) ≤ 512 := by omega
  have hbq : ((512 : Int) == (m4 : Int)) = false := by simp; omega
  clear hd1 hm4 hb4 hb5 hle
  go_enter Tryz.func36, Tryz.ntmps36
  go_wp2_with fail
  refine Calls.mono HM.out ?_
  rintro e w1 ⟨rfl, rfl⟩
  go_wp2_with fail
  refine Calls.mono HC.out ?_
  rintro e w2 ⟨a6, m6, k6, rfl, hb6, hx6⟩
  have HB6 := hid hb6
  have HX6 := hid hx6
  clear hb6 hx6
  go_wp2
  go_ret3
  exact ⟨a6, m6, k6, rfl, HB6.out, HX6.out⟩
end Go.Proofs.YtjapeaoebjmpnaaGreatDoor
