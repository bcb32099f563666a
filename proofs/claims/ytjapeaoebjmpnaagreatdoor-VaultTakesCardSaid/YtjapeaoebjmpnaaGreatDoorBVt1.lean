/- The walk of the reference's Intake.Take. Printed by gen_vt1.py. -/
import Derived.Test.YtjapeaoebjmpnaaGreatDoorBVl9
namespace Go.Proofs.YtjapeaoebjmpnaaGreatDoor
open Go.RowKit Go.Maps
set_option linter.unusedVariables false
set_option linter.unusedSimpArgs false
attribute [local go_sem] bmax2 bmin2 bmax_two bmin_two

def RInO (G : Nat → Prop) (w : World) (g : Nat) (s : IS) : Prop :=
  ∃ da dn dc, w.heap[g]? = some (.cells #[.int .i64 s.i, .int .i64 s.t, .slice da dn dc] 96 (0, 0)) ∧ In64 s.i ∧ In64 s.t ∧ ByF G w da dn dc s.d
theorem RInO.keep1 {F G : Nat → Prop} {w w' : World} {g : Nat} {s : IS} (h : RInO F w g s) (hf : ∀ k, F k → k < w.heap.size → G k ∧ w'.heap[k]? = w.heap[k]?) (hg : w'.heap[g]? = w.heap[g]?) : RInO G w' g s := by
  obtain ⟨da, dn, dc, h1, h2, h3, h4⟩ := h
  exact ⟨da, dn, dc, hg.trans h1, h2, h3, h4.keep hf⟩
theorem ByF.belowz {F : Nat → Prop} {w w' : World} {a : Option Addr} {n c B : Nat} {d : By} (h : ByF F w a n c d) (hB : B = w.heap.size) (hb : Below B w w') : ByF F w' a n c d := by subst hB; exact h.below hb
def RTakePost (G : Nat → Prop) (g : Nat) (r : (By × Bool × Int) × IS) (w : World) (e : Ending) (w' : World) : Prop :=
  ∃ a n c, e = .returned (.tuple #[.slice a n c, .bool r.1.2.1, .int .i64 r.1.2.2]) ∧ ByF (fun q => w.heap.size ≤ q ∧ q < w'.heap.size) w' a n c r.1.1 ∧
    RInO (fun q => G q ∨ (w.heap.size ≤ q ∧ q < w'.heap.size)) w' g r.2 ∧ Frm (fun q => q = g) w w'
theorem rtake_keep {G : Nat → Prop} {w W1 w2 w3 : World} {g jn jc : Nat} {ja : Option Addr} {i1 t1 : Int} {d : By} (hgl : g < w.heap.size) (hz : W1.heap.size = w.heap.size) (hf1 : Frm (fun q => q = g) w W1) (hx0 : Below w.heap.size W1 w2) (hi : In64 i1) (ht : In64 t1)
    (hb : ByF (fun q => w.heap.size ≤ q ∧ q < w2.heap.size) w2 ja jn jc d) (hS : SetG g 96 w2 w3 #[.int .i64 i1, .int .i64 t1, .slice ja jn jc]) :
    RInO (fun q => G q ∨ (w.heap.size ≤ q ∧ q < w3.heap.size)) w3 g ⟨i1, t1, d⟩ ∧ Frm (fun q => q = g) w w3 := by
  have hx : Ext W1 w2 := by unfold Ext; rw [hz]; exact hx0
  have hz2 := hx.size
  refine ⟨⟨ja, jn, jc, hS.obj, hi, ht, hb.keep fun q hq _ => ⟨.inr ⟨?_, ?_⟩, hS.frm.block q hq.2 ?_⟩⟩, ?_⟩
  · have := hq.1; omega
  · rw [hS.size]; exact hq.2
  · have := hq.1; omega
  · exact (hf1.trans (Frm.of_ext hx _) fun q hq => .inl hq).trans hS.frm fun q hq => .inl hq
theorem rtake_done {G : Nat → Prop} {w W1 w2 w3 : World} {g jn jc : Nat} {ja : Option Addr} {d : By} (hgl : g < w.heap.size) (hz : W1.heap.size = w.heap.size) (hf1 : Frm (fun q => q = g) w W1) (hx0 : Below w.heap.size W1 w2)
    (hb : ByF (fun q => w.heap.size ≤ q ∧ q < w2.heap.size) w2 ja jn jc d) (hS : SetG g 96 w2 w3 #[.int .i64 0, .int .i64 0, .slice none 0 0]) :
    ByF (fun q => w.heap.size ≤ q ∧ q < w3.heap.size) w3 ja jn jc d ∧ RInO (fun q => G q ∨ (w.heap.size ≤ q ∧ q < w3.heap.size)) w3 g ⟨0, 0, []⟩ ∧ Frm (fun q => q = g) w w3 := by
  have hx : Ext W1 w2 := by unfold Ext; rw [hz]; exact hx0
  have hz2 := hx.size
  refine ⟨hb.keep fun q hq _ => ⟨⟨?_, ?_⟩, hS.frm.block q hq.2 ?_⟩, ⟨none, 0, 0, hS.obj, ⟨by decide, by decide⟩, ⟨by decide, by decide⟩, ByF.nil_ _ _⟩, ?_⟩
  · have := hq.1; omega
  · rw [hS.size]; exact hq.2
  · have := hq.1; omega
  · exact (hf1.trans (Frm.of_ext hx _) fun q hq => .inl hq).trans hS.frm fun q hq => .inl hq

set_option maxRecDepth 100000 in
set_option maxHeartbeats 4000000 in
theorem RTake_any {F G : Nat → Prop} {w : World} {g : Nat} {s : IS} (h : RInO G w g s) (hG : ∀ q, G q → q ≠ g) {pa : Option Addr} {pn pc : Nat} {p : By} (hp : ByF F w pa pn pc p) (hF : ∀ q, F q → q ≠ g) (i t k : Int) (hi : In64 i) (ht : In64 t) (done : Bool) :
    Calls Tryz.prog 41 #[.pointer (some ⟨g, 0, none⟩), .int .i64 i, .int .i64 t, .int .i64 k, .slice pa pn pc, .bool done] w (RTakePost G g (s.take i t k p done) w) := by
  have h0 := h
  obtain ⟨da, dn, dc, h1, h2, h3, h4⟩ := h
  obtain ⟨⟨c0, c1, c2⟩, ⟨z0, z1, z2⟩, hgl⟩ := cells3 h1
  have hpn : pn = p.length := hp.1
  have hdn : dn = s.d.length := h4.1
  have HP47 := hid (show pn ≤ 140737488351232 from hp.2.2.1.2)
  have HD47 := hid (show dn ≤ 140737488351232 from h4.2.2.1.2)
  have HGL := hid hgl
  have HPN := hid hpn
  have HDN := hid hdn
  have H0 := hid h0
  have HI := hid hi
  have HT := hid ht
  have HG := hid hG
  have hpn6 : pn ≤ 1000000000000000 := by have := HP47.out; omega
  have hdn6 : dn ≤ 1000000000000000 := by have := HD47.out; omega
  obtain ⟨si, st, sd⟩ := s
  dsimp only at *
  by_cases hk : k = 0
  · subst hk
    have hS0 := (((SetG.start h1).step 0 (.int .i64 i)).step 1 (.int .i64 t)).step 2 (.slice none 0 0)
    have HP1 := hid (hp.keep (w' := (((w.setCell ⟨g, 0, none⟩ (.int .i64 i)).setCell ⟨g, 1, none⟩ (.int .i64 t)).setCell ⟨g, 2, none⟩ (.slice none 0 0))) (G := fun _ => True) fun q hq hl => ⟨trivial, hS0.frm.block q hl (hF q hq)⟩)
    have HD1 := hid (ByF.nil_ (fun _ => True) (((w.setCell ⟨g, 0, none⟩ (.int .i64 i)).setCell ⟨g, 1, none⟩ (.int .i64 t)).setCell ⟨g, 2, none⟩ (.slice none 0 0)))
    have HS0 := hid hS0
    obtain ⟨⟨y0, y1, y2⟩, ⟨x0, x1, x2⟩, hgl1⟩ := cells3 hS0.obj
    have hst : (IS.mk si st sd).set i t 0 = ⟨i, t, []⟩ := by unfold IS.set; rw [if_pos rfl]
    have HW1 := hid (rfl : w = w)
    clear hS0
    by_cases hbig : 262144 < (pn : Int)
    · have hres : (IS.mk si st sd).take i t 0 p done = (([], false, 4), ⟨i, t, ([] : By)⟩) := by
        unfold IS.take
        rw [if_neg (fun h => h.1 rfl), hst, if_pos (by dsimp only; rw [← HPN.out]; simpa using hbig)]
      rw [hres]
      have hd1 : decide (262144 < (pn : Int)) = true := by simpa using hbig
      clear h0 h1 h2 h3 h4 hp hF hG hi ht hpn hdn hst hres hbig
      go_enter Tryz.func41, Tryz.ntmps41
      go_wp2
      go_ret3
      refine ⟨none, 0, 0, rfl, ByF.nil_ _ _, ?_, HS0.out.frm⟩
      exact ⟨none, 0, 0, HS0.out.obj, HI.out, HT.out, ByF.nil_ _ _⟩
    · have hd1 : decide (262144 < (pn : Int)) = false := by simpa using hbig
      have hnb : ¬ (262144 - (([] : By).length : Int) < p.length) := by
        simp only [List.length_nil]; rw [← HPN.out]; omega
      have HSUM := hid (show 0 + pn ≤ 140737488351232 by omega)
      have HSM0 := hid (show 0 + 0 ≤ 140737488351232 by omega)
      cases done with
      | false =>
        have hres : (IS.mk si st sd).take i t 0 p false = (([], false, 0), ⟨i, t, ([] : By) ++ p⟩) := by
          unfold IS.take
          rw [if_neg (fun h => h.1 rfl), hst, if_neg hnb, if_pos rfl]
        rw [hres]
        clear h0 h1 h2 h3 h4 hp hF hG hi ht hpn hdn hst hres hbig hnb
        go_enter Tryz.func41, Tryz.ntmps41
        have hO0 := ownB_made (((w.setCell ⟨g, 0, none⟩ (.int .i64 i)).setCell ⟨g, 1, none⟩ (.int .i64 t)).setCell ⟨g, 2, none⟩ (.slice none 0 0)) w.heap.size (by simp)
        simp only [World.size_setCell] at hO0
        have HO0 := hid hO0
        have hE0 := ext_alloc (((w.setCell ⟨g, 0, none⟩ (.int .i64 i)).setCell ⟨g, 1, none⟩ (.int .i64 t)).setCell ⟨g, 2, none⟩ (.slice none 0 0)) (.cells #[] 5)
        unfold Ext at hE0
        simp only [World.size_setCell] at hE0
        have HE0 := hid hE0
        have HSZ := hid (show w.heap.size = ((((w.setCell ⟨g, 0, none⟩ (.int .i64 i)).setCell ⟨g, 1, none⟩ (.int .i64 t)).setCell ⟨g, 2, none⟩ (.slice none 0 0))).heap.size by simp)
        clear hO0 hE0
        go_wp2_with first
          | (at_builtin; refine wpList_appB rfl (.tmp 67) (.tmp 71) rfl w.heap.size _ 0 [] rfl HO0.out none 0 0 ([] : By) rfl (HD1.out.belowz HSZ.out HE0.out) HSM0.out (by simp) ?_; intro g1 c1 w1 hown1 hx1; have HO1 := hid (OwnB.zero hown1); have HX1 := hid (HE0.out.trans hx1); clear hown1 hx1)
          | (at_builtin; refine wpList_appB rfl (.tmp 72) (.tmp 73) rfl w.heap.size _ 0 ([] : By) rfl HO1.out pa pn pc p rfl (HP1.out.belowz HSZ.out HX1.out) HSUM.out (by have := HX1.out.size; have := HSZ.out; omega) ?_; intro g2 c2 w2 hown2 hx2; have HO2 := hid (OwnB.zero hown2); have HX2 := hid (HX1.out.trans hx2); clear hown2 hx2; have hbk := HX2.out.block g HGL.out; rw [HS0.out.obj] at hbk; have HBK := hid hbk; clear hbk; obtain ⟨⟨q0, q1, q2⟩, ⟨f0, f1, f2⟩, hl2⟩ := cells3 HBK.out)
        go_ret3
        have hE := rtake_keep (G := G) HGL.out HSZ.out.symm HS0.out.frm HX2.out HI.out HT.out (HO2.out.by_ (by have := HSUM.out; omega)) ((SetG.start HBK.out).step 2 (.slice (some ⟨g2, 0, none⟩) pn c2))
        exact ⟨none, 0, 0, rfl, ByF.nil_ _ _, hE.1, hE.2⟩
      | true =>
        have hres : (IS.mk si st sd).take i t 0 p true = ((([] : By) ++ p, true, 0), ⟨0, 0, []⟩) := by
          unfold IS.take
          rw [if_neg (fun h => h.1 rfl), hst, if_neg hnb, if_neg (by simp)]
        rw [hres]
        clear h0 h1 h2 h3 h4 hp hF hG hi ht hpn hdn hst hres hbig hnb
        go_enter Tryz.func41, Tryz.ntmps41
        have hO0 := ownB_made (((w.setCell ⟨g, 0, none⟩ (.int .i64 i)).setCell ⟨g, 1, none⟩ (.int .i64 t)).setCell ⟨g, 2, none⟩ (.slice none 0 0)) w.heap.size (by simp)
        simp only [World.size_setCell] at hO0
        have HO0 := hid hO0
        have hE0 := ext_alloc (((w.setCell ⟨g, 0, none⟩ (.int .i64 i)).setCell ⟨g, 1, none⟩ (.int .i64 t)).setCell ⟨g, 2, none⟩ (.slice none 0 0)) (.cells #[] 5)
        unfold Ext at hE0
        simp only [World.size_setCell] at hE0
        have HE0 := hid hE0
        have HSZ := hid (show w.heap.size = ((((w.setCell ⟨g, 0, none⟩ (.int .i64 i)).setCell ⟨g, 1, none⟩ (.int .i64 t)).setCell ⟨g, 2, none⟩ (.slice none 0 0))).heap.size by simp)
        clear hO0 hE0
        go_wp2_with first
          | (at_builtin; refine wpList_appB rfl (.tmp 67) (.tmp 71) rfl w.heap.size _ 0 [] rfl HO0.out none 0 0 ([] : By) rfl (HD1.out.belowz HSZ.out HE0.out) HSM0.out (by simp) ?_; intro g1 c1 w1 hown1 hx1; have HO1 := hid (OwnB.zero hown1); have HX1 := hid (HE0.out.trans hx1); clear hown1 hx1)
          | (at_builtin; refine wpList_appB rfl (.tmp 72) (.tmp 73) rfl w.heap.size _ 0 ([] : By) rfl HO1.out pa pn pc p rfl (HP1.out.belowz HSZ.out HX1.out) HSUM.out (by have := HX1.out.size; have := HSZ.out; omega) ?_; intro g2 c2 w2 hown2 hx2; have HO2 := hid (OwnB.zero hown2); have HX2 := hid (HX1.out.trans hx2); clear hown2 hx2; have hbk := HX2.out.block g HGL.out; rw [HS0.out.obj] at hbk; have HBK := hid hbk; clear hbk; obtain ⟨⟨q0, q1, q2⟩, ⟨f0, f1, f2⟩, hl2⟩ := cells3 HBK.out)
        go_ret3
        have hE := rtake_done (G := G) HGL.out HSZ.out.symm HS0.out.frm HX2.out (HO2.out.by_ (by have := HSUM.out; omega)) (((((SetG.start HBK.out).step 2 (.slice (some ⟨g2, 0, none⟩) pn c2)).step 0 (.int .i64 0)).step 1 (.int .i64 0)).step 2 (.slice none 0 0))
        exact ⟨some ⟨g2, 0, none⟩, pn, c2, rfl, hE.1, hE.2.1, hE.2.2⟩
  · have hkb : (k == 0) = false := by simpa using hk
    by_cases hm1 : i = si
    · subst hm1
      by_cases hm2 : t = st
      · subst hm2
        by_cases hm3 : k = (sd.length : Int)
        · have hb3 : (k != (dn : Int)) = false := by rw [HDN.out, hm3]; simp
          have HP1 := hid (hp.more (G := fun _ => True) fun _ _ => trivial)
          have HD1 := hid (h4.more (G := fun _ => True) fun _ _ => trivial)
          have HS0 := hid (SetG.start h1)
          have hst : (IS.mk i t sd).set i t k = ⟨i, t, sd⟩ := by unfold IS.set; rw [if_neg hk]
          have HW1 := hid (rfl : w = w)
          by_cases hbig : 262144 < (pn : Int)
          · have hres : (IS.mk i t sd).take i t k p done = (([], false, 4), ⟨i, t, sd⟩) := by
              unfold IS.take
              rw [if_neg (by rintro ⟨-, h⟩; rcases h with h | h | h; exact h rfl; exact h rfl; exact h hm3), hst, if_pos (by dsimp only; rw [← HPN.out]; omega)]
            rw [hres]
            have hd1 : decide (262144 < (pn : Int)) = true := by simpa using hbig
            clear h0 h1 h2 h3 h4 hp hF hG hi ht hpn hdn hst hm3 hres hbig
            go_enter Tryz.func41, Tryz.ntmps41
            go_wp2
            go_ret3
            refine ⟨none, 0, 0, rfl, ByF.nil_ _ _, ?_, Frm.refl _ _⟩
            exact H0.out.keep1 (fun q hq _ => ⟨.inl hq, rfl⟩) rfl
          · by_cases hsum : 262144 < (dn : Int) + (pn : Int)
            · have hres : (IS.mk i t sd).take i t k p done = (([], false, 4), ⟨i, t, sd⟩) := by
                unfold IS.take
                rw [if_neg (by rintro ⟨-, h⟩; rcases h with h | h | h; exact h rfl; exact h rfl; exact h hm3), hst, if_pos (by dsimp only; rw [← HPN.out, ← HDN.out]; omega)]
              rw [hres]
              have hd1 : decide (262144 < (pn : Int)) = false := by simpa using hbig
              have hd2 : decide (262144 < (dn : Int) + (pn : Int)) = true := by simpa using hsum
              clear h0 h1 h2 h3 h4 hp hF hG hi ht hpn hdn hst hm3 hres hbig hsum
              go_enter Tryz.func41, Tryz.ntmps41
              go_wp2
              go_ret3
              refine ⟨none, 0, 0, rfl, ByF.nil_ _ _, ?_, Frm.refl _ _⟩
              exact H0.out.keep1 (fun q hq _ => ⟨.inl hq, rfl⟩) rfl
            · have hd1 : decide (262144 < (pn : Int)) = false := by simpa using hbig
              have hd2 : decide (262144 < (dn : Int) + (pn : Int)) = false := by simpa using hsum
              have hnb : ¬ (262144 - (sd.length : Int) < p.length) := by
                rw [← HPN.out, ← HDN.out]; omega
              have HSUM := hid (show dn + pn ≤ 140737488351232 by omega)
              have HSM0 := hid (show 0 + dn ≤ 140737488351232 by omega)
              cases done with
              | false =>
                have hres : (IS.mk i t sd).take i t k p false = (([], false, 0), ⟨i, t, sd ++ p⟩) := by
                  unfold IS.take
                  rw [if_neg (by rintro ⟨-, h⟩; rcases h with h | h | h; exact h rfl; exact h rfl; exact h hm3), hst, if_neg hnb, if_pos rfl]
                rw [hres]
                clear h0 h1 h2 h3 h4 hp hF hG hi ht hpn hdn hst hm3 hres hbig hnb hsum
                go_enter Tryz.func41, Tryz.ntmps41
                have hO0 := ownB_made w w.heap.size (by simp)
                skip
                have HO0 := hid hO0
                have hE0 := ext_alloc w (.cells #[] 5)
                unfold Ext at hE0
                skip
                have HE0 := hid hE0
                have HSZ := hid (show w.heap.size = (w).heap.size by simp)
                clear hO0 hE0
                go_wp2_with first
                  | (at_builtin; refine wpList_appB rfl (.tmp 67) (.tmp 71) rfl w.heap.size _ 0 [] rfl HO0.out da dn dc sd rfl (HD1.out.belowz HSZ.out HE0.out) HSM0.out (by simp) ?_; intro g1 c1 w1 hown1 hx1; have HO1 := hid (OwnB.zero hown1); have HX1 := hid (HE0.out.trans hx1); clear hown1 hx1)
                  | (at_builtin; refine wpList_appB rfl (.tmp 72) (.tmp 73) rfl w.heap.size _ dn sd rfl HO1.out pa pn pc p rfl (HP1.out.belowz HSZ.out HX1.out) HSUM.out (by have := HX1.out.size; have := HSZ.out; omega) ?_; intro g2 c2 w2 hown2 hx2; have HO2 := hid hown2; have HX2 := hid (HX1.out.trans hx2); clear hown2 hx2; have hbk := HX2.out.block g HGL.out; rw [HS0.out.obj] at hbk; have HBK := hid hbk; clear hbk; obtain ⟨⟨q0, q1, q2⟩, ⟨f0, f1, f2⟩, hl2⟩ := cells3 HBK.out)
                go_ret3
                have hE := rtake_keep (G := G) HGL.out rfl HS0.out.frm HX2.out HI.out HT.out (HO2.out.by_ (by have := HSUM.out; omega)) ((SetG.start HBK.out).step 2 (.slice (some ⟨g2, 0, none⟩) (dn + pn) c2))
                exact ⟨none, 0, 0, rfl, ByF.nil_ _ _, hE.1, hE.2⟩
              | true =>
                have hres : (IS.mk i t sd).take i t k p true = ((sd ++ p, true, 0), ⟨0, 0, []⟩) := by
                  unfold IS.take
                  rw [if_neg (by rintro ⟨-, h⟩; rcases h with h | h | h; exact h rfl; exact h rfl; exact h hm3), hst, if_neg hnb, if_neg (by simp)]
                rw [hres]
                clear h0 h1 h2 h3 h4 hp hF hG hi ht hpn hdn hst hm3 hres hbig hnb hsum
                go_enter Tryz.func41, Tryz.ntmps41
                have hO0 := ownB_made w w.heap.size (by simp)
                skip
                have HO0 := hid hO0
                have hE0 := ext_alloc w (.cells #[] 5)
                unfold Ext at hE0
                skip
                have HE0 := hid hE0
                have HSZ := hid (show w.heap.size = (w).heap.size by simp)
                clear hO0 hE0
                go_wp2_with first
                  | (at_builtin; refine wpList_appB rfl (.tmp 67) (.tmp 71) rfl w.heap.size _ 0 [] rfl HO0.out da dn dc sd rfl (HD1.out.belowz HSZ.out HE0.out) HSM0.out (by simp) ?_; intro g1 c1 w1 hown1 hx1; have HO1 := hid (OwnB.zero hown1); have HX1 := hid (HE0.out.trans hx1); clear hown1 hx1)
                  | (at_builtin; refine wpList_appB rfl (.tmp 72) (.tmp 73) rfl w.heap.size _ dn sd rfl HO1.out pa pn pc p rfl (HP1.out.belowz HSZ.out HX1.out) HSUM.out (by have := HX1.out.size; have := HSZ.out; omega) ?_; intro g2 c2 w2 hown2 hx2; have HO2 := hid hown2; have HX2 := hid (HX1.out.trans hx2); clear hown2 hx2; have hbk := HX2.out.block g HGL.out; rw [HS0.out.obj] at hbk; have HBK := hid hbk; clear hbk; obtain ⟨⟨q0, q1, q2⟩, ⟨f0, f1, f2⟩, hl2⟩ := cells3 HBK.out)
                go_ret3
                have hE := rtake_done (G := G) HGL.out rfl HS0.out.frm HX2.out (HO2.out.by_ (by have := HSUM.out; omega)) (((((SetG.start HBK.out).step 2 (.slice (some ⟨g2, 0, none⟩) (dn + pn) c2)).step 0 (.int .i64 0)).step 1 (.int .i64 0)).step 2 (.slice none 0 0))
                exact ⟨some ⟨g2, 0, none⟩, (dn + pn), c2, rfl, hE.1, hE.2.1, hE.2.2⟩
        · have hb3 : (k != (dn : Int)) = true := by rw [HDN.out]; simpa using hm3
          rw [IS.take_bad (s := (IS.mk i t sd)) hk (.inr (.inr hm3))]
          skip
          clear h0 h1 h2 h3 h4 hp hF hG hi ht hpn hdn hk hm3
          go_enter Tryz.func41, Tryz.ntmps41
          go_wp2
          go_ret3
          exact ⟨none, 0, 0, rfl, ByF.nil_ _ _, H0.out.keep1 (fun q hq _ => ⟨.inl hq, rfl⟩) rfl, Frm.refl _ _⟩
      · have hb3 : (st != t) = true := by simpa using fun e : st = t => hm2 e.symm
        rw [IS.take_bad (s := (IS.mk i st sd)) hk (.inr (.inl hm2))]
        skip
        clear h0 h1 h2 h3 h4 hp hF hG hi ht hpn hdn hk hm2
        go_enter Tryz.func41, Tryz.ntmps41
        go_wp2
        go_ret3
        exact ⟨none, 0, 0, rfl, ByF.nil_ _ _, H0.out.keep1 (fun q hq _ => ⟨.inl hq, rfl⟩) rfl, Frm.refl _ _⟩
    · have hb3 : (si != i) = true := by simpa using fun e : si = i => hm1 e.symm
      rw [IS.take_bad (s := (IS.mk si st sd)) hk (.inl hm1)]
      skip
      clear h0 h1 h2 h3 h4 hp hF hG hi ht hpn hdn hk hm1
      go_enter Tryz.func41, Tryz.ntmps41
      go_wp2
      go_ret3
      exact ⟨none, 0, 0, rfl, ByF.nil_ _ _, H0.out.keep1 (fun q hq _ => ⟨.inl hq, rfl⟩) rfl, Frm.refl _ _⟩
end Go.Proofs.YtjapeaoebjmpnaaGreatDoor
